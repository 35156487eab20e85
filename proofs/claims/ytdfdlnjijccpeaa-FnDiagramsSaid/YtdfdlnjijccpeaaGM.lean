/-
  Plain laws of products of diagrams are proved by tables: brackets, loops, flips, traces and hooks.
  They hold for diagrams of at most five strands, and for hooks of at most eight.
-/
import Derived.Test.YtdfdlnjijccpeaaC77
import Derived.Test.YtdfdlnjijccpeaaC22
import Derived.Test.YtdfdlnjijccpeaaC7
import Derived.Test.YtdfdlnjijccpeaaC78
import Derived.Test.YtdfdlnjijccpeaaC25
import Derived.Test.YtdfdlnjijccpeaaGZ
set_option linter.unusedVariables false
set_option linter.unusedSimpArgs false
namespace Go.Proofs.Ytdfdlnjijccpeaa
open Go.Proofs.Ytdfdlnjijccpeaa.Ab Go.Proofs.Ytdfdlnjijccpeaa.Pl

noncomputable def upTo (p : Nat → Bool) (k : Nat) : Bool := @Nat.rec (fun _ => Bool) true (fun i ih => bif p i then ih else false) k
theorem upTo_all {p : Nat → Bool} : ∀ {k : Nat}, upTo p k = true → ∀ i, i < k → p i = true
  | 0, _, i, hi => by omega
  | k + 1, h, i, hi => by
    have h : (bif p k then upTo p k else false) = true := h
    cases e : p k with
    | false => rw [e] at h; cases h
    | true =>
      rw [e] at h
      by_cases c : i = k
      · rw [c]; exact e
      · exact upTo_all h i (by omega)

/-! the diagrams in order, and tables of what comes of them -/
def diaR : Nat → List (List Int)
  | 1 => [[1, 0]]
  | 2 => [[3, 2, 1, 0], [1, 0, 3, 2]]
  | 3 => [[5, 4, 3, 2, 1, 0], [5, 2, 1, 4, 3, 0], [3, 2, 1, 0, 5, 4], [1, 0, 5, 4, 3, 2], [1, 0, 3, 2, 5, 4]]
  | 4 => [[7, 6, 5, 4, 3, 2, 1, 0], [7, 6, 3, 2, 5, 4, 1, 0], [7, 4, 3, 2, 1, 6, 5, 0], [5, 4, 3, 2, 1, 0, 7, 6], [7, 2, 1, 6, 5, 4, 3, 0], [7, 2, 1, 4, 3, 6, 5, 0], [5, 2, 1, 4, 3, 0, 7, 6], [3, 2, 1, 0, 7, 6, 5, 4], [3, 2, 1, 0, 5, 4, 7, 6], [1, 0, 7, 6, 5, 4, 3, 2], [1, 0, 7, 4, 3, 6, 5, 2], [1, 0, 5, 4, 3, 2, 7, 6], [1, 0, 3, 2, 7, 6, 5, 4], [1, 0, 3, 2, 5, 4, 7, 6]]
  | 5 => [[9, 8, 7, 6, 5, 4, 3, 2, 1, 0], [9, 8, 7, 4, 3, 6, 5, 2, 1, 0], [9, 8, 5, 4, 3, 2, 7, 6, 1, 0], [9, 6, 5, 4, 3, 2, 1, 8, 7, 0], [7, 6, 5, 4, 3, 2, 1, 0, 9, 8], [9, 8, 3, 2, 7, 6, 5, 4, 1, 0], [9, 8, 3, 2, 5, 4, 7, 6, 1, 0], [9, 6, 3, 2, 5, 4, 1, 8, 7, 0], [7, 6, 3, 2, 5, 4, 1, 0, 9, 8], [9, 4, 3, 2, 1, 8, 7, 6, 5, 0], [9, 4, 3, 2, 1, 6, 5, 8, 7, 0], [7, 4, 3, 2, 1, 6, 5, 0, 9, 8], [5, 4, 3, 2, 1, 0, 9, 8, 7, 6], [5, 4, 3, 2, 1, 0, 7, 6, 9, 8], [9, 2, 1, 8, 7, 6, 5, 4, 3, 0], [9, 2, 1, 8, 5, 4, 7, 6, 3, 0], [9, 2, 1, 6, 5, 4, 3, 8, 7, 0], [7, 2, 1, 6, 5, 4, 3, 0, 9, 8], [9, 2, 1, 4, 3, 8, 7, 6, 5, 0], [9, 2, 1, 4, 3, 6, 5, 8, 7, 0], [7, 2, 1, 4, 3, 6, 5, 0, 9, 8], [5, 2, 1, 4, 3, 0, 9, 8, 7, 6], [5, 2, 1, 4, 3, 0, 7, 6, 9, 8], [3, 2, 1, 0, 9, 8, 7, 6, 5, 4], [3, 2, 1, 0, 9, 6, 5, 8, 7, 4], [3, 2, 1, 0, 7, 6, 5, 4, 9, 8], [3, 2, 1, 0, 5, 4, 9, 8, 7, 6], [3, 2, 1, 0, 5, 4, 7, 6, 9, 8], [1, 0, 9, 8, 7, 6, 5, 4, 3, 2], [1, 0, 9, 8, 5, 4, 7, 6, 3, 2], [1, 0, 9, 6, 5, 4, 3, 8, 7, 2], [1, 0, 7, 6, 5, 4, 3, 2, 9, 8], [1, 0, 9, 4, 3, 8, 7, 6, 5, 2], [1, 0, 9, 4, 3, 6, 5, 8, 7, 2], [1, 0, 7, 4, 3, 6, 5, 2, 9, 8], [1, 0, 5, 4, 3, 2, 9, 8, 7, 6], [1, 0, 5, 4, 3, 2, 7, 6, 9, 8], [1, 0, 3, 2, 9, 8, 7, 6, 5, 4], [1, 0, 3, 2, 9, 6, 5, 8, 7, 4], [1, 0, 3, 2, 7, 6, 5, 4, 9, 8], [1, 0, 3, 2, 5, 4, 9, 8, 7, 6], [1, 0, 3, 2, 5, 4, 7, 6, 9, 8]]
  | _ => []
def diaC : Nat → Nat
  | 1 => 1
  | 2 => 2
  | 3 => 5
  | 4 => 14
  | 5 => 42
  | _ => 0
def diaT : Nat → Nat
  | 1 => 0
  | 2 => 266304
  | 3 => 90270366909544558675516318106774220168765504
  | 4 => 211525846345663928222040586053257376194578583809622699201806615500919948334308005936937984788578483108361174519362705350717566095610915194687981278532601451496957919343198236998133123544920042232395973781760537201981612857320629602374322391381333289120049756374756108035985056972082464150652933401173508888082051881915311602583585691941361753075047211072
  | 5 => 821768039752446626227786995222675525979967171050580603895053476662290965314420858462283450185511649112596152903851824139703014571110886593241876634943275351779389794815799241579915313938952929018935516918102724056657655691240382385567919704049422117273800536840700598534137582270249064298830914596926518601895002126140594913947669567593163450646863805038028796258156207838764882904964038679992072437677703613633363156477953431794006581254579234242608911872445282318677789611540184680373970026906238630037438703444381021337993277849402167067122132407828413046571800877890481751674419547086854157332347270789238731076062847359844662667531367200161256914042641624112462188394115319639154228659429841905440123348567088842737797888035251795264520090784875862121950875435138304844594108745777652448405965248122109988998005179061826371565587417070732312271673937729819066591145778207565589052254877820579285460453450041179839397016520690886714998578976700271440355631281320823066934305644191298035267248755752046088215019841021351226580469647934146112461751509565373534413917748670915106163346940681982444104642366272888453053864110681019911192537750765772024184018933597437645390993356264174502869241348874589966911286504976700785016279644739536014626108070740221108275681046562916768595325075946120316736918221059043427654069987065390553268904701260898982933703352249712249743436397649885629396596027355273696862287743581748204768407896399022965041698552245604849061952866394103025476833696238466301599626727601550200270286794827572225369257322048372075965182061129938487811091250303327948060313545876951875182041489639953240847831731833871073166786611187181065619937672125616517978826911954611717885459021489253601840456347049495117742158645394466721333667530432178471851749951582202288340758693139806986209386035367331979918746668387125748254113349477945058025486251561028034860252928307372589259646571433677657848439652239086532292611811632517237151687734886303838423802634633295827872264185565544878140976389750234247198207444603714815471865696417340409702079867861504443276961189620488512044656530931377672976613808716576481138463894940629140475438095770894259681020499902909683591007817382902857212195269240352428804480061115748195661670505226031091630832204172057009352910262572657996204090572001451521149082697215444384578072630983477779440016613908249525174340336491221957132102823187065733799814325600561287672567407768687545127818517306185168876833899644130303617929614912606088371052561771147537040615995371156623747035968431986014597671267459969982526562201325032480727549845066632761493964756951244798338514136867391060891121830038104745510854022363517010652715340265449405676759185036291666867490919064395071370637012811215605065929027279195805437973517770652834808341558077988755996464386499596619485631150884445323978892376947460953551556753928600651489138547961669166807593819113573459112351598238237409230454720484330905214827485392249111740425406979439347926621393179378585452567186030731014516494847421101791509266280419184015747955250630022435838679258359377454486669615460419325890113073690031319403754699899513863569051357311010204625002038844272788505832170090930240
  | _ => 0
def diaK : Nat → Nat
  | 1 => 0
  | 2 => 512
  | 3 => 5312664831450945945600
  | 4 => 287185860149725412286558742668508620613196245872074223033480233756382913175664649486489736779707577827806468115120191993229043274680018327704470370281484105631152381842843238400
  | 5 => 321116323277028519867507155741433936059015112655251374298535052968222027008485358852183809154592774310347636168522963241652968623928210340742467395336175535096968351644605094921142476169271327767128495708475280668767137585170258229358727144624720292283141138714904138624573798829099044510502296251190943502337000739189724574901034390694506404175188864551259625978333239099571906465900278182868326092765891483425257423942106851852085174349548086396987414624892975527324258722935348313284782774586539043714869336720246926491662088965369587127192912098933134692016390678068681989450625716590093494236747460439704596837041446882413509027123285045774821179632113650118321385323714114636862410724546086361385663305630163969969337460634240763561483931939220706451372928992885350016266741211580319349115090294465078216138270701911915200902864760822215799847110450863022363035602819125964557193219384929182241757420976277708814800280558311302696708208032530444389745992791943961449461169639578787980238739677486619429021574931620716030434616841319870437224186194458593537241193403198079052348203659021494788923320763934919381619468958629073009353551859327837566841191529863140115687257004209703990513058306678092129656284867422604802875426357813817540093496600567676303598988844020196615587069497209225775797059326622501710437946203193029091635222868480866606425481876545696806453892234863746044162073096721532719154586683974946649124342883388056344819084515808479304365265713766714271310123679445458273570477624330154409085882411863276277455888202692841277324027522226991039443134833071460125849419776
  | _ => 0
def diaF : Nat → Nat
  | 1 => 0
  | 2 => 64
  | 3 => 67645504
  | 4 => 3967606477331147014815808
  | 5 => 4684915001871687474283393914016749766852427036342611987663519624610717388864
  | _ => 0
def diaQ : Nat → Nat
  | 1 => 1
  | 2 => 18
  | 3 => 135459
  | 4 => 9343723400991284
  | 5 => 73264238453771063800336069829935723259972897809221
  | _ => 0
def diaH : Nat → Nat
  | 1 => 1
  | 2 => 2
  | 3 => 69907
  | 4 => 37520870089252
  | 5 => 24942961277159446760626098469472302269098550833973
  | _ => 0
def tT (n x y : Nat) : Nat := Nat.land (Nat.shiftRight (diaT n) (Nat.mul 6 (Nat.add (Nat.mul (diaC n) x) y))) 63
def tK (n x y : Nat) : Nat := Nat.land (Nat.shiftRight (diaK n) (Nat.mul 3 (Nat.add (Nat.mul (diaC n) x) y))) 7
def tF (n x : Nat) : Nat := Nat.land (Nat.shiftRight (diaF n) (Nat.mul 6 x)) 63
def tR (n x : Nat) : Nat := Nat.land (Nat.shiftRight (diaQ n) (Nat.mul 4 x)) 15
def tH (n x : Nat) : Nat := Nat.land (Nat.shiftRight (diaH n) (Nat.mul 4 x)) 15
def dia (n i : Nat) : List Int := (diaR n).getD i []
def eqII : List (List Int) → List (List Int) → Bool
  | [], [] => true
  | x :: l, y :: m => eqI x y && eqII l m
  | _, _ => false
theorem eqII_eq : ∀ {l m : List (List Int)}, eqII l m = true → l = m
  | [], [], _ => rfl
  | x :: l, y :: m, h => by
    unfold eqII at h
    rw [Bool.and_eq_true] at h
    rw [eqI_eq h.1, eqII_eq h.2]
  | [], y :: m, h => by cases h
  | x :: l, [], h => by cases h
set_option maxRecDepth 100000 in
theorem rows_fine : (List.range 6).all (fun n => n == 0 || (eqII ((dyP n).map ptL) (diaR n) && (diaR n).length == diaC n)) = true := by decide +kernel
theorem dia_at {n : Nat} (hn : 1 ≤ n ∧ n ≤ 5) {u : List UInt8} (hu : u ∈ dyP n) : ∃ i, i < diaC n ∧ ptL u = dia n i := by
  have c := List.all_eq_true.1 rows_fine n (List.mem_range.2 (by omega))
  rw [Bool.or_eq_true, beq_iff_eq, Bool.and_eq_true, beq_iff_eq] at c
  obtain ⟨c1, c2⟩ := c.resolve_left (by omega)
  have e := eqII_eq c1
  obtain ⟨i, hi, rfl⟩ := List.getElem_of_mem hu
  refine ⟨i, ?_, ?_⟩
  · rw [← c2, ← e]
    simpa using hi
  · unfold dia
    rw [← e]
    simp [List.getD, hi]
def mulEq (p : List Int × Int × Bool) (l : List Int) (k : Nat) : Bool := eqI p.1 l && (p.2.1 == (k : Int) && p.2.2)
theorem mulEq_eq {p : List Int × Int × Bool} {l : List Int} {k : Nat} (h : mulEq p l k = true) : p = (l, (k : Int), true) := by
  unfold mulEq at h
  rw [Bool.and_eq_true, Bool.and_eq_true, beq_iff_eq] at h
  exact Prod.ext (eqI_eq h.1) (Prod.ext h.2.1 h.2.2)
noncomputable def prodFine (n : Nat) : Bool := upTo (fun i => upTo (fun j => mulEq (mulD (dia n i) (dia n j)) (dia n (tT n i j)) (tK n i j)) (diaC n)) (diaC n)
def oneFine (n i : Nat) : Bool := (eqI (flipD (dia n i)).1 (dia n (tF n i)) && (flipD (dia n i)).2) && ((traceL (dia n i) == (tR n i : Int) && thr (dia n i) == (tH n i : Int)) && decide ((dia n i).length = 2 * n ∧ tF n i < diaC n ∧ tT n 0 i = i ∧ tK n 0 i = 0))
def twoFine (n i j : Nat) : Bool := decide ((tT n (tF n j) (tF n i) = tF n (tT n i j) ∧ tK n (tF n j) (tF n i) = tK n i j ∧ tT n i j < diaC n) ∧ tR n (tT n i j) + tK n i j = tR n (tT n j i) + tK n j i ∧ tH n (tT n i j) ≤ tH n i ∧ tH n (tT n i j) ≤ tH n j)
noncomputable def tripleFine (n : Nat) : Bool := upTo (fun i => upTo (fun j => upTo (fun k => bif Nat.beq (tT n (tT n i j) k) (tT n i (tT n j k)) then Nat.beq (Nat.add (tK n i j) (tK n (tT n i j) k)) (Nat.add (tK n j k) (tK n i (tT n j k))) else false) (diaC n)) (diaC n)) (diaC n)
set_option maxRecDepth 100000 in
theorem prod_low : upTo (fun n => prodFine n) 5 = true := by decide +kernel
set_option maxRecDepth 100000 in
theorem prod_five : prodFine 5 = true := by decide +kernel
set_option maxRecDepth 100000 in
theorem one_fine : upTo (fun n => upTo (oneFine n) (diaC n)) 6 = true := by decide +kernel
set_option maxRecDepth 100000 in
theorem two_fine : upTo (fun n => upTo (fun i => upTo (twoFine n i) (diaC n)) (diaC n)) 6 = true := by decide +kernel
set_option maxRecDepth 100000 in
theorem triple_low : upTo (fun n => tripleFine n) 5 = true := by decide +kernel
set_option maxRecDepth 100000 in
theorem triple_five : tripleFine 5 = true := by decide +kernel
set_option maxRecDepth 100000 in
theorem loops_low : (List.range 6).all (fun n => n == 0 || (dyP n).all fun v => (dyP n).all fun w => decide (1 ≤ lpW v w)) = true := by decide +kernel

theorem dia_mul {n i j : Nat} (hn : n ≤ 5) (hi : i < diaC n) (hj : j < diaC n) : mulD (dia n i) (dia n j) = (dia n (tT n i j), (tK n i j : Int), true) := by
  have c : prodFine n = true := by
    by_cases h : n = 5
    · rw [h]; exact prod_five
    · exact upTo_all prod_low n (by omega)
  exact mulEq_eq (upTo_all (upTo_all c i hi) j hj)
theorem dia_triple {n i j k : Nat} (hn : n ≤ 5) (hi : i < diaC n) (hj : j < diaC n) (hk : k < diaC n) : tT n (tT n i j) k = tT n i (tT n j k) ∧ tK n i j + tK n (tT n i j) k = tK n j k + tK n i (tT n j k) := by
  have c : tripleFine n = true := by
    by_cases h : n = 5
    · rw [h]; exact triple_five
    · exact upTo_all triple_low n (by omega)
  have d := upTo_all (upTo_all (upTo_all c i hi) j hj) k hk
  cases e : Nat.beq (tT n (tT n i j) k) (tT n i (tT n j k)) with
  | false => rw [e] at d; cases d
  | true =>
    rw [e] at d
    exact ⟨Nat.eq_of_beq_eq_true e, Nat.eq_of_beq_eq_true d⟩
structure OneOk (n i : Nat) : Prop where
  flip : flipD (dia n i) = (dia n (tF n i), true)
  trace : traceL (dia n i) = (tR n i : Int)
  thr : Go.Proofs.Ytdfdlnjijccpeaa.thr (dia n i) = (tH n i : Int)
  len : (dia n i).length = 2 * n
  lt : tF n i < diaC n
  t0 : tT n 0 i = i
  k0 : tK n 0 i = 0
theorem dia_one {n i : Nat} (hn : n ≤ 5) (hi : i < diaC n) : OneOk n i := by
  have c := upTo_all (upTo_all one_fine n (by omega)) i hi
  unfold oneFine at c
  rw [Bool.and_eq_true, Bool.and_eq_true, Bool.and_eq_true, Bool.and_eq_true, beq_iff_eq, beq_iff_eq, decide_eq_true_iff] at c
  obtain ⟨⟨c1, c2⟩, ⟨c3, c4⟩, c5, c6, c7, c8⟩ := c
  exact ⟨Prod.ext (eqI_eq c1) c2, c3, c4, c5, c6, c7, c8⟩
theorem dia_two {n i j : Nat} (hn : n ≤ 5) (hi : i < diaC n) (hj : j < diaC n) : (tT n (tF n j) (tF n i) = tF n (tT n i j) ∧ tK n (tF n j) (tF n i) = tK n i j ∧ tT n i j < diaC n) ∧ tR n (tT n i j) + tK n i j = tR n (tT n j i) + tK n j i ∧ tH n (tT n i j) ≤ tH n i ∧ tH n (tT n i j) ≤ tH n j :=
  of_decide_eq_true (upTo_all (upTo_all (upTo_all two_fine n (by omega)) i hi) j hj)
theorem small_land (x m : Nat) : Nat.land x m ≤ m := Nat.and_le_right
/-- what a law needs to know of three diagrams -/
inductive TriOk (n : Nat) (a b c y : List Int) (l : Int) : Prop where
  | mk (d e u v s z : List Int) (m o p i x1 x2 h1 h2 h3 : Int) (yc : mulD y c = (d, m, true)) (bc : mulD b c = (e, o, true)) (ae : mulD a e = (d, p, true)) (id : mulD (idD n) a = (a, 0, true))
    (fa : flipD a = (u, true)) (fb : flipD b = (v, true)) (vu : mulD v u = (s, l, true)) (fy : flipD y = (s, true)) (ba : mulD b a = (z, i, true)) (ty : traceL y = x1) (tz : traceL z = x2) (ha : thr a = h1) (hb : thr b = h2) (hy : thr y = h3)
    (sum : l + m = o + p) (tr : x1 + l = x2 + i) (th : h3 ≤ h1 ∧ h3 ≤ h2) (bd : (0 ≤ l ∧ l ≤ 7) ∧ (0 ≤ m ∧ m ≤ 7) ∧ (0 ≤ o ∧ o ≤ 7) ∧ (0 ≤ p ∧ p ≤ 7) ∧ (0 ≤ i ∧ i ≤ 7) ∧ (0 ≤ x1 ∧ x1 ≤ 15) ∧ 0 ≤ x2 ∧ x2 ≤ 15)
    (len : d.length ≤ 10 ∧ e.length ≤ 10 ∧ u.length ≤ 10 ∧ v.length ≤ 10 ∧ s.length ≤ 10 ∧ z.length ≤ 10)
theorem dia_tri {n i j k : Nat} (hn : 1 ≤ n ∧ n ≤ 5) (hi : i < diaC n) (hj : j < diaC n) (hk : k < diaC n) : TriOk n (dia n i) (dia n j) (dia n k) (dia n (tT n i j)) (tK n i j) := by
  have c0 : 0 < diaC n := by omega
  have h0 : dia n 0 = idD n := by
    have : n = 1 ∨ n = 2 ∨ n = 3 ∨ n = 4 ∨ n = 5 := by omega
    rcases this with rfl | rfl | rfl | rfl | rfl <;> rfl
  have oi := dia_one (by omega) hi
  have oj := dia_one (by omega) hj
  have pij := dia_two (by omega) hi hj
  have pji := dia_two (by omega) hj hi
  have pjk := dia_two (by omega) hj hk
  have oy := dia_one (by omega) pij.1.2.2
  have oz := dia_one (by omega) pji.1.2.2
  have oe := dia_one (by omega) pjk.1.2.2
  have t := dia_triple (by omega) hi hj hk
  have pyk := dia_two (by omega) pij.1.2.2 hk
  have od := dia_one (by omega) pyk.1.2.2
  have fi := dia_one (by omega) oi.lt
  have fj := dia_one (by omega) oj.lt
  have fy := dia_one (by omega) oy.lt
  have m1 := dia_mul (by omega) pij.1.2.2 hk
  have m2 := dia_mul (by omega) hj hk
  have m3 := dia_mul (by omega) hi pjk.1.2.2
  have m4 := dia_mul (by omega) c0 hi
  have m5 := dia_mul (by omega) oj.lt oi.lt
  have m6 := dia_mul (by omega) hj hi
  rw [← t.1] at m3
  rw [oi.t0, oi.k0, h0] at m4
  rw [pij.1.1, pij.1.2.1] at m5
  have b := fun x y => small_land (Nat.shiftRight (diaK n) (Nat.mul 3 (Nat.add (Nat.mul (diaC n) x) y))) 7
  have b1 : tK n i j ≤ 7 := small_land _ _
  have b2 : tK n (tT n i j) k ≤ 7 := small_land _ _
  have b3 : tK n j k ≤ 7 := small_land _ _
  have b4 : tK n i (tT n j k) ≤ 7 := small_land _ _
  have b5 : tK n j i ≤ 7 := small_land _ _
  have b6 : tR n (tT n i j) ≤ 15 := small_land _ _
  have b7 : tR n (tT n j i) ≤ 15 := small_land _ _
  have t2 := t.2
  have q1 := pij.2.1
  have q2 := pij.2.2
  exact ⟨_, _, _, _, _, _, _, _, _, _, _, _, _, _, _, m1, m2, m3, m4, oi.flip, oj.flip, m5, oy.flip, m6, oy.trace, oz.trace, oi.thr, oj.thr, oy.thr, by omega, by omega, by omega, by omega,
    by simp only [od.len, oe.len, fi.len, fj.len, fy.len, oz.len]; omega⟩
theorem isD_of {l : List Int} (h : isD l = true) : 2 ≤ l.length ∧ isNC l = true := isD_spec h
theorem mul_not {a b : List Int} (h : ¬ (isD a = true ∧ isD b = true ∧ a.length = b.length)) : mulD a b = ([], 0, false) := if_neg h
/-- a diagram of a path, times any row: no product, or all laws hold -/
theorem dia_cases {n : Nat} {u : List UInt8} (hn : 1 ≤ n ∧ n ≤ 5) (hu : u ∈ dyP n) (b : List Int) :
    (∃ y l, mulD (ptL u) b = (y, l, true) ∧ y.length ≤ 10 ∧ b.length = 2 * n ∧ 1 ≤ loopsOf (ptL u) b ∧ ∀ w, w ∈ dyP n → TriOk n (ptL u) b (ptL w) y l) ∨ mulD (ptL u) b = ([], 0, false) := by
  by_cases h : isD (ptL u) = true ∧ isD b = true ∧ (ptL u).length = b.length
  · left
    obtain ⟨h1, h2, h3⟩ := h
    have ln := ptL_size (by omega) hu
    obtain ⟨w, hw, rfl⟩ := nc_list (isD_of h2).2 (by omega) hn.2
    have lw : 1 ≤ loopsOf (ptL u) (ptL w) := by
      rw [loops_pair hn.2 hu hw]
      have := List.all_eq_true.1 loops_low n (List.mem_range.2 (by omega))
      rw [Bool.or_eq_true, beq_iff_eq] at this
      have := of_decide_eq_true (List.all_eq_true.1 (List.all_eq_true.1 (this.resolve_left (by omega)) u hu) w hw)
      omega
    have lnw := ptL_size (by omega) hw
    obtain ⟨i, hi, e1⟩ := dia_at hn hu
    obtain ⟨j, hj, e2⟩ := dia_at hn hw
    rw [e1] at lw ⊢
    rw [e2] at lw lnw ⊢
    have pij := dia_two hn.2 hi hj
    have oy := dia_one hn.2 pij.1.2.2
    refine ⟨_, _, dia_mul hn.2 hi hj, by rw [oy.len]; omega, lnw, lw, fun x hx => ?_⟩
    obtain ⟨k, hk, e3⟩ := dia_at hn hx
    rw [e3]
    exact dia_tri hn hi hj hk
  · exact .inr (mul_not h)

/-! hooks -/
def hookOk (n i : Int) : Bool := !(hookDI n i).2 || (mulEq (mulD (hookDI n i).1 (hookDI n i).1) (hookDI n i).1 1 &&
  (!(hookDI n (i + 1)).2 || (mulEq (mulD (hookDI n i).1 (hookDI n (i + 1)).1) (mulD (hookDI n i).1 (hookDI n (i + 1)).1).1 0 && mulEq (mulD (mulD (hookDI n i).1 (hookDI n (i + 1)).1).1 (hookDI n i).1) (hookDI n i).1 0)))
set_option maxRecDepth 100000 in
theorem hooks_fine : (List.range 9).all (fun n => (List.range 8).all fun i => hookOk (n : Int) (i : Int)) = true := by decide +kernel
theorem hookDI_two (n i : Int) : hookDI n i = ((hookDI n i).1, true) ∨ hookDI n i = ([], false) := by
  unfold hookDI
  split
  · exact .inl rfl
  · exact .inr rfl
theorem hook_cases (n i : Int) : (∃ j, hookDI n i = (j, true) ∧ j.length ≤ 1000 ∧ mulD j j = (j, 1, true) ∧ i ≤ 10 ∧
    ((∃ o t, hookDI n (i + 1) = (o, true) ∧ o.length ≤ 1000 ∧ t.length ≤ 1000 ∧ mulD j o = (t, 0, true) ∧ mulD t j = (j, 0, true)) ∨ hookDI n (i + 1) = ([], false))) ∨ hookDI n i = ([], false) := by
  rcases hookDI_two n i with h | h
  · left
    have hy : (1 ≤ n ∧ n ≤ 8) ∧ 0 ≤ i ∧ i ≤ n - 2 := by
      apply Classical.byContradiction
      intro c
      have : hookDI n i = ([], false) := if_neg c
      rw [this] at h
      cases h
    obtain ⟨N, rfl⟩ := Int.eq_ofNat_of_zero_le (show 0 ≤ n by omega)
    obtain ⟨I, rfl⟩ := Int.eq_ofNat_of_zero_le hy.2.1
    have c := List.all_eq_true.1 (List.all_eq_true.1 hooks_fine N (List.mem_range.2 (by omega))) I (List.mem_range.2 (by omega))
    have l1 := hookDI_len (N : Int) (I : Int)
    have l2 := hookDI_len (N : Int) ((I : Int) + 1)
    unfold hookOk at c
    rw [show (hookDI (N : Int) (I : Int)).2 = true by rw [h]] at c
    rw [Bool.not_true, Bool.false_or, Bool.and_eq_true] at c
    refine ⟨_, h, l1, mulEq_eq c.1, by omega, ?_⟩
    rcases hookDI_two (N : Int) ((I : Int) + 1) with g | g
    · left
      have c2 := c.2
      rw [show (hookDI (N : Int) ((I : Int) + 1)).2 = true by rw [g]] at c2
      rw [Bool.not_true, Bool.false_or, Bool.and_eq_true] at c2
      have ml := mulD_len (hookDI (N : Int) (I : Int)).1 (hookDI (N : Int) ((I : Int) + 1)).1
      exact ⟨_, _, g, l2, by omega, mulEq_eq c2.1, mulEq_eq c2.2⟩
    · exact .inr g
  · exact .inr h

end Go.Proofs.Ytdfdlnjijccpeaa

/-
  Contracts of the functions that draw diagrams, and of the path of a number, are proved.
  They hold for all codes of at most 1048576 bytes.
-/
set_option linter.unusedVariables false
set_option linter.unusedSimpArgs false
namespace Go.Proofs.Ytdfdlnjijccpeaa
open Go.Proofs.Ytdfdlnjijccpeaa.Ab Go.Proofs.Ytdfdlnjijccpeaa.Pl

set_option maxHeartbeats 2000000 in
theorem unrank_ok (n : Nat) (k : Int) (h0 : H) (hn : n ≤ 8) (hk : 0 ≤ k ∧ k < (bal n n : Nat)) : AC env 13 [.int .i64 (n : Int), .int .i64 k] h0 fun v h' => ∃ w : List UInt8, v = .tup [.str w, .bool true] ∧ w ∈ dyP n ∧ Keeps h0 h' := by
  have hs := St.refl h0
  have e : catN (n : Int) = (bal n n : Nat) := if_pos (by omega)
  have bn := bal_small (i := n) (k := n) (by omega) (by omega)
  refine AC.enter Try.func13 Try.call13 rfl Try.ntmps13 (of_decide_eq_true (by rfl)) ?_
  repeat' (first
    | (refine (sCatalan_ok _ _ (by omega)).mono ?_; rw [e]; rintro v h' ⟨rfl, hk'⟩; have hs' := St.keep (by assumption) hk'; clear hk'; conv => whnf)
    | refine AW.seq ?_
    | (refine AW.region ?_; conv => whnf)
    | refine AW.block ?_
    | (refine AW.skip ?_; conv => whnf)
    | (refine AW.ret ?_; conv => whnf)
    | (refine AW.exit ?_; conv => whnf)
    | refine AW.cond (by rfl) ?_
    | (refine (l1In_ok _ _ _ _).mono ?_; rintro v h' ⟨rfl, e'⟩; subst h'; conv => whnf)
    | (refine (sCatalan_ok _ _ (by omega)).mono ?_; rintro v h' ⟨rfl, hk'⟩; have hs' := St.keep (by assumption) hk'; conv => whnf)
    | (refine (l3Ways_ok _ _ _ (by omega)).mono ?_; rintro v h' ⟨rfl, hk'⟩; have hs' := St.keep (by assumption) hk'; conv => whnf)
    | (refine Br.tt ?_; conv => whnf)
    | (refine Br.ff ?_; conv => whnf)
    | refine Br.not ?_
    | (refine Br.t (beq_self_eq_true _) ?_; conv => whnf)
    | (refine Br.t (by assumption) ?_; conv => whnf)
    | (refine Br.f (by assumption) ?_; conv => whnf)
    | (refine Br.dt (by omega) ?_; conv => whnf)
    | (refine Br.df (by omega) ?_; conv => whnf)
    | (refine Br.it (by omega) ?_; conv => whnf)
    | (refine Br.if (by omega) ?_; conv => whnf)
    | (refine Br.nt (by omega) ?_; conv => whnf)
    | (refine Br.nf (by omega) ?_; conv => whnf)
    | (refine Br.dec (fun hc => ?_) (fun hc => ?_) <;> conv => whnf)
    | (refine Br.ieq (fun hc => ?_) (fun hc => ?_) <;> conv => whnf)
    | (refine Br.ine (fun hc => ?_) (fun hc => ?_) <;> conv => whnf)
    | (refine Br.mk (fun hc => ?_) (fun hc => ?_) <;> conv => whnf)
    | (refine Wr.i64 (by omega) ?_; conv => whnf)
    | (refine Ck.mk (by omega) ?_; conv => whnf)
    | (refine Wr.i64 (by simp only [List.length_drop, List.length_take, List.length_append, List.length_cons, List.length_nil]; omega) ?_; conv => whnf)
    | (refine Ck.mk (by simp only [List.length_drop, List.length_take, List.length_append, List.length_cons, List.length_nil]; omega) ?_; conv => whnf)
    | (refine Ck.mk (by simp; omega) ?_; conv => whnf))
  refine AW.loop4 (fun (u d : Nat) (q : Int) (w : List UInt8) => [(1, .int .i64 q), (6, .str w), (7, .int .i64 (u : Int)), (8, .int .i64 (d : Int))]) (fun u d q w h' => (u ≤ d ∧ d ≤ n) ∧ (∀ y, y ∈ dyAll (u + d + 1) w u d → y ∈ dyP n) ∧ (0 ≤ q ∧ q < (bal u d : Nat)) ∧ w.length ≤ 2 * n ∧ w.length + u + d = 2 * n ∧ Keeps h0 h') (fun u d _ _ => u + d) n n k []
    (Less.cons rfl (Less.cons rfl (Less.cons rfl (Less.cons rfl (Less.nil _))))) ⟨by omega, fun y hy => (by
      have : n + n + 1 = 2 * n + 1 := by omega
      rw [this] at hy
      exact hy), hk, by simp, by simp; omega, hs'.keeps⟩ ?_
  rintro u d q w h1 ⟨hu, hm, hq, hw, hw2, hk1⟩
  have hs := St.refl h1
  clear hs'
  by_cases hd : 0 < d
  · by_cases hu0 : 0 < u
    · obtain ⟨i, rfl⟩ : ∃ i, u = i + 1 := ⟨u - 1, by omega⟩
      obtain ⟨j, rfl⟩ : ∃ j, d = j + 1 := ⟨d - 1, by omega⟩
      have e1 : (((i + 1 : Nat) : Int) - 1).toNat = i := by omega
      have e2 : (((j + 1 : Nat) : Int)).toNat = j + 1 := by omega
      have dg := bal_diag i
      have bb := bal_small (i := i + 1) (k := j + 1) (by omega) (by omega)
      have stp := fun h : i < j => bal_step h
      by_cases lt : q < (bal i (j + 1) : Nat)
      · repeat' (first
          | (refine (l3Ways_ok _ _ _ (by omega)).mono ?_; rw [e1, e2]; rintro v h' ⟨rfl, hk'⟩; have hk2 := hk1.trans hk'; clear hk'; conv => whnf)
          | refine AW.seq ?_
          | (refine AW.region ?_; conv => whnf)
          | refine AW.block ?_
          | (refine AW.skip ?_; conv => whnf)
          | (refine AW.ret ?_; conv => whnf)
          | (refine AW.exit ?_; conv => whnf)
          | refine AW.cond (by rfl) ?_
          | (refine (l1In_ok _ _ _ _).mono ?_; rintro v h' ⟨rfl, e'⟩; subst h'; conv => whnf)
          | (refine (sCatalan_ok _ _ (by omega)).mono ?_; rintro v h' ⟨rfl, hk'⟩; have hs' := St.keep (by assumption) hk'; conv => whnf)
          | (refine (l3Ways_ok _ _ _ (by omega)).mono ?_; rintro v h' ⟨rfl, hk'⟩; have hs' := St.keep (by assumption) hk'; conv => whnf)
          | (refine Br.tt ?_; conv => whnf)
          | (refine Br.ff ?_; conv => whnf)
          | refine Br.not ?_
          | (refine Br.t (beq_self_eq_true _) ?_; conv => whnf)
          | (refine Br.t (by assumption) ?_; conv => whnf)
          | (refine Br.f (by assumption) ?_; conv => whnf)
          | (refine Br.dt (by omega) ?_; conv => whnf)
          | (refine Br.df (by omega) ?_; conv => whnf)
          | (refine Br.it (by omega) ?_; conv => whnf)
          | (refine Br.if (by omega) ?_; conv => whnf)
          | (refine Br.nt (by omega) ?_; conv => whnf)
          | (refine Br.nf (by omega) ?_; conv => whnf)
          | (refine Br.dec (fun hc => ?_) (fun hc => ?_) <;> conv => whnf)
          | (refine Br.ieq (fun hc => ?_) (fun hc => ?_) <;> conv => whnf)
          | (refine Br.ine (fun hc => ?_) (fun hc => ?_) <;> conv => whnf)
          | (refine Br.mk (fun hc => ?_) (fun hc => ?_) <;> conv => whnf)
          | (refine Wr.i64 (by omega) ?_; conv => whnf)
          | (refine Ck.mk (by omega) ?_; conv => whnf)
          | (refine Wr.i64 (by simp only [List.length_drop, List.length_take, List.length_append, List.length_cons, List.length_nil]; omega) ?_; conv => whnf)
          | (refine Ck.mk (by simp only [List.length_drop, List.length_take, List.length_append, List.length_cons, List.length_nil]; omega) ?_; conv => whnf)
          | (refine Ck.mk (by simp; omega) ?_; conv => whnf))
        exact ⟨i, j + 1, q, _, by rw [show ((i : Nat) : Int) = ((i + 1 : Nat) : Int) - 1 by omega]; exact (Less.cons rfl (Less.cons rfl (Less.cons rfl (Less.cons rfl (Less.nil _))))), ⟨by omega, fun y hy => hm y (by
          have := dyAll_up (f := i + (j + 1) + 1) (u := ((i + 1 : Nat) : Int)) (d := ((j + 1 : Nat) : Int)) (by omega) (by omega) (y := y) (w := w) (by
            rw [show ((i + 1 : Nat) : Int) - 1 = i by omega]
            exact hy)
          rw [show i + 1 + (j + 1) + 1 = i + (j + 1) + 1 + 1 by omega]
          exact this), by omega, by simp only [List.length_append, List.length_cons, List.length_nil]; omega, by simp only [List.length_append, List.length_cons, List.length_nil]; omega, hk2⟩, by omega⟩
      · have ij : i < j := by
          apply Classical.byContradiction
          intro c
          obtain rfl : i = j := by omega
          omega
        have st := stp ij
        repeat' (first
          | (refine (l3Ways_ok _ _ _ (by omega)).mono ?_; rw [e1, e2]; rintro v h' ⟨rfl, hk'⟩; have hk2 := hk1.trans hk'; clear hk'; conv => whnf)
          | refine AW.seq ?_
          | (refine AW.region ?_; conv => whnf)
          | refine AW.block ?_
          | (refine AW.skip ?_; conv => whnf)
          | (refine AW.ret ?_; conv => whnf)
          | (refine AW.exit ?_; conv => whnf)
          | refine AW.cond (by rfl) ?_
          | (refine (l1In_ok _ _ _ _).mono ?_; rintro v h' ⟨rfl, e'⟩; subst h'; conv => whnf)
          | (refine (sCatalan_ok _ _ (by omega)).mono ?_; rintro v h' ⟨rfl, hk'⟩; have hs' := St.keep (by assumption) hk'; conv => whnf)
          | (refine (l3Ways_ok _ _ _ (by omega)).mono ?_; rintro v h' ⟨rfl, hk'⟩; have hs' := St.keep (by assumption) hk'; conv => whnf)
          | (refine Br.tt ?_; conv => whnf)
          | (refine Br.ff ?_; conv => whnf)
          | refine Br.not ?_
          | (refine Br.t (beq_self_eq_true _) ?_; conv => whnf)
          | (refine Br.t (by assumption) ?_; conv => whnf)
          | (refine Br.f (by assumption) ?_; conv => whnf)
          | (refine Br.dt (by omega) ?_; conv => whnf)
          | (refine Br.df (by omega) ?_; conv => whnf)
          | (refine Br.it (by omega) ?_; conv => whnf)
          | (refine Br.if (by omega) ?_; conv => whnf)
          | (refine Br.nt (by omega) ?_; conv => whnf)
          | (refine Br.nf (by omega) ?_; conv => whnf)
          | (refine Br.dec (fun hc => ?_) (fun hc => ?_) <;> conv => whnf)
          | (refine Br.ieq (fun hc => ?_) (fun hc => ?_) <;> conv => whnf)
          | (refine Br.ine (fun hc => ?_) (fun hc => ?_) <;> conv => whnf)
          | (refine Br.mk (fun hc => ?_) (fun hc => ?_) <;> conv => whnf)
          | (refine Wr.i64 (by omega) ?_; conv => whnf)
          | (refine Ck.mk (by omega) ?_; conv => whnf)
          | (refine Wr.i64 (by simp only [List.length_drop, List.length_take, List.length_append, List.length_cons, List.length_nil]; omega) ?_; conv => whnf)
          | (refine Ck.mk (by simp only [List.length_drop, List.length_take, List.length_append, List.length_cons, List.length_nil]; omega) ?_; conv => whnf)
          | (refine Ck.mk (by simp; omega) ?_; conv => whnf))
        exact ⟨i + 1, j, _, _, by rw [show ((j : Nat) : Int) = ((j + 1 : Nat) : Int) - 1 by omega]; exact (Less.cons rfl (Less.cons rfl (Less.cons rfl (Less.cons rfl (Less.nil _))))), ⟨by omega, fun y hy => hm y (by
          have := dyAll_down (f := i + 1 + j + 1) (u := ((i + 1 : Nat) : Int)) (d := ((j + 1 : Nat) : Int)) (by omega) (by omega) (y := y) (w := w) (by
            rw [show ((j + 1 : Nat) : Int) - 1 = j by omega]
            exact hy)
          rw [show i + 1 + (j + 1) + 1 = i + 1 + j + 1 + 1 by omega]
          exact this), by omega, by simp only [List.length_append, List.length_cons, List.length_nil]; omega, by simp only [List.length_append, List.length_cons, List.length_nil]; omega, hk2⟩, by omega⟩
    · obtain rfl : u = 0 := by omega
      obtain ⟨j, rfl⟩ : ∃ j, d = j + 1 := ⟨d - 1, by omega⟩
      have b0 := bal_zero (j + 1)
      have b1 := bal_zero j
      repeat' (first
        | refine AW.seq ?_
        | (refine AW.region ?_; conv => whnf)
        | refine AW.block ?_
        | (refine AW.skip ?_; conv => whnf)
        | (refine AW.ret ?_; conv => whnf)
        | (refine AW.exit ?_; conv => whnf)
        | refine AW.cond (by rfl) ?_
        | (refine (l1In_ok _ _ _ _).mono ?_; rintro v h' ⟨rfl, e'⟩; subst h'; conv => whnf)
        | (refine (sCatalan_ok _ _ (by omega)).mono ?_; rintro v h' ⟨rfl, hk'⟩; have hs' := St.keep (by assumption) hk'; conv => whnf)
        | (refine (l3Ways_ok _ _ _ (by omega)).mono ?_; rintro v h' ⟨rfl, hk'⟩; have hs' := St.keep (by assumption) hk'; conv => whnf)
        | (refine Br.tt ?_; conv => whnf)
        | (refine Br.ff ?_; conv => whnf)
        | refine Br.not ?_
        | (refine Br.t (beq_self_eq_true _) ?_; conv => whnf)
        | (refine Br.t (by assumption) ?_; conv => whnf)
        | (refine Br.f (by assumption) ?_; conv => whnf)
        | (refine Br.dt (by omega) ?_; conv => whnf)
        | (refine Br.df (by omega) ?_; conv => whnf)
        | (refine Br.it (by omega) ?_; conv => whnf)
        | (refine Br.if (by omega) ?_; conv => whnf)
        | (refine Br.nt (by omega) ?_; conv => whnf)
        | (refine Br.nf (by omega) ?_; conv => whnf)
        | (refine Br.dec (fun hc => ?_) (fun hc => ?_) <;> conv => whnf)
        | (refine Br.ieq (fun hc => ?_) (fun hc => ?_) <;> conv => whnf)
        | (refine Br.ine (fun hc => ?_) (fun hc => ?_) <;> conv => whnf)
        | (refine Br.mk (fun hc => ?_) (fun hc => ?_) <;> conv => whnf)
        | (refine Wr.i64 (by omega) ?_; conv => whnf)
        | (refine Ck.mk (by omega) ?_; conv => whnf)
        | (refine Wr.i64 (by simp only [List.length_drop, List.length_take, List.length_append, List.length_cons, List.length_nil]; omega) ?_; conv => whnf)
        | (refine Ck.mk (by simp only [List.length_drop, List.length_take, List.length_append, List.length_cons, List.length_nil]; omega) ?_; conv => whnf)
        | (refine Ck.mk (by simp; omega) ?_; conv => whnf))
      exact ⟨0, j, _, _, by rw [show ((j : Nat) : Int) = ((j + 1 : Nat) : Int) - 1 by omega]; exact (Less.cons rfl (Less.cons rfl (Less.cons rfl (Less.cons rfl (Less.nil _))))), ⟨by omega, fun y hy => hm y (by
        have := dyAll_down (f := 0 + j + 1) (u := ((0 : Nat) : Int)) (d := ((j + 1 : Nat) : Int)) (by omega) (by omega) (y := y) (w := w) (by
          rw [show ((j + 1 : Nat) : Int) - 1 = j by omega]
          exact hy)
        rw [show 0 + (j + 1) + 1 = 0 + j + 1 + 1 by omega]
        exact this), by omega, by simp only [List.length_append, List.length_cons, List.length_nil]; omega, by simp only [List.length_append, List.length_cons, List.length_nil]; omega, hk1⟩, by omega⟩
  · obtain rfl : d = 0 := by omega
    obtain rfl : u = 0 := by omega
    repeat' (first
      | refine AW.seq ?_
      | (refine AW.region ?_; conv => whnf)
      | refine AW.block ?_
      | (refine AW.skip ?_; conv => whnf)
      | (refine AW.ret ?_; conv => whnf)
      | (refine AW.exit ?_; conv => whnf)
      | refine AW.cond (by rfl) ?_
      | (refine (l1In_ok _ _ _ _).mono ?_; rintro v h' ⟨rfl, e'⟩; subst h'; conv => whnf)
      | (refine (sCatalan_ok _ _ (by omega)).mono ?_; rintro v h' ⟨rfl, hk'⟩; have hs' := St.keep (by assumption) hk'; conv => whnf)
      | (refine (l3Ways_ok _ _ _ (by omega)).mono ?_; rintro v h' ⟨rfl, hk'⟩; have hs' := St.keep (by assumption) hk'; conv => whnf)
      | (refine Br.tt ?_; conv => whnf)
      | (refine Br.ff ?_; conv => whnf)
      | refine Br.not ?_
      | (refine Br.t (beq_self_eq_true _) ?_; conv => whnf)
      | (refine Br.t (by assumption) ?_; conv => whnf)
      | (refine Br.f (by assumption) ?_; conv => whnf)
      | (refine Br.dt (by omega) ?_; conv => whnf)
      | (refine Br.df (by omega) ?_; conv => whnf)
      | (refine Br.it (by omega) ?_; conv => whnf)
      | (refine Br.if (by omega) ?_; conv => whnf)
      | (refine Br.nt (by omega) ?_; conv => whnf)
      | (refine Br.nf (by omega) ?_; conv => whnf)
      | (refine Br.dec (fun hc => ?_) (fun hc => ?_) <;> conv => whnf)
      | (refine Br.ieq (fun hc => ?_) (fun hc => ?_) <;> conv => whnf)
      | (refine Br.ine (fun hc => ?_) (fun hc => ?_) <;> conv => whnf)
      | (refine Br.mk (fun hc => ?_) (fun hc => ?_) <;> conv => whnf)
      | (refine Wr.i64 (by omega) ?_; conv => whnf)
      | (refine Ck.mk (by omega) ?_; conv => whnf)
      | (refine Wr.i64 (by simp only [List.length_drop, List.length_take, List.length_append, List.length_cons, List.length_nil]; omega) ?_; conv => whnf)
      | (refine Ck.mk (by simp only [List.length_drop, List.length_take, List.length_append, List.length_cons, List.length_nil]; omega) ?_; conv => whnf)
      | (refine Ck.mk (by simp; omega) ?_; conv => whnf))
    exact ⟨w, rfl, hm w dyAll_end, hk1⟩

set_option maxHeartbeats 1000000 in
theorem l23Any_ok (H0 h : H) (c : Nat) (L : List (Nat × Blk)) (s : CurSt H0 h c L) : AC env 95 [.ptr c 0] h fun w h' => ∃ (b : Nat) (l : List Int), w = .slice b 0 l.length l.length ∧ l.length ≤ 12 ∧ CurSt H0 h' c ((b, row (ints l)) :: L) := by
  refine AC.enter Try.func95 Try.call95 rfl Try.ntmps95 (of_decide_eq_true (by rfl)) ?_
  repeat' (first
    | (refine (l1Once_ok 10 _ _ _ _ s).mono ?_; rintro w h1 ⟨xO, rfl, hc1⟩; conv => whnf)
    | (refine (l9Any_ok _ _ _ _ hc1).mono ?_; rintro w h2 ⟨bb, y, rfl, hy, hc2⟩; conv => whnf)
    | (refine (l1Below_ok _ _ _ _ _ hc1).mono ?_; rintro w h3 ⟨xB, rfl, hxB, hxB2, hc3⟩; conv => whnf)
    | (refine (l2DrawI_ok _ _ _ _ _ hc3 (by omega)).mono ?_; rintro w h4 ⟨u, rfl, hu, hc4⟩; conv => whnf)
    | (refine (sMatchingP_ok (dyP_ok (by omega) hu) (by omega) _).mono ?_; rintro w h5 ⟨ba, rfl, hna⟩; have hc5 := CurSt.newCall hc4 hna; conv => whnf)
    | refine AW.seq ?_
    | (refine AW.region ?_; conv => whnf)
    | refine AW.block ?_
    | (refine AW.skip ?_; conv => whnf)
    | (refine AW.ret ?_; conv => whnf)
    | (refine AW.exit ?_; conv => whnf)
    | refine AW.cond (by rfl) ?_
    | (refine (l1Once_ok _ _ _ _ _ (by assumption)).mono ?_; rintro w h' ⟨xO, rfl, hcur⟩; conv => whnf)
    | (refine (l9Any_ok _ _ _ _ (by assumption)).mono ?_; rintro w h' ⟨bN, lN, rfl, hlN, hcur⟩; conv => whnf)
    | (refine (l1Below_ok _ _ _ _ _ (by assumption)).mono ?_; rintro w h' ⟨xB, rfl, hxB, hxB2, hcur⟩; conv => whnf)
    | (refine Br.tt ?_; conv => whnf)
    | (refine Br.ff ?_; conv => whnf)
    | refine Br.not ?_
    | (refine Br.t (beq_self_eq_true _) ?_; conv => whnf)
    | (refine Br.t (by assumption) ?_; conv => whnf)
    | (refine Br.f (by assumption) ?_; conv => whnf)
    | (refine Br.dt (by omega) ?_; conv => whnf)
    | (refine Br.df (by omega) ?_; conv => whnf)
    | (refine Br.it (by omega) ?_; conv => whnf)
    | (refine Br.if (by omega) ?_; conv => whnf)
    | (refine Br.nt (by omega) ?_; conv => whnf)
    | (refine Br.nf (by omega) ?_; conv => whnf)
    | (refine Br.dec (fun hc => ?_) (fun hc => ?_) <;> conv => whnf)
    | (refine Br.ieq (fun hc => ?_) (fun hc => ?_) <;> conv => whnf)
    | (refine Br.ine (fun hc => ?_) (fun hc => ?_) <;> conv => whnf)
    | (refine Br.mk (fun hc => ?_) (fun hc => ?_) <;> conv => whnf)
    | (refine Wr.i64 (by omega) ?_; conv => whnf)
    | (refine Ck.mk (by omega) ?_; conv => whnf)
    | (refine Wr.i64 (by simp only [List.length_drop, List.length_take, List.length_append, List.length_cons, List.length_nil]; omega) ?_; conv => whnf)
    | (refine Ck.mk (by simp only [List.length_drop, List.length_take, List.length_append, List.length_cons, List.length_nil]; omega) ?_; conv => whnf)
    | (refine Ck.mk (by simp; omega) ?_; conv => whnf))
  · exact ⟨bb, y, rfl, hy, hc2⟩
  · exact ⟨ba, _, rfl, by rw [dyP_size (by omega) hu]; omega, hc5⟩
theorem drawIsDiagram_ok (l : List UInt8) (v : AV) (h0 : H) (hv : CellsAt h0 v (bytesAV l)) (hl : l.length ≤ 1048576) : AC env 29 [v] h0 fun w h' => ∃ (b : Nat) (y : List Int), w = .slice b 0 y.length y.length ∧ y.length ≤ 12 ∧ St h0 h' [(b, row (ints y))] := by
  have hv2 := hv
  rcases hv2 with ⟨rfl, e⟩ | ⟨b, cp, rfl, hb⟩
  all_goals
    refine AC.enter Try.func29 Try.call29 rfl Try.ntmps29 (of_decide_eq_true (by rfl)) ?_
    repeat' (first
      | (refine (l1New_ok l _ _ hv hl).mono ?_; rintro w h' ⟨c, rfl, hc⟩; conv => whnf)
      | (refine (l23Any_ok _ _ _ _ hc).mono ?_; rintro w h' ⟨bb, y, rfl, hy, hc6⟩; conv => whnf)
      | refine AW.seq ?_
      | (refine AW.region ?_; conv => whnf)
      | refine AW.block ?_
      | (refine AW.skip ?_; conv => whnf)
      | (refine AW.ret ?_; conv => whnf)
      | (refine AW.exit ?_; conv => whnf)
      | refine AW.cond (by rfl) ?_
      | (refine (l1New_ok _ _ _ (by assumption) (by omega)).mono ?_; rintro w h' ⟨c, rfl, hcur⟩; conv => whnf)
      | (refine (l23Any_ok _ _ _ _ (by assumption)).mono ?_; rintro w h' ⟨bN, lN, rfl, hlN, hcur⟩; conv => whnf)
      | (refine Br.tt ?_; conv => whnf)
      | (refine Br.ff ?_; conv => whnf)
      | refine Br.not ?_
      | (refine Br.t (beq_self_eq_true _) ?_; conv => whnf)
      | (refine Br.t (by assumption) ?_; conv => whnf)
      | (refine Br.f (by assumption) ?_; conv => whnf)
      | (refine Br.dt (by omega) ?_; conv => whnf)
      | (refine Br.df (by omega) ?_; conv => whnf)
      | (refine Br.it (by omega) ?_; conv => whnf)
      | (refine Br.if (by omega) ?_; conv => whnf)
      | (refine Br.nt (by omega) ?_; conv => whnf)
      | (refine Br.nf (by omega) ?_; conv => whnf)
      | (refine Br.dec (fun hc => ?_) (fun hc => ?_) <;> conv => whnf)
      | (refine Br.ieq (fun hc => ?_) (fun hc => ?_) <;> conv => whnf)
      | (refine Br.ine (fun hc => ?_) (fun hc => ?_) <;> conv => whnf)
      | (refine Br.mk (fun hc => ?_) (fun hc => ?_) <;> conv => whnf)
      | (refine Wr.i64 (by omega) ?_; conv => whnf)
      | (refine Ck.mk (by omega) ?_; conv => whnf)
      | (refine Wr.i64 (by simp only [List.length_drop, List.length_take, List.length_append, List.length_cons, List.length_nil]; omega) ?_; conv => whnf)
      | (refine Ck.mk (by simp only [List.length_drop, List.length_take, List.length_append, List.length_cons, List.length_nil]; omega) ?_; conv => whnf)
      | (refine Ck.mk (by simp; omega) ?_; conv => whnf))
    exact ⟨bb, y, rfl, hy, hc6.st⟩
theorem drawIdentity_ok (l : List UInt8) (v : AV) (h0 : H) (hv : CellsAt h0 v (bytesAV l)) (hl : l.length ≤ 1048576) : AC env 30 [v] h0 fun w h' => ∃ n : Int, w = .int .i64 n ∧ (-1 ≤ n ∧ n ≤ 9) ∧ Keeps h0 h' := by
  have hv2 := hv
  rcases hv2 with ⟨rfl, e⟩ | ⟨b, cp, rfl, hb⟩
  all_goals
    refine AC.enter Try.func30 Try.call30 rfl Try.ntmps30 (of_decide_eq_true (by rfl)) ?_
    repeat' (first
      | (refine (l1New_ok l _ _ hv hl).mono ?_; rintro w h' ⟨c, rfl, hc⟩; conv => whnf)
      | (refine (l1Below_ok _ _ _ _ _ hc).mono ?_; rintro w h' ⟨x, rfl, hx1, hx2, hc2⟩; conv => whnf)
      | refine AW.seq ?_
      | (refine AW.region ?_; conv => whnf)
      | refine AW.block ?_
      | (refine AW.skip ?_; conv => whnf)
      | (refine AW.ret ?_; conv => whnf)
      | (refine AW.exit ?_; conv => whnf)
      | refine AW.cond (by rfl) ?_
      | (refine (l1New_ok _ _ _ (by assumption) (by omega)).mono ?_; rintro w h' ⟨c, rfl, hcur⟩; conv => whnf)
      | (refine (l1Below_ok _ _ _ _ _ (by assumption)).mono ?_; rintro w h' ⟨xB, rfl, hxB, hxB2, hcur⟩; conv => whnf)
      | (refine Br.tt ?_; conv => whnf)
      | (refine Br.ff ?_; conv => whnf)
      | refine Br.not ?_
      | (refine Br.t (beq_self_eq_true _) ?_; conv => whnf)
      | (refine Br.t (by assumption) ?_; conv => whnf)
      | (refine Br.f (by assumption) ?_; conv => whnf)
      | (refine Br.dt (by omega) ?_; conv => whnf)
      | (refine Br.df (by omega) ?_; conv => whnf)
      | (refine Br.it (by omega) ?_; conv => whnf)
      | (refine Br.if (by omega) ?_; conv => whnf)
      | (refine Br.nt (by omega) ?_; conv => whnf)
      | (refine Br.nf (by omega) ?_; conv => whnf)
      | (refine Br.dec (fun hc => ?_) (fun hc => ?_) <;> conv => whnf)
      | (refine Br.ieq (fun hc => ?_) (fun hc => ?_) <;> conv => whnf)
      | (refine Br.ine (fun hc => ?_) (fun hc => ?_) <;> conv => whnf)
      | (refine Br.mk (fun hc => ?_) (fun hc => ?_) <;> conv => whnf)
      | (refine Wr.i64 (by omega) ?_; conv => whnf)
      | (refine Ck.mk (by omega) ?_; conv => whnf)
      | (refine Wr.i64 (by simp only [List.length_drop, List.length_take, List.length_append, List.length_cons, List.length_nil]; omega) ?_; conv => whnf)
      | (refine Ck.mk (by simp only [List.length_drop, List.length_take, List.length_append, List.length_cons, List.length_nil]; omega) ?_; conv => whnf)
      | (refine Ck.mk (by simp; omega) ?_; conv => whnf))
    exact ⟨_, rfl, by omega, hc2.keeps⟩
theorem drawHook_ok (l : List UInt8) (v : AV) (h0 : H) (hv : CellsAt h0 v (bytesAV l)) (hl : l.length ≤ 1048576) : AC env 23 [v] h0 fun w h' => ∃ n i : Int, w = .tup [.int .i64 n, .int .i64 i] ∧ (0 ≤ n ∧ n ≤ 9) ∧ (-1 ≤ i ∧ i ≤ 7) ∧ Keeps h0 h' := by
  have hv2 := hv
  rcases hv2 with ⟨rfl, e⟩ | ⟨b, cp, rfl, hb⟩
  all_goals
    refine AC.enter Try.func23 Try.call23 rfl Try.ntmps23 (of_decide_eq_true (by rfl)) ?_
    repeat' (first
      | (refine (l1New_ok l _ _ hv hl).mono ?_; rintro w h' ⟨c, rfl, hc⟩; conv => whnf)
      | (refine (l1Below_ok 10 _ _ _ _ hc).mono ?_; rintro w h' ⟨x, rfl, hx1, hx2, hc2⟩; conv => whnf)
      | (refine (l1Below_ok 9 _ _ _ _ hc2).mono ?_; rintro w h' ⟨y, rfl, hy1, hy2, hc3⟩; conv => whnf)
      | refine AW.seq ?_
      | (refine AW.region ?_; conv => whnf)
      | refine AW.block ?_
      | (refine AW.skip ?_; conv => whnf)
      | (refine AW.ret ?_; conv => whnf)
      | (refine AW.exit ?_; conv => whnf)
      | refine AW.cond (by rfl) ?_
      | (refine (l1New_ok _ _ _ (by assumption) (by omega)).mono ?_; rintro w h' ⟨c, rfl, hcur⟩; conv => whnf)
      | (refine (l1Below_ok _ _ _ _ _ (by assumption)).mono ?_; rintro w h' ⟨xB, rfl, hxB, hxB2, hcur⟩; conv => whnf)
      | (refine Br.tt ?_; conv => whnf)
      | (refine Br.ff ?_; conv => whnf)
      | refine Br.not ?_
      | (refine Br.t (beq_self_eq_true _) ?_; conv => whnf)
      | (refine Br.t (by assumption) ?_; conv => whnf)
      | (refine Br.f (by assumption) ?_; conv => whnf)
      | (refine Br.dt (by omega) ?_; conv => whnf)
      | (refine Br.df (by omega) ?_; conv => whnf)
      | (refine Br.it (by omega) ?_; conv => whnf)
      | (refine Br.if (by omega) ?_; conv => whnf)
      | (refine Br.nt (by omega) ?_; conv => whnf)
      | (refine Br.nf (by omega) ?_; conv => whnf)
      | (refine Br.dec (fun hc => ?_) (fun hc => ?_) <;> conv => whnf)
      | (refine Br.ieq (fun hc => ?_) (fun hc => ?_) <;> conv => whnf)
      | (refine Br.ine (fun hc => ?_) (fun hc => ?_) <;> conv => whnf)
      | (refine Br.mk (fun hc => ?_) (fun hc => ?_) <;> conv => whnf)
      | (refine Wr.i64 (by omega) ?_; conv => whnf)
      | (refine Ck.mk (by omega) ?_; conv => whnf)
      | (refine Wr.i64 (by simp only [List.length_drop, List.length_take, List.length_append, List.length_cons, List.length_nil]; omega) ?_; conv => whnf)
      | (refine Ck.mk (by simp only [List.length_drop, List.length_take, List.length_append, List.length_cons, List.length_nil]; omega) ?_; conv => whnf)
      | (refine Ck.mk (by simp; omega) ?_; conv => whnf))
    exact ⟨_, _, rfl, by omega, by omega, hc3.keeps⟩
/-- a diagram of a path of one to five rises, and a row -/
def DrawM (h0 : H) (w : AV) (h' : H) : Prop := ∃ (a b : List Int) (ba bb : Nat), w = .tup [.slice ba 0 a.length a.length, .slice bb 0 b.length b.length] ∧ (∃ n u, (1 ≤ n ∧ n ≤ 5) ∧ u ∈ dyP n ∧ a = ptL u) ∧ b.length ≤ 12 ∧ St h0 h' [(bb, row (ints b)), (ba, row (ints a))]
set_option maxHeartbeats 2000000 in
theorem drawMultiply_ok (l : List UInt8) (v : AV) (h0 : H) (hv : CellsAt h0 v (bytesAV l)) (hl : l.length ≤ 1048576) : AC env 9 [v] h0 (DrawM h0) := by
  have hv2 := hv
  rcases hv2 with ⟨rfl, e⟩ | ⟨b, cp, rfl, hb⟩
  all_goals
    refine AC.enter Try.func9 Try.call9 rfl Try.ntmps9 (of_decide_eq_true (by rfl)) ?_
    repeat' (first
      | (refine (l1New_ok l _ _ hv hl).mono ?_; rintro w h' ⟨c, rfl, hc⟩; conv => whnf)
      | (refine (l1Below_ok _ _ _ _ _ hc).mono ?_; rintro w h' ⟨n, rfl, hn1, hn2, hc2⟩; have hn5 : 1 ≤ (1 + n).toNat ∧ (1 + n).toNat ≤ 5 := (by have := hn2 (by omega); omega); clear hc; conv => whnf)
      | (refine (l2DrawI_ok _ _ _ _ _ hc2 (by omega)).mono ?_; rintro w h' ⟨u, rfl, hu, hc3⟩; clear hc2; conv => whnf)
      | (refine (sMatchingP_ok (dyP_ok (by omega) hu) (by omega) _).mono ?_; rintro w h' ⟨ba, rfl, hna⟩; have hc4 := CurSt.newCall hc3 hna; clear hc3 hna; conv => whnf)
      | (refine (l1Once_ok _ _ _ _ _ hc4).mono ?_; rintro w h' ⟨xO, rfl, hc5⟩; clear hc4; conv => whnf)
      | (refine (l23Any_ok _ _ _ _ hc5).mono ?_; rintro w h' ⟨bb, y, rfl, hy, hc6⟩; clear hc5; conv => whnf)
      | (refine (l2DrawI_ok _ _ _ _ _ hc5 (by omega)).mono ?_; rintro w h' ⟨x, rfl, hx, hc6⟩; clear hc5; conv => whnf)
      | (refine (sMatchingP_ok (dyP_ok (by omega) hx) (by omega) _).mono ?_; rintro w h' ⟨bb, rfl, hnb⟩; have hc7 := CurSt.newCall hc6 hnb; clear hc6 hnb; conv => whnf)
      | refine AW.seq ?_
      | (refine AW.region ?_; conv => whnf)
      | refine AW.block ?_
      | (refine AW.skip ?_; conv => whnf)
      | (refine AW.ret ?_; conv => whnf)
      | (refine AW.exit ?_; conv => whnf)
      | refine AW.cond (by rfl) ?_
      | (refine (l1New_ok _ _ _ (by assumption) (by omega)).mono ?_; rintro w h' ⟨c, rfl, hcur⟩; conv => whnf)
      | (refine (l1Below_ok _ _ _ _ _ (by assumption)).mono ?_; rintro w h' ⟨xB, rfl, hxB, hxB2, hcur⟩; conv => whnf)
      | (refine (l1Once_ok _ _ _ _ _ (by assumption)).mono ?_; rintro w h' ⟨xO, rfl, hcur⟩; conv => whnf)
      | (refine (l23Any_ok _ _ _ _ (by assumption)).mono ?_; rintro w h' ⟨bN, lN, rfl, hlN, hcur⟩; conv => whnf)
      | (refine Br.tt ?_; conv => whnf)
      | (refine Br.ff ?_; conv => whnf)
      | refine Br.not ?_
      | (refine Br.t (beq_self_eq_true _) ?_; conv => whnf)
      | (refine Br.t (by assumption) ?_; conv => whnf)
      | (refine Br.f (by assumption) ?_; conv => whnf)
      | (refine Br.dt (by omega) ?_; conv => whnf)
      | (refine Br.df (by omega) ?_; conv => whnf)
      | (refine Br.it (by omega) ?_; conv => whnf)
      | (refine Br.if (by omega) ?_; conv => whnf)
      | (refine Br.nt (by omega) ?_; conv => whnf)
      | (refine Br.nf (by omega) ?_; conv => whnf)
      | (refine Br.dec (fun hc => ?_) (fun hc => ?_) <;> conv => whnf)
      | (refine Br.ieq (fun hc => ?_) (fun hc => ?_) <;> conv => whnf)
      | (refine Br.ine (fun hc => ?_) (fun hc => ?_) <;> conv => whnf)
      | (refine Br.mk (fun hc => ?_) (fun hc => ?_) <;> conv => whnf)
      | (refine Wr.i64 (by omega) ?_; conv => whnf)
      | (refine Ck.mk (by omega) ?_; conv => whnf)
      | (refine Wr.i64 (by simp only [List.length_drop, List.length_take, List.length_append, List.length_cons, List.length_nil]; omega) ?_; conv => whnf)
      | (refine Ck.mk (by simp only [List.length_drop, List.length_take, List.length_append, List.length_cons, List.length_nil]; omega) ?_; conv => whnf)
      | (refine Ck.mk (by simp; omega) ?_; conv => whnf))
    · exact ⟨_, y, _, bb, rfl, ⟨_, u, hn5, hu, rfl⟩, hy, hc6.st⟩
    · exact ⟨_, _, _, bb, rfl, ⟨_, u, hn5, hu, rfl⟩, by rw [dyP_size (by omega) hx]; omega, hc7.st⟩
set_option maxHeartbeats 2000000 in
theorem drawDiaWord_ok (l : List UInt8) (v : AV) (h0 : H) (hv : CellsAt h0 v (bytesAV l)) (hl : l.length ≤ 1048576) : AC env 26 [v] h0 fun w h' => ∃ (n : Int) (y : List Int) (b : Nat), w = .tup [.int .i64 n, .slice b 0 y.length y.length] ∧ (1 ≤ n ∧ n ≤ 5) ∧ y.length ≤ 8 ∧ St h0 h' [(b, row (ints y))] := by
  have hv2 := hv
  rcases hv2 with ⟨rfl, e⟩ | ⟨b, cp, rfl, hb⟩
  all_goals
    refine AC.enter Try.func26 Try.call26 rfl Try.ntmps26 (of_decide_eq_true (by rfl)) ?_
    repeat' (first
      | (refine (l1New_ok l _ _ hv hl).mono ?_; rintro w h' ⟨c, rfl, hc⟩; conv => whnf)
      | (refine (l1Below_ok 5 _ _ _ _ hc).mono ?_; rintro w h' ⟨n, rfl, hn1, hn2, hc2⟩; clear hc; conv => whnf)
      | (refine NewG.cur hc2 (fun bw h' hc3 => ?_); conv => whnf)
      | (refine (l1Below_ok 7 _ _ _ _ hc3).mono ?_; rintro w h' ⟨k, rfl, hk1, hk2, hc4⟩; clear hc3; conv => whnf)
      | refine AW.seq ?_
      | (refine AW.region ?_; conv => whnf)
      | refine AW.block ?_
      | (refine AW.skip ?_; conv => whnf)
      | (refine AW.ret ?_; conv => whnf)
      | (refine AW.exit ?_; conv => whnf)
      | refine AW.cond (by rfl) ?_
      | (refine (l1New_ok _ _ _ (by assumption) (by omega)).mono ?_; rintro w h' ⟨c, rfl, hcur⟩; conv => whnf)
      | (refine (l1Below_ok _ _ _ _ _ (by assumption)).mono ?_; rintro w h' ⟨xB, rfl, hxB, hxB2, hcur⟩; conv => whnf)
      | (refine (l1Once_ok _ _ _ _ _ (by assumption)).mono ?_; rintro w h' ⟨xO, rfl, hcur⟩; conv => whnf)
      | (refine Br.tt ?_; conv => whnf)
      | (refine Br.ff ?_; conv => whnf)
      | refine Br.not ?_
      | (refine Br.t (beq_self_eq_true _) ?_; conv => whnf)
      | (refine Br.t (by assumption) ?_; conv => whnf)
      | (refine Br.f (by assumption) ?_; conv => whnf)
      | (refine Br.dt (by omega) ?_; conv => whnf)
      | (refine Br.df (by omega) ?_; conv => whnf)
      | (refine Br.it (by omega) ?_; conv => whnf)
      | (refine Br.if (by omega) ?_; conv => whnf)
      | (refine Br.nt (by omega) ?_; conv => whnf)
      | (refine Br.nf (by omega) ?_; conv => whnf)
      | (refine Br.dec (fun hc => ?_) (fun hc => ?_) <;> conv => whnf)
      | (refine Br.ieq (fun hc => ?_) (fun hc => ?_) <;> conv => whnf)
      | (refine Br.ine (fun hc => ?_) (fun hc => ?_) <;> conv => whnf)
      | (refine Br.mk (fun hc => ?_) (fun hc => ?_) <;> conv => whnf)
      | (refine Wr.i64 (by omega) ?_; conv => whnf)
      | (refine Ck.mk (by omega) ?_; conv => whnf)
      | (refine Wr.i64 (by simp only [List.length_drop, List.length_take, List.length_append, List.length_cons, List.length_nil]; omega) ?_; conv => whnf)
      | (refine Ck.mk (by simp only [List.length_drop, List.length_take, List.length_append, List.length_cons, List.length_nil]; omega) ?_; conv => whnf)
      | (refine NewG.st (by assumption) (fun bt h' hs' => ?_); conv => whnf)
      | (refine LoadsG.has (by first | assumption | exact St.has (by assumption) (by repeat first | exact .head _ | apply List.Mem.tail) | exact St.arg (by assumption) (by assumption)) (by simp) ?_; conv => whnf)
      | (refine AppG.stZ (by assumption) (by intro b'; repeat first | exact .here | apply Spot.there) (by first | (simp; done) | omega | (simp only [List.length_set, List.length_append, List.length_cons, List.length_nil, List.length_replicate, tab_length]; omega) | (simp; omega)) (by first | (simp; done) | omega | (simp only [List.length_set, List.length_append, List.length_cons, List.length_nil, List.length_replicate, tab_length]; omega) | (simp; omega)) (by decide) (fun b' h' hs' => ?_); conv => whnf)
      | (refine AppG.stZs (by assumption) (by intro b'; repeat first | exact .here | apply Spot.there) (by first | (simp; done) | omega | (simp only [List.length_set, List.length_append, List.length_cons, List.length_nil, List.length_replicate, tab_length]; omega) | (simp; omega)) (by first | (simp; done) | omega | (simp only [List.length_set, List.length_append, List.length_cons, List.length_nil, List.length_replicate, tab_length]; omega) | (simp; omega)) (by decide) (fun b' h' hs' => ?_); conv => whnf)
      | (refine Ck.mk (by simp; omega) ?_; conv => whnf))
    obtain ⟨h1, rfl⟩ : ∃ q, q = h' := ⟨_, rfl⟩
    refine AW.loop3 (fun (k : Int) (y : List Int) (bw : Nat) => [(4, .ptr c 0), (5, .int .i64 (1 + n)), (6, .slice bw 0 y.length y.length), (7, .int .i64 k)]) (fun k y bw h' => (0 ≤ k ∧ y.length + k ≤ 6) ∧ CurSt h0 h' c [(bw, row (ints y))]) (fun k _ _ => k.toNat) k [] bw
      (Less.cons rfl (Less.cons rfl (Less.cons rfl (Less.cons rfl (Less.nil _))))) ⟨by simp; omega, hc4⟩ ?_
    rintro k y bw h2 ⟨hk, hc5⟩
    clear hc4
    by_cases hlt : 0 < k ∧ 0 < n
    · repeat' (first
        | (refine (l1Below_ok _ _ _ _ _ hc5).mono ?_; rintro w h' ⟨x, rfl, hx1, hx2, hc6⟩; clear hc5; conv => whnf)
        | (refine NewG.cur hc6 (fun bx h' hc7 => ?_); conv => whnf)
        | (refine LoadsG.has (St.has (CurSt.st hc7) (.head _)) (by simp) ?_; conv => whnf)
        | (refine AppG.curZ hc7 (fun b' => .there .here) rfl (by omega) (by decide) (fun by' h' hc8 => ?_); conv => whnf)
        | refine AW.seq ?_
        | (refine AW.region ?_; conv => whnf)
        | refine AW.block ?_
        | (refine AW.skip ?_; conv => whnf)
        | (refine AW.ret ?_; conv => whnf)
        | (refine AW.exit ?_; conv => whnf)
        | refine AW.cond (by rfl) ?_
        | (refine (l1New_ok _ _ _ (by assumption) (by omega)).mono ?_; rintro w h' ⟨c, rfl, hcur⟩; conv => whnf)
        | (refine (l1Below_ok _ _ _ _ _ (by assumption)).mono ?_; rintro w h' ⟨xB, rfl, hxB, hxB2, hcur⟩; conv => whnf)
        | (refine (l1Once_ok _ _ _ _ _ (by assumption)).mono ?_; rintro w h' ⟨xO, rfl, hcur⟩; conv => whnf)
        | (refine Br.tt ?_; conv => whnf)
        | (refine Br.ff ?_; conv => whnf)
        | refine Br.not ?_
        | (refine Br.t (beq_self_eq_true _) ?_; conv => whnf)
        | (refine Br.t (by assumption) ?_; conv => whnf)
        | (refine Br.f (by assumption) ?_; conv => whnf)
        | (refine Br.dt (by omega) ?_; conv => whnf)
        | (refine Br.df (by omega) ?_; conv => whnf)
        | (refine Br.it (by omega) ?_; conv => whnf)
        | (refine Br.if (by omega) ?_; conv => whnf)
        | (refine Br.nt (by omega) ?_; conv => whnf)
        | (refine Br.nf (by omega) ?_; conv => whnf)
        | (refine Br.dec (fun hc => ?_) (fun hc => ?_) <;> conv => whnf)
        | (refine Br.ieq (fun hc => ?_) (fun hc => ?_) <;> conv => whnf)
        | (refine Br.ine (fun hc => ?_) (fun hc => ?_) <;> conv => whnf)
        | (refine Br.mk (fun hc => ?_) (fun hc => ?_) <;> conv => whnf)
        | (refine Wr.i64 (by omega) ?_; conv => whnf)
        | (refine Ck.mk (by omega) ?_; conv => whnf)
        | (refine Wr.i64 (by simp only [List.length_drop, List.length_take, List.length_append, List.length_cons, List.length_nil]; omega) ?_; conv => whnf)
        | (refine Ck.mk (by simp only [List.length_drop, List.length_take, List.length_append, List.length_cons, List.length_nil]; omega) ?_; conv => whnf)
        | (refine NewG.st (by assumption) (fun bt h' hs' => ?_); conv => whnf)
        | (refine LoadsG.has (by first | assumption | exact St.has (by assumption) (by repeat first | exact .head _ | apply List.Mem.tail) | exact St.arg (by assumption) (by assumption)) (by simp) ?_; conv => whnf)
        | (refine AppG.stZ (by assumption) (by intro b'; repeat first | exact .here | apply Spot.there) (by first | (simp; done) | omega | (simp only [List.length_set, List.length_append, List.length_cons, List.length_nil, List.length_replicate, tab_length]; omega) | (simp; omega)) (by first | (simp; done) | omega | (simp only [List.length_set, List.length_append, List.length_cons, List.length_nil, List.length_replicate, tab_length]; omega) | (simp; omega)) (by decide) (fun b' h' hs' => ?_); conv => whnf)
        | (refine AppG.stZs (by assumption) (by intro b'; repeat first | exact .here | apply Spot.there) (by first | (simp; done) | omega | (simp only [List.length_set, List.length_append, List.length_cons, List.length_nil, List.length_replicate, tab_length]; omega) | (simp; omega)) (by first | (simp; done) | omega | (simp only [List.length_set, List.length_append, List.length_cons, List.length_nil, List.length_replicate, tab_length]; omega) | (simp; omega)) (by decide) (fun b' h' hs' => ?_); conv => whnf)
        | (refine Ck.mk (by simp; omega) ?_; conv => whnf))
      refine ⟨k - 1, y ++ [x], by', ?_, ⟨by simp only [List.length_append, List.length_cons, List.length_nil]; omega, hc8.sub (List.sublist_cons_self _ _)⟩, by omega⟩
      simp only [List.length_append, List.length_cons, List.length_nil]
      exact (Less.cons rfl (Less.cons rfl (Less.cons rfl (Less.cons rfl (Less.nil _)))))
    · repeat' (first
        | (refine (l1Once_ok 12 _ _ _ _ hc5).mono ?_; rintro w h' ⟨xO, rfl, hc6⟩; clear hc5; conv => whnf)
        | (refine NewG.cur hc6 (fun bp h' hc7 => ?_); conv => whnf)
        | (refine (l1PickInt_ok [-1, 1 + n, 9223372036854775807] _ _ _ _ _ _ _ hc7 (.head _) rfl (by simp) (by simp)).mono ?_; rintro w h7 ⟨m, rfl, hm, hc8⟩; clear hc7; conv => whnf)
        | (refine NewG.cur hc8 (fun bq h' hc9 => ?_); conv => whnf)
        | (refine LoadsG.has (St.has (CurSt.st hc9) (.head _)) (by simp) ?_; conv => whnf)
        | (refine AppG.curZ hc9 (fun b' => .there (.there .here)) rfl (by omega) (by decide) (fun by' h' hc10 => ?_); conv => whnf)
        | (refine Br.df (by omega) ?_; conv => whnf)
        | refine AW.seq ?_
        | (refine AW.region ?_; conv => whnf)
        | refine AW.block ?_
        | (refine AW.skip ?_; conv => whnf)
        | (refine AW.ret ?_; conv => whnf)
        | (refine AW.exit ?_; conv => whnf)
        | refine AW.cond (by rfl) ?_
        | (refine (l1New_ok _ _ _ (by assumption) (by omega)).mono ?_; rintro w h' ⟨c, rfl, hcur⟩; conv => whnf)
        | (refine (l1Below_ok _ _ _ _ _ (by assumption)).mono ?_; rintro w h' ⟨xB, rfl, hxB, hxB2, hcur⟩; conv => whnf)
        | (refine (l1Once_ok _ _ _ _ _ (by assumption)).mono ?_; rintro w h' ⟨xO, rfl, hcur⟩; conv => whnf)
        | (refine Br.tt ?_; conv => whnf)
        | (refine Br.ff ?_; conv => whnf)
        | refine Br.not ?_
        | (refine Br.t (beq_self_eq_true _) ?_; conv => whnf)
        | (refine Br.t (by assumption) ?_; conv => whnf)
        | (refine Br.f (by assumption) ?_; conv => whnf)
        | (refine Br.dt (by omega) ?_; conv => whnf)
        | (refine Br.df (by omega) ?_; conv => whnf)
        | (refine Br.it (by omega) ?_; conv => whnf)
        | (refine Br.if (by omega) ?_; conv => whnf)
        | (refine Br.nt (by omega) ?_; conv => whnf)
        | (refine Br.nf (by omega) ?_; conv => whnf)
        | (refine Br.dec (fun hc => ?_) (fun hc => ?_) <;> conv => whnf)
        | (refine Br.ieq (fun hc => ?_) (fun hc => ?_) <;> conv => whnf)
        | (refine Br.ine (fun hc => ?_) (fun hc => ?_) <;> conv => whnf)
        | (refine Br.mk (fun hc => ?_) (fun hc => ?_) <;> conv => whnf)
        | (refine Wr.i64 (by omega) ?_; conv => whnf)
        | (refine Ck.mk (by omega) ?_; conv => whnf)
        | (refine Wr.i64 (by simp only [List.length_drop, List.length_take, List.length_append, List.length_cons, List.length_nil]; omega) ?_; conv => whnf)
        | (refine Ck.mk (by simp only [List.length_drop, List.length_take, List.length_append, List.length_cons, List.length_nil]; omega) ?_; conv => whnf)
        | (refine NewG.st (by assumption) (fun bt h' hs' => ?_); conv => whnf)
        | (refine LoadsG.has (by first | assumption | exact St.has (by assumption) (by repeat first | exact .head _ | apply List.Mem.tail) | exact St.arg (by assumption) (by assumption)) (by simp) ?_; conv => whnf)
        | (refine AppG.stZ (by assumption) (by intro b'; repeat first | exact .here | apply Spot.there) (by first | (simp; done) | omega | (simp only [List.length_set, List.length_append, List.length_cons, List.length_nil, List.length_replicate, tab_length]; omega) | (simp; omega)) (by first | (simp; done) | omega | (simp only [List.length_set, List.length_append, List.length_cons, List.length_nil, List.length_replicate, tab_length]; omega) | (simp; omega)) (by decide) (fun b' h' hs' => ?_); conv => whnf)
        | (refine AppG.stZs (by assumption) (by intro b'; repeat first | exact .here | apply Spot.there) (by first | (simp; done) | omega | (simp only [List.length_set, List.length_append, List.length_cons, List.length_nil, List.length_replicate, tab_length]; omega) | (simp; omega)) (by first | (simp; done) | omega | (simp only [List.length_set, List.length_append, List.length_cons, List.length_nil, List.length_replicate, tab_length]; omega) | (simp; omega)) (by decide) (fun b' h' hs' => ?_); conv => whnf)
        | (refine Ck.mk (by simp; omega) ?_; conv => whnf))
      all_goals first
        | exact ⟨_, y, bw, rfl, by omega, by omega, hc6.st⟩
        | exact ⟨1 + n, y ++ [m], by', by rw [show (y ++ [m]).length = y.length + 1 by simp], by omega, by simp only [List.length_append, List.length_cons, List.length_nil]; omega, hc10.st.sub ((List.sublist_cons_self _ _).trans (List.sublist_cons_self _ _))⟩

end Go.Proofs.Ytdfdlnjijccpeaa

/-
  The law of diagrams is proved.
  It holds for all codes.
-/
set_option linter.unusedVariables false
set_option linter.unusedSimpArgs false
namespace Go.Proofs.Ytdfdlnjijccpeaa
open Go.Proofs.Ytdfdlnjijccpeaa.Ab Go.Proofs.Ytdfdlnjijccpeaa.Pl

theorem cat_small {n : Nat} (hn : 1 ≤ n ∧ n ≤ 5) : ∃ C : Nat, catN (n : Int) = C ∧ bal n n = C ∧ 1 ≤ C ∧ C ≤ 42 := by
  have : n = 1 ∨ n = 2 ∨ n = 3 ∨ n = 4 ∨ n = 5 := by omega
  rcases this with rfl | rfl | rfl | rfl | rfl <;> exact ⟨_, rfl, rfl, by decide, by decide⟩
theorem place_in {x : Int} {C : Nat} (hx : 0 ≤ x ∧ x ≤ 255) (hC : 1 ≤ C ∧ C ≤ 42) : (0 ≤ x * (C : Int) ∧ x * (C : Int) ≤ 100000) ∧ 0 ≤ (x * (C : Int)).tdiv 256 ∧ (x * (C : Int)).tdiv 256 < C := by
  have a1 : 0 ≤ x * (C : Int) := Int.mul_nonneg hx.1 (by omega)
  have a2 : x * (C : Int) ≤ 255 * C := Int.mul_le_mul_of_nonneg_right hx.2 (by omega)
  have d1 : (x * (C : Int)).tdiv 256 = x * (C : Int) / 256 := Int.tdiv_eq_ediv_of_nonneg a1
  rw [d1]
  generalize x * (C : Int) = y at *
  omega

theorem Wr.half {a : List Int} {n : Nat} {K : Int → Prop} (h : a.length = 2 * n) (hn : n ≤ 1000) (hk : K (n : Int)) : Wr .i64 ((a.length : Int).tdiv 2) K := by
  have e : (a.length : Int).tdiv 2 = (n : Int) := by
    rw [h]
    have := half_len (2 * n)
    omega
  rw [e]
  exact Wr.i64 (by omega) hk
/-! the contracts where the answer is known -/
theorem iMul_ok {a b y : List Int} {k : Int} {t : Bool} (e : mulD a b = (y, k, t)) (ba bb Ca Cb : Nat) (h0 : H) (la : Has h0 ba (ints a)) (lb : Has h0 bb (ints b)) : AC env 10 [.slice ba 0 a.length Ca, .slice bb 0 b.length Cb] h0 fun v h' => ∃ c, v = .tup [.slice c 0 y.length y.length, .int .i64 k, .bool t] ∧ New h0 h' c (ints y) := by
  have := iMultiply_ok a b ba bb Ca Cb h0 la lb
  rw [e] at this
  exact this
theorem sMul_ok {a b y : List Int} {k : Int} {t : Bool} (e : mulD a b = (y, k, t)) (ba bb Ca Cb : Nat) (h0 : H) (la : Has h0 ba (ints a)) (lb : Has h0 bb (ints b)) (hLa : a.length ≤ 10000000) (hLb : b.length ≤ 10000000) : AC env 11 [.slice ba 0 a.length Ca, .slice bb 0 b.length Cb] h0 fun v h' => ∃ c, v = .tup [.slice c 0 y.length y.length, .int .i64 k, .bool t] ∧ New h0 h' c (ints y) := by
  have := sMultiply_ok a b ba bb Ca Cb h0 la lb hLa hLb
  rw [e] at this
  exact this
theorem iFlipK_ok {a y : List Int} {t : Bool} (e : flipD a = (y, t)) (ba Ca : Nat) (h0 : H) (la : Has h0 ba (ints a)) : AC env 19 [.slice ba 0 a.length Ca] h0 fun v h' => ∃ c, v = .tup [.slice c 0 y.length y.length, .bool t] ∧ New h0 h' c (ints y) := by
  have := iFlipDiagram_ok a ba Ca h0 la
  rw [e] at this
  exact this
theorem sFlipK_ok {a y : List Int} {t : Bool} (e : flipD a = (y, t)) (ba Ca : Nat) (h0 : H) (la : Has h0 ba (ints a)) (hL : a.length ≤ 10000000) : AC env 18 [.slice ba 0 a.length Ca] h0 fun v h' => ∃ c, v = .tup [.slice c 0 y.length y.length, .bool t] ∧ New h0 h' c (ints y) := by
  have := sFlipDiagram_ok a ba Ca h0 la hL
  rw [e] at this
  exact this
theorem sIdK_ok {n : Nat} (hn : 1 ≤ n ∧ n ≤ 5) (h0 : H) : AC env 17 [.int .i64 (n : Int)] h0 fun v h' => ∃ c, v = .tup [.slice c 0 (idD n).length (idD n).length, .bool true] ∧ New h0 h' c (ints (idD n)) := by
  have := sIdentityDiagram_ok (n : Int) h0
  rw [idDI_yes (by omega), Int.toNat_natCast] at this
  exact this
theorem iHookK_ok {n i : Int} {y : List Int} {t : Bool} (e : hookDI n i = (y, t)) (hn : 0 ≤ n ∧ n ≤ 100) (h0 : H) : AC env 24 [.int .i64 n, .int .i64 i] h0 fun v h' => ∃ c, v = .tup [.slice c 0 y.length y.length, .bool t] ∧ New h0 h' c (ints y) := by
  have := iHookDiagram_ok n i (by omega) h0
  rw [e] at this
  exact this
theorem sHookK_ok {n i : Int} {y : List Int} {t : Bool} (e : hookDI n i = (y, t)) (hn : 0 ≤ n ∧ n ≤ 100) (h0 : H) : AC env 25 [.int .i64 n, .int .i64 i] h0 fun v h' => ∃ c, v = .tup [.slice c 0 y.length y.length, .bool t] ∧ New h0 h' c (ints y) := by
  have := sHookDiagram_ok n i (by omega) h0
  rw [e] at this
  exact this

set_option maxHeartbeats 16000000 in
theorem diaSeg1 {h0 : H} (l : List UInt8) (v : AV) (hv : CellsAt h0 v (bytesAV l)) (hl : l.length ≤ 1048576) {Q : Exit → Fr → H → Prop} (rest : ∀ fr h, MidA h0 v fr h → AW env 437 (restL 7 (bodyOf Try.f3)) fr h Q) : ∀ fr h, MidA h0 v fr h → AW env 437 (restL 0 (bodyOf Try.f3)) fr h Q := by
  rintro fr h ⟨l1, k1⟩
  refine AW.less l1 ?_
  have hs := St.refl h
  have hv := hv.keep k1
  have hb : decide ((l.length : Int) > 1048576) = false := decide_eq_false (by omega)
  obtain ⟨M, hM⟩ : ∃ M, M = MidA h0 v := ⟨_, rfl⟩
  rw [← hM] at rest
  have hv2 := hv
  obtain ⟨rfl, e⟩ | ⟨b, c, rfl, hbb⟩ := hv2
  all_goals
    refine AW.seqL [_, _, _, _, _, _, _] (M := M) ?_ rest
    conv => whnf
    repeat' (first
      | (refine (big_ok _ _ _ hv).mono ?_; rw [hb]; rintro w h' ⟨rfl, e'⟩; subst h'; conv => whnf)
      | (refine (drawMultiply_ok _ _ _ (hv.keep (St.keeps (by assumption))) hl).mono ?_; rintro w h' ⟨a, b, ba, bb, rfl, ⟨n, uu, hn5, hu, ea⟩, hbl, hn⟩; have hs' := St.call (by assumption) hn; clear hn; dsimp only [List.cons_append, List.nil_append] at hs'; have hal : a.length = 2 * n := (by rw [ea, dyP_size (by omega) hu]); have hD := dia_cases hn5 hu b; rw [← ea] at hD; clear ea; rcases hD with ⟨y, lp, hab, hyl, hbl2, hlo, hAll⟩ | hab <;> (conv => whnf))
      | (refine (iMul_ok hab _ _ _ _ _ (by first | assumption | exact St.has (by assumption) (by repeat first | exact .head _ | apply List.Mem.tail) | exact St.arg (by assumption) (by assumption)) (by first | assumption | exact St.has (by assumption) (by repeat first | exact .head _ | apply List.Mem.tail) | exact St.arg (by assumption) (by assumption))).mono ?_; rintro w h' ⟨bx, rfl, hn⟩; have hs' := St.newCall (by assumption) hn; clear hn; conv => whnf)
      | (refine (sMul_ok hab _ _ _ _ _ (by first | assumption | exact St.has (by assumption) (by repeat first | exact .head _ | apply List.Mem.tail) | exact St.arg (by assumption) (by assumption)) (by first | assumption | exact St.has (by assumption) (by repeat first | exact .head _ | apply List.Mem.tail) | exact St.arg (by assumption) (by assumption)) (by omega) (by omega)).mono ?_; rintro w h' ⟨bx, rfl, hn⟩; have hs' := St.newCall (by assumption) hn; clear hn; conv => whnf)
      | (refine Wr.half hal (by omega) ?_; conv => whnf)
      | (refine (at_ok _ _ 3 _ (hv.keep (St.keeps (by assumption))) hl (by decide)).mono ?_; rintro w h' ⟨q, rfl, hq, e'⟩; subst h'; obtain ⟨C, hC1, hC2, hC3⟩ := cat_small hn5; have hpl := place_in hq hC3; conv => whnf)
      | (refine (sCatalan_ok _ _ (by omega)).mono ?_; rw [hC1]; rintro w h' ⟨rfl, hk⟩; have hs' := St.keep (by assumption) hk; clear hk; conv => whnf)
      | (refine (unrank_ok n _ _ (by omega) (by rw [hC2]; exact hpl.2)).mono ?_; rintro w h' ⟨ww, rfl, hww, hk⟩; have hs' := St.keep (by assumption) hk; clear hk; have hcl := dyP_size (by omega) hww; have hid := idD_len n; obtain ⟨d, e, u, v, s, z, mm, o, p, i, x1, x2, g1, g2, g3, yc, bc, ae, id, fa, fb, vu, fy, ba, ty, tz, ha, hb2, hy, sum, tr, th, bd, len⟩ := hAll ww hww; clear hAll; conv => whnf)
      | (refine (sMatchingP_ok (dyP_ok (by omega) hww) (by omega) _).mono ?_; rintro w h' ⟨bx, rfl, hn⟩; have hs' := St.newCall (by assumption) hn; clear hn; conv => whnf)
      | (refine (iMul_ok yc _ _ _ _ _ (by first | assumption | exact St.has (by assumption) (by repeat first | exact .head _ | apply List.Mem.tail) | exact St.arg (by assumption) (by assumption)) (by first | assumption | exact St.has (by assumption) (by repeat first | exact .head _ | apply List.Mem.tail) | exact St.arg (by assumption) (by assumption))).mono ?_; rintro w h' ⟨bx, rfl, hn⟩; have hs' := St.newCall (by assumption) hn; clear hn; conv => whnf)
      | (refine (iMul_ok bc _ _ _ _ _ (by first | assumption | exact St.has (by assumption) (by repeat first | exact .head _ | apply List.Mem.tail) | exact St.arg (by assumption) (by assumption)) (by first | assumption | exact St.has (by assumption) (by repeat first | exact .head _ | apply List.Mem.tail) | exact St.arg (by assumption) (by assumption))).mono ?_; rintro w h' ⟨bx, rfl, hn⟩; have hs' := St.newCall (by assumption) hn; clear hn; conv => whnf)
      | (refine (iMul_ok ae _ _ _ _ _ (by first | assumption | exact St.has (by assumption) (by repeat first | exact .head _ | apply List.Mem.tail) | exact St.arg (by assumption) (by assumption)) (by first | assumption | exact St.has (by assumption) (by repeat first | exact .head _ | apply List.Mem.tail) | exact St.arg (by assumption) (by assumption))).mono ?_; rintro w h' ⟨bx, rfl, hn⟩; have hs' := St.newCall (by assumption) hn; clear hn; conv => whnf)
      | (refine (iMul_ok vu _ _ _ _ _ (by first | assumption | exact St.has (by assumption) (by repeat first | exact .head _ | apply List.Mem.tail) | exact St.arg (by assumption) (by assumption)) (by first | assumption | exact St.has (by assumption) (by repeat first | exact .head _ | apply List.Mem.tail) | exact St.arg (by assumption) (by assumption))).mono ?_; rintro w h' ⟨bx, rfl, hn⟩; have hs' := St.newCall (by assumption) hn; clear hn; conv => whnf)
      | (refine (iMul_ok id _ _ _ _ _ (by first | assumption | exact St.has (by assumption) (by repeat first | exact .head _ | apply List.Mem.tail) | exact St.arg (by assumption) (by assumption)) (by first | assumption | exact St.has (by assumption) (by repeat first | exact .head _ | apply List.Mem.tail) | exact St.arg (by assumption) (by assumption))).mono ?_; rintro w h' ⟨bx, rfl, hn⟩; have hs' := St.newCall (by assumption) hn; clear hn; conv => whnf)
      | (refine (sIdK_ok hn5 _).mono ?_; rintro w h' ⟨bx, rfl, hn⟩; have hs' := St.newCall (by assumption) hn; clear hn; conv => whnf)
      | (refine (sFlipK_ok fa _ _ _ (by first | assumption | exact St.has (by assumption) (by repeat first | exact .head _ | apply List.Mem.tail) | exact St.arg (by assumption) (by assumption)) (by omega)).mono ?_; rintro w h' ⟨bx, rfl, hn⟩; have hs' := St.newCall (by assumption) hn; clear hn; conv => whnf)
      | (refine (sFlipK_ok fb _ _ _ (by first | assumption | exact St.has (by assumption) (by repeat first | exact .head _ | apply List.Mem.tail) | exact St.arg (by assumption) (by assumption)) (by omega)).mono ?_; rintro w h' ⟨bx, rfl, hn⟩; have hs' := St.newCall (by assumption) hn; clear hn; conv => whnf)
      | (refine (iFlipK_ok fy _ _ _ (by first | assumption | exact St.has (by assumption) (by repeat first | exact .head _ | apply List.Mem.tail) | exact St.arg (by assumption) (by assumption))).mono ?_; rintro w h' ⟨bx, rfl, hn⟩; have hs' := St.newCall (by assumption) hn; clear hn; conv => whnf)
      | (refine (sMul_ok ba _ _ _ _ _ (by first | assumption | exact St.has (by assumption) (by repeat first | exact .head _ | apply List.Mem.tail) | exact St.arg (by assumption) (by assumption)) (by first | assumption | exact St.has (by assumption) (by repeat first | exact .head _ | apply List.Mem.tail) | exact St.arg (by assumption) (by assumption)) (by omega) (by omega)).mono ?_; rintro w h' ⟨bx, rfl, hn⟩; have hs' := St.newCall (by assumption) hn; clear hn; conv => whnf)
      | (refine (sameInts_ok _ _ _ _ _ _ _ (by first | assumption | exact St.has (by assumption) (by repeat first | exact .head _ | apply List.Mem.tail) | exact St.arg (by assumption) (by assumption)) (by first | assumption | exact St.has (by assumption) (by repeat first | exact .head _ | apply List.Mem.tail) | exact St.arg (by assumption) (by assumption)) rfl (by first | omega | (simp; done))).mono ?_; rintro w h' ⟨rfl, e'⟩; subst h'; conv => whnf)
      | (refine (iTraceLoops_ok y _ _ _ (by first | assumption | exact St.has (by assumption) (by repeat first | exact .head _ | apply List.Mem.tail) | exact St.arg (by assumption) (by assumption))).mono ?_; rw [ty]; rintro v h' ⟨rfl, hk'⟩; have hs' := St.keep (by assumption) hk'; clear hk'; conv => whnf)
      | (refine (iTraceLoops_ok z _ _ _ (by first | assumption | exact St.has (by assumption) (by repeat first | exact .head _ | apply List.Mem.tail) | exact St.arg (by assumption) (by assumption))).mono ?_; rw [tz]; rintro v h' ⟨rfl, hk'⟩; have hs' := St.keep (by assumption) hk'; clear hk'; conv => whnf)
      | (refine (iThroughOf_ok y _ _ _ _ (by first | assumption | exact St.has (by assumption) (by repeat first | exact .head _ | apply List.Mem.tail) | exact St.arg (by assumption) (by assumption)) rfl (by omega)).mono ?_; rw [hy]; rintro v h' ⟨rfl, e'⟩; subst h'; conv => whnf)
      | (refine (iThroughOf_ok a _ _ _ _ (by first | assumption | exact St.has (by assumption) (by repeat first | exact .head _ | apply List.Mem.tail) | exact St.arg (by assumption) (by assumption)) rfl (by omega)).mono ?_; rw [ha]; rintro v h' ⟨rfl, e'⟩; subst h'; conv => whnf)
      | (refine (iThroughOf_ok b _ _ _ _ (by first | assumption | exact St.has (by assumption) (by repeat first | exact .head _ | apply List.Mem.tail) | exact St.arg (by assumption) (by assumption)) rfl (by omega)).mono ?_; rw [hb2]; rintro v h' ⟨rfl, e'⟩; subst h'; conv => whnf)
      | (refine (iLoopsOf_ok a b _ _ _ _ _ (by first | assumption | exact St.has (by assumption) (by repeat first | exact .head _ | apply List.Mem.tail) | exact St.arg (by assumption) (by assumption)) (by first | assumption | exact St.has (by assumption) (by repeat first | exact .head _ | apply List.Mem.tail) | exact St.arg (by assumption) (by assumption))).mono ?_; rintro v h' ⟨rfl, hk'⟩; have hs' := St.keep (by assumption) hk'; clear hk'; conv => whnf)
      | (refine AW.seqLow (T := 77) ?_; conv => whnf)
      | (refine AW.region ?_; conv => whnf)
      | (refine AW.skip ?_; conv => whnf)
      | refine AW.cond (by rfl) ?_
      | (refine Br.tt ?_; conv => whnf)
      | (refine Br.ff ?_; conv => whnf)
      | refine Br.not ?_
      | (refine Br.t (beq_self_eq_true _) ?_; conv => whnf)
      | (refine Br.dt (by omega) ?_; conv => whnf)
      | (refine Br.df (by omega) ?_; conv => whnf)
      | (refine Wr.i64 (by omega) ?_; conv => whnf)
      | (refine Ck.mk (by omega) ?_; conv => whnf))
    all_goals
      rw [hM]
      exact ⟨(Less.cons rfl (Less.nil _)), k1.trans hs'.keeps⟩
set_option maxHeartbeats 16000000 in
theorem diaSeg2 {h0 : H} (l : List UInt8) (v : AV) (hv : CellsAt h0 v (bytesAV l)) (hl : l.length ≤ 1048576) {Q : Exit → Fr → H → Prop} (rest : ∀ fr h, MidA h0 v fr h → AW env 437 (restL 12 (bodyOf Try.f3)) fr h Q) : ∀ fr h, MidA h0 v fr h → AW env 437 (restL 7 (bodyOf Try.f3)) fr h Q := by
  rintro fr h ⟨l1, k1⟩
  refine AW.less l1 ?_
  have hs2 := St.refl h
  have hv2 := hv.keep k1
  obtain ⟨M, hM⟩ : ∃ M, M = MidA h0 v := ⟨_, rfl⟩
  rw [← hM] at rest
  have hv3 := hv
  obtain ⟨rfl, e⟩ | ⟨b, c, rfl, hbb⟩ := hv3
  all_goals
    refine AW.seqL [_, _, _, _, _] (M := M) ?_ rest
    conv => whnf
    repeat' (first
      | (refine (drawHook_ok _ _ _ hv2 hl).mono ?_; rintro w h' ⟨n, i, rfl, hn, hi, hk⟩; have hs' := St.keep hs2 hk; clear hk; rcases hook_cases n i with ⟨j, hj, hjl, hjj, hi2, ⟨o, t, ho, hol, htl, hjo, htj⟩ | ho⟩ | hj <;> (conv => whnf))
      | (refine (iHookK_ok hj (by omega) _).mono ?_; rintro w h' ⟨bx, rfl, hn⟩; have hs' := St.newCall (by assumption) hn; clear hn; conv => whnf)
      | (refine (sHookK_ok hj (by omega) _).mono ?_; rintro w h' ⟨bx, rfl, hn⟩; have hs' := St.newCall (by assumption) hn; clear hn; conv => whnf)
      | (refine (sHookK_ok ho (by omega) _).mono ?_; rintro w h' ⟨bx, rfl, hn⟩; have hs' := St.newCall (by assumption) hn; clear hn; conv => whnf)
      | (refine (iMul_ok hjj _ _ _ _ _ (by first | assumption | exact St.has (by assumption) (by repeat first | exact .head _ | apply List.Mem.tail) | exact St.arg (by assumption) (by assumption)) (by first | assumption | exact St.has (by assumption) (by repeat first | exact .head _ | apply List.Mem.tail) | exact St.arg (by assumption) (by assumption))).mono ?_; rintro w h' ⟨bx, rfl, hn⟩; have hs' := St.newCall (by assumption) hn; clear hn; conv => whnf)
      | (refine (iMul_ok hjo _ _ _ _ _ (by first | assumption | exact St.has (by assumption) (by repeat first | exact .head _ | apply List.Mem.tail) | exact St.arg (by assumption) (by assumption)) (by first | assumption | exact St.has (by assumption) (by repeat first | exact .head _ | apply List.Mem.tail) | exact St.arg (by assumption) (by assumption))).mono ?_; rintro w h' ⟨bx, rfl, hn⟩; have hs' := St.newCall (by assumption) hn; clear hn; conv => whnf)
      | (refine (iMul_ok htj _ _ _ _ _ (by first | assumption | exact St.has (by assumption) (by repeat first | exact .head _ | apply List.Mem.tail) | exact St.arg (by assumption) (by assumption)) (by first | assumption | exact St.has (by assumption) (by repeat first | exact .head _ | apply List.Mem.tail) | exact St.arg (by assumption) (by assumption))).mono ?_; rintro w h' ⟨bx, rfl, hn⟩; have hs' := St.newCall (by assumption) hn; clear hn; conv => whnf)
      | (refine (sameInts_ok _ _ _ _ _ _ _ (by first | assumption | exact St.has (by assumption) (by repeat first | exact .head _ | apply List.Mem.tail) | exact St.arg (by assumption) (by assumption)) (by first | assumption | exact St.has (by assumption) (by repeat first | exact .head _ | apply List.Mem.tail) | exact St.arg (by assumption) (by assumption)) rfl (by first | omega | (simp; done))).mono ?_; rintro w h' ⟨rfl, e'⟩; subst h'; conv => whnf)
      | (refine AW.seqLow (T := 77) ?_; conv => whnf)
      | (refine AW.region ?_; conv => whnf)
      | (refine AW.skip ?_; conv => whnf)
      | refine AW.cond (by rfl) ?_
      | (refine Br.tt ?_; conv => whnf)
      | (refine Br.ff ?_; conv => whnf)
      | (refine Wr.i64 (by omega) ?_; conv => whnf))
    all_goals
      rw [hM]
      exact ⟨(Less.cons rfl (Less.nil _)), k1.trans hs'.keeps⟩
set_option maxHeartbeats 16000000 in
theorem diaSeg3 {h0 : H} (l : List UInt8) (v : AV) (hv : CellsAt h0 v (bytesAV l)) (hl : l.length ≤ 1048576) : ∀ fr h, MidA h0 v fr h → AW env 437 (restL 12 (bodyOf Try.f3)) fr h (retK Try.f3.results.toList fun v _ => v = .bool true) := by
  rintro fr h ⟨l1, k1⟩
  refine AW.less l1 ?_
  have hs3 := St.refl h
  have hv3 := hv.keep k1
  have hv4 := hv
  obtain ⟨rfl, e⟩ | ⟨b, c, rfl, hbb⟩ := hv4
  all_goals
    refine AW.seq ?_
    repeat' (first
      | (refine (drawDiaWord_ok _ _ _ hv3 hl).mono ?_; rintro w h' ⟨n, y, by', rfl, hn5, hyl, hn⟩; have hs' := St.call hs3 hn; clear hn; dsimp only [List.cons_append, List.nil_append] at hs'; have hdl := dowD_len n y; conv => whnf)
      | (refine (drawIsDiagram_ok _ _ _ (hv3.keep (St.keeps (by assumption))) hl).mono ?_; rintro w h' ⟨bm, mr, rfl, hml, hn⟩; have hs' := St.call (by assumption) hn; clear hn; dsimp only [List.cons_append, List.nil_append] at hs'; have hfl := flipD_len mr; conv => whnf)
      | (refine (drawIdentity_ok _ _ _ (hv3.keep (St.keeps (by assumption))) hl).mono ?_; rintro w h' ⟨r, rfl, hr, hk⟩; have hs' := St.keep (by assumption) hk; clear hk; have hrl := idDI_len r; conv => whnf)
      | (refine (iDiagramOfWord_ok n y _ _ _ (by first | assumption | exact St.has (by assumption) (by repeat first | exact .head _ | apply List.Mem.tail) | exact St.arg (by assumption) (by assumption)) (by omega)).mono ?_; rintro w h' ⟨bx, rfl, hn⟩; have hs' := St.newCall (by assumption) hn; clear hn; conv => whnf)
      | (refine (sDiagramOfWord_ok n y _ _ _ (by first | assumption | exact St.has (by assumption) (by repeat first | exact .head _ | apply List.Mem.tail) | exact St.arg (by assumption) (by assumption)) (by omega)).mono ?_; rintro w h' ⟨bx, rfl, hn⟩; have hs' := St.newCall (by assumption) hn; clear hn; conv => whnf)
      | (refine (iFlipDiagram_ok mr _ _ _ (by first | assumption | exact St.has (by assumption) (by repeat first | exact .head _ | apply List.Mem.tail) | exact St.arg (by assumption) (by assumption))).mono ?_; rintro w h' ⟨bx, rfl, hn⟩; have hs' := St.newCall (by assumption) hn; clear hn; conv => whnf)
      | (refine (sFlipDiagram_ok mr _ _ _ (by first | assumption | exact St.has (by assumption) (by repeat first | exact .head _ | apply List.Mem.tail) | exact St.arg (by assumption) (by assumption)) (by omega)).mono ?_; rintro w h' ⟨bx, rfl, hn⟩; have hs' := St.newCall (by assumption) hn; clear hn; conv => whnf)
      | (refine (iIdentityDiagram_ok r _).mono ?_; rintro w h' ⟨bx, rfl, hn⟩; have hs' := St.newCall (by assumption) hn; clear hn; conv => whnf)
      | (refine (sIdentityDiagram_ok r _).mono ?_; rintro w h' ⟨bx, rfl, hn⟩; have hs' := St.newCall (by assumption) hn; clear hn; conv => whnf)
      | (refine (sameInts_ok _ _ _ _ _ _ _ (by first | assumption | exact St.has (by assumption) (by repeat first | exact .head _ | apply List.Mem.tail) | exact St.arg (by assumption) (by assumption)) (by first | assumption | exact St.has (by assumption) (by repeat first | exact .head _ | apply List.Mem.tail) | exact St.arg (by assumption) (by assumption)) rfl (by first | omega | (simp; done))).mono ?_; rintro w h' ⟨rfl, e'⟩; subst h'; conv => whnf)
      | (refine AW.seqLow (T := 77) ?_; conv => whnf)
      | (refine AW.region ?_; conv => whnf)
      | (refine AW.ret ?_; conv => whnf)
      | (refine (iTraceLoops_ok _ _ _ _ (by first | assumption | exact St.has (by assumption) (by repeat first | exact .head _ | apply List.Mem.tail) | exact St.arg (by assumption) (by assumption))).mono ?_; rintro v h' ⟨rfl, hk'⟩; have hs' := St.keep (by assumption) hk'; conv => whnf)
      | (refine (iThroughOf_ok _ _ _ _ _ (by first | assumption | exact St.has (by assumption) (by repeat first | exact .head _ | apply List.Mem.tail) | exact St.arg (by assumption) (by assumption)) (by first | rfl | omega) (by first | (simp; done) | omega | (simp only [List.length_set, List.length_append, List.length_cons, List.length_nil, List.length_replicate, tab_length]; omega) | (simp; omega))).mono ?_; rintro v h' ⟨rfl, e'⟩; subst h'; conv => whnf)
      | (refine (iIsDiagram_ok _ _ _ _ _ (by first | assumption | exact St.has (by assumption) (by repeat first | exact .head _ | apply List.Mem.tail) | exact St.arg (by assumption) (by assumption)) (by first | rfl | omega)).mono ?_; rintro v h' ⟨rfl, e'⟩; subst h'; conv => whnf)
      | (refine (sIsDiagram_ok _ _ _ _ _ (by first | assumption | exact St.has (by assumption) (by repeat first | exact .head _ | apply List.Mem.tail) | exact St.arg (by assumption) (by assumption)) (by first | rfl | omega) (by first | (simp; done) | omega | (simp only [List.length_set, List.length_append, List.length_cons, List.length_nil, List.length_replicate, tab_length]; omega) | (simp; omega))).mono ?_; rintro v h' ⟨rfl, e'⟩; subst h'; conv => whnf)
      | (refine (sTraceLoops_ok _ _ _ _ (by first | assumption | exact St.has (by assumption) (by repeat first | exact .head _ | apply List.Mem.tail) | exact St.arg (by assumption) (by assumption)) (by first | (simp; done) | omega | (simp only [List.length_set, List.length_append, List.length_cons, List.length_nil, List.length_replicate, tab_length]; omega) | (simp; omega))).mono ?_; rintro v h' ⟨rfl, hk'⟩; have hs' := St.keep (by assumption) hk'; conv => whnf)
      | (refine (sThroughOf_ok _ _ _ _ _ (by first | assumption | exact St.has (by assumption) (by repeat first | exact .head _ | apply List.Mem.tail) | exact St.arg (by assumption) (by assumption)) (by first | rfl | omega) (by first | (simp; done) | omega | (simp only [List.length_set, List.length_append, List.length_cons, List.length_nil, List.length_replicate, tab_length]; omega) | (simp; omega))).mono ?_; rintro v h' ⟨rfl, e'⟩; subst h'; conv => whnf)
      | (refine (iDiagramNumber_ok _ _ _ _ (by first | assumption | exact St.has (by assumption) (by repeat first | exact .head _ | apply List.Mem.tail) | exact St.arg (by assumption) (by assumption)) (by first | (simp; done) | omega | (simp only [List.length_set, List.length_append, List.length_cons, List.length_nil, List.length_replicate, tab_length]; omega) | (simp; omega))).mono ?_; rintro v h' ⟨rfl, hk'⟩; have hs' := St.keep (by assumption) hk'; conv => whnf)
      | (refine (sDiagramNumber_ok _ _ _ _ (by first | assumption | exact St.has (by assumption) (by repeat first | exact .head _ | apply List.Mem.tail) | exact St.arg (by assumption) (by assumption)) (by first | (simp; done) | omega | (simp only [List.length_set, List.length_append, List.length_cons, List.length_nil, List.length_replicate, tab_length]; omega) | (simp; omega))).mono ?_; rintro v h' ⟨rfl, hk'⟩; have hs' := St.keep (by assumption) hk'; conv => whnf)
      | (refine Br.tt ?_; conv => whnf)
      | (refine Br.t (beq_self_eq_true _) ?_; conv => whnf))
    all_goals first
      | rfl
      | (simp; done)
set_option maxHeartbeats 4000000 in
theorem lawDiagrams_ok {h : H} (v : AV) (m : BytesArg h v) : AC env 3 [v] h fun v _ => v = .bool true := by
  obtain ⟨l, hl0, hv, e1⟩ := bytesArg_two m
  by_cases hl : l.length ≤ 1048576
  · refine AC.enter Try.func3 Try.call3 rfl Try.ntmps3 (of_decide_eq_true (by rfl)) ?_
    exact diaSeg1 l v hv hl (diaSeg2 l v hv hl (diaSeg3 l v hv hl)) _ _ ⟨(Less.cons rfl (Less.nil _)), Keeps.refl _⟩
  · have hb : decide ((l.length : Int) > 1048576) = true := decide_eq_true (by omega)
    obtain ⟨rfl, rfl⟩ | ⟨b, c, rfl⟩ := e1
    all_goals
      refine AC.enter Try.func3 Try.call3 rfl Try.ntmps3 (of_decide_eq_true (by rfl)) ?_
      repeat' (first
        | (refine (big_ok _ _ _ hv).mono ?_; rw [hb]; rintro w h' ⟨rfl, e'⟩; subst h'; conv => whnf)
        | (refine AW.seqLow (T := 77) ?_; conv => whnf)
        | (refine AW.region ?_; conv => whnf)
        | (refine AW.ret ?_; conv => whnf)
        | refine AW.cond (by rfl) ?_
        | (refine Br.tt ?_; conv => whnf))
      all_goals rfl

end Go.Proofs.Ytdfdlnjijccpeaa
