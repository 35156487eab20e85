/-
  The library's twelfth text proves what append does, and closes the laws on operations that write.
  It holds no condition of its own.
-/
import Derived.Test.YtcepogfmajlcjaaAb11
import Derived.WideKeyMaps
import Derived.MapKept
set_option linter.unusedVariables false
set_option linter.unusedSimpArgs false
namespace Go.Proofs.Ytcepogfmajlcjaa.Ab
open Go.RowKit

section
variable {E : Env} {P : Program} {T : TT} {base : Nat} {W0 : World} {β : Bt} {nxt : Nat} {h : H} {w : World} {fr : Fr} {a : Act}

/-- what is appended -/
def Src (w : World) (vx : Value) (m : Nat) (news : List Value) : Prop :=
  news.length = m ∧ ((∃ ad c, vx = .slice (some ad) m c ∧ ∀ j v, news[j]? = some v → w.cell? (ad.add j) = some v) ∨ (vx = .slice none 0 0 ∧ m = 0))

theorem app_nil0 {t ty e : TypeId} {i : TypeInfo} {vx : Value} {news : List Value} (ht : P.underlying t = some (.slice e)) (hi : P.info? e = some i) (hs : Src w vx 0 news) :
    (Builtin.append_ #[t, t] ty #[.slice none 0 0, vx]).run P w = .ok (.slice none 0 0) w := by
  obtain ⟨hl, ⟨ad, c, rfl, hn⟩ | ⟨rfl, _⟩⟩ := hs
  · simp [Builtin.append_, run_underlying ht, sizeOf, typeInfo, hi, Builtin.lenOf, Builtin.firstCells, loadCells, loadCellsFrom]
  · simp [Builtin.append_, run_underlying ht, sizeOf, typeInfo, hi, Builtin.lenOf, Builtin.firstCells]

theorem app_in {t ty e : TypeId} {i : TypeInfo} {b off n cap m : Nat} {vx : Value} {news : List Value} (ht : P.underlying t = some (.slice e)) (hi : P.info? e = some i) (hsz : i.size = 1) (hs : Src w vx m news)
    (hroom : n + m ≤ cap) (h1 : ∀ u ∈ news, u.oneCell' = true) (hc : ∀ j, j < m → (w.cell? ⟨b, off + n + j, none⟩).isSome = true ∧ w.frozen? ⟨b, off + n + j, none⟩ = false) :
    (Builtin.append_ #[t, t] ty #[.slice (some ⟨b, off, none⟩) n cap, vx]).run P w = .ok (.slice (some ⟨b, off, none⟩) (n + m) cap) (w.setCells b (off + n) news) := by
  obtain ⟨hl, ⟨ad, c, rfl, hn⟩ | ⟨rfl, rfl⟩⟩ := hs
  · have := run_append_room_cells (P := P) w t ty e i ht hi b off n cap ad m c news (by rw [hsz]; omega) hn h1 hroom (fun j hj => by rw [hsz, Nat.mul_one]; exact (hc j (by omega)).1)
      (fun j hj => by rw [hsz, Nat.mul_one]; exact (hc j (by omega)).2)
    rw [hsz, Nat.mul_one] at this
    exact this
  · have hnil : news = [] := List.eq_nil_of_length_eq_zero hl
    subst hnil
    have hr : n ≤ cap := by omega
    simp [Builtin.append_, run_underlying ht, sizeOf, typeInfo, hi, Builtin.lenOf, Builtin.firstCells, hr, storeCells, World.setCells]

theorem Sim.src (s : Sim base W0 β nxt h w) {b o m c : Nat} {own : Bool} {sz : Nat} {cs : List AV} {vx : Value} (hx : RV β (.slice b o m c) vx) (hb : h b = some (.cells own sz cs)) (hn : o + m ≤ cs.length) :
    ∃ news, RVs β ((cs.drop o).take m) news ∧ Src w vx m news := by
  cases hx with
  | @slice _ _ _ _ p cap co hp hc hn' ho ht =>
  obtain ⟨vs, h1, h2, h3⟩ := s.cells hb hp hn
  refine ⟨vs, h2, h1, .inl ⟨_, _, rfl, fun j v hj => ?_⟩⟩
  have hj' : j < vs.length := (List.getElem?_eq_some_iff.1 hj).1
  have hco : co = p.off + o := by omega
  subst hco
  rw [Addr.add_lit]
  exact h3 j v hj

theorem rvs_one {cs : List AV} {vs : List Value} (r : RVs β cs vs) (h1 : ∀ v ∈ cs, v.one = true) : ∀ v ∈ vs, v.oneCell' = true := by
  intro v hv
  obtain ⟨i, hi⟩ := List.getElem?_of_mem hv
  have hlt : i < cs.length := by have := (List.getElem?_eq_some_iff.1 hi).1; have := r.1; omega
  exact (r.2 i cs[i] v (by simp [hlt]) hi).oneCell (h1 _ (List.getElem_mem hlt))

/-- an own block goes on in place under a new number -/
theorem Sim.appIn (s : Sim base W0 β nxt h w) {b n : Nat} {cs news : List AV} {cnews : List Value} {p : Pos} (hb : h b = some (.cells true 1 cs)) (hp : β b = some p) (hn : n ≤ cs.length) (ht : n + news.length ≤ p.tot) (r : RVs β news cnews) :
    Sim base W0 (bput β nxt p) (nxt + 1) (upd (Ab.kill h b) nxt (.cells true 1 (cs.take n ++ news))) (w.setCells p.blk n cnews) := by
  obtain ⟨arr, e, frz, h1, h2, h3, h4, h5, h6, h7, h8⟩ := s.ownBlock hb hp
  have hl := r.1
  obtain ⟨arr', g1, g2, g3, g4, g5⟩ := setCells_facts p.blk e frz base W0 h5 cnews n w arr h1 (by omega) s.below
  have hsz : arr'.size = arr.size := by
    have := congrArg List.length g2
    simp at this
    omega
  refine s.reput hb rfl hp g5 (by omega) (fun k _ hk => g4 k hk) rfl ⟨arr', e, frz, g1, h2, by simp; omega, ?_, fun _ => ⟨h5, h6, by omega, fun i hi => h8 i (by omega)⟩, fun hh => by cases hh⟩
  have he : Ext β (bput β nxt p) := Ext.put (s.fresh nxt (Nat.le_refl _))
  have key := (((h4.take n).append r)).mono he
  have e2 : (arr'.toList.drop p.off).take (cs.take n ++ news).length = (arr.toList.take cs.length).take n ++ cnews := by
    rw [h6, List.drop_zero, g2]
    simp only [List.length_append, List.length_take]
    rw [List.take_take, show min n cs.length = n by omega, List.append_assoc, List.take_append]
    simp only [List.length_take, Array.length_toList]
    rw [show min n arr.size = n by omega, show n + news.length - n = news.length by omega, List.take_take, show min (n + news.length) n = n by omega, List.take_append, hl]
    simp
  rw [e2]
  exact key

theorem appG_sound {t e : TypeId} {d j : TI} {ty : TypeId} {s0 : AV} {vs vx : Value} {news : List AV} {cnews : List Value} {m : Nat} {K : AV → H → Prop} {o : Oper} (tok : TOk P T) (ht : tget T t = some d) (hd : d.desc = .slice e) (he : tget T e = some j) (hsz : j.size = 1) (hby : 1 ≤ j.bytes)
    (s : Sim base W0 β nxt h w) (hs : RV β s0 vs) (hnews : RVs β news cnews) (hsrc : Src w vx m cnews)
    (hrun : ∀ cv w', (Builtin.append_ #[t, t] ty #[vs, vx]).run P w = .ok cv w' → (execOp a.eval o).run P w = .ok (.value cv) w') (hk : AppG h s0 j.bytes news m K) : Lands P base W0 β nxt o a w K := by
  have hu := tok.under ht
  rw [hd] at hu
  obtain ⟨q, hq, hqs, hqb, hqz⟩ := tok.infos he
  have hq1 : q.size = 1 := by omega
  have hm : cnews.length = m := hsrc.1
  have hm' : news.length = m := by have := hnews.1; omega
  have hzc : j.zero.cells.size = 1 := by have := (tok e j he).cells; omega
  cases hk with
  | nil hs0 h0 hb hk =>
    subst hs0
    cases hs
    obtain ⟨_, ⟨ad, c, rfl, hn⟩ | ⟨rfl, h00⟩⟩ := hsrc
    · have hbig : m * q.bytes ≤ 281474976710656 := by rw [hqb]; omega
      have hms : (m : Int) ≤ 9223372036854775807 := by
        have : m * 1 ≤ m * j.bytes := Nat.mul_le_mul_left _ hby
        omega
      have hr := run_append_nil (P := P) w t ty e q j.zero hu hq hqz ad m c cnews (by rw [hq1]; omega) hn h0 hms hbig
      refine .new (w1 := w.drew) (f := fun b => .slice b 0 m m) (cs := news) (sz := 1) s.drew ?_ ?_ (hrun _ _ hr) ?_ ⟨fun b hb => hk b hb⟩
      · have : ((cnews.toArray ++ Builtin.zeroCells j.zero.cells (grownCap w m 0 e - m)).toList.take news.length) = cnews := by
          simp [hm', ← hm]
        rw [this]
        exact hnews
      · simp
        omega
      · refine .slice (bput_at _ _) ?_ (Nat.le_refl _) (.inr rfl) fun _ => ?_
        · exact grownCap_ge w m 0 e
        · have := grownCap_ge w m 0 e
          simp [Builtin.zeroCells, hzc, hm]
          omega
    · omega
  | nil0 hs0 h0 hk =>
    subst hs0 h0
    cases hs
    exact .value (hrun _ _ (app_nil0 hu hq hsrc)) (Ext.refl β) (Nat.le_refl _) .nilslice s hk
  | none b n c hs0 h0 hk =>
    subst hs0 h0
    cases hs with
    | @slice _ _ _ _ p cap co hp hc hn ho htt =>
    have hnil : cnews = [] := List.eq_nil_of_length_eq_zero hm
    subst hnil
    have hr := app_in (P := P) (w := w) (ty := ty) (b := p.blk) (off := co) (n := n) (cap := cap) hu hq hq1 hsrc (by omega) (by simp) (by intro j hj; omega)
    exact .value (hrun _ _ hr) (Ext.refl β) (Nat.le_refl _) (.slice hp hc hn ho htt) s hk
  | grow b n c cs hs0 hb hn hbytes h1 hk =>
    subst hs0
    have hs' := hs
    cases hs with
    | @slice _ _ _ _ p cap co hp hc hnc ho htt =>
    obtain ⟨arr, e1, frz, b1, b2, b3, b4, b5, b6, b7, b8⟩ := s.ownBlock hb hp
    have htot := htt rfl
    rw [b2, Nat.mul_one] at htot
    by_cases hroom : n + m ≤ cap
    · by_cases hco : co = 0
      · subst hco
        have hw := s.mayWrite hb hp
        have hr := app_in (P := P) (w := w) (ty := ty) (b := p.blk) (off := 0) (n := n) (cap := cap) hu hq hq1 hsrc hroom (rvs_one hnews h1) (fun j hj => hw (0 + n + j) (by omega))
        rw [Nat.zero_add] at hr
        have hS := s.appIn (n := n) hb hp hn (by omega) hnews
        refine .value (hrun _ _ hr) (Ext.put (s.fresh nxt (Nat.le_refl _))) (Nat.le_succ _) (.slice (bput_at _ _) hroom (Nat.le_refl _) ?_ fun _ => ?_) hS (hk nxt s.freshNone)
        · rcases ho with h0 | h0
          · exact .inl h0
          · exact .inr (by omega)
        · rw [b2]
          omega
      · have hcap : cap = 0 := by omega
        have hm0 : m = 0 := by omega
        have hn0 : n = 0 := by omega
        subst hm0 hn0 hcap
        have hnil : cnews = [] := List.eq_nil_of_length_eq_zero hm
        subst hnil
        have hr := app_in (P := P) (w := w) (ty := ty) (b := p.blk) (off := co) (n := 0) (cap := 0) hu hq hq1 hsrc (by omega) (by simp) (by intro j hj; omega)
        have hS := s.appIn (n := 0) hb hp hn (by omega) hnews
        exact .value (hrun _ _ hr) (Ext.put (s.fresh nxt (Nat.le_refl _))) (Nat.le_succ _) (.slice (bput_at _ _) (by omega) (Nat.le_refl _) (.inl rfl) fun _ => by rw [b2]; omega) hS (hk nxt s.freshNone)
    · obtain ⟨_, ⟨ad, cc, rfl, hsn⟩ | ⟨rfl, h00⟩⟩ := hsrc
      · obtain ⟨olds, o1, o2, o3⟩ := s.cells (o := 0) (n := n) hb hp (by omega)
        have hco : n ≠ 0 → co = p.off := by intro; omega
        have hfit : Builtin.nextslicecap (n + m) cap * q.bytes ≤ 281474976710656 := growslice_fits (by omega) (by rw [hqb]; exact hbytes)
        have hms : ((n + m : Nat) : Int) ≤ 9223372036854775807 := by
          have : (n + m) * 1 ≤ (n + m) * j.bytes := Nat.mul_le_mul_left _ hby
          omega
        have hr := run_append_grow (P := P) w t ty e q j.zero hu hq hqz ⟨p.blk, co, none⟩ n cap olds (by rw [hq1]; omega)
          (fun j v hj => by
            have hjl : j < olds.length := (List.getElem?_eq_some_iff.1 hj).1
            have := o3 j v hj
            rw [Addr.add_lit, hco (by omega)]
            simpa using this) ad m cc cnews (by rw [hq1]; omega) hsn (by omega) hms hfit
        simp only [List.drop_zero] at o2
        have hge := grownCap_ge w (n + m) cap e
        refine .value (hrun _ _ hr) (Ext.put (s.fresh nxt (Nat.le_refl _))) (Nat.le_succ _) (β' := bput β nxt ⟨w.heap.size, 0, 1, (olds.toArray ++ cnews.toArray ++ Builtin.zeroCells j.zero.cells (grownCap w (n + m) cap e - (n + m))).size⟩) (.slice (bput_at _ _) hge (Nat.le_refl _) (.inr rfl) fun _ => ?_)
          ((s.kill b).drew.allocCells e 1 (cs := cs.take n ++ news) ?_ ?_) (hk nxt s.freshNone)
        · simp [Builtin.zeroCells, hzc, hm, o1]
          omega
        · have : ((olds.toArray ++ cnews.toArray ++ Builtin.zeroCells j.zero.cells (grownCap w (n + m) cap e - (n + m))).toList.take (cs.take n ++ news).length) = olds ++ cnews := by
            have hl1 : (cs.take n ++ news).length = (olds ++ cnews).length := by simp; omega
            rw [hl1]
            simp only [Array.toList_append]
            exact List.take_left
          rw [this]
          exact o2.append hnews
        · simp [o1, hm]
          omega
      · omega
  | fits b n c cs hs0 hb hc0 hl h1 hk =>
    subst hs0
    cases hs with
    | @slice _ _ _ _ p cap co hp hc hnc ho htt =>
    obtain ⟨arr, e1, frz, b1, b2, b3, b4, b5, b6, b7, b8⟩ := s.ownBlock hb hp
    have htot := htt rfl
    rw [b2, Nat.mul_one] at htot
    by_cases hco : co = 0
    · subst hco
      have hw := s.mayWrite hb hp
      have hr := app_in (P := P) (w := w) (ty := ty) (b := p.blk) (off := 0) (n := n) (cap := cap) hu hq hq1 hsrc (by omega) (rvs_one hnews h1) (fun j hj => hw (0 + n + j) (by omega))
      rw [Nat.zero_add] at hr
      have hS := s.storeCells (o := n) hb hp (by omega) hnews
      rw [hm'] at hS
      exact .value (hrun _ _ hr) (Ext.refl β) (Nat.le_refl _) (.slice hp hc (by omega) ho htt) hS hk
    · have hcap : cap = 0 := by omega
      have hm0 : m = 0 := by omega
      have hn0 : n = 0 := by omega
      subst hm0 hn0 hcap
      have hnil : cnews = [] := List.eq_nil_of_length_eq_zero hm
      subst hnil
      have hr := app_in (P := P) (w := w) (ty := ty) (b := p.blk) (off := co) (n := 0) (cap := 0) hu hq hq1 hsrc (by omega) (by simp) (by intro j hj; omega)
      have hS := s.storeCells (o := 0) hb hp (by omega) hnews
      rw [hm'] at hS
      exact .value (hrun _ _ hr) (Ext.refl β) (Nat.le_refl _) (.slice hp hc (by omega) ho htt) hS hk

theorem vcApp_sound {t ty : TypeId} {x y : Operand} {K : AV → H → Prop} {o : Oper} (ho : o.op = .call { callee := .builtin .append, args := #[x, y], argTypes := #[t, t] }) (tok : TOk P T) (s : Sim base W0 β nxt h w) (hf : FrRel β fr a)
    (hk : vcApp T h t (ev fr x) (ev fr y) K) : Lands P base W0 β nxt o a w K := by
  have hs := hf.ev x
  have hy := hf.ev y
  have hrun : ∀ cv w', (Builtin.append_ #[t, t] o.type #[a.eval x, a.eval y]).run P w = .ok cv w' → (execOp a.eval o).run P w = .ok (.value cv) w' := by
    intro cv w' hh
    obtain ⟨dst, op, ty, pos, after, guard⟩ := o
    dsimp only at ho
    subst ho
    simp [execOp, resolve, invoke, builtin, hh]
  unfold vcApp at hk
  split at hk
  · contradiction
  · rename_i d ht
    split at hk
    · rename_i e hd
      split at hk
      · contradiction
      · rename_i j he
        split at hk
        · rename_i hsz hby
          have hby := Nat.le_of_ble_eq_true hby
          split at hk
          · rename_i b o' m c ey
            rw [ey] at hy
            obtain ⟨own, sz, cs, h1, h2, h3⟩ := hk
            obtain ⟨news, h4, h5⟩ := s.src hy h1 h2
            exact appG_sound tok ht hd he hsz hby s hs h4 h5 hrun h3
          · rename_i ey
            rw [ey] at hy
            generalize a.eval y = vy at hy hrun
            cases hy
            exact appG_sound tok ht hd he hsz hby s hs (RVs.nil β) ⟨rfl, .inr ⟨rfl, rfl⟩⟩ hrun hk
          · contradiction
        · contradiction
    · contradiction

/-- zeros, side by side -/
theorem zeroCells_one (v : Value) (n : Nat) : Builtin.zeroCells #[v] n = Array.replicate n v := by
  apply Array.ext
  · simp [Builtin.zeroCells]
  · intro i h1 h2
    simp [Builtin.zeroCells, Nat.mod_one]

theorem vcClear_sound {t : TypeId} {x : Operand} {K : AV → H → Prop} {o : Oper} (ho : o.op = .call { callee := .builtin .clear, args := #[x], argTypes := #[t] }) (tok : TOk P T) (s : Sim base W0 β nxt h w) (hf : FrRel β fr a)
    (hk : vcClear T h t (ev fr x) K) : Lands P base W0 β nxt o a w K := by
  have hx := hf.ev x
  have hrun : ∀ cv w', (Builtin.clear_ #[t] o.type #[a.eval x]).run P w = .ok cv w' → (execOp a.eval o).run P w = .ok (.value cv) w' := by
    intro cv w' hh
    obtain ⟨dst, op, ty, pos, after, guard⟩ := o
    dsimp only at ho
    subst ho
    simp [execOp, resolve, invoke, builtin, hh]
  have rt : RV β (.tup []) (.tuple #[]) := .tup rfl fun i c v hc => by simp at hc
  unfold vcClear at hk
  split at hk
  · contradiction
  · rename_i d ht
    split at hk
    · rename_i e hd
      have hu := tok.under ht
      rw [hd] at hu
      split at hk
      · contradiction
      · rename_i j he
        split at hk
        · rename_i z b of n c hsz hz ex
          rw [ex] at hx
          generalize a.eval x = vx at hx hrun
          obtain ⟨cs, h1, h2, h3, h4⟩ := hk
          cases hx with
          | @slice _ _ _ _ p cap co hp hc hnc hoo htt =>
          obtain ⟨v, hv, hzv⟩ := zcells_one hz
          have hzr : RV β z v := by rw [hzv]; exact rv_avScalar β v
          have hst := s.storeCells (o := of) (vs := List.replicate n z) (cvs := List.replicate n v) h1 hp (by simpa using h2) (RVs.replicate hzr n)
          rw [List.length_replicate] at hst
          have hq0 : p.off = 0 := by obtain ⟨_, _, _, _, _, _, _, _, h6, _⟩ := s.ownBlock h1 hp; exact h6
          have htot := ownTot s h1 hp
          refine .value (w' := w.setCells p.blk of (List.replicate n v)) (cv := .tuple #[]) (hrun _ _ ?_) (Ext.refl β) (Nat.le_refl _) rt hst h4
          by_cases h0 : n = 0
          · subst h0
            simp [Builtin.clear_, run_underlying hu, World.setCells]
          · have hco : co = of := by omega
            subst hco
            have hone : v.oneCell' = true := hzr.oneCell h3
            have hrc := run_storeCells_cells (P := P) p.blk co (List.replicate n v) 0 w
              (fun i hi => by simpa using (s.mayWrite h1 hp (co + i) (by simp at hi; omega)).1)
              (fun i hi => by simpa using (s.mayWrite h1 hp (co + i) (by simp at hi; omega)).2) (fun u hu => by rw [(List.mem_replicate.1 hu).2]; exact hone)
            simp only [Nat.add_zero] at hrc
            obtain ⟨n', rfl⟩ : ∃ n', n = n' + 1 := ⟨n - 1, by omega⟩
            simp [Builtin.clear_, run_underlying hu, run_zero tok he, hv, zeroCells_one, hrc]
        · rename_i z hsz hz ex
          rw [ex] at hx
          generalize a.eval x = vx at hx hrun
          cases hx
          exact .value (w' := w) (cv := .tuple #[]) (hrun _ _ (by simp [Builtin.clear_, run_underlying hu])) (Ext.refl β) (Nat.le_refl _) rt s hk
        · contradiction
    · contradiction

theorem vcMakeMap_sound {t : TypeId} {r : Option Operand} {K : AV → H → Prop} {o : Oper} (ho : o.op = .makeMap t r) (s : Sim base W0 β nxt h w) (hk : vcW E (.makeMap t r) fr h K) : Lands E.P base W0 β nxt o a w K := by
  obtain ⟨dst, op, ty, pos, after, guard⟩ := o
  dsimp only at ho
  subst ho
  simp only [vcW] at hk
  split at hk
  · refine .value (w' := w.alloc (.map #[] 0)) (cv := .map (some w.heap.size)) (β' := bput β nxt ⟨w.heap.size, 0, 0, 0⟩) ?_ (Ext.put (s.fresh nxt (Nat.le_refl _))) (Nat.le_succ _) (.map (bput_at _ _)) (s.alloc (.map #[] 0) ⟨w.heap.size, 0, 0, 0⟩ rfl (.map []) ⟨s.ge, #[], 0, heap_alloc_new w _, RVs.nil _, RVs.nil _⟩) (hk.hk nxt s.freshNone)
    simp [execOp, Instr.makeMap]
  · contradiction

/-! Maps -/
theorem rv_key0 {a : AV} {v : Value} (r : RV β a v) (h : key0 a = true) : v = keyV0 a := by
  cases r <;> first | rfl | cases h
theorem rv_key {a : AV} {v : Value} (r : RV β a v) (h : keyA a = true) : v = keyV a := by
  cases r with
  | @agg cs vs hl hr =>
    show _ = Value.agg (cs.map keyV0).toArray
    congr 1
    apply Array.ext'
    apply List.ext_getElem?
    intro i
    simp only [List.getElem?_map, Array.getElem?_toList]
    cases hc : cs[i]? with
    | none =>
      have := List.getElem?_eq_none_iff.1 hc
      simp
      omega
    | some c =>
      have hi := (List.getElem?_eq_some_iff.1 hc).1
      have hv : vs[i]? = some vs[i] := Array.getElem?_eq_getElem (by omega)
      rw [hv]
      have hk : key0 c = true := List.all_eq_true.1 h c (List.mem_of_getElem? hc)
      rw [rv_key0 (hr i c _ hc hv) hk]
      rfl
  | int k n => rfl
  | str s => rfl
  | _ => cases h
theorem keyV0_inj {a b : AV} (ha : key0 a = true) (hb : key0 b = true) (h : keyV0 a = keyV0 b) : a = b := by
  cases a <;> first | (cases ha; done) | (cases b <;> first | (cases hb; done) | (simp [keyV0] at h; try simp [h]))
theorem keyV_inj {a b : AV} (ha : keyA a = true) (hb : keyA b = true) (h : keyV a = keyV b) : a = b := by
  have agg : ∀ l l' : List AV, l.all key0 = true → l'.all key0 = true → l.map keyV0 = l'.map keyV0 → l = l' := by
    intro l
    induction l with
    | nil => intro l' _ _ h; cases l' with
      | nil => rfl
      | cons => cases h
    | cons x l ih =>
      intro l' h1 h2 h
      cases l' with
      | nil => cases h
      | cons y l' =>
        simp only [List.map_cons, List.cons.injEq, List.all_cons, Bool.and_eq_true] at h h1 h2
        rw [keyV0_inj h1.1 h2.1 h.1, ih l' h1.2 h2.2 h.2]
  cases a <;> first
    | (cases ha; done)
    | (cases b <;> first
        | (cases hb; done)
        | exact keyV0_inj ha hb h
        | (simp [keyV, keyV0] at h; done)
        | (congr 1; refine agg _ _ ha hb ?_; simpa [keyV] using h))

theorem map_block (s : Sim base W0 β nxt h w) {b : Nat} {es : List (AV × AV)} {p : Pos} (hb : h b = some (.map es)) (hp : β b = some p) :
    base ≤ p.blk ∧ ∃ ents clk, w.heap[p.blk]? = some (.map ents clk) ∧ RVs β (es.map (·.1)) (ents.toList.map (·.key)) ∧ RVs β (es.map (·.2)) (ents.toList.map (·.val)) := by
  obtain ⟨q, h1, h2⟩ := s.live b _ hb
  rw [hp] at h1
  injection h1 with h1
  subst h1
  exact h2

/-- entries side by side -/
theorem entry_at {es : List (AV × AV)} {ents : Array MapEntry} (rk : RVs β (es.map (·.1)) (ents.toList.map (·.key))) (rv : RVs β (es.map (·.2)) (ents.toList.map (·.val))) {j : Nat} {e : MapEntry} (he : ents.toList[j]? = some e) :
    ∃ a v, es[j]? = some (a, v) ∧ RV β a e.key ∧ RV β v e.val := by
  have hl := rk.1
  simp only [List.length_map] at hl
  have hj : j < es.length := by have := (List.getElem?_eq_some_iff.1 he).1; omega
  refine ⟨es[j].1, es[j].2, by rw [List.getElem?_eq_getElem hj], ?_, ?_⟩
  · exact rk.2 j _ _ (by rw [List.getElem?_map, List.getElem?_eq_getElem hj]; rfl) (by rw [List.getElem?_map, he]; rfl)
  · exact rv.2 j _ _ (by rw [List.getElem?_map, List.getElem?_eq_getElem hj]; rfl) (by rw [List.getElem?_map, he]; rfl)
theorem entry_of {es : List (AV × AV)} {ents : Array MapEntry} (rk : RVs β (es.map (·.1)) (ents.toList.map (·.key))) (rv : RVs β (es.map (·.2)) (ents.toList.map (·.val))) {j : Nat} {a v : AV} (he : es[j]? = some (a, v)) :
    ∃ e, ents.toList[j]? = some e ∧ RV β a e.key ∧ RV β v e.val := by
  have hl := rk.1
  simp only [List.length_map] at hl
  have hj : j < ents.toList.length := by have := (List.getElem?_eq_some_iff.1 he).1; omega
  refine ⟨ents.toList[j], List.getElem?_eq_getElem hj, ?_, ?_⟩
  · exact rk.2 j _ _ (by rw [List.getElem?_map, he]; rfl) (by rw [List.getElem?_map, List.getElem?_eq_getElem hj]; rfl)
  · exact rv.2 j _ _ (by rw [List.getElem?_map, he]; rfl) (by rw [List.getElem?_map, List.getElem?_eq_getElem hj]; rfl)

theorem keys_lit {P : Program} {k : TypeId} {es : List (AV × AV)} {ents : Array MapEntry} (rk : RVs β (es.map (·.1)) (ents.toList.map (·.key))) (rv : RVs β (es.map (·.2)) (ents.toList.map (·.val))) (ok : ∀ p ∈ es, KOk P k p.1) :
    ∀ e ∈ ents.toList, ∃ l, Go.keyOf P k e.key = some l := by
  intro e he
  obtain ⟨j, hj⟩ := List.getElem?_of_mem he
  obtain ⟨a, v, h1, h2, h3⟩ := entry_at rk rv hj
  have := ok (a, v) (List.mem_of_getElem? h1)
  rw [rv_key h2 this.form]
  exact this.lit

theorem rvs_tup {cs : List AV} {vs : List Value} (r : RVs β cs vs) : RV β (.tup cs) (.tuple vs.toArray) :=
  .tup (by simpa using r.1) fun i c v hc hv => r.2 i c v hc (by simpa using hv)

theorem vcLookup_sound {t : TypeId} {x i : Operand} {ok : Bool} {K : AV → H → Prop} {o : Oper} (ho : o.op = .lookup t x i ok) (tok : TOk E.P E.T) (s : Sim base W0 β nxt h w) (hf : FrRel β fr a) (hk : vcW E (.lookup t x i ok) fr h K) : Lands E.P base W0 β nxt o a w K := by
  obtain ⟨dst, op, ty, pos, after, guard⟩ := o
  dsimp only at ho
  subst ho
  simp only [vcW] at hk
  split at hk
  · contradiction
  · rename_i d ht
    split at hk
    · rename_i k e hd
      split at hk
      · contradiction
      · rename_i de hde
        split at hk
        · rename_i b hagg ex
          rw [force_eq] at hk
          have hx := hf.ev x
          rw [ex] at hx
          have hi := hf.ev i
          have hu := tok.under ht
          rw [hd] at hu
          obtain ⟨q, hq, hs, _, hz⟩ := tok.infos hde
          generalize hvx : a.eval x = vx at hx
          generalize hvi : a.eval i = vi at hi
          cases hx with
          | @map _ p hp =>
          have fin : ∀ (v : AV) (cv : Value) (f : Bool), RV β v cv → okK ok K h v f →
              (∀ (r : Option (Nat × Value)), (match r with | some (_, v) => (v, true) | none => (de.zero, false)) = (cv, f) →
                (Instr.lookup t (.map (some p.blk)) vi ok).run E.P w = .ok (if ok then .tuple #[cv, .bool f] else cv) w → Lands E.P base W0 β nxt ⟨dst, .lookup t x i ok, ty, pos, after, guard⟩ a w K) := by
            intro v cv f hr hK r _ hrun
            cases ok with
            | true => exact .value (w' := w) (cv := .tuple #[cv, .bool f]) (by simp [execOp, hvx, hvi, hrun]) (Ext.refl β) (Nat.le_refl _) (rvs_tup (RVs.cons hr (RVs.cons (.bool f) (RVs.nil β)))) s hK
            | false => exact .value (w' := w) (cv := cv) (by simp [execOp, hvx, hvi, hrun]) (Ext.refl β) (Nat.le_refl _) hr s hK
          cases hk with
          | hit es v law hb okk ka hm hun hK =>
            obtain ⟨hbase, ents, clk, hheap, rk, rv⟩ := map_block s hb hp
            have hkv := rv_key hi ka.form
            obtain ⟨l, hl⟩ := ka.lit
            rw [← hkv] at hl
            rcases law.find w hl ents.toList (keys_lit rk rv okk) with ⟨h1, h2⟩ | ⟨j, e0, h1, h2, h3⟩
            · obtain ⟨n, hn⟩ := List.getElem?_of_mem hm
              obtain ⟨e0, g1, g2, g3⟩ := entry_of rk rv hn
              exact absurd ((rv_key g2 ka.form).trans hkv.symm) (h2 e0 (List.mem_of_getElem? g1))
            · obtain ⟨a', v', g1, g2, g3⟩ := entry_at rk rv h2
              have hmem := List.mem_of_getElem? g1
              have ea : a' = ev fr i := keyV_inj (okk _ hmem).form ka.form (by rw [← rv_key g2 (okk _ hmem).form, h3, hkv])
              subst ea
              have ev' := hun v' hmem
              subst ev'
              refine fin v' e0.val true g3 hK (some (j, e0.val)) rfl ?_
              simp [Instr.lookup, run_underlying hu, Go.MapKept.run_getObj_map hheap, law.check w _ hl, h1]
          | miss es law hb okk ka hno hK =>
            obtain ⟨hbase, ents, clk, hheap, rk, rv⟩ := map_block s hb hp
            have hkv := rv_key hi ka.form
            obtain ⟨l, hl⟩ := ka.lit
            rw [← hkv] at hl
            rcases law.find w hl ents.toList (keys_lit rk rv okk) with ⟨h1, h2⟩ | ⟨j, e0, h1, h2, h3⟩
            · refine fin _ de.zero false (rv_avScalar β de.zero) hK none rfl ?_
              have hzv : (zeroValue e).run E.P w = .ok de.zero w := by simp [zeroValue, typeInfo, hq, hz]
              simp [Instr.lookup, run_underlying hu, Go.MapKept.run_getObj_map hheap, law.check w _ hl, h1, hzv]
            · obtain ⟨a', v', g1, g2, g3⟩ := entry_at rk rv h2
              have hmem := List.mem_of_getElem? g1
              have ea : a' = ev fr i := keyV_inj (okk _ hmem).form ka.form (by rw [← rv_key g2 (okk _ hmem).form, h3, hkv])
              subst ea
              exact absurd hmem (hno v')
        · contradiction
    · contradiction

theorem Below.setBlk {w' : World} (bl : Below base W0 w) {r : Nat} (hr : base ≤ r) (o : Obj) (hw : w' = { w with heap := w.heap.setIfInBounds r o }) : Below base W0 w' := by
  subst hw
  refine bl.trans ⟨rfl, rfl, rfl, by simp, fun k hk => ?_⟩
  show (w.heap.setIfInBounds r o)[k]? = _
  rw [Array.getElem?_setIfInBounds_ne (by omega)]

theorem mapSet_sound {t kt et : TypeId} {b : Nat} {av vv : AV} {kv cv : Value} {p : Pos} {K : H → Prop} (hu : E.P.underlying t = some (.map kt et)) (s : Sim base W0 β nxt h w) (hp : β b = some p) (rk0 : RV β av kv) (rv0 : RV β vv cv)
    (hk : MapSetG E.P kt h b av vv K) : ∃ w' h', (Instr.mapUpdate t (.map (some p.blk)) kv cv).run E.P w = .ok () w' ∧ Sim base W0 β nxt h' w' ∧ K h' := by
  cases hk with
  | put es law hb okk ka hno hK =>
    obtain ⟨hbase, ents, clk, hheap, rk, rv⟩ := map_block s hb hp
    have hkv := rv_key rk0 ka.form
    obtain ⟨l, hl⟩ := ka.lit
    rw [← hkv] at hl
    rcases law.find w hl ents.toList (keys_lit rk rv okk) with ⟨h1, h2⟩ | ⟨j, e0, h1, h2, h3⟩
    · refine ⟨{ w with heap := w.heap.setIfInBounds p.blk (.map (ents.push { key := kv, val := cv, born := clk }) (clk + 1)) }, _, ?_, ?_, hK⟩
      · simp [Instr.mapUpdate, run_underlying hu, Go.MapKept.run_getObj_map hheap, law.check w _ hl, h1, Go.MapKept.run_setObj_map _ hheap]
      · obtain ⟨e1, e2⟩ := Go.MapKept.heap_set (o' := Obj.map (ents.push { key := kv, val := cv, born := clk }) (clk + 1)) hheap
        refine s.setOwn hb rfl hp (Below.setBlk s.below hbase _ rfl) (by simp) (fun k _ hne => e2 k hne) rfl ⟨hbase, _, _, e1, ?_, ?_⟩
        · simpa using rk.append (RVs.cons rk0 (RVs.nil β))
        · simpa using rv.append (RVs.cons rv0 (RVs.nil β))
    · obtain ⟨a', v', g1, g2, g3⟩ := entry_at rk rv h2
      have hmem := List.mem_of_getElem? g1
      have ea : a' = av := keyV_inj (okk _ hmem).form ka.form (by rw [← rv_key g2 (okk _ hmem).form, h3, hkv])
      subst ea
      exact absurd hmem (hno v')
  | set es n u law hb okk ka hn hun hK =>
    obtain ⟨hbase, ents, clk, hheap, rk, rv⟩ := map_block s hb hp
    have hkv := rv_key rk0 ka.form
    obtain ⟨l, hl⟩ := ka.lit
    rw [← hkv] at hl
    rcases law.find w hl ents.toList (keys_lit rk rv okk) with ⟨h1, h2⟩ | ⟨j, e0, h1, h2, h3⟩
    · obtain ⟨e0, g1, g2, g3⟩ := entry_of rk rv hn
      exact absurd ((rv_key g2 ka.form).trans hkv.symm) (h2 e0 (List.mem_of_getElem? g1))
    · obtain ⟨a', v', g1, g2, g3⟩ := entry_at rk rv h2
      have hmem := List.mem_of_getElem? g1
      have ea : a' = av := keyV_inj (okk _ hmem).form ka.form (by rw [← rv_key g2 (okk _ hmem).form, h3, hkv])
      subst ea
      have ej := hun j v' g1
      subst ej
      have h2' : ents[j]? = some e0 := by simpa using h2
      refine ⟨{ w with heap := w.heap.setIfInBounds p.blk (.map (ents.modify j fun e => { e with key := kv, val := cv }) clk) }, _, ?_, ?_, hK⟩
      · have hst := law.stays w hl
        rw [← h3] at hst ⊢
        simp [Instr.mapUpdate, run_underlying hu, Go.MapKept.run_getObj_map hheap, h3 ▸ law.check w false hl, h3 ▸ h1, h2', hst, Go.MapKept.run_setObj_map _ hheap]
      · obtain ⟨e1, e2⟩ := Go.MapKept.heap_set (o' := Obj.map (ents.modify j fun e => { e with key := kv, val := cv }) clk) hheap
        refine s.setOwn hb rfl hp (Below.setBlk s.below hbase _ rfl) (by simp) (fun k _ hne => e2 k hne) rfl ⟨hbase, _, _, e1, ?_, ?_⟩
        · have x1 : (es.set j (a', vv)).map (·.1) = (es.map (·.1)).set j a' := by rw [List.map_set]
          have x2 : (ents.modify j fun e => { e with key := kv, val := cv }).toList.map (·.key) = (ents.toList.map (·.key)).set j kv := by
            apply List.ext_getElem?
            intro i
            simp only [List.getElem?_map, Array.getElem?_toList, Array.getElem?_modify, List.getElem?_set, List.length_map, Array.length_toList]
            have hj : j < ents.size := (Array.getElem?_eq_some_iff.1 h2').1
            by_cases hij : j = i
            · subst hij
              simp [hj]
            · simp [hij]
          rw [x1, x2]
          exact rk.set j rk0
        · have x1 : (es.set j (a', vv)).map (·.2) = (es.map (·.2)).set j vv := by rw [List.map_set]
          have x2 : (ents.modify j fun e => { e with key := kv, val := cv }).toList.map (·.val) = (ents.toList.map (·.val)).set j cv := by
            apply List.ext_getElem?
            intro i
            simp only [List.getElem?_map, Array.getElem?_toList, Array.getElem?_modify, List.getElem?_set, List.length_map, Array.length_toList]
            have hj : j < ents.size := (Array.getElem?_eq_some_iff.1 h2').1
            by_cases hij : j = i
            · subst hij
              simp [hj]
            · simp [hij]
          rw [x1, x2]
          exact rv.set j rv0

theorem vcMapSet_sound {t : TypeId} {m k x : Operand} {K : AV → H → Prop} {o : Oper} (ho : o.op = .mapUpdate t m k x ∨ o.op = .insert t m k x) (tok : TOk E.P E.T) (s : Sim base W0 β nxt h w) (hf : FrRel β fr a) (hk : vcW E (.mapUpdate t m k x) fr h K) : Lands E.P base W0 β nxt o a w K := by
  simp only [vcW] at hk
  split at hk
  · contradiction
  · rename_i d ht
    split at hk
    · rename_i kt et hd
      split at hk
      · rename_i b em
        rw [force_eq, force_eq] at hk
        have hm := hf.ev m
        rw [em] at hm
        have hu := tok.under ht
        rw [hd] at hu
        generalize hvm : a.eval m = vm at hm
        cases hm with
        | @map _ p hp =>
        obtain ⟨w', h', hrun, hS, hK⟩ := mapSet_sound (E := E) hu s hp (hf.ev k) (hf.ev x) hk
        refine .skip (w' := w') ?_ (Ext.refl β) (Nat.le_refl _) hS hK
        obtain ⟨dst, op, ty, pos, after, guard⟩ := o
        dsimp only at ho
        rcases ho with ho | ho <;> subst ho <;> simp [execOp, hvm, hrun]
      · contradiction
    · contradiction

theorem vcW_sound {o : Oper} {K : AV → H → Prop} (s : Sim base W0 β nxt h w) (hf : FrRel β fr a) (hk : vcW E o.op fr h K) : Lands E.P base W0 β nxt o a w K := by
  have tok := E.tok
  generalize hop : o.op = op at hk
  cases op <;> first
    | exact vcStore_sound hop tok s hf hk
    | exact vcAlloc_sound hop tok s hk
    | exact vcBox_sound hop s hf hk
    | exact vcBuildSlice_sound hop tok s hf hk
    | exact vcMakeSlice_sound hop tok s hf hk
    | exact vcMakeMap_sound hop s hk
    | exact vcLookup_sound hop tok s hf hk
    | exact vcMapSet_sound (.inl hop) tok s hf hk
    | exact vcMapSet_sound (.inr hop) tok s hf hk
    | (rename_i c
       obtain ⟨callee, args, ats⟩ := c
       cases callee with
       | value f => exact vcCall_sound hop s hf hk
       | invoke r m => exact absurd hk (by simp [vcW])
       | builtin b =>
         simp only [vcW] at hk
         split at hk
         · rename_i hcb; cases hcb
         · rename_i hcb
           injection hcb with hcb
           subst hcb
           split at hk
           · rename_i x y t t' h1 h2
             have e1 : args = #[x, y] := Array.ext' h1
             have e2 : ats = #[t, t'] := Array.ext' h2
             subst e1 e2
             split at hk
             · rename_i hb
               have := Nat.eq_of_beq_eq_true hb
               subst this
               exact vcApp_sound (ty := t) hop tok s hf hk
             · contradiction
           · contradiction
         · rename_i hcb
           injection hcb with hcb
           subst hcb
           split at hk
           · rename_i x t h1 h2
             have e1 : args = #[x] := Array.ext' h1
             have e2 : ats = #[t] := Array.ext' h2
             subst e1 e2
             exact vcClear_sound hop tok s hf hk
           · contradiction
         · contradiction)
    | exact absurd hk (by simp [vcW])

end
end Go.Proofs.Ytcepogfmajlcjaa.Ab
