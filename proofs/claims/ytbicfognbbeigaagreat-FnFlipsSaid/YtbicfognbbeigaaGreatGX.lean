/-
  The library's twelfth text proves what append does, and closes the laws on operations that write.
  It holds no condition of its own.
-/
import Derived.Test.YtbicfognbbeigaaGreatGB
import Derived.WideKeyMaps
import Derived.MapKept
set_option linter.unusedVariables false
set_option linter.unusedSimpArgs false
namespace Go.Proofs.YtbicfognbbeigaaGreat.Ab
open Go.RowKit

section
variable {E : Env} {P : Program} {T : TT} {base : Nat} {W0 : World} {β : Bt} {nxt : Nat} {h : H} {w : World} {fr : Fr} {a : Act}

/-- what is appended -/
def Src (w : World) (vx : Value) (m : Nat) (news : List Value) : Prop :=
  news.length = m ∧ ((∃ ad c, vx = .slice (some ad) m c ∧ ∀ j v, news[j]? = some v → w.cell? (ad.add j) = some v) ∨ (vx = .slice none 0 0 ∧ m = 0))

theorem app_nil0 {t ty e : TypeId} {i : TypeInfo} {vx : Value} {news : List Value} (ht : P.underlying t = some (.slice e)) (hi : P.info? e = some i) (hs : Src w vx 0 news) :
    (Builtin.append_ #[t, t] ty #[.slice none 0 0, vx]).run P w = .ok (.slice none 0 0) w := by
  obtain ⟨hl, ⟨ad, c, rfl, hn⟩ | ⟨rfl, _⟩⟩ := hs
  · simp [Builtin.append_, run_underlying ht, sizeOf, typeInfo, hi, Builtin.lenOf, Builtin.firstCells, loadCells, loadCellsFrom]
  · simp [Builtin.append_, run_underlying ht, sizeOf, typeInfo, hi, Builtin.lenOf, Builtin.firstCells]

theorem app_in {t ty e : TypeId} {i : TypeInfo} {b off n cap m : Nat} {vx : Value} {news : List Value} (ht : P.underlying t = some (.slice e)) (hi : P.info? e = some i) (hsz : i.size = 1) (hs : Src w vx m news)
    (hroom : n + m ≤ cap) (h1 : ∀ u ∈ news, u.oneCell' = true) (hc : ∀ j, j < m → (w.cell? ⟨b, off + n + j, none⟩).isSome = true ∧ w.frozen? ⟨b, off + n + j, none⟩ = false) :
    (Builtin.append_ #[t, t] ty #[.slice (some ⟨b, off, none⟩) n cap, vx]).run P w = .ok (.slice (some ⟨b, off, none⟩) (n + m) cap) (w.setCells b (off + n) news) := by
  obtain ⟨hl, ⟨ad, c, rfl, hn⟩ | ⟨rfl, rfl⟩⟩ := hs
  · have := run_append_room_cells (P := P) w t ty e i ht hi b off n cap ad m c news (by rw [hsz]; omega) hn h1 hroom (fun j hj => by rw [hsz, Nat.mul_one]; exact (hc j (by omega)).1)
      (fun j hj => by rw [hsz, Nat.mul_one]; exact (hc j (by omega)).2)
    rw [hsz, Nat.mul_one] at this
    exact this
  · have hnil : news = [] := List.eq_nil_of_length_eq_zero hl
    subst hnil
    have hr : n ≤ cap := by omega
    simp [Builtin.append_, run_underlying ht, sizeOf, typeInfo, hi, Builtin.lenOf, Builtin.firstCells, hr, storeCells, World.setCells]

theorem Sim.src (s : Sim base W0 β nxt h w) {b o m c : Nat} {own : Bool} {sz : Nat} {cs : List AV} {vx : Value} (hx : RV β (.slice b o m c) vx) (hb : h b = some (.cells own sz cs)) (hn : o + m ≤ cs.length) :
    ∃ news, RVs β ((cs.drop o).take m) news ∧ Src w vx m news := by
  cases hx with
  | @slice _ _ _ _ p cap co hp hc hn' ho ht =>
  obtain ⟨vs, h1, h2, h3⟩ := s.cells hb hp hn
  refine ⟨vs, h2, h1, .inl ⟨_, _, rfl, fun j v hj => ?_⟩⟩
  have hj' : j < vs.length := (List.getElem?_eq_some_iff.1 hj).1
  have hco : co = p.off + o := by omega
  subst hco
  rw [Addr.add_lit]
  exact h3 j v hj

theorem rvs_one {cs : List AV} {vs : List Value} (r : RVs β cs vs) (h1 : ∀ v ∈ cs, v.one = true) : ∀ v ∈ vs, v.oneCell' = true := by
  intro v hv
  obtain ⟨i, hi⟩ := List.getElem?_of_mem hv
  have hlt : i < cs.length := by have := (List.getElem?_eq_some_iff.1 hi).1; have := r.1; omega
  exact (r.2 i cs[i] v (by simp [hlt]) hi).oneCell (h1 _ (List.getElem_mem hlt))

/-- an own block goes on in place under a new number -/
theorem Sim.appIn (s : Sim base W0 β nxt h w) {b n : Nat} {cs news : List AV} {cnews : List Value} {p : Pos} (hb : h b = some (.cells true 1 cs)) (hp : β b = some p) (hn : n ≤ cs.length) (ht : n + news.length ≤ p.tot) (r : RVs β news cnews) :
    Sim base W0 (bput β nxt p) (nxt + 1) (upd (Ab.kill h b) nxt (.cells true 1 (cs.take n ++ news))) (w.setCells p.blk n cnews) := by
  obtain ⟨arr, e, frz, h1, h2, h3, h4, h5, h6, h7, h8⟩ := s.ownBlock hb hp
  have hl := r.1
  obtain ⟨arr', g1, g2, g3, g4, g5⟩ := setCells_facts p.blk e frz base W0 h5 cnews n w arr h1 (by omega) s.below
  have hsz : arr'.size = arr.size := by
    have := congrArg List.length g2
    simp at this
    omega
  refine s.reput hb rfl hp g5 (by omega) (fun k _ hk => g4 k hk) rfl ⟨arr', e, frz, g1, h2, by simp; omega, ?_, fun _ => ⟨h5, h6, by omega, fun i hi => h8 i (by omega)⟩, fun hh => by cases hh⟩
  have he : Ext β (bput β nxt p) := Ext.put (s.fresh nxt (Nat.le_refl _))
  have key := (((h4.take n).append r)).mono he
  have e2 : (arr'.toList.drop p.off).take (cs.take n ++ news).length = (arr.toList.take cs.length).take n ++ cnews := by
    rw [h6, List.drop_zero, g2]
    simp only [List.length_append, List.length_take]
    rw [List.take_take, show min n cs.length = n by omega, List.append_assoc, List.take_append]
    simp only [List.length_take, Array.length_toList]
    rw [show min n arr.size = n by omega, show n + news.length - n = news.length by omega, List.take_take, show min (n + news.length) n = n by omega, List.take_append, hl]
    simp
  rw [e2]
  exact key

theorem appG_sound {t e : TypeId} {d j : TI} {ty : TypeId} {s0 : AV} {vs vx : Value} {news : List AV} {cnews : List Value} {m : Nat} {K : AV → H → Prop} {o : Oper} (tok : TOk P T) (ht : tget T t = some d) (hd : d.desc = .slice e) (he : tget T e = some j) (hsz : j.size = 1) (hby : 1 ≤ j.bytes)
    (s : Sim base W0 β nxt h w) (hs : RV β s0 vs) (hnews : RVs β news cnews) (hsrc : Src w vx m cnews)
    (hrun : ∀ cv w', (Builtin.append_ #[t, t] ty #[vs, vx]).run P w = .ok cv w' → (execOp a.eval o).run P w = .ok (.value cv) w') (hk : AppG h s0 j.bytes news m K) : Lands P base W0 β nxt o a w K := by
  have hu := tok.under ht
  rw [hd] at hu
  obtain ⟨q, hq, hqs, hqb, hqz⟩ := tok.infos he
  have hq1 : q.size = 1 := by omega
  have hm : cnews.length = m := hsrc.1
  have hm' : news.length = m := by have := hnews.1; omega
  have hzc : j.zero.cells.size = 1 := by have := (tok e j he).cells; omega
  cases hk with
  | nil hs0 h0 hb hk =>
    subst hs0
    cases hs
    obtain ⟨_, ⟨ad, c, rfl, hn⟩ | ⟨rfl, h00⟩⟩ := hsrc
    · have hbig : m * q.bytes ≤ 281474976710656 := by rw [hqb]; omega
      have hms : (m : Int) ≤ 9223372036854775807 := by
        have : m * 1 ≤ m * j.bytes := Nat.mul_le_mul_left _ hby
        omega
      have hr := run_append_nil (P := P) w t ty e q j.zero hu hq hqz ad m c cnews (by rw [hq1]; omega) hn h0 hms hbig
      refine .new (w1 := w.drew) (f := fun b => .slice b 0 m m) (cs := news) (sz := 1) s.drew ?_ ?_ (hrun _ _ hr) ?_ ⟨fun b hb => hk b hb⟩
      · have : ((cnews.toArray ++ Builtin.zeroCells j.zero.cells (grownCap w m 0 e - m)).toList.take news.length) = cnews := by
          simp [hm', ← hm]
        rw [this]
        exact hnews
      · simp
        omega
      · refine .slice (bput_at _ _) ?_ (Nat.le_refl _) (.inr rfl) fun _ => ?_
        · exact grownCap_ge w m 0 e
        · have := grownCap_ge w m 0 e
          simp [Builtin.zeroCells, hzc, hm]
          omega
    · omega
  | nil0 hs0 h0 hk =>
    subst hs0 h0
    cases hs
    exact .value (hrun _ _ (app_nil0 hu hq hsrc)) (Ext.refl β) (Nat.le_refl _) .nilslice s hk
  | none b n c hs0 h0 hk =>
    subst hs0 h0
    cases hs with
    | @slice _ _ _ _ p cap co hp hc hn ho htt =>
    have hnil : cnews = [] := List.eq_nil_of_length_eq_zero hm
    subst hnil
    have hr := app_in (P := P) (w := w) (ty := ty) (b := p.blk) (off := co) (n := n) (cap := cap) hu hq hq1 hsrc (by omega) (by simp) (by intro j hj; omega)
    exact .value (hrun _ _ hr) (Ext.refl β) (Nat.le_refl _) (.slice hp hc hn ho htt) s hk
  | grow b n c cs hs0 hb hn hbytes h1 hk =>
    subst hs0
    have hs' := hs
    cases hs with
    | @slice _ _ _ _ p cap co hp hc hnc ho htt =>
    obtain ⟨arr, e1, frz, b1, b2, b3, b4, b5, b6, b7, b8⟩ := s.ownBlock hb hp
    have htot := htt rfl
    rw [b2, Nat.mul_one] at htot
    by_cases hroom : n + m ≤ cap
    · by_cases hco : co = 0
      · subst hco
        have hw := s.mayWrite hb hp
        have hr := app_in (P := P) (w := w) (ty := ty) (b := p.blk) (off := 0) (n := n) (cap := cap) hu hq hq1 hsrc hroom (rvs_one hnews h1) (fun j hj => hw (0 + n + j) (by omega))
        rw [Nat.zero_add] at hr
        have hS := s.appIn (n := n) hb hp hn (by omega) hnews
        refine .value (hrun _ _ hr) (Ext.put (s.fresh nxt (Nat.le_refl _))) (Nat.le_succ _) (.slice (bput_at _ _) hroom (Nat.le_refl _) ?_ fun _ => ?_) hS (hk nxt s.freshNone)
        · rcases ho with h0 | h0
          · exact .inl h0
          · exact .inr (by omega)
        · rw [b2]
          omega
      · have hcap : cap = 0 := by omega
        have hm0 : m = 0 := by omega
        have hn0 : n = 0 := by omega
        subst hm0 hn0 hcap
        have hnil : cnews = [] := List.eq_nil_of_length_eq_zero hm
        subst hnil
        have hr := app_in (P := P) (w := w) (ty := ty) (b := p.blk) (off := co) (n := 0) (cap := 0) hu hq hq1 hsrc (by omega) (by simp) (by intro j hj; omega)
        have hS := s.appIn (n := 0) hb hp hn (by omega) hnews
        exact .value (hrun _ _ hr) (Ext.put (s.fresh nxt (Nat.le_refl _))) (Nat.le_succ _) (.slice (bput_at _ _) (by omega) (Nat.le_refl _) (.inl rfl) fun _ => by rw [b2]; omega) hS (hk nxt s.freshNone)
    · obtain ⟨_, ⟨ad, cc, rfl, hsn⟩ | ⟨rfl, h00⟩⟩ := hsrc
      · obtain ⟨olds, o1, o2, o3⟩ := s.cells (o := 0) (n := n) hb hp (by omega)
        have hco : n ≠ 0 → co = p.off := by intro; omega
        have hfit : Builtin.nextslicecap (n + m) cap * q.bytes ≤ 281474976710656 := growslice_fits (by omega) (by rw [hqb]; exact hbytes)
        have hms : ((n + m : Nat) : Int) ≤ 9223372036854775807 := by
          have : (n + m) * 1 ≤ (n + m) * j.bytes := Nat.mul_le_mul_left _ hby
          omega
        have hr := run_append_grow (P := P) w t ty e q j.zero hu hq hqz ⟨p.blk, co, none⟩ n cap olds (by rw [hq1]; omega)
          (fun j v hj => by
            have hjl : j < olds.length := (List.getElem?_eq_some_iff.1 hj).1
            have := o3 j v hj
            rw [Addr.add_lit, hco (by omega)]
            simpa using this) ad m cc cnews (by rw [hq1]; omega) hsn (by omega) hms hfit
        simp only [List.drop_zero] at o2
        have hge := grownCap_ge w (n + m) cap e
        refine .value (hrun _ _ hr) (Ext.put (s.fresh nxt (Nat.le_refl _))) (Nat.le_succ _) (β' := bput β nxt ⟨w.heap.size, 0, 1, (olds.toArray ++ cnews.toArray ++ Builtin.zeroCells j.zero.cells (grownCap w (n + m) cap e - (n + m))).size⟩) (.slice (bput_at _ _) hge (Nat.le_refl _) (.inr rfl) fun _ => ?_)
          ((s.kill b).drew.allocCells e 1 (cs := cs.take n ++ news) ?_ ?_) (hk nxt s.freshNone)
        · simp [Builtin.zeroCells, hzc, hm, o1]
          omega
        · have : ((olds.toArray ++ cnews.toArray ++ Builtin.zeroCells j.zero.cells (grownCap w (n + m) cap e - (n + m))).toList.take (cs.take n ++ news).length) = olds ++ cnews := by
            have hl1 : (cs.take n ++ news).length = (olds ++ cnews).length := by simp; omega
            rw [hl1]
            simp only [Array.toList_append]
            exact List.take_left
          rw [this]
          exact o2.append hnews
        · simp [o1, hm]
          omega
      · omega
  | fits b n c cs hs0 hb hc0 hl h1 hk =>
    subst hs0
    cases hs with
    | @slice _ _ _ _ p cap co hp hc hnc ho htt =>
    obtain ⟨arr, e1, frz, b1, b2, b3, b4, b5, b6, b7, b8⟩ := s.ownBlock hb hp
    have htot := htt rfl
    rw [b2, Nat.mul_one] at htot
    by_cases hco : co = 0
    · subst hco
      have hw := s.mayWrite hb hp
      have hr := app_in (P := P) (w := w) (ty := ty) (b := p.blk) (off := 0) (n := n) (cap := cap) hu hq hq1 hsrc (by omega) (rvs_one hnews h1) (fun j hj => hw (0 + n + j) (by omega))
      rw [Nat.zero_add] at hr
      have hS := s.storeCells (o := n) hb hp (by omega) hnews
      rw [hm'] at hS
      exact .value (hrun _ _ hr) (Ext.refl β) (Nat.le_refl _) (.slice hp hc (by omega) ho htt) hS hk
    · have hcap : cap = 0 := by omega
      have hm0 : m = 0 := by omega
      have hn0 : n = 0 := by omega
      subst hm0 hn0 hcap
      have hnil : cnews = [] := List.eq_nil_of_length_eq_zero hm
      subst hnil
      have hr := app_in (P := P) (w := w) (ty := ty) (b := p.blk) (off := co) (n := 0) (cap := 0) hu hq hq1 hsrc (by omega) (by simp) (by intro j hj; omega)
      have hS := s.storeCells (o := 0) hb hp (by omega) hnews
      rw [hm'] at hS
      exact .value (hrun _ _ hr) (Ext.refl β) (Nat.le_refl _) (.slice hp hc (by omega) ho htt) hS hk

theorem vcApp_sound {t ty : TypeId} {x y : Operand} {K : AV → H → Prop} {o : Oper} (ho : o.op = .call { callee := .builtin .append, args := #[x, y], argTypes := #[t, t] }) (tok : TOk P T) (s : Sim base W0 β nxt h w) (hf : FrRel β fr a)
    (hk : vcApp T h t (ev fr x) (ev fr y) K) : Lands P base W0 β nxt o a w K := by
  have hs := hf.ev x
  have hy := hf.ev y
  have hrun : ∀ cv w', (Builtin.append_ #[t, t] o.type #[a.eval x, a.eval y]).run P w = .ok cv w' → (execOp a.eval o).run P w = .ok (.value cv) w' := by
    intro cv w' hh
    obtain ⟨dst, op, ty, pos, after, guard⟩ := o
    dsimp only at ho
    subst ho
    simp [execOp, resolve, invoke, builtin, hh]
  unfold vcApp at hk
  split at hk
  · contradiction
  · rename_i d ht
    split at hk
    · rename_i e hd
      split at hk
      · contradiction
      · rename_i j he
        split at hk
        · rename_i hsz hby
          have hby := Nat.le_of_ble_eq_true hby
          split at hk
          · rename_i b o' m c ey
            rw [ey] at hy
            obtain ⟨own, sz, cs, h1, h2, h3⟩ := hk
            obtain ⟨news, h4, h5⟩ := s.src hy h1 h2
            exact appG_sound tok ht hd he hsz hby s hs h4 h5 hrun h3
          · rename_i ey
            rw [ey] at hy
            generalize a.eval y = vy at hy hrun
            cases hy
            exact appG_sound tok ht hd he hsz hby s hs (RVs.nil β) ⟨rfl, .inr ⟨rfl, rfl⟩⟩ hrun hk
          · contradiction
        · contradiction
    · contradiction

/-- zeros, side by side -/
theorem zeroCells_one (v : Value) (n : Nat) : Builtin.zeroCells #[v] n = Array.replicate n v := by
  apply Array.ext
  · simp [Builtin.zeroCells]
  · intro i h1 h2
    simp [Builtin.zeroCells, Nat.mod_one]

theorem vcClear_sound {t : TypeId} {x : Operand} {K : AV → H → Prop} {o : Oper} (ho : o.op = .call { callee := .builtin .clear, args := #[x], argTypes := #[t] }) (tok : TOk P T) (s : Sim base W0 β nxt h w) (hf : FrRel β fr a)
    (hk : vcClear T h t (ev fr x) K) : Lands P base W0 β nxt o a w K := by
  have hx := hf.ev x
  have hrun : ∀ cv w', (Builtin.clear_ #[t] o.type #[a.eval x]).run P w = .ok cv w' → (execOp a.eval o).run P w = .ok (.value cv) w' := by
    intro cv w' hh
    obtain ⟨dst, op, ty, pos, after, guard⟩ := o
    dsimp only at ho
    subst ho
    simp [execOp, resolve, invoke, builtin, hh]
  have rt : RV β (.tup []) (.tuple #[]) := .tup rfl fun i c v hc => by simp at hc
  unfold vcClear at hk
  split at hk
  · contradiction
  · rename_i d ht
    split at hk
    · rename_i e hd
      have hu := tok.under ht
      rw [hd] at hu
      split at hk
      · contradiction
      · rename_i j he
        split at hk
        · rename_i z b of n c hsz hz ex
          rw [ex] at hx
          generalize a.eval x = vx at hx hrun
          obtain ⟨cs, h1, h2, h3, h4⟩ := hk
          cases hx with
          | @slice _ _ _ _ p cap co hp hc hnc hoo htt =>
          obtain ⟨v, hv, hzv⟩ := zcells_one hz
          have hzr : RV β z v := by rw [hzv]; exact rv_avScalar β v
          have hst := s.storeCells (o := of) (vs := List.replicate n z) (cvs := List.replicate n v) h1 hp (by simpa using h2) (RVs.replicate hzr n)
          rw [List.length_replicate] at hst
          have hq0 : p.off = 0 := by obtain ⟨_, _, _, _, _, _, _, _, h6, _⟩ := s.ownBlock h1 hp; exact h6
          have htot := ownTot s h1 hp
          refine .value (w' := w.setCells p.blk of (List.replicate n v)) (cv := .tuple #[]) (hrun _ _ ?_) (Ext.refl β) (Nat.le_refl _) rt hst h4
          by_cases h0 : n = 0
          · subst h0
            simp [Builtin.clear_, run_underlying hu, World.setCells]
          · have hco : co = of := by omega
            subst hco
            have hone : v.oneCell' = true := hzr.oneCell h3
            have hrc := run_storeCells_cells (P := P) p.blk co (List.replicate n v) 0 w
              (fun i hi => by simpa using (s.mayWrite h1 hp (co + i) (by simp at hi; omega)).1)
              (fun i hi => by simpa using (s.mayWrite h1 hp (co + i) (by simp at hi; omega)).2) (fun u hu => by rw [(List.mem_replicate.1 hu).2]; exact hone)
            simp only [Nat.add_zero] at hrc
            obtain ⟨n', rfl⟩ : ∃ n', n = n' + 1 := ⟨n - 1, by omega⟩
            simp [Builtin.clear_, run_underlying hu, run_zero tok he, hv, zeroCells_one, hrc]
        · rename_i z hsz hz ex
          rw [ex] at hx
          generalize a.eval x = vx at hx hrun
          cases hx
          exact .value (w' := w) (cv := .tuple #[]) (hrun _ _ (by simp [Builtin.clear_, run_underlying hu])) (Ext.refl β) (Nat.le_refl _) rt s hk
        · contradiction
    · contradiction

theorem vcMakeMap_sound {t : TypeId} {r : Option Operand} {K : AV → H → Prop} {o : Oper} (ho : o.op = .makeMap t r) (s : Sim base W0 β nxt h w) (hk : vcW E (.makeMap t r) fr h K) : Lands E.P base W0 β nxt o a w K := by
  obtain ⟨dst, op, ty, pos, after, guard⟩ := o
  dsimp only at ho
  subst ho
  simp only [vcW] at hk
  split at hk
  · refine .value (w' := w.alloc (.map #[] 0)) (cv := .map (some w.heap.size)) (β' := bput β nxt ⟨w.heap.size, 0, 0, 0⟩) ?_ (Ext.put (s.fresh nxt (Nat.le_refl _))) (Nat.le_succ _) (.map (bput_at _ _)) (s.alloc (.map #[] 0) ⟨w.heap.size, 0, 0, 0⟩ rfl (.map []) ⟨s.ge, #[], 0, heap_alloc_new w _, RVs.nil _, RVs.nil _⟩) (hk.hk nxt s.freshNone)
    simp [execOp, Instr.makeMap]
  · contradiction

/-! Maps -/
theorem rv_key0 {a : AV} {v : Value} (r : RV β a v) (h : key0 a = true) : v = keyV0 a := by
  cases r <;> first | rfl | cases h
theorem rv_key {a : AV} {v : Value} (r : RV β a v) (h : keyA a = true) : v = keyV a := by
  cases r with
  | @agg cs vs hl hr =>
    show _ = Value.agg (cs.map keyV0).toArray
    congr 1
    apply Array.ext'
    apply List.ext_getElem?
    intro i
    simp only [List.getElem?_map, Array.getElem?_toList]
    cases hc : cs[i]? with
    | none =>
      have := List.getElem?_eq_none_iff.1 hc
      simp
      omega
    | some c =>
      have hi := (List.getElem?_eq_some_iff.1 hc).1
      have hv : vs[i]? = some vs[i] := Array.getElem?_eq_getElem (by omega)
      rw [hv]
      have hk : key0 c = true := List.all_eq_true.1 h c (List.mem_of_getElem? hc)
      rw [rv_key0 (hr i c _ hc hv) hk]
      rfl
  | int k n => rfl
  | str s => rfl
  | _ => cases h
theorem keyV0_inj {a b : AV} (ha : key0 a = true) (hb : key0 b = true) (h : keyV0 a = keyV0 b) : a = b := by
  cases a <;> first | (cases ha; done) | (cases b <;> first | (cases hb; done) | (simp [keyV0] at h; try simp [h]))
theorem keyV_inj {a b : AV} (ha : keyA a = true) (hb : keyA b = true) (h : keyV a = keyV b) : a = b := by
  have agg : ∀ l l' : List AV, l.all key0 = true → l'.all key0 = true → l.map keyV0 = l'.map keyV0 → l = l' := by
    intro l
    induction l with
    | nil => intro l' _ _ h; cases l' with
      | nil => rfl
      | cons => cases h
    | cons x l ih =>
      intro l' h1 h2 h
      cases l' with
      | nil => cases h
      | cons y l' =>
        simp only [List.map_cons, List.cons.injEq, List.all_cons, Bool.and_eq_true] at h h1 h2
        rw [keyV0_inj h1.1 h2.1 h.1, ih l' h1.2 h2.2 h.2]
  cases a <;> first
    | (cases ha; done)
    | (cases b <;> first
        | (cases hb; done)
        | exact keyV0_inj ha hb h
        | (simp [keyV, keyV0] at h; done)
        | (congr 1; refine agg _ _ ha hb ?_; simpa [keyV] using h))

theorem map_block (s : Sim base W0 β nxt h w) {b : Nat} {es : List (AV × AV)} {p : Pos} (hb : h b = some (.map es)) (hp : β b = some p) :
    base ≤ p.blk ∧ ∃ ents clk, w.heap[p.blk]? = some (.map ents clk) ∧ RVs β (es.map (·.1)) (ents.toList.map (·.key)) ∧ RVs β (es.map (·.2)) (ents.toList.map (·.val)) := by
  obtain ⟨q, h1, h2⟩ := s.live b _ hb
  rw [hp] at h1
  injection h1 with h1
  subst h1
  exact h2

/-- entries side by side -/
theorem entry_at {es : List (AV × AV)} {ents : Array MapEntry} (rk : RVs β (es.map (·.1)) (ents.toList.map (·.key))) (rv : RVs β (es.map (·.2)) (ents.toList.map (·.val))) {j : Nat} {e : MapEntry} (he : ents.toList[j]? = some e) :
    ∃ a v, es[j]? = some (a, v) ∧ RV β a e.key ∧ RV β v e.val := by
  have hl := rk.1
  simp only [List.length_map] at hl
  have hj : j < es.length := by have := (List.getElem?_eq_some_iff.1 he).1; omega
  refine ⟨es[j].1, es[j].2, by rw [List.getElem?_eq_getElem hj], ?_, ?_⟩
  · exact rk.2 j _ _ (by rw [List.getElem?_map, List.getElem?_eq_getElem hj]; rfl) (by rw [List.getElem?_map, he]; rfl)
  · exact rv.2 j _ _ (by rw [List.getElem?_map, List.getElem?_eq_getElem hj]; rfl) (by rw [List.getElem?_map, he]; rfl)
theorem entry_of {es : List (AV × AV)} {ents : Array MapEntry} (rk : RVs β (es.map (·.1)) (ents.toList.map (·.key))) (rv : RVs β (es.map (·.2)) (ents.toList.map (·.val))) {j : Nat} {a v : AV} (he : es[j]? = some (a, v)) :
    ∃ e, ents.toList[j]? = some e ∧ RV β a e.key ∧ RV β v e.val := by
  have hl := rk.1
  simp only [List.length_map] at hl
  have hj : j < ents.toList.length := by have := (List.getElem?_eq_some_iff.1 he).1; omega
  refine ⟨ents.toList[j], List.getElem?_eq_getElem hj, ?_, ?_⟩
  · exact rk.2 j _ _ (by rw [List.getElem?_map, he]; rfl) (by rw [List.getElem?_map, List.getElem?_eq_getElem hj]; rfl)
  · exact rv.2 j _ _ (by rw [List.getElem?_map, he]; rfl) (by rw [List.getElem?_map, List.getElem?_eq_getElem hj]; rfl)

theorem keys_lit {P : Program} {k : TypeId} {es : List (AV × AV)} {ents : Array MapEntry} (rk : RVs β (es.map (·.1)) (ents.toList.map (·.key))) (rv : RVs β (es.map (·.2)) (ents.toList.map (·.val))) (ok : ∀ p ∈ es, KOk P k p.1) :
    ∀ e ∈ ents.toList, ∃ l, Go.keyOf P k e.key = some l := by
  intro e he
  obtain ⟨j, hj⟩ := List.getElem?_of_mem he
  obtain ⟨a, v, h1, h2, h3⟩ := entry_at rk rv hj
  have := ok (a, v) (List.mem_of_getElem? h1)
  rw [rv_key h2 this.form]
  exact this.lit

theorem rvs_tup {cs : List AV} {vs : List Value} (r : RVs β cs vs) : RV β (.tup cs) (.tuple vs.toArray) :=
  .tup (by simpa using r.1) fun i c v hc hv => r.2 i c v hc (by simpa using hv)

theorem vcLookup_sound {t : TypeId} {x i : Operand} {ok : Bool} {K : AV → H → Prop} {o : Oper} (ho : o.op = .lookup t x i ok) (tok : TOk E.P E.T) (s : Sim base W0 β nxt h w) (hf : FrRel β fr a) (hk : vcW E (.lookup t x i ok) fr h K) : Lands E.P base W0 β nxt o a w K := by
  obtain ⟨dst, op, ty, pos, after, guard⟩ := o
  dsimp only at ho
  subst ho
  simp only [vcW] at hk
  split at hk
  · contradiction
  · rename_i d ht
    split at hk
    · rename_i k e hd
      split at hk
      · contradiction
      · rename_i de hde
        split at hk
        · rename_i b hagg ex
          rw [force_eq] at hk
          have hx := hf.ev x
          rw [ex] at hx
          have hi := hf.ev i
          have hu := tok.under ht
          rw [hd] at hu
          obtain ⟨q, hq, hs, _, hz⟩ := tok.infos hde
          generalize hvx : a.eval x = vx at hx
          generalize hvi : a.eval i = vi at hi
          cases hx with
          | @map _ p hp =>
          have fin : ∀ (v : AV) (cv : Value) (f : Bool), RV β v cv → okK ok K h v f →
              (∀ (r : Option (Nat × Value)), (match r with | some (_, v) => (v, true) | none => (de.zero, false)) = (cv, f) →
                (Instr.lookup t (.map (some p.blk)) vi ok).run E.P w = .ok (if ok then .tuple #[cv, .bool f] else cv) w → Lands E.P base W0 β nxt ⟨dst, .lookup t x i ok, ty, pos, after, guard⟩ a w K) := by
            intro v cv f hr hK r _ hrun
            cases ok with
            | true => exact .value (w' := w) (cv := .tuple #[cv, .bool f]) (by simp [execOp, hvx, hvi, hrun]) (Ext.refl β) (Nat.le_refl _) (rvs_tup (RVs.cons hr (RVs.cons (.bool f) (RVs.nil β)))) s hK
            | false => exact .value (w' := w) (cv := cv) (by simp [execOp, hvx, hvi, hrun]) (Ext.refl β) (Nat.le_refl _) hr s hK
          cases hk with
          | hit es v law hb okk ka hm hun hK =>
            obtain ⟨hbase, ents, clk, hheap, rk, rv⟩ := map_block s hb hp
            have hkv := rv_key hi ka.form
            obtain ⟨l, hl⟩ := ka.lit
            rw [← hkv] at hl
            rcases law.find w hl ents.toList (keys_lit rk rv okk) with ⟨h1, h2⟩ | ⟨j, e0, h1, h2, h3⟩
            · obtain ⟨n, hn⟩ := List.getElem?_of_mem hm
              obtain ⟨e0, g1, g2, g3⟩ := entry_of rk rv hn
              exact absurd ((rv_key g2 ka.form).trans hkv.symm) (h2 e0 (List.mem_of_getElem? g1))
            · obtain ⟨a', v', g1, g2, g3⟩ := entry_at rk rv h2
              have hmem := List.mem_of_getElem? g1
              have ea : a' = ev fr i := keyV_inj (okk _ hmem).form ka.form (by rw [← rv_key g2 (okk _ hmem).form, h3, hkv])
              subst ea
              have ev' := hun v' hmem
              subst ev'
              refine fin v' e0.val true g3 hK (some (j, e0.val)) rfl ?_
              simp [Instr.lookup, run_underlying hu, Go.MapKept.run_getObj_map hheap, law.check w _ hl, h1]
          | miss es law hb okk ka hno hK =>
            obtain ⟨hbase, ents, clk, hheap, rk, rv⟩ := map_block s hb hp
            have hkv := rv_key hi ka.form
            obtain ⟨l, hl⟩ := ka.lit
            rw [← hkv] at hl
            rcases law.find w hl ents.toList (keys_lit rk rv okk) with ⟨h1, h2⟩ | ⟨j, e0, h1, h2, h3⟩
            · refine fin _ de.zero false (rv_avScalar β de.zero) hK none rfl ?_
              have hzv : (zeroValue e).run E.P w = .ok de.zero w := by simp [zeroValue, typeInfo, hq, hz]
              simp [Instr.lookup, run_underlying hu, Go.MapKept.run_getObj_map hheap, law.check w _ hl, h1, hzv]
            · obtain ⟨a', v', g1, g2, g3⟩ := entry_at rk rv h2
              have hmem := List.mem_of_getElem? g1
              have ea : a' = ev fr i := keyV_inj (okk _ hmem).form ka.form (by rw [← rv_key g2 (okk _ hmem).form, h3, hkv])
              subst ea
              exact absurd hmem (hno v')
        · contradiction
    · contradiction

theorem Below.setBlk {w' : World} (bl : Below base W0 w) {r : Nat} (hr : base ≤ r) (o : Obj) (hw : w' = { w with heap := w.heap.setIfInBounds r o }) : Below base W0 w' := by
  subst hw
  refine bl.trans ⟨rfl, rfl, rfl, by simp, fun k hk => ?_⟩
  show (w.heap.setIfInBounds r o)[k]? = _
  rw [Array.getElem?_setIfInBounds_ne (by omega)]

theorem mapSet_sound {t kt et : TypeId} {b : Nat} {av vv : AV} {kv cv : Value} {p : Pos} {K : H → Prop} (hu : E.P.underlying t = some (.map kt et)) (s : Sim base W0 β nxt h w) (hp : β b = some p) (rk0 : RV β av kv) (rv0 : RV β vv cv)
    (hk : MapSetG E.P kt h b av vv K) : ∃ w' h', (Instr.mapUpdate t (.map (some p.blk)) kv cv).run E.P w = .ok () w' ∧ Sim base W0 β nxt h' w' ∧ K h' := by
  cases hk with
  | put es law hb okk ka hno hK =>
    obtain ⟨hbase, ents, clk, hheap, rk, rv⟩ := map_block s hb hp
    have hkv := rv_key rk0 ka.form
    obtain ⟨l, hl⟩ := ka.lit
    rw [← hkv] at hl
    rcases law.find w hl ents.toList (keys_lit rk rv okk) with ⟨h1, h2⟩ | ⟨j, e0, h1, h2, h3⟩
    · refine ⟨{ w with heap := w.heap.setIfInBounds p.blk (.map (ents.push { key := kv, val := cv, born := clk }) (clk + 1)) }, _, ?_, ?_, hK⟩
      · simp [Instr.mapUpdate, run_underlying hu, Go.MapKept.run_getObj_map hheap, law.check w _ hl, h1, Go.MapKept.run_setObj_map _ hheap]
      · obtain ⟨e1, e2⟩ := Go.MapKept.heap_set (o' := Obj.map (ents.push { key := kv, val := cv, born := clk }) (clk + 1)) hheap
        refine s.setOwn hb rfl hp (Below.setBlk s.below hbase _ rfl) (by simp) (fun k _ hne => e2 k hne) rfl ⟨hbase, _, _, e1, ?_, ?_⟩
        · simpa using rk.append (RVs.cons rk0 (RVs.nil β))
        · simpa using rv.append (RVs.cons rv0 (RVs.nil β))
    · obtain ⟨a', v', g1, g2, g3⟩ := entry_at rk rv h2
      have hmem := List.mem_of_getElem? g1
      have ea : a' = av := keyV_inj (okk _ hmem).form ka.form (by rw [← rv_key g2 (okk _ hmem).form, h3, hkv])
      subst ea
      exact absurd hmem (hno v')
  | set es n u law hb okk ka hn hun hK =>
    obtain ⟨hbase, ents, clk, hheap, rk, rv⟩ := map_block s hb hp
    have hkv := rv_key rk0 ka.form
    obtain ⟨l, hl⟩ := ka.lit
    rw [← hkv] at hl
    rcases law.find w hl ents.toList (keys_lit rk rv okk) with ⟨h1, h2⟩ | ⟨j, e0, h1, h2, h3⟩
    · obtain ⟨e0, g1, g2, g3⟩ := entry_of rk rv hn
      exact absurd ((rv_key g2 ka.form).trans hkv.symm) (h2 e0 (List.mem_of_getElem? g1))
    · obtain ⟨a', v', g1, g2, g3⟩ := entry_at rk rv h2
      have hmem := List.mem_of_getElem? g1
      have ea : a' = av := keyV_inj (okk _ hmem).form ka.form (by rw [← rv_key g2 (okk _ hmem).form, h3, hkv])
      subst ea
      have ej := hun j v' g1
      subst ej
      have h2' : ents[j]? = some e0 := by simpa using h2
      refine ⟨{ w with heap := w.heap.setIfInBounds p.blk (.map (ents.modify j fun e => { e with key := kv, val := cv }) clk) }, _, ?_, ?_, hK⟩
      · have hst := law.stays w hl
        rw [← h3] at hst ⊢
        simp [Instr.mapUpdate, run_underlying hu, Go.MapKept.run_getObj_map hheap, h3 ▸ law.check w false hl, h3 ▸ h1, h2', hst, Go.MapKept.run_setObj_map _ hheap]
      · obtain ⟨e1, e2⟩ := Go.MapKept.heap_set (o' := Obj.map (ents.modify j fun e => { e with key := kv, val := cv }) clk) hheap
        refine s.setOwn hb rfl hp (Below.setBlk s.below hbase _ rfl) (by simp) (fun k _ hne => e2 k hne) rfl ⟨hbase, _, _, e1, ?_, ?_⟩
        · have x1 : (es.set j (a', vv)).map (·.1) = (es.map (·.1)).set j a' := by rw [List.map_set]
          have x2 : (ents.modify j fun e => { e with key := kv, val := cv }).toList.map (·.key) = (ents.toList.map (·.key)).set j kv := by
            apply List.ext_getElem?
            intro i
            simp only [List.getElem?_map, Array.getElem?_toList, Array.getElem?_modify, List.getElem?_set, List.length_map, Array.length_toList]
            have hj : j < ents.size := (Array.getElem?_eq_some_iff.1 h2').1
            by_cases hij : j = i
            · subst hij
              simp [hj]
            · simp [hij]
          rw [x1, x2]
          exact rk.set j rk0
        · have x1 : (es.set j (a', vv)).map (·.2) = (es.map (·.2)).set j vv := by rw [List.map_set]
          have x2 : (ents.modify j fun e => { e with key := kv, val := cv }).toList.map (·.val) = (ents.toList.map (·.val)).set j cv := by
            apply List.ext_getElem?
            intro i
            simp only [List.getElem?_map, Array.getElem?_toList, Array.getElem?_modify, List.getElem?_set, List.length_map, Array.length_toList]
            have hj : j < ents.size := (Array.getElem?_eq_some_iff.1 h2').1
            by_cases hij : j = i
            · subst hij
              simp [hj]
            · simp [hij]
          rw [x1, x2]
          exact rv.set j rv0

theorem vcMapSet_sound {t : TypeId} {m k x : Operand} {K : AV → H → Prop} {o : Oper} (ho : o.op = .mapUpdate t m k x ∨ o.op = .insert t m k x) (tok : TOk E.P E.T) (s : Sim base W0 β nxt h w) (hf : FrRel β fr a) (hk : vcW E (.mapUpdate t m k x) fr h K) : Lands E.P base W0 β nxt o a w K := by
  simp only [vcW] at hk
  split at hk
  · contradiction
  · rename_i d ht
    split at hk
    · rename_i kt et hd
      split at hk
      · rename_i b em
        rw [force_eq, force_eq] at hk
        have hm := hf.ev m
        rw [em] at hm
        have hu := tok.under ht
        rw [hd] at hu
        generalize hvm : a.eval m = vm at hm
        cases hm with
        | @map _ p hp =>
        obtain ⟨w', h', hrun, hS, hK⟩ := mapSet_sound (E := E) hu s hp (hf.ev k) (hf.ev x) hk
        refine .skip (w' := w') ?_ (Ext.refl β) (Nat.le_refl _) hS hK
        obtain ⟨dst, op, ty, pos, after, guard⟩ := o
        dsimp only at ho
        rcases ho with ho | ho <;> subst ho <;> simp [execOp, hvm, hrun]
      · contradiction
    · contradiction

theorem vcW_sound {o : Oper} {K : AV → H → Prop} (s : Sim base W0 β nxt h w) (hf : FrRel β fr a) (hk : vcW E o.op fr h K) : Lands E.P base W0 β nxt o a w K := by
  have tok := E.tok
  generalize hop : o.op = op at hk
  cases op <;> first
    | exact vcStore_sound hop tok s hf hk
    | exact vcAlloc_sound hop tok s hk
    | exact vcBox_sound hop s hf hk
    | exact vcBuildSlice_sound hop tok s hf hk
    | exact vcMakeSlice_sound hop tok s hf hk
    | exact vcMakeMap_sound hop s hk
    | exact vcLookup_sound hop tok s hf hk
    | exact vcMapSet_sound (.inl hop) tok s hf hk
    | exact vcMapSet_sound (.inr hop) tok s hf hk
    | (rename_i c
       obtain ⟨callee, args, ats⟩ := c
       cases callee with
       | value f => exact vcCall_sound hop s hf hk
       | invoke r m => exact absurd hk (by simp [vcW])
       | builtin b =>
         simp only [vcW] at hk
         split at hk
         · rename_i hcb; cases hcb
         · rename_i hcb
           injection hcb with hcb
           subst hcb
           split at hk
           · rename_i x y t t' h1 h2
             have e1 : args = #[x, y] := Array.ext' h1
             have e2 : ats = #[t, t'] := Array.ext' h2
             subst e1 e2
             split at hk
             · rename_i hb
               have := Nat.eq_of_beq_eq_true hb
               subst this
               exact vcApp_sound (ty := t) hop tok s hf hk
             · contradiction
           · contradiction
         · rename_i hcb
           injection hcb with hcb
           subst hcb
           split at hk
           · rename_i x t h1 h2
             have e1 : args = #[x] := Array.ext' h1
             have e2 : ats = #[t] := Array.ext' h2
             subst e1 e2
             exact vcClear_sound hop tok s hf hk
           · contradiction
         · contradiction)
    | exact absurd hk (by simp [vcW])

end
end Go.Proofs.YtbicfognbbeigaaGreat.Ab

/-
  The library's thirteenth text proves the rules by which code is walked in abstract values.
  It holds no condition of its own.
-/
set_option linter.unusedVariables false
set_option linter.unusedSimpArgs false
namespace Go.Proofs.YtbicfognbbeigaaGreat.Ab
open Go.RowKit

def kindOf (T : TT) : Op → Nat
  | .load _ _ => 1
  | .convert s t _ => match textD T s t with
    | true => 1
    | false => 0
  | .store _ _ _ => 2
  | .alloc _ => 2
  | .box _ _ => 2
  | .buildSlice _ _ _ => 2
  | .makeSlice _ _ _ => 2
  | .makeMap _ _ => 2
  | .mapUpdate _ _ _ _ => 2
  | .insert _ _ _ _ => 2
  | .lookup _ _ _ _ => 2
  | .call c => match c.callee with
    | .builtin .len => 0
    | .builtin .max => 0
    | .builtin .min => 0
    | _ => 2
  | _ => 0

def dstOk (n : Nat) : Option Tmp → Bool
  | none => true
  | some d => Nat.ble (d + 1) n

/-- what comes behind an operation's value -/
def afterK (n : Nat) (dst : Option Tmp) (fr : Fr) (v : AV) (K : Fr → Prop) : Prop :=
  match dst with
  | none => K fr
  | some d => match Nat.ble (d + 1) n with
    | true => force v fun v => K ((d, v) :: fr)
    | false => False

theorem afterK_spec {n : Nat} {dst : Option Tmp} {fr : Fr} {v : AV} {K : Fr → Prop} (h : afterK n dst fr v K) : dstOk n dst = true ∧ K (put fr dst v) := by
  unfold afterK at h
  split at h
  · exact ⟨rfl, h⟩
  · split at h
    · rename_i hd
      rw [force_eq] at h
      exact ⟨hd, h⟩
    · contradiction

def vcOne (E : Env) (n : Nat) (o : Oper) (fr : Fr) (h : H) (K : Fr → H → Prop) : Prop :=
  match kindOf E.T o.op with
  | 0 => vcP E.T o.op fr fun v => afterK n o.dst fr v fun fr => K fr h
  | 1 => vcR E.T o.op fr h fun v => afterK n o.dst fr v fun fr => K fr h
  | _ => vcW E o.op fr h fun v h' => afterK n o.dst fr v fun fr => K fr h'

def vcSkip (n : Nat) (o : Oper) (fr : Fr) (h : H) (K : Fr → H → Prop) : Prop := afterK n o.dst fr .undef fun fr => K fr h

def gslot (ops : List Oper) (j : Nat) : Option Tmp :=
  match ops[j]? with
  | some o => o.dst
  | none => none

def vcGd (E : Env) (n : Nat) (ops : List Oper) (o : Oper) (fr : Fr) (h : H) (K : Fr → H → Prop) : Prop :=
  match o.guard with
  | none => vcOne E n o fr h K
  | some (j, want) => match gslot ops j with
    | none => False
    | some d => match lget fr d with
      | .bool c => match want with
        | true => Br c (vcOne E n o fr h K) (vcSkip n o fr h K)
        | false => Br c (vcSkip n o fr h K) (vcOne E n o fr h K)
      | .undef => vcSkip n o fr h K
      | _ => False

def vcOps (E : Env) (n : Nat) (ops : List Oper) : List Oper → Fr → H → (Fr → H → Prop) → Prop
  | [], fr, h, K => K fr h
  | o :: r, fr, h, K => vcGd E n ops o fr h fun fr h => vcOps E n ops r fr h K

/-- what is promised of the end of a piece of code -/
def lift (base : Nat) (W0 : World) (β : Bt) (nxt n : Nat) (Q : Exit → Fr → H → Prop) : Exit → Act → World → Prop
  | .panic _, _, _ => False
  | .outgrown, _, _ => False
  | e, a, w => ∃ β' nxt' fr h, Ext β β' ∧ nxt ≤ nxt' ∧ Sim base W0 β' nxt' h w ∧ FrRel β' fr a ∧ a.tmps.size = n ∧ Q e fr h

structure AW (E : Env) (n : Nat) (c : Code) (fr : Fr) (h : H) (Q : Exit → Fr → H → Prop) : Prop where
  run : ∀ (base : Nat) (W0 : World) (β : Bt) (nxt : Nat) (a : Act) (w : World), Sim base W0 β nxt h w → FrRel β fr a → a.tmps.size = n → c.wp E.P (lift base W0 β nxt n Q) a w

section
variable {E : Env} {n : Nat} {base : Nat} {W0 : World} {β : Bt} {nxt : Nat} {h : H} {w : World} {fr : Fr} {a : Act} {Q : Exit → Fr → H → Prop}

theorem lift.ext {β' : Bt} {nxt' : Nat} {e : Exit} (he : Ext β β') (hn : nxt ≤ nxt') (l : lift base W0 β' nxt' n Q e a w) : lift base W0 β nxt n Q e a w := by
  cases e <;> first
    | exact l
    | (obtain ⟨β2, nxt2, fr, h, h1, h2, rest⟩ := l
       exact ⟨β2, nxt2, fr, h, he.trans h1, Nat.le_trans hn h2, rest⟩)

theorem put_size (a : Act) (d : Option Tmp) (v : Value) : (a.put d v).tmps.size = a.tmps.size := by
  cases d <;> simp [Act.put]

theorem dstOk_spec {d : Option Tmp} (hd : dstOk n d = true) (hs : a.tmps.size = n) : ∀ x, d = some x → x < a.tmps.size := by
  intro x hx
  subst hx
  have h1 : x + 1 ≤ n := Nat.le_of_ble_eq_true hd
  rw [hs]
  exact h1

/-- where an operation leads, in abstract values -/
def Goes (E : Env) (n : Nat) (base : Nat) (W0 : World) (β : Bt) (nxt : Nat) (K : Fr → H → Prop) (next : Act → World → Prop) : Prop :=
  ∀ β' nxt' h' w' fr' a', Ext β β' → nxt ≤ nxt' → Sim base W0 β' nxt' h' w' → FrRel β' fr' a' → a'.tmps.size = n → K fr' h' → next a' w'

theorem vcOne_sound {o : Oper} {K : Fr → H → Prop} {next : Act → World → Prop} {Q' : Exit → Act → World → Prop} (s : Sim base W0 β nxt h w) (hf : FrRel β fr a) (hs : a.tmps.size = n) (hk : vcOne E n o fr h K)
    (hn : Goes E n base W0 β nxt K next) : o.wp E.P a w next Q' := by
  unfold vcOne at hk
  split at hk
  · obtain ⟨v, cv, r, g, k⟩ := vcP_sound (P := E.P) E.tok hf hk
    obtain ⟨hd, k⟩ := afterK_spec k
    unfold Oper.wp
    rw [g w]
    exact hn β nxt h w _ _ (Ext.refl β) (Nat.le_refl _) s (hf.put o.dst (dstOk_spec hd hs) r) ((put_size a _ _).trans hs) k
  · obtain ⟨v, cv, r, g, k⟩ := vcR_sound (P := E.P) E.tok s hf hk
    obtain ⟨hd, k⟩ := afterK_spec k
    unfold Oper.wp
    rw [g]
    exact hn β nxt h w _ _ (Ext.refl β) (Nat.le_refl _) s (hf.put o.dst (dstOk_spec hd hs) r) ((put_size a _ _).trans hs) k
  · refine vcW_sound s hf hk next Q' fun β' nxt' h' w' v cv he hx r s' k => ?_
    obtain ⟨hd, k⟩ := afterK_spec k
    exact hn β' nxt' h' w' _ _ he hx s' ((hf.mono he).put o.dst (dstOk_spec hd hs) r) ((put_size a _ _).trans hs) k

theorem vcSkip_sound {o : Oper} {K : Fr → H → Prop} {next : Act → World → Prop} (s : Sim base W0 β nxt h w) (hf : FrRel β fr a) (hs : a.tmps.size = n) (hk : vcSkip n o fr h K)
    (hn : Goes E n base W0 β nxt K next) : next (a.put o.dst Go.undef) w := by
  unfold vcSkip at hk
  obtain ⟨hd, hk⟩ := afterK_spec hk
  exact hn β nxt h w _ _ (Ext.refl β) (Nat.le_refl _) s (hf.put o.dst (dstOk_spec hd hs) .undef) ((put_size a _ _).trans hs) hk

theorem gslot_yielded {ops : Array Oper} {j : Nat} {d : Tmp} (hg : gslot ops.toList j = some d) : yielded ops a.tmps j = (match a.tmps[d]? with | some (.bool b) => some b | _ => none) := by
  unfold gslot at hg
  unfold yielded
  split at hg
  · rename_i o ho
    have : ops[j]? = some o := by simpa using ho
    rw [this]
    simp [hg]
    rfl
  · cases hg

theorem getD_bool {d : Nat} {c : Bool} (h : a.tmps.getD d Go.undef = .bool c) : a.tmps[d]? = some (.bool c) := by
  rw [Array.getD_eq_getD_getElem?] at h
  cases hd : a.tmps[d]? with
  | none => rw [hd] at h; cases h
  | some v => rw [hd] at h; simp at h; rw [h]

theorem getD_undef {d : Nat} (h : a.tmps.getD d Go.undef = Go.undef) : (match a.tmps[d]? with | some (.bool b) => some b | _ => none) = none := by
  rw [Array.getD_eq_getD_getElem?] at h
  cases hd : a.tmps[d]? with
  | none => rfl
  | some v => rw [hd] at h; simp at h; subst h; rfl

theorem vcGd_sound {ops : Array Oper} {o : Oper} {K : Fr → H → Prop} {next : Act → World → Prop} {Q' : Exit → Act → World → Prop} (s : Sim base W0 β nxt h w) (hf : FrRel β fr a) (hs : a.tmps.size = n) (hk : vcGd E n ops.toList o fr h K)
    (hn : Goes E n base W0 β nxt K next) : if Region.wanted o (yielded ops a.tmps) then o.wp E.P a w next Q' else next (a.put o.dst Go.undef) w := by
  unfold vcGd at hk
  split at hk
  · rename_i hg
    have : Region.wanted o (yielded ops a.tmps) = true := by simp [Region.wanted, hg]
    rw [if_pos this]
    exact vcOne_sound s hf hs hk hn
  · rename_i j want hg
    split at hk
    · contradiction
    · rename_i d hd
      have hy := gslot_yielded (a := a) hd
      have hrel := hf.1 d
      split at hk
      · rename_i c hc
        rw [hc] at hrel
        have hb : a.tmps.getD d Go.undef = .bool c := by
          generalize a.tmps.getD d Go.undef = v at hrel
          cases hrel
          rfl
        rw [getD_bool hb] at hy
        simp only at hy
        cases want with
        | true =>
          have hk := hk.out
          cases c with
          | true =>
            rw [if_pos (by simp [Region.wanted, hg, hy])]
            exact vcOne_sound s hf hs (by simpa using hk) hn
          | false =>
            rw [if_neg (by simp [Region.wanted, hg, hy])]
            exact vcSkip_sound s hf hs (by simpa using hk) hn
        | false =>
          have hk := hk.out
          cases c with
          | true =>
            rw [if_neg (by simp [Region.wanted, hg, hy])]
            exact vcSkip_sound s hf hs (by simpa using hk) hn
          | false =>
            rw [if_pos (by simp [Region.wanted, hg, hy])]
            exact vcOne_sound s hf hs (by simpa using hk) hn
      · rename_i hc
        rw [hc] at hrel
        have hb : a.tmps.getD d Go.undef = Go.undef := by
          generalize a.tmps.getD d Go.undef = v at hrel
          cases hrel
          rfl
        rw [getD_undef hb] at hy
        rw [if_neg (by simp [Region.wanted, hg, hy])]
        exact vcSkip_sound s hf hs hk hn
      · contradiction

theorem vcOps_sound {ops : Array Oper} {K : Fr → H → Prop} {Q' : Exit → Act → World → Prop} : ∀ (l : List Oper) (β : Bt) (nxt : Nat) (h : H) (w : World) (fr : Fr) (a : Act), Sim base W0 β nxt h w → FrRel β fr a → a.tmps.size = n →
    vcOps E n ops.toList l fr h K → Goes E n base W0 β nxt K (fun a w => Q' .normal a w) → wpList E.P ops Q' l a w
  | [], β, nxt, h, w, fr, a, s, hf, hs, hk, hn => hn β nxt h w fr a (Ext.refl β) (Nat.le_refl _) s hf hs hk
  | o :: r, β, nxt, h, w, fr, a, s, hf, hs, hk, hn => by
    refine wpList_step fun K' hK' => ?_
    refine vcGd_sound (K := fun fr h => vcOps E n ops.toList r fr h K) s hf hs hk fun β' nxt' h' w' fr' a' he hx s' hf' hs' hk' => hK' _ _ ?_
    exact vcOps_sound r β' nxt' h' w' fr' a' s' hf' hs' hk' fun β2 nxt2 h2 w2 fr2 a2 he2 hx2 s2 hf2 hs2 hk2 => hn β2 nxt2 h2 w2 fr2 a2 (he.trans he2) (Nat.le_trans hx hx2) s2 hf2 hs2 hk2

theorem AW.region {id : Nat} {ops : Array Oper} (hk : vcOps E n ops.toList ops.toList fr h fun fr h => Q .normal fr h) : AW E n (.region id ops false) fr h Q := by
  refine ⟨fun base W0 β nxt a w s hf hs => wp_region_list ?_⟩
  exact vcOps_sound (K := fun fr h => Q .normal fr h) _ β nxt h w fr a s hf hs hk fun β' nxt' h' w' fr' a' he hx s' hf' hs' hk' => ⟨β', nxt', fr', h', he, hx, s', hf', hs', hk'⟩

def thenK (K : Fr → H → Prop) (Q : Exit → Fr → H → Prop) : Exit → Fr → H → Prop
  | .normal, fr, h => K fr h
  | e, fr, h => Q e fr h

def blockK (id : Nat) (Q : Exit → Fr → H → Prop) : Exit → Fr → H → Prop
  | .exit j, fr, h => match Nat.beq j id with
    | true => Q .normal fr h
    | false => Q (.exit j) fr h
  | e, fr, h => Q e fr h

theorem AW.seq {x y : Code} (hk : AW E n x fr h (thenK (fun fr h => AW E n y fr h Q) Q)) : AW E n (.seq x y) fr h Q := by
  refine ⟨fun base W0 β nxt a w s hf hs => wp_seq (wp_mono (hk.run base W0 β nxt a w s hf hs) fun e a' w' l => ?_)⟩
  cases e with
  | normal =>
    obtain ⟨β', nxt', fr', h', he, hx, s', hf', hs', k⟩ := l
    exact wp_mono (k.run base W0 β' nxt' a' w' s' hf' hs') fun e a w l => l.ext he hx
  | _ => exact l

theorem AW.block {id : Nat} {c : Code} (hk : AW E n c fr h (blockK id Q)) : AW E n (.block id c) fr h Q := by
  refine ⟨fun base W0 β nxt a w s hf hs => wp_block (wp_mono (hk.run base W0 β nxt a w s hf hs) fun e a' w' l => ?_)⟩
  cases e with
  | exit j =>
    obtain ⟨β', nxt', fr', h', he, hx, s', hf', hs', k⟩ := l
    unfold blockK at k
    dsimp only at k
    split at k
    · rename_i hj
      have := Nat.eq_of_beq_eq_true hj
      subst this
      simp only [Exit.inBlock, if_true]
      exact ⟨β', nxt', fr', h', he, hx, s', hf', hs', k⟩
    · rename_i hj
      have hne : j ≠ id := by intro e; subst e; rw [Nat.beq_refl] at hj; cases hj
      simp only [Exit.inBlock, hne, if_false]
      exact ⟨β', nxt', fr', h', he, hx, s', hf', hs', k⟩
  | _ => exact l

theorem AW.cond {c : Operand} {x y : Code} {t : Bool} (hc : ev fr c = .bool t) (hk : Br t (AW E n x fr h Q) (AW E n y fr h Q)) : AW E n (.cond c x y) fr h Q := by
  refine ⟨fun base W0 β nxt a w s hf hs => ?_⟩
  have hr := hf.ev c
  rw [hc] at hr
  have hv : a.eval c = .bool t := by
    generalize a.eval c = v at hr
    cases hr
    rfl
  refine wp_cond hv ?_
  have := hk.out
  cases t with
  | true => exact AW.run (by simpa using this) base W0 β nxt a w s hf hs
  | false => exact AW.run (by simpa using this) base W0 β nxt a w s hf hs

theorem AW.skip (hk : Q .normal fr h) : AW E n .skip fr h Q :=
  ⟨fun _ _ β nxt _ _ s hf hs => wp_skip ⟨β, nxt, fr, h, Ext.refl β, Nat.le_refl _, s, hf, hs, hk⟩⟩
theorem AW.ret (hk : Q .ret fr h) : AW E n .ret fr h Q :=
  ⟨fun _ _ β nxt _ _ s hf hs => wp_ret ⟨β, nxt, fr, h, Ext.refl β, Nat.le_refl _, s, hf, hs, hk⟩⟩
theorem AW.exit {id : Nat} (hk : Q (.exit id) fr h) : AW E n (.exit id) fr h Q :=
  ⟨fun _ _ β nxt _ _ s hf hs => wp_exit ⟨β, nxt, fr, h, Ext.refl β, Nat.le_refl _, s, hf, hs, hk⟩⟩

/-- less is known of the frame -/
def Less (fr fr' : Fr) : Prop := ∀ p, p ∈ fr' → lget fr p.1 = p.2

theorem Less.nil (fr : Fr) : Less fr [] := fun p h => by cases h
theorem Less.cons {fr fr' : Fr} {k : Nat} {v : AV} (h : lget fr k = v) (r : Less fr fr') : Less fr ((k, v) :: fr') := by
  intro p hp
  cases hp with
  | head => exact h
  | tail _ hp => exact r p hp

theorem AW.less {c : Code} {fr' : Fr} (hl : Less fr fr') (hk : AW E n c fr' h Q) : AW E n c fr h Q :=
  ⟨fun base W0 β nxt a w s hf hs => hk.run base W0 β nxt a w s (hf.less hl) hs⟩

theorem AW.mono {c : Code} {Q' : Exit → Fr → H → Prop} (hk : AW E n c fr h Q) (m : ∀ e fr h, Q e fr h → Q' e fr h) : AW E n c fr h Q' := by
  refine ⟨fun base W0 β nxt a w s hf hs => wp_mono (hk.run base W0 β nxt a w s hf hs) fun e a' w' l => ?_⟩
  cases e <;> first
    | exact l
    | (obtain ⟨β2, nxt2, fr, h, h1, h2, h3, h4, h5, k⟩ := l
       exact ⟨β2, nxt2, fr, h, h1, h2, h3, h4, h5, m _ _ _ k⟩)

/-- a loop: its head's frame and what holds there, by the values of α -/
theorem AW.loop {c : Code} {α : Type} (F : α → Fr) (I : α → H → Prop) (μ : α → Nat) (x0 : α) (hl : Less fr (F x0)) (h0 : I x0 h)
    (round : ∀ x h, I x h → AW E n c (F x) h (thenK (fun fr' h' => ∃ x', Less fr' (F x') ∧ I x' h' ∧ μ x' < μ x) Q)) : AW E n (.loop c) fr h Q := by
  refine .less hl ⟨fun base W0 β nxt a w s hf hs b k cs => ?_⟩
  have key : ∀ (m : Nat) (x : α) (h : H) (β : Bt) (nxt : Nat) (a : Act) (w : World), μ x = m → I x h → Sim base W0 β nxt h w → FrRel β (F x) a → a.tmps.size = n →
      ∃ e a' w', lift base W0 β nxt n Q e a' w' ∧ Arrives E.P (lone (b.at a (.code c :: .inLoop c :: k)) cs w) b k cs e a' w' := by
    intro m
    induction m using Nat.strongRecOn with
    | _ m ih =>
      intro x h β nxt a w hm hI s hf hs
      obtain ⟨e, a1, w1, hq, harr⟩ := (round x h hI).run base W0 β nxt a w s hf hs b (.inLoop c :: k) cs
      cases e with
      | normal =>
        obtain ⟨β', nxt', fr', h', he, hx, s', hf', hs', x', hl', hI', hlt⟩ := hq
        obtain ⟨e2, a2, w2, hq2, harr2⟩ := ih (μ x') (hm ▸ hlt) x' h' β' nxt' a1 w1 rfl hI' s' (hf'.less hl') hs'
        exact ⟨e2, a2, w2, hq2.ext he hx, .of_steps (Steps.trans harr (.one step_inLoop)) harr2⟩
      | exit id =>
        obtain ⟨β', nxt', fr', h', he, hx, s', hf', hs', kk⟩ := hq
        exact ⟨.exit id, a1, w1, ⟨β', nxt', fr', h', he, hx, s', hf', hs', kk⟩, .pass (x := .inLoop c) rfl (fun _ _ => .inl (by simp)) harr⟩
      | goto l =>
        obtain ⟨β', nxt', fr', h', he, hx, s', hf', hs', kk⟩ := hq
        exact ⟨.goto l, a1, w1, ⟨β', nxt', fr', h', he, hx, s', hf', hs', kk⟩, .pass (x := .inLoop c) rfl (fun _ _ => .inl (by simp)) harr⟩
      | ret =>
        obtain ⟨β', nxt', fr', h', he, hx, s', hf', hs', kk⟩ := hq
        exact ⟨.ret, a1, w1, ⟨β', nxt', fr', h', he, hx, s', hf', hs', kk⟩, .pass (x := .inLoop c) rfl (fun _ _ => .inl (by simp)) harr⟩
      | panic ch => exact hq.elim
      | outgrown => exact hq.elim
  obtain ⟨e, a', w', hq, harr⟩ := key _ x0 h β nxt a w rfl h0 s hf hs
  exact ⟨e, a', w', hq, .of_steps (.one step_loop) harr⟩

/-! Entering a function -/
def frame0 : Nat → List AV → Fr
  | _, [] => []
  | k, v :: r => (k, v) :: frame0 (k + 1) r

theorem lget_frame0 : ∀ (l : List AV) (k t : Nat), lget (frame0 k l) t = if k ≤ t then (match l[t - k]? with | some v => v | none => .any) else .any
  | [], k, t => by simp [frame0, lget]
  | v :: r, k, t => by
    unfold frame0
    by_cases h : k = t
    · subst h
      rw [lget_hit]
      simp
    · rw [lget_miss h, lget_frame0 r (k + 1) t]
      by_cases h2 : k + 1 ≤ t
      · have h3 : k ≤ t := by omega
        have h4 : t - k = (t - (k + 1)) + 1 := by omega
        simp [h2, h3, h4]
      · have h3 : ¬ k ≤ t := by omega
        simp [h2, h3]

/-- the results, as values -/
def isTmp : ResultVar → Bool
  | .tmp _ => true
  | .cell _ _ => false

def rvA (fr : Fr) : ResultVar → AV
  | .tmp t => lget fr t
  | .cell _ _ => .any

def rvV (tmps : Array Value) : ResultVar → Value
  | .tmp t => tmps.getD t Go.undef
  | .cell _ _ => Go.undef

def resK (rs : List ResultVar) (fr : Fr) (K : AV → Prop) : Prop :=
  match rs with
  | [.tmp t] => force (lget fr t) K
  | rs => match rs.all isTmp with
    | true => forceL (rs.map (rvA fr)) fun vs => K (.tup vs)
    | false => False

def retK (rs : List ResultVar) (K : AV → H → Prop) : Exit → Fr → H → Prop
  | .ret, fr, h => resK rs fr fun v => K v h
  | .normal, fr, h => resK rs fr fun v => K v h
  | _, _, _ => False

theorem resK_sound {P : Program} {fn : Func} {K : AV → Prop} (hf : FrRel β fr a) (hk : resK fn.results.toList fr K) : ∃ v cv, (results fn a.tmps).run P w = .ok cv w ∧ RV β v cv ∧ K v := by
  unfold resK at hk
  split at hk
  · rename_i t ht
    have e : fn.results = #[.tmp t] := Array.ext' ht
    rw [force_eq] at hk
    exact ⟨_, _, results_tmp e a.tmps P w, hf.1 t, hk⟩
  · rename_i hne
    split at hk
    · rename_i hall
      rw [forceL_eq] at hk
      have key : ∀ (f : ResultVar → Sem Value), (∀ t, f (.tmp t) = Pure.pure (a.tmps.getD t Go.undef)) → ∀ (l : List ResultVar), l.all isTmp = true → (l.mapM f).run P w = .ok (l.map (rvV a.tmps)) w := by
        intro f hfp l
        induction l with
        | nil => intro _; simp
        | cons r l ih =>
          intro h
          simp only [List.all_cons, Bool.and_eq_true] at h
          cases r with
          | tmp t => simp [List.mapM_cons, ih h.2, hfp, rvV]
          | cell a t => exact absurd h.1 (by simp [isTmp])
      refine ⟨_, .tuple (fn.results.toList.map (rvV a.tmps)).toArray, ?_, .tup (by simp) fun i c v hc hv => ?_, hk⟩
      · unfold results
        rw [Array.mapM_eq_mapM_toList]
        simp only [Sem.run_bind, Sem.run_map]
        rw [key _ (fun t => rfl) _ hall]
        simp only [Result.andThen_ok]
        rw [dif_neg]
        · rfl
        · intro h1
          have h2 : fn.results.toList.length = 1 := by simpa using h1
          match hr : fn.results.toList with
          | [] => rw [hr] at h2; cases h2
          | [r] =>
            rw [hr] at hall
            cases r with
            | tmp t => exact hne t hr
            | cell a t => simp [isTmp] at hall
          | _ :: _ :: _ => rw [hr] at h2; simp at h2
      · simp only [List.getElem?_map, List.getElem?_toArray] at hc hv
        cases hr : fn.results.toList[i]? with
        | none => rw [hr] at hc; cases hc
        | some r =>
          rw [hr] at hc hv
          simp only [Option.map_some, Option.some.injEq] at hc hv
          subst hc hv
          cases r with
          | tmp t => exact hf.1 t
          | cell a t => exact .any _
    · contradiction

/-- a function's contract, from its body -/
theorem AC.enter {f : FuncId} {fn : Func} {c : Code} {args : List AV} {n : Nat} {K : AV → H → Prop} (hf : E.P.funcs[f]? = some fn) (hcall : ∀ (vs : Array Value) (w : World), (callFunc f vs).run E.P w = .ok (.enter f vs) w)
    (hb : fn.body = some c) (hn : fn.ntmps = n) (hl : args.length ≤ n) (hk : AW E n c (frame0 0 args) h (retK fn.results.toList K)) : AC E f args h K := by
  refine ⟨hcall, fun base W0 β nxt w vs s r => ?_⟩
  refine calls_of_wp hf hb (wp_mono (hk.run base W0 β nxt _ w s ⟨fun t => ?_, rfl⟩ ?_) fun e a' w' l => ?_)
  · rw [lget_frame0]
    simp only [Nat.zero_le, if_true, Nat.sub_zero]
    have hl2 := r.1
    simp at hl2
    by_cases ht : t < args.length
    · have h1 : args[t]? = some args[t] := by simp [ht]
      rw [h1]
      have h2 : t < vs.size := by omega
      have h3 : (vs ++ Array.replicate (fn.ntmps - vs.size) Go.undef).getD t Go.undef = vs[t] := by
        rw [Array.getD_eq_getD_getElem?, Array.getElem?_append_left h2]
        simp [h2]
      rw [h3]
      exact r.2 t _ _ h1 (by simp [h2])
    · have h1 : args[t]? = none := by simp; omega
      rw [h1]
      exact .any _
  · have hl2 := r.1
    simp at hl2 ⊢
    omega
  · cases e with
    | normal =>
      obtain ⟨β', nxt', fr', h', he, hx, s', hf', hs', k⟩ := l
      obtain ⟨v, cv, h1, h2, h3⟩ := resK_sound (P := E.P) (w := w') (fn := fn) (K := fun v => K v h') hf' k
      exact ⟨hf'.2, cv, h1, v, cv, β', nxt', h', rfl, he, hx, h2, s', h3⟩
    | ret =>
      obtain ⟨β', nxt', fr', h', he, hx, s', hf', hs', k⟩ := l
      obtain ⟨v, cv, h1, h2, h3⟩ := resK_sound (P := E.P) (w := w') (fn := fn) (K := fun v => K v h') hf' k
      exact ⟨hf'.2, cv, h1, v, cv, β', nxt', h', rfl, he, hx, h2, s', h3⟩
    | exit id => obtain ⟨_, _, _, _, _, _, _, _, _, k⟩ := l; exact k.elim
    | goto l' => obtain ⟨_, _, _, _, _, _, _, _, _, k⟩ := l; exact k.elim
    | panic ch => exact l.elim
    | outgrown => exact l.elim

end
end Go.Proofs.YtbicfognbbeigaaGreat.Ab

/-
  The library's fourteenth text proves that regions of open order may be walked by a plan.
  It holds no condition of its own.
-/
set_option linter.unusedVariables false
set_option linter.unusedSimpArgs false
namespace Go.Proofs.YtbicfognbbeigaaGreat.Ab
open Go.RowKit

/-! Runs that leave the world as it is -/
section
variable {α γ : Type}

def Still (s : Sem α) : Prop := ∀ (P : Program) (w : World) (x : α) (w' : World), s.run P w = .ok x w' → w' = w
def NoOk (s : Sem α) : Prop := ∀ (P : Program) (w : World) (x : α) (w' : World), s.run P w ≠ .ok x w'

theorem Still.of {s : Sem α} (h : NoOk s) : Still s := fun P w x w' hr => absurd hr (h P w x w')
theorem Still.pure (a : α) : Still (Pure.pure a : Sem α) := fun P w x w' hr => by simp at hr; exact hr.2.symm
theorem Still.bind {s : Sem α} {f : α → Sem γ} (h : Still s) (k : ∀ a, Still (f a)) : Still (s >>= f) := by
  intro P w x w' hr
  rw [Sem.run_bind] at hr
  cases hs : s.run P w with
  | ok a w1 =>
    rw [hs] at hr
    have := h P w a w1 hs
    subst this
    exact k a P w1 x w' hr
  | halt e w1 => rw [hs] at hr; simp at hr
theorem Still.map {s : Sem α} (f : α → γ) (h : Still s) : Still (f <$> s) := by
  intro P w x w' hr
  rw [Sem.run_map] at hr
  cases hs : s.run P w with
  | ok a w1 =>
    rw [hs] at hr
    have := h P w a w1 hs
    simp at hr
    rw [← hr.2, this]
  | halt e w1 => rw [hs] at hr; simp at hr
theorem NoOk.left {s : Sem α} (f : α → Sem γ) (h : NoOk s) : NoOk (s >>= f) := by
  intro P w x w' hr
  rw [Sem.run_bind] at hr
  cases hs : s.run P w with
  | ok a w1 => exact h P w a w1 hs
  | halt e w1 => rw [hs] at hr; simp at hr
theorem NoOk.right {s : Sem α} {f : α → Sem γ} (k : ∀ a, NoOk (f a)) : NoOk (s >>= f) := by
  intro P w x w' hr
  rw [Sem.run_bind] at hr
  cases hs : s.run P w with
  | ok a w1 => rw [hs] at hr; exact k a P w1 x w' hr
  | halt e w1 => rw [hs] at hr; simp at hr
theorem NoOk.goPanic (v : Value) : NoOk (goPanic v : Sem α) := fun P w x w' hr => by simp at hr
theorem NoOk.stuck (s : String) : NoOk (stuck s : Sem α) := fun P w x w' hr => by simp at hr
theorem NoOk.unsupported (u : Unsupported) : NoOk (unsupported u : Sem α) := fun P w x w' hr => by simp at hr
theorem NoOk.runtimePanic (e : RuntimeError) : NoOk (runtimePanic e : Sem α) := by
  unfold Go.runtimePanic
  refine NoOk.right fun p => ?_
  cases e <;> dsimp only <;> repeat (first | exact NoOk.goPanic _ | refine NoOk.right fun _ => ?_)
theorem NoOk.boundsPanic (k : IntKind) (x y : Int) (c : BoundsCode) : NoOk (boundsPanic k x y c : Sem α) := by
  unfold Go.boundsPanic
  dsimp only
  split <;> exact NoOk.right fun _ => NoOk.runtimePanic _
theorem Still.program : Still program := fun P w x w' hr => by simp at hr; exact hr.2.symm
theorem Still.shape (r : Nat) : Still (shape r) := fun P w x w' hr => by simp at hr; exact hr.2.symm
theorem Still.frozen (a : Addr) : Still (frozen a) := fun P w x w' hr => by simp at hr; exact hr.2.symm
theorem Still.typeInfo (t : TypeId) : Still (typeInfo t) := by
  unfold Go.typeInfo
  refine .bind .program fun p => ?_
  split
  · exact .pure _
  · exact .of (.stuck _)
theorem Still.underlying (t : TypeId) : Still (underlying t) := by
  unfold Go.underlying
  refine .bind .program fun p => ?_
  split
  · exact .pure _
  · exact .of (.stuck _)
theorem Still.sizeOf (t : TypeId) : Still (sizeOf t) := .bind (.typeInfo t) fun _ => .pure _
theorem Still.zeroValue (t : TypeId) : Still (zeroValue t) := by
  unfold Go.zeroValue
  refine .bind (.typeInfo t) fun i => ?_
  split
  · exact .pure _
  · exact .of (.unsupported _)
theorem Still.isAgg (t : TypeId) : Still (isAgg t) := by
  unfold Go.isAgg
  refine .bind (.underlying t) fun d => ?_
  split <;> exact .pure _
theorem Still.load (a : Addr) : Still (load a) := by
  intro P w x w' hr
  rw [run_load] at hr
  split at hr
  · injection hr with _ h; exact h.symm
  · split at hr
    · injection hr with _ h; exact h.symm
    · cases hr
theorem Still.loadCellsFrom (a : Addr) : ∀ (n i : Nat) (acc : Array Value), Still (loadCellsFrom a i n acc)
  | 0, i, acc => by unfold Go.loadCellsFrom; exact .pure _
  | n + 1, i, acc => by
    unfold Go.loadCellsFrom
    exact .bind (.load _) fun v => Still.loadCellsFrom a n (i + 1) _
theorem Still.loadVar (t : TypeId) (a : Addr) : Still (loadVar t a) := by
  unfold Go.loadVar
  refine .bind (.isAgg t) fun b => ?_
  split
  · exact .bind (.sizeOf t) fun n => .bind (Still.loadCellsFrom a n 0 #[]) fun _ => .pure _
  · exact .load a
theorem Still.part (t : TypeId) (cs : Array Value) (off : Nat) : Still (part t cs off) := by
  unfold Go.part
  refine .bind (.isAgg t) fun b => ?_
  split
  · exact .bind (.sizeOf t) fun n => .pure _
  · split
    · exact .pure _
    · exact .of (.stuck _)
theorem Still.asIntOf (v : Value) : Still (asIntOf v) := by
  unfold Go.asIntOf
  split
  · exact .pure _
  · exact .of (.unsupported _)
  · exact .of (.stuck _)
theorem Still.asBool (v : Value) : Still (asBool v) := by
  unfold Go.asBool
  split
  · exact .pure _
  · exact .of (.stuck _)
theorem Still.asAgg (v : Value) : Still (asAgg v) := by
  unfold Go.asAgg
  split
  · exact .pure _
  · exact .of (.stuck _)
theorem Still.asAddr (v : Value) : Still (asAddr v) := by
  unfold Go.asAddr
  split
  · exact .pure _
  · exact .of (.runtimePanic _)
  · exact .of (.stuck _)
theorem Still.sureAddr (v : Value) : Still (Instr.sureAddr v) := by
  unfold Instr.sureAddr
  split
  · exact .pure _
  · exact .of (.stuck _)
theorem Still.sliceBound (v : Value) (y : Nat) (c : BoundsCode) : Still (Instr.sliceBound v y c) := by
  unfold Instr.sliceBound
  refine .bind (.asIntOf v) fun ki => ?_
  dsimp only
  split
  · exact .pure _
  · exact .of (.boundsPanic _ _ _ _)
theorem Still.sliceBounds (b : Bool) (len cap : Nat) (lo hi mx : Option Value) : Still (Instr.sliceBounds b len cap lo hi mx) := by
  unfold Instr.sliceBounds
  repeat' (first
    | with_reducible exact Still.pure _
    | with_reducible exact Still.of (NoOk.stuck _)
    | with_reducible exact Still.of (NoOk.unsupported _)
    | with_reducible exact Still.of (NoOk.boundsPanic _ _ _ _)
    | with_reducible exact Still.of (NoOk.runtimePanic _)
    | with_reducible exact Still.underlying _
    | with_reducible exact Still.sizeOf _
    | with_reducible exact Still.asIntOf _
    | with_reducible exact Still.asAddr _
    | with_reducible exact Still.sureAddr _
    | with_reducible exact Still.asAgg _
    | with_reducible exact Still.asBool _
    | with_reducible exact Still.part _ _ _
    | with_reducible exact Still.sliceBound _ _ _
    | with_reducible refine Still.bind ?_ fun _ => ?_
    | split
    | dsimp only)
theorem Still.next {s : Sem Value} (h : Still s) : Still (s >>= fun x => (Pure.pure (Next.value x) : Sem Next)) := .bind h fun _ => .pure _

theorem Still.sliceAt (t : TypeId) (x : Value) (lo hi mx : Option Value) : Still (Instr.sliceAt t x lo hi mx) := by
  unfold Instr.sliceAt Instr.slice
  repeat' (first
    | with_reducible exact Still.pure _
    | with_reducible exact Still.of (NoOk.stuck _)
    | with_reducible exact Still.of (NoOk.unsupported _)
    | with_reducible exact Still.of (NoOk.boundsPanic _ _ _ _)
    | with_reducible exact Still.of (NoOk.runtimePanic _)
    | with_reducible exact Still.underlying _
    | with_reducible exact Still.sizeOf _
    | with_reducible exact Still.asIntOf _
    | with_reducible exact Still.asAddr _
    | with_reducible exact Still.sureAddr _
    | with_reducible exact Still.asAgg _
    | with_reducible exact Still.asBool _
    | with_reducible exact Still.part _ _ _
    | with_reducible exact Still.sliceBound _ _ _
    | with_reducible exact Still.sliceBounds _ _ _ _ _ _
    | with_reducible refine Still.bind ?_ fun _ => ?_
    | split
    | dsimp only)
theorem Still.indexAt (t : TypeId) (x i : Value) : Still (Instr.indexAt t x i) := by
  unfold Instr.indexAt
  repeat' (first
    | with_reducible exact Still.pure _
    | with_reducible exact Still.of (NoOk.stuck _)
    | with_reducible exact Still.of (NoOk.unsupported _)
    | with_reducible exact Still.of (NoOk.boundsPanic _ _ _ _)
    | with_reducible exact Still.of (NoOk.runtimePanic _)
    | with_reducible exact Still.underlying _
    | with_reducible exact Still.sizeOf _
    | with_reducible exact Still.asIntOf _
    | with_reducible exact Still.asAddr _
    | with_reducible exact Still.sureAddr _
    | with_reducible exact Still.asAgg _
    | with_reducible exact Still.asBool _
    | with_reducible exact Still.part _ _ _
    | with_reducible exact Still.sliceBound _ _ _
    | with_reducible exact Still.sliceBounds _ _ _ _ _ _
    | with_reducible refine Still.bind ?_ fun _ => ?_
    | split
    | dsimp only)
theorem Still.index (t : TypeId) (x i : Value) : Still (Instr.index t x i) := by
  unfold Instr.index
  repeat' (first
    | with_reducible exact Still.pure _
    | with_reducible exact Still.of (NoOk.stuck _)
    | with_reducible exact Still.of (NoOk.unsupported _)
    | with_reducible exact Still.of (NoOk.boundsPanic _ _ _ _)
    | with_reducible exact Still.of (NoOk.runtimePanic _)
    | with_reducible exact Still.underlying _
    | with_reducible exact Still.sizeOf _
    | with_reducible exact Still.asIntOf _
    | with_reducible exact Still.asAddr _
    | with_reducible exact Still.sureAddr _
    | with_reducible exact Still.asAgg _
    | with_reducible exact Still.asBool _
    | with_reducible exact Still.part _ _ _
    | with_reducible exact Still.sliceBound _ _ _
    | with_reducible exact Still.sliceBounds _ _ _ _ _ _
    | with_reducible refine Still.bind ?_ fun _ => ?_
    | split
    | dsimp only)
theorem Still.field (t : TypeId) (x : Value) (f : Nat) : Still (Instr.field t x f) := by
  unfold Instr.field
  repeat' (first
    | with_reducible exact Still.pure _
    | with_reducible exact Still.of (NoOk.stuck _)
    | with_reducible exact Still.of (NoOk.unsupported _)
    | with_reducible exact Still.of (NoOk.boundsPanic _ _ _ _)
    | with_reducible exact Still.of (NoOk.runtimePanic _)
    | with_reducible exact Still.underlying _
    | with_reducible exact Still.sizeOf _
    | with_reducible exact Still.asIntOf _
    | with_reducible exact Still.asAddr _
    | with_reducible exact Still.sureAddr _
    | with_reducible exact Still.asAgg _
    | with_reducible exact Still.asBool _
    | with_reducible exact Still.part _ _ _
    | with_reducible exact Still.sliceBound _ _ _
    | with_reducible exact Still.sliceBounds _ _ _ _ _ _
    | with_reducible refine Still.bind ?_ fun _ => ?_
    | split
    | dsimp only)
theorem Still.extract (x : Value) (i : Nat) : Still (Instr.extract x i) := by
  unfold Instr.extract
  split
  · split
    · exact .pure _
    · exact .of (.stuck _)
  · exact .of (.stuck _)
theorem Still.followBlind : ∀ (l : List FieldStep) (t : TypeId) (x : Option Value), Still (followBlind l t x)
  | [], t, x => by unfold Go.followBlind; exact .pure _
  | s :: r, t, x => by
    unfold Go.followBlind
    refine .bind (.underlying _) fun d => ?_
    split
    · split
      · split
        · exact .pure _
        · exact Still.followBlind r _ _
        · exact .of (.stuck _)
        · exact .pure _
        · exact .bind (.part _ _ _) fun _ => Still.followBlind r _ _
        · exact .of (.stuck _)
        · exact Still.followBlind r _ _
      · exact .of (.stuck _)
    · exact .of (.stuck _)
end

end Go.Proofs.YtbicfognbbeigaaGreat.Ab

/-
  The library's fifteenth text proves the rule for regions whose order is open.
  It holds no condition of its own.
-/
set_option linter.unusedVariables false
set_option linter.unusedSimpArgs false
namespace Go.Proofs.YtbicfognbbeigaaGreat.Ab
open Go.RowKit

/-- an operation that only reads leaves a value and the world as it is -/
def Calm (T : TT) (P : Program) (ops : Array Oper) (j : Nat) (a : Act) (w : World) : Prop :=
  ∀ o, ops[j]? = some o → kindOf T o.op ≤ 1 → Region.wanted o (yielded ops a.tmps) = true → ∃ u, (execOp a.eval o).run P w = .ok (.value u) w

/-- all orders, and what only reads is calm in each -/
def wpCalm (T : TT) (P : Program) (md : Region.Mode) (ops : Array Oper) (Q : Exit → Act → World → Prop) : Nat → Array Bool → Act → World → Prop
  | 0, listed, a, w => Region.ready md ops listed = [] ∧ Q .normal a w
  | fuel + 1, listed, a, w =>
    (Region.ready md ops listed = [] → Q .normal a w) ∧
    ∀ i ∈ Region.ready md ops listed, Calm T P ops i a w ∧ wpOp P ops Q i (wpCalm T P md ops Q fuel (listed.setIfInBounds i true)) a w

theorem wpCalm.any {T : TT} {P : Program} {md : Region.Mode} {ops : Array Oper} {Q : Exit → Act → World → Prop} : ∀ (fuel : Nat) (listed : Array Bool) (a : Act) (w : World), wpCalm T P md ops Q fuel listed a w → wpAny P md ops Q fuel listed a w
  | 0, _, _, _, h => h
  | fuel + 1, listed, a, w, h => ⟨h.1, fun i hi => wpOp_mono (fun a' w' k => wpCalm.any fuel _ a' w' k) (h.2 i hi).2⟩

section
variable {T : TT} {P : Program} {ops : Array Oper} {Q : Exit → Act → World → Prop} {md : Region.Mode}

/-- here and now operation 'o' leaves 'v' in its slot and the world as it is -/
def YieldsW (P : Program) (ops : Array Oper) (o : Oper) (v : Value) (a : Act) (w : World) : Prop :=
  (Region.wanted o (yielded ops a.tmps) = true ∧ (execOp a.eval o).run P w = .ok (.value v) w) ∨
  (Region.wanted o (yielded ops a.tmps) = false ∧ v = Go.undef)

theorem YieldsW.wpOp {i : Nat} {o : Oper} {v : Value} {a : Act} {w : World} (hi : ops[i]? = some o) (hy : YieldsW P ops o v a w) {K : Act → World → Prop} (h : K (a.put o.dst v) w) : wpOp P ops Q i K a w := by
  unfold Go.wpOp
  simp only [hi]
  rcases hy with ⟨hw, hv⟩ | ⟨hw, rfl⟩
  · simp only [hw, if_true, Oper.wp, hv, Oper.upon]
    exact .inl h
  · simp only [hw, Bool.false_eq_true, if_false]
    exact h

theorem YieldsW.of_same {o : Oper} {v : Value} {a a' : Act} {w : World} (hy : YieldsW P ops o v a w) (he : execOp a'.eval o = execOp a.eval o)
    (hw : Region.wanted o (yielded ops a'.tmps) = Region.wanted o (yielded ops a.tmps)) : YieldsW P ops o v a' w := by
  unfold YieldsW at *
  rw [he, hw]
  exact hy

theorem Calm.put {j : Nat} {oi oj : Oper} {v : Value} {a : Act} {w : World} (hj : ops[j]? = some oj) (hap : oi.apart ops oj = true) (hsj : ∀ cs b, oj.op ≠ .select cs b) (h : Calm T P ops j (a.put oi.dst v) w) : Calm T P ops j a w := by
  obtain ⟨h1, h2, h3⟩ := Oper.apart_spec hap
  intro o ho hk hw
  rw [hj] at ho
  injection ho with ho
  subst ho
  have := h oj hj hk (by rw [wanted_put oj a oi.dst v h1]; exact hw)
  rwa [execOp_put oj hsj a oi.dst v h1] at this
theorem YieldsW.calm {i : Nat} {o : Oper} {v : Value} {a : Act} {w : World} (hi : ops[i]? = some o) (hy : YieldsW P ops o v a w) : Calm T P ops i a w := by
  intro o' ho hk hw
  rw [hi] at ho
  injection ho with ho
  subst ho
  rcases hy with ⟨h1, h2⟩ | ⟨h1, h2⟩
  · exact ⟨v, h2⟩
  · rw [h1] at hw; cases hw
theorem yieldsW {o : Oper} {v : Value} {a : Act} (hy : Yields P ops o v a) (w : World) : YieldsW P ops o v a w := hy.imp (fun h => ⟨h.1, h.2 w⟩) id

theorem wpOp_putW {j : Nat} {oi oj : Oper} {v : Value} (hj : ops[j]? = some oj) (hap : oi.apart ops oj = true)
    (hsi : ∀ cs b, oi.op ≠ .select cs b) (hsj : ∀ cs b, oj.op ≠ .select cs b) {a : Act} {w : World} (hq : Region.wanted oj (yielded ops a.tmps) = true → ∃ u, (execOp a.eval oj).run P w = .ok (.value u) w)
    (hQ : ∀ c a w, Q (.panic c) (a.put oi.dst v) w → Q (.panic c) a w) {K : Act → World → Prop}
    (hy : YieldsW P ops oi v a w) (h : wpOp P ops Q j K (a.put oi.dst v) w) :
    wpOp P ops Q j (fun a' w' => w' = w ∧ YieldsW P ops oi v a' w' ∧ K (a'.put oi.dst v) w') a w := by
  obtain ⟨h1, h2, h3⟩ := Oper.apart_spec hap
  have keep : ∀ (a : Act), YieldsW P ops oi v a w → ∀ u, YieldsW P ops oi v (a.put oj.dst u) w := fun a hy u =>
    hy.of_same (execOp_put oi hsi a oj.dst u h3) (wanted_put oi a oj.dst u h3)
  unfold wpOp at *
  simp only [hj] at *
  rw [wanted_put oj a oi.dst v h1] at h
  split
  · rename_i hw
    simp only [hw, if_true] at h
    rcases h with h | ⟨hasks, hlets⟩
    case inr => exact .inr ⟨by unfold Oper.asks at *; rw [execOp_put oj hsj a oi.dst v h1] at hasks; exact hasks, hlets⟩
    refine .inl ?_
    unfold Oper.wp at *
    rw [execOp_put oj hsj a oi.dst v h1] at h
    obtain ⟨u, hu⟩ := hq hw
    rw [hu] at h ⊢
    simp only [Oper.upon] at h ⊢
    exact ⟨trivial, keep a hy u, by rw [← Act.put_comm a v u h2]; exact h⟩
  · rename_i hw
    simp only [hw] at h
    exact ⟨trivial, keep a hy _, by rw [← Act.put_comm a v Go.undef h2]; exact h⟩

theorem wpCalm_first {i : Nat} {oi : Oper} {v : Value} (hi : ops[i]? = some oi) (hsel : ∀ (j : Nat) (o : Oper) cs b, ops[j]? = some o → o.op ≠ .select cs b)
    (hQ : ∀ c a w, Q (.panic c) (a.put oi.dst v) w → Q (.panic c) a w) :
    ∀ (fuel : Nat) (listed : Array Bool) (a : Act) (w : World),
      (∀ j oj, ops[j]? = some oj → j ≠ i → listed.getD j true = false → (∀ e ∈ oj.after, Region.binds md e = true → e.on ≠ i) → oi.apart ops oj = true) →
      i ∈ Region.ready md ops listed → Yields P ops oi v a →
      wpCalm T P md ops Q fuel (listed.setIfInBounds i true) (a.put oi.dst v) w → wpCalm T P md ops Q (fuel + 1) listed a w := by
  intro fuel
  induction fuel with
  | zero =>
    intro listed a w _ hr hy H
    refine ⟨fun h => (by rw [h] at hr; cases hr), fun j hj => ?_⟩
    by_cases hji : j = i
    · subst hji; exact ⟨(yieldsW hy w).calm hi, hy.wpOp hi H⟩
    · have := ready_mono hj hji
      rw [H.1] at this
      cases this
  | succ fuel ih =>
    intro listed a w hfree hr hy H
    refine ⟨fun h => (by rw [h] at hr; cases hr), fun j hj => ?_⟩
    by_cases hji : j = i
    · subst hji; exact ⟨(yieldsW hy w).calm hi, hy.wpOp hi H⟩
    · have h1 := H.2 j (ready_mono hj hji)
      obtain ⟨hjun, oj, hoj, hall⟩ := mem_ready.1 hj
      have hnot : ∀ e ∈ oj.after, Region.binds md e = true → e.on ≠ i := fun e he hb heq => by
        have h1 := hall e he hb
        have h0 := (mem_ready.1 hr).1
        rw [heq] at h1
        rcases Nat.lt_or_ge i listed.size with h' | h'
        · simp [h'] at h0 h1; rw [h0] at h1; cases h1
        · simp [Array.getElem?_eq_none h'] at h1
      have hap := hfree j oj hoj hji hjun hnot
      have hc := Calm.put hoj hap (fun cs b => hsel j oj cs b hoj) h1.1
      have h2 := wpOp_put hoj hap (fun cs b => hsel i oi cs b hi) (fun cs b => hsel j oj cs b hoj) hQ hy h1.2
      have hfree' : ∀ k ok, ops[k]? = some ok → k ≠ i → (listed.setIfInBounds j true).getD k true = false → (∀ e ∈ ok.after, Region.binds md e = true → e.on ≠ i) → oi.apart ops ok = true := fun k ok hk hki hun hno => by
        refine hfree k ok hk hki ?_ hno
        by_cases hjk : j = k
        · subst hjk; exact hjun
        · rw [getD_set_ne true hjk] at hun; exact hun
      refine ⟨hc, wpOp_mono (fun a' w' h3 => ?_) h2⟩
      obtain ⟨h4, h5⟩ := h3
      refine ih (listed.setIfInBounds j true) a' w' hfree' (ready_mono hr (Ne.symm hji)) h4 ?_
      rw [Array.setIfInBounds_comm _ _ hji]
      exact h5

theorem wpCalm_firstR {i : Nat} {oi : Oper} {v : Value} {B : List Nat} (hi : ops[i]? = some oi) (hsel : ∀ (j : Nat) (o : Oper) cs b, ops[j]? = some o → o.op ≠ .select cs b)
    (hQ : ∀ c a w, Q (.panic c) (a.put oi.dst v) w → Q (.panic c) a w) :
    ∀ (fuel : Nat) (listed : Array Bool) (a : Act) (w : World),
      (∀ b ∈ B, listed.getD b false = false ∧ ∃ ob, ops[b]? = some ob ∧ ∃ e ∈ ob.after, Region.binds md e = true ∧ (e.on = i ∨ e.on ∈ B)) →
      (∀ j oj, ops[j]? = some oj → j ≠ i → listed.getD j true = false → j ∉ B → oi.apart ops oj = true ∧ kindOf T oj.op ≤ 1) →
      i ∈ Region.ready md ops listed → YieldsW P ops oi v a w →
      wpCalm T P md ops Q fuel (listed.setIfInBounds i true) (a.put oi.dst v) w → wpCalm T P md ops Q (fuel + 1) listed a w := by
  intro fuel
  induction fuel with
  | zero =>
    intro listed a w _ _ hr hy H
    refine ⟨fun h => (by rw [h] at hr; cases hr), fun j hj => ?_⟩
    by_cases hji : j = i
    · subst hji; exact ⟨hy.calm hi, hy.wpOp hi H⟩
    · have := ready_mono hj hji
      rw [H.1] at this
      cases this
  | succ fuel ih =>
    intro listed a w hB hfree hr hy H
    refine ⟨fun h => (by rw [h] at hr; cases hr), fun j hj => ?_⟩
    by_cases hji : j = i
    · subst hji; exact ⟨hy.calm hi, hy.wpOp hi H⟩
    · have h1 := H.2 j (ready_mono hj hji)
      obtain ⟨hjun, oj, hoj, hall⟩ := mem_ready.1 hj
      have hi0 : listed.getD i false = false := by
        have h0 := (mem_ready.1 hr).1
        cases hg : listed[i]? with
        | none => simp [hg]
        | some b => rw [Array.getD_eq_getD_getElem?, hg] at h0; simp at h0; simp [hg, h0]
      have hnB : j ∉ B := by
        intro hjB
        obtain ⟨_, ob, hob, e, he, hbd, hon⟩ := hB j hjB
        rw [hoj] at hob
        injection hob with hob
        subst hob
        have hl := hall e he hbd
        rcases hon with hon | hon
        · rw [hon, hi0] at hl; cases hl
        · rw [(hB e.on hon).1] at hl; cases hl
      obtain ⟨hap, hqj⟩ := hfree j oj hoj hji hjun hnB
      have hc := Calm.put hoj hap (fun cs b => hsel j oj cs b hoj) h1.1
      have h2 := wpOp_putW hoj hap (fun cs b => hsel i oi cs b hi) (fun cs b => hsel j oj cs b hoj) (hc oj hoj hqj) hQ hy h1.2
      have hjlt : j < listed.size := by
        cases hg : listed[j]? with
        | none => rw [Array.getD_eq_getD_getElem?, hg] at hjun; cases hjun
        | some b => exact (Array.getElem?_eq_some_iff.1 hg).1
      have hB' : ∀ b ∈ B, (listed.setIfInBounds j true).getD b false = false ∧ ∃ ob, ops[b]? = some ob ∧ ∃ e ∈ ob.after, Region.binds md e = true ∧ (e.on = i ∨ e.on ∈ B) := fun b hb => by
        obtain ⟨g1, g2⟩ := hB b hb
        have hne : j ≠ b := fun e => hnB (e ▸ hb)
        exact ⟨by rw [getD_set_ne false hne]; exact g1, g2⟩
      have hfree' : ∀ k ok, ops[k]? = some ok → k ≠ i → (listed.setIfInBounds j true).getD k true = false → k ∉ B → oi.apart ops ok = true ∧ kindOf T ok.op ≤ 1 := fun k ok hk hki hun hkB => by
        refine hfree k ok hk hki ?_ hkB
        by_cases hjk : j = k
        · subst hjk; exact hjun
        · rw [getD_set_ne true hjk] at hun; exact hun
      refine ⟨hc, wpOp_mono (fun a' w' h3 => ?_) h2⟩
      obtain ⟨e1, h4, h5⟩ := h3
      subst e1
      refine ih (listed.setIfInBounds j true) a' w' hB' hfree' (ready_mono hr (Ne.symm hji)) h4 ?_
      rw [Array.setIfInBounds_comm _ _ hji]
      exact h5

end

/-- a plan for a region: which operation is taken next, or all that may come -/
inductive Plan where
  | done
  | p (i : Nat) (r : Plan)
  | r (i : Nat) (B : List Nat) (r : Plan)
  | all (l : List Nat) (f : Nat → Plan)

def allK : List Nat → (Nat → Prop) → Prop
  | [], _ => True
  | [i], P => P i
  | i :: r, P => P i ∧ allK r P

theorem allK_mem {P : Nat → Prop} : ∀ {l : List Nat}, allK l P → ∀ i ∈ l, P i
  | [], _, i, hi => by cases hi
  | [j], h, i, hi => by
    have : i = j := by simpa using hi
    subst this
    exact h
  | j :: k :: r, h, i, hi => by
    cases hi with
    | head => exact h.1
    | tail _ hi => exact allK_mem h.2 i hi

def planOk (T : TT) (ops : Array Oper) : Nat → Array Bool → Plan → Bool
  | _, listed, .done => (Region.ready .any ops listed).isEmpty
  | 0, _, _ => false
  | fuel + 1, listed, .p i r => (Region.ready .any ops listed).contains i && Region.free .any ops listed i && (match ops[i]? with | some o => kindOf T o.op == 0 | none => false) && planOk T ops fuel (listed.setIfInBounds i true) r
  | fuel + 1, listed, .r i B r => (Region.ready .any ops listed).contains i && (match ops[i]? with | some o => kindOf T o.op ≤ 1 | none => false) &&
      (B.all fun b => !listed.getD b false && (match ops[b]? with | some ob => ob.after.any fun e => Region.binds .any e && (e.on == i || B.contains e.on) | none => false)) &&
      ((List.range ops.size).all fun j => j == i || listed.getD j true || B.contains j || (match ops[i]?, ops[j]? with | some oi, some oj => oi.apart ops oj && kindOf T oj.op ≤ 1 | _, _ => false)) &&
      planOk T ops fuel (listed.setIfInBounds i true) r
  | fuel + 1, listed, .all l f => (Region.ready .any ops listed == l) && !l.isEmpty && l.all fun i => planOk T ops fuel (listed.setIfInBounds i true) (f i)

def vcPlan (E : Env) (n : Nat) (ops : List Oper) : Plan → Fr → H → (Fr → H → Prop) → Prop
  | .done, fr, h, K => K fr h
  | .p i r, fr, h, K => match ops[i]? with
    | some o => vcGd E n ops o fr h fun fr h => vcPlan E n ops r fr h K
    | none => False
  | .r i _ r, fr, h, K => match ops[i]? with
    | some o => vcGd E n ops o fr h fun fr h => vcPlan E n ops r fr h K
    | none => False
  | .all l f, fr, h, K => allK l fun i => match ops[i]? with
    | some o => vcGd E n ops o fr h fun fr h => vcPlan E n ops (f i) fr h K
    | none => False

section
variable {E : Env} {n : Nat} {base : Nat} {W0 : World} {β : Bt} {nxt : Nat} {h : H} {w : World} {fr : Fr} {a : Act}

/-- what a quiet step gives -/
theorem vcGd_quiet {ops : Array Oper} {o : Oper} {K : Fr → H → Prop} (hkd : kindOf E.T o.op ≤ 1) (s : Sim base W0 β nxt h w) (hf : FrRel β fr a) (hs : a.tmps.size = n) (hk : vcGd E n ops.toList o fr h K) :
    ∃ cv fr', FrRel β fr' (a.put o.dst cv) ∧ K fr' h ∧ YieldsW E.P ops o cv a w ∧ (kindOf E.T o.op = 0 → Yields E.P ops o cv a) := by
  have one : vcOne E n o fr h K → ∃ cv fr', FrRel β fr' (a.put o.dst cv) ∧ K fr' h ∧ (execOp a.eval o).run E.P w = .ok (.value cv) w ∧ (kindOf E.T o.op = 0 → ∀ w, (execOp a.eval o).run E.P w = .ok (.value cv) w) := by
    intro hk
    unfold vcOne at hk
    split at hk
    · obtain ⟨v, cv, r, g, k⟩ := vcP_sound (P := E.P) E.tok hf hk
      obtain ⟨hd, k⟩ := afterK_spec k
      exact ⟨cv, _, hf.put o.dst (dstOk_spec hd hs) r, k, g w, fun _ => g⟩
    · rename_i h1
      obtain ⟨v, cv, r, g, k⟩ := vcR_sound (P := E.P) E.tok s hf hk
      obtain ⟨hd, k⟩ := afterK_spec k
      exact ⟨cv, _, hf.put o.dst (dstOk_spec hd hs) r, k, g, fun h0 => by rw [h1] at h0; cases h0⟩
    · rename_i h0 h1
      exfalso
      have : kindOf E.T o.op = 0 ∨ kindOf E.T o.op = 1 := by omega
      rcases this with h | h
      · exact h0 h
      · exact h1 h
  have skip : vcSkip n o fr h K → ∃ fr', FrRel β fr' (a.put o.dst Go.undef) ∧ K fr' h := by
    intro hk
    unfold vcSkip at hk
    obtain ⟨hd, hk⟩ := afterK_spec hk
    exact ⟨_, hf.put o.dst (dstOk_spec hd hs) .undef, hk⟩
  have yes : Region.wanted o (yielded ops a.tmps) = true → vcOne E n o fr h K → ∃ cv fr', FrRel β fr' (a.put o.dst cv) ∧ K fr' h ∧ YieldsW E.P ops o cv a w ∧ (kindOf E.T o.op = 0 → Yields E.P ops o cv a) := by
    intro hw hk
    obtain ⟨cv, fr', h1, h2, h3, h4⟩ := one hk
    exact ⟨cv, fr', h1, h2, .inl ⟨hw, h3⟩, fun h0 => .inl ⟨hw, h4 h0⟩⟩
  have no : Region.wanted o (yielded ops a.tmps) = false → vcSkip n o fr h K → ∃ cv fr', FrRel β fr' (a.put o.dst cv) ∧ K fr' h ∧ YieldsW E.P ops o cv a w ∧ (kindOf E.T o.op = 0 → Yields E.P ops o cv a) := by
    intro hw hk
    obtain ⟨fr', h1, h2⟩ := skip hk
    exact ⟨Go.undef, fr', h1, h2, .inr ⟨hw, rfl⟩, fun _ => .inr ⟨hw, rfl⟩⟩
  unfold vcGd at hk
  split at hk
  · rename_i hg
    exact yes (by simp [Region.wanted, hg]) hk
  · rename_i j want hg
    split at hk
    · contradiction
    · rename_i d hd
      have hy := gslot_yielded (a := a) hd
      have hrel := hf.1 d
      split at hk
      · rename_i c hc
        rw [hc] at hrel
        have hb : a.tmps.getD d Go.undef = .bool c := by
          generalize a.tmps.getD d Go.undef = v at hrel
          cases hrel
          rfl
        rw [getD_bool hb] at hy
        simp only at hy
        cases want with
        | true =>
          have hk := hk.out
          cases c with
          | true => exact yes (by simp [Region.wanted, hg, hy]) (by simpa using hk)
          | false => exact no (by simp [Region.wanted, hg, hy]) (by simpa using hk)
        | false =>
          have hk := hk.out
          cases c with
          | true => exact no (by simp [Region.wanted, hg, hy]) (by simpa using hk)
          | false => exact yes (by simp [Region.wanted, hg, hy]) (by simpa using hk)
      · rename_i hc
        rw [hc] at hrel
        have hb : a.tmps.getD d Go.undef = Go.undef := by
          generalize a.tmps.getD d Go.undef = v at hrel
          cases hrel
          rfl
        rw [getD_undef hb] at hy
        exact no (by simp [Region.wanted, hg, hy]) hk
      · contradiction

theorem vcPlan_sound {ops : Array Oper} {K : Fr → H → Prop} {Q' : Exit → Act → World → Prop} (hsel : Region.noSelect ops = true) (hQ : ∀ c a w, ¬ Q' (.panic c) a w) :
    ∀ (pl : Plan) (fuel : Nat) (listed : Array Bool) (β : Bt) (nxt : Nat) (h : H) (w : World) (fr : Fr) (a : Act), planOk E.T ops fuel listed pl = true → Sim base W0 β nxt h w → FrRel β fr a → a.tmps.size = n →
    vcPlan E n ops.toList pl fr h K → Goes E n base W0 β nxt K (fun a w => Q' .normal a w) → wpCalm E.T E.P .any ops Q' fuel listed a w := by
  have hsel' := Region.noSelect_spec hsel
  intro pl
  induction pl with
  | done =>
    intro fuel listed β nxt h w fr a hok s hf hs hk hn
    have hr : Region.ready .any ops listed = [] := by
      cases fuel <;> simpa [planOk] using hok
    have := hn β nxt h w fr a (Ext.refl β) (Nat.le_refl _) s hf hs hk
    cases fuel with
    | zero => exact ⟨hr, this⟩
    | succ fuel => exact ⟨fun _ => this, fun i hi => by rw [hr] at hi; cases hi⟩
  | p i r ih =>
    intro fuel listed β nxt h w fr a hok s hf hs hk hn
    cases fuel with
    | zero => cases hok
    | succ fuel =>
      simp only [planOk, Bool.and_eq_true] at hok
      obtain ⟨⟨⟨h1, h2⟩, h3⟩, h4⟩ := hok
      simp only [vcPlan] at hk
      split at hk
      · rename_i o ho
        have ho' : ops[i]? = some o := by simpa using ho
        rw [ho'] at h3
        have h3 : kindOf E.T o.op = 0 := by simpa using h3
        obtain ⟨cv, fr', g1, g2, g3, g4⟩ := vcGd_quiet (by omega) s hf hs hk
        exact wpCalm_first ho' hsel' (fun c a w hq => absurd hq (hQ c _ w)) fuel listed a w (Region.free_spec ho' h2) (by simpa using h1) (g4 h3)
          (ih fuel _ β nxt h w fr' _ h4 s g1 ((put_size a _ _).trans hs) g2 hn)
      · contradiction
  | r i B r ih =>
    intro fuel listed β nxt h w fr a hok s hf hs hk hn
    cases fuel with
    | zero => cases hok
    | succ fuel =>
      simp only [planOk, Bool.and_eq_true] at hok
      obtain ⟨⟨⟨⟨h1, h2⟩, h3⟩, h4⟩, h5⟩ := hok
      simp only [vcPlan] at hk
      split at hk
      · rename_i o ho
        have ho' : ops[i]? = some o := by simpa using ho
        rw [ho'] at h2
        have h2 : kindOf E.T o.op ≤ 1 := by simpa using h2
        obtain ⟨cv, fr', g1, g2, g3, g4⟩ := vcGd_quiet h2 s hf hs hk
        refine wpCalm_firstR (B := B) ho' hsel' (fun c a w hq => absurd hq (hQ c _ w)) fuel listed a w ?_ ?_ (by simpa using h1) g3 (ih fuel _ β nxt h w fr' _ h5 s g1 ((put_size a _ _).trans hs) g2 hn)
        · intro b hb
          have := List.all_eq_true.1 h3 b hb
          simp only [Bool.and_eq_true, Bool.not_eq_true'] at this
          refine ⟨this.1, ?_⟩
          have h6 := this.2
          cases hob : ops[b]? with
          | none => rw [hob] at h6; cases h6
          | some ob =>
            rw [hob] at h6
            obtain ⟨e, he, hbd⟩ := Array.any_eq_true'.1 h6
            simp only [Bool.and_eq_true, Bool.or_eq_true, beq_iff_eq, List.contains_iff_mem] at hbd
            exact ⟨ob, rfl, e, he, hbd.1, hbd.2⟩
        · intro j oj hj hne hun hnB
          have hlt : j < ops.size := (Array.getElem?_eq_some_iff.1 hj).1
          have := List.all_eq_true.1 h4 j (List.mem_range.2 hlt)
          rw [ho', hj] at this
          simp only [Bool.or_eq_true, beq_iff_eq, hne, false_or, hun, Bool.false_eq_true, List.contains_iff_mem, hnB, Bool.and_eq_true] at this
          exact ⟨this.1, by simpa using this.2⟩
      · contradiction
  | all l f ih =>
    intro fuel listed β nxt h w fr a hok s hf hs hk hn
    cases fuel with
    | zero => cases hok
    | succ fuel =>
      simp only [planOk, Bool.and_eq_true, beq_iff_eq, Bool.not_eq_true'] at hok
      obtain ⟨⟨h1, h2⟩, h3⟩ := hok
      refine ⟨fun h0 => (by rw [h1] at h0; subst h0; cases h2), fun i hi => ?_⟩
      rw [h1] at hi
      simp only [vcPlan] at hk
      have hki := allK_mem hk i hi
      have hoki := List.all_eq_true.1 h3 i hi
      split at hki
      · rename_i o ho
        have ho' : ops[i]? = some o := by simpa using ho
        refine ⟨fun o2 ho2 hk2 hw2 => ?_, ?_⟩
        · rw [ho'] at ho2
          injection ho2 with ho2
          subst ho2
          obtain ⟨cv, fr', g1, g2, g3, g4⟩ := vcGd_quiet hk2 s hf hs hki
          exact g3.calm ho' o ho' hk2 hw2 (T := E.T)
        unfold wpOp
        simp only [ho']
        have := vcGd_sound (Q' := Q') s hf hs hki (next := wpCalm E.T E.P .any ops Q' fuel (listed.setIfInBounds i true)) fun β' nxt' h' w' fr' a' he hx s' hf' hs' hk' =>
          ih i fuel _ β' nxt' h' w' fr' a' hoki s' hf' hs' hk' fun β2 nxt2 h2 w2 fr2 a2 he2 hx2 s2 hf2 hs2 hk2 => hn β2 nxt2 h2 w2 fr2 a2 (he.trans he2) (Nat.le_trans hx hx2) s2 hf2 hs2 hk2
        split
        · rename_i hw; rw [if_pos hw] at this; exact .inl this
        · rename_i hw; rw [if_neg hw] at this; exact this
      · contradiction

theorem AW.draw {id : Nat} {ops : Array Oper} {Q : Exit → Fr → H → Prop} (pl : Plan) (hsel : Region.noSelect ops = true) (hok : planOk E.T ops ops.size (Array.replicate ops.size false) pl = true)
    (hk : vcPlan E n ops.toList pl fr h fun fr h => Q .normal fr h) : AW E n (.region id ops true) fr h Q := by
  refine ⟨fun base W0 β nxt a w s hf hs => wp_region_any E.mixed ?_⟩
  exact (vcPlan_sound (K := fun fr h => Q .normal fr h) hsel (fun c a w hq => hq) pl _ _ β nxt h _ fr a hok s.drew hf hs hk fun β' nxt' h' w' fr' a' he hx s' hf' hs' hk' => ⟨β', nxt', fr', h', he, hx, s', hf', hs', hk'⟩).any

end

end Go.Proofs.YtbicfognbbeigaaGreat.Ab

/-
  The library's sixteenth text proves how a law's contract in abstract values gives its call's end, and how arguments are opened.
  It holds no condition of its own.
-/
set_option linter.unusedVariables false
set_option linter.unusedSimpArgs false
namespace Go.Proofs.YtbicfognbbeigaaGreat.Ab
open Go.RowKit

def emptyB : Bt := fun _ => none
def emptyH : H := fun _ => none

theorem Sim.init (w : World) : Sim w.heap.size w emptyB 0 emptyH w :=
  ⟨Below.refl _ _, Nat.le_refl _, fun _ _ => rfl, fun b x hb => (nomatch hb), fun b b' x x' p p' hb => (nomatch hb)⟩

section
variable {E : Env} {base : Nat} {W0 : World} {β : Bt} {nxt : Nat} {h : H} {w : World}

theorem Sim.addRo (s : Sim base W0 β nxt h w) (p : Pos) (sz : Nat) (cs : List AV) (r : BlkRel base (bput β nxt p) p w (.cells false sz cs)) :
    Sim base W0 (bput β nxt p) (nxt + 1) (upd h nxt (.cells false sz cs)) w := by
  have hnn : β nxt = none := s.fresh nxt (Nat.le_refl _)
  have he : Ext β (bput β nxt p) := Ext.put hnn
  have hold : ∀ b x, h b = some x → b ≠ nxt := fun b x hb e => by
    obtain ⟨q, h1, _⟩ := s.live b x hb
    subst e
    rw [hnn] at h1
    cases h1
  refine ⟨s.below, s.ge, fun b hb => ?_, fun b y hb => ?_, fun b b' y y' q q' hb hb' ho ho' hq hq' hqq => ?_⟩
  · unfold bput
    rw [if_neg (by omega)]
    exact s.fresh b (by omega)
  · unfold upd at hb
    split at hb
    · rename_i e
      subst e
      injection hb with hb
      subst hb
      exact ⟨p, by simp [bput], r⟩
    · obtain ⟨q, h1, h2⟩ := s.live b y hb
      exact ⟨q, he _ _ h1, h2.mono he⟩
  · unfold upd at hb hb'
    split at hb
    · injection hb with hb; subst hb; cases ho
    · split at hb'
      · injection hb' with hb'; subst hb'; cases ho'
      · rename_i n n'
        have hq0 : β b = some q := by simpa [bput, n] using hq
        have hq0' : β b' = some q' := by simpa [bput, n'] using hq'
        exact s.inj b b' y y' q q' hb hb' ho ho' hq0 hq0' hqq

theorem Sim.addDead (s : Sim base W0 β nxt h w) (p : Pos) : Sim base W0 (bput β nxt p) (nxt + 1) h w := by
  have hnn : β nxt = none := s.fresh nxt (Nat.le_refl _)
  have he : Ext β (bput β nxt p) := Ext.put hnn
  refine ⟨s.below, s.ge, fun b hb => ?_, fun b y hb => ?_, fun b b' y y' q q' hb hb' ho ho' hq hq' hqq => ?_⟩
  · unfold bput
    rw [if_neg (by omega)]
    exact s.fresh b (by omega)
  · obtain ⟨q, h1, h2⟩ := s.live b y hb
    exact ⟨q, he _ _ h1, h2.mono he⟩
  · have k : ∀ b y q, h b = some y → bput β nxt p b = some q → β b = some q := fun b y q hb hq => by
      obtain ⟨q0, h1, _⟩ := s.live b y hb
      have hne : b ≠ nxt := fun e => by subst e; rw [hnn] at h1; cases h1
      simpa [bput, hne] using hq
    exact s.inj b b' y y' q q' hb hb' ho ho' (k b y q hb hq) (k b' y' q' hb' hq') hqq

/-- a law's contract gives its call's end -/
theorem AC.law {f : FuncId} {args : List AV} {vs : Array Value} (c : AC E f args h fun v _ => v = .bool true) (s : Sim w.heap.size w β nxt h w) (r : RVs β args vs.toList) :
    Calls E.P f vs w fun e w' => e = .returned (.bool true) ∧ Below w.heap.size w w' := by
  refine (c.run _ _ β nxt w vs s r).mono ?_
  rintro e w' ⟨v, cv, β', nxt', h', rfl, _, _, hr, hs, rfl⟩
  cases hr
  exact ⟨rfl, hs.below⟩

theorem rv_string (β : Bt) (s : ByteArray) : RV β (.str s.data.toList) (.string s) := by
  obtain ⟨⟨l⟩⟩ := s
  exact .str l

theorem bounds_i64 {n : Int} (h : (Lit.int .i64 n).wf = true) : -9223372036854775808 ≤ n ∧ n ≤ 9223372036854775807 := by
  simpa [Lit.wf, IntKind.min, IntKind.max, IntKind.signed, IntKind.bits] using h

end
end Go.Proofs.YtbicfognbbeigaaGreat.Ab

/-
  The library's seventeenth text proves small rules by which two ways are parted.
  It holds no condition of its own.
-/
set_option linter.unusedVariables false
set_option linter.unusedSimpArgs false
namespace Go.Proofs.YtbicfognbbeigaaGreat.Ab
open Go.RowKit

theorem Br.dt {p : Prop} [Decidable p] {A B : Prop} (hp : p) (h : A) : Br (decide p) A B := Br.t (by simp [hp]) h
theorem Br.df {p : Prop} [Decidable p] {A B : Prop} (hp : ¬ p) (h : B) : Br (decide p) A B := Br.f (by simp [hp]) h
theorem Br.dec {p : Prop} [Decidable p] {A B : Prop} (h1 : p → A) (h2 : ¬ p → B) : Br (decide p) A B := ⟨fun e => h1 (by simpa using e), fun e => h2 (by simpa using e)⟩
theorem Br.it {a b : Int} {A B : Prop} (hp : a = b) (h : A) : Br (a == b) A B := Br.t (by simp [hp]) h
theorem Br.if {a b : Int} {A B : Prop} (hp : a ≠ b) (h : B) : Br (a == b) A B := Br.f (by simp [hp]) h
theorem Br.ieq {a b : Int} {A B : Prop} (h1 : a = b → A) (h2 : a ≠ b → B) : Br (a == b) A B := ⟨fun e => h1 (by simpa using e), fun e => h2 (by simpa using e)⟩
theorem Br.nt {a b : Int} {A B : Prop} (hp : a ≠ b) (h : A) : Br (a != b) A B := Br.t (by simp [hp]) h
theorem Br.nf {a b : Int} {A B : Prop} (hp : a = b) (h : B) : Br (a != b) A B := Br.f (by simp [hp]) h
theorem Br.ine {a b : Int} {A B : Prop} (h1 : a ≠ b → A) (h2 : a = b → B) : Br (a != b) A B := ⟨fun e => h1 (by simpa using e), fun e => h2 (by simpa using e)⟩
theorem Br.not {c : Bool} {A B : Prop} (h : Br c B A) : Br (!c) A B := ⟨fun e => h.no (by simpa using e), fun e => h.yes (by simpa using e)⟩
theorem Br.and {c d : Bool} {A B : Prop} (h : Br c (Br d A B) B) : Br (c && d) A B := by
  refine ⟨fun e => ?_, fun e => ?_⟩
  · simp only [Bool.and_eq_true] at e
    exact (h.yes e.1).yes e.2
  · cases c with
    | false => exact h.no rfl
    | true => exact (h.yes rfl).no (by simpa using e)
theorem Br.or {c d : Bool} {A B : Prop} (h : Br c A (Br d A B)) : Br (c || d) A B := by
  refine ⟨fun e => ?_, fun e => ?_⟩
  · cases c with
    | true => exact h.yes rfl
    | false => exact (h.no rfl).yes (by simpa using e)
  · simp only [Bool.or_eq_false_iff] at e
    exact (h.no e.1).no e.2
theorem Br.same {c : Bool} {A : Prop} (h : A) : Br c A A := ⟨fun _ => h, fun _ => h⟩

theorem len_le {a : ByteArray} (h : a.size ≤ maxLen) : a.data.toList.length ≤ 9223372036854775807 := by
  have e : a.data.toList.length = a.size := by
    rw [Array.length_toList]
    rfl
  unfold maxLen at h
  omega

/-- blocks that were there are there as they were -/
def Keeps (h h' : H) : Prop := ∀ b x, h b = some x → h' b = some x

theorem Keeps.refl (h : H) : Keeps h h := fun _ _ e => e
theorem Keeps.trans {a b c : H} (h : Keeps a b) (k : Keeps b c) : Keeps a c := fun x y e => k x y (h x y e)
theorem Keeps.upd {h h' : H} (k : Keeps h h') {b : Nat} (hb : h' b = none) (x : Blk) : Keeps h (upd h' b x) := by
  intro y z e
  have := k y z e
  have hne : y ≠ b := fun e => by subst e; rw [hb] at this; cases this
  rw [upd_ne _ _ hne]
  exact this
theorem Keeps.updNew {h h' : H} (k : Keeps h h') {b : Nat} (hb : h b = none) (x : Blk) : Keeps h (Ab.upd h' b x) := by
  intro y z e
  have hne : y ≠ b := fun e' => by subst e'; rw [hb] at e; cases e
  rw [upd_ne _ _ hne]
  exact k y z e
theorem Keeps.killNew {h h' : H} (k : Keeps h h') {b : Nat} (hb : h b = none) : Keeps h (kill h' b) := by
  intro y z e
  have hne : y ≠ b := fun e' => by subst e'; rw [hb] at e; cases e
  rw [kill_ne _ hne]
  exact k y z e
theorem Keeps.none {h h' : H} (k : Keeps h h') {b : Nat} (hb : h' b = Option.none) : h b = Option.none := by
  cases e : h b with
  | none => rfl
  | some x => rw [k b x e] at hb; cases hb

section
variable {E : Env} {n : Nat} {fr : Fr} {h : H} {Q : Exit → Fr → H → Prop} {c : Code}
theorem AW.loop1 {T0 : Type} (F : T0 → Fr) (I : T0 → H → Prop) (μ : T0 → Nat) (a0 : T0) (hl : Less fr (F a0)) (h0 : I a0 h)
    (round : ∀ a h, I a h → AW E n c (F a) h (thenK (fun fr' h' => ∃ a', Less fr' (F a') ∧ I a' h' ∧ μ a' < μ a) Q)) : AW E n (.loop c) fr h Q :=
  AW.loop (α := T0) (fun x => F x) (fun x h => I x h) (fun x => μ x) a0 hl h0 fun x h hI => (round x h hI).mono fun e fr h k => by
    cases e with
    | normal =>
      obtain ⟨a', h1, h2, h3⟩ := k
      exact ⟨a', h1, h2, h3⟩
    | _ => exact k
theorem AW.loop2 {T0 T1 : Type} (F : T0 → T1 → Fr) (I : T0 → T1 → H → Prop) (μ : T0 → T1 → Nat) (a0 : T0) (b0 : T1) (hl : Less fr (F a0 b0)) (h0 : I a0 b0 h)
    (round : ∀ a b h, I a b h → AW E n c (F a b) h (thenK (fun fr' h' => ∃ a' b', Less fr' (F a' b') ∧ I a' b' h' ∧ μ a' b' < μ a b) Q)) : AW E n (.loop c) fr h Q :=
  AW.loop (α := T0 × T1) (fun x => F x.1 x.2) (fun x h => I x.1 x.2 h) (fun x => μ x.1 x.2) (a0, b0) hl h0 fun x h hI => (round x.1 x.2 h hI).mono fun e fr h k => by
    cases e with
    | normal =>
      obtain ⟨a', b', h1, h2, h3⟩ := k
      exact ⟨(a', b'), h1, h2, h3⟩
    | _ => exact k
theorem AW.loop3 {T0 T1 T2 : Type} (F : T0 → T1 → T2 → Fr) (I : T0 → T1 → T2 → H → Prop) (μ : T0 → T1 → T2 → Nat) (a0 : T0) (b0 : T1) (c10 : T2) (hl : Less fr (F a0 b0 c10)) (h0 : I a0 b0 c10 h)
    (round : ∀ a b c1 h, I a b c1 h → AW E n c (F a b c1) h (thenK (fun fr' h' => ∃ a' b' c1', Less fr' (F a' b' c1') ∧ I a' b' c1' h' ∧ μ a' b' c1' < μ a b c1) Q)) : AW E n (.loop c) fr h Q :=
  AW.loop (α := T0 × T1 × T2) (fun x => F x.1 x.2.1 x.2.2) (fun x h => I x.1 x.2.1 x.2.2 h) (fun x => μ x.1 x.2.1 x.2.2) (a0, b0, c10) hl h0 fun x h hI => (round x.1 x.2.1 x.2.2 h hI).mono fun e fr h k => by
    cases e with
    | normal =>
      obtain ⟨a', b', c1', h1, h2, h3⟩ := k
      exact ⟨(a', b', c1'), h1, h2, h3⟩
    | _ => exact k
theorem AW.loop4 {T0 T1 T2 T3 : Type} (F : T0 → T1 → T2 → T3 → Fr) (I : T0 → T1 → T2 → T3 → H → Prop) (μ : T0 → T1 → T2 → T3 → Nat) (a0 : T0) (b0 : T1) (c10 : T2) (d0 : T3) (hl : Less fr (F a0 b0 c10 d0)) (h0 : I a0 b0 c10 d0 h)
    (round : ∀ a b c1 d h, I a b c1 d h → AW E n c (F a b c1 d) h (thenK (fun fr' h' => ∃ a' b' c1' d', Less fr' (F a' b' c1' d') ∧ I a' b' c1' d' h' ∧ μ a' b' c1' d' < μ a b c1 d) Q)) : AW E n (.loop c) fr h Q :=
  AW.loop (α := T0 × T1 × T2 × T3) (fun x => F x.1 x.2.1 x.2.2.1 x.2.2.2) (fun x h => I x.1 x.2.1 x.2.2.1 x.2.2.2 h) (fun x => μ x.1 x.2.1 x.2.2.1 x.2.2.2) (a0, b0, c10, d0) hl h0 fun x h hI => (round x.1 x.2.1 x.2.2.1 x.2.2.2 h hI).mono fun e fr h k => by
    cases e with
    | normal =>
      obtain ⟨a', b', c1', d', h1, h2, h3⟩ := k
      exact ⟨(a', b', c1', d'), h1, h2, h3⟩
    | _ => exact k
theorem AW.loop5 {T0 T1 T2 T3 T4 : Type} (F : T0 → T1 → T2 → T3 → T4 → Fr) (I : T0 → T1 → T2 → T3 → T4 → H → Prop) (μ : T0 → T1 → T2 → T3 → T4 → Nat) (a0 : T0) (b0 : T1) (c10 : T2) (d0 : T3) (e0 : T4) (hl : Less fr (F a0 b0 c10 d0 e0)) (h0 : I a0 b0 c10 d0 e0 h)
    (round : ∀ a b c1 d e h, I a b c1 d e h → AW E n c (F a b c1 d e) h (thenK (fun fr' h' => ∃ a' b' c1' d' e', Less fr' (F a' b' c1' d' e') ∧ I a' b' c1' d' e' h' ∧ μ a' b' c1' d' e' < μ a b c1 d e) Q)) : AW E n (.loop c) fr h Q :=
  AW.loop (α := T0 × T1 × T2 × T3 × T4) (fun x => F x.1 x.2.1 x.2.2.1 x.2.2.2.1 x.2.2.2.2) (fun x h => I x.1 x.2.1 x.2.2.1 x.2.2.2.1 x.2.2.2.2 h) (fun x => μ x.1 x.2.1 x.2.2.1 x.2.2.2.1 x.2.2.2.2) (a0, b0, c10, d0, e0) hl h0 fun x h hI => (round x.1 x.2.1 x.2.2.1 x.2.2.2.1 x.2.2.2.2 h hI).mono fun e fr h k => by
    cases e with
    | normal =>
      obtain ⟨a', b', c1', d', e', h1, h2, h3⟩ := k
      exact ⟨(a', b', c1', d', e'), h1, h2, h3⟩
    | _ => exact k
theorem AW.loop6 {T0 T1 T2 T3 T4 T5 : Type} (F : T0 → T1 → T2 → T3 → T4 → T5 → Fr) (I : T0 → T1 → T2 → T3 → T4 → T5 → H → Prop) (μ : T0 → T1 → T2 → T3 → T4 → T5 → Nat) (a0 : T0) (b0 : T1) (c10 : T2) (d0 : T3) (e0 : T4) (f0 : T5) (hl : Less fr (F a0 b0 c10 d0 e0 f0)) (h0 : I a0 b0 c10 d0 e0 f0 h)
    (round : ∀ a b c1 d e f h, I a b c1 d e f h → AW E n c (F a b c1 d e f) h (thenK (fun fr' h' => ∃ a' b' c1' d' e' f', Less fr' (F a' b' c1' d' e' f') ∧ I a' b' c1' d' e' f' h' ∧ μ a' b' c1' d' e' f' < μ a b c1 d e f) Q)) : AW E n (.loop c) fr h Q :=
  AW.loop (α := T0 × T1 × T2 × T3 × T4 × T5) (fun x => F x.1 x.2.1 x.2.2.1 x.2.2.2.1 x.2.2.2.2.1 x.2.2.2.2.2) (fun x h => I x.1 x.2.1 x.2.2.1 x.2.2.2.1 x.2.2.2.2.1 x.2.2.2.2.2 h) (fun x => μ x.1 x.2.1 x.2.2.1 x.2.2.2.1 x.2.2.2.2.1 x.2.2.2.2.2) (a0, b0, c10, d0, e0, f0) hl h0 fun x h hI => (round x.1 x.2.1 x.2.2.1 x.2.2.2.1 x.2.2.2.2.1 x.2.2.2.2.2 h hI).mono fun e fr h k => by
    cases e with
    | normal =>
      obtain ⟨a', b', c1', d', e', f', h1, h2, h3⟩ := k
      exact ⟨(a', b', c1', d', e', f'), h1, h2, h3⟩
    | _ => exact k
theorem AW.loop7 {T0 T1 T2 T3 T4 T5 T6 : Type} (F : T0 → T1 → T2 → T3 → T4 → T5 → T6 → Fr) (I : T0 → T1 → T2 → T3 → T4 → T5 → T6 → H → Prop) (μ : T0 → T1 → T2 → T3 → T4 → T5 → T6 → Nat) (a0 : T0) (b0 : T1) (c10 : T2) (d0 : T3) (e0 : T4) (f0 : T5) (g0 : T6) (hl : Less fr (F a0 b0 c10 d0 e0 f0 g0)) (h0 : I a0 b0 c10 d0 e0 f0 g0 h)
    (round : ∀ a b c1 d e f g h, I a b c1 d e f g h → AW E n c (F a b c1 d e f g) h (thenK (fun fr' h' => ∃ a' b' c1' d' e' f' g', Less fr' (F a' b' c1' d' e' f' g') ∧ I a' b' c1' d' e' f' g' h' ∧ μ a' b' c1' d' e' f' g' < μ a b c1 d e f g) Q)) : AW E n (.loop c) fr h Q :=
  AW.loop (α := T0 × T1 × T2 × T3 × T4 × T5 × T6) (fun x => F x.1 x.2.1 x.2.2.1 x.2.2.2.1 x.2.2.2.2.1 x.2.2.2.2.2.1 x.2.2.2.2.2.2) (fun x h => I x.1 x.2.1 x.2.2.1 x.2.2.2.1 x.2.2.2.2.1 x.2.2.2.2.2.1 x.2.2.2.2.2.2 h) (fun x => μ x.1 x.2.1 x.2.2.1 x.2.2.2.1 x.2.2.2.2.1 x.2.2.2.2.2.1 x.2.2.2.2.2.2) (a0, b0, c10, d0, e0, f0, g0) hl h0 fun x h hI => (round x.1 x.2.1 x.2.2.1 x.2.2.2.1 x.2.2.2.2.1 x.2.2.2.2.2.1 x.2.2.2.2.2.2 h hI).mono fun e fr h k => by
    cases e with
    | normal =>
      obtain ⟨a', b', c1', d', e', f', g', h1, h2, h3⟩ := k
      exact ⟨(a', b', c1', d', e', f', g'), h1, h2, h3⟩
    | _ => exact k
end

end Go.Proofs.YtbicfognbbeigaaGreat.Ab

/-
  The library's eighteenth text proves laws of blocks that a function has made itself.
  It holds no condition of its own.
-/
set_option linter.unusedVariables false
set_option linter.unusedSimpArgs false
namespace Go.Proofs.YtbicfognbbeigaaGreat.Ab
open Go.RowKit

/-- the whole numbers as cells -/
def ints (l : List Int) : List AV := l.map (AV.int .i64)
theorem ints_length (l : List Int) : (ints l).length = l.length := List.length_map _
theorem ints_get (l : List Int) (i : Nat) (h : i < l.length) : (ints l)[i]? = some (.int .i64 (l.getD i 0)) := by
  unfold ints
  rw [List.getElem?_map, List.getElem?_eq_getElem h]
  simp [List.getD, h]
theorem ints_append (a b : List Int) : ints (a ++ b) = ints a ++ ints b := List.map_append
theorem ints_set (l : List Int) (i : Nat) (x : Int) : (ints l).set i (.int .i64 x) = ints (l.set i x) := by
  unfold ints
  rw [List.map_set]
theorem ints_replicate (n : Nat) : List.replicate n (AV.int .i64 0) = ints (List.replicate n 0) := by
  unfold ints
  rw [List.map_replicate]

/-- all blocks but one are as they were -/
def Oth (b : Nat) (h h' : H) : Prop := ∀ y x, y ≠ b → h y = some x → h' y = some x

/-- a block of cells that was not there before; what was there is as it was -/
structure New (h0 h : H) (b : Nat) (cs : List AV) : Prop where
  cells : h b = some (.cells true 1 cs)
  new : h0 b = none
  keeps : Keeps h0 h

theorem New.make {h0 h : H} {b : Nat} {cs : List AV} (k : Keeps h0 h) (hb : h b = none) : New h0 (upd h b (.cells true 1 cs)) b cs :=
  ⟨upd_same _ _ _, k.none hb, k.upd hb _⟩

theorem New.upd {h0 h : H} {b b' : Nat} {cs : List AV} (n : New h0 h b cs) (hb : h b' = none) (x : Blk) : New h0 (Ab.upd h b' x) b cs :=
  ⟨by rw [upd_ne _ _ (fun e => by subst e; rw [n.cells] at hb; cases hb)]; exact n.cells, n.new, n.keeps.upd hb _⟩

theorem New.keep {h0 h h' : H} {b : Nat} {cs : List AV} (n : New h0 h b cs) (k : Keeps h h') : New h0 h' b cs :=
  ⟨k _ _ n.cells, n.new, n.keeps.trans k⟩

theorem New.load {h0 h : H} {b : Nat} {cs : List AV} (n : New h0 h b cs) {o : Nat} {v : AV} {K : AV → Prop} (hv : cs[o]? = some v) (hk : K v) : LoadG h b o K :=
  .mk true 1 cs v n.cells hv hk

theorem New.store {h0 h : H} {b : Nat} {cs : List AV} (n : New h0 h b cs) {o : Nat} {v : AV} {K : H → Prop} (ho : o < cs.length) (h1 : v.one = true)
    (hk : ∀ h', New h0 h' b (cs.set o v) → Oth b h h' → K h') : StoreG h b o v K :=
  .mk 1 cs n.cells ho h1 (hk _ ⟨upd_same _ _ _, n.new, n.keeps.updNew n.new _⟩ fun y x hy e => by rw [upd_ne _ _ hy]; exact e)

theorem New.app {h0 h : H} {b m bytes : Nat} {cs news : List AV} (n : New h0 h b cs) {N C : Nat} {K : AV → H → Prop} (hN : N = cs.length) (hb : (cs.length + m) * bytes ≤ 140737488355328) (h1 : ∀ v ∈ news, v.one = true)
    (hk : ∀ b' h', New h0 h' b' (cs ++ news) → Oth b h h' → K (.slice b' 0 (N + m) (N + m)) h') : AppG h (.slice b 0 N C) bytes news m K := by
  subst hN
  refine .grow b _ C cs rfl n.cells (Nat.le_refl _) hb h1 fun b' hb' => ?_
  rw [List.take_length]
  have h2 : h0 b' = none := n.keeps.none hb'
  have hne : b' ≠ b := fun e => by subst e; rw [n.cells] at hb'; cases hb'
  refine hk b' _ ⟨upd_same _ _ _, h2, ?_⟩ fun y x hy e => ?_
  · exact (n.keeps.killNew n.new).updNew h2 _
  · rw [upd_ne _ _ (fun e' => by subst e'; rw [e] at hb'; cases hb'), kill_ne _ hy]
    exact e

/-- a loop whose first round leaves it -/
theorem AW.once {E : Env} {n : Nat} {c : Code} {fr : Fr} {h : H} {Q : Exit → Fr → H → Prop} (hk : AW E n c fr h fun e fr h => match e with
    | .normal => False
    | e => Q e fr h) : AW E n (.loop c) fr h Q := by
  refine ⟨fun base W0 β nxt a w s hf hs b k cs => ?_⟩
  have key : ∃ e a' w', lift base W0 β nxt n Q e a' w' ∧ Arrives E.P (lone (b.at a (.code c :: .inLoop c :: k)) cs w) b k cs e a' w' := by
    obtain ⟨e, a1, w1, hq, harr⟩ := hk.run base W0 β nxt a w s hf hs b (.inLoop c :: k) cs
    cases e with
    | normal =>
      obtain ⟨β', nxt', fr', h', he, hx, s', hf', hs', hF⟩ := hq
      exact hF.elim
    | exit id =>
      obtain ⟨β', nxt', fr', h', he, hx, s', hf', hs', kk⟩ := hq
      exact ⟨.exit id, a1, w1, ⟨β', nxt', fr', h', he, hx, s', hf', hs', kk⟩, .pass (x := .inLoop c) rfl (fun _ _ => .inl (by simp)) harr⟩
    | goto l =>
      obtain ⟨β', nxt', fr', h', he, hx, s', hf', hs', kk⟩ := hq
      exact ⟨.goto l, a1, w1, ⟨β', nxt', fr', h', he, hx, s', hf', hs', kk⟩, .pass (x := .inLoop c) rfl (fun _ _ => .inl (by simp)) harr⟩
    | ret =>
      obtain ⟨β', nxt', fr', h', he, hx, s', hf', hs', kk⟩ := hq
      exact ⟨.ret, a1, w1, ⟨β', nxt', fr', h', he, hx, s', hf', hs', kk⟩, .pass (x := .inLoop c) rfl (fun _ _ => .inl (by simp)) harr⟩
    | panic ch => exact hq.elim
    | outgrown => exact hq.elim
  obtain ⟨e, a', w', hq, harr⟩ := key
  exact ⟨e, a', w', hq, .of_steps (.one step_loop) harr⟩

end Go.Proofs.YtbicfognbbeigaaGreat.Ab

/-
  The library's nineteenth text proves laws of reading and of rows of numbers.
  It holds no condition of its own.
-/
set_option linter.unusedVariables false
set_option linter.unusedSimpArgs false
namespace Go.Proofs.YtbicfognbbeigaaGreat.Ab
open Go.RowKit

attribute [simp] ints_length

/-- a block that holds these cells -/
def Has (h : H) (b : Nat) (cs : List AV) : Prop := ∃ own sz, h b = some (.cells own sz cs)

theorem New.has {h0 h : H} {b : Nat} {cs : List AV} (n : New h0 h b cs) : Has h b cs := ⟨true, 1, n.cells⟩
theorem Has.keep {h h' : H} {b : Nat} {cs : List AV} (n : Has h b cs) (k : Keeps h h') : Has h' b cs := by
  obtain ⟨o, s, e⟩ := n
  exact ⟨o, s, k _ _ e⟩
theorem Has.oth {h h' : H} {b y : Nat} {cs : List AV} (n : Has h b cs) (k : Oth y h h') (hy : b ≠ y) : Has h' b cs := by
  obtain ⟨o, s, e⟩ := n
  exact ⟨o, s, k _ _ hy e⟩
theorem Has.load {h : H} {b : Nat} {cs : List AV} (n : Has h b cs) {o : Nat} {v : AV} {K : AV → Prop} (hv : cs[o]? = some v) (hk : K v) : LoadG h b o K := by
  obtain ⟨ow, s, e⟩ := n
  exact .mk ow s cs v e hv hk
theorem Has.new {h0 h : H} {b : Nat} {cs : List AV} (n : Has h0 b cs) (k : Keeps h0 h) : Has h b cs := n.keep k

theorem Has.loadI {h : H} {b : Nat} {l : List Int} (n : Has h b (ints l)) {o : Nat} {K : AV → Prop} (ho : o < l.length) (hk : K (.int .i64 (l.getD o 0))) : LoadG h b o K :=
  n.load (ints_get l o ho) hk
theorem New.loadI {h0 h : H} {b : Nat} {l : List Int} (n : New h0 h b (ints l)) {o : Nat} {K : AV → Prop} (ho : o < l.length) (hk : K (.int .i64 (l.getD o 0))) : LoadG h b o K :=
  n.has.loadI ho hk
theorem New.storeI {h0 h : H} {b : Nat} {l : List Int} (n : New h0 h b (ints l)) {o : Nat} {x : Int} {K : H → Prop} (ho : o < l.length)
    (hk : ∀ h', New h0 h' b (ints (l.set o x)) → Oth b h h' → K h') : StoreG h b o (.int .i64 x) K :=
  n.store (by simpa using ho) rfl fun h' hn => hk h' (by rw [← ints_set]; exact hn)
theorem New.appI {h0 h : H} {b bytes : Nat} {l : List Int} {x : Int} (n : New h0 h b (ints l)) {N C : Nat} {K : AV → H → Prop} (hN : N = l.length) (hb : l.length + 1 ≤ 1000000000) (hy : bytes ≤ 1000)
    (hk : ∀ b' h', New h0 h' b' (ints (l ++ [x])) → Oth b h h' → K (.slice b' 0 (N + 1) (N + 1)) h') : AppG h (.slice b 0 N C) bytes [.int .i64 x] 1 K :=
  n.app (by simpa using hN) (by
    have e : (l.length + 1) * bytes ≤ 1000000000 * 1000 := Nat.mul_le_mul hb hy
    rw [ints_length]
    omega) (by simp [AV.one]) fun b' h' hn => hk b' h' (by rw [ints_append]; exact hn)

/-- what the cells of a block that was just made are -/
theorem LoadsG.made {h : H} {b n : Nat} {cs : List AV} {K : List AV → Prop} (hn : n = cs.length) (hk : K cs) : LoadsG (upd h b (.cells true 1 cs)) b 0 n K := by
  subst hn
  exact .mk true 1 cs (upd_same _ _ _) (by omega) (by simpa using hk)

theorem Oth.has {h h' : H} {b y : Nat} {cs : List AV} (k : Oth y h h') (n : Has h b cs) (hy : b ≠ y) : Has h' b cs := n.oth k hy
theorem New.oth {h0 h h' h1 : H} {b y : Nat} {cs ds : List AV} (n : New h0 h b cs) (k : Oth y h h') (m : New h1 h' y ds) (hy : b ≠ y) (hk : Keeps h0 h') : New h0 h' b cs :=
  ⟨k _ _ hy n.cells, n.new, hk⟩

/-- a block of one's own that holds these cells -/
def Own (h : H) (b : Nat) (cs : List AV) : Prop := h b = some (.cells true 1 cs)
theorem New.own {h0 h : H} {b : Nat} {cs : List AV} (n : New h0 h b cs) : Own h b cs := n.cells
theorem Own.has {h : H} {b : Nat} {cs : List AV} (n : Own h b cs) : Has h b cs := ⟨true, 1, n⟩
theorem Own.keep {h h' : H} {b : Nat} {cs : List AV} (n : Own h b cs) (k : Keeps h h') : Own h' b cs := k _ _ n
theorem Own.oth {h h' : H} {b y : Nat} {cs : List AV} (n : Own h b cs) (k : Oth y h h') (hy : b ≠ y) : Own h' b cs := k _ _ hy n
theorem Own.storeI {h : H} {b : Nat} {l : List Int} (n : Own h b (ints l)) {o : Nat} {x : Int} {K : H → Prop} (ho : o < l.length)
    (hk : ∀ h', Own h' b (ints (l.set o x)) → Oth b h h' → K h') : StoreG h b o (.int .i64 x) K :=
  .mk 1 _ n (by simpa using ho) rfl (hk _ (by rw [← ints_set]; exact upd_same _ _ _) fun y x hy e => by rw [upd_ne _ _ hy]; exact e)
theorem Oth.refl (b : Nat) (h : H) : Oth b h h := fun _ _ _ e => e
theorem Oth.trans {b : Nat} {h h' h'' : H} (k : Oth b h h') (m : Oth b h' h'') : Oth b h h'' := fun y x hy e => m y x hy (k y x hy e)
theorem New.after {h0 h h' : H} {b : Nat} {cs cs' : List AV} (n : New h0 h b cs) (o : Own h' b cs') (k : Oth b h h') : New h0 h' b cs' :=
  ⟨o, n.new, fun y x e => k y x (fun e' => by subst e'; rw [n.new] at e; cases e) (n.keeps y x e)⟩
theorem New.ne {h0 h : H} {b y : Nat} {cs ds : List AV} (n : New h0 h b cs) (m : Has h0 y ds) : y ≠ b := by
  rintro rfl
  obtain ⟨o, s, e⟩ := m
  rw [n.new] at e
  cases e

theorem off1 {n sz : Nat} (hs : sz = 1) : 0 + mulSz n sz = n := by rw [mulSz_eq, hs]; omega
theorem Has.loadZ {h : H} {b : Nat} {l : List Int} (m : Has h b (ints l)) {n sz : Nat} (hs : sz = 1) {K : AV → Prop} (ho : n < l.length) (hk : K (.int .i64 (l.getD n 0))) : LoadG h b (0 + mulSz n sz) K := by
  rw [off1 hs]
  exact m.loadI ho hk
theorem New.loadZ {h0 h : H} {b : Nat} {l : List Int} (m : New h0 h b (ints l)) {n sz : Nat} (hs : sz = 1) {K : AV → Prop} (ho : n < l.length) (hk : K (.int .i64 (l.getD n 0))) : LoadG h b (0 + mulSz n sz) K :=
  m.has.loadZ hs ho hk
theorem Own.storeZ {h : H} {b : Nat} {l : List Int} (m : Own h b (ints l)) {n sz : Nat} (hs : sz = 1) {x : Int} {K : H → Prop} (ho : n < l.length)
    (hk : ∀ h', Own h' b (ints (l.set n x)) → Oth b h h' → K h') : StoreG h b (0 + mulSz n sz) (.int .i64 x) K := by
  rw [off1 hs]
  exact m.storeI ho hk
theorem New.storeZ {h0 h : H} {b : Nat} {l : List Int} (m : New h0 h b (ints l)) {n sz : Nat} (hs : sz = 1) {x : Int} {K : H → Prop} (ho : n < l.length)
    (hk : ∀ h', New h0 h' b (ints (l.set n x)) → Oth b h h' → K h') : StoreG h b (0 + mulSz n sz) (.int .i64 x) K := by
  rw [off1 hs]
  exact m.storeI ho hk

/-! Rows of numbers by their places -/
def tab (n : Nat) (f : Nat → Int) : List Int := (List.range n).map f
@[simp] theorem tab_length (n : Nat) (f : Nat → Int) : (tab n f).length = n := by simp [tab]
theorem tab_getD {n i : Nat} (f : Nat → Int) (h : i < n) : (tab n f).getD i 0 = f i := by simp [tab, List.getD, h]
theorem tab_congr {n : Nat} {f g : Nat → Int} (h : ∀ i, i < n → f i = g i) : tab n f = tab n g := by
  unfold tab
  exact List.map_congr_left fun i hi => h i (by simpa using hi)
theorem tab_set (n : Nat) (f : Nat → Int) (j : Nat) (x : Int) : (tab n f).set j x = tab n fun i => if i = j then x else f i := by
  apply List.ext_getElem
  · simp
  · intro i h1 h2
    simp only [tab, List.getElem_set, List.getElem_map, List.getElem_range]
    by_cases e : j = i
    · simp [e]
    · rw [if_neg e, if_neg (fun e' => e e'.symm)]
theorem tab_of (l : List Int) : l = tab l.length fun i => l.getD i 0 := by
  apply List.ext_getElem
  · simp
  · intro i h1 h2
    simp [tab, List.getD, h1]
theorem tab_succ (n : Nat) (f : Nat → Int) : tab (n + 1) f = tab n f ++ [f n] := by simp [tab, List.range_succ]
theorem tab_zero (f : Nat → Int) : tab 0 f = [] := rfl
theorem tab_replicate (n : Nat) (x : Int) : List.replicate n x = tab n fun _ => x := by
  apply List.ext_getElem
  · simp
  · intro i h1 h2
    simp [tab]

theorem zeros_eq (n : Nat) : List.replicate n (AV.int .i64 0) = ints (tab n fun _ => 0) := by rw [← tab_replicate, ← ints_replicate]

theorem New.made {h0 h : H} {b : Nat} {cs cs' : List AV} (k : Keeps h0 h) (hb : h b = none) (e : cs = cs') : New h0 (Ab.upd h b (.cells true 1 cs)) b cs' := e ▸ New.make k hb

theorem Ck.slice {l c : Int} {B : Nat} {P : Prop} (h0 : 0 ≤ l) (h1 : l ≤ c) (h2 : c ≤ 1000000000) (h3 : B ≤ 1000) (hp : P) : Ck (0 ≤ l ∧ l ≤ c ∧ c * (B : Int) ≤ 140737488355328 ∧ c ≤ 9223372036854775807) P :=
  Ck.mk ⟨h0, h1, by have := Int.mul_le_mul h2 (show (B : Int) ≤ 1000 by omega) (by omega) (by omega); omega, by omega⟩ hp

theorem NewG.zeros {h : H} {n : Nat} {z : AV} {K : Nat → H → Prop} (hz : z = .int .i64 0) (hk : ∀ b h', h b = none → New h h' b (ints (tab n fun _ => 0)) → K b h') : NewG h (.cells true 1 (List.replicate n z)) K := by
  subst hz
  exact ⟨fun b hb => hk b _ hb (New.made (Keeps.refl _) hb (zeros_eq n))⟩

end Go.Proofs.YtbicfognbbeigaaGreat.Ab

/-
  The library's twentieth text proves laws of rows of texts.
  It holds no condition of its own.
-/
set_option linter.unusedVariables false
set_option linter.unusedSimpArgs false
namespace Go.Proofs.YtbicfognbbeigaaGreat.Ab
open Go.RowKit

/-- texts as cells -/
def strs (l : List (List UInt8)) : List AV := l.map AV.str
@[simp] theorem strs_length (l : List (List UInt8)) : (strs l).length = l.length := List.length_map _
theorem strs_get (l : List (List UInt8)) (i : Nat) (h : i < l.length) : (strs l)[i]? = some (.str (l.getD i [])) := by
  unfold strs
  rw [List.getElem?_map, List.getElem?_eq_getElem h]
  simp [List.getD, h]
theorem strs_append (a b : List (List UInt8)) : strs (a ++ b) = strs a ++ strs b := List.map_append
theorem strs_set (l : List (List UInt8)) (i : Nat) (x : List UInt8) : (strs l).set i (.str x) = strs (l.set i x) := by
  unfold strs
  rw [List.map_set]
theorem strs_one (l : List (List UInt8)) : ∀ v ∈ strs l, v.one = true := by
  intro v hv
  unfold strs at hv
  obtain ⟨x, _, rfl⟩ := List.mem_map.1 hv
  rfl

theorem Has.loadS {h : H} {b : Nat} {l : List (List UInt8)} (m : Has h b (strs l)) {n sz : Nat} (hs : sz = 1) {K : AV → Prop} (ho : n < l.length) (hk : K (.str (l.getD n []))) : LoadG h b (0 + mulSz n sz) K := by
  rw [off1 hs]
  exact m.load (strs_get l n ho) hk
theorem New.loadS {h0 h : H} {b : Nat} {l : List (List UInt8)} (m : New h0 h b (strs l)) {n sz : Nat} (hs : sz = 1) {K : AV → Prop} (ho : n < l.length) (hk : K (.str (l.getD n []))) : LoadG h b (0 + mulSz n sz) K :=
  m.has.loadS hs ho hk
theorem Own.storeS {h : H} {b : Nat} {l : List (List UInt8)} (m : Own h b (strs l)) {n sz : Nat} (hs : sz = 1) {x : List UInt8} {K : H → Prop} (ho : n < l.length)
    (hk : ∀ h', Own h' b (strs (l.set n x)) → Oth b h h' → K h') : StoreG h b (0 + mulSz n sz) (.str x) K := by
  rw [off1 hs]
  exact .mk 1 _ m (by simpa using ho) rfl (hk _ (by rw [← strs_set]; exact upd_same _ _ _) fun y x hy e => by rw [upd_ne _ _ hy]; exact e)
theorem New.appS {h0 h : H} {b bytes m : Nat} {l r : List (List UInt8)} (n : New h0 h b (strs l)) {N C : Nat} {K : AV → H → Prop} (hN : N = l.length) (hb : l.length + m ≤ 1000000000) (hy : bytes ≤ 1000)
    (hk : ∀ b' h', New h0 h' b' (strs (l ++ r)) → Oth b h h' → K (.slice b' 0 (N + m) (N + m)) h') : AppG h (.slice b 0 N C) bytes (strs r) m K :=
  n.app (by simpa using hN) (by
    have e : (l.length + m) * bytes ≤ 1000000000 * 1000 := Nat.mul_le_mul hb hy
    rw [strs_length]
    omega) (strs_one r) fun b' h' hn => hk b' h' (by rw [strs_append]; exact hn)

theorem Wr.u8 {x : Int} {K : Int → Prop} (h : 0 ≤ x ∧ x ≤ 255) (hk : K x) : Wr .u8 x K := .fit (IntWalk.u8_in x h) hk
theorem Wr.u32 {x : Int} {K : Int → Prop} (h : 0 ≤ x ∧ x ≤ 4294967295) (hk : K x) : Wr .u32 x K := .fit (IntWalk.u32_in x h) hk
theorem Wr.u64 {x : Int} {K : Int → Prop} (h : 0 ≤ x ∧ x ≤ 18446744073709551615) (hk : K x) : Wr .u64 x K := .fit (IntWalk.u64_in x h) hk

theorem Has.loads {h : H} {b n : Nat} {cs : List AV} (m : Has h b cs) {K : List AV → Prop} (hn : n = cs.length) (hk : K cs) : LoadsG h b 0 n K := by
  subst hn
  obtain ⟨o, s, e⟩ := m
  exact .mk o s cs e (by omega) (by simpa using hk)
theorem New.loads {h0 h : H} {b n : Nat} {cs : List AV} (m : New h0 h b cs) {K : List AV → Prop} (hn : n = cs.length) (hk : K cs) : LoadsG h b 0 n K := m.has.loads hn hk

/-! one's own cells -/
theorem Own.load1 {h : H} {b : Nat} {v : AV} {K : AV → Prop} (m : Own h b [v]) (hk : K v) : LoadG h b 0 K := m.has.load rfl hk
theorem Own.store1 {h : H} {b : Nat} {v x : AV} {K : H → Prop} (m : Own h b [v]) (h1 : x.one = true) (hk : ∀ h', Own h' b [x] → Oth b h h' → K h') : StoreG h b 0 x K :=
  .mk 1 _ m (by simp) h1 (hk _ (upd_same _ _ _) fun y x hy e => by rw [upd_ne _ _ hy]; exact e)
theorem Own.app {h : H} {b m bytes : Nat} {cs news : List AV} (n : Own h b cs) {N C : Nat} {K : AV → H → Prop} (hN : N = cs.length) (hb : (cs.length + m) * bytes ≤ 140737488355328) (h1 : ∀ v ∈ news, v.one = true)
    (hk : ∀ b' h', Own h' b' (cs ++ news) → h b' = none → Oth b h h' → K (.slice b' 0 (N + m) (N + m)) h') : AppG h (.slice b 0 N C) bytes news m K := by
  subst hN
  refine .grow b _ C cs rfl n (Nat.le_refl _) hb h1 fun b' hb' => ?_
  rw [List.take_length]
  refine hk b' _ (upd_same _ _ _) hb' fun y x hy e => ?_
  rw [upd_ne _ _ (fun e' => by subst e'; rw [e] at hb'; cases hb'), kill_ne _ hy]
  exact e
theorem Own.appS {h : H} {b bytes m : Nat} {l r : List (List UInt8)} (n : Own h b (strs l)) {N C : Nat} {K : AV → H → Prop} (hN : N = l.length) (hb : l.length + m ≤ 1000000000) (hy : bytes ≤ 1000)
    (hk : ∀ b' h', Own h' b' (strs (l ++ r)) → h b' = none → Oth b h h' → K (.slice b' 0 (N + m) (N + m)) h') : AppG h (.slice b 0 N C) bytes (strs r) m K :=
  n.app (by simpa using hN) (by
    have e : (l.length + m) * bytes ≤ 1000000000 * 1000 := Nat.mul_le_mul hb hy
    rw [strs_length]
    omega) (strs_one r) fun b' h' hn => hk b' h' (by rw [strs_append]; exact hn)
theorem Own.ne {h : H} {b y : Nat} {cs : List AV} (n : Own h b cs) (m : h y = none) : b ≠ y := by
  rintro rfl
  rw [n] at m
  cases m
theorem Keeps.oth {h0 h h' : H} {b : Nat} (k : Keeps h0 h) (hb : h0 b = Option.none) (o : Oth b h h') : Keeps h0 h' :=
  fun y x e => o y x (fun e' => by subst e'; rw [hb] at e; cases e) (k y x e)

end Go.Proofs.YtbicfognbbeigaaGreat.Ab

/-
  The library's twenty-first text proves laws of all blocks of one's own at once.
  It holds no condition of its own.
-/
set_option linter.unusedVariables false
set_option linter.unusedSimpArgs false
namespace Go.Proofs.YtbicfognbbeigaaGreat.Ab
open Go.RowKit

/-- a row of cells of one's own -/
abbrev row (cs : List AV) : Blk := .cells true 1 cs

/-- blocks that were made since, as they are now; what was there before is as it was -/
structure St (h0 h : H) (L : List (Nat × Blk)) : Prop where
  keeps : Keeps h0 h
  is : ∀ p ∈ L, h p.1 = some p.2
  new : ∀ p ∈ L, h0 p.1 = none
  nodup : (L.map Prod.fst).Nodup

section
variable {h0 h h' : H} {L A B : List (Nat × Blk)} {b b' i : Nat} {x x' : Blk}

theorem St.refl (h : H) : St h h [] := ⟨Keeps.refl h, fun p hp => (nomatch hp), fun p hp => (nomatch hp), List.nodup_nil⟩

theorem St.apart (s : St h0 h L) (hb : h b = none) : ∀ p ∈ L, p.1 ≠ b := fun p hp e => by
  have := s.is p hp
  rw [e, hb] at this
  cases this

theorem St.put (s : St h0 h L) (hb : h b = none) (x : Blk) : St h0 (upd h b x) ((b, x) :: L) := by
  refine ⟨s.keeps.upd hb x, fun p hp => ?_, fun p hp => ?_, ?_⟩
  · cases hp with
    | head => exact upd_same _ _ _
    | tail _ hp => rw [upd_ne _ _ (s.apart hb p hp)]; exact s.is p hp
  · cases hp with
    | head => exact s.keeps.none hb
    | tail _ hp => exact s.new p hp
  · rw [List.map_cons, List.nodup_cons]
    refine ⟨fun hm => ?_, s.nodup⟩
    obtain ⟨p, hp, e⟩ := List.mem_map.1 hm
    exact s.apart hb p hp e

theorem St.mid (s : St h0 h (A ++ (b, x) :: B)) : (∀ p ∈ A, p.1 ≠ b) ∧ ∀ p ∈ B, p.1 ≠ b := by
  have n := s.nodup
  rw [List.map_append, List.map_cons, List.nodup_append, List.nodup_cons] at n
  exact ⟨fun p hp => n.2.2 _ (List.mem_map.2 ⟨p, hp, rfl⟩) _ (.head _), fun p hp e => n.2.1.1 (e ▸ List.mem_map.2 ⟨p, hp, rfl⟩)⟩

theorem St.swap (s : St h0 h (A ++ (b, x) :: B)) (e1 : h' b' = some x') (e2 : ∀ y z, y ≠ b → h y = some z → h' y = some z) (e3 : h0 b' = none)
    (e4 : (∀ p ∈ A, p.1 ≠ b') ∧ ∀ p ∈ B, p.1 ≠ b') : St h0 h' (A ++ (b', x') :: B) := by
  have m := s.mid
  have nb : h0 b = none := s.new (b, x) (List.mem_append_right _ (.head _))
  refine ⟨fun y z e => e2 y z (fun e' => by subst e'; rw [nb] at e; cases e) (s.keeps y z e), fun p hp => ?_, fun p hp => ?_, ?_⟩
  · rcases List.mem_append.1 hp with hp | hp
    · exact e2 _ _ (m.1 p hp) (s.is p (List.mem_append_left _ hp))
    · cases hp with
      | head => exact e1
      | tail _ hp => exact e2 _ _ (m.2 p hp) (s.is p (List.mem_append_right _ (.tail _ hp)))
  · rcases List.mem_append.1 hp with hp | hp
    · exact s.new p (List.mem_append_left _ hp)
    · cases hp with
      | head => exact e3
      | tail _ hp => exact s.new p (List.mem_append_right _ (.tail _ hp))
  · have n := s.nodup
    rw [List.map_append, List.map_cons, List.nodup_append, List.nodup_cons] at n ⊢
    refine ⟨n.1, ⟨fun hm => ?_, n.2.1.2⟩, fun y hy z hz => ?_⟩
    · obtain ⟨p, hp, e⟩ := List.mem_map.1 hm
      exact e4.2 p hp e
    · cases hz with
      | head =>
        obtain ⟨p, hp, e⟩ := List.mem_map.1 hy
        subst e
        exact e4.1 p hp
      | tail _ hz => exact n.2.2 y hy z (.tail _ hz)

theorem St.set (s : St h0 h (A ++ (b, x) :: B)) (x' : Blk) : St h0 (upd h b x') (A ++ (b, x') :: B) :=
  s.swap (upd_same _ _ _) (fun y z hy e => by rw [upd_ne _ _ hy]; exact e) (s.new (b, x) (List.mem_append_right _ (.head _))) s.mid

theorem St.move (s : St h0 h (A ++ (b, x) :: B)) (hb' : h b' = none) (x' : Blk) : St h0 (upd (kill h b) b' x') (A ++ (b', x') :: B) :=
  s.swap (upd_same _ _ _) (fun y z hy e => by rw [upd_ne _ _ (fun e' => by subst e'; rw [e] at hb'; cases hb'), kill_ne _ hy]; exact e) (s.keeps.none hb')
    ⟨fun p hp => s.apart hb' p (List.mem_append_left _ hp), fun p hp => s.apart hb' p (List.mem_append_right _ (.tail _ hp))⟩

theorem St.keep (s : St h0 h L) (k : Keeps h h') : St h0 h' L := ⟨s.keeps.trans k, fun p hp => k _ _ (s.is p hp), s.new, s.nodup⟩

/-- a callee's blocks beside one's own -/
theorem St.call {M : List (Nat × Blk)} (s : St h0 h L) (t : St h h' M) : St h0 h' (M ++ L) := by
  refine ⟨s.keeps.trans t.keeps, fun p hp => ?_, fun p hp => ?_, ?_⟩
  · rcases List.mem_append.1 hp with hp | hp
    · exact t.is p hp
    · exact t.keeps _ _ (s.is p hp)
  · rcases List.mem_append.1 hp with hp | hp
    · exact s.keeps.none (t.new p hp)
    · exact s.new p hp
  · rw [List.map_append, List.nodup_append]
    refine ⟨t.nodup, s.nodup, fun y hy z hz e => ?_⟩
    obtain ⟨p, hp, e1⟩ := List.mem_map.1 hy
    obtain ⟨q, hq, e2⟩ := List.mem_map.1 hz
    have h1 := t.new p hp
    have h2 := s.is q hq
    rw [e1, e, ← e2, h2] at h1
    cases h1

theorem St.perm {L' : List (Nat × Blk)} (s : St h0 h L) (p : L.Perm L') : St h0 h L' :=
  ⟨s.keeps, fun q hq => s.is q (p.mem_iff.2 hq), fun q hq => s.new q (p.mem_iff.2 hq), (p.map _).nodup_iff.1 s.nodup⟩

theorem St.sub {L' : List (Nat × Blk)} (s : St h0 h L) (p : L'.Sublist L) : St h0 h L' :=
  ⟨s.keeps, fun q hq => s.is q (p.subset hq), fun q hq => s.new q (p.subset hq), (p.map _).nodup s.nodup⟩

theorem St.tail {p : Nat × Blk} (s : St h0 h (p :: L)) : St h0 h L := s.sub (List.sublist_cons_self _ _)

/-- the outer view: what was there before is older still -/
theorem St.older {h1 : H} (k : Keeps h1 h0) (s : St h0 h L) : St h1 h L := ⟨k.trans s.keeps, s.is, fun p hp => k.none (s.new p hp), s.nodup⟩

theorem New.st {cs : List AV} (n : New h0 h b cs) : St h0 h [(b, row cs)] :=
  ⟨n.keeps, fun p hp => by cases List.mem_singleton.1 hp; exact n.cells, fun p hp => by cases List.mem_singleton.1 hp; exact n.new, by simp⟩
theorem St.toNew {cs : List AV} (s : St h0 h ((b, row cs) :: L)) : New h0 h b cs := ⟨s.is _ (.head _), s.new _ (.head _), s.keeps⟩
theorem St.newCall {cs : List AV} {h' : H} (s : St h0 h L) (n : New h h' b cs) : St h0 h' ((b, row cs) :: L) := s.call n.st

/-! by places -/
inductive Spot {α : Type} : List α → α → α → List α → Prop where
  | here {a q : α} {l : List α} : Spot (a :: l) a q (q :: l)
  | there {a q z : α} {l l' : List α} (s : Spot l a q l') : Spot (z :: l) a q (z :: l')

theorem Spot.split {α : Type} {L L' : List α} {p q : α} (s : Spot L p q L') : ∃ A B, L = A ++ p :: B ∧ L' = A ++ q :: B := by
  induction s with
  | here => exact ⟨[], _, rfl, rfl⟩
  | there s ih =>
    obtain ⟨A, B, e1, e2⟩ := ih
    exact ⟨_ :: A, B, by rw [e1]; rfl, by rw [e2]; rfl⟩

theorem St.setAt {L' : List (Nat × Blk)} (s : St h0 h L) (sp : Spot L (b, x) (b, x') L') : St h0 (upd h b x') L' := by
  obtain ⟨A, B, rfl, rfl⟩ := sp.split
  exact s.set x'
theorem St.moveAt {L' : List (Nat × Blk)} (s : St h0 h L) (sp : Spot L (b, x) (b', x') L') (hb' : h b' = none) : St h0 (upd (kill h b) b' x') L' := by
  obtain ⟨A, B, rfl, rfl⟩ := sp.split
  exact s.move hb' x'
theorem Spot.mem {α : Type} {L L' : List α} {p q : α} (s : Spot L p q L') : p ∈ L := by
  obtain ⟨A, B, rfl, rfl⟩ := s.split
  exact List.mem_append_right _ (.head _)

theorem St.has {o : Bool} {sz : Nat} {cs : List AV} (s : St h0 h L) (hi : (b, .cells o sz cs) ∈ L) : Has h b cs := ⟨o, sz, s.is _ hi⟩
theorem St.arg {cs : List AV} (s : St h0 h L) (m : Has h0 b cs) : Has h b cs := m.keep s.keeps
theorem St.own {cs : List AV} (s : St h0 h L) (hi : (b, row cs) ∈ L) : Own h b cs := s.is _ hi
theorem St.ownSet {cs cs' : List AV} {L' : List (Nat × Blk)} (s : St h0 h L) (o : Own h' b cs') (k : Oth b h h') (sp : Spot L (b, row cs) (b, row cs') L') : St h0 h' L' := by
  obtain ⟨A, B, rfl, rfl⟩ := sp.split
  exact s.swap o k (s.new (b, row cs) (List.mem_append_right _ (.head _))) s.mid

/-! rows of truths -/
def bools (l : List Bool) : List AV := l.map AV.bool
@[simp] theorem bools_length (l : List Bool) : (bools l).length = l.length := List.length_map _
theorem bools_get (l : List Bool) (i : Nat) (h : i < l.length) : (bools l)[i]? = some (.bool (l.getD i false)) := by
  unfold bools
  rw [List.getElem?_map, List.getElem?_eq_getElem h]
  simp [List.getD, h]
theorem bools_set (l : List Bool) (i : Nat) (x : Bool) : (bools l).set i (.bool x) = bools (l.set i x) := by
  unfold bools
  rw [List.map_set]
theorem bools_replicate (n : Nat) : List.replicate n (AV.bool false) = bools (List.replicate n false) := by
  unfold bools
  rw [List.map_replicate]
theorem Has.loadB {l : List Bool} (m : Has h b (bools l)) {n sz : Nat} (hs : sz = 1) {K : AV → Prop} (ho : n < l.length) (hk : K (.bool (l.getD n false))) : LoadG h b (0 + mulSz n sz) K := by
  rw [off1 hs]
  exact m.load (bools_get l n ho) hk
theorem Has.load1 {v : AV} {K : AV → Prop} (m : Has h b [v]) (hk : K v) : LoadG h b 0 K := m.load rfl hk

/-! the checks, met -/
theorem NewG.st {K : Nat → H → Prop} (s : St h0 h L) (hk : ∀ b h', St h0 h' ((b, x) :: L) → K b h') : NewG h x K :=
  ⟨fun b hb => hk b _ (s.put hb x)⟩
theorem NewG.stZ {K : Nat → H → Prop} {n : Nat} {z : AV} (s : St h0 h L) (hz : z = .int .i64 0) (hk : ∀ b h', St h0 h' ((b, row (ints (List.replicate n 0))) :: L) → K b h') : NewG h (.cells true 1 (List.replicate n z)) K := by
  subst hz
  rw [ints_replicate]
  exact .st s hk
theorem NewG.stB {K : Nat → H → Prop} {n : Nat} {z : AV} (s : St h0 h L) (hz : z = .bool false) (hk : ∀ b h', St h0 h' ((b, row (bools (List.replicate n false))) :: L) → K b h') : NewG h (.cells true 1 (List.replicate n z)) K := by
  subst hz
  rw [bools_replicate]
  exact .st s hk
theorem NewG.stS {K : Nat → H → Prop} {n : Nat} {z : AV} (s : St h0 h L) (hz : z = .str []) (hk : ∀ b h', St h0 h' ((b, row (strs (List.replicate n []))) :: L) → K b h') : NewG h (.cells true 1 (List.replicate n z)) K := by
  subst hz
  have e : List.replicate n (AV.str []) = strs (List.replicate n []) := by unfold strs; rw [List.map_replicate]
  rw [e]
  exact .st s hk

theorem StoreG.st {K : H → Prop} {sz o : Nat} {cs : List AV} {v : AV} {L' : List (Nat × Blk)} (s : St h0 h L) (sp : Spot L (b, .cells true sz cs) (b, .cells true sz (cs.set o v)) L') (ho : o < cs.length) (h1 : v.one = true)
    (hk : ∀ h', St h0 h' L' → K h') : StoreG h b o v K :=
  .mk sz cs (s.is _ sp.mem) ho h1 (hk _ (s.setAt sp))
theorem StoreG.stZ {K : H → Prop} {n sz : Nat} {l : List (Int)} {y : Int} {L' : List (Nat × Blk)} (s : St h0 h L) (sp : Spot L (b, row (ints l)) (b, row (ints (l.set n y))) L') (hs : sz = 1) (ho : n < l.length)
    (hk : ∀ h', St h0 h' L' → K h') : StoreG h b (0 + mulSz n sz) (.int .i64 y) K := by
  rw [off1 hs]
  exact .st s (by rw [ints_set]; exact sp) (by simpa using ho) rfl hk
theorem StoreG.stB {K : H → Prop} {n sz : Nat} {l : List (Bool)} {y : Bool} {L' : List (Nat × Blk)} (s : St h0 h L) (sp : Spot L (b, row (bools l)) (b, row (bools (l.set n y))) L') (hs : sz = 1) (ho : n < l.length)
    (hk : ∀ h', St h0 h' L' → K h') : StoreG h b (0 + mulSz n sz) (.bool y) K := by
  rw [off1 hs]
  exact .st s (by rw [bools_set]; exact sp) (by simpa using ho) rfl hk
theorem StoreG.stS {K : H → Prop} {n sz : Nat} {l : List (List UInt8)} {y : List UInt8} {L' : List (Nat × Blk)} (s : St h0 h L) (sp : Spot L (b, row (strs l)) (b, row (strs (l.set n y))) L') (hs : sz = 1) (ho : n < l.length)
    (hk : ∀ h', St h0 h' L' → K h') : StoreG h b (0 + mulSz n sz) (.str y) K := by
  rw [off1 hs]
  exact .st s (by rw [strs_set]; exact sp) (by simpa using ho) rfl hk
/-- a variable that is shared -/
theorem StoreG.st1 {K : H → Prop} {sz : Nat} {u v : AV} {L' : List (Nat × Blk)} (s : St h0 h L) (sp : Spot L (b, .cells true sz [u]) (b, .cells true sz [v]) L') (h1 : v.one = true)
    (hk : ∀ h', St h0 h' L' → K h') : StoreG h b 0 v K :=
  .st s sp (by simp) h1 hk

theorem AppG.st {K : AV → H → Prop} {m bytes N C : Nat} {cs news : List AV} {L' : Nat → List (Nat × Blk)} (s : St h0 h L) (sp : ∀ b', Spot L (b, row cs) (b', row (cs ++ news)) (L' b')) (hN : N = cs.length) (hb : (cs.length + m) * bytes ≤ 140737488355328) (h1 : ∀ v ∈ news, v.one = true)
    (hk : ∀ b' h', St h0 h' (L' b') → K (.slice b' 0 (N + m) (N + m)) h') : AppG h (.slice b 0 N C) bytes news m K := by
  subst hN
  refine .grow b _ C cs rfl (s.is _ (sp 0).mem) (Nat.le_refl _) hb h1 fun b' hb' => ?_
  rw [List.take_length]
  exact hk b' _ (s.moveAt (sp b') hb')
theorem AppG.stZ {K : AV → H → Prop} {bytes N C : Nat} {l : List (Int)} {y : Int} {L' : Nat → List (Nat × Blk)} (s : St h0 h L) (sp : ∀ b', Spot L (b, row (ints l)) (b', row (ints (l ++ [y]))) (L' b')) (hN : N = l.length) (hb : l.length + 1 ≤ 1000000000) (hy : bytes ≤ 1000)
    (hk : ∀ b' h', St h0 h' (L' b') → K (.slice b' 0 (N + 1) (N + 1)) h') : AppG h (.slice b 0 N C) bytes [.int .i64 y] 1 K :=
  .st s (fun b' => (by have := sp b'; rw [ints_append] at this; exact this)) (by simpa using hN) (by
    have e : (l.length + 1) * bytes ≤ 1000000000 * 1000 := Nat.mul_le_mul hb hy
    rw [ints_length]
    omega) (by intro v hv; obtain ⟨z, _, rfl⟩ := List.mem_map.1 (show v ∈ ints [y] from hv); rfl) hk
theorem AppG.stZs {K : AV → H → Prop} {bytes N C : Nat} {l r : List (Int)} {m : Nat} {L' : Nat → List (Nat × Blk)} (s : St h0 h L) (sp : ∀ b', Spot L (b, row (ints l)) (b', row (ints (l ++ r))) (L' b')) (hN : N = l.length) (hb : l.length + m ≤ 1000000000) (hy : bytes ≤ 1000)
    (hk : ∀ b' h', St h0 h' (L' b') → K (.slice b' 0 (N + m) (N + m)) h') : AppG h (.slice b 0 N C) bytes (ints r) m K :=
  .st s (fun b' => (by have := sp b'; rw [ints_append] at this; exact this)) (by simpa using hN) (by
    have e : (l.length + m) * bytes ≤ 1000000000 * 1000 := Nat.mul_le_mul hb hy
    rw [ints_length]
    omega) (by intro v hv; obtain ⟨z, _, rfl⟩ := List.mem_map.1 (show v ∈ ints r from hv); rfl) hk
theorem AppG.stS {K : AV → H → Prop} {bytes N C : Nat} {l : List (List UInt8)} {y : List UInt8} {L' : Nat → List (Nat × Blk)} (s : St h0 h L) (sp : ∀ b', Spot L (b, row (strs l)) (b', row (strs (l ++ [y]))) (L' b')) (hN : N = l.length) (hb : l.length + 1 ≤ 1000000000) (hy : bytes ≤ 1000)
    (hk : ∀ b' h', St h0 h' (L' b') → K (.slice b' 0 (N + 1) (N + 1)) h') : AppG h (.slice b 0 N C) bytes [.str y] 1 K :=
  .st s (fun b' => (by have := sp b'; rw [strs_append] at this; exact this)) (by simpa using hN) (by
    have e : (l.length + 1) * bytes ≤ 1000000000 * 1000 := Nat.mul_le_mul hb hy
    rw [strs_length]
    omega) (by intro v hv; obtain ⟨z, _, rfl⟩ := List.mem_map.1 (show v ∈ strs [y] from hv); rfl) hk
theorem AppG.stSs {K : AV → H → Prop} {bytes N C : Nat} {l r : List (List UInt8)} {m : Nat} {L' : Nat → List (Nat × Blk)} (s : St h0 h L) (sp : ∀ b', Spot L (b, row (strs l)) (b', row (strs (l ++ r))) (L' b')) (hN : N = l.length) (hb : l.length + m ≤ 1000000000) (hy : bytes ≤ 1000)
    (hk : ∀ b' h', St h0 h' (L' b') → K (.slice b' 0 (N + m) (N + m)) h') : AppG h (.slice b 0 N C) bytes (strs r) m K :=
  .st s (fun b' => (by have := sp b'; rw [strs_append] at this; exact this)) (by simpa using hN) (by
    have e : (l.length + m) * bytes ≤ 1000000000 * 1000 := Nat.mul_le_mul hb hy
    rw [strs_length]
    omega) (by intro v hv; obtain ⟨z, _, rfl⟩ := List.mem_map.1 (show v ∈ strs r from hv); rfl) hk
/-- one made row is read whole -/
theorem LoadsG.has {cs : List AV} {n : Nat} {K : List AV → Prop} (m : Has h b cs) (hn : n = cs.length) (hk : K cs) : LoadsG h b 0 n K := m.loads hn hk

end

end Go.Proofs.YtbicfognbbeigaaGreat.Ab
