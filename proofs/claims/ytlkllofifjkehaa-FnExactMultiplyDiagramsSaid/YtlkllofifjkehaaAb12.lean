/-
  The library's twelfth text proves what append does, and closes the laws on operations that write.
  It holds no condition of its own.
-/
import Derived.Test.YtlkllofifjkehaaAb11
set_option linter.unusedVariables false
set_option linter.unusedSimpArgs false
namespace Go.Proofs.Ytlkllofifjkehaa.Ab
open Go.RowKit

section
variable {E : Env} {P : Program} {T : TT} {base : Nat} {W0 : World} {β : Bt} {nxt : Nat} {h : H} {w : World} {fr : Fr} {a : Act}

/-- what is appended -/
def Src (w : World) (vx : Value) (m : Nat) (news : List Value) : Prop :=
  news.length = m ∧ ((∃ ad c, vx = .slice (some ad) m c ∧ ∀ j v, news[j]? = some v → w.cell? (ad.add j) = some v) ∨ (vx = .slice none 0 0 ∧ m = 0))

theorem app_nil0 {t ty e : TypeId} {i : TypeInfo} {vx : Value} {news : List Value} (ht : P.underlying t = some (.slice e)) (hi : P.info? e = some i) (hs : Src w vx 0 news) :
    (Builtin.append_ #[t, t] ty #[.slice none 0 0, vx]).run P w = .ok (.slice none 0 0) w := by
  obtain ⟨hl, ⟨ad, c, rfl, hn⟩ | ⟨rfl, _⟩⟩ := hs
  · simp [Builtin.append_, run_underlying ht, sizeOf, typeInfo, hi, Builtin.lenOf, Builtin.firstCells, loadCells, loadCellsFrom]
  · simp [Builtin.append_, run_underlying ht, sizeOf, typeInfo, hi, Builtin.lenOf, Builtin.firstCells]

theorem app_in {t ty e : TypeId} {i : TypeInfo} {b off n cap m : Nat} {vx : Value} {news : List Value} (ht : P.underlying t = some (.slice e)) (hi : P.info? e = some i) (hsz : i.size = 1) (hs : Src w vx m news)
    (hroom : n + m ≤ cap) (h1 : ∀ u ∈ news, u.oneCell' = true) (hc : ∀ j, j < m → (w.cell? ⟨b, off + n + j, none⟩).isSome = true ∧ w.frozen? ⟨b, off + n + j, none⟩ = false) :
    (Builtin.append_ #[t, t] ty #[.slice (some ⟨b, off, none⟩) n cap, vx]).run P w = .ok (.slice (some ⟨b, off, none⟩) (n + m) cap) (w.setCells b (off + n) news) := by
  obtain ⟨hl, ⟨ad, c, rfl, hn⟩ | ⟨rfl, rfl⟩⟩ := hs
  · have := run_append_room_cells (P := P) w t ty e i ht hi b off n cap ad m c news (by rw [hsz]; omega) hn h1 hroom (fun j hj => by rw [hsz, Nat.mul_one]; exact (hc j (by omega)).1)
      (fun j hj => by rw [hsz, Nat.mul_one]; exact (hc j (by omega)).2)
    rw [hsz, Nat.mul_one] at this
    exact this
  · have hnil : news = [] := List.eq_nil_of_length_eq_zero hl
    subst hnil
    have hr : n ≤ cap := by omega
    simp [Builtin.append_, run_underlying ht, sizeOf, typeInfo, hi, Builtin.lenOf, Builtin.firstCells, hr, storeCells, World.setCells]

theorem Sim.src (s : Sim base W0 β nxt h w) {b o m c : Nat} {own : Bool} {sz : Nat} {cs : List AV} {vx : Value} (hx : RV β (.slice b o m c) vx) (hb : h b = some (.cells own sz cs)) (hn : o + m ≤ cs.length) :
    ∃ news, RVs β ((cs.drop o).take m) news ∧ Src w vx m news := by
  cases hx with
  | @slice _ _ _ _ p cap co hp hc hn' ho ht =>
  obtain ⟨vs, h1, h2, h3⟩ := s.cells hb hp hn
  refine ⟨vs, h2, h1, .inl ⟨_, _, rfl, fun j v hj => ?_⟩⟩
  have hj' : j < vs.length := (List.getElem?_eq_some_iff.1 hj).1
  have hco : co = p.off + o := by omega
  subst hco
  rw [Addr.add_lit]
  exact h3 j v hj

theorem rvs_one {cs : List AV} {vs : List Value} (r : RVs β cs vs) (h1 : ∀ v ∈ cs, v.one = true) : ∀ v ∈ vs, v.oneCell' = true := by
  intro v hv
  obtain ⟨i, hi⟩ := List.getElem?_of_mem hv
  have hlt : i < cs.length := by have := (List.getElem?_eq_some_iff.1 hi).1; have := r.1; omega
  exact (r.2 i cs[i] v (by simp [hlt]) hi).oneCell (h1 _ (List.getElem_mem hlt))

/-- an own block goes on in place under a new number -/
theorem Sim.appIn (s : Sim base W0 β nxt h w) {b n : Nat} {cs news : List AV} {cnews : List Value} {p : Pos} (hb : h b = some (.cells true 1 cs)) (hp : β b = some p) (hn : n ≤ cs.length) (ht : n + news.length ≤ p.tot) (r : RVs β news cnews) :
    Sim base W0 (bput β nxt p) (nxt + 1) (upd (Ab.kill h b) nxt (.cells true 1 (cs.take n ++ news))) (w.setCells p.blk n cnews) := by
  obtain ⟨arr, e, frz, h1, h2, h3, h4, h5, h6, h7, h8⟩ := s.ownBlock hb hp
  have hl := r.1
  obtain ⟨arr', g1, g2, g3, g4, g5⟩ := setCells_facts p.blk e frz base W0 h5 cnews n w arr h1 (by omega) s.below
  have hsz : arr'.size = arr.size := by
    have := congrArg List.length g2
    simp at this
    omega
  refine s.reput hb rfl hp g5 (by omega) (fun k _ hk => g4 k hk) rfl ⟨arr', e, frz, g1, h2, by simp; omega, ?_, fun _ => ⟨h5, h6, by omega, fun i hi => h8 i (by omega)⟩, fun hh => by cases hh⟩
  have he : Ext β (bput β nxt p) := Ext.put (s.fresh nxt (Nat.le_refl _))
  have key := (((h4.take n).append r)).mono he
  have e2 : (arr'.toList.drop p.off).take (cs.take n ++ news).length = (arr.toList.take cs.length).take n ++ cnews := by
    rw [h6, List.drop_zero, g2]
    simp only [List.length_append, List.length_take]
    rw [List.take_take, show min n cs.length = n by omega, List.append_assoc, List.take_append]
    simp only [List.length_take, Array.length_toList]
    rw [show min n arr.size = n by omega, show n + news.length - n = news.length by omega, List.take_take, show min (n + news.length) n = n by omega, List.take_append, hl]
    simp
  rw [e2]
  exact key

theorem appG_sound {t e : TypeId} {d j : TI} {ty : TypeId} {s0 : AV} {vs vx : Value} {news : List AV} {cnews : List Value} {m : Nat} {K : AV → H → Prop} {o : Oper} (tok : TOk P T) (ht : tget T t = some d) (hd : d.desc = .slice e) (he : tget T e = some j) (hsz : j.size = 1) (hby : 1 ≤ j.bytes)
    (s : Sim base W0 β nxt h w) (hs : RV β s0 vs) (hnews : RVs β news cnews) (hsrc : Src w vx m cnews)
    (hrun : ∀ cv w', (Builtin.append_ #[t, t] ty #[vs, vx]).run P w = .ok cv w' → (execOp a.eval o).run P w = .ok (.value cv) w') (hk : AppG h s0 j.bytes news m K) : Lands P base W0 β nxt o a w K := by
  have hu := tok.under ht
  rw [hd] at hu
  obtain ⟨q, hq, hqs, hqb, hqz⟩ := tok.infos he
  have hq1 : q.size = 1 := by omega
  have hm : cnews.length = m := hsrc.1
  have hm' : news.length = m := by have := hnews.1; omega
  have hzc : j.zero.cells.size = 1 := by have := (tok e j he).cells; omega
  cases hk with
  | nil hs0 h0 hb hk =>
    subst hs0
    cases hs
    obtain ⟨_, ⟨ad, c, rfl, hn⟩ | ⟨rfl, h00⟩⟩ := hsrc
    · have hbig : m * q.bytes ≤ 281474976710656 := by rw [hqb]; omega
      have hms : (m : Int) ≤ 9223372036854775807 := by
        have : m * 1 ≤ m * j.bytes := Nat.mul_le_mul_left _ hby
        omega
      have hr := run_append_nil (P := P) w t ty e q j.zero hu hq hqz ad m c cnews (by rw [hq1]; omega) hn h0 hms hbig
      refine .new (w1 := w.drew) (f := fun b => .slice b 0 m m) (cs := news) (sz := 1) s.drew ?_ ?_ (hrun _ _ hr) ?_ ⟨fun b hb => hk b hb⟩
      · have : ((cnews.toArray ++ Builtin.zeroCells j.zero.cells (grownCap w m 0 e - m)).toList.take news.length) = cnews := by
          simp [hm', ← hm]
        rw [this]
        exact hnews
      · simp
        omega
      · refine .slice (bput_at _ _) ?_ (Nat.le_refl _) (.inr rfl) fun _ => ?_
        · exact grownCap_ge w m 0 e
        · have := grownCap_ge w m 0 e
          simp [Builtin.zeroCells, hzc, hm]
          omega
    · omega
  | nil0 hs0 h0 hk =>
    subst hs0 h0
    cases hs
    exact .value (hrun _ _ (app_nil0 hu hq hsrc)) (Ext.refl β) (Nat.le_refl _) .nilslice s hk
  | none b n c hs0 h0 hk =>
    subst hs0 h0
    cases hs with
    | @slice _ _ _ _ p cap co hp hc hn ho htt =>
    have hnil : cnews = [] := List.eq_nil_of_length_eq_zero hm
    subst hnil
    have hr := app_in (P := P) (w := w) (ty := ty) (b := p.blk) (off := co) (n := n) (cap := cap) hu hq hq1 hsrc (by omega) (by simp) (by intro j hj; omega)
    exact .value (hrun _ _ hr) (Ext.refl β) (Nat.le_refl _) (.slice hp hc hn ho htt) s hk
  | grow b n c cs hs0 hb hn hbytes h1 hk =>
    subst hs0
    have hs' := hs
    cases hs with
    | @slice _ _ _ _ p cap co hp hc hnc ho htt =>
    obtain ⟨arr, e1, frz, b1, b2, b3, b4, b5, b6, b7, b8⟩ := s.ownBlock hb hp
    have htot := htt rfl
    rw [b2, Nat.mul_one] at htot
    by_cases hroom : n + m ≤ cap
    · by_cases hco : co = 0
      · subst hco
        have hw := s.mayWrite hb hp
        have hr := app_in (P := P) (w := w) (ty := ty) (b := p.blk) (off := 0) (n := n) (cap := cap) hu hq hq1 hsrc hroom (rvs_one hnews h1) (fun j hj => hw (0 + n + j) (by omega))
        rw [Nat.zero_add] at hr
        have hS := s.appIn (n := n) hb hp hn (by omega) hnews
        refine .value (hrun _ _ hr) (Ext.put (s.fresh nxt (Nat.le_refl _))) (Nat.le_succ _) (.slice (bput_at _ _) hroom (Nat.le_refl _) ?_ fun _ => ?_) hS (hk nxt s.freshNone)
        · rcases ho with h0 | h0
          · exact .inl h0
          · exact .inr (by omega)
        · rw [b2]
          omega
      · have hcap : cap = 0 := by omega
        have hm0 : m = 0 := by omega
        have hn0 : n = 0 := by omega
        subst hm0 hn0 hcap
        have hnil : cnews = [] := List.eq_nil_of_length_eq_zero hm
        subst hnil
        have hr := app_in (P := P) (w := w) (ty := ty) (b := p.blk) (off := co) (n := 0) (cap := 0) hu hq hq1 hsrc (by omega) (by simp) (by intro j hj; omega)
        have hS := s.appIn (n := 0) hb hp hn (by omega) hnews
        exact .value (hrun _ _ hr) (Ext.put (s.fresh nxt (Nat.le_refl _))) (Nat.le_succ _) (.slice (bput_at _ _) (by omega) (Nat.le_refl _) (.inl rfl) fun _ => by rw [b2]; omega) hS (hk nxt s.freshNone)
    · obtain ⟨_, ⟨ad, cc, rfl, hsn⟩ | ⟨rfl, h00⟩⟩ := hsrc
      · obtain ⟨olds, o1, o2, o3⟩ := s.cells (o := 0) (n := n) hb hp (by omega)
        have hco : n ≠ 0 → co = p.off := by intro; omega
        have hfit : Builtin.nextslicecap (n + m) cap * q.bytes ≤ 281474976710656 := growslice_fits (by omega) (by rw [hqb]; exact hbytes)
        have hms : ((n + m : Nat) : Int) ≤ 9223372036854775807 := by
          have : (n + m) * 1 ≤ (n + m) * j.bytes := Nat.mul_le_mul_left _ hby
          omega
        have hr := run_append_grow (P := P) w t ty e q j.zero hu hq hqz ⟨p.blk, co, none⟩ n cap olds (by rw [hq1]; omega)
          (fun j v hj => by
            have hjl : j < olds.length := (List.getElem?_eq_some_iff.1 hj).1
            have := o3 j v hj
            rw [Addr.add_lit, hco (by omega)]
            simpa using this) ad m cc cnews (by rw [hq1]; omega) hsn (by omega) hms hfit
        simp only [List.drop_zero] at o2
        have hge := grownCap_ge w (n + m) cap e
        refine .value (hrun _ _ hr) (Ext.put (s.fresh nxt (Nat.le_refl _))) (Nat.le_succ _) (β' := bput β nxt ⟨w.heap.size, 0, 1, (olds.toArray ++ cnews.toArray ++ Builtin.zeroCells j.zero.cells (grownCap w (n + m) cap e - (n + m))).size⟩) (.slice (bput_at _ _) hge (Nat.le_refl _) (.inr rfl) fun _ => ?_)
          ((s.kill b).drew.allocCells e 1 (cs := cs.take n ++ news) ?_ ?_) (hk nxt s.freshNone)
        · simp [Builtin.zeroCells, hzc, hm, o1]
          omega
        · have : ((olds.toArray ++ cnews.toArray ++ Builtin.zeroCells j.zero.cells (grownCap w (n + m) cap e - (n + m))).toList.take (cs.take n ++ news).length) = olds ++ cnews := by
            have hl1 : (cs.take n ++ news).length = (olds ++ cnews).length := by simp; omega
            rw [hl1]
            simp only [Array.toList_append]
            exact List.take_left
          rw [this]
          exact o2.append hnews
        · simp [o1, hm]
          omega
      · omega
  | fits b n c cs hs0 hb hc0 hl h1 hk =>
    subst hs0
    cases hs with
    | @slice _ _ _ _ p cap co hp hc hnc ho htt =>
    obtain ⟨arr, e1, frz, b1, b2, b3, b4, b5, b6, b7, b8⟩ := s.ownBlock hb hp
    have htot := htt rfl
    rw [b2, Nat.mul_one] at htot
    by_cases hco : co = 0
    · subst hco
      have hw := s.mayWrite hb hp
      have hr := app_in (P := P) (w := w) (ty := ty) (b := p.blk) (off := 0) (n := n) (cap := cap) hu hq hq1 hsrc (by omega) (rvs_one hnews h1) (fun j hj => hw (0 + n + j) (by omega))
      rw [Nat.zero_add] at hr
      have hS := s.storeCells (o := n) hb hp (by omega) hnews
      rw [hm'] at hS
      exact .value (hrun _ _ hr) (Ext.refl β) (Nat.le_refl _) (.slice hp hc (by omega) ho htt) hS hk
    · have hcap : cap = 0 := by omega
      have hm0 : m = 0 := by omega
      have hn0 : n = 0 := by omega
      subst hm0 hn0 hcap
      have hnil : cnews = [] := List.eq_nil_of_length_eq_zero hm
      subst hnil
      have hr := app_in (P := P) (w := w) (ty := ty) (b := p.blk) (off := co) (n := 0) (cap := 0) hu hq hq1 hsrc (by omega) (by simp) (by intro j hj; omega)
      have hS := s.storeCells (o := 0) hb hp (by omega) hnews
      rw [hm'] at hS
      exact .value (hrun _ _ hr) (Ext.refl β) (Nat.le_refl _) (.slice hp hc (by omega) ho htt) hS hk

theorem vcApp_sound {t ty : TypeId} {x y : Operand} {K : AV → H → Prop} {o : Oper} (ho : o.op = .call { callee := .builtin .append, args := #[x, y], argTypes := #[t, t] }) (tok : TOk P T) (s : Sim base W0 β nxt h w) (hf : FrRel β fr a)
    (hk : vcApp T h t (ev fr x) (ev fr y) K) : Lands P base W0 β nxt o a w K := by
  have hs := hf.ev x
  have hy := hf.ev y
  have hrun : ∀ cv w', (Builtin.append_ #[t, t] o.type #[a.eval x, a.eval y]).run P w = .ok cv w' → (execOp a.eval o).run P w = .ok (.value cv) w' := by
    intro cv w' hh
    obtain ⟨dst, op, ty, pos, after, guard⟩ := o
    dsimp only at ho
    subst ho
    simp [execOp, resolve, invoke, builtin, hh]
  unfold vcApp at hk
  split at hk
  · contradiction
  · rename_i d ht
    split at hk
    · rename_i e hd
      split at hk
      · contradiction
      · rename_i j he
        split at hk
        · rename_i hsz hby
          have hby := Nat.le_of_ble_eq_true hby
          split at hk
          · rename_i b o' m c ey
            rw [ey] at hy
            obtain ⟨own, sz, cs, h1, h2, h3⟩ := hk
            obtain ⟨news, h4, h5⟩ := s.src hy h1 h2
            exact appG_sound tok ht hd he hsz hby s hs h4 h5 hrun h3
          · rename_i ey
            rw [ey] at hy
            generalize a.eval y = vy at hy hrun
            cases hy
            exact appG_sound tok ht hd he hsz hby s hs (RVs.nil β) ⟨rfl, .inr ⟨rfl, rfl⟩⟩ hrun hk
          · contradiction
        · contradiction
    · contradiction

theorem vcMakeMap_sound {t : TypeId} {r : Option Operand} {K : AV → H → Prop} {o : Oper} (ho : o.op = .makeMap t r) (s : Sim base W0 β nxt h w) (hk : vcW E (.makeMap t r) fr h K) : Lands E.P base W0 β nxt o a w K := by
  obtain ⟨dst, op, ty, pos, after, guard⟩ := o
  dsimp only at ho
  subst ho
  simp only [vcW] at hk
  split at hk
  · refine .value (w' := w.alloc (.map #[] 0)) (cv := .map (some w.heap.size)) (β' := bput β nxt ⟨w.heap.size, 0, 0, 0⟩) ?_ (Ext.put (s.fresh nxt (Nat.le_refl _))) (Nat.le_succ _) (.map (bput_at _ _)) (s.alloc (.map #[] 0) ⟨w.heap.size, 0, 0, 0⟩ rfl (.map []) ⟨s.ge, #[], 0, heap_alloc_new w _, RVs.nil _, RVs.nil _⟩) (hk.hk nxt s.freshNone)
    simp [execOp, Instr.makeMap]
  · contradiction

theorem vcW_sound {o : Oper} {K : AV → H → Prop} (s : Sim base W0 β nxt h w) (hf : FrRel β fr a) (hk : vcW E o.op fr h K) : Lands E.P base W0 β nxt o a w K := by
  have tok := E.tok
  generalize hop : o.op = op at hk
  cases op <;> first
    | exact vcStore_sound hop tok s hf hk
    | exact vcAlloc_sound hop tok s hk
    | exact vcBox_sound hop s hf hk
    | exact vcBuildSlice_sound hop tok s hf hk
    | exact vcMakeSlice_sound hop tok s hf hk
    | exact vcMakeMap_sound hop s hk
    | (rename_i c
       obtain ⟨callee, args, ats⟩ := c
       cases callee with
       | value f => exact vcCall_sound hop s hf hk
       | invoke r m => exact absurd hk (by simp [vcW])
       | builtin b =>
         simp only [vcW] at hk
         split at hk
         · rename_i hcb; cases hcb
         · rename_i hcb
           injection hcb with hcb
           subst hcb
           split at hk
           · rename_i x y t t' h1 h2
             have e1 : args = #[x, y] := Array.ext' h1
             have e2 : ats = #[t, t'] := Array.ext' h2
             subst e1 e2
             split at hk
             · rename_i hb
               have := Nat.eq_of_beq_eq_true hb
               subst this
               exact vcApp_sound (ty := t) hop tok s hf hk
             · contradiction
           · contradiction
         · contradiction)
    | exact absurd hk (by simp [vcW])

end
end Go.Proofs.Ytlkllofifjkehaa.Ab
