/- A cut: what is kept at a loop's head. -/
import Derived.Test.YtiibidadpgknjaaLeak
namespace Go.Proofs.Ytiibidadpgknjaa.Fi
open Go

section
variable {P : Program} {X : Ctx} {ρ : R}

/-! ### Names lie in bounds -/

theorem cell0_bnd {c : AV} {u : Value} (h : Cell0 ρ c u) : bndC c ≤ ρ.h.length := by
  cases c with
  | own n ver => obtain ⟨_, b, hb, _⟩ := h; exact (List.getElem?_eq_some_iff.1 hb).1
  | sl n ver off len => obtain ⟨_, b, hb, _⟩ := h; exact (List.getElem?_eq_some_iff.1 hb).1
  | ptr n ver idx off => obtain ⟨_, b, hb, _⟩ := h; exact (List.getElem?_eq_some_iff.1 hb).1
  | _ => exact Nat.zero_le _
theorem cells0_bnd : ∀ {cs : List AV} {us : List Value}, Cells0 ρ cs us → bndCs cs ≤ ρ.h.length
  | [], _, _ => Nat.zero_le _
  | _ :: _, _, ⟨_, _, _, h1, h2⟩ => Nat.max_le.2 ⟨cell0_bnd h1, cells0_bnd h2⟩
theorem cellR_bnd {c : AV} {u : Value} (h : CellR ρ c u) : bnd1 c ≤ ρ.h.length := by
  cases c with
  | fn f cap => obtain ⟨cu, _, h⟩ := h; exact cells0_bnd h
  | _ => exact cell0_bnd ((cellR_eq (by simp)).1 h)
theorem cellsR_bnd : ∀ {cs : List AV} {us : List Value}, CellsR ρ cs us → bnds cs ≤ ρ.h.length
  | [], _, _ => Nat.zero_le _
  | _ :: _, _, ⟨_, _, _, h1, h2⟩ => Nat.max_le.2 ⟨cellR_bnd h1, cellsR_bnd h2⟩
theorem elem_bnd {e : AV} {us : List Value} (h : ElemR ρ e us) : bnd e ≤ ρ.h.length := by
  cases e with
  | agg cs => exact cellsR_bnd h
  | _ => obtain ⟨u, rfl, h'⟩ := (elemR_eq (by simp)).1 h; exact cellR_bnd h'
theorem blk_bnd (ho : Ok ρ) {n : Nat} {b : Blk} (hb : ρ.h[n]? = some b) : bndAll b.els ≤ ρ.h.length := by
  refine bndAll_le.2 fun e he => ?_
  obtain ⟨i, hi⟩ := List.getElem?_of_mem he
  obtain ⟨cur, _, _, _, c4⟩ := (ho.blk n b hb).mem (List.ne_nil_of_mem he)
  obtain ⟨us, _, _, u3⟩ := c4 i e hi
  exact elem_bnd u3

/-! ### New versions -/

def nvB (nr0 : Nat) (h : List Blk) (n : Nat) (b : Blk) : Blk := bif Nat.ble nr0 n then { b with els := bif b.rf then b.els.map (nvV nr0 h) else b.els, ver := 0 } else b
theorem nvBlks_at (nr0 : Nat) (h : List Blk) : ∀ (L : List Blk) (i n : Nat), (nvBlks nr0 h i L)[n]? = (L[n]?).map (nvB nr0 h (i + n))
  | [], i, n => by simp [nvBlks]
  | ⟨sz, ty, els, box, rf, fz, ver⟩ :: L, i, 0 => by simp [nvBlks, nvB]
  | ⟨sz, ty, els, box, rf, fz, ver⟩ :: L, i, n + 1 => by
    simp only [nvBlks, List.getElem?_cons_succ]
    rw [nvBlks_at nr0 h L (i + 1) n, show i + 1 + n = i + (n + 1) by omega]

/-- The state behind the cut. -/
def R.cut (ρ : R) (nr0 m : Nat) : R := ⟨ρ.w, ρ.φ, ρ.Z, nvBlks nr0 ρ.h 0 (takeN m ρ.h)⟩
theorem cut_at {nr0 m n : Nat} : (ρ.cut nr0 m).h[n]? = if n < m then (ρ.h[n]?).map (nvB nr0 ρ.h n) else none := by
  show (nvBlks nr0 ρ.h 0 (takeN m ρ.h))[n]? = _
  rw [nvBlks_at, takeN_eq, List.getElem?_take, Nat.zero_add]
  split <;> rfl
theorem cut_some {nr0 m n : Nat} {b : Blk} (hn : n < m) (hb : ρ.h[n]? = some b) : (ρ.cut nr0 m).h[n]? = some (nvB nr0 ρ.h n b) := by rw [cut_at, if_pos hn, hb]; rfl
theorem cut_inv {nr0 m n : Nat} {c : Blk} (h : (ρ.cut nr0 m).h[n]? = some c) : n < m ∧ ∃ b, ρ.h[n]? = some b ∧ c = nvB nr0 ρ.h n b := by
  rw [cut_at] at h
  split at h
  · rename_i hn
    cases hb : ρ.h[n]? with
    | none => rw [hb] at h; cases h
    | some b => rw [hb] at h; exact ⟨hn, b, rfl, (Option.some.inj h).symm⟩
  · cases h
theorem nvB_sz {nr0 n : Nat} {h : List Blk} {b : Blk} : (nvB nr0 h n b).sz = b.sz := by unfold nvB; cases Nat.ble nr0 n <;> rfl
theorem nvB_ty {nr0 n : Nat} {h : List Blk} {b : Blk} : (nvB nr0 h n b).ty = b.ty := by unfold nvB; cases Nat.ble nr0 n <;> rfl
theorem nvB_box {nr0 n : Nat} {h : List Blk} {b : Blk} : (nvB nr0 h n b).box = b.box := by unfold nvB; cases Nat.ble nr0 n <;> rfl
theorem nvB_rf {nr0 n : Nat} {h : List Blk} {b : Blk} : (nvB nr0 h n b).rf = b.rf := by unfold nvB; cases Nat.ble nr0 n <;> rfl
theorem nvB_fz {nr0 n : Nat} {h : List Blk} {b : Blk} : (nvB nr0 h n b).fz = b.fz := by unfold nvB; cases Nat.ble nr0 n <;> rfl
theorem nvB_len {nr0 n : Nat} {h : List Blk} {b : Blk} : (nvB nr0 h n b).els.length = b.els.length := by
  unfold nvB
  cases Nat.ble nr0 n
  · rfl
  · cases b.rf <;> simp
theorem nvB_old {nr0 n : Nat} {h : List Blk} {b : Blk} (hn : n < nr0) : nvB nr0 h n b = b := by
  unfold nvB
  have : Nat.ble nr0 n = false := by rw [Bool.eq_false_iff]; intro hc; have := Nat.le_of_ble_eq_true hc; omega
  rw [this]; rfl
theorem nvB_new {nr0 n : Nat} {h : List Blk} {b : Blk} (hn : nr0 ≤ n) : nvB nr0 h n b = { b with els := bif b.rf then b.els.map (nvV nr0 h) else b.els, ver := 0 } := by
  unfold nvB
  rw [Nat.ble_eq_true_of_le hn]; rfl
theorem len_nil {l l' : List AV} (h : l.length = l'.length) : l = [] ↔ l' = [] := by
  constructor
  · intro e; exact List.eq_nil_of_length_eq_zero (by rw [← h, e]; rfl)
  · intro e; exact List.eq_nil_of_length_eq_zero (by rw [h, e]; rfl)

theorem nvC_cell {nr0 m : Nat} {c : AV} {u : Value} (h : Cell0 ρ c u) (hb : bndC c ≤ m) : Cell0 (ρ.cut nr0 m) (nvC nr0 ρ.h c) u := by
  cases c with
  | own n ver =>
    obtain ⟨o1, b, hn, hv, hx, hp⟩ := h
    have hm : n < m := hb
    simp only [nvC]
    cases ho : Nat.ble nr0 n with
    | false =>
      have hlt : n < nr0 := by rcases Nat.lt_or_ge n nr0 with h | h; exact h; rw [Nat.ble_eq_true_of_le h] at ho; cases ho
      refine ⟨o1, b, by rw [cut_some hm hn, nvB_old hlt], hv, hx, hp⟩
    | true =>
      have hge := Nat.le_of_ble_eq_true ho
      simp only [cond_true]
      cases hk : blkAt ρ.h n ver with
      | none => exact o1
      | some b' =>
        obtain ⟨k1, k2⟩ := blkAt_some hk
        rw [hn] at k1
        injection k1 with k1
        subst k1
        obtain ⟨a, cap, q1, q2, q3, q4, q5⟩ := hp k2.symm
        have hl := @nvB_len nr0 n ρ.h b
        refine ⟨o1, nvB nr0 ρ.h n b, cut_some hm hn, Nat.zero_le _, by rw [nvB_box]; exact hx, fun _ => ⟨a, cap, by rw [hl]; exact q1, by rw [hl]; exact q2, by rw [hl]; exact q3, fun h => q4 ((len_nil hl).1 h), fun h => ?_⟩⟩
        rw [nvB_sz]
        exact q5 fun h' => h ((len_nil hl).2 h')
  | sl n ver off len =>
    obtain ⟨o1, b, hn, hv, hx, hp⟩ := h
    have hm : n < m := hb
    simp only [nvC]
    cases ho : Nat.ble nr0 n with
    | false =>
      have hlt : n < nr0 := by rcases Nat.lt_or_ge n nr0 with h | h; exact h; rw [Nat.ble_eq_true_of_le h] at ho; cases ho
      refine ⟨o1, b, by rw [cut_some hm hn, nvB_old hlt], hv, hx, hp⟩
    | true =>
      simp only [cond_true]
      cases hk : blkAt ρ.h n ver with
      | none => exact o1
      | some b' =>
        obtain ⟨k1, k2⟩ := blkAt_some hk
        rw [hn] at k1
        injection k1 with k1
        subst k1
        obtain ⟨a, cap, q1, q2, q3, q3', q4, q5⟩ := hp k2.symm
        have hl := @nvB_len nr0 n ρ.h b
        refine ⟨o1, nvB nr0 ρ.h n b, cut_some hm hn, Nat.zero_le _, by rw [nvB_box]; exact hx, fun _ => ⟨a, cap, q1, by rw [hl]; exact q2, by rw [hl]; exact q3, q3', fun h => q4 ((len_nil hl).1 h), fun h => ?_⟩⟩
        rw [nvB_sz]
        exact q5 h
  | ptr n ver idx off =>
    obtain ⟨o1, b, hn, hv, hp⟩ := h
    have hm : n < m := hb
    simp only [nvC]
    cases ho : Nat.ble nr0 n with
    | false =>
      have hlt : n < nr0 := by rcases Nat.lt_or_ge n nr0 with h | h; exact h; rw [Nat.ble_eq_true_of_le h] at ho; cases ho
      refine ⟨o1, b, by rw [cut_some hm hn, nvB_old hlt], hv, hp⟩
    | true =>
      simp only [cond_true]
      cases hk : blkAt ρ.h n ver with
      | none => exact o1
      | some b' =>
        obtain ⟨k1, k2⟩ := blkAt_some hk
        rw [hn] at k1
        injection k1 with k1
        subst k1
        obtain ⟨q1, q2⟩ := hp k2.symm
        refine ⟨o1, nvB nr0 ρ.h n b, cut_some hm hn, Nat.zero_le _, fun _ => ⟨by rw [nvB_len]; exact q1, ?_⟩⟩
        rw [nvB_sz]
        exact q2
  | tup vs => exact h.elim
  | agg cs => exact h.elim
  | fn f cap => exact h.elim
  | _ => exact h
theorem nvCs_cells {nr0 m : Nat} : ∀ {cs : List AV} {us : List Value}, Cells0 ρ cs us → bndCs cs ≤ m → Cells0 (ρ.cut nr0 m) (cs.map (nvC nr0 ρ.h)) us
  | [], _, h, _ => h
  | _ :: _, _, ⟨u, r, e, h1, h2⟩, hb => ⟨u, r, e, nvC_cell h1 (Nat.le_trans (Nat.le_max_left _ _) hb), nvCs_cells h2 (Nat.le_trans (Nat.le_max_right _ _) hb)⟩
theorem nvC_notfn {nr0 : Nat} {h : List Blk} {c : AV} (hc : ∀ f cap, c ≠ .fn f cap) (f : Nat) (cap : List AV) : nvC nr0 h c ≠ .fn f cap := by
  cases c with
  | own n v => simp only [nvC]; cases Nat.ble nr0 n <;> simp; split <;> simp
  | sl n v o l => simp only [nvC]; cases Nat.ble nr0 n <;> simp; split <;> simp
  | ptr n v i o => simp only [nvC]; cases Nat.ble nr0 n <;> simp; split <;> simp
  | fn g c => exact absurd rfl (hc g c)
  | _ => simp [nvC]
theorem nvCell_cell {nr0 m : Nat} {c : AV} {u : Value} (h : CellR ρ c u) (hb : bnd1 c ≤ m) : CellR (ρ.cut nr0 m) (nvCell nr0 ρ.h c) u := by
  by_cases hf : ∃ f cap, c = .fn f cap
  · obtain ⟨f, cap, rfl⟩ := hf
    obtain ⟨cu, e, h⟩ := h
    exact ⟨cu, e, nvCs_cells h hb⟩
  · have hf' : ∀ f cap, c ≠ .fn f cap := fun f cap e => hf ⟨f, cap, e⟩
    have e1 : nvCell nr0 ρ.h c = nvC nr0 ρ.h c := by cases c <;> first | rfl | exact absurd rfl (hf' _ _)
    have e2 : bnd1 c = bndC c := by cases c <;> first | rfl | exact absurd rfl (hf' _ _)
    rw [e1, cellR_eq (nvC_notfn hf')]
    exact nvC_cell ((cellR_eq hf').1 h) (e2 ▸ hb)
theorem nvCells_cells {nr0 m : Nat} : ∀ {cs : List AV} {us : List Value}, CellsR ρ cs us → bnds cs ≤ m → CellsR (ρ.cut nr0 m) (cs.map (nvCell nr0 ρ.h)) us
  | [], _, h, _ => h
  | _ :: _, _, ⟨u, r, e, h1, h2⟩, hb => ⟨u, r, e, nvCell_cell h1 (Nat.le_trans (Nat.le_max_left _ _) hb), nvCells_cells h2 (Nat.le_trans (Nat.le_max_right _ _) hb)⟩
theorem cellR_cell {c : AV} {u : Value} (h : CellR ρ c u) : isCell c = true := by
  cases c with
  | agg cs => exact h.elim
  | tup cs => exact h.elim
  | _ => rfl
theorem nvV_elem {nr0 m : Nat} {e : AV} {us : List Value} (h : ElemR ρ e us) (hb : bnd e ≤ m) : ElemR (ρ.cut nr0 m) (nvV nr0 ρ.h e) us ∧ (cells (nvV nr0 ρ.h e)).length = (cells e).length := by
  by_cases ha : ∃ cs, e = .agg cs
  · obtain ⟨cs, rfl⟩ := ha
    exact ⟨nvCells_cells h hb, by simp [nvV, cells]⟩
  · have ha' : ∀ cs, e ≠ .agg cs := fun cs h => ha ⟨cs, h⟩
    obtain ⟨u, rfl, h'⟩ := (elemR_eq ha').1 h
    have e1 : nvV nr0 ρ.h e = nvCell nr0 ρ.h e := by cases e <;> first | rfl | exact absurd rfl (ha' _)
    have e2 : bnd e = bnd1 e := by cases e <;> first | rfl | exact absurd rfl (ha' _)
    have hc := nvCell_cell (nr0 := nr0) (m := m) h' (e2 ▸ hb)
    have hcc := cellR_cell hc
    rw [e1]
    refine ⟨(elemR_eq ?_).2 ⟨u, rfl, hc⟩, ?_⟩
    · intro cs hcs; rw [hcs] at hcc; cases hcc
    · generalize nvCell nr0 ρ.h e = x at hcc
      have l1 : (cells x).length = 1 := by cases x <;> first | rfl | cases hcc
      have l2 : (cells e).length = 1 := by cases e <;> first | rfl | exact absurd rfl (ha' _)
      rw [l1, l2]

theorem nvC_bnd {nr0 : Nat} {h : List Blk} (c : AV) : bndC (nvC nr0 h c) ≤ bndC c := by
  cases c with
  | own n v => simp only [nvC]; cases Nat.ble nr0 n <;> cases blkAt h n v <;> simp [bndC]
  | sl n v o l => simp only [nvC]; cases Nat.ble nr0 n <;> cases blkAt h n v <;> simp [bndC]
  | ptr n v i o => simp only [nvC]; cases Nat.ble nr0 n <;> cases blkAt h n v <;> simp [bndC]
  | _ => exact Nat.le_refl _
theorem bndCs_le {m : Nat} : ∀ {l : List AV}, bndCs l ≤ m ↔ ∀ c ∈ l, bndC c ≤ m
  | [] => by simp [bndCs]
  | c :: l => by
    show Nat.max (bndC c) (bndCs l) ≤ m ↔ _
    rw [Nat.max_le, bndCs_le]
    simp
theorem nvCell_bnd {nr0 : Nat} {h : List Blk} (c : AV) : bnd1 (nvCell nr0 h c) ≤ bnd1 c := by
  cases c with
  | fn f cap =>
    refine bndCs_le.2 fun x hx => ?_
    obtain ⟨y, hy, rfl⟩ := List.mem_map.1 hx
    exact Nat.le_trans (nvC_bnd y) (bndCs_le.1 (Nat.le_refl (bndCs cap)) y hy)
  | own n v => simp only [nvCell, nvC]; cases Nat.ble nr0 n <;> cases blkAt h n v <;> simp [bnd1, bndC]
  | sl n v o l => simp only [nvCell, nvC]; cases Nat.ble nr0 n <;> cases blkAt h n v <;> simp [bnd1, bndC]
  | ptr n v i o => simp only [nvCell, nvC]; cases Nat.ble nr0 n <;> cases blkAt h n v <;> simp [bnd1, bndC]
  | _ => exact Nat.le_refl _
theorem nvV_bnd {nr0 : Nat} {h : List Blk} (e : AV) : bnd (nvV nr0 h e) ≤ bnd e := by
  by_cases ha : ∃ cs, e = .agg cs
  · obtain ⟨cs, rfl⟩ := ha
    refine bnds_le.2 fun x hx => ?_
    obtain ⟨y, hy, rfl⟩ := List.mem_map.1 hx
    exact Nat.le_trans (nvCell_bnd y) (bnds_le.1 (Nat.le_refl (bnds cs)) y hy)
  · have ha' : ∀ cs, e ≠ .agg cs := fun cs h => ha ⟨cs, h⟩
    have e1 : nvV nr0 h e = nvCell nr0 h e := by cases e <;> first | rfl | exact absurd rfl (ha' _)
    have e2 : ∀ {x : AV}, (∀ cs, x ≠ .agg cs) → bnd x = bnd1 x := by intro x hx; cases x <;> first | rfl | exact absurd rfl (hx _)
    have hna : ∀ cs, nvCell nr0 h e ≠ .agg cs := by
      intro cs
      cases e with
      | agg cs => exact absurd rfl (ha' cs)
      | own n v => simp only [nvCell, nvC]; cases Nat.ble nr0 n <;> cases blkAt _ n v <;> simp
      | sl n v o l => simp only [nvCell, nvC]; cases Nat.ble nr0 n <;> cases blkAt _ n v <;> simp
      | ptr n v i o => simp only [nvCell, nvC]; cases Nat.ble nr0 n <;> cases blkAt _ n v <;> simp
      | _ => simp [nvCell, nvC]
    rw [e1, e2 ha', e2 hna]
    exact nvCell_bnd e
theorem nvB_bnd {nr0 n : Nat} {h : List Blk} {b : Blk} : bndAll (nvB nr0 h n b).els ≤ bndAll b.els := by
  unfold nvB
  cases Nat.ble nr0 n with
  | false => exact Nat.le_refl _
  | true =>
    simp only [cond_true]
    cases b.rf with
    | false => exact Nat.le_refl _
    | true =>
      refine bndAll_le.2 fun x hx => ?_
      obtain ⟨y, hy, rfl⟩ := List.mem_map.1 hx
      exact Nat.le_trans (nvV_bnd y) (bndAll_le.1 (Nat.le_refl (bndAll b.els)) y hy)

/-- An element whose names keep their versions. -/
theorem old_elem {nr0 m : Nat} (hm : nr0 ≤ m) {e : AV} {us : List Value} (h : ElemR ρ e us) (hb : bnd e ≤ nr0) : ElemR (ρ.cut nr0 m) e us := by
  have c0 : ∀ {c : AV} {u : Value}, Cell0 ρ c u → bndC c ≤ nr0 → Cell0 (ρ.cut nr0 m) c u := by
    intro c u h hb
    cases c with
    | own n ver =>
      obtain ⟨o1, b, hn, r⟩ := h
      have hlt : n < nr0 := hb
      exact ⟨o1, b, by rw [cut_some (Nat.lt_of_lt_of_le hlt hm) hn, nvB_old hlt], r⟩
    | sl n ver off len =>
      obtain ⟨o1, b, hn, r⟩ := h
      have hlt : n < nr0 := hb
      exact ⟨o1, b, by rw [cut_some (Nat.lt_of_lt_of_le hlt hm) hn, nvB_old hlt], r⟩
    | ptr n ver idx off =>
      obtain ⟨o1, b, hn, r⟩ := h
      have hlt : n < nr0 := hb
      exact ⟨o1, b, by rw [cut_some (Nat.lt_of_lt_of_le hlt hm) hn, nvB_old hlt], r⟩
    | _ => exact h
  have cs0 : ∀ {cs : List AV} {us : List Value}, Cells0 ρ cs us → bndCs cs ≤ nr0 → Cells0 (ρ.cut nr0 m) cs us := by
    intro cs
    induction cs with
    | nil => intro us h _; exact h
    | cons c cs ih => rintro us ⟨u, r, e, h1, h2⟩ hb; exact ⟨u, r, e, c0 h1 (Nat.le_trans (Nat.le_max_left _ _) hb), ih h2 (Nat.le_trans (Nat.le_max_right _ _) hb)⟩
  have c1 : ∀ {c : AV} {u : Value}, CellR ρ c u → bnd1 c ≤ nr0 → CellR (ρ.cut nr0 m) c u := by
    intro c u h hb
    cases c with
    | fn f cap => obtain ⟨cu, e, h⟩ := h; exact ⟨cu, e, cs0 h hb⟩
    | _ => exact (cellR_eq (by simp)).2 (c0 ((cellR_eq (by simp)).1 h) hb)
  cases e with
  | agg cs =>
    have h' := CellsR.iff.1 (show CellsR ρ cs us from h)
    exact (CellsR.iff (ρ := ρ.cut nr0 m)).2 ⟨h'.1, fun j c u h1 h2 => c1 (h'.2 j c u h1 h2) (bnds_le.1 (show bnds cs ≤ nr0 from hb) c (List.mem_of_getElem? h1))⟩
  | _ =>
    obtain ⟨u, rfl, h'⟩ := (elemR_eq (by simp)).1 h
    exact (elemR_eq (by simp)).2 ⟨u, rfl, c1 h' hb⟩

/-- The cut, as a step. -/
theorem cut_inv' {iso : Bool} {ρ0 : R} {nr nr0 m : Nat} (hi : Inv iso ρ0 ρ) (hnr : nr = ρ0.h.length) (hnr0 : nr0 = bif iso then 0 else nr) (hm : nr ≤ m)
    (hb : ∀ (n : Nat) (b : Blk), n < m → ρ.h[n]? = some b → b.rf = true → bndAll b.els ≤ bif Nat.blt n nr then nr else m) : Inv iso ρ0 (ρ.cut nr0 m) := by
  have ho := hi.ok
  have hnm : nr0 ≤ m := by cases iso <;> simp at hnr0 <;> omega
  have hne : ∀ {n b}, (nvB nr0 ρ.h n b).els ≠ [] → b.els ≠ [] := fun h h' => h ((len_nil nvB_len).2 h')
  have hne' : ∀ {n b}, b.els ≠ [] → (nvB nr0 ρ.h n b).els ≠ [] := fun h h' => h ((len_nil nvB_len).1 h')
  refine ⟨⟨ho.zlt, fun n c hc => ?_, fun n k x y hx hy hx0 hy0 hnk => ?_⟩, ⟨hi.fr.os, hi.fr.tape, hi.fr.output, hi.fr.size, hi.fr.fr, fun n c hc hc0 => ?_⟩, hi.z, fun n b0 hb0 => ?_, fun n b0 hb0 hf h1 => ?_, fun k hk => ?_, fun hiso => ?_⟩
  · obtain ⟨hn, b, hbb, rfl⟩ := cut_inv hc
    have B := ho.blk n b hbb
    have hrfb : (nvB nr0 ρ.h n b).rf = false → (nvB nr0 ρ.h n b).els = b.els := by
      intro hr
      rw [nvB_rf] at hr
      unfold nvB
      cases Nat.ble nr0 n
      · rfl
      · simp only [cond_true, hr, cond_false]
    have hel : ∀ (i : Nat) (e' : AV), (nvB nr0 ρ.h n b).els[i]? = some e' → ∃ e, b.els[i]? = some e ∧ ((e' = e ∧ (b.rf = false ∨ bnd e ≤ nr0)) ∨ (e' = nvV nr0 ρ.h e ∧ bnd e ≤ m)) := by
      intro i e' hi'
      have hbn := hb n b hn hbb
      unfold nvB at hi'
      cases hle : Nat.ble nr0 n with
      | false =>
        rw [hle] at hi'
        refine ⟨e', hi', .inl ⟨rfl, ?_⟩⟩
        cases hr : b.rf with
        | false => exact .inl rfl
        | true =>
          have hlt : n < nr0 := by rcases Nat.lt_or_ge n nr0 with h | h; exact h; rw [Nat.ble_eq_true_of_le h] at hle; cases hle
          have hnr' : nr0 = nr := by
            cases iso with
            | true => simp only [cond_true] at hnr0; omega
            | false => exact hnr0
          have := hbn hr
          rw [(Nat.blt_eq ▸ (hnr' ▸ hlt) : Nat.blt n nr = true), cond_true, ← hnr'] at this
          exact .inr (bndAll_le.1 this e' (List.mem_of_getElem? hi'))
      | true =>
        rw [hle] at hi'
        simp only [cond_true] at hi'
        cases hr : b.rf with
        | false => rw [hr] at hi'; exact ⟨e', hi', .inl ⟨rfl, .inl rfl⟩⟩
        | true =>
          rw [hr] at hi'
          simp only [cond_true] at hi'
          obtain ⟨e, h1, h2⟩ := map_get hi'
          have := hbn hr
          have hmm : bndAll b.els ≤ m := by
            cases hlt : Nat.blt n nr with
            | true => rw [hlt] at this; exact Nat.le_trans this hm
            | false => rw [hlt] at this; exact this
          exact ⟨e, h1, .inr ⟨h2.symm, bndAll_le.1 hmm e (List.mem_of_getElem? h1)⟩⟩
    have hall : ∀ (i : Nat) (e' : AV), (nvB nr0 ρ.h n b).els[i]? = some e' → ∀ us, (∃ e, b.els[i]? = some e ∧ ElemR ρ e us) → ElemR (ρ.cut nr0 m) e' us := by
      rintro i e' hi' us ⟨e, h1, h2⟩
      obtain ⟨e2, h3, h4⟩ := hel i e' hi'
      rw [h1] at h3
      injection h3 with h3
      subst h3
      rcases h4 with ⟨rfl, h4 | h4⟩ | ⟨rfl, h4⟩
      · exact elem_move h2 (B.rf h4 _ (List.mem_of_getElem? h1)) fun k hk => ⟨hk, rfl⟩
      · exact old_elem hnm h2 h4
      · exact (nvV_elem h2 h4).1
    refine ⟨by rw [nvB_sz]; exact B.pos, fun hbx e' he' => ?_, fun hr e' he' => ?_, fun hbx => by rw [nvB_len]; rw [nvB_box] at hbx; exact B.box hbx, by rw [nvB_len]; exact B.len, fun hc0 => ?_⟩
    · rw [nvB_box] at hbx
      obtain ⟨i, hi'⟩ := List.getElem?_of_mem he'
      obtain ⟨e, h3, h4⟩ := hel i e' hi'
      have hcan := B.can hbx e (List.mem_of_getElem? h3)
      rcases h4 with ⟨rfl, _⟩ | ⟨rfl, h4⟩
      · exact hcan
      · intro c hc
        have hx : ∀ {d : AV}, d ≠ .nilS → nvCell nr0 ρ.h d ≠ .nilS := by
          intro d hd
          cases d with
          | own n v => simp only [nvCell, nvC]; cases Nat.ble nr0 n <;> cases blkAt _ n v <;> simp
          | sl n v o l => simp only [nvCell, nvC]; cases Nat.ble nr0 n <;> cases blkAt _ n v <;> simp
          | ptr n v i o => simp only [nvCell, nvC]; cases Nat.ble nr0 n <;> cases blkAt _ n v <;> simp
          | nilS => exact absurd rfl hd
          | _ => simp [nvCell, nvC]
        cases e with
        | agg cs =>
          obtain ⟨d, hd, rfl⟩ := List.mem_map.1 (show c ∈ cs.map (nvCell nr0 ρ.h) from hc)
          exact hx (hcan d hd)
        | _ =>
          rename_i x
          obtain ⟨us, u1, u2, u3⟩ := (B.mem (List.ne_nil_of_mem (List.mem_of_getElem? h3))).choose_spec.2.2.2 i _ h3
          have hcc := (nvV_elem (nr0 := nr0) (m := m) u3 h4)
          have hne := hcan _ (List.mem_cons_self ..)
          have h5 := hx hne
          obtain ⟨u, rfl, h'⟩ := (elemR_eq (by simp)).1 u3
          have h6 := cellR_cell (nvCell_cell (nr0 := nr0) (m := m) h' h4)
          simp only [nvV] at hc
          generalize nvCell nr0 ρ.h _ = y at hc h5 h6
          have : c = y := by cases y <;> simp [cells] at hc <;> first | exact hc | cases h6
          rw [this]; exact h5
    · rw [hrfb hr] at he'
      rw [nvB_rf] at hr
      exact B.rf hr e' he'
    · obtain ⟨cur, c1, c2, c3, c4⟩ := B.mem (hne hc0)
      rw [nvB_len, nvB_sz, nvB_ty, nvB_fz]
      refine ⟨cur, c1, c2, c3, fun i e' hi' => ?_⟩
      obtain ⟨e, h3, h4⟩ := hel i e' hi'
      obtain ⟨us, u1, u2, u3⟩ := c4 i e h3
      exact ⟨us, u1, u2, hall i e' hi' us ⟨e, h3, u3⟩⟩
  · obtain ⟨_, b, hb1, rfl⟩ := cut_inv hx
    obtain ⟨_, c, hc1, rfl⟩ := cut_inv hy
    exact ho.inj n k b c hb1 hc1 (hne hx0) (hne hy0) hnk
  · obtain ⟨_, b, hb1, rfl⟩ := cut_inv hc
    rw [nvB_fz]
    exact hi.fr.nw n b hb1 (hne hc0)
  · obtain ⟨b, q1, q2, q3, q4, q5, q6⟩ := hi.gr n b0 hb0
    have hn : n < m := by have := (List.getElem?_eq_some_iff.1 hb0).1; omega
    exact ⟨_, cut_some hn q1, by rw [nvB_sz]; exact q2, by rw [nvB_ty]; exact q3, by rw [nvB_box]; exact q4, by rw [nvB_len]; exact q5, fun h h1 => q6 (nvB_len.symm.trans h) h1⟩
  · obtain ⟨b, q1, q2, q3, q4⟩ := hi.fz n b0 hb0 hf h1
    have hn : n < m := by have := (List.getElem?_eq_some_iff.1 hb0).1; omega
    exact ⟨_, cut_some hn q1, by rw [nvB_fz]; exact q2, hne' q3, q4⟩
  · rcases hi.zn k hk with q | q | ⟨n, c, q1, q2, q3, q4⟩
    · exact .inl q
    · exact .inr (.inl q)
    · by_cases hn : n < m
      · exact .inr (.inr ⟨n, _, cut_some hn q1, hne' q2, by rw [nvB_fz]; exact q3, q4⟩)
      · rcases hi.fr.nw n c q1 q2 with p | ⟨b0, p, _⟩
        · exact .inr (.inl (q4 ▸ p))
        · have := (List.getElem?_eq_some_iff.1 p).1; omega
  · have hle := hi.le hiso
    subst hiso
    refine ⟨hle.z, fun n b0 hb0 => ?_⟩
    obtain ⟨b, q1, q2, q3, q4⟩ := hle.h n b0 hb0
    have hn : n < nr := by have := (List.getElem?_eq_some_iff.1 hb0).1; omega
    exact ⟨b, by rw [cut_some (by omega) q1, nvB_old (by rw [hnr0]; exact hn)], q2, q3, q4⟩
end
end Go.Proofs.Ytiibidadpgknjaa.Fi
