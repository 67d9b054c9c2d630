/- A call that is handed no name. -/
import Derived.Test.YtiibidadpgknjaaCut
namespace Go.Proofs.Ytiibidadpgknjaa.Fi
open Go

section
variable {P : Program} {X : Ctx} {ρ : R}

/-- The callee's view: no block has a name. -/
def R.bare (ρ : R) : R := ⟨ρ.w, ρ.φ, ρ.Z, []⟩
theorem bare_ok (ho : Ok ρ) : Ok ρ.bare := ⟨ho.zlt, (fun n b h => by cases h), (fun n m b c h => by cases h)⟩
/-- The caller's view behind the call. -/
def R.shift (ρ ρ' : R) : R := ⟨ρ'.w, fun n => if n < ρ.h.length then ρ.φ n else ρ'.φ (n - ρ.h.length), ρ'.Z, ρ.h ++ ρ'.h.map (shB ρ.h.length)⟩
theorem shift_new {ρ' : R} {n : Nat} {b : Blk} (h : ρ'.h[n]? = some b) : (ρ.shift ρ').h[ρ.h.length + n]? = some (shB ρ.h.length b) := by
  show (ρ.h ++ _)[_]? = _
  rw [List.getElem?_append_right (Nat.le_add_right _ _), Nat.add_sub_cancel_left, List.getElem?_map, h]; rfl
theorem shift_old {ρ' : R} {n : Nat} {b : Blk} (h : ρ.h[n]? = some b) : (ρ.shift ρ').h[n]? = some b := by
  show (ρ.h ++ _)[_]? = _
  rw [List.getElem?_append_left (List.getElem?_eq_some_iff.1 h).1, h]
theorem shift_inv {ρ' : R} {n : Nat} {c : Blk} (h : (ρ.shift ρ').h[n]? = some c) : (n < ρ.h.length ∧ ρ.h[n]? = some c) ∨ ∃ m b, n = ρ.h.length + m ∧ ρ'.h[m]? = some b ∧ c = shB ρ.h.length b := by
  have h' : (ρ.h ++ ρ'.h.map (shB ρ.h.length))[n]? = some c := h
  by_cases hn : n < ρ.h.length
  · rw [List.getElem?_append_left hn] at h'; exact .inl ⟨hn, h'⟩
  · rw [List.getElem?_append_right (by omega)] at h'
    obtain ⟨b, h1, h2⟩ := map_get h'
    exact .inr ⟨n - ρ.h.length, b, by omega, h1, h2.symm⟩
theorem shift_phi_old {ρ' : R} {n : Nat} (h : n < ρ.h.length) : (ρ.shift ρ').φ n = ρ.φ n := if_pos h
theorem shift_phi_new {ρ' : R} {n : Nat} : (ρ.shift ρ').φ (ρ.h.length + n) = ρ'.φ n := by
  show (if _ then _ else _) = _
  rw [if_neg (by omega), Nat.add_sub_cancel_left]
theorem shB_sz {k : Nat} {b : Blk} : (shB k b).sz = b.sz := rfl
theorem shB_len {k : Nat} {b : Blk} : (shB k b).els.length = b.els.length := by
  show (bif b.rf then b.els.map (sh1 k) else b.els).length = _
  cases b.rf <;> simp
theorem shB_nil {k : Nat} {b : Blk} : (shB k b).els = [] ↔ b.els = [] := len_nil shB_len

theorem shC_cell {ρ' : R} {c : AV} {u : Value} (h : Cell0 ρ' c u) : Cell0 (ρ.shift ρ') (shC ρ.h.length c) u := by
  cases c with
  | own n ver =>
    obtain ⟨o1, b, hn, hv, hx, hp⟩ := h
    refine ⟨o1, _, shift_new hn, hv, hx, fun e => ?_⟩
    obtain ⟨a, cap, q1, q2, q3, q4, q5⟩ := hp e
    refine ⟨a, cap, by rw [shB_len]; exact q1, by rw [shB_len]; exact q2, by rw [shB_len]; exact q3, fun h => q4 (shB_nil.1 h), fun h => ?_⟩
    rw [shift_phi_new]
    exact q5 fun h' => h (shB_nil.2 h')
  | sl n ver off len =>
    obtain ⟨o1, b, hn, hv, hx, hp⟩ := h
    refine ⟨o1, _, shift_new hn, hv, hx, fun e => ?_⟩
    obtain ⟨a, cap, q1, q2, q3, q3', q4, q5⟩ := hp e
    refine ⟨a, cap, q1, by rw [shB_len]; exact q2, by rw [shB_len]; exact q3, q3', fun h => q4 (shB_nil.1 h), fun h => ?_⟩
    rw [shift_phi_new]
    exact q5 h
  | ptr n ver idx off =>
    obtain ⟨o1, b, hn, hv, hp⟩ := h
    refine ⟨o1, _, shift_new hn, hv, fun e => ?_⟩
    rw [shB_len, shift_phi_new]
    exact hp e
  | tup vs => exact h.elim
  | agg cs => exact h.elim
  | fn f cap => exact h.elim
  | _ => exact h
theorem shCs_cells {ρ' : R} : ∀ {cs : List AV} {us : List Value}, Cells0 ρ' cs us → Cells0 (ρ.shift ρ') (cs.map (shC ρ.h.length)) us
  | [], _, h => h
  | _ :: _, _, ⟨u, r, e, h1, h2⟩ => ⟨u, r, e, shC_cell h1, shCs_cells h2⟩
theorem shC_notfn {k : Nat} {c : AV} (hc : ∀ f cap, c ≠ .fn f cap) (f : Nat) (cap : List AV) : shC k c ≠ .fn f cap := by
  cases c <;> first | exact absurd rfl (hc _ _) | simp [shC]
theorem shCell_cell {ρ' : R} {c : AV} {u : Value} (h : CellR ρ' c u) : CellR (ρ.shift ρ') (shCell ρ.h.length c) u := by
  by_cases hf : ∃ f cap, c = .fn f cap
  · obtain ⟨f, cap, rfl⟩ := hf
    obtain ⟨cu, e, h⟩ := h
    exact ⟨cu, e, shCs_cells h⟩
  · have hf' : ∀ f cap, c ≠ .fn f cap := fun f cap e => hf ⟨f, cap, e⟩
    have e1 : shCell ρ.h.length c = shC ρ.h.length c := by cases c <;> first | rfl | exact absurd rfl (hf' _ _)
    rw [e1, cellR_eq (shC_notfn hf')]
    exact shC_cell ((cellR_eq hf').1 h)
theorem shCells_cells {ρ' : R} : ∀ {cs : List AV} {us : List Value}, CellsR ρ' cs us → CellsR (ρ.shift ρ') (cs.map (shCell ρ.h.length)) us
  | [], _, h => h
  | _ :: _, _, ⟨u, r, e, h1, h2⟩ => ⟨u, r, e, shCell_cell h1, shCells_cells h2⟩
theorem sh1_not {k : Nat} {e : AV} (h : ∀ cs, e ≠ .agg cs) : sh1 k e = shCell k e ∧ ∀ cs, shCell k e ≠ .agg cs := by
  cases e <;> first | exact absurd rfl (h _) | exact ⟨rfl, by simp [shCell, shC]⟩
theorem sh1_elem {ρ' : R} {e : AV} {us : List Value} (h : ElemR ρ' e us) : ElemR (ρ.shift ρ') (sh1 ρ.h.length e) us := by
  by_cases ha : ∃ cs, e = .agg cs
  · obtain ⟨cs, rfl⟩ := ha
    exact shCells_cells h
  · have ha' : ∀ cs, e ≠ .agg cs := fun cs h => ha ⟨cs, h⟩
    obtain ⟨u, rfl, h'⟩ := (elemR_eq ha').1 h
    obtain ⟨e1, e2⟩ := @sh1_not ρ.h.length e ha'
    rw [e1]
    exact (elemR_eq e2).2 ⟨u, rfl, shCell_cell h'⟩
theorem sh1_val1 {ρ' : R} {v : AV} {u : Value} (h : Val1 ρ' v u) : Val1 (ρ.shift ρ') (sh1 ρ.h.length v) u := by
  by_cases ha : ∃ cs, v = .agg cs
  · obtain ⟨cs, rfl⟩ := ha
    obtain ⟨us, e, h⟩ := h
    exact ⟨us, e, shCells_cells h⟩
  · have ha' : ∀ cs, v ≠ .agg cs := fun cs h => ha ⟨cs, h⟩
    by_cases hu : v = .undef
    · subst hu; trivial
    · obtain ⟨e1, e2⟩ := @sh1_not ρ.h.length v ha'
      rw [e1]
      refine (val1_eq e2 ?_).2 (shCell_cell ((val1_eq ha' hu).1 h))
      intro hc
      cases v <;> first | exact hu rfl | simp [shCell, shC] at hc
theorem sh1_vals {ρ' : R} : ∀ {vs : List AV} {us : List Value}, Vals1 ρ' vs us → Vals1 (ρ.shift ρ') (vs.map (sh1 ρ.h.length)) us
  | [], _, h => h
  | _ :: _, _, ⟨u, r, e, h1, h2⟩ => ⟨u, r, e, sh1_val1 h1, sh1_vals h2⟩
theorem shV_val {ρ' : R} {v : AV} {u : Value} (h : ValR ρ' v u) : ValR (ρ.shift ρ') (shV ρ.h.length v) u := by
  by_cases ht : ∃ vs, v = .tup vs
  · obtain ⟨vs, rfl⟩ := ht
    obtain ⟨us, e, h⟩ := h
    exact ⟨us, e, sh1_vals h⟩
  · have ht' : ∀ vs, v ≠ .tup vs := fun vs h => ht ⟨vs, h⟩
    have e1 : shV ρ.h.length v = sh1 ρ.h.length v := by cases v <;> first | rfl | exact absurd rfl (ht' _)
    have h1 := sh1_val1 (ρ := ρ) ((valR_eq ht').1 h)
    rw [e1]
    refine (valR_eq ?_).2 h1
    intro vs hc
    cases v <;> first | exact absurd rfl (ht' _) | simp [sh1, shCell, shC] at hc

theorem sh1_nonil {k : Nat} {e : AV} (h : noNil e) : noNil (sh1 k e) := by
  have hx : ∀ {d : AV}, d ≠ .nilS → shCell k d ≠ .nilS := by intro d hd; cases d <;> first | exact absurd rfl hd | simp [shCell, shC]
  intro c hc
  cases e with
  | agg cs =>
    obtain ⟨d, hd, rfl⟩ := List.mem_map.1 (show c ∈ cs.map (shCell k) from hc)
    exact hx (h d hd)
  | _ =>
    simp [sh1, shCell, shC, cells] at hc
    subst hc
    first | (have := h _ (List.mem_cons_self ..); simp at this; done) | simp

theorem shift_nx (ho : Ok ρ) {ρ' : R} (hx : Nx ρ.bare ρ') : Nx ρ (ρ.shift ρ') := by
  have hkeep : ∀ k, k < ρ.w.heap.size → ρ'.w.heap[k]? = ρ.w.heap[k]? := fun k hk => hx.fr.fr k hk (fun n b h => by cases h)
  have hnew : ∀ (n : Nat) (b : Blk), ρ'.h[n]? = some b → b.els ≠ [] → ρ.w.heap.size ≤ ρ'.φ n := fun n b h h0 => by
    rcases hx.fr.nw n b h h0 with q | ⟨b0, q, _⟩
    · exact q
    · cases q
  have hzn : ∀ k, ρ'.Z k → ρ.Z k ∨ ρ.w.heap.size ≤ k := fun k hk => by
    rcases hx.zn k hk with q | q | ⟨n, c, q1, q2, _, q4⟩
    · exact .inl q
    · exact .inr q
    · exact .inr (q4 ▸ hnew n c q1 q2)
  have hle : Le ρ (ρ.shift ρ') := by
    refine ⟨fun k hk => ⟨(hx.le.z k hk).1, hkeep k (ho.zlt k hk)⟩, fun n b hb => ?_⟩
    have hn := (List.getElem?_eq_some_iff.1 hb).1
    refine ⟨b, shift_old hb, Nat.le_refl _, rfl, fun _ => ⟨rfl, rfl, fun hne => ⟨shift_phi_old hn, ?_⟩⟩⟩
    show capCells ρ'.w (ρ.φ n) = _
    unfold capCells
    rw [hkeep _ (ho.lt hb hne)]
  refine ⟨hle, ⟨hx.ok.zlt, fun n c hc => ?_, fun n m x y hx1 hy1 hx0 hy0 hnm => ?_⟩, ⟨hx.fr.os, hx.fr.tape, hx.fr.output, hx.fr.size, fun k hk _ => hkeep k hk, fun n c hc hne => ?_⟩, fun n b hb => ?_, fun n b hb hf hne => ?_, fun k hk => (hzn k hk).imp id .inl⟩
  · rcases shift_inv hc with ⟨hn, hb⟩ | ⟨m, b, rfl, hb, rfl⟩
    · refine (ho.blk n c hb).keep hle fun hne => ⟨shift_phi_old hn, hkeep _ (ho.lt hb hne), fun hf hz => ?_⟩
      rcases hzn _ hz with q | q
      · obtain ⟨cur, _, c2, _⟩ := (ho.blk n c hb).mem hne
        exact c2 hf q
      · have := ho.lt hb hne; omega
    · have B := hx.ok.blk m b hb
      have hrfb : b.rf = false → (shB ρ.h.length b).els = b.els := fun hr => by
        show (bif b.rf then _ else _) = _
        rw [hr]; rfl
      have hrft : b.rf = true → (shB ρ.h.length b).els = b.els.map (sh1 ρ.h.length) := fun hr => by
        show (bif b.rf then _ else _) = _
        rw [hr]; rfl
      refine ⟨B.pos, fun hbx e he => ?_, fun hr e he => ?_, fun hbx => by rw [shB_len]; exact B.box hbx, by rw [shB_len]; exact B.len, fun h0 => ?_⟩
      · cases hr : b.rf with
        | false => rw [hrfb hr] at he; exact B.can hbx e he
        | true =>
          rw [hrft hr] at he
          obtain ⟨d, hd, rfl⟩ := List.mem_map.1 he
          exact sh1_nonil (B.can hbx d hd)
      · have hr' : b.rf = false := hr
        rw [hrfb hr'] at he
        exact B.rf hr' e he
      · obtain ⟨cur, c1, c2, c3, c4⟩ := B.mem fun h => h0 (shB_nil.2 h)
        rw [shift_phi_new, shB_len]
        refine ⟨cur, c1, c2, c3, fun i e hi => ?_⟩
        cases hr : b.rf with
        | false =>
          rw [hrfb hr] at hi
          obtain ⟨us, u1, u2, u3⟩ := c4 i e hi
          exact ⟨us, u1, u2, elem_move u3 (B.rf hr e (List.mem_of_getElem? hi)) fun k hk => ⟨hk, rfl⟩⟩
        | true =>
          rw [hrft hr] at hi
          obtain ⟨d, hd, rfl⟩ := map_get hi
          obtain ⟨us, u1, u2, u3⟩ := c4 i d hd
          exact ⟨us, u1, u2, sh1_elem u3⟩
  · rcases shift_inv hx1 with ⟨hn, hb⟩ | ⟨n', b, rfl, hb, rfl⟩
    · rw [shift_phi_old hn]
      rcases shift_inv hy1 with ⟨hm, hc⟩ | ⟨m', c, rfl, hc, rfl⟩
      · rw [shift_phi_old hm]; exact ho.inj n m x y hb hc hx0 hy0 hnm
      · rw [shift_phi_new]
        have := ho.lt hb hx0
        have := hnew m' c hc fun h => hy0 (shB_nil.2 h)
        omega
    · rw [shift_phi_new]
      have hb0 : b.els ≠ [] := fun h => hx0 (shB_nil.2 h)
      rcases shift_inv hy1 with ⟨hm, hc⟩ | ⟨m', c, rfl, hc, rfl⟩
      · rw [shift_phi_old hm]
        have := ho.lt hc hy0
        have := hnew n' b hb hb0
        omega
      · rw [shift_phi_new]
        exact hx.ok.inj n' m' b c hb hc hb0 (fun h => hy0 (shB_nil.2 h)) (by omega)
  · rcases shift_inv hc with ⟨hn, hb⟩ | ⟨m, b, rfl, hb, rfl⟩
    · exact .inr ⟨c, hb, hne, id, shift_phi_old hn⟩
    · rw [shift_phi_new]; exact .inl (hnew m b hb fun h => hne (shB_nil.2 h))
  · have hn := (List.getElem?_eq_some_iff.1 hb).1
    refine ⟨b, shift_old hb, rfl, rfl, rfl, Nat.le_refl _, fun _ hne => ⟨shift_phi_old hn, ?_⟩⟩
    show capCells ρ'.w (ρ.φ n) = _
    unfold capCells
    rw [hkeep _ (ho.lt hb hne)]
  · exact ⟨b, shift_old hb, hf, hne, shift_phi_old (List.getElem?_eq_some_iff.1 hb).1⟩

theorem anyRef_vals : ∀ {as : List AV} {us : List Value}, anyRef as = false → ValsR ρ as us → ValsR ρ.bare as us
  | [], _, _, h => h
  | a :: as, _, hr, ⟨u, r, e, h1, h2⟩ => by
    simp only [anyRef, Bool.or_eq_false_iff] at hr
    refine ⟨u, r, e, ?_, anyRef_vals hr.2 h2⟩
    have hm := hasRefs_mem (show hasRefs (cells a) = false from hr.1)
    cases a with
    | agg cs =>
      obtain ⟨us, e, h⟩ := h1
      have h' := CellsR.iff.1 h
      exact ⟨us, e, (CellsR.iff (ρ := ρ.bare)).2 ⟨h'.1, fun j c u h3 h4 => cell_move (h'.2 j c u h3 h4) (hm c (List.mem_of_getElem? h3)) fun k hk => ⟨hk, rfl⟩⟩⟩
    | tup vs => cases hm _ (List.mem_cons_self ..)
    | undef => cases hm _ (List.mem_cons_self ..)
    | fn f cap => cases hm _ (List.mem_cons_self ..)
    | own n v => cases hm _ (List.mem_cons_self ..)
    | sl n v o l => cases hm _ (List.mem_cons_self ..)
    | ptr n v i o => cases hm _ (List.mem_cons_self ..)
    | rptr c o => cases hm _ (List.mem_cons_self ..)
    | _ => exact h1
end
end Go.Proofs.Ytiibidadpgknjaa.Fi
