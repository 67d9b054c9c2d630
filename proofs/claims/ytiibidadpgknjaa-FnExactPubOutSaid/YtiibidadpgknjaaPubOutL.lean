/- PubOut: its law. -/
import Derived.Test.YtiibidadpgknjaaPubOutR
import Derived.Test.YtiibidadpgknjaaRow
namespace Go.Proofs.Ytiibidadpgknjaa.Fi
open Go

theorem ty_str {x : AV} (h : TyV .str x) : ∃ s : Bytes, x = .str s ∧ s.length ≤ 140737488351232 := by
  obtain ⟨h1, _, h3⟩ := h
  obtain ⟨s, e, hs⟩ := (show ∃ s, cells x = [.str s] ∧ s.length ≤ reachN by unfold TyC at h1; exact h1)
  have h3' := h3 rfl
  rw [h3'] at e
  injection e with e
  exact ⟨s, e, hs⟩
theorem ty_strs : ∀ {l : List AV}, (∀ x ∈ l, TyV .str x) → ∃ ss : List Bytes, l = strs ss ∧ ∀ s ∈ ss, s.length ≤ 140737488351232
  | [], _ => ⟨[], rfl, fun s h => by cases h⟩
  | x :: l, h => by
    obtain ⟨s, rfl, hs⟩ := ty_str (h x (List.mem_cons_self ..))
    obtain ⟨ss, rfl, hss⟩ := ty_strs fun y hy => h y (List.mem_cons_of_mem _ hy)
    refine ⟨s :: ss, rfl, fun u hu => ?_⟩
    rcases List.mem_cons.1 hu with rfl | hu
    · exact hs
    · exact hss u hu
theorem ty_pub {x : AV} (h : TyV (.st [.sl 16 .str]) x) : ∃ ss : List Bytes, x = .agg [.lst 1 (strs ss)] ∧ (∀ s ∈ ss, s.length ≤ 140737488351232) ∧ ss.length ≤ 140737488351232 := by
  obtain ⟨h1, h2, _⟩ := h
  obtain ⟨cs, rfl⟩ := h2 rfl
  unfold TyC TyL at h1
  obtain ⟨a, b, rfl, ha, hb⟩ := h1
  unfold TyC at ha
  unfold TyL at hb
  obtain ⟨l, rfl, hl, he⟩ := ha
  subst hb
  obtain ⟨ss, rfl, hs⟩ := ty_strs (l := l) fun x hx => he x hx
  refine ⟨ss, rfl, hs, ?_⟩
  rw [strs_len] at hl
  unfold reachN at hl
  omega

theorem ne_self {x : Int} (h : (x != x) = true) : False := by simp at h
theorem takeN_strs (xs ys : List Bytes) : takeN xs.length (strs (xs ++ ys)) = strs xs := by
  rw [takeN_eq]; simp [strs]
theorem dirty_strs : ∀ (xs : List Bytes), dirtyEls (strs xs) = false
  | [] => rfl
  | x :: r => by show (dirtyCs (cells (.str x)) || dirtyEls (strs r)) = false; rw [dirty_strs r]; rfl
theorem pure_out (b0 b1 b2 : Blk) (xs : List Bytes) : pureB [3] 0 [b0, b1, b2, ⟨1, 9, strs xs, false, false, false, 0⟩] = true := by
  simp [pureB, hasN, dirty_strs]
  exact ⟨.inl rfl, .inl rfl, .inl rfl⟩
theorem outR_ok {t : Bytes} {ss : List Bytes} (h : (pubOk ss && wordOk t) = true) (hm : t ∈ ss) : outR t ss = .tup [.agg [.lst 1 (strs (less t ss))], .int .i64 0] := by
  have hlt : (less t ss).length ≠ ss.length := by
    intro e
    have := List.length_filter_eq_length_iff.1 e t hm
    simp at this
  unfold outR outV
  rw [if_pos h, if_neg hlt, if_neg hlt]
theorem outR_not {t : Bytes} {ss : List Bytes} (h : (pubOk ss && wordOk t) = true) (hm : t ∉ ss) : outR t ss = .tup [.agg [.lst 1 (strs [])], .int .i64 4] := by
  have hlt : (less t ss).length = ss.length := by
    refine List.length_filter_eq_length_iff.2 fun s hs => ?_
    simp
    intro e; exact hm (e ▸ hs)
  unfold outR outV
  rw [if_pos h, if_pos hlt, if_pos hlt]
theorem outR_bad {t : Bytes} {ss : List Bytes} (h : (pubOk ss && wordOk t) = false) : outR t ss = .tup [.agg [.lst 1 (strs [])], .int .i64 1] := by
  unfold outR
  rw [h]; rfl

set_option maxRecDepth 100000 in
theorem law_ok (ss : List Bytes) (t : Bytes) (hs : ∀ s ∈ ss, s.length ≤ 140737488351232) (hl : ss.length ≤ 140737488351232) (ht : t.length ≤ 1048576) (hz : 0 ≤ szStrs ss 1048576) (h : (pubOk ss && wordOk t) = true) (hm : t ∈ ss) :
    callP E0 3 [.agg [.lst 1 (strs ss)], .str t] [] = some (.bool true, []) := by
  obtain ⟨z1, z2, z3⟩ := szStrs_ok hz (by omega)
  have hl' : ss.length ≤ 1048576 := by omega
  have hsz := szPub_at ss hs hl 1048576 (by omega) (by omega)
  rw [if_neg (by omega)] at hsz
  have hto := toPub ss hl'
  have hS := outS_at t ss hs hl' (by omega)
  rw [outR_ok h hm] at hS
  have hP := outP_ok ss t hs hl' (by omega) h hm
  have hK : takeN (less t ss).length (strs (outK t ss)) = strs (less t ss) := takeN_strs _ _
  have hll := less_len (t := t) (ss := ss)
  have hE : callP E0 13 [.agg [.lst 1 (takeN (less t ss).length (strs (outK t ss)))], .agg [.lst 1 (strs (less t ss))]] [] = some (.bool true, []) := by
    rw [hK, eqPub_at (less t ss) (less t ss) (by omega) (by omega), decide_eq_true rfl]
  have hX := eqPub_at ss ss (by omega) (by omega)
  rw [decide_eq_true rfl] at hX
  have hM := markPubA ss 0 hl' (by omega) 1 (by omega)
  have hkl : (outK t ss).length = ss.length := by unfold outK blanks; simp; omega
  have hN := markPubS (outK t ss) (less t ss).length (by omega) (by omega) 1 (by omega)
  have hH : callP E0 15 [.agg [.lst 1 (takeN (less t ss).length (strs (marks 1 (less t ss).length ++ (outK t ss).drop (less t ss).length)))], .int .i64 ((1 : Nat) : Int)] [] = some (.int .i64 ((1 + (less t ss).length : Nat) : Int), []) := by
    have e := takeN_strs (marks 1 (less t ss).length) ((outK t ss).drop (less t ss).length)
    rw [marks_len] at e
    rw [e, heldPub_at _ (by rw [marks_len]; omega) 1 (by omega), held_marks, if_neg (by omega)]
  refine pcall F3 B3 (fun oc oi ok hoc hoi hok => ?_)
  refine wp_lt0 (by omega) ?_
  refine wp_oc hoc hsz ?_
  refine wp_lt0 (by omega) ?_
  refine wp_oi hoi hto ?_
  refine wp_oc hoc hS ?_
  refine wp_oi hoi hto ?_
  refine wp_oi hoi hP ?_
  refine wp_must (and_at rfl (pure_out _ _ _ _)) ?_
  refine wp_oc hoc hE ?_
  refine wp_oi hoi hto ?_
  refine wp_oc hoc hX ?_
  refine wp_oc hoc hM ?_
  refine wp_bind (putFix rfl (by rw [strs_len, strs_len, marks_len])) ?_
  refine wp_oc hoc hE ?_
  refine wp_oc hoc hN ?_
  refine wp_bind (putFix rfl (by rw [strs_len, strs_len, List.length_append, marks_len, List.length_drop, hkl]; omega)) ?_
  refine wp_oc hoc hH ?_
  refine wp_cond (fun h1 => ?_) (fun h1 => ?_)
  · exact (ne_self (x := ((1 + (less t ss).length : Nat) : Int)) h1).elim
  refine wp_oi hoi hto ?_
  refine wp_oi hoi hP ?_
  refine wp_must (and_at rfl (pure_out _ _ _ _)) ?_
  refine wp_oc hoc hE ?_
  refine wp_oc hoc hH ?_
  refine wp_cond (fun h1 => ?_) (fun h1 => ?_)
  · exact (ne_self (x := ((1 + (less t ss).length : Nat) : Int)) h1).elim
  exact wp_some rfl

set_option maxRecDepth 100000 in
theorem lawBad (ss : List Bytes) (t : Bytes) (hs : ∀ s ∈ ss, s.length ≤ 140737488351232) (hl : ss.length ≤ 140737488351232) (ht : t.length ≤ 1048576) (hz : 0 ≤ szStrs ss 1048576) (h : (pubOk ss && wordOk t) = false) :
    callP E0 3 [.agg [.lst 1 (strs ss)], .str t] [] = some (.bool true, []) := by
  obtain ⟨z1, z2, z3⟩ := szStrs_ok hz (by omega)
  have hl' : ss.length ≤ 1048576 := by omega
  have hsz := szPub_at ss hs hl 1048576 (by omega) (by omega)
  rw [if_neg (by omega)] at hsz
  have hto := toPub ss hl'
  have hS := outS_at t ss hs hl' (by omega)
  rw [outR_bad h] at hS
  have hP := outP_bad ss t hs hl' (by omega) h
  have hE : callP E0 13 [.agg [.lst 1 (strs [])], .agg [.lst 1 (strs [])]] [] = some (.bool true, []) := by
    rw [eqPub_at [] [] (by simp) (by simp), decide_eq_true rfl]
  have hX := eqPub_at ss ss (by omega) (by omega)
  rw [decide_eq_true rfl] at hX
  have hM := markPubA ss 0 hl' (by omega) 1 (by omega)
  have hN := markPubN 1 (by omega)
  have hH : callP E0 15 [.agg [.lst 1 (strs [])], .int .i64 ((1 : Nat) : Int)] [] = some (.int .i64 ((1 : Nat) : Int), []) := by
    rw [heldPub_at [] (by simp) 1 (by omega)]; rfl
  refine pcall F3 B3 (fun oc oi ok hoc hoi hok => ?_)
  refine wp_lt0 (by omega) ?_
  refine wp_oc hoc hsz ?_
  refine wp_lt0 (by omega) ?_
  refine wp_oi hoi hto ?_
  refine wp_oc hoc hS ?_
  refine wp_oi hoi hto ?_
  refine wp_oi hoi hP ?_
  refine wp_oc hoc hE ?_
  refine wp_oi hoi hto ?_
  refine wp_oc hoc hX ?_
  refine wp_oc hoc hM ?_
  refine wp_bind (putFix rfl (by rw [strs_len, strs_len, marks_len])) ?_
  refine wp_oc hoc hE ?_
  refine wp_oc hoc hN ?_
  refine wp_oc hoc hH ?_
  refine wp_oi hoi hto ?_
  refine wp_oi hoi hP ?_
  refine wp_oc hoc hE ?_
  refine wp_oc hoc hH ?_
  exact wp_some rfl

set_option maxRecDepth 100000 in
theorem lawNot (ss : List Bytes) (t : Bytes) (hs : ∀ s ∈ ss, s.length ≤ 140737488351232) (hl : ss.length ≤ 140737488351232) (ht : t.length ≤ 1048576) (hz : 0 ≤ szStrs ss 1048576) (h : (pubOk ss && wordOk t) = true) (hm : t ∉ ss) :
    callP E0 3 [.agg [.lst 1 (strs ss)], .str t] [] = some (.bool true, []) := by
  obtain ⟨z1, z2, z3⟩ := szStrs_ok hz (by omega)
  have hl' : ss.length ≤ 1048576 := by omega
  have hsz := szPub_at ss hs hl 1048576 (by omega) (by omega)
  rw [if_neg (by omega)] at hsz
  have hto := toPub ss hl'
  have hS := outS_at t ss hs hl' (by omega)
  rw [outR_not h hm] at hS
  have hP := outP_not ss t hs hl' (by omega) h hm
  have hE : callP E0 13 [.agg [.lst 1 (strs [])], .agg [.lst 1 (strs [])]] [] = some (.bool true, []) := by
    rw [eqPub_at [] [] (by simp) (by simp), decide_eq_true rfl]
  have hX := eqPub_at ss ss (by omega) (by omega)
  rw [decide_eq_true rfl] at hX
  have hM := markPubA ss 0 hl' (by omega) 1 (by omega)
  have hN := markPubN 1 (by omega)
  have hH : callP E0 15 [.agg [.lst 1 (strs [])], .int .i64 ((1 : Nat) : Int)] [] = some (.int .i64 ((1 : Nat) : Int), []) := by
    rw [heldPub_at [] (by simp) 1 (by omega)]; rfl
  refine pcall F3 B3 (fun oc oi ok hoc hoi hok => ?_)
  refine wp_lt0 (by omega) ?_
  refine wp_oc hoc hsz ?_
  refine wp_lt0 (by omega) ?_
  refine wp_oi hoi hto ?_
  refine wp_oc hoc hS ?_
  refine wp_oi hoi hto ?_
  refine wp_oi hoi hP ?_
  refine wp_oc hoc hE ?_
  refine wp_oi hoi hto ?_
  refine wp_oc hoc hX ?_
  refine wp_oc hoc hM ?_
  refine wp_bind (putFix rfl (by rw [strs_len, strs_len, marks_len])) ?_
  refine wp_oc hoc hE ?_
  refine wp_oc hoc hN ?_
  refine wp_oc hoc hH ?_
  refine wp_oi hoi hto ?_
  refine wp_oi hoi hP ?_
  refine wp_oc hoc hE ?_
  refine wp_oc hoc hH ?_
  exact wp_some rfl

theorem law_sz (ss : List Bytes) (t : Bytes) (hs : ∀ s ∈ ss, s.length ≤ 140737488351232) (hl : ss.length ≤ 140737488351232) (ht : t.length ≤ 1048576) (hz : szStrs ss 1048576 < 0) :
    callP E0 3 [.agg [.lst 1 (strs ss)], .str t] [] = some (.bool true, []) := by
  have hsz := szPub_at ss hs hl 1048576 (by omega) (by omega)
  rw [if_pos hz] at hsz
  refine pcall F3 B3 (fun oc oi ok hoc hoi hok => ?_)
  refine wp_lt0 (by omega) ?_
  refine wp_oc hoc hsz ?_
  exact wp_some rfl
theorem law_long (ss : List Bytes) (t : Bytes) (ht : 1048576 < t.length) :
    callP E0 3 [.agg [.lst 1 (strs ss)], .str t] [] = some (.bool true, []) := by
  refine pcall F3 B3 (fun oc oi ok hoc hoi hok => ?_)
  refine wp_lt1 (by omega) ?_
  exact wp_some rfl

theorem lawPubOut (zs : List AV) (h : TyVs [.st [.sl 16 .str], .str] zs) : callP E0 3 zs [] = some (.bool true, []) := by
  obtain ⟨a, r, rfl, ha, b, r', rfl, hb, rfl⟩ := h
  obtain ⟨ss, rfl, hs, hl⟩ := ty_pub ha
  obtain ⟨t, rfl, ht0⟩ := ty_str hb
  by_cases ht : t.length ≤ 1048576
  · by_cases hz : 0 ≤ szStrs ss 1048576
    · cases hg : pubOk ss && wordOk t with
      | false => exact lawBad ss t hs hl ht hz hg
      | true =>
        by_cases hm : t ∈ ss
        · exact law_ok ss t hs hl ht hz hg hm
        · exact lawNot ss t hs hl ht hz hg hm
    · exact law_sz ss t hs hl ht (by omega)
  · exact law_long ss t (by omega)
end Go.Proofs.Ytiibidadpgknjaa.Fi
