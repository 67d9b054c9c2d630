/- PubOut: what the reference's and the program's answer. -/
import Derived.Test.YtiibidadpgknjaaPubOutP
namespace Go.Proofs.Ytiibidadpgknjaa.Fi
open Go

/-- Without a word. -/
def less (t : Bytes) (ss : List Bytes) : List Bytes := ss.filter fun s => !(s == t)
def outV (n : Nat) (fs : List Bytes) : AV := .tup [.agg [.lst 1 (strs (if fs.length = n then [] else fs))], .int .i64 (if fs.length = n then 4 else 0)]
theorem less_cons {t s : Bytes} {r : List Bytes} : less t (s :: r) = if s = t then less t r else s :: less t r := by
  unfold less
  by_cases h : s = t <;> simp [h]
theorem less_len {t : Bytes} {ss : List Bytes} : (less t ss).length ≤ ss.length := List.length_filter_le ..

theorem strs_snoc {xs : List Bytes} {s : Bytes} : strs (xs ++ [s]) = strs xs ++ [.str s] := by simp [strs]
theorem outS_own (t : Bytes) (ss : List Bytes) (hl : ss.length ≤ 1048576) : ∀ (n i : Nat) (xs : List Bytes), i + n = ss.length → xs.length ≤ i →
    Wp (run E0 10 0 true (loopT Try.f10 0) [1, 2, 4, 6, 20, 21, 22] [.str t, .ptr 0 0 0 0, .ptr 1 0 0 0, .ptr 2 0 0 0, .lst 1 (strs ss), .int .i64 ((strs ss).length : Int), .int .i64 (i : Int)]
      [⟨1, 26, [.agg [.lst 1 (strs ss)]], true, false, false, 0⟩, ⟨1, 26, [.agg [.nilS]], true, false, false, 0⟩, ⟨1, 26, [.agg [.own 3 0]], true, true, false, 0⟩, ⟨1, 9, strs xs, false, false, false, 0⟩] false)
      (fun a => a = (outV ss.length (xs ++ less t (ss.drop i)), [], false)) := by
  intro n
  induction n with
  | zero =>
    intro i xs hi hx
    have hL := strs_len ss
    have hX := strs_len xs
    refine prun F10 (fun oc oi ok hoc hoi hok => ?_)
    refine wp_lt0 (by omega) ?_
    rw [drop_end (by omega)]
    rw [show xs ++ less t [] = xs by simp [less]]
    refine wp_cond (fun h1 => ?_) (fun h1 => ?_)
    · have h2 : xs.length = ss.length := by
        have := eq_of_beq h1
        change ((strs xs).length : Int) = ((strs ss).length : Int) at this
        omega
      exact wp_some (by unfold outV; rw [if_pos h2, if_pos h2]; rfl)
    · have h2 : xs.length ≠ ss.length := by
        intro h
        have : (((strs xs).length : Int) == ((strs ss).length : Int)) = false := h1
        rw [hX, hL, h] at this
        simp at this
      exact wp_some (by unfold outV; rw [if_neg h2, if_neg h2]; rfl)
  | succ n ih =>
    intro i xs hi hx
    have hL := strs_len ss
    have hX := strs_len xs
    have hlt : i < ss.length := by omega
    refine prun F10 (fun oc oi ok hoc hoi hok => ?_)
    refine wp_lt1 (by omega) ?_
    refine wp_must ?_ ?_
    · exact and_at rfl (strs_below hlt)
    refine wp_bind (strs_nth hlt) ?_
    rw [drop_at hlt, less_cons]
    refine wp_cond (fun h1 => ?_) (fun h1 => ?_)
    · have h2 : ss[i] ≠ t := by simpa using h1
      rw [if_neg h2]
      refine wp_must ?_ ?_
      · exact and_at rfl (fits_le (show (strs xs).length + 1 ≤ 1048576 by omega) (by decide))
      refine wp_num (inR_i64 (by omega) (by omega)) (wp_ok hok ?_)
      have := ih (i + 1) (xs ++ [ss[i]]) (by omega) (by simp; omega)
      rw [strs_snoc, List.append_assoc] at this
      exact this
    · have h2 : ss[i] = t := by simpa using h1
      rw [if_pos h2]
      refine wp_num (inR_i64 (by omega) (by omega)) (wp_ok hok ?_)
      exact ih (i + 1) xs (by omega) (by omega)
theorem outS_nil (t : Bytes) (ss : List Bytes) (hl : ss.length ≤ 1048576) (h0 : 0 < ss.length) : ∀ (n i : Nat), i + n = ss.length →
    Wp (run E0 10 0 true (loopT Try.f10 0) [1, 2, 4, 6, 20, 21, 22] [.str t, .ptr 0 0 0 0, .ptr 1 0 0 0, .ptr 2 0 0 0, .lst 1 (strs ss), .int .i64 ((strs ss).length : Int), .int .i64 (i : Int)]
      [⟨1, 26, [.agg [.lst 1 (strs ss)]], true, false, false, 0⟩, ⟨1, 26, [.agg [.nilS]], true, false, false, 0⟩, ⟨1, 26, [.agg [.nilS]], true, false, false, 0⟩] false)
      (fun a => a = (outV ss.length (less t (ss.drop i)), [], false)) := by
  intro n
  induction n with
  | zero =>
    intro i hi
    have hL := strs_len ss
    refine prun F10 (fun oc oi ok hoc hoi hok => ?_)
    refine wp_lt0 (by omega) ?_
    rw [drop_end (by omega)]
    refine wp_cond (fun h1 => ?_) (fun h1 => ?_)
    · exfalso
      have := eq_of_beq h1
      change ((0 : Nat) : Int) = ((strs ss).length : Int) at this
      omega
    · have h2 : (less t []).length ≠ ss.length := by simp [less]; omega
      exact wp_some (by unfold outV; rw [if_neg h2, if_neg h2]; rfl)
  | succ n ih =>
    intro i hi
    have hL := strs_len ss
    have hlt : i < ss.length := by omega
    refine prun F10 (fun oc oi ok hoc hoi hok => ?_)
    refine wp_lt1 (by omega) ?_
    refine wp_must ?_ ?_
    · exact and_at rfl (strs_below hlt)
    refine wp_bind (strs_nth hlt) ?_
    rw [drop_at hlt, less_cons]
    refine wp_cond (fun h1 => ?_) (fun h1 => ?_)
    · have h2 : ss[i] ≠ t := by simpa using h1
      rw [if_neg h2]
      refine wp_num (inR_i64 (by omega) (by omega)) (wp_ok hok ?_)
      exact outS_own t ss hl n (i + 1) [ss[i]] (by omega) (by simp)
    · have h2 : ss[i] = t := by simpa using h1
      rw [if_pos h2]
      refine wp_num (inR_i64 (by omega) (by omega)) (wp_ok hok ?_)
      exact ih (i + 1) (by omega)

/-- The answer as a law. -/
def outR (t : Bytes) (ss : List Bytes) : AV :=
  if pubOk ss && wordOk t then outV ss.length (less t ss) else .tup [.agg [.lst 1 (strs [])], .int .i64 1]
theorem outS_at (t : Bytes) (ss : List Bytes) (hs : ∀ s ∈ ss, s.length ≤ 140737488351232) (hl : ss.length ≤ 1048576) (ht : t.length ≤ 140737488351232) :
    callP E0 10 [.agg [.lst 1 (strs ss)], .str t] [] = some (outR t ss, []) := by
  have hp := pubOkS ss hs (by omega)
  have hw := wordS t ht
  have hL := strs_len ss
  unfold outR
  cases hpo : pubOk ss with
  | false =>
    rw [hpo] at hp
    refine pcall F10 B10 (fun oc oi ok hoc hoi hok => ?_)
    refine wp_oc hoc hp ?_
    exact wp_some rfl
  | true =>
    rw [hpo] at hp
    cases hwo : wordOk t with
    | false =>
      rw [hwo] at hw
      refine pcall F10 B10 (fun oc oi ok hoc hoi hok => ?_)
      refine wp_oc hoc hp ?_
      refine wp_oc hoc hw ?_
      exact wp_some rfl
    | true =>
      rw [hwo] at hw
      refine pcall F10 B10 (fun oc oi ok hoc hoi hok => ?_)
      refine wp_oc hoc hp ?_
      refine wp_oc hoc hw ?_
      by_cases h0 : 0 < ss.length
      · exact wp_ok hok (outS_nil t ss hl h0 ss.length 0 (by omega))
      · have : ss = [] := List.eq_nil_of_length_eq_zero (by omega)
        subst this
        refine wp_ok hok (prun F10 (fun oc oi ok hoc hoi hok => ?_))
        exact wp_some rfl
end Go.Proofs.Ytiibidadpgknjaa.Fi
