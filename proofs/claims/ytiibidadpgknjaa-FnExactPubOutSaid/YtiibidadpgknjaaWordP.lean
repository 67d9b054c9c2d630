/- Words, numbers between bounds: what the program answers. -/
import Derived.Test.YtiibidadpgknjaaFn
import Derived.Test.YtiibidadpgknjaaHelp
namespace Go.Proofs.Ytiibidadpgknjaa.Fi
open Go

abbrev Bytes := List UInt8
def strs (ss : List Bytes) : List AV := ss.map AV.str

theorem within_ok (x lo hi : Int) : callP E0 119 [.int .i64 x, .int .i64 lo, .int .i64 hi] [] = some (.bool (decide (lo ≤ x ∧ x ≤ hi)), []) := by
  refine pcall F119 B119 (fun oc oi ok hoc hoi hok => ?_)
  refine wp_le (fun h1 => ?_) (fun h1 => ?_)
  · exact wp_some (by simp [h1, one, leI_eq])
  · exact wp_some (by simp [h1, one])

def chOk (c : UInt8) : Bool := decide (97 ≤ c.toNat ∧ c.toNat ≤ 122)
def wordOk (s : Bytes) : Bool := s.all chOk && decide (1 ≤ s.length ∧ s.length ≤ 8)

theorem wordI_loop (s : Bytes) (hs : s.length ≤ 140737488351232) : ∀ (n i : Nat), i + n = s.length →
    Wp (run E0 52 0 true (loopT Try.f52 0) [0, 3] [.str s, .int .i64 (i : Int)] [] false) (fun a => a = (.bool ((s.drop i).all chOk && decide (1 ≤ s.length ∧ s.length ≤ 8)), [], false)) := by
  intro n
  induction n with
  | zero =>
    intro i hi
    refine prun F52 (fun oc oi ok hoc hoi hok => ?_)
    refine wp_lt0 (by omega) ?_
    refine wp_oc hoc (within_ok _ _ _) ?_
    exact wp_some (by have h9 := drop_end (show s.length ≤ i by omega); exact ans_bool (by simp [h9, leI_iff]; omega))
  | succ n ih =>
    intro i hi
    have hlt : i < s.length := by omega
    rw [drop_at hlt, List.all_cons]
    refine prun F52 (fun oc oi ok hoc hoi hok => ?_)
    refine wp_lt1 (by omega) ?_
    refine wp_below hlt (wp_nth hlt ?_)
    refine wp_lt (fun h2 => ?_) (fun h2 => ?_)
    · have hc : chOk s[i] = false := by simp [chOk]; omega
      exact wp_some (by rw [hc]; rfl)
    · refine wp_below hlt (wp_nth hlt ?_)
      refine wp_lt (fun h3 => ?_) (fun h3 => ?_)
      · have hc : chOk s[i] = false := by simp [chOk]; omega
        exact wp_some (by rw [hc]; rfl)
      · have hc : chOk s[i] = true := by simp [chOk]; omega
        refine wp_num (inR_i64 (by omega) (by omega)) (wp_ok hok ?_)
        rw [hc]
        exact ih (i + 1) (by omega)
theorem wordI (s : Bytes) (hs : s.length ≤ 140737488351232) : callP E0 52 [.str s] [] = some (.bool (wordOk s), []) := by
  refine pcall F52 B52 (fun oc oi ok hoc hoi hok => ?_)
  exact wp_ok hok (wordI_loop s hs s.length 0 (by omega))

theorem wordS_loop (s : Bytes) (hs : s.length ≤ 140737488351232) : ∀ (n i : Nat), i + n = s.length →
    Wp (run E0 49 0 true (loopT Try.f49 0) [0, 3] [.str s, .int .i64 (i : Int)] [] false) (fun a => a = (.bool ((s.drop i).all chOk && decide (1 ≤ s.length ∧ s.length ≤ 8)), [], false)) := by
  intro n
  induction n with
  | zero =>
    intro i hi
    refine prun F49 (fun oc oi ok hoc hoi hok => ?_)
    refine wp_lt0 (by omega) ?_
    refine wp_le (fun h2 => ?_) (fun h2 => ?_)
    · exact wp_some (by have h9 := drop_end (show s.length ≤ i by omega); exact ans_bool (by simp [h9, leI_iff]; omega))
    · exact wp_some (by have h9 := drop_end (show s.length ≤ i by omega); exact ans_bool (by simp [h9, leI_iff]; omega))
  | succ n ih =>
    intro i hi
    have hlt : i < s.length := by omega
    rw [drop_at hlt, List.all_cons]
    refine prun F49 (fun oc oi ok hoc hoi hok => ?_)
    refine wp_lt1 (by omega) ?_
    refine wp_below hlt (wp_nth hlt ?_)
    refine wp_lt (fun h2 => ?_) (fun h2 => ?_)
    · have hc : chOk s[i] = false := by simp [chOk]; omega
      exact wp_some (by rw [hc]; rfl)
    · refine wp_below hlt (wp_nth hlt ?_)
      refine wp_lt (fun h3 => ?_) (fun h3 => ?_)
      · have hc : chOk s[i] = false := by simp [chOk]; omega
        exact wp_some (by rw [hc]; rfl)
      · have hc : chOk s[i] = true := by simp [chOk]; omega
        refine wp_num (inR_i64 (by omega) (by omega)) (wp_ok hok ?_)
        rw [hc]
        exact ih (i + 1) (by omega)
theorem wordS (s : Bytes) (hs : s.length ≤ 140737488351232) : callP E0 49 [.str s] [] = some (.bool (wordOk s), []) := by
  refine pcall F49 B49 (fun oc oi ok hoc hoi hok => ?_)
  exact wp_ok hok (wordS_loop s hs s.length 0 (by omega))
end Go.Proofs.Ytiibidadpgknjaa.Fi
