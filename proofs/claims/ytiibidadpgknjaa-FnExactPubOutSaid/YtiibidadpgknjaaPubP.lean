/- Publications: what the program answers. -/
import Derived.Test.YtiibidadpgknjaaWordP
namespace Go.Proofs.Ytiibidadpgknjaa.Fi
open Go

def rises : Bytes → List Bytes → Bool
  | _, [] => true
  | p, s :: r => wordOk s && Op.bytesLess p s && rises s r
def headOk : List Bytes → Bool
  | [] => true
  | s :: r => wordOk s && rises s r
def pubOk (ss : List Bytes) : Bool := headOk ss && decide (ss.length ≤ 6)
def upAt (ss : List Bytes) : Nat → Bool
  | 0 => headOk ss
  | k + 1 => rises (ss.getD k []) (ss.drop (k + 1))
theorem upAt_end {ss : List Bytes} {i : Nat} (h : ss.length ≤ i) : upAt ss i = true := by
  cases i with
  | zero => cases ss with
    | nil => rfl
    | cons s r => simp at h
  | succ k => simp [upAt, drop_end h, rises]
theorem upAt_zero {ss : List Bytes} (h : 0 < ss.length) : upAt ss 0 = (wordOk ss[0] && upAt ss 1) := by
  cases ss with
  | nil => simp at h
  | cons s r => simp [upAt, headOk]
theorem upAt_succ {ss : List Bytes} {k : Nat} (h : k + 1 < ss.length) : upAt ss (k + 1) = (wordOk ss[k + 1] && Op.bytesLess ss[k] ss[k + 1] && upAt ss (k + 2)) := by
  have h0 : k < ss.length := by omega
  have e : ss.getD k [] = ss[k] := by rw [List.getD_eq_getElem?_getD, List.getElem?_eq_getElem h0]; rfl
  have e' : ss.getD (k + 1) [] = ss[k + 1] := by rw [List.getD_eq_getElem?_getD, List.getElem?_eq_getElem h]; rfl
  show rises (ss.getD k []) (ss.drop (k + 1)) = (_ && _ && rises (ss.getD (k + 1) []) (ss.drop (k + 2)))
  rw [e, e', drop_at h]
  rfl

theorem strs_len (ss : List Bytes) : (strs ss).length = ss.length := by simp [strs]
theorem strs_nth {ss : List Bytes} {i : Nat} (h : i < ss.length) : nth (strs ss) ((i : Int).toNat) = some (.str ss[i]) := nth_map h
theorem strs_below {ss : List Bytes} {i : Nat} (h : i < ss.length) : below (i : Int) (strs ss).length = true := below_nat (by rw [strs_len]; exact h)


theorem pubOkI_loop (ss : List Bytes) (hs : ∀ s ∈ ss, s.length ≤ 140737488351232) (hl : ss.length ≤ 140737488351232) : ∀ (n i : Nat), i + n = ss.length →
    Wp (run E0 51 0 true (loopT Try.f51 0) [1, 6, 7, 8] [.ptr 0 0 0 0, .lst 1 (strs ss), .int .i64 ((strs ss).length : Int), .int .i64 (i : Int)] [⟨1, 26, [.agg [.lst 1 (strs ss)]], true, false, false, 0⟩] false)
      (fun a => a = (.bool (upAt ss i && decide (ss.length ≤ 6)), [], false)) := by
  intro n
  induction n with
  | zero =>
    intro i hi
    have hL := strs_len ss
    refine prun F51 (fun oc oi ok hoc hoi hok => ?_)
    refine wp_lt0 (by omega) ?_
    exact wp_some (ans_bool (by rw [upAt_end (by omega)]; simp [leI_iff]; omega))
  | succ n ih =>
    intro i hi
    have hL := strs_len ss
    have hlt : i < ss.length := by omega
    have hw := wordI ss[i] (hs _ (List.getElem_mem hlt))
    refine prun F51 (fun oc oi ok hoc hoi hok => ?_)
    refine wp_lt1 (by omega) ?_
    refine wp_must ?_ ?_
    · exact and_at rfl (strs_below hlt)
    refine wp_bind (strs_nth hlt) ?_
    cases hwo : wordOk ss[i] with
    | false =>
      rw [hwo] at hw
      refine wp_oc hoc hw ?_
      refine wp_some ?_
      have : upAt ss i = false := by
        cases i with
        | zero => rw [upAt_zero hlt, hwo]; rfl
        | succ k => rw [upAt_succ hlt, hwo]; rfl
      rw [this]; rfl
    | true =>
      rw [hwo] at hw
      refine wp_oc hoc hw ?_
      refine wp_lt (fun h1 => ?_) (fun h1 => ?_)
      · obtain ⟨k, rfl⟩ : ∃ k, i = k + 1 := ⟨i - 1, by omega⟩
        have hk : k < ss.length := by omega
        have ek : ((k + 1 : Nat) : Int) - 1 = (k : Int) := by omega
        refine wp_numE (m := (k : Int)) ek (inR_i64 (by omega) (by omega)) ?_
        refine wp_must ?_ ?_
        · exact and_at rfl (strs_below hk)
        refine wp_bind (strs_nth hk) ?_
        refine wp_cond (fun h2 => ?_) (fun h2 => ?_)
        · refine wp_some ?_
          have h3 : Op.bytesLess ss[k] ss[k + 1] = false := by simpa using h2
          rw [upAt_succ hlt, h3]
          simp [one]
        · have h3 : Op.bytesLess ss[k] ss[k + 1] = true := by simpa using h2
          refine wp_num (inR_i64 (by omega) (by omega)) (wp_ok hok ?_)
          rw [upAt_succ hlt, h3, hwo]
          exact ih (k + 2) (by omega)
      · have h0 : i = 0 := by omega
        refine wp_num (inR_i64 (by omega) (by omega)) (wp_ok hok ?_)
        subst h0
        rw [upAt_zero hlt, hwo]
        exact ih 1 (by omega)
theorem pubOkI (ss : List Bytes) (hs : ∀ s ∈ ss, s.length ≤ 140737488351232) (hl : ss.length ≤ 140737488351232) : callP E0 51 [.agg [.lst 1 (strs ss)]] [] = some (.bool (pubOk ss), []) := by
  refine pcall F51 B51 (fun oc oi ok hoc hoi hok => ?_)
  exact wp_ok hok (pubOkI_loop ss hs hl ss.length 0 (by omega))

theorem pubOkS_loop (ss : List Bytes) (hs : ∀ s ∈ ss, s.length ≤ 140737488351232) (hl : ss.length ≤ 140737488351232) : ∀ (n i : Nat), i + n = ss.length →
    Wp (run E0 48 0 true (loopT Try.f48 0) [1, 6, 7, 8] [.ptr 0 0 0 0, .lst 1 (strs ss), .int .i64 ((strs ss).length : Int), .int .i64 (i : Int)] [⟨1, 26, [.agg [.lst 1 (strs ss)]], true, false, false, 0⟩] false)
      (fun a => a = (.bool (upAt ss i && decide (ss.length ≤ 6)), [], false)) := by
  intro n
  induction n with
  | zero =>
    intro i hi
    have hL := strs_len ss
    refine prun F48 (fun oc oi ok hoc hoi hok => ?_)
    refine wp_lt0 (by omega) ?_
    exact wp_some (ans_bool (by rw [upAt_end (by omega)]; simp [leI_iff]; omega))
  | succ n ih =>
    intro i hi
    have hL := strs_len ss
    have hlt : i < ss.length := by omega
    have hw := wordS ss[i] (hs _ (List.getElem_mem hlt))
    refine prun F48 (fun oc oi ok hoc hoi hok => ?_)
    refine wp_lt1 (by omega) ?_
    refine wp_must ?_ ?_
    · exact and_at rfl (strs_below hlt)
    refine wp_bind (strs_nth hlt) ?_
    cases hwo : wordOk ss[i] with
    | false =>
      rw [hwo] at hw
      refine wp_oc hoc hw ?_
      refine wp_some ?_
      have : upAt ss i = false := by
        cases i with
        | zero => rw [upAt_zero hlt, hwo]; rfl
        | succ k => rw [upAt_succ hlt, hwo]; rfl
      rw [this]; rfl
    | true =>
      rw [hwo] at hw
      refine wp_oc hoc hw ?_
      refine wp_lt (fun h1 => ?_) (fun h1 => ?_)
      · obtain ⟨k, rfl⟩ : ∃ k, i = k + 1 := ⟨i - 1, by omega⟩
        have hk : k < ss.length := by omega
        have ek : ((k + 1 : Nat) : Int) - 1 = (k : Int) := by omega
        refine wp_numE (m := (k : Int)) ek (inR_i64 (by omega) (by omega)) ?_
        refine wp_must ?_ ?_
        · exact and_at rfl (strs_below hk)
        refine wp_bind (strs_nth hk) ?_
        refine wp_cond (fun h2 => ?_) (fun h2 => ?_)
        · refine wp_some ?_
          have h3 : Op.bytesLess ss[k] ss[k + 1] = false := by simpa using h2
          rw [upAt_succ hlt, h3]
          simp [one]
        · have h3 : Op.bytesLess ss[k] ss[k + 1] = true := by simpa using h2
          refine wp_num (inR_i64 (by omega) (by omega)) (wp_ok hok ?_)
          rw [upAt_succ hlt, h3, hwo]
          exact ih (k + 2) (by omega)
      · have h0 : i = 0 := by omega
        refine wp_num (inR_i64 (by omega) (by omega)) (wp_ok hok ?_)
        subst h0
        rw [upAt_zero hlt, hwo]
        exact ih 1 (by omega)
theorem pubOkS (ss : List Bytes) (hs : ∀ s ∈ ss, s.length ≤ 140737488351232) (hl : ss.length ≤ 140737488351232) : callP E0 48 [.agg [.lst 1 (strs ss)]] [] = some (.bool (pubOk ss), []) := by
  refine pcall F48 B48 (fun oc oi ok hoc hoi hok => ?_)
  exact wp_ok hok (pubOkS_loop ss hs hl ss.length 0 (by omega))

end Go.Proofs.Ytiibidadpgknjaa.Fi
