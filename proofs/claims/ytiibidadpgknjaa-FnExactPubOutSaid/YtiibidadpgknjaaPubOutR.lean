/- PubOut: the program's. -/
import Derived.Test.YtiibidadpgknjaaPubOutQ
namespace Go.Proofs.Ytiibidadpgknjaa.Fi
open Go

/-- The program's PubOut's memory: its arguments, its result, the copy. -/
abbrev outH (ss : List Bytes) (t : Bytes) (xs : List Bytes) : List Blk :=
  [⟨1, 26, [.agg [.lst 1 (strs ss)]], true, false, false, 0⟩, ⟨1, 9, [.str t], true, false, false, 0⟩, ⟨1, 26, [.agg [.nilS]], true, false, false, 0⟩, ⟨1, 9, strs xs, false, false, false, 0⟩]

theorem first_at {t : Bytes} : ∀ {ss : List Bytes}, t ∈ ss → ∃ (k : Nat) (h : k < ss.length), ss[k] = t ∧ ∀ (j : Nat) (h : j < k), ss[j] ≠ t
  | s :: r, h => by
    by_cases e : s = t
    · exact ⟨0, by simp, e, fun j h => by omega⟩
    · have h' : t ∈ r := by
        rcases List.mem_cons.1 h with h | h
        · exact absurd h.symm e
        · exact h
      obtain ⟨k, hk, h1, h2⟩ := first_at h'
      refine ⟨k + 1, by simpa using hk, by simpa using h1, fun j hj => ?_⟩
      cases j with
      | zero => simpa using e
      | succ j => simpa using h2 j (by omega)
theorem outC (ss : List Bytes) (t s : Bytes) (xs : List Bytes) : callI E0 56 [.str s, .ptr 1 0 0 0] (outH ss t xs) = some (.bool (s == t), outH ss t xs, false) := by
  refine picall F56 B56 (fun oc oi ok hoc hoi hok => ?_)
  exact wp_some rfl

theorem outI_loop (ss : List Bytes) (t : Bytes) (xs : List Bytes) (hl : xs.length ≤ 1048576) (k : Nat) (hk : k < xs.length) (hkt : xs[k] = t) (hb : ∀ (j : Nat) (h : j < k), xs[j] ≠ t) : ∀ (n i : Nat), i + n = k →
    Wp (run E0 121 4 false (loopT Try.f121 0) [0, 1, 7, 8] [.own 3 0, .fn 56 [.ptr 1 0 0 0], .int .i64 ((strs xs).length : Int), .int .i64 (i : Int)] (outH ss t xs) false)
      (fun a => a = (.int .i64 (k : Int), outH ss t xs, false)) := by
  intro n
  induction n with
  | zero =>
    intro i hi
    have hL := strs_len xs
    obtain rfl : i = k := by omega
    refine prun F121 (fun oc oi ok hoc hoi hok => ?_)
    refine wp_lt1 (by omega) ?_
    refine wp_must ?_ ?_
    · exact and_at rfl (strs_below hk)
    refine wp_bind (strs_nth hk) ?_
    have h := outC ss t xs[i] xs
    rw [hkt, show (t == t) = true by simp] at h
    rw [hkt]
    refine wp_oi hoi h ?_
    exact wp_some rfl
  | succ n ih =>
    intro i hi
    have hL := strs_len xs
    have hlt : i < xs.length := by omega
    refine prun F121 (fun oc oi ok hoc hoi hok => ?_)
    refine wp_lt1 (by omega) ?_
    refine wp_must ?_ ?_
    · exact and_at rfl (strs_below hlt)
    refine wp_bind (strs_nth hlt) ?_
    have h := outC ss t xs[i] xs
    rw [show (xs[i] == t) = false by simpa using hb i (by omega)] at h
    refine wp_oi hoi h ?_
    refine wp_num (inR_i64 (by omega) (by omega)) (wp_ok hok ?_)
    exact ih (i + 1) (by omega)
theorem outI (ss : List Bytes) (t : Bytes) (xs : List Bytes) (hl : xs.length ≤ 1048576) (k : Nat) (hk : k < xs.length) (hkt : xs[k] = t) (hb : ∀ (j : Nat) (h : j < k), xs[j] ≠ t) :
    callI E0 121 [.own 3 0, .fn 56 [.ptr 1 0 0 0]] (outH ss t xs) = some (.int .i64 (k : Int), outH ss t xs, false) := by
  refine picall F121 B121 (fun oc oi ok hoc hoi hok => ?_)
  exact wp_ok hok (outI_loop ss t xs hl k hk hkt hb k 0 (by omega))

/-! ### slices.DeleteFunc -/
def blanks (n : Nat) : List Bytes := List.replicate n []
theorem clear_at {xs : List Bytes} {i n : Nat} (h : i + n = xs.length) : splice (strs xs) i (List.replicate n (AV.str [])) = strs (xs.take i ++ blanks n) := by
  unfold splice
  rw [takeN_eq, dropN_eq, List.length_replicate, List.drop_eq_nil_of_le (by rw [strs_len]; omega)]
  simp [strs, blanks]
theorem outD_loop (ss : List Bytes) (t : Bytes) (ys : List Bytes) (hl : ys.length ≤ 1048576) : ∀ (n j i : Nat) (xs : List Bytes), j + n = ys.length → i < j → xs.length = ys.length → xs.take i = less t (ys.take j) → xs.drop j = ys.drop j →
    Wp (run E0 54 4 false (loopT Try.f54 0) [0, 1, 5, 6] [.own 3 0, .fn 56 [.ptr 1 0 0 0], .int .i64 (i : Int), .int .i64 (j : Int)] (outH ss t xs) false)
      (fun a => a = (.sl 3 0 0 (less t ys).length, outH ss t (less t ys ++ blanks (ys.length - (less t ys).length)), false)) := by
  intro n
  induction n with
  | zero =>
    intro j i xs hj hi hx ht hd
    have hL := strs_len xs
    refine prun F54 (fun oc oi ok hoc hoi hok => ?_)
    refine wp_lt0 (show ¬((j : Int) < ((strs xs).length : Int)) by omega) ?_
    have hT : xs.take i = less t ys := by rw [ht, List.take_of_length_le (by omega)]
    have hle := less_len (t := t) (ss := ys)
    have hi' : (less t ys).length = i := by rw [← hT]; simp; omega
    refine wp_ifs (and_at (and_at (leI_iff.2 (by omega)) (leI_iff.2 (show (i : Int) ≤ ((strs xs).length : Int) by omega))) (leI_iff.2 (Int.le_refl _))) ?_
    have hcl : splice (strs xs) ((i : Int).toNat) (List.replicate (((strs xs).length : Int).toNat - (i : Int).toNat) (AV.str [])) = strs (xs.take i ++ blanks (xs.length - i)) := by
      rw [Int.toNat_natCast, Int.toNat_natCast, hL]
      exact clear_at (by omega)
    refine wp_ifs (and_at (and_at (leI_iff.2 (by omega)) (leI_iff.2 (by omega))) (leI_iff.2 (show (i : Int) ≤ ((splice (strs xs) ((i : Int).toNat) (List.replicate (((strs xs).length : Int).toNat - (i : Int).toNat) (AV.str []))).length : Int) from ?_))) ?_
    · rw [hcl, strs_len]; simp [blanks]; omega
    refine wp_some ?_
    refine Eq.trans (b := ((.sl 3 0 0 i, [⟨1, 26, [.agg [.lst 1 (strs ss)]], true, false, false, 0⟩, ⟨1, 9, [.str t], true, false, false, 0⟩, ⟨1, 26, [.agg [.nilS]], true, false, false, 0⟩,
      ⟨1, 9, splice (strs xs) ((i : Int).toNat) (List.replicate (((strs xs).length : Int).toNat - (i : Int).toNat) (AV.str [])), false, false, false, 0⟩], false) : Ans)) rfl ?_
    rw [hcl, hT, hi', hx]
  | succ n ih =>
    intro j i xs hj hi hx ht hd
    have hL := strs_len xs
    have hlt : j < xs.length := by omega
    have hlt' : j < ys.length := by omega
    have hxy : xs[j] = ys[j] := by
      have := congrArg (fun l => l[0]?) hd
      simp only [List.getElem?_drop, Nat.add_zero] at this
      rw [List.getElem?_eq_getElem hlt, List.getElem?_eq_getElem hlt'] at this
      exact Option.some.inj this
    refine prun F54 (fun oc oi ok hoc hoi hok => ?_)
    refine wp_lt1 (show (j : Int) < ((strs xs).length : Int) by omega) ?_
    refine wp_must ?_ ?_
    · exact and_at rfl (strs_below hlt)
    refine wp_bind (strs_nth hlt) ?_
    have h := outC ss t xs[j] xs
    have htk : ys.take (j + 1) = ys.take j ++ [ys[j]] := List.take_succ_eq_append_getElem hlt'
    by_cases hc : xs[j] = t
    · rw [show (xs[j] == t) = true by simpa using hc] at h
      refine wp_oi hoi h ?_
      refine wp_num (inR_i64 (by omega) (by omega)) (wp_ok hok ?_)
      refine ih (j + 1) i xs (by omega) (by omega) hx ?_ ?_
      · rw [ht, htk]; simp [less, ← hxy, hc]
      · rw [← List.drop_drop, hd, List.drop_drop]
    · rw [show (xs[j] == t) = false by simpa using hc] at h
      refine wp_oi hoi h ?_
      have hli : i < xs.length := by omega
      refine wp_must ?_ ?_
      · exact and_at rfl (strs_below hli)
      refine wp_bind (strs_nth hli) ?_
      refine wp_num (inR_i64 (by omega) (by omega)) ?_
      refine wp_num (inR_i64 (by omega) (by omega)) (wp_ok hok ?_)
      have := ih (j + 1) (i + 1) (xs.set i xs[j]) (by omega) (by omega) (by simpa using hx) ?_ ?_
      · rw [outH, ← strs_upd] at this
        exact this
      · rw [List.take_succ_eq_append_getElem (by simpa using hli), List.take_set_of_le (Nat.le_refl _), List.getElem_set_self, ht, htk]
        simp [less, ← hxy, hc]
      · rw [List.drop_set_of_lt (by omega), ← List.drop_drop, hd, List.drop_drop]
theorem outD (ss : List Bytes) (t : Bytes) (ys : List Bytes) (hl : ys.length ≤ 1048576) (hm : t ∈ ys) :
    callI E0 54 [.own 3 0, .fn 56 [.ptr 1 0 0 0]] (outH ss t ys) = some (.sl 3 0 0 (less t ys).length, outH ss t (less t ys ++ blanks (ys.length - (less t ys).length)), false) := by
  obtain ⟨k, hk, hkt, hb⟩ := first_at hm
  have h1 := outI ss t ys hl k hk hkt hb
  refine picall F54 B54 (fun oc oi ok hoc hoi hok => ?_)
  refine wp_oi hoi h1 ?_
  refine wp_num (inR_i64 (by omega) (by omega)) (wp_ok hok ?_)
  refine outD_loop ss t ys hl (ys.length - (k + 1)) (k + 1) k ys (by omega) (by omega) rfl ?_ rfl
  rw [List.take_succ_eq_append_getElem hk, hkt]
  unfold less
  rw [List.filter_append]
  simp
  refine (List.filter_eq_self.2 fun s h => ?_).symm
  obtain ⟨j, hj, rfl⟩ := List.getElem_of_mem h
  simp at hj
  simpa using hb j (by omega)

/-- What the call leaves behind. -/
def outK (t : Bytes) (ss : List Bytes) : List Bytes := less t ss ++ blanks (ss.length - (less t ss).length)
abbrev outB (ss : List Bytes) (t : Bytes) : List Blk :=
  [⟨1, 26, [.agg [.lst 1 (strs ss)]], true, false, false, 0⟩, ⟨1, 9, [.str t], true, false, false, 0⟩, ⟨1, 26, [.agg [.nilS]], true, false, false, 0⟩]
theorem outP_bad (ss : List Bytes) (t : Bytes) (hs : ∀ s ∈ ss, s.length ≤ 140737488351232) (hl : ss.length ≤ 1048576) (ht : t.length ≤ 140737488351232) (h : (pubOk ss && wordOk t) = false) :
    callI E0 12 [.agg [.lst 1 (strs ss)], .str t] [] = some (.tup [.agg [.nilS], .int .i64 1], outB ss t, false) := by
  have hp := pubOkI ss hs (by omega)
  have hw := wordI t ht
  cases hpo : pubOk ss with
  | false =>
    rw [hpo] at hp
    refine picall F12 B12 (fun oc oi ok hoc hoi hok => ?_)
    refine wp_oc hoc hp ?_
    exact wp_some rfl
  | true =>
    rw [hpo] at hp h
    rw [Bool.true_and] at h
    rw [h] at hw
    refine picall F12 B12 (fun oc oi ok hoc hoi hok => ?_)
    refine wp_oc hoc hp ?_
    refine wp_oc hoc hw ?_
    exact wp_some rfl
theorem outP_not (ss : List Bytes) (t : Bytes) (hs : ∀ s ∈ ss, s.length ≤ 140737488351232) (hl : ss.length ≤ 1048576) (ht : t.length ≤ 140737488351232) (h : (pubOk ss && wordOk t) = true) (hm : t ∉ ss) :
    callI E0 12 [.agg [.lst 1 (strs ss)], .str t] [] = some (.tup [.agg [.nilS], .int .i64 4], outB ss t, false) := by
  have hp := pubOkI ss hs (by omega)
  have hw := wordI t ht
  have hc := contains_at t ss (by omega)
  rw [Bool.and_eq_true] at h
  rw [h.1] at hp
  rw [h.2] at hw
  rw [decide_eq_false hm] at hc
  refine picall F12 B12 (fun oc oi ok hoc hoi hok => ?_)
  refine wp_oc hoc hp ?_
  refine wp_oc hoc hw ?_
  refine wp_oc hoc hc ?_
  exact wp_some rfl
theorem outCp (ss : List Bytes) (hl : ss.length ≤ 1048576) : callI E0 55 [.lst 1 (strs ss)] [] = some (.own 0 0, [⟨1, 9, strs ss, false, false, false, 0⟩], false) := by
  refine picall F55 B55 (fun oc oi ok hoc hoi hok => ?_)
  refine wp_must (fits_le (by rw [strs_len]; exact hl) (by decide)) ?_
  exact wp_some rfl
theorem outP_ok (ss : List Bytes) (t : Bytes) (hs : ∀ s ∈ ss, s.length ≤ 140737488351232) (hl : ss.length ≤ 1048576) (ht : t.length ≤ 140737488351232) (h : (pubOk ss && wordOk t) = true) (hm : t ∈ ss) :
    callI E0 12 [.agg [.lst 1 (strs ss)], .str t] [] = some (.tup [.agg [.sl 3 0 0 (less t ss).length], .int .i64 0],
      [⟨1, 26, [.agg [.lst 1 (strs ss)]], true, false, false, 0⟩, ⟨1, 9, [.str t], true, false, false, 0⟩, ⟨1, 26, [.agg [.sl 3 0 0 (less t ss).length]], true, true, false, 0⟩,
        ⟨1, 9, strs (outK t ss), false, false, false, 0⟩], false) := by
  have hp := pubOkI ss hs (by omega)
  have hw := wordI t ht
  have hc := contains_at t ss (by omega)
  have hcp := outCp ss hl
  have hD := outD ss t ss hl hm
  rw [Bool.and_eq_true] at h
  rw [h.1] at hp
  rw [h.2] at hw
  rw [decide_eq_true hm] at hc
  refine picall F12 B12 (fun oc oi ok hoc hoi hok => ?_)
  refine wp_oc hoc hp ?_
  refine wp_oc hoc hw ?_
  refine wp_oc hoc hc ?_
  refine wp_oi hoi hcp ?_
  refine wp_oi hoi hD ?_
  exact wp_some rfl
end Go.Proofs.Ytiibidadpgknjaa.Fi
