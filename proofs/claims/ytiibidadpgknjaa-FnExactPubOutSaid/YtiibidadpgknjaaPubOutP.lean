/- PubOut: what its law's parts answer. -/
import Derived.Test.YtiibidadpgknjaaStrP
namespace Go.Proofs.Ytiibidadpgknjaa.Fi
open Go

theorem strs_upd {xs : List Bytes} {i : Nat} {s : Bytes} : updAt (strs xs) ((i : Int).toNat) (.str s) = strs (xs.set i s) := by
  rw [updAt_eq]; simp [strs, List.map_set]
theorem strs_rep {ss : List Bytes} : strs (List.replicate ss.length []) = List.replicate (((strs ss).length : Nat) : Int).toNat (.str []) := by
  simp [strs]
theorem take_set {α : Type} {l m : List α} {i : Nat} (h : l.take i = m.take i) (hi : i < m.length) (hl : l.length = m.length) : (l.set i m[i]).take (i + 1) = m.take (i + 1) := by
  apply List.ext_getElem
  · simp [hl]
  · intro j h1 h2
    simp only [List.getElem_take, List.getElem_set]
    split
    · rename_i e; subst e; rfl
    · rename_i e
      simp at h1
      have hj : j < i := by omega
      have := congrArg (fun x => x[j]?) h
      simp only [List.getElem?_take, hj, if_true] at this
      rw [List.getElem?_eq_getElem (by omega), List.getElem?_eq_getElem (by omega)] at this
      exact Option.some.inj this

theorem take_set' {α : Type} {l m : List α} {i : Nat} (h : l.take i = m.take i) (hi : i < m.length) (hl : i < l.length) : (l.set i m[i]).take (i + 1) = m.take (i + 1) := by
  rw [List.take_succ_eq_append_getElem (by simpa using hl), List.take_succ_eq_append_getElem hi, List.take_set_of_le (Nat.le_refl _), h, List.getElem_set_self]
/-! ### laws.toStringS, laws.toPub -/
theorem toStrs_loop (ss : List Bytes) (hl : ss.length ≤ 1048576) : ∀ (n i : Nat) (xs : List Bytes), i + n = ss.length → xs.length = ss.length → xs.take i = ss.take i →
    Wp (run E0 50 0 false (loopT Try.f50 0) [0, 3, 4] [.lst 1 (strs ss), .own 0 0, .int .i64 (i : Int)] [⟨1, 9, strs xs, false, false, false, 0⟩] false) (fun a => a = (.own 0 0, [⟨1, 9, strs ss, false, false, false, 0⟩], false)) := by
  intro n
  induction n with
  | zero =>
    intro i xs hi hll ht
    have hL := strs_len ss
    refine prun F50 (fun oc oi ok hoc hoi hok => ?_)
    refine wp_lt0 (by omega) ?_
    refine wp_some ?_
    rw [List.take_of_length_le (by omega), List.take_of_length_le (by omega)] at ht
    rw [ht]; rfl
  | succ n ih =>
    intro i xs hi hll ht
    have hL := strs_len ss
    have hlt : i < ss.length := by omega
    have hlt' : i < xs.length := by omega
    refine prun F50 (fun oc oi ok hoc hoi hok => ?_)
    refine wp_lt1 (by omega) ?_
    refine wp_must ?_ ?_
    · exact and_at rfl (strs_below hlt)
    refine wp_bind (strs_nth hlt) ?_
    refine wp_must ?_ ?_
    · exact and_at rfl (strs_below hlt')
    refine wp_bind (strs_nth hlt') ?_
    refine wp_num (inR_i64 (by omega) (by omega)) (wp_ok hok ?_)
    have := ih (i + 1) (xs.set i ss[i]) (by omega) (by simpa using hll) (take_set ht hlt hll)
    rw [← strs_upd] at this
    exact this
theorem toStrs (ss : List Bytes) (hl : ss.length ≤ 1048576) : callI E0 50 [.lst 1 (strs ss)] [] = some (.own 0 0, [⟨1, 9, strs ss, false, false, false, 0⟩], false) := by
  have hL := strs_len ss
  refine picall F50 B50 (fun oc oi ok hoc hoi hok => ?_)
  refine wp_must ?_ ?_
  · exact and_at (and_at (and_at (by simp) (leI_iff.2 (by omega))) (fits_le (by rw [Int.toNat_natCast, hL]; exact hl) (by decide))) rfl
  have := toStrs_loop ss hl ss.length 0 (List.replicate ss.length []) (by omega) (by simp) (by simp)
  rw [strs_rep] at this
  exact wp_ok hok this
/-- What toPub leaves behind. -/
def pubs (ss : List Bytes) : List Blk := [⟨1, 24, [.agg [.lst 1 (strs ss)]], true, false, false, 0⟩, ⟨1, 26, [.agg [.own 3 0]], true, true, false, 0⟩,
  ⟨1, 26, [.agg [.own 3 0]], true, true, false, 0⟩, ⟨1, 9, strs ss, false, false, false, 0⟩]
theorem toPub (ss : List Bytes) (hl : ss.length ≤ 1048576) : callI E0 11 [.agg [.lst 1 (strs ss)]] [] = some (.agg [.own 3 0], pubs ss, false) := by
  have h1 := toStrs ss hl
  refine picall F11 B11 (fun oc oi ok hoc hoi hok => ?_)
  refine wp_oi hoi h1 ?_
  exact wp_some rfl

/-! ### laws.markStringS, laws.markPub -/
/-- From place i on: marked from k on. -/
def markF : List Bytes → Nat → List Bytes
  | [], _ => []
  | _ :: r, k => markT k :: markF r (k + 1)
theorem markF_eq : ∀ (ss : List Bytes) (k : Nat), markF ss k = marks k ss.length
  | [], _ => rfl
  | s :: r, k => by
    rw [markF, markF_eq r]
    show _ = marks k (r.length + 1)
    unfold marks
    rw [List.range_succ_eq_map, List.map_cons, List.map_map]
    congr 1
    refine List.map_congr_left fun i _ => ?_
    show markT (k + 1 + i) = markT (k + (i + 1))
    rw [show k + (i + 1) = k + 1 + i by omega]
theorem marks_len {k n : Nat} : (marks k n).length = n := by simp [marks]
theorem marks_get {k n i : Nat} (h : i < n) : (marks k n)[i]'(by rw [marks_len]; exact h) = markT (k + i) := by simp [marks]

theorem strs_nth0 {ss : List Bytes} {i : Nat} (h : i < ss.length) : nth (strs ss) (0 + (i : Int).toNat) = some (.str ss[i]) := by rw [Nat.zero_add]; exact strs_nth h
theorem strs_upd0 {xs : List Bytes} {i : Nat} {s : Bytes} : updAt (strs xs) (0 + (i : Int).toNat) (.str s) = strs (xs.set i s) := by rw [Nat.zero_add]; exact strs_upd
theorem drop_set {α : Type} {l m : List α} {i : Nat} {x : α} (h : l.drop i = m.drop i) : (l.set i x).drop (i + 1) = m.drop (i + 1) := by
  rw [List.drop_set_of_lt (by omega), ← List.drop_drop, ← List.drop_drop, h]
theorem at_tail {α : Type} {l a b : List α} {i : Nat} (h1 : l.take i = a) (h2 : l.drop i = b) : l = a ++ b := by rw [← h1, ← h2, List.take_append_drop]


theorem markA_loop (ys : List Bytes) (m : Nat) (hm : m ≤ 1048576) (hy : m = ys.length) (k0 : Nat) (hk : k0 ≤ 1048576) : ∀ (n i : Nat) (xs : List Bytes), i + n = m → xs.length = ys.length → xs.take i = (marks k0 m).take i → xs.drop i = ys.drop i →
    Wp (run E0 58 1 true (loopT Try.f58 0) [0, 1, 5] [(.own 0 0), .int .i64 ((k0 + i : Nat) : Int), .int .i64 (i : Int)] [⟨1, 9, strs xs, false, false, false, 0⟩] false)
      (fun a => a = (.int .i64 ((k0 + m : Nat) : Int), [⟨1, 9, strs (marks k0 m ++ ys.drop m), false, false, false, 0⟩], false)) := by
  intro n
  induction n with
  | zero =>
    intro i xs hi hx ht hd
    have hL := strs_len xs
    refine prun F58 (fun oc oi ok hoc hoi hok => ?_)
    refine wp_lt0 (show ¬((i : Int) < (((strs xs).length : Nat) : Int)) by omega) ?_
    refine wp_some ?_
    obtain rfl : i = m := by omega
    rw [List.take_of_length_le (l := marks k0 i) (by rw [marks_len]; omega)] at ht
    rw [at_tail ht hd]; rfl
  | succ n ih =>
    intro i xs hi hx ht hd
    have hL := strs_len xs
    have hlt : i < xs.length := by omega
    refine prun F58 (fun oc oi ok hoc hoi hok => ?_)
    refine wp_lt1 (show (i : Int) < (((strs xs).length : Nat) : Int) by omega) ?_
    refine wp_oc hoc (markText_at (k0 + i) (by omega)) ?_
    refine wp_must ?_ ?_
    · exact (and_at rfl (strs_below hlt))
    refine wp_bind (strs_nth hlt) ?_
    refine wp_numE (m := ((k0 + (i + 1) : Nat) : Int)) (by omega) (inR_i64 (by omega) (by omega)) ?_
    refine wp_num (inR_i64 (by omega) (by omega)) (wp_ok hok ?_)
    have h2 : (marks k0 m)[i]'(by rw [marks_len]; omega) = markT (k0 + i) := marks_get (by omega)
    have := ih (i + 1) (xs.set i (markT (k0 + i))) (by omega) (by simpa using hx) (by rw [← h2]; exact take_set' ht (by rw [marks_len]; omega) hlt) (drop_set hd)
    rw [← strs_upd] at this
    exact this

theorem markS_loop (ys : List Bytes) (m : Nat) (hm : m ≤ 1048576) (hy : m ≤ ys.length) (k0 : Nat) (hk : k0 ≤ 1048576) : ∀ (n i : Nat) (xs : List Bytes), i + n = m → xs.length = ys.length → xs.take i = (marks k0 m).take i → xs.drop i = ys.drop i →
    Wp (run E0 58 1 true (loopT Try.f58 0) [0, 1, 5] [(.sl 0 0 0 m), .int .i64 ((k0 + i : Nat) : Int), .int .i64 (i : Int)] [⟨1, 9, strs xs, false, false, false, 0⟩] false)
      (fun a => a = (.int .i64 ((k0 + m : Nat) : Int), [⟨1, 9, strs (marks k0 m ++ ys.drop m), false, false, false, 0⟩], false)) := by
  intro n
  induction n with
  | zero =>
    intro i xs hi hx ht hd
    have hL := strs_len xs
    refine prun F58 (fun oc oi ok hoc hoi hok => ?_)
    refine wp_lt0 (show ¬((i : Int) < ((m : Nat) : Int)) by omega) ?_
    refine wp_some ?_
    obtain rfl : i = m := by omega
    rw [List.take_of_length_le (l := marks k0 i) (by rw [marks_len]; omega)] at ht
    rw [at_tail ht hd]; rfl
  | succ n ih =>
    intro i xs hi hx ht hd
    have hL := strs_len xs
    have hlt : i < xs.length := by omega
    refine prun F58 (fun oc oi ok hoc hoi hok => ?_)
    refine wp_lt1 (show (i : Int) < ((m : Nat) : Int) by omega) ?_
    refine wp_oc hoc (markText_at (k0 + i) (by omega)) ?_
    refine wp_must ?_ ?_
    · exact (and_at (and_at rfl (below_nat (by omega))) (decide_eq_true (show 0 + (i : Int).toNat < (strs xs).length by rw [Int.toNat_natCast]; omega)))
    refine wp_bind (strs_nth0 hlt) ?_
    refine wp_numE (m := ((k0 + (i + 1) : Nat) : Int)) (by omega) (inR_i64 (by omega) (by omega)) ?_
    refine wp_num (inR_i64 (by omega) (by omega)) (wp_ok hok ?_)
    have h2 : (marks k0 m)[i]'(by rw [marks_len]; omega) = markT (k0 + i) := marks_get (by omega)
    have := ih (i + 1) (xs.set i (markT (k0 + i))) (by omega) (by simpa using hx) (by rw [← h2]; exact take_set' ht (by rw [marks_len]; omega) hlt) (drop_set hd)
    rw [← strs_upd0] at this
    exact this

theorem markA (ys : List Bytes) (hm : ys.length ≤ 1048576) (k0 : Nat) (hk : k0 ≤ 1048576) : callP E0 58 [.own 0 0, .int .i64 (k0 : Int)] [⟨1, 9, strs ys, false, false, false, 0⟩]
    = some (.int .i64 ((k0 + ys.length : Nat) : Int), [⟨1, 9, strs (marks k0 ys.length), false, false, false, 0⟩]) := by
  refine pcall F58 B58 (fun oc oi ok hoc hoi hok => ?_)
  refine wp_ok hok (wp_mono (markA_loop ys ys.length hm rfl k0 hk ys.length 0 ys (by omega) rfl (by simp) rfl) (fun a h => ?_))
  rw [h, List.drop_length, List.append_nil]
theorem markS (ys : List Bytes) (m : Nat) (hm : m ≤ 1048576) (hy : m ≤ ys.length) (k0 : Nat) (hk : k0 ≤ 1048576) : callP E0 58 [.sl 0 0 0 m, .int .i64 (k0 : Int)] [⟨1, 9, strs ys, false, false, false, 0⟩]
    = some (.int .i64 ((k0 + m : Nat) : Int), [⟨1, 9, strs (marks k0 m ++ ys.drop m), false, false, false, 0⟩]) := by
  refine pcall F58 B58 (fun oc oi ok hoc hoi hok => ?_)
  exact wp_ok hok (markS_loop ys m hm hy k0 hk m 0 ys (by omega) rfl (by simp) rfl)
theorem markN (k0 : Nat) (hk : k0 ≤ 1048576) : callP E0 58 [.nilS, .int .i64 (k0 : Int)] [] = some (.int .i64 (k0 : Int), []) := by
  refine pcall F58 B58 (fun oc oi ok hoc hoi hok => ?_)
  refine wp_ok hok (prun F58 (fun oc oi ok hoc hoi hok => ?_))
  exact wp_some rfl

theorem markPubA (ys : List Bytes) (m : Nat) (hm : ys.length ≤ 1048576) (hy : m ≤ ys.length) (k0 : Nat) (hk : k0 ≤ 1048576) : callP E0 14 [.agg [(.own 0 0)], .int .i64 (k0 : Int)] [⟨1, 9, strs ys, false, false, false, 0⟩]
    = some (.int .i64 ((k0 + ys.length : Nat) : Int), [⟨1, 9, strs (marks k0 ys.length), false, false, false, 0⟩]) := by
  refine pcall F14 B14 (fun oc oi ok hoc hoi hok => ?_)
  refine wp_oc hoc (markA ys hm k0 hk) ?_
  refine wp_bind (putFix rfl (by simp [strs, marks_len]; try omega)) ?_
  exact wp_some rfl

theorem markPubS (ys : List Bytes) (m : Nat) (hm : m ≤ 1048576) (hy : m ≤ ys.length) (k0 : Nat) (hk : k0 ≤ 1048576) : callP E0 14 [.agg [(.sl 0 0 0 m)], .int .i64 (k0 : Int)] [⟨1, 9, strs ys, false, false, false, 0⟩]
    = some (.int .i64 ((k0 + m : Nat) : Int), [⟨1, 9, strs (marks k0 m ++ ys.drop m), false, false, false, 0⟩]) := by
  refine pcall F14 B14 (fun oc oi ok hoc hoi hok => ?_)
  refine wp_oc hoc (markS ys m hm hy k0 hk) ?_
  refine wp_bind (putFix rfl (by simp [strs, marks_len]; try omega)) ?_
  exact wp_some rfl

theorem markPubN (k0 : Nat) (hk : k0 ≤ 1048576) : callP E0 14 [.agg [.nilS], .int .i64 (k0 : Int)] [] = some (.int .i64 (k0 : Int), []) := by
  refine pcall F14 B14 (fun oc oi ok hoc hoi hok => ?_)
  refine wp_oc hoc (markN k0 hk) ?_
  exact wp_some rfl

/-! ### laws.szPub, laws.eqPub, laws.heldPub -/
theorem szPub_at (ss : List Bytes) (hs : ∀ s ∈ ss, s.length ≤ 140737488351232) (hl : ss.length ≤ 140737488351232) (l : Int) (h0 : 0 ≤ l) (hm : l ≤ 140737488351232) :
    callP E0 9 [.agg [.lst 1 (strs ss)], .int .i64 l] [] = some (.int .i64 (if szStrs ss l < 0 then -1 else szStrs ss l), []) := by
  refine pcall F9 B9 (fun oc oi ok hoc hoi hok => ?_)
  refine wp_oc hoc (szStrs_at ss hs hl l h0 hm) ?_
  refine wp_lt (fun h1 => ?_) (fun h1 => ?_)
  · rw [if_pos h1]; exact wp_some rfl
  · rw [if_neg h1]; exact wp_some rfl
theorem eqPub_at (xs ys : List Bytes) (hx : xs.length ≤ 140737488351232) (hy : ys.length ≤ 140737488351232) : callP E0 13 [.agg [.lst 1 (strs xs)], .agg [.lst 1 (strs ys)]] [] = some (.bool (decide (xs = ys)), []) := by
  have h := eqStrs xs ys hx hy
  refine pcall F13 B13 (fun oc oi ok hoc hoi hok => ?_)
  refine wp_oc hoc h ?_
  refine wp_cond (fun h1 => ?_) (fun h1 => ?_)
  · refine wp_some (ans_bool ?_)
    have h2 : (!decide (xs = ys)) = true := h1
    simp at h2 ⊢
    exact h2
  · refine wp_some (ans_bool ?_)
    have h2 : (!decide (xs = ys)) = false := h1
    simp at h2 ⊢
    exact h2
theorem heldPub_at (ss : List Bytes) (hl : ss.length ≤ 1048576) (k : Nat) (hk : k ≤ 1048576) : callP E0 15 [.agg [.lst 1 (strs ss)], .int .i64 (k : Int)] [] = some (.int .i64 (if held ss k < 0 then -1 else held ss k), []) := by
  refine pcall F15 B15 (fun oc oi ok hoc hoi hok => ?_)
  refine wp_oc hoc (held_at ss hl k hk) ?_
  refine wp_lt (fun h1 => ?_) (fun h1 => ?_)
  · rw [if_pos h1]; exact wp_some rfl
  · rw [if_neg h1]; exact wp_some rfl
end Go.Proofs.Ytiibidadpgknjaa.Fi
