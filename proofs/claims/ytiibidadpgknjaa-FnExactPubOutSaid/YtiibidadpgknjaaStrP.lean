/- Lists of strings: measured, compared, searched; marks. -/
import Derived.Test.YtiibidadpgknjaaPubP
namespace Go.Proofs.Ytiibidadpgknjaa.Fi
open Go

/-! ### laws.szStringS -/
def szL : List Bytes → Int → Int
  | [], l => l
  | s :: r, l => if l - s.length < 0 then -1 else szL r (l - s.length)
def szStrs (ss : List Bytes) (l : Int) : Int := if l - ss.length < 0 then -1 else szL ss (l - ss.length)
theorem szL_ok : ∀ {ss : List Bytes} {l : Int}, 0 ≤ szL ss l → 0 ≤ l → szL ss l ≤ l ∧ ∀ s ∈ ss, (s.length : Int) ≤ l
  | [], l, _, _ => ⟨Int.le_refl _, fun s h => by cases h⟩
  | s :: r, l, h, h0 => by
    unfold szL at h ⊢
    split at h
    · omega
    · rename_i hc
      rw [if_neg hc]
      obtain ⟨h1, h2⟩ := szL_ok h (by omega)
      refine ⟨by omega, fun t ht => ?_⟩
      rcases List.mem_cons.1 ht with rfl | ht
      · omega
      · have := h2 t ht; omega
theorem szStrs_ok {ss : List Bytes} {l : Int} (h : 0 ≤ szStrs ss l) (h0 : 0 ≤ l) : szStrs ss l ≤ l ∧ (ss.length : Int) ≤ l ∧ ∀ s ∈ ss, (s.length : Int) ≤ l := by
  unfold szStrs at h ⊢
  split at h
  · omega
  · rename_i hc
    rw [if_neg hc]
    obtain ⟨h1, h2⟩ := szL_ok h (by omega)
    exact ⟨by omega, by omega, fun s hs => by have := h2 s hs; omega⟩

theorem sz_loop (ss : List Bytes) (hs : ∀ s ∈ ss, s.length ≤ 140737488351232) (hl : ss.length ≤ 140737488351232) : ∀ (n i : Nat) (l : Int), i + n = ss.length → 0 ≤ l → l ≤ 140737488351232 →
    Wp (run E0 47 0 true (loopT Try.f47 0) [0, 1, 5] [.lst 1 (strs ss), .int .i64 l, .int .i64 (i : Int)] [] false) (fun a => a = (.int .i64 (szL (ss.drop i) l), [], false)) := by
  intro n
  induction n with
  | zero =>
    intro i l hi h0 hm
    have hL := strs_len ss
    refine prun F47 (fun oc oi ok hoc hoi hok => ?_)
    refine wp_lt0 (by omega) ?_
    exact wp_some (by rw [drop_end (show ss.length ≤ i by omega)]; rfl)
  | succ n ih =>
    intro i l hi h0 hm
    have hL := strs_len ss
    have hlt : i < ss.length := by omega
    have hlen := hs _ (List.getElem_mem hlt)
    rw [drop_at hlt, szL]
    refine prun F47 (fun oc oi ok hoc hoi hok => ?_)
    refine wp_lt1 (by omega) ?_
    refine wp_must ?_ ?_
    · exact and_at rfl (strs_below hlt)
    refine wp_bind (strs_nth hlt) ?_
    refine wp_num (inR_i64 (by omega) (by omega)) ?_
    refine wp_lt (fun h1 => ?_) (fun h1 => ?_)
    · rw [if_pos h1]; exact wp_some rfl
    · rw [if_neg h1]
      refine wp_num (inR_i64 (by omega) (by omega)) (wp_ok hok ?_)
      exact ih (i + 1) (l - (ss[i].length : Int)) (by omega) (by omega) (by omega)
theorem szStrs_at (ss : List Bytes) (hs : ∀ s ∈ ss, s.length ≤ 140737488351232) (hl : ss.length ≤ 140737488351232) (l : Int) (h0 : 0 ≤ l) (hm : l ≤ 140737488351232) :
    callP E0 47 [.lst 1 (strs ss), .int .i64 l] [] = some (.int .i64 (szStrs ss l), []) := by
  have hL := strs_len ss
  unfold szStrs
  refine pcall F47 B47 (fun oc oi ok hoc hoi hok => ?_)
  refine wp_numE (m := l - (ss.length : Int)) (by rw [hL]) (inR_i64 (by omega) (by omega)) ?_
  refine wp_lt (fun h1 => ?_) (fun h1 => ?_)
  · rw [if_pos h1]; exact wp_some rfl
  · rw [if_neg h1]
    exact wp_ok hok (wp_mono (sz_loop ss hs hl ss.length 0 _ (by omega) (by omega) (by omega)) (fun a h => by rw [h]; rfl))

/-! ### laws.eqStringS -/
theorem eqStrs_loop (xs ys : List Bytes) (hl : xs.length ≤ 140737488351232) (he : xs.length = ys.length) : ∀ (n i : Nat), i + n = xs.length →
    Wp (run E0 57 0 true (loopT Try.f57 0) [0, 1, 5] [.lst 1 (strs xs), .lst 1 (strs ys), .int .i64 (i : Int)] [] false) (fun a => a = (.bool (decide (xs.drop i = ys.drop i)), [], false)) := by
  intro n
  induction n with
  | zero =>
    intro i hi
    have hL := strs_len xs
    refine prun F57 (fun oc oi ok hoc hoi hok => ?_)
    refine wp_lt0 (by omega) ?_
    exact wp_some (by rw [drop_end (show xs.length ≤ i by omega), drop_end (show ys.length ≤ i by omega)]; rfl)
  | succ n ih =>
    intro i hi
    have hL := strs_len xs
    have hlt : i < xs.length := by omega
    have hlt' : i < ys.length := by omega
    refine prun F57 (fun oc oi ok hoc hoi hok => ?_)
    refine wp_lt1 (by omega) ?_
    refine wp_must ?_ ?_
    · exact and_at rfl (strs_below hlt)
    refine wp_bind (strs_nth hlt) ?_
    refine wp_must ?_ ?_
    · exact and_at rfl (strs_below hlt')
    refine wp_bind (strs_nth hlt') ?_
    refine wp_cond (fun h1 => ?_) (fun h1 => ?_)
    · have h2 : xs[i] ≠ ys[i] := by simpa using h1
      refine wp_some ?_
      have : decide (xs.drop i = ys.drop i) = false := by
        rw [drop_at hlt, drop_at hlt']
        exact decide_eq_false fun h => h2 (List.cons.inj h).1
      rw [this]; rfl
    · have h2 : xs[i] = ys[i] := by simpa using h1
      refine wp_num (inR_i64 (by omega) (by omega)) (wp_ok hok ?_)
      have : decide (xs.drop i = ys.drop i) = decide (xs.drop (i + 1) = ys.drop (i + 1)) := by
        rw [drop_at hlt, drop_at hlt', h2]
        exact decide_eq_decide.2 ⟨fun h => (List.cons.inj h).2, fun h => by rw [h]⟩
      rw [this]
      exact ih (i + 1) (by omega)
theorem eqStrs (xs ys : List Bytes) (ha : xs.length ≤ 140737488351232) (hb : ys.length ≤ 140737488351232) : callP E0 57 [.lst 1 (strs xs), .lst 1 (strs ys)] [] = some (.bool (decide (xs = ys)), []) := by
  have hLa := strs_len xs
  have hLb := strs_len ys
  refine pcall F57 B57 (fun oc oi ok hoc hoi hok => ?_)
  refine wp_cond (fun h1 => ?_) (fun h1 => ?_)
  · refine wp_some ?_
    have h2 : xs.length ≠ ys.length := by
      intro h
      rw [hLa, hLb, h] at h1
      simp at h1
    have : decide (xs = ys) = false := by
      refine decide_eq_false fun h => ?_
      exact h2 (by rw [h])
    rw [this]; rfl
  · have h2 : xs.length = ys.length := by
      rw [hLa, hLb] at h1
      have : ((xs.length : Int) == (ys.length : Int)) = true := by simpa using h1
      have := eq_of_beq this
      omega
    exact wp_ok hok (wp_mono (eqStrs_loop xs ys ha h2 xs.length 0 (by omega)) (fun a h => by rw [h]; rfl))

/-! ### slices.Index, slices.Contains -/
def idxF (t : Bytes) : List Bytes → Nat → Int
  | [], _ => -1
  | s :: r, i => if t = s then (i : Int) else idxF t r (i + 1)
theorem idxF_ge {t : Bytes} : ∀ {ss : List Bytes} {i : Nat}, (0 ≤ idxF t ss i ↔ t ∈ ss)
  | [], _ => by simp [idxF]
  | s :: r, i => by
    unfold idxF
    split
    · rename_i h; simp [h]
    · rename_i h; rw [idxF_ge]; simp [h]
theorem index_loop (t : Bytes) (ss : List Bytes) (hl : ss.length ≤ 140737488351232) : ∀ (n i : Nat), i + n = ss.length →
    Wp (run E0 120 0 true (loopT Try.f120 0) [0, 1, 7, 8] [.lst 1 (strs ss), .str t, .int .i64 ((strs ss).length : Int), .int .i64 (i : Int)] [] false) (fun a => a = (.int .i64 (idxF t (ss.drop i) i), [], false)) := by
  intro n
  induction n with
  | zero =>
    intro i hi
    have hL := strs_len ss
    refine prun F120 (fun oc oi ok hoc hoi hok => ?_)
    refine wp_lt0 (by omega) ?_
    exact wp_some (by rw [drop_end (show ss.length ≤ i by omega)]; rfl)
  | succ n ih =>
    intro i hi
    have hL := strs_len ss
    have hlt : i < ss.length := by omega
    rw [drop_at hlt, idxF]
    refine prun F120 (fun oc oi ok hoc hoi hok => ?_)
    refine wp_lt1 (by omega) ?_
    refine wp_must ?_ ?_
    · exact and_at rfl (strs_below hlt)
    refine wp_bind (strs_nth hlt) ?_
    refine wp_cond (fun h1 => ?_) (fun h1 => ?_)
    · have h2 : t = ss[i] := by simpa using h1
      rw [if_pos h2]
      exact wp_some rfl
    · have h2 : t ≠ ss[i] := by simpa using h1
      rw [if_neg h2]
      refine wp_num (inR_i64 (by omega) (by omega)) (wp_ok hok ?_)
      exact ih (i + 1) (by omega)
theorem index_at (t : Bytes) (ss : List Bytes) (hl : ss.length ≤ 140737488351232) : callP E0 120 [.lst 1 (strs ss), .str t] [] = some (.int .i64 (idxF t ss 0), []) := by
  refine pcall F120 B120 (fun oc oi ok hoc hoi hok => ?_)
  exact wp_ok hok (index_loop t ss hl ss.length 0 (by omega))
theorem contains_at (t : Bytes) (ss : List Bytes) (hl : ss.length ≤ 140737488351232) : callP E0 53 [.lst 1 (strs ss), .str t] [] = some (.bool (decide (t ∈ ss)), []) := by
  refine pcall F53 B53 (fun oc oi ok hoc hoi hok => ?_)
  refine wp_oc hoc (index_at t ss hl) ?_
  exact wp_some (ans_bool (by rw [leI_iff, idxF_ge]; simp))

/-! ### laws.markText -/
def dig (k : Int) : UInt8 := UInt8.ofNat (IntKind.u8.wrap (48 + k.tmod 10)).toNat
def digs : Nat → Nat → Bytes → Bytes
  | 0, _, o => o
  | f + 1, k, o => if k = 0 then o else digs f (k / 10) (dig k :: o)
def markT (k : Nat) : Bytes := if k = 0 then [109, 48] else 109 :: digs k k []
theorem digs_len : ∀ {f k : Nat} {o : Bytes}, (digs f k o).length ≤ o.length + k
  | 0, _, o => by simp [digs]
  | f + 1, k, o => by
    unfold digs
    split
    · omega
    · have := digs_len (f := f) (k := k / 10) (o := dig k :: o)
      simp at this
      omega
theorem markT_len {k : Nat} : (markT k).length ≤ k + 2 := by
  unfold markT
  split
  · simp
  · have := digs_len (f := k) (k := k) (o := [])
    simp at this ⊢
    omega

theorem mark_loop : ∀ (f k : Nat) (o : Bytes), k ≤ f → o.length + k ≤ 4294967296 →
    Wp (run E0 122 0 true (loopT Try.f122 0) [0, 3] [.int .i64 (k : Int), .str o] [] false) (fun a => a = (.str (109 :: digs f k o), [], false)) := by
  intro f
  induction f with
  | zero =>
    intro k o hk hb
    refine prun F122 (fun oc oi ok hoc hoi hok => ?_)
    refine wp_lt0 (by omega) ?_
    refine wp_cat (x := [109]) (y := o) (by simp; omega) ?_
    exact wp_some rfl
  | succ f ih =>
    intro k o hk hb
    unfold digs
    refine prun F122 (fun oc oi ok hoc hoi hok => ?_)
    refine wp_lt (fun h1 => ?_) (fun h1 => ?_)
    · have h0 : k ≠ 0 := by omega
      rw [if_neg h0]
      have ht : (k : Int).tmod 10 = ((k % 10 : Nat) : Int) := by
        rw [Int.tmod_eq_emod_of_nonneg (by omega)]; omega
      refine wp_num (inR_i64 (by rw [ht]; omega) (by rw [ht]; omega)) ?_
      refine wp_cat (x := [dig (k : Int)]) (y := o) (by simp; omega) ?_
      refine wp_numE (m := ((k / 10 : Nat) : Int)) (by rw [Int.tdiv_eq_ediv_of_nonneg (by omega)]; omega) (inR_i64 (by omega) (by omega)) (wp_ok hok ?_)
      exact ih (k / 10) (dig k :: o) (by omega) (by simp; omega)
    · have h0 : k = 0 := by omega
      rw [if_pos h0]
      refine wp_cat (x := [109]) (y := o) (by simp; omega) ?_
      exact wp_some rfl
theorem markText_at (k : Nat) (hk : k ≤ 4294967296) : callP E0 122 [.int .i64 (k : Int)] [] = some (.str (markT k), []) := by
  refine pcall F122 B122 (fun oc oi ok hoc hoi hok => ?_)
  refine wp_le (fun h1 => ?_) (fun h1 => ?_)
  · exact wp_some (by unfold markT; rw [if_pos (by omega)]; rfl)
  · unfold markT
    rw [if_neg (by omega)]
    exact wp_ok hok (wp_mono (mark_loop k k [] (Nat.le_refl _) (by simp; omega)) (fun a h => by rw [h]))

/-! ### laws.heldStringS -/
def held : List Bytes → Nat → Int
  | [], k => (k : Int)
  | s :: r, k => if s = markT k then held r (k + 1) else -1
theorem held_loop (ss : List Bytes) (hl : ss.length ≤ 1048576) : ∀ (n i k : Nat), i + n = ss.length → k + n ≤ 4194304 →
    Wp (run E0 59 0 true (loopT Try.f59 0) [0, 1, 5] [.lst 1 (strs ss), .int .i64 (k : Int), .int .i64 (i : Int)] [] false) (fun a => a = (.int .i64 (held (ss.drop i) k), [], false)) := by
  intro n
  induction n with
  | zero =>
    intro i k hi hk
    have hL := strs_len ss
    refine prun F59 (fun oc oi ok hoc hoi hok => ?_)
    refine wp_lt0 (by omega) ?_
    exact wp_some (by rw [drop_end (show ss.length ≤ i by omega)]; rfl)
  | succ n ih =>
    intro i k hi hk
    have hL := strs_len ss
    have hlt : i < ss.length := by omega
    rw [drop_at hlt, held]
    refine prun F59 (fun oc oi ok hoc hoi hok => ?_)
    refine wp_lt1 (by omega) ?_
    refine wp_must ?_ ?_
    · exact and_at rfl (strs_below hlt)
    refine wp_bind (strs_nth hlt) ?_
    refine wp_oc hoc (markText_at k (by omega)) ?_
    refine wp_cond (fun h1 => ?_) (fun h1 => ?_)
    · have h2 : ss[i] ≠ markT k := by simpa using h1
      rw [if_neg h2]
      exact wp_some rfl
    · have h2 : ss[i] = markT k := by simpa using h1
      rw [if_pos h2]
      refine wp_num (inR_i64 (by omega) (by omega)) ?_
      refine wp_num (inR_i64 (by omega) (by omega)) (wp_ok hok ?_)
      exact ih (i + 1) (k + 1) (by omega) (by omega)
theorem held_at (ss : List Bytes) (hl : ss.length ≤ 1048576) (k : Nat) (hk : k ≤ 1048576) : callP E0 59 [.lst 1 (strs ss), .int .i64 (k : Int)] [] = some (.int .i64 (held ss k), []) := by
  refine pcall F59 B59 (fun oc oi ok hoc hoi hok => ?_)
  exact wp_ok hok (wp_mono (held_loop ss hl ss.length 0 k (by omega) (by omega)) (fun a h => by rw [h]; rfl))
/-- What is marked. -/
def marks (k : Nat) (n : Nat) : List Bytes := (List.range n).map fun i => markT (k + i)
theorem held_marks : ∀ (n k : Nat), held (marks k n) k = ((k + n : Nat) : Int)
  | 0, k => rfl
  | n + 1, k => by
    have : marks k (n + 1) = markT k :: marks (k + 1) n := by
      unfold marks
      rw [List.range_succ_eq_map, List.map_cons, List.map_map]
      congr 1
      refine List.map_congr_left fun i _ => ?_
      show markT (k + (i + 1)) = markT (k + 1 + i)
      rw [show k + (i + 1) = k + 1 + i by omega]
    rw [this, held, if_pos rfl, held_marks n (k + 1)]
    congr 1; omega
end Go.Proofs.Ytiibidadpgknjaa.Fi
