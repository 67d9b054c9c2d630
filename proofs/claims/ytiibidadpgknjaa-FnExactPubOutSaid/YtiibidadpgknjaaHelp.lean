/- Words for the walks. -/
import Derived.Test.YtiibidadpgknjaaLim
import Derived.Test.YtiibidadpgknjaaRel
namespace Go.Proofs.Ytiibidadpgknjaa.Fi
open Go

theorem inR_i64 {n : Int} (h1 : -9223372036854775808 ≤ n) (h2 : n ≤ 9223372036854775807) : inR .i64 n = true := by
  simp [inR, leI_iff, IntKind.min, IntKind.max, IntKind.signed, IntKind.bits]; omega
theorem inR_u8 {n : Int} (h1 : 0 ≤ n) (h2 : n ≤ 255) : inR .u8 n = true := by
  simp [inR, leI_iff, IntKind.min, IntKind.max, IntKind.signed, IntKind.bits]; omega
theorem below_nat {i n : Nat} (h : i < n) : below (i : Int) n = true := by simp [below, leI_iff, ltI_iff, h]
theorem below_int {i : Int} {n : Nat} (h0 : 0 ≤ i) (h : i < n) : below i n = true := by simp [below, leI_iff, ltI_iff, h, h0]
theorem nth_get {α : Type} {l : List α} {i : Nat} (h : i < l.length) : nth l ((i : Int).toNat) = some l[i] := by rw [nth_eq]; simp [h]
theorem nth_map {α β : Type} {l : List α} {f : α → β} {i : Nat} (h : i < l.length) : nth (l.map f) ((i : Int).toNat) = some (f l[i]) := by rw [nth_eq]; simp [h]
theorem len_map {α β : Type} {l : List α} {f : α → β} : (l.map f).length = l.length := List.length_map ..
theorem drop_at {α : Type} {l : List α} {i : Nat} (h : i < l.length) : l.drop i = l[i] :: l.drop (i + 1) := List.drop_eq_getElem_cons h
theorem drop_end {α : Type} {l : List α} {i : Nat} (h : l.length ≤ i) : l.drop i = [] := List.drop_eq_nil_iff.2 h

theorem ans_bool {a b : Bool} {h : List Blk} {l : Bool} (e : a = true ↔ b = true) : ((AV.bool a, h, l) : Ans) = (AV.bool b, h, l) := by
  rw [Bool.eq_iff_iff.2 e]

theorem and_at {a b : Bool} (ha : a = true) (hb : b = true) : (a && b) = true := by rw [ha, hb]; rfl
theorem fits_le {n eb : Nat} (h : n ≤ 1048576) (h' : eb ≤ 4096) : fits n eb = true := by
  have : n * eb ≤ 1048576 * 4096 := Nat.mul_le_mul h h'
  exact and_at (decide_eq_true (by unfold limitB; omega)) (decide_eq_true (by unfold limitB; omega))
/-- A block that went along and is as long as it was. -/
theorem putFix {h : List Blk} {n sz ty sz0 ty0 ver ver0 : Nat} {els els0 : List AV} {box rf fz box0 rf0 fz0 : Bool} (hn : nth h n = some ⟨sz0, ty0, els0, box0, rf0, fz0, ver0⟩) (hl : els.length = els0.length) :
    putRaws h [n] [true] [⟨sz, ty, els, box, rf, fz, ver⟩] = some (updAt h n ⟨sz, ty, els, box, rf, fz, ver0⟩) := by
  have : (box || (true && Nat.beq els.length els0.length)) = true := by rw [hl]; simp [Nat.beq_refl]
  unfold putRaws
  rw [hn]
  show (bif _ then _ else _) = _
  rw [this]; rfl
theorem picall {E : Env} {f : Nat} {as : List AV} {h : List Blk} {a : Ans} {fn : Func} {c : Code} (hf : E.P.funcs[f]? = some fn) (hb : fn.body = some c)
    (k : ∀ oc oi ok, oc = callP E → oi = callI E → ok = run E f h.length false →
      Wp (go (E.ctx f fn h.length) fn oc oi ok false BIG [.code c] (look (List.range as.length) as) h false) fun x => x = a) :
    callI E f as h = some a := by
  obtain ⟨x, e, rfl⟩ := k _ _ _ rfl rfl rfl
  exact callI_intro hf hb (run_intro hf e)
theorem wp_oi {E : Env} {oi : Nat → List AV → List Blk → Option Ans} (e : oi = callI E) {β : Type} {f : Nat} {as : List AV} {h : List Blk} {r : Ans}
    {K : Ans → Option β} {Q : β → Prop} (hr : callI E f as h = some r) (k : Wp (K r) Q) : Wp ((oi f as h).bind K) Q := by
  rw [e, hr]; exact k

section
variable {β : Type} {Q : β → Prop}
theorem wp_lt {a b : Int} {x y : Option β} (ht : a < b → Wp x Q) (hf : ¬a < b → Wp y Q) : Wp (cond (ltI a b) x y) Q := by
  rw [ltI_eq]; exact wp_dec ht hf
theorem wp_le {a b : Int} {x y : Option β} (ht : a ≤ b → Wp x Q) (hf : ¬a ≤ b → Wp y Q) : Wp (cond (leI a b) x y) Q := by
  rw [leI_eq]; exact wp_dec ht hf
theorem wp_lt1 {a b : Int} {x y : Option β} (h : a < b) (k : Wp x Q) : Wp (cond (ltI a b) x y) Q := wp_must (ltI_iff.2 h) k
theorem wp_lt0 {a b : Int} {x y : Option β} (h : ¬a < b) (k : Wp y Q) : Wp (cond (ltI a b) x y) Q := by
  rw [ltI_eq, decide_eq_false h]; exact k
theorem wp_le1 {a b : Int} {x y : Option β} (h : a ≤ b) (k : Wp x Q) : Wp (cond (leI a b) x y) Q := wp_must (leI_iff.2 h) k
theorem wp_le0 {a b : Int} {x y : Option β} (h : ¬a ≤ b) (k : Wp y Q) : Wp (cond (leI a b) x y) Q := by
  rw [leI_eq, decide_eq_false h]; exact k
/-- A list's place that is there. -/
theorem wp_nth {α : Type} {l : List α} {i : Nat} {K : α → Option β} (h : i < l.length) (k : Wp (K l[i]) Q) : Wp ((nth l ((i : Int).toNat)).bind K) Q := wp_bind (nth_get h) k
theorem wp_nthm {α γ : Type} {l : List α} {f : α → γ} {i : Nat} {K : γ → Option β} (h : i < l.length) (k : Wp (K (f l[i])) Q) : Wp ((nth (l.map f) ((i : Int).toNat)).bind K) Q := wp_bind (nth_map h) k
theorem wp_below {i n : Nat} {x y : Option β} (h : i < n) (k : Wp x Q) : Wp (cond (below (i : Int) n) x y) Q := wp_must (below_nat h) k
theorem wp_i64 {n : Int} {x y : Option β} (h1 : -9223372036854775808 ≤ n) (h2 : n ≤ 9223372036854775807) (k : Wp x Q) : Wp (cond (inR .i64 n) x y) Q := wp_must (inR_i64 h1 h2) k
/-- A sum that stays in its bounds. -/
theorem wp_num {k : IntKind} {n : Int} {v : AV} {K : AV → Option β} (h : inR k n = true) (h' : Wp (K v) Q) : Wp (Option.bind (cond (inR k n) (some v) none) K) Q := by
  rw [h]; exact h'
theorem wp_numE {k : IntKind} {n m : Int} {K : AV → Option β} (e : n = m) (h : inR k m = true) (h' : Wp (K (.int k m)) Q) : Wp (Option.bind (cond (inR k n) (some (AV.int k n)) none) K) Q := by
  rw [e, h]; exact h'
theorem wp_ifs {α : Type} {b : Bool} {v : α} {K : α → Option β} (h : b = true) (h' : Wp (K v) Q) : Wp (Option.bind (cond b (some v) none) K) Q := by
  rw [h]; exact h'
/-- A text that stays in its bounds. -/
theorem wp_cat {x y : List UInt8} {K : AV → Option β} (h : x.length + y.length ≤ 4611686018427387904) (h' : Wp (K (.str (x ++ y))) Q) : Wp (Option.bind (cond (decide (x.length + y.length ≤ 4611686018427387904)) (some (AV.str (x ++ y))) none) K) Q := by
  rw [decide_eq_true h]; exact h'
theorem wp_and {a b : Bool} {x y : Option β} (ha : a = true) (hb : b = true) (k : Wp x Q) : Wp (cond (a && b) x y) Q := by
  rw [ha, hb]; exact k
theorem wp_not {b : Bool} {x y : Option β} (hb : b = false) (k : Wp y Q) : Wp (cond b x y) Q := by rw [hb]; exact k
theorem wp_eqs {b : Option β} {r : β} (e : b = some r) (h : Q r) : Wp b Q := ⟨r, e, h⟩
theorem wp_run {o : Option β} {r : β} (h : Wp o (fun a => a = r)) : o = some r := by
  obtain ⟨a, e, rfl⟩ := h
  exact e
theorem wp_mono {o : Option β} {P : β → Prop} (h : Wp o P) (k : ∀ a, P a → Q a) : Wp o Q := by
  obtain ⟨a, e, p⟩ := h
  exact ⟨a, e, k a p⟩
end
end Go.Proofs.Ytiibidadpgknjaa.Fi
