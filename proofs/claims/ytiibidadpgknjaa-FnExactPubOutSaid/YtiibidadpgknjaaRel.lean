/- What a value of the interpreter stands for in the machine's world. -/
import Derived.Test.YtiibidadpgknjaaLim
import Derived.Laws.AppendOwn
import Derived.Below
import Derived.Tactics
namespace Go.Proofs.Ytiibidadpgknjaa.Fi
open Go

theorem nth_eq {α : Type} (l : List α) (i : Nat) : nth l i = l[i]? := by
  induction l generalizing i with
  | nil => simp [nth]
  | cons x r ih => cases i <;> simp [nth, ih]
theorem takeN_eq {α : Type} (n : Nat) (l : List α) : takeN n l = l.take n := by
  induction n generalizing l with
  | zero => simp [takeN]
  | succ n ih => cases l <;> simp [takeN, ih]
theorem dropN_eq {α : Type} (n : Nat) (l : List α) : dropN n l = l.drop n := by
  induction n generalizing l with
  | zero => simp [dropN]
  | succ n ih => cases l <;> simp [dropN, ih]
theorem updAt_eq {α : Type} (l : List α) (n : Nat) (x : α) : updAt l n x = l.set n x := by
  induction l generalizing n with
  | nil => simp [updAt]
  | cons y r ih => cases n <;> simp [updAt, ih]
theorem bind_some {α β : Type} {o : Option α} {K : α → Option β} {r : β} (h : o.bind K = some r) : ∃ a, o = some a ∧ K a = some r := by
  cases o with
  | none => cases h
  | some a => exact ⟨a, rfl, h⟩
theorem cond_some {β : Type} {b : Bool} {x : Option β} {r : β} (h : cond b x none = some r) : b = true ∧ x = some r := by
  cases b
  · cases h
  · exact ⟨rfl, h⟩

/-- One cell of a value. -/
def isCell : AV → Bool
  | .agg _ => false
  | .tup _ => false
  | _ => true

/-- Cell number j of the row at a. -/
def cellOf (w : World) (a : Addr) (j : Nat) : Option Value := w.cell? (a.add j)

def bigN : Nat := 4611686018427387904

/-- Data that names no block, read in blocks of Z. -/
inductive RR (w : World) (Z : Nat → Prop) : AV → List Value → Prop
  | bool (b : Bool) : RR w Z (.bool b) [.bool b]
  | int (k : IntKind) (n : Int) (h : k.has n) : RR w Z (.int k n) [.int k n]
  | str (s : List UInt8) (h : s.length ≤ bigN) : RR w Z (.str s) [.string ⟨s.toArray⟩]
  | agg (cs : List AV) (us : List Value) (hl : us.length = cs.length) (hc : ∀ c ∈ cs, isCell c = true)
      (h : ∀ (i : Nat) (c : AV) (u : Value), cs[i]? = some c → us[i]? = some u → RR w Z c [u]) : RR w Z (.agg cs) us
  | lst0 (sz : Nat) (a : Option Addr) (cap : Nat) : RR w Z (.lst sz []) [.slice a 0 cap]
  | lst (sz : Nat) (l : List AV) (a : Addr) (cap : Nat) (us : Nat → List Value) (hz : Z a.block) (hcap : l.length ≤ cap) (hb : l.length ≤ bigN)
      (hs : ∀ i, i < l.length → (us i).length = sz)
      (hm : ∀ i j u, i < l.length → (us i)[j]? = some u → cellOf w a (i * sz + j) = some u)
      (h : ∀ (i : Nat) (e : AV), l[i]? = some e → RR w Z e (us i)) : RR w Z (.lst sz l) [.slice (some a) l.length cap]

theorem RR.mono {w w' : World} {Z Z' : Nat → Prop} (hZ : ∀ b, Z b → Z' b) (hw : ∀ b, Z b → w'.heap[b]? = w.heap[b]?) {v : AV} {us : List Value} (h : RR w Z v us) : RR w' Z' v us := by
  induction h with
  | bool b => exact .bool b
  | int k n h => exact .int k n h
  | str s h => exact .str s h
  | agg cs us hl hc _ ih => exact .agg cs us hl hc ih
  | lst0 sz a cap => exact .lst0 sz a cap
  | lst sz l a cap us hz hcap hb hs hm _ ih =>
    refine .lst sz l a cap us (hZ _ hz) hcap hb hs (fun i j u hi hj => ?_) ih
    have := hm i j u hi hj
    unfold cellOf at this ⊢
    rw [← this]
    refine World.cell?_of_block ?_
    have e : (a.add (i * sz + j)).block = a.block := by unfold Addr.add; split <;> rfl
    rw [e]
    exact hw _ hz

theorem RR.length {w : World} {Z : Nat → Prop} {v : AV} {us : List Value} (h : RR w Z v us) : us.length = (cells v).length := by
  cases h <;> simp_all [cells]

/-- The state of the blocks: the world, which block is which, what stays as it is. -/
structure R where
  w : World
  φ : Nat → Nat
  Z : Nat → Prop
  h : List Blk

def capCells (w : World) (b : Nat) : Nat := match w.heap[b]? with
  | some (.cells cur _ _) => cur.size
  | _ => 0

/-- A cell. -/
def Cell0 (ρ : R) : AV → Value → Prop
  | .own n ver, u => u.oneCell' = true ∧ ∃ b, ρ.h[n]? = some b ∧ ver ≤ b.ver ∧ b.box = false ∧ (ver = b.ver → ∃ a cap, u = .slice a b.els.length cap ∧ b.els.length ≤ cap ∧ b.els.length ≤ bigN ∧
      (b.els = [] → cap = 0) ∧ (b.els ≠ [] → a = some ⟨ρ.φ n, 0, none⟩ ∧ cap * b.sz ≤ capCells ρ.w (ρ.φ n)))
  | .sl n ver off len, u => u.oneCell' = true ∧ ∃ b, ρ.h[n]? = some b ∧ ver ≤ b.ver ∧ b.box = false ∧ (ver = b.ver → ∃ a cap, u = .slice a len cap ∧ off + len ≤ b.els.length ∧ b.els.length ≤ off + cap ∧ len ≤ bigN ∧
      (b.els = [] → cap = 0) ∧ (0 < cap → a = some ⟨ρ.φ n, off * b.sz, none⟩))
  | .ptr n ver idx off, u => u.oneCell' = true ∧ ∃ b, ρ.h[n]? = some b ∧ ver ≤ b.ver ∧ (ver = b.ver → idx < b.els.length ∧ u = .pointer (some ⟨ρ.φ n, idx * b.sz + off, none⟩))
  | .nilS, u => ∃ a, u = .slice a 0 0
  | .rptr cs off, u => ∃ b o us, u = .pointer (some ⟨b, o + off, none⟩) ∧ ρ.Z b ∧ us.length = cs.length ∧ (∀ c ∈ cs, isCell c = true) ∧
      (∀ j v, us[j]? = some v → ρ.w.cell? ⟨b, o + j, none⟩ = some v) ∧ RR ρ.w ρ.Z (.agg cs) us
  | .undef, u => u.oneCell' = true
  | .agg _, _ => False
  | .tup _, _ => False
  | .fn _ _, _ => False
  | c, u => RR ρ.w ρ.Z c [u]
def Cells0 (ρ : R) : List AV → List Value → Prop
  | [], us => us = []
  | c :: cs, us => ∃ u r, us = u :: r ∧ Cell0 ρ c u ∧ Cells0 ρ cs r
def CellR (ρ : R) : AV → Value → Prop
  | .fn f cap, u => ∃ cu : Array Value, u = .func (.func f) #[] cu ∧ Cells0 ρ cap cu.toList
  | c, u => Cell0 ρ c u
def CellsR (ρ : R) : List AV → List Value → Prop
  | [], us => us = []
  | c :: cs, us => ∃ u r, us = u :: r ∧ CellR ρ c u ∧ CellsR ρ cs r
/-- A value that is no tuple. -/
def Val1 (ρ : R) : AV → Value → Prop
  | .agg cs, v => ∃ us : Array Value, v = .agg us ∧ CellsR ρ cs us.toList
  | .undef, _ => True
  | c, v => CellR ρ c v
def Vals1 (ρ : R) : List AV → List Value → Prop
  | [], us => us = []
  | c :: cs, us => ∃ u r, us = u :: r ∧ Val1 ρ c u ∧ Vals1 ρ cs r
def ValR (ρ : R) : AV → Value → Prop
  | .tup vs, v => ∃ us : Array Value, v = .tuple us ∧ Vals1 ρ vs us.toList
  | c, v => Val1 ρ c v
/-- A block's element. -/
def ElemR (ρ : R) : AV → List Value → Prop
  | .agg cs, us => CellsR ρ cs us
  | c, us => ∃ u, us = [u] ∧ CellR ρ c u

/-- No cell is a nil slice as it stands in a variable. -/
def noNil (e : AV) : Prop := ∀ c ∈ cells e, c ≠ .nilS
structure BlkR (ρ : R) (n : Nat) (b : Blk) : Prop where
  pos : 0 < b.sz
  can : b.box = false → ∀ e ∈ b.els, noNil e
  rf : b.rf = false → ∀ e ∈ b.els, valRef e = false
  box : b.box = true → b.els.length = 1
  len : b.els.length ≤ bigN
  mem : b.els ≠ [] → ∃ cur, ρ.w.heap[ρ.φ n]? = some (.cells cur b.ty (0, 0)) ∧ (b.fz = false → ¬ ρ.Z (ρ.φ n)) ∧ b.els.length * b.sz ≤ cur.size ∧
    ∀ (i : Nat) (e : AV), b.els[i]? = some e → ∃ us : List Value, us.length = b.sz ∧ (∀ (j : Nat) (u : Value), us[j]? = some u → cur[i * b.sz + j]? = some u) ∧ ElemR ρ e us

structure Ok (ρ : R) : Prop where
  zlt : ∀ b, ρ.Z b → b < ρ.w.heap.size
  blk : ∀ (n : Nat) (b : Blk), ρ.h[n]? = some b → BlkR ρ n b
  inj : ∀ (n m : Nat) (b c : Blk), ρ.h[n]? = some b → ρ.h[m]? = some c → b.els ≠ [] → c.els ≠ [] → n ≠ m → ρ.φ n ≠ ρ.φ m

/-- From one state to a later one: what old values say still holds. -/
structure Le (ρ ρ' : R) : Prop where
  z : ∀ b, ρ.Z b → ρ'.Z b ∧ ρ'.w.heap[b]? = ρ.w.heap[b]?
  h : ∀ (n : Nat) (b : Blk), ρ.h[n]? = some b → ∃ b', ρ'.h[n]? = some b' ∧ b.ver ≤ b'.ver ∧ b'.box = b.box ∧
    (b.ver = b'.ver → b'.els.length = b.els.length ∧ b'.sz = b.sz ∧ (b.els ≠ [] → ρ'.φ n = ρ.φ n ∧ capCells ρ'.w (ρ.φ n) = capCells ρ.w (ρ.φ n)))

theorem Le.refl (ρ : R) : Le ρ ρ := ⟨fun _ h => ⟨h, rfl⟩, fun _ b h => ⟨b, h, Nat.le_refl _, rfl, fun _ => ⟨rfl, rfl, fun _ => ⟨rfl, rfl⟩⟩⟩⟩
theorem Le.trans {a b c : R} (h : Le a b) (k : Le b c) : Le a c := by
  refine ⟨fun x hx => ⟨(k.z x (h.z x hx).1).1, (k.z x (h.z x hx).1).2.trans (h.z x hx).2⟩, fun n y hy => ?_⟩
  obtain ⟨y', h1, h2, h3, h4⟩ := h.h n y hy
  obtain ⟨y'', k1, k2, k3, k4⟩ := k.h n y' h1
  refine ⟨y'', k1, Nat.le_trans h2 k2, k3.trans h3, fun e => ?_⟩
  obtain ⟨p1, p2, p3⟩ := h4 (by omega)
  obtain ⟨q1, q2, q3⟩ := k4 (by omega)
  refine ⟨q1.trans p1, q2.trans p2, fun hne => ?_⟩
  obtain ⟨r1, r2⟩ := p3 hne
  have hne' : y'.els ≠ [] := by
    intro hc
    rw [hc] at p1
    exact hne (List.eq_nil_of_length_eq_zero p1.symm)
  obtain ⟨s1, s2⟩ := q3 hne'
  rw [r1] at s1 s2
  exact ⟨s1, s2.trans r2⟩

theorem Cell0.le {ρ ρ' : R} (hl : Le ρ ρ') {c : AV} {u : Value} (h : Cell0 ρ c u) : Cell0 ρ' c u := by
  have hrr : ∀ {v us}, RR ρ.w ρ.Z v us → RR ρ'.w ρ'.Z v us := fun h => h.mono (fun b hb => (hl.z b hb).1) (fun b hb => (hl.z b hb).2)
  cases c with
  | own n ver =>
    obtain ⟨h1c, b, hb, hv, hbx, hx⟩ := h
    obtain ⟨b', h1, h2, h3, h4⟩ := hl.h n b hb
    refine ⟨h1c, b', h1, Nat.le_trans hv h2, h3.trans hbx, fun e => ?_⟩
    obtain ⟨p1, p2, p3⟩ := h4 (by omega)
    obtain ⟨a, cap, hu, hc, hbg, h0, hne⟩ := hx (by omega)
    refine ⟨a, cap, by rw [p1]; exact hu, by rw [p1]; exact hc, by rw [p1]; exact hbg, fun he => h0 ?_, fun he => ?_⟩
    · rw [he] at p1; exact List.eq_nil_of_length_eq_zero p1.symm
    · have hne' : b.els ≠ [] := by
        intro hc'
        rw [hc'] at p1
        exact he (List.eq_nil_of_length_eq_zero p1)
      obtain ⟨q1, q2⟩ := p3 hne'
      obtain ⟨r1, r2⟩ := hne hne'
      rw [q1, p2, q2]
      exact ⟨r1, r2⟩
  | sl n ver off len =>
    obtain ⟨h1c, b, hb, hv, hbx, hx⟩ := h
    obtain ⟨b', h1, h2, h3, h4⟩ := hl.h n b hb
    refine ⟨h1c, b', h1, Nat.le_trans hv h2, h3.trans hbx, fun e => ?_⟩
    obtain ⟨p1, p2, p3⟩ := h4 (by omega)
    obtain ⟨a, cap, hu, hc, hc2, hbg, h0, hne⟩ := hx (by omega)
    refine ⟨a, cap, hu, by rw [p1]; exact hc, by rw [p1]; exact hc2, hbg, fun he => h0 ?_, fun hp => ?_⟩
    · rw [he] at p1; exact List.eq_nil_of_length_eq_zero p1.symm
    · by_cases hn : b.els = []
      · have := h0 hn; omega
      · rw [(p3 hn).1, p2]; exact hne hp
  | ptr n ver idx off =>
    obtain ⟨h1c, b, hb, hv, hx⟩ := h
    obtain ⟨b', h1, h2, h3, h4⟩ := hl.h n b hb
    refine ⟨h1c, b', h1, Nat.le_trans hv h2, fun e => ?_⟩
    obtain ⟨p1, p2, p3⟩ := h4 (by omega)
    obtain ⟨hi, hu⟩ := hx (by omega)
    have hn : b.els ≠ [] := by intro hc; rw [hc] at hi; simp at hi
    rw [p1, p2, (p3 hn).1]
    exact ⟨hi, hu⟩
  | nilS => exact h
  | rptr cs off =>
    obtain ⟨b, o, us, hu, hz, hlen, hc, hm, hr⟩ := h
    refine ⟨b, o, us, hu, (hl.z b hz).1, hlen, hc, fun j v hj => ?_, hrr hr⟩
    rw [← hm j v hj]
    exact World.cell?_of_block (hl.z b hz).2
  | undef => exact h
  | agg cs => exact h
  | tup cs => exact h
  | fn f cap => exact h
  | bool b => exact hrr h
  | int k n => exact hrr h
  | str s => exact hrr h
  | lst sz l => exact hrr h

theorem Cells0.le {ρ ρ' : R} (hl : Le ρ ρ') : ∀ {cs : List AV} {us : List Value}, Cells0 ρ cs us → Cells0 ρ' cs us
  | [], _, h => h
  | _ :: _, _, ⟨u, r, e, h1, h2⟩ => ⟨u, r, e, h1.le hl, Cells0.le hl h2⟩
theorem cellR_eq {ρ : R} {c : AV} {u : Value} (h : ∀ f cap, c ≠ .fn f cap) : CellR ρ c u ↔ Cell0 ρ c u := by
  cases c <;> first | exact Iff.rfl | exact absurd rfl (h _ _)
theorem val1_eq {ρ : R} {c : AV} {u : Value} (h : ∀ cs, c ≠ .agg cs) (h0 : c ≠ .undef) : Val1 ρ c u ↔ CellR ρ c u := by
  cases c <;> first | exact Iff.rfl | exact absurd rfl (h _) | exact absurd rfl h0
theorem valR_eq {ρ : R} {c : AV} {u : Value} (h : ∀ cs, c ≠ .tup cs) : ValR ρ c u ↔ Val1 ρ c u := by
  cases c <;> first | exact Iff.rfl | exact absurd rfl (h _)
theorem elemR_eq {ρ : R} {c : AV} {us : List Value} (h : ∀ cs, c ≠ .agg cs) : ElemR ρ c us ↔ ∃ u, us = [u] ∧ CellR ρ c u := by
  cases c <;> first | exact Iff.rfl | exact absurd rfl (h _)
theorem CellR.le {ρ ρ' : R} (hl : Le ρ ρ') {c : AV} {u : Value} (h : CellR ρ c u) : CellR ρ' c u := by
  cases c with
  | fn f cap => obtain ⟨cu, e, h⟩ := h; exact ⟨cu, e, h.le hl⟩
  | _ => exact (cellR_eq (by simp)).2 (Cell0.le hl ((cellR_eq (by simp)).1 h))
theorem CellsR.le {ρ ρ' : R} (hl : Le ρ ρ') : ∀ {cs : List AV} {us : List Value}, CellsR ρ cs us → CellsR ρ' cs us
  | [], _, h => h
  | _ :: _, _, ⟨u, r, e, h1, h2⟩ => ⟨u, r, e, h1.le hl, CellsR.le hl h2⟩
theorem Val1.le {ρ ρ' : R} (hl : Le ρ ρ') {c : AV} {u : Value} (h : Val1 ρ c u) : Val1 ρ' c u := by
  cases c with
  | agg cs => obtain ⟨us, e, h⟩ := h; exact ⟨us, e, h.le hl⟩
  | undef => trivial
  | _ => exact (val1_eq (by simp) (by simp)).2 (CellR.le hl ((val1_eq (by simp) (by simp)).1 h))
theorem Vals1.le {ρ ρ' : R} (hl : Le ρ ρ') : ∀ {cs : List AV} {us : List Value}, Vals1 ρ cs us → Vals1 ρ' cs us
  | [], _, h => h
  | _ :: _, _, ⟨u, r, e, h1, h2⟩ => ⟨u, r, e, h1.le hl, Vals1.le hl h2⟩
theorem ValR.le {ρ ρ' : R} (hl : Le ρ ρ') {c : AV} {u : Value} (h : ValR ρ c u) : ValR ρ' c u := by
  cases c with
  | tup cs => obtain ⟨us, e, h⟩ := h; exact ⟨us, e, h.le hl⟩
  | _ => exact (valR_eq (by simp)).2 (Val1.le hl ((valR_eq (by simp)).1 h))
theorem ElemR.le {ρ ρ' : R} (hl : Le ρ ρ') {c : AV} {us : List Value} (h : ElemR ρ c us) : ElemR ρ' c us := by
  cases c with
  | agg cs => exact CellsR.le hl h
  | _ => obtain ⟨u, e, h⟩ := (elemR_eq (by simp)).1 h; exact (elemR_eq (by simp)).2 ⟨u, e, CellR.le hl h⟩

theorem CellsR.length {ρ : R} : ∀ {cs : List AV} {us : List Value}, CellsR ρ cs us → us.length = cs.length
  | [], _, h => by simp [CellsR] at h; simp [h]
  | _ :: _, _, ⟨u, r, e, _, h2⟩ => by simp [e, CellsR.length h2]
theorem ElemR.length {ρ : R} {c : AV} {us : List Value} (h : ElemR ρ c us) : us.length = (cells c).length := by
  cases c with
  | agg cs => exact CellsR.length h
  | _ => obtain ⟨u, rfl, _⟩ := (elemR_eq (by simp)).1 h; rfl
theorem CellsR.at {ρ : R} : ∀ {cs : List AV} {us : List Value}, CellsR ρ cs us → ∀ {j : Nat} {c : AV}, cs[j]? = some c → ∃ u, us[j]? = some u ∧ CellR ρ c u
  | [], _, _, _, _, hj => by simp at hj
  | _ :: _, _, ⟨u, r, e, h1, h2⟩, 0, c, hj => by simp at hj; subst hj; exact ⟨u, by simp [e], h1⟩
  | _ :: _, _, ⟨u, r, e, h1, h2⟩, j + 1, c, hj => by
    obtain ⟨v, h3, h4⟩ := CellsR.at h2 (by simpa using hj)
    exact ⟨v, by simpa [e] using h3, h4⟩
theorem CellsR.of {ρ : R} : ∀ {cs : List AV} {us : List Value}, us.length = cs.length → (∀ (j : Nat) (c : AV) (u : Value), cs[j]? = some c → us[j]? = some u → CellR ρ c u) → CellsR ρ cs us
  | [], us, hl, _ => by simpa [CellsR] using hl
  | c :: cs, us, hl, h => by
    cases us with
    | nil => simp at hl
    | cons u r => exact ⟨u, r, rfl, h 0 c u rfl rfl, CellsR.of (by simpa using hl) (fun j c u h1 h2 => h (j + 1) c u (by simpa using h1) (by simpa using h2))⟩
theorem CellsR.iff {ρ : R} {cs : List AV} {us : List Value} : CellsR ρ cs us ↔ us.length = cs.length ∧ ∀ (j : Nat) (c : AV) (u : Value), cs[j]? = some c → us[j]? = some u → CellR ρ c u :=
  ⟨fun h => ⟨h.length, fun j c u h1 h2 => by obtain ⟨v, h3, h4⟩ := h.at h1; rw [h2] at h3; cases h3; exact h4⟩, fun h => CellsR.of h.1 h.2⟩

theorem Cell0.one {ρ : R} {c : AV} {u : Value} (h : Cell0 ρ c u) : u.oneCell' = true := by
  cases c with
  | own n v => exact h.1
  | sl n v o l => exact h.1
  | ptr n v i o => exact h.1
  | nilS => obtain ⟨a, rfl⟩ := h; rfl
  | rptr cs off => obtain ⟨b, o, us, rfl, _⟩ := h; rfl
  | undef => exact h
  | agg cs => exact h.elim
  | tup cs => exact h.elim
  | fn f cap => exact h.elim
  | bool b => cases h; rfl
  | int k n => cases h; rfl
  | str s => cases h; rfl
  | lst sz l => cases h <;> rfl
theorem CellR.one {ρ : R} {c : AV} {u : Value} (h : CellR ρ c u) : u.oneCell' = true := by
  cases c with
  | fn f cap => obtain ⟨cu, rfl, _⟩ := h; rfl
  | _ => exact Cell0.one ((cellR_eq (by simp)).1 h)

/-- A block that nothing touches. -/
theorem BlkR.keep {ρ ρ' : R} {n : Nat} {b : Blk} (hl : Le ρ ρ') (hφ : b.els ≠ [] → ρ'.φ n = ρ.φ n ∧ ρ'.w.heap[ρ.φ n]? = ρ.w.heap[ρ.φ n]? ∧ (b.fz = false → ¬ ρ'.Z (ρ.φ n))) (h : BlkR ρ n b) : BlkR ρ' n b := by
  refine ⟨h.pos, h.can, h.rf, h.box, h.len, fun hne => ?_⟩
  obtain ⟨h1, h2, h3⟩ := hφ hne
  obtain ⟨cur, c1, c2, c3, c4⟩ := h.mem hne
  refine ⟨cur, by rw [h1, h2]; exact c1, by rw [h1]; exact h3, c3, fun i e hi => ?_⟩
  obtain ⟨us, u1, u2, u3⟩ := c4 i e hi
  exact ⟨us, u1, u2, u3.le hl⟩

theorem Ok.lt {ρ : R} (h : Ok ρ) {n : Nat} {b : Blk} (hb : ρ.h[n]? = some b) (hne : b.els ≠ []) : ρ.φ n < ρ.w.heap.size := by
  obtain ⟨cur, c1, _⟩ := (h.blk n b hb).mem hne
  exact (Array.getElem?_eq_some_iff.1 c1).1

/-- The world has new blocks, and no other change: the state as it was. -/
def R.at (ρ : R) (w' : World) : R := { ρ with w := w' }
theorem le_grow {ρ : R} (ho : Ok ρ) {w' : World} (hs : ∀ k, k < ρ.w.heap.size → w'.heap[k]? = ρ.w.heap[k]?) : Le ρ (ρ.at w') := by
  refine ⟨fun b hb => ⟨hb, hs _ (ho.zlt b hb)⟩, fun n b hb => ⟨b, hb, Nat.le_refl _, rfl, fun _ => ⟨rfl, rfl, fun hne => ⟨rfl, ?_⟩⟩⟩⟩
  show capCells w' (ρ.φ n) = _
  unfold capCells
  rw [hs _ (ho.lt hb hne)]
theorem ok_grow {ρ : R} (ho : Ok ρ) {w' : World} (hz : ρ.w.heap.size ≤ w'.heap.size) (hs : ∀ k, k < ρ.w.heap.size → w'.heap[k]? = ρ.w.heap[k]?) : Ok (ρ.at w') :=
  ⟨fun b hb => Nat.lt_of_lt_of_le (ho.zlt b hb) hz, fun n b hb => (ho.blk n b hb).keep (le_grow ho hs) (fun hne => ⟨rfl, hs _ (ho.lt hb hne), by
    obtain ⟨cur, _, c2, _⟩ := (ho.blk n b hb).mem hne
    exact c2⟩), ho.inj⟩

/-- A new block with a name. -/
def R.more (ρ : R) (w' : World) (b : Blk) : R := ⟨w', fun k => if k = ρ.h.length then ρ.w.heap.size else ρ.φ k, ρ.Z, ρ.h ++ [b]⟩
theorem get_push {α : Type} (l : List α) (x : α) (n : Nat) (y : α) (h : (l ++ [x])[n]? = some y) : (n < l.length ∧ l[n]? = some y) ∨ (n = l.length ∧ x = y) := by
  by_cases hn : n < l.length
  · rw [List.getElem?_append_left hn] at h; exact .inl ⟨hn, h⟩
  · rw [List.getElem?_append_right (by omega)] at h
    have : n - l.length = 0 := by
      cases hd : n - l.length with
      | zero => rfl
      | succ k => rw [hd] at h; simp at h
    rw [this] at h
    exact .inr ⟨by omega, by simpa using h⟩
theorem le_more {ρ : R} (ho : Ok ρ) {w' : World} {b : Blk} (hs : ∀ k, k < ρ.w.heap.size → w'.heap[k]? = ρ.w.heap[k]?) : Le ρ (ρ.more w' b) := by
  refine ⟨fun b hb => ⟨hb, hs _ (ho.zlt b hb)⟩, fun n c hc => ?_⟩
  have hn : n < ρ.h.length := (List.getElem?_eq_some_iff.1 hc).1
  refine ⟨c, by show (ρ.h ++ [b])[n]? = _; rw [List.getElem?_append_left hn]; exact hc, Nat.le_refl _, rfl, fun _ => ⟨rfl, rfl, fun hne => ⟨by show (if n = ρ.h.length then _ else _) = _; rw [if_neg (by omega)], ?_⟩⟩⟩
  show capCells w' (ρ.φ n) = _
  unfold capCells
  rw [hs _ (ho.lt hc hne)]
theorem ok_more {ρ : R} (ho : Ok ρ) {w' : World} {b : Blk} (hz : w'.heap.size = ρ.w.heap.size + 1) (hs : ∀ k, k < ρ.w.heap.size → w'.heap[k]? = ρ.w.heap[k]?)
    (hb : BlkR (ρ.more w' b) ρ.h.length b) : Ok (ρ.more w' b) := by
  refine ⟨fun b hb => by show b < w'.heap.size; have := ho.zlt b hb; omega, fun n c hc => ?_, fun n m x y hx hy hx0 hy0 hnm => ?_⟩
  · rcases get_push _ _ _ _ hc with ⟨hn, hc⟩ | ⟨rfl, rfl⟩
    · refine (ho.blk n c hc).keep (le_more ho hs) (fun hne => ⟨by show (if n = ρ.h.length then _ else _) = _; rw [if_neg (by omega)], hs _ (ho.lt hc hne), ?_⟩)
      obtain ⟨cur, _, c2, _⟩ := (ho.blk n c hc).mem hne
      exact c2
    · exact hb
  · show (if n = ρ.h.length then _ else _) ≠ (if m = ρ.h.length then _ else _)
    rcases get_push _ _ _ _ hx with ⟨hn, hx⟩ | ⟨rfl, rfl⟩
    · rw [if_neg (by omega)]
      rcases get_push _ _ _ _ hy with ⟨hm, hy⟩ | ⟨rfl, rfl⟩
      · rw [if_neg (by omega)]; exact ho.inj n m x y hx hy hx0 hy0 hnm
      · rw [if_pos rfl]; have := ho.lt hx hx0; omega
    · rw [if_pos rfl]
      rcases get_push _ _ _ _ hy with ⟨hm, hy⟩ | ⟨rfl, rfl⟩
      · rw [if_neg (by omega)]; have := ho.lt hy hy0; omega
      · exact absurd rfl hnm

end Go.Proofs.Ytiibidadpgknjaa.Fi
