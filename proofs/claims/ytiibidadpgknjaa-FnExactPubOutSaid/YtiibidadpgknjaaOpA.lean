/- What one operation does in the machine: the states, and the operations without memory. -/
import Derived.Test.YtiibidadpgknjaaTab
import Derived.OpenShut
import Derived.Laws.Concat
import Derived.Laws.CopyRow
import Derived.Laws.StructEq
namespace Go.Proofs.Ytiibidadpgknjaa.Fi
open Go

/-! ### From one state to a later one -/

structure Fr (ρ ρ' : R) : Prop where
  os : ρ'.w.os = ρ.w.os
  tape : ρ'.w.tape = ρ.w.tape
  output : ρ'.w.output = ρ.w.output
  size : ρ.w.heap.size ≤ ρ'.w.heap.size
  fr : ∀ k, k < ρ.w.heap.size → (∀ (n : Nat) (b : Blk), ρ.h[n]? = some b → b.els ≠ [] → b.fz = false → ρ.φ n ≠ k) → ρ'.w.heap[k]? = ρ.w.heap[k]?
  nw : ∀ (n : Nat) (b : Blk), ρ'.h[n]? = some b → b.els ≠ [] → ρ.w.heap.size ≤ ρ'.φ n ∨ ∃ b0, ρ.h[n]? = some b0 ∧ b0.els ≠ [] ∧ (b.fz = false → b0.fz = false) ∧ ρ'.φ n = ρ.φ n

theorem Fr.trans {a b c : R} (h : Fr a b) (k : Fr b c) : Fr a c := by
  refine ⟨k.os.trans h.os, k.tape.trans h.tape, k.output.trans h.output, Nat.le_trans h.size k.size, fun i hi hn => ?_, fun n x hx he => ?_⟩
  · rw [← h.fr i hi hn]
    refine k.fr i (Nat.lt_of_lt_of_le hi h.size) fun n x hx he hf heq => ?_
    rcases h.nw n x hx he with h1 | ⟨b0, h1, h2, h3, h4⟩
    · omega
    · exact hn n b0 h1 h2 (h3 hf) (h4.symm.trans heq)
  · rcases k.nw n x hx he with h1 | ⟨b0, h1, h2, h3, h4⟩
    · exact .inl (Nat.le_trans h.size h1)
    · rw [h4]
      rcases h.nw n b0 h1 h2 with g1 | ⟨b1, g1, g2, g3, g4⟩
      · exact .inl g1
      · exact .inr ⟨b1, g1, g2, fun hf => g3 (h3 hf), g4⟩

/-- What stays of a block. -/
def GrB (ρ ρ' : R) (n : Nat) : Prop := ∀ b : Blk, ρ.h[n]? = some b → ∃ b' : Blk, ρ'.h[n]? = some b' ∧ b'.sz = b.sz ∧ b'.ty = b.ty ∧ b'.box = b.box ∧ b.els.length ≤ b'.els.length ∧
  (b'.els.length = b.els.length → b.els ≠ [] → ρ'.φ n = ρ.φ n ∧ capCells ρ'.w (ρ.φ n) = capCells ρ.w (ρ.φ n))
theorem GrB.trans {a b c : R} {n : Nat} (h : GrB a b n) (k : GrB b c n) : GrB a c n := by
  intro x hx
  obtain ⟨y, h1, h2, h3, h4, h5, h6⟩ := h x hx
  obtain ⟨z, k1, k2, k3, k4, k5, k6⟩ := k y h1
  refine ⟨z, k1, k2.trans h2, k3.trans h3, k4.trans h4, Nat.le_trans h5 k5, fun e hne => ?_⟩
  obtain ⟨p1, p2⟩ := h6 (by omega) hne
  obtain ⟨q1, q2⟩ := k6 (by omega) (by intro hc; rw [hc] at h5; exact hne (List.eq_nil_of_length_eq_zero (by simpa using h5)))
  rw [p1] at q1 q2
  exact ⟨q1, q2.trans p2⟩

/-- What is frozen stays. -/
def FzB (ρ ρ' : R) (n : Nat) : Prop := ∀ b : Blk, ρ.h[n]? = some b → b.fz = true → b.els ≠ [] → ∃ b' : Blk, ρ'.h[n]? = some b' ∧ b'.fz = true ∧ b'.els ≠ [] ∧ ρ'.φ n = ρ.φ n
theorem FzB.trans {a b c : R} {n : Nat} (h : FzB a b n) (k : FzB b c n) : FzB a c n := by
  intro x h1 h2 h3
  obtain ⟨y, p1, p2, p3, p4⟩ := h x h1 h2 h3
  obtain ⟨z, q1, q2, q3, q4⟩ := k y p1 p2 p3
  exact ⟨z, q1, q2, q3, q4.trans p4⟩

structure Nx (ρ ρ' : R) : Prop where
  le : Le ρ ρ'
  ok : Ok ρ'
  fr : Fr ρ ρ'
  gr : ∀ n, GrB ρ ρ' n
  fz : ∀ n, FzB ρ ρ' n
  zn : ∀ k, ρ'.Z k → ρ.Z k ∨ ρ.w.heap.size ≤ k ∨ ∃ n c, ρ'.h[n]? = some c ∧ c.els ≠ [] ∧ c.fz = true ∧ ρ'.φ n = k
theorem Nx.trans {a b c : R} (h : Nx a b) (k : Nx b c) : Nx a c := ⟨h.le.trans k.le, k.ok, h.fr.trans k.fr, fun n => (h.gr n).trans (k.gr n), fun n => (h.fz n).trans (k.fz n), fun x hx => by
  rcases k.zn x hx with h1 | h1 | h1
  · rcases h.zn x h1 with h2 | h2 | ⟨n, c, h2, h3, h4, h5⟩
    · exact .inl h2
    · exact .inr (.inl h2)
    · obtain ⟨c', p1, p2, p3, p4⟩ := k.fz n c h2 h4 h3
      exact .inr (.inr ⟨n, c', p1, p3, p2, p4.trans h5⟩)
  · exact .inr (.inl (Nat.le_trans h.fr.size h1))
  · exact .inr (.inr h1)⟩
theorem Nx.refl {ρ : R} (h : Ok ρ) : Nx ρ ρ := by
  refine ⟨Le.refl ρ, h, ⟨rfl, rfl, rfl, Nat.le_refl _, fun _ _ _ => rfl, fun n b hb he => .inr ⟨b, hb, he, id, rfl⟩⟩, fun n b hb => ⟨b, hb, rfl, rfl, rfl, Nat.le_refl _, fun _ _ => ⟨rfl, rfl⟩⟩, fun n b hb h1 h2 => ⟨b, hb, h1, h2, rfl⟩, fun _ hk => .inl hk⟩

/-- The world has new blocks, and no other change. -/
theorem nx_grow {ρ : R} (ho : Ok ρ) {w' : World} (hos : w'.os = ρ.w.os) (ht : w'.tape = ρ.w.tape) (hout : w'.output = ρ.w.output) (hz : ρ.w.heap.size ≤ w'.heap.size)
    (hs : ∀ k, k < ρ.w.heap.size → w'.heap[k]? = ρ.w.heap[k]?) : Nx ρ (ρ.at w') := by
  refine ⟨le_grow ho hs, ok_grow ho hz hs, ⟨hos, ht, hout, hz, fun k hk _ => hs k hk, fun n b hb he => .inr ⟨b, hb, he, id, rfl⟩⟩, fun n b hb => ⟨b, hb, rfl, rfl, rfl, Nat.le_refl _, fun _ hne => ⟨rfl, ?_⟩⟩, fun n b hb h1 h2 => ⟨b, hb, h1, h2, rfl⟩, fun _ hk => .inl hk⟩
  show capCells w' (ρ.φ n) = _
  unfold capCells
  rw [hs _ (ho.lt hb hne)]

/-- A new block with a name. -/
theorem nx_more {ρ : R} (ho : Ok ρ) {w' : World} {b : Blk} (hos : w'.os = ρ.w.os) (ht : w'.tape = ρ.w.tape) (hout : w'.output = ρ.w.output) (hz : w'.heap.size = ρ.w.heap.size + 1)
    (hs : ∀ k, k < ρ.w.heap.size → w'.heap[k]? = ρ.w.heap[k]?) (hb : BlkR (ρ.more w' b) ρ.h.length b) : Nx ρ (ρ.more w' b) := by
  have hφ : ∀ n, n < ρ.h.length → (ρ.more w' b).φ n = ρ.φ n := fun n hn => by show (if n = ρ.h.length then _ else _) = _; rw [if_neg (by omega)]
  refine ⟨le_more ho hs, ok_more ho hz hs hb, ⟨hos, ht, hout, by show _ ≤ w'.heap.size; omega, fun k hk _ => hs k hk, fun n c hc he => ?_⟩, fun n c hc => ?_, fun n c hc h1 h2 => ?_, fun _ hk => .inl hk⟩
  · rcases get_push _ _ _ _ hc with ⟨hn, hc⟩ | ⟨rfl, rfl⟩
    · exact .inr ⟨c, hc, he, id, hφ n hn⟩
    · left; show _ ≤ (if ρ.h.length = ρ.h.length then _ else _); rw [if_pos rfl]; exact Nat.le_refl _
  · have hn : n < ρ.h.length := (List.getElem?_eq_some_iff.1 hc).1
    refine ⟨c, by show (ρ.h ++ [b])[n]? = _; rw [List.getElem?_append_left hn]; exact hc, rfl, rfl, rfl, Nat.le_refl _, fun _ hne => ⟨hφ n hn, ?_⟩⟩
    show capCells w' (ρ.φ n) = _
    unfold capCells
    rw [hs _ (ho.lt hc hne)]
  · have hn : n < ρ.h.length := (List.getElem?_eq_some_iff.1 hc).1
    exact ⟨c, by show (ρ.h ++ [b])[n]? = _; rw [List.getElem?_append_left hn]; exact hc, h1, h2, hφ n hn⟩

/-- A new block that is only read: it has no name. -/
def R.zore (ρ : R) (w' : World) : R := ⟨w', ρ.φ, fun k => ρ.Z k ∨ k = ρ.w.heap.size, ρ.h⟩
theorem nx_zore {ρ : R} (ho : Ok ρ) {w' : World} (hos : w'.os = ρ.w.os) (ht : w'.tape = ρ.w.tape) (hout : w'.output = ρ.w.output) (hz : w'.heap.size = ρ.w.heap.size + 1)
    (hs : ∀ k, k < ρ.w.heap.size → w'.heap[k]? = ρ.w.heap[k]?) : Nx ρ (ρ.zore w') := by
  have hle : Le ρ (ρ.zore w') := by
    refine ⟨fun b hb => ⟨.inl hb, hs _ (ho.zlt b hb)⟩, fun n b hb => ⟨b, hb, Nat.le_refl _, rfl, fun _ => ⟨rfl, rfl, fun hne => ⟨rfl, ?_⟩⟩⟩⟩
    show capCells w' (ρ.φ n) = _
    unfold capCells
    rw [hs _ (ho.lt hb hne)]
  refine ⟨hle, ⟨fun b hb => ?_, fun n b hb => ?_, ho.inj⟩, ⟨hos, ht, hout, by show _ ≤ w'.heap.size; omega, fun k hk _ => hs k hk, fun n b hb he => .inr ⟨b, hb, he, id, rfl⟩⟩, fun n b hb => ⟨b, hb, rfl, rfl, rfl, Nat.le_refl _, fun _ hne => ⟨rfl, ?_⟩⟩, fun n b hb h1 h2 => ⟨b, hb, h1, h2, rfl⟩, fun k hk => Or.elim hk .inl (fun h => .inr (.inl (Nat.le_of_eq h.symm)))⟩
  · show b < w'.heap.size
    rcases hb with hb | rfl
    · have := ho.zlt b hb; omega
    · omega
  · refine (ho.blk n b hb).keep hle fun hne => ⟨rfl, hs _ (ho.lt hb hne), fun hf hz' => ?_⟩
    obtain ⟨cur, _, c2, _⟩ := (ho.blk n b hb).mem hne
    rcases hz' with hz' | hz'
    · exact c2 hf hz'
    · have := ho.lt hb hne; omega
  · show capCells w' (ρ.φ n) = _
    unfold capCells
    rw [hs _ (ho.lt hb hne)]

/-! ### What an operation answers -/

def Does (P : Program) (ρ : R) (s : Sem Next) (v : AV) (h' : List Blk) : Prop :=
  ∃ w' φ' Z' nx vv, s.run P ρ.w = .ok nx w' ∧ (nx = .value vv ∨ (nx = .skip ∧ vv = undef)) ∧ Nx ρ ⟨w', φ', Z', h'⟩ ∧ ValR ⟨w', φ', Z', h'⟩ v vv
def nv (s : Sem Value) : Sem Next := do pure (.value (← s))
theorem run_nv {P : Program} {s : Sem Value} {w w' : World} {v : Value} (h : s.run P w = .ok v w') : (nv s).run P w = .ok (.value v) w' := by
  simp [nv, h]
theorem does_pure {P : Program} {ρ : R} (ho : Ok ρ) {s : Sem Next} {v : AV} {vv : Value} (hs : s.run P ρ.w = .ok (.value vv) ρ.w) (hv : ValR ρ v vv) : Does P ρ s v ρ.h :=
  ⟨ρ.w, ρ.φ, ρ.Z, _, vv, hs, .inl rfl, Nx.refl ho, hv⟩
theorem does_nv {P : Program} {ρ : R} (ho : Ok ρ) {s : Sem Value} {v : AV} {vv : Value} (hs : s.run P ρ.w = .ok vv ρ.w) (hv : ValR ρ v vv) : Does P ρ (nv s) v ρ.h :=
  does_pure ho (run_nv hs) hv

/-! ### Values, inverted -/

theorem vr_int {ρ : R} {k : IntKind} {n : Int} {v : Value} : ValR ρ (.int k n) v ↔ v = .int k n ∧ k.has n :=
  ⟨fun h => by cases (show RR ρ.w ρ.Z (.int k n) [v] from h) with | int _ _ h' => exact ⟨rfl, h'⟩, fun ⟨e, h⟩ => by subst e; exact RR.int k n h⟩
theorem vr_bool {ρ : R} {b : Bool} {v : Value} : ValR ρ (.bool b) v ↔ v = .bool b :=
  ⟨fun h => by cases (show RR ρ.w ρ.Z (.bool b) [v] from h) with | bool _ => rfl, fun e => by subst e; exact RR.bool b⟩
theorem vr_str {ρ : R} {s : List UInt8} {v : Value} : ValR ρ (.str s) v ↔ v = .string ⟨s.toArray⟩ ∧ s.length ≤ bigN :=
  ⟨fun h => by cases (show RR ρ.w ρ.Z (.str s) [v] from h) with | str _ h' => exact ⟨rfl, h'⟩, fun ⟨e, h⟩ => by subst e; exact RR.str s h⟩
theorem vr_agg {ρ : R} {cs : List AV} {v : Value} : ValR ρ (.agg cs) v ↔ ∃ us : Array Value, v = .agg us ∧ CellsR ρ cs us.toList := Iff.rfl
theorem vr_tup {ρ : R} {vs : List AV} {v : Value} : ValR ρ (.tup vs) v ↔ ∃ us : Array Value, v = .tuple us ∧ Vals1 ρ vs us.toList := Iff.rfl
theorem vr_cell {ρ : R} {c : AV} {v : Value} (hc : isCell c = true) (h0 : c ≠ .undef) : ValR ρ c v ↔ CellR ρ c v := by
  cases c <;> first | exact absurd rfl h0 | exact Iff.rfl | cases hc

theorem asI_some {v : AV} {p : IntKind × Int} (h : asI v = some p) : v = .int p.1 p.2 := by
  cases v <;> simp [asI] at h
  subst h; rfl
theorem asB_some {v : AV} {b : Bool} (h : asB v = some b) : v = .bool b := by
  cases v <;> simp [asB] at h
  subst h; rfl
theorem asTup_some {v : AV} {l : List AV} (h : asTup v = some l) : v = .tup l := by
  cases v <;> simp [asTup] at h
  subst h; rfl

/-! ### Numbers -/

theorem has_iff {k : IntKind} {n : Int} : k.has n ↔ k.min ≤ n ∧ n ≤ k.max := Iff.rfl
theorem has_wrap (k : IntKind) (n : Int) : k.has (k.wrap n) := by
  have := wf_wrap k n
  simpa [Lit.wf, has_iff] using this
theorem wrap_has {k : IntKind} {n : Int} (h : k.has n) : k.wrap n = n := by
  rw [has_iff] at h
  cases k <;> simp [IntKind.min, IntKind.max, IntKind.signed, IntKind.bits] at h <;> simp [IntKind.wrap, IntKind.signed, IntKind.bits] <;> (try split) <;> omega
theorem min_le0 (k : IntKind) : k.min ≤ 0 := by cases k <;> decide
theorem max_ge0 (k : IntKind) : 0 ≤ k.max := by cases k <;> decide
theorem mkI_some {X : Ctx} {k : IntKind} {n : Int} {v : AV} (h : mkI X k n = some v) : v = .int k (k.wrap n) := by
  unfold mkI at h
  cases hw : X.wr with
  | true => rw [hw] at h; simpa using h.symm
  | false =>
    rw [hw] at h
    obtain ⟨h1, h2⟩ := cond_some h
    rw [wrap_has (inR_has h1)]
    exact (Option.some.inj h2).symm
theorem has_tmod {k : IntKind} {x : Int} (h : k.has x) (y : Int) : k.has (x.tmod y) := by
  rw [has_iff] at h ⊢
  have h1 := min_le0 k
  have h2 := max_ge0 k
  rcases Int.le_total 0 x with hx | hx
  · have a := Int.tmod_nonneg y hx
    have b : x.tmod y ≤ x := by
      rw [Int.tmod_eq_emod_of_nonneg hx]
      by_cases hy : y = 0
      · subst hy; simp
      · have := Int.ediv_mul_add_emod x y
        have h3 := Int.emod_nonneg x hy
        rcases Int.le_total 0 y with h4 | h4
        · have : 0 ≤ x / y := Int.ediv_nonneg hx h4
          have : 0 ≤ x / y * y := Int.mul_nonneg this h4
          omega
        · have h5 : x / y ≤ 0 := Int.ediv_nonpos_of_nonneg_of_nonpos hx h4
          have : 0 ≤ x / y * y := Int.mul_nonneg_of_nonpos_of_nonpos h5 h4
          omega
    omega
  · obtain ⟨m, rfl⟩ : ∃ m, x = -m := ⟨-x, by omega⟩
    rw [Int.neg_tmod]
    have hm : 0 ≤ m := by omega
    have a := Int.tmod_nonneg y hm
    have b : m.tmod y ≤ m := by
      rw [Int.tmod_eq_emod_of_nonneg hm]
      by_cases hy : y = 0
      · subst hy; simp
      · have := Int.ediv_mul_add_emod m y
        have h3 := Int.emod_nonneg m hy
        rcases Int.le_total 0 y with h4 | h4
        · have : 0 ≤ m / y := Int.ediv_nonneg hm h4
          have : 0 ≤ m / y * y := Int.mul_nonneg this h4
          omega
        · have h5 : m / y ≤ 0 := Int.ediv_nonpos_of_nonneg_of_nonpos hm h4
          have : 0 ≤ m / y * y := Int.mul_nonneg_of_nonpos_of_nonpos h5 h4
          omega
    omega
theorem has_shr {k : IntKind} {x : Int} (h : k.has x) (n : Nat) : k.has (x.fdiv (2 ^ n)) := by
  rw [has_iff] at h ⊢
  have h1 := min_le0 k
  have h2 := max_ge0 k
  have hp : (0 : Int) < 2 ^ n := Int.pow_pos (by decide)
  rw [Int.fdiv_eq_ediv_of_nonneg _ (Int.le_of_lt hp)]
  have e := Int.ediv_mul_add_emod x (2 ^ n)
  have r := Int.emod_nonneg x (Int.ne_of_gt hp)
  have r' := Int.emod_lt_of_pos x hp
  rcases Int.le_total 0 x with hx | hx
  · have a := Int.ediv_nonneg hx (Int.le_of_lt hp)
    have b : x / 2 ^ n ≤ x := Int.ediv_le_self _ hx
    omega
  · have a : x / 2 ^ n ≤ 0 := by
      rcases Int.lt_or_le 0 (x / 2 ^ n) with hc | hc
      · have : 0 < x / 2 ^ n * 2 ^ n := Int.mul_pos hc hp
        omega
      · exact hc
    have b : x ≤ x / 2 ^ n := by
      refine Int.le_ediv_of_mul_le hp ?_
      have h7 := Int.mul_le_mul_of_nonpos_left (a := x) (b := 2 ^ n) (c := 1) hx (by omega)
      omega
    omega
end Go.Proofs.Ytiibidadpgknjaa.Fi
