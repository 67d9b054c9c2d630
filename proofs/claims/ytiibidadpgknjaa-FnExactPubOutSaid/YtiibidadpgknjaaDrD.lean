/- A region that draws its order, in the machine. -/
import Derived.Test.YtiibidadpgknjaaDrC
namespace Go.Proofs.Ytiibidadpgknjaa.Fi
open Go

section
variable {P : Program} {X : Ctx} {oc : Nat → List AV → List Blk → Option (AV × List Blk)} {oi : Nat → List AV → List Blk → Option Ans}

/-- The first nr blocks stay, and name no more than they did. -/
def LkP (nr : Nat) (h h' : List Blk) : Prop := ∀ (n : Nat) (b : Blk), n < nr → h[n]? = some b → ∃ b' : Blk, h'[n]? = some b' ∧ bndAll b'.els ≤ bndAll b.els
theorem LkP.refl (nr : Nat) (h : List Blk) : LkP nr h h := fun n b _ hb => ⟨b, hb, Nat.le_refl _⟩
theorem LkP.trans {nr : Nat} {a b c : List Blk} (h : LkP nr a b) (k : LkP nr b c) : LkP nr a c := fun n x hn hx => by
  obtain ⟨y, h1, h2⟩ := h n x hn hx
  obtain ⟨z, h3, h4⟩ := k n y hn h1
  exact ⟨z, h3, Nat.le_trans h4 h2⟩
theorem LkP.of {nr : Nat} {ρ ρ' : R} (h : LkN nr ρ.h ρ'.h) (hx : Nx ρ ρ') : LkP nr ρ.h ρ'.h := fun n b hn hb => by
  obtain ⟨b', h1, _⟩ := hx.gr n b hb
  exact ⟨b', h1, h n b b' hn hb h1⟩

/-- The slots when some operations are done. -/
def slotsAt (all : List Oper) (V : Nat → AV) (T0 : Nat → AV) (S : Nat → Bool) : Nat → Nat → AV
  | 0, x => T0 x
  | n + 1, x => bif S n && decide ((all[n]?).bind (·.dst) = some x) then V n else slotsAt all V T0 S n x

variable {all : List Oper} {T : Nat → Nat → AV} {H : Nat → List Blk} {L : Nat → Bool} {V : Nat → AV} {F : Nat → Foot}

theorem putO_at (dst : Option Nat) (v : AV) (t : Nat → AV) (x : Nat) : putO dst v t x = bif decide (dst = some x) then v else t x := by
  cases dst with
  | none => simp [putO]
  | some d =>
    show (bif Nat.beq d x then v else t x) = _
    cases hdx : Nat.beq d x with
    | true => rw [Nat.eq_of_beq_eq_true hdx]; simp
    | false =>
      have : d ≠ x := fun e => by rw [e, Nat.beq_refl] at hdx; cases hdx
      simp [this]
theorem nxt_at {bef : List (List Nat)} {j : Nat} {o : Oper} (ho : all[j]? = some o) (hr : Run1 X oc oi all bef T H L V F j o) (x : Nat) : T (j + 1) x = bif decide ((all[j]?).bind (·.dst) = some x) then V j else T j x := by
  rw [hr.nxt, ho, putO_at]
  rfl

theorem slots_all (hrun : ∀ (j : Nat) (o : Oper), all[j]? = some o → Run1 X oc oi all (befs all []) T H L V F j o) {S : Nat → Bool} : ∀ (n : Nat), n ≤ all.length → (∀ j, j < n → S j = true) → ∀ x, slotsAt all V (T 0) S n x = T n x
  | 0, _, _, _ => rfl
  | n + 1, hn, hs, x => by
    have ho := List.getElem?_eq_getElem (show n < all.length by omega)
    rw [nxt_at ho (hrun n _ ho) x, slotsAt, hs n (by omega), Bool.true_and, slots_all hrun n (by omega) (fun j hj => hs j (by omega)) x]

/-- Two operations that do not wait for each other. -/
theorem indep_parts {o o' : Oper} {e e' : Foot} (h : indep all o e o' e' = true) : (∀ d, o.dst = some d → o'.dst ≠ some d ∧ d ∉ readsOf all o') ∧ (∀ d, o'.dst = some d → d ∉ readsOf all o) ∧
    ¬(e.chg = true ∧ e'.chg = true) ∧ (e.chg = true → ∀ n ∈ e'.lk, n ∉ e.wr) ∧ (e'.chg = true → ∀ n ∈ e.lk, n ∉ e'.wr) := by
  unfold indep at h
  simp only [Bool.and_eq_true, Bool.not_eq_true', Bool.or_eq_true] at h
  obtain ⟨⟨⟨⟨h1, h2⟩, h3⟩, h4⟩, h5⟩ := h
  refine ⟨fun d hd => ?_, fun d hd => ?_, fun hx => ?_, fun hc => ?_, fun hc => ?_⟩
  · have := apartN_mem h1 d (by rw [hd]; simp)
    simp only [List.mem_append, not_or] at this
    exact ⟨fun hd' => this.1 (by rw [hd']; simp), this.2⟩
  · exact apartN_mem h2 d (by rw [hd]; simp)
  · rw [hx.1, hx.2] at h3; cases h3
  · rcases h4 with h4 | h4
    · rw [hc] at h4; cases h4
    · exact apartN_mem h4
  · rcases h5 with h5 | h5
    · rw [hc] at h5; cases h5
    · exact apartN_mem h5

/-- Where operation i stands among those that are done: before or behind by what waits for what, or apart. -/
theorem place {S : Nat → Bool} (hrun : ∀ (j : Nat) (o : Oper), all[j]? = some o → Run1 X oc oi all (befs all []) T H L V F j o) (hcl : Closed all S) {i : Nat} {o : Oper} (ho : all[i]? = some o) (hsi : S i = false) (he : ∀ e ∈ edgesOf o, S e = true)
    {j : Nat} {o' : Oper} (ho' : all[j]? = some o') : (j < i → S j = true ∨ indep all o' (F j) o (F i) = true) ∧ (i < j → S j = false ∨ indep all o (F i) o' (F j) = true) := by
  constructor
  · intro hj
    rcases (hrun i o ho).prs j o' hj ho' with h | h
    · exact .inl (ready_bef hcl ho he j h)
    · exact .inr h
  · intro hj
    rcases (hrun j o' ho').prs i o hj ho with h | h
    · left
      cases hs : S j with
      | false => rfl
      | true =>
        have := closed_bef hcl (j + 1) j (by omega) o' ho' hs i h
        rw [hsi] at this; cases this
    · exact .inr h

theorem slots_read {S : Nat → Bool} (hrun : ∀ (j : Nat) (o : Oper), all[j]? = some o → Run1 X oc oi all (befs all []) T H L V F j o) (hcl : Closed all S) {i : Nat} {o : Oper} (ho : all[i]? = some o) (hsi : S i = false) (he : ∀ e ∈ edgesOf o, S e = true)
    {x : Nat} (hx : x ∈ readsOf all o) : slotsAt all V (T 0) S all.length x = T i x := by
  have hi := (List.getElem?_eq_some_iff.1 ho).1
  have h1 : ∀ n, n ≤ i → slotsAt all V (T 0) S n x = T n x := by
    intro n
    induction n with
    | zero => intro _; rfl
    | succ n ih =>
      intro hn
      have ho' := List.getElem?_eq_getElem (show n < all.length by omega)
      rw [nxt_at ho' (hrun n _ ho') x, slotsAt, ih (by omega)]
      cases hd : decide ((all[n]?).bind (·.dst) = some x) with
      | false => simp
      | true =>
        have hd' := of_decide_eq_true hd
        rw [ho'] at hd'
        rcases (place hrun hcl ho hsi he ho').1 (by omega) with h | h
        · rw [h]; rfl
        · exact absurd hx ((indep_parts h).1 x hd').2
  have h2 : ∀ m, i + m ≤ all.length → slotsAt all V (T 0) S (i + m) x = T i x := by
    intro m
    induction m with
    | zero => intro _; exact h1 i (Nat.le_refl _)
    | succ m ih =>
      intro hm
      rw [← Nat.add_assoc, slotsAt, ih (by omega)]
      have ho' := List.getElem?_eq_getElem (show i + m < all.length by omega)
      cases hd : decide ((all[i + m]?).bind (·.dst) = some x) with
      | false => simp
      | true =>
        have hd' := of_decide_eq_true hd
        rw [ho'] at hd'
        by_cases hmi : m = 0
        · subst hmi; rw [Nat.add_zero, hsi]; rfl
        · rcases (place hrun hcl ho hsi he ho').2 (by omega) with h | h
          · rw [h]; rfl
          · exact absurd hx ((indep_parts h).2.1 x hd')
  have := h2 (all.length - i) (by omega)
  rwa [show i + (all.length - i) = all.length by omega] at this

theorem slots_put {S S' : Nat → Bool} (hrun : ∀ (j : Nat) (o : Oper), all[j]? = some o → Run1 X oc oi all (befs all []) T H L V F j o) (hcl : Closed all S) {i : Nat} {o : Oper} (ho : all[i]? = some o) (hsi : S i = false) (he : ∀ e ∈ edgesOf o, S e = true)
    (hi' : S' i = true) (hs : ∀ j, j ≠ i → S' j = S j) (x : Nat) : slotsAt all V (T 0) S' all.length x = putO o.dst (V i) (slotsAt all V (T 0) S all.length) x := by
  have hi := (List.getElem?_eq_some_iff.1 ho).1
  have h1 : ∀ n, n ≤ i → slotsAt all V (T 0) S' n x = slotsAt all V (T 0) S n x := by
    intro n
    induction n with
    | zero => intro _; rfl
    | succ n ih => intro hn; rw [slotsAt, slotsAt, ih (by omega), hs n (by omega)]
  by_cases hd : o.dst = some x
  · have h2 : ∀ m, i + 1 + m ≤ all.length → slotsAt all V (T 0) S' (i + 1 + m) x = V i := by
      intro m
      induction m with
      | zero =>
        intro _
        rw [Nat.add_zero, slotsAt, hi', ho]
        simp [hd]
      | succ m ih =>
        intro hm
        rw [← Nat.add_assoc, slotsAt, ih (by omega), hs _ (by omega)]
        have ho' := List.getElem?_eq_getElem (show i + 1 + m < all.length by omega)
        cases hdj : decide ((all[i + 1 + m]?).bind (·.dst) = some x) with
        | false => simp
        | true =>
          have hd' := of_decide_eq_true hdj
          rw [ho'] at hd'
          rcases (place hrun hcl ho hsi he ho').2 (by omega) with h | h
          · rw [h]; rfl
          · exact absurd hd' ((indep_parts h).1 x hd).1
    have := h2 (all.length - (i + 1)) (by omega)
    rw [show i + 1 + (all.length - (i + 1)) = all.length by omega] at this
    rw [this, hd]
    show V i = bif Nat.beq x x then V i else _
    rw [Nat.beq_refl]; rfl
  · have h2 : ∀ m, i + m ≤ all.length → slotsAt all V (T 0) S' (i + m) x = slotsAt all V (T 0) S (i + m) x := by
      intro m
      induction m with
      | zero => intro _; exact h1 i (Nat.le_refl _)
      | succ m ih =>
        intro hm
        rw [← Nat.add_assoc, slotsAt, slotsAt, ih (by omega)]
        by_cases hmi : m = 0
        · subst hmi
          rw [Nat.add_zero, ho]
          have : decide ((some o).bind (·.dst) = some x) = false := decide_eq_false (by simpa using hd)
          rw [this]; simp
        · rw [hs _ (by omega)]
    have := h2 (all.length - i) (by omega)
    rw [show i + (all.length - i) = all.length by omega] at this
    rw [this]
    unfold putO
    cases hdo : o.dst with
    | none => rfl
    | some d =>
      have hdx : d ≠ x := fun e => hd (e ▸ hdo)
      show _ = bif Nat.beq d x then V i else _
      have : Nat.beq d x = false := by rw [Bool.eq_false_iff]; intro hc; exact hdx (Nat.eq_of_beq_eq_true hc)
      rw [this]; rfl

theorem still_at {j : Nat} {o : Oper} {bef : List (List Nat)} (hr : Run1 X oc oi all bef T H L V F j o) (hc : (F j).chg = false) : H (j + 1) = H j ∧ L (j + 1) = L j := by
  obtain ⟨h1, h2, _⟩ := eff_still hr.ent hc hr.eff
  exact ⟨h1, h2⟩
/-- Between two places nothing changes. -/
theorem same_heap (hrun : ∀ (j : Nat) (o : Oper), all[j]? = some o → Run1 X oc oi all (befs all []) T H L V F j o) {a : Nat} : ∀ (m : Nat), a + m ≤ all.length → (∀ j, a ≤ j → j < a + m → (F j).chg = false) → H (a + m) = H a
  | 0, _, _ => rfl
  | m + 1, hm, hc => by
    have ho := List.getElem?_eq_getElem (show a + m < all.length by omega)
    rw [← Nat.add_assoc, (still_at (hrun _ _ ho) (hc (a + m) (by omega) (by omega))).1, same_heap hrun m (by omega) fun j h1 h2 => hc j h1 (by omega)]
/-- Between two places a block stays. -/
theorem same_blk (hrun : ∀ (j : Nat) (o : Oper), all[j]? = some o → Run1 X oc oi all (befs all []) T H L V F j o) {a n : Nat} {b : Blk} (hb : (H a)[n]? = some b) : ∀ (m : Nat), a + m ≤ all.length → (∀ j, a ≤ j → j < a + m → (F j).chg = true → n ∉ (F j).wr) →
    ∃ b' : Blk, (H (a + m))[n]? = some b' ∧ SB b b'
  | 0, _, _ => ⟨b, hb, SB.refl b⟩
  | m + 1, hm, hc => by
    obtain ⟨b', h1, h2⟩ := same_blk hrun hb m (by omega) fun j h1 h2 => hc j h1 (by omega)
    have ho := List.getElem?_eq_getElem (show a + m < all.length by omega)
    have hr := hrun _ _ ho
    rw [← Nat.add_assoc]
    cases hch : (F (a + m)).chg with
    | false => rw [(still_at hr hch).1]; exact ⟨b', h1, h2⟩
    | true =>
      obtain ⟨b2, h3, h4⟩ := eff_writes hr.ent hr.eff n b' (hc _ (by omega) (by omega) hch) h1
      exact ⟨b2, h3, h2.trans h4⟩

theorem binds_any {m : Region.Mode} {e : Edge} (h : Region.binds .any e = true) : Region.binds m e = true := by
  unfold Region.binds at *
  split at h <;> first | (cases h; done) | skip
  rfl
end
end Go.Proofs.Ytiibidadpgknjaa.Fi
