/- A region that draws its order, in the machine. -/
import Derived.Test.YtiibidadpgknjaaDrD
namespace Go.Proofs.Ytiibidadpgknjaa.Fi
open Go

/-- What is known of the program and of the calls. -/
structure Kn (P : Program) (X : Ctx) (oc : Nat → List AV → List Blk → Option (AV × List Blk)) (oi : Nat → List AV → List Blk → Option Ans) : Prop where
  tab : TabOk P X
  eq : EqOk P X
  name : NameOk P
  iso : ∀ f as bs v bs', oc f as bs = some (v, bs') → Iso P f as bs v bs'
  inl : ∀ f as h v h' l, oi f as h = some (v, h', l) → Inl P f as h v h' l
  bc : ∀ f as bs r, oc f as bs = some r → HasBody P f
  bi : ∀ f as h r, oi f as h = some r → HasBody P f

section
variable {P : Program} {X : Ctx} {oc : Nat → List AV → List Blk → Option (AV × List Blk)} {oi : Nat → List AV → List Blk → Option Ans}
variable {all : List Oper} {T : Nat → Nat → AV} {H : Nat → List Blk} {L : Nat → Bool} {V : Nat → AV} {F : Nat → Foot}

theorem listed_get {listed : Array Bool} {i n : Nat} (hl : listed.size = n) (hi : i < n) {d : Bool} : listed.getD i d = listed.getD i false := by
  have : i < listed.size := by omega
  simp [this]

/-- Where the machine stands when some operations are done. -/
structure At (all : List Oper) (T : Nat → Nat → AV) (H : Nat → List Blk) (L : Nat → Bool) (V : Nat → AV) (F : Nat → Foot) (X : Ctx) (ρs : R) (sz : Nat) (listed : Array Bool) (a : Act) (w : World) : Prop where
  size : listed.size = all.length
  closed : Closed all (fun j => listed.getD j false)
  tmps : a.tmps.size = sz
  defers : a.defers = []
  leak : ∀ j, j < all.length → listed.getD j false = true → L (j + 1) = false → L j = false ∧ LkP X.nr (H j) (H (j + 1))
  st : ∃ φ Z q, q ≤ all.length ∧ Nx ρs ⟨w, φ, Z, H q⟩ ∧ (∀ j, j < q → (F j).chg = true → listed.getD j false = true) ∧ (∀ j, q ≤ j → j < all.length → (F j).chg = true → listed.getD j false = false) ∧
    ∀ x, ValR ⟨w, φ, Z, H q⟩ (slotsAt all V (T 0) (fun j => listed.getD j false) all.length x) (a.tmps.getD x undef)

theorem act_put_size (a : Act) (d : Option Tmp) (v : Value) : (a.put d v).tmps.size = a.tmps.size := by cases d <;> simp [Act.put]
theorem act_put_defers (a : Act) (d : Option Tmp) (v : Value) : (a.put d v).defers = a.defers := by cases d <;> rfl
theorem SlR.putO {ρ : R} {t : Nat → AV} {a : Act} (h : SlR ρ t a.tmps) {d : Option Nat} (hd : ∀ x, d = some x → x < a.tmps.size) {v : AV} {vv : Value} (hv : ValR ρ v vv) : SlR ρ (putO d v t) (a.put d vv).tmps := by
  cases d with
  | none => exact h
  | some d => exact h.put (hd d rfl) hv

theorem at_step (K : Kn P X oc oi) (hrun : ∀ (j : Nat) (o : Oper), all[j]? = some o → Run1 X oc oi all (befs all []) T H L V F j o) {ρs : R} {sz : Nat} (hsz : X.nt ≤ sz) {listed : Array Bool} {a : Act} {w : World} (h : At all T H L V F X ρs sz listed a w)
    {md : Region.Mode} {i : Nat} (hi : i ∈ Region.ready md all.toArray listed) {Q : Exit → Act → World → Prop} {K' : Act → World → Prop} (hK : ∀ a' w', At all T H L V F X ρs sz (listed.setIfInBounds i true) a' w' → K' a' w') :
    wpOp P all.toArray Q i K' a w := by
  obtain ⟨r1, o, r2, r3⟩ := mem_ready.1 hi
  rw [List.getElem?_toArray] at r2
  have hilt := (List.getElem?_eq_some_iff.1 r2).1
  have hsi : listed.getD i false = false := by rw [← listed_get h.size hilt (d := true)]; exact r1
  have he : ∀ e ∈ edgesOf o, listed.getD e false = true := fun e he => by
    obtain ⟨x, h1, h2, h3⟩ := mem_edgesM.1 (show e ∈ edgesM .any o from he)
    rw [← h3]; exact r3 x h1 (binds_any h2)
  obtain ⟨φ, Z, q, hq, hnx, hlo, hhi, hsl⟩ := h.st
  have hr := hrun i o r2
  have hpl := fun {j : Nat} {o' : Oper} (ho' : all[j]? = some o') => place (S := fun j => listed.getD j false) hrun h.closed r2 hsi he ho'
  have hread : ∀ x ∈ readsOf all o, T i x = slotsAt all V (T 0) (fun j => listed.getD j false) all.length x := fun x hx => (slots_read (S := fun j => listed.getD j false) hrun h.closed r2 hsi he hx).symm
  have hent : entE X all o (slotsAt all V (T 0) (fun j => listed.getD j false) all.length) = some (F i) := by
    rw [← hr.ent]
    unfold entE
    rw [wanted_congr hread]
    congr 1
    funext b
    cases b with
    | false => rfl
    | true =>
      simp only [cond_true]
      exact (foot_congr (reads_ev hread)).symm
  have hS' : ∀ j, j ≠ i → (listed.setIfInBounds i true).getD j false = listed.getD j false := fun j hj => getD_set_ne false (Ne.symm hj)
  have hSi : (listed.setIfInBounds i true).getD i false = true := by
    have : i < listed.size := by rw [h.size]; exact hilt
    simp [this]
  have hput := slots_put (S := fun j => listed.getD j false) (S' := fun j => (listed.setIfInBounds i true).getD j false) hrun h.closed r2 hsi he hSi hS'
  have hcl' : Closed all (fun j => (listed.setIfInBounds i true).getD j false) := by
    intro j o' ho' hs e hee
    by_cases hj : j = i
    · subst hj
      rw [r2] at ho'
      injection ho' with ho'
      subst ho'
      exact getD_set_true (he e hee)
    · exact getD_set_true (h.closed j o' ho' ((hS' j hj).symm.trans hs) e hee)
  -- the step itself, from the heap that is there
  have step : ∀ {h' : List Blk} {l l' : Bool} (q' : Nat) (_ : q' ≤ all.length) (_ : h' = H q') (_ : Eff X oc oi all o (T i) (H q) l (V i) h' l')
      (_ : ∀ j, j < q' → (F j).chg = true → (listed.setIfInBounds i true).getD j false = true) (_ : ∀ j, q' ≤ j → j < all.length → (F j).chg = true → (listed.setIfInBounds i true).getD j false = false)
      (_ : (l' = false → l = false ∧ LkP X.nr (H q) h') → (L (i + 1) = false → L i = false ∧ LkP X.nr (H i) (H (i + 1)))), wpOp P all.toArray Q i K' a w := by
    intro h' l l' q' hq' hh' heff hlo' hhi' hlk
    subst hh'
    refine eff_wp (ρ := ⟨w, φ, Z, H q⟩) K.tab K.eq K.name K.iso K.inl K.bc K.bi (eff_congr hread heff) rfl hnx.ok hsl r2 fun w' φ' Z' vv hx hv hl => ?_
    refine hK _ _ ⟨by simp [h.size], hcl', by rw [act_put_size]; exact h.tmps, by rw [act_put_defers]; exact h.defers, fun j hj hs hlj => ?_, φ', Z', q', hq', hnx.trans hx, hlo', hhi', fun x => ?_⟩
    · by_cases hji : j = i
      · subst hji
        exact hlk (fun hl' => ⟨(hl hl').1, LkP.of (ρ := ⟨w, φ, Z, H q⟩) (ρ' := ⟨w', φ', Z', H q'⟩) (hl hl').2 hx⟩) hlj
      · exact h.leak j hj (by rw [← hS' j hji]; exact hs) hlj
    · have hs2 : SlR ⟨w', φ', Z', H q'⟩ (putO o.dst (V i) (slotsAt all V (T 0) (fun j => listed.getD j false) all.length)) (a.put o.dst vv).tmps :=
        SlR.putO (a := a) (SlR.le hx.le hsl) (fun d hd => by rw [h.tmps]; exact Nat.lt_of_lt_of_le (hr.dst d hd) hsz) hv
      have := hs2 x
      rw [← hput x] at this
      exact this
  cases hch : (F i).chg with
  | true =>
    have c1 : ∀ j, j < i → (F j).chg = true → listed.getD j false = true := fun j hj hc => by
      have ho' := List.getElem?_eq_getElem (show j < all.length by omega)
      rcases (hpl ho').1 hj with g | g
      · exact g
      · exact absurd ⟨hc, hch⟩ (indep_parts g).2.2.1
    have c2 : ∀ j, i ≤ j → j < all.length → (F j).chg = true → listed.getD j false = false := fun j hj hjl hc => by
      by_cases hji : j = i
      · subst hji; exact hsi
      · have ho' := List.getElem?_eq_getElem hjl
        rcases (hpl ho').2 (by omega) with g | g
        · exact g
        · exact absurd ⟨hch, hc⟩ (indep_parts g).2.2.1
    have hHq : H q = H i := by
      rcases Nat.le_total q i with hqi | hiq
      · have := same_heap hrun (a := q) (i - q) (by omega) fun j h1 h2 => by
          cases hc : (F j).chg with
          | false => rfl
          | true => have x1 := hhi j h1 (by omega) hc; rw [c1 j (by omega) hc] at x1; cases x1
        rw [show q + (i - q) = i by omega] at this
        exact this.symm
      · have := same_heap hrun (a := i) (q - i) (by omega) fun j h1 h2 => by
          cases hc : (F j).chg with
          | false => rfl
          | true => have x1 := hlo j (by omega) hc; rw [c2 j h1 (by omega) hc] at x1; cases x1
        rw [show i + (q - i) = q by omega] at this
        exact this
    refine step (i + 1) hilt rfl (by rw [hHq]; exact hr.eff) (fun j hj hc => ?_) (fun j hj hjl hc => ?_) (fun hl hl1 => by rw [hHq] at hl; exact hl hl1)
    · by_cases hji : j = i
      · subst hji; exact hSi
      · rw [hS' j hji]; exact c1 j (by omega) hc
    · rw [hS' j (by omega)]; exact c2 j (by omega) hjl hc
  | false =>
    obtain ⟨s1, s2, s3⟩ := eff_still hr.ent hch hr.eff
    have hsee : Sees (F i).lk (H i) (H q) := by
      intro n hn b hb
      rcases Nat.le_total q i with hqi | hiq
      · have hnlt : n < (H q).length := ent_lk (ρ := ⟨w, φ, Z, H q⟩) hsl hent n hn
        obtain ⟨b', h1, h2⟩ := same_blk hrun (a := q) (List.getElem?_eq_getElem hnlt) (i - q) (by omega) fun j h1 h2 hc => by
          have ho' := List.getElem?_eq_getElem (show j < all.length by omega)
          rcases (hpl ho').1 (by omega) with g | g
          · rw [hhi j h1 (by omega) hc] at g; cases g
          · exact (indep_parts g).2.2.2.1 hc n hn
        rw [show q + (i - q) = i by omega, hb] at h1
        injection h1 with h1
        subst h1
        exact ⟨_, List.getElem?_eq_getElem hnlt, h2.symm⟩
      · obtain ⟨b', h1, h2⟩ := same_blk hrun (a := i) hb (q - i) (by omega) fun j h1 h2 hc => by
          have ho' := List.getElem?_eq_getElem (show j < all.length by omega)
          by_cases hji : j = i
          · subst hji; rw [hch] at hc; cases hc
          · rcases (hpl ho').2 (by omega) with g | g
            · rw [hlo j (by omega) hc] at g; cases g
            · exact (indep_parts g).2.2.2.2 hc n hn
        rw [show i + (q - i) = q by omega] at h1
        exact ⟨b', h1, h2⟩
    refine step q hq rfl (s3 (H q) (L i) hsee) (fun j hj hc => ?_) (fun j hj hjl hc => ?_) (fun _ hl1 => ?_)
    · by_cases hji : j = i
      · subst hji; exact hSi
      · rw [hS' j hji]; exact hlo j hj hc
    · by_cases hji : j = i
      · subst hji; rw [hch] at hc; cases hc
      · rw [hS' j hji]; exact hhi j hj hjl hc
    · rw [s2] at hl1
      exact ⟨hl1, by rw [s1]; exact LkP.refl _ _⟩

theorem at_end (hrun : ∀ (j : Nat) (o : Oper), all[j]? = some o → Run1 X oc oi all (befs all []) T H L V F j o) {ρs : R} {sz : Nat} {listed : Array Bool} {a : Act} {w : World} (h : At all T H L V F X ρs sz listed a w)
    (hall : ∀ j, j < all.length → listed.getD j false = true) : ∃ φ Z, Nx ρs ⟨w, φ, Z, H all.length⟩ ∧ SlR ⟨w, φ, Z, H all.length⟩ (T all.length) a.tmps ∧ (L all.length = false → L 0 = false ∧ LkP X.nr (H 0) (H all.length)) := by
  obtain ⟨φ, Z, q, hq, hnx, hlo, hhi, hsl⟩ := h.st
  have hH : H all.length = H q := by
    have := same_heap hrun (a := q) (all.length - q) (by omega) fun j h1 h2 => by
      cases hc : (F j).chg with
      | false => rfl
      | true => have x1 := hhi j h1 (by omega) hc; rw [hall j (by omega)] at x1; cases x1
    rwa [show q + (all.length - q) = all.length by omega] at this
  have hlk : ∀ n, n ≤ all.length → (L n = false → L 0 = false ∧ LkP X.nr (H 0) (H n)) := by
    intro n
    induction n with
    | zero => intro _ hl; exact ⟨hl, LkP.refl _ _⟩
    | succ n ih =>
      intro hn hl
      obtain ⟨h1, h2⟩ := h.leak n (by omega) (hall n (by omega)) hl
      obtain ⟨h3, h4⟩ := ih (by omega) h1
      exact ⟨h3, h4.trans h2⟩
  refine ⟨φ, Z, by rw [hH]; exact hnx, fun x => ?_, hlk _ (Nat.le_refl _)⟩
  have := hsl x
  rw [slots_all hrun (S := fun j => listed.getD j false) all.length (Nat.le_refl _) hall x] at this
  rw [hH]
  exact this

theorem draw_any (K : Kn P X oc oi) (hrun : ∀ (j : Nat) (o : Oper), all[j]? = some o → Run1 X oc oi all (befs all []) T H L V F j o) {ρs : R} {sz : Nat} (hsz : X.nt ≤ sz) {md : Region.Mode} {ord : List Nat} (ht : topoOk md all ord = true)
    {Q : Exit → Act → World → Prop} (hQ : ∀ a w φ Z, a.tmps.size = sz → a.defers = [] → Nx ρs ⟨w, φ, Z, H all.length⟩ → SlR ⟨w, φ, Z, H all.length⟩ (T all.length) a.tmps → (L all.length = false → L 0 = false ∧ LkP X.nr (H 0) (H all.length)) → Q .normal a w) :
    ∀ (fuel : Nat) (listed : Array Bool) (a : Act) (w : World), left (fun j => listed.getD j false) all.length = fuel → At all T H L V F X ρs sz listed a w → wpAny P md all.toArray Q fuel listed a w := by
  intro fuel
  have hdone : ∀ (listed : Array Bool) (a : Act) (w : World), At all T H L V F X ρs sz listed a w → (∀ j, j < all.length → listed.getD j false = true) → Q .normal a w := fun listed a w h hall => by
    obtain ⟨φ, Z, h1, h2, h3⟩ := at_end hrun h hall
    exact hQ a w φ Z h.tmps h.defers h1 h2 h3
  induction fuel with
  | zero =>
    intro listed a w hl h
    have hall := left_zero hl
    refine ⟨?_, hdone listed a w h hall⟩
    refine List.eq_nil_iff_forall_not_mem.2 fun j hj => ?_
    obtain ⟨h1, o, h2, _⟩ := mem_ready.1 hj
    rw [List.getElem?_toArray] at h2
    have hjl := (List.getElem?_eq_some_iff.1 h2).1
    rw [listed_get h.size hjl, hall j hjl] at h1
    cases h1
  | succ fuel ih =>
    intro listed a w hl h
    refine ⟨fun hr => ?_, fun i hi => at_step K hrun hsz h hi fun a' w' h' => ih _ _ _ ?_ h'⟩
    · by_cases hall : ∀ j, j < all.length → listed.getD j false = true
      · exact hdone listed a w h hall
      · refine absurd hr (ready_next ht h.size ?_)
        have ⟨j, hj⟩ := Classical.not_forall.1 hall
        have ⟨hjl, hj2⟩ := Classical.not_imp.1 hj
        exact ⟨j, hjl, by simpa using hj2⟩
    · obtain ⟨r1, o, r2, _⟩ := mem_ready.1 hi
      rw [List.getElem?_toArray] at r2
      have hilt := (List.getElem?_eq_some_iff.1 r2).1
      have hsi : listed.getD i false = false := by rw [← listed_get h.size hilt (d := true)]; exact r1
      have hSi : (listed.setIfInBounds i true).getD i false = true := by
        have : i < listed.size := by rw [h.size]; exact hilt
        simp [this]
      have := left_set (S := fun j => listed.getD j false) (S' := fun j => (listed.setIfInBounds i true).getD j false) hsi hSi (fun j hj => getD_set_ne false (Ne.symm hj)) hilt
      omega

/-- The region, whatever order is drawn. -/
theorem draw_ops (K : Kn P X oc oi) (hrun : ∀ (j : Nat) (o : Oper), all[j]? = some o → Run1 X oc oi all (befs all []) T H L V F j o) {ρs : R} {a : Act} (hsz : X.nt ≤ a.tmps.size) (hd : a.defers = []) (hok : Ok ρs) (hh : ρs.h = H 0) (hs : SlR ρs (T 0) a.tmps)
    (hdr : drawOk all = true) {Q : Exit → Act → World → Prop}
    (hQ : ∀ a' w φ Z, a'.tmps.size = a.tmps.size → a'.defers = [] → Nx ρs ⟨w, φ, Z, H all.length⟩ → SlR ⟨w, φ, Z, H all.length⟩ (T all.length) a'.tmps → (L all.length = false → L 0 = false ∧ LkP X.nr (H 0) (H all.length)) → Q .normal a' w)
    (mixed : Bool) (t : Nat) : wpOps P all.toArray Q (Region.schedule mixed all.toArray t) a ρs.w := by
  have h0 : At all T H L V F X ρs a.tmps.size (Array.replicate all.toArray.size false) a ρs.w := by
    have hf : ∀ j, (Array.replicate all.toArray.size false).getD j false = false := fun j => by
      simp only [Array.getD_eq_getD_getElem?, Array.getElem?_replicate]
      split <;> rfl
    refine ⟨by simp, fun j o _ hs => ?_, rfl, hd, fun j _ hs => ?_, ρs.φ, ρs.Z, 0, Nat.zero_le _, by rw [← hh]; exact Nx.refl hok, fun j hj => by omega, fun j _ _ _ => hf j, fun x => ?_⟩
    · exact absurd ((hf j).symm.trans hs) (by simp)
    · exact absurd ((hf j).symm.trans hs) (by simp)
    · have hsl : ∀ n, slotsAt all V (T 0) (fun j => (Array.replicate all.toArray.size false).getD j false) n x = T 0 x := by
        intro n
        induction n with
        | zero => rfl
        | succ n ih => rw [slotsAt, ih]; simp only [hf n]; rfl
      rw [hsl, ← hh]
      exact hs x
  have hl0 : left (fun j => (Array.replicate all.toArray.size false).getD j false) all.length = all.toArray.size := by
    have hf : ∀ j, (Array.replicate all.toArray.size false).getD j false = false := fun j => by
      simp only [Array.getD_eq_getD_getElem?, Array.getElem?_replicate]
      split <;> rfl
    have : ∀ n, left (fun j => (Array.replicate all.toArray.size false).getD j false) n = n := by
      intro n
      induction n with
      | zero => rfl
      | succ n ih => rw [left, ih, hf n]; rfl
    rw [this]; simp
  have go : ∀ (md : Region.Mode) (ord : List Nat) (t : Nat), topoOk md all ord = true → wpOps P all.toArray Q (Region.linearise md all.toArray t) a ρs.w := fun md ord t ht =>
    wpAny_sound all.toArray.size t _ a ρs.w (draw_any K hrun hsz ht hQ _ _ _ _ hl0 h0)
  unfold drawOk at hdr
  simp only [Bool.and_eq_true, Bool.or_eq_true, Bool.not_eq_true'] at hdr
  unfold Region.schedule
  split
  · exact go .any _ t hdr.1
  · rename_i hm
    rcases hdr.2 with h | h
    · exfalso
      apply hm
      have : Region.departs all.toArray = false := by
        unfold Region.departs
        unfold departsL at h
        rw [← h]
        simp [Array.any_toList]
      rw [this]; simp
    · split
      · exact go .text _ _ h.1
      · exact go .gc _ _ h.2
end
end Go.Proofs.Ytiibidadpgknjaa.Fi
