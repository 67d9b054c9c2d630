/- Operations in another order: what they read, what they touch. -/
import Derived.Test.YtiibidadpgknjaaStep
namespace Go.Proofs.Ytiibidadpgknjaa.Fi
open Go

section
variable {P : Program} {X : Ctx} {ρ : R}

/-! ### They see their operands alone -/

theorem tmps_mem : ∀ {l : List Operand} {i : Nat}, Operand.tmp i ∈ l → i ∈ tmpsOf l
  | [], _, h => by cases h
  | x :: l, i, h => by
    rcases List.mem_cons.1 h with rfl | h
    · simp [tmpsOf]
    · have := tmps_mem h
      cases x <;> simp [tmpsOf, this]
theorem ev_congr {t t' : Nat → AV} {l : List Operand} (h : ∀ i ∈ tmpsOf l, t i = t' i) (x : Operand) (hx : x ∈ l) : ev t x = ev t' x := by
  cases x with
  | tmp i => exact h i (tmps_mem hx)
  | _ => rfl
theorem pairs_congr {t t' : Nat → AV} {ps : List (Nat × Operand)} (h : ∀ x ∈ ps.map (·.2), ev t x = ev t' x) : pairs t ps = pairs t' ps := by
  unfold pairs
  refine List.map_congr_left fun p hp => ?_
  rw [h p.2 (List.mem_map.2 ⟨p, hp, rfl⟩)]
theorem mapev_congr {t t' : Nat → AV} {l : List Operand} (h : ∀ x ∈ l, ev t x = ev t' x) : l.map (ev t) = l.map (ev t') := List.map_congr_left h
theorem callOps {c : Call} {x : Operand} (h : x ∈ c.args.toList) : x ∈ c.operands.toList := by
  unfold Call.operands
  split <;> simp at h ⊢ <;> first | exact .inr h | exact h | skip

theorem op1_congr {β : Type} {t t' : Nat → AV} {hp : List Blk} {l : Bool} {K : AV → List Blk → Bool → Option β} {mk : Bool} {ty : Nat} {o : Op} (h : ∀ x ∈ o.operands.toList, ev t x = ev t' x) :
    op1 X t hp l K mk ty o = op1 X t' hp l K mk ty o := by
  cases o <;> simp only [Op.operands] at h
  case makeFunc f first cap =>
    have := mapev_congr (t := t) (t' := t') (l := cap.toList) fun x hx => h x (by simp at hx ⊢; exact .inr hx)
    cases f <;> simp only [op1, this]
  case slice T x lo hi mx =>
    have e0 := h x (by simp)
    have e1 : lo.map (ev t) = lo.map (ev t') := by cases lo with | none => rfl | some y => simp only [Option.map_some]; rw [h y (by simp)]
    have e2 : hi.map (ev t) = hi.map (ev t') := by cases hi with | none => rfl | some y => simp only [Option.map_some]; rw [h y (by simp)]
    cases mx with
    | none => simp only [op1, e0, e1, e2]
    | some m => have e3 := h m (by simp); simp only [op1, e0, e1, e2, e3]
  all_goals simp only [op1]
  case move x => rw [h x (by simp)]
  case assign x => rw [h x (by simp)]
  case box T x => rw [h x (by simp)]
  case build T ps => rw [pairs_congr (t := t) (t' := t') (ps := ps.toList) (by simpa using h)]
  case buildSlice T n ps => rw [pairs_congr (t := t) (t' := t') (ps := ps.toList) (by simpa using h)]
  case load T a => rw [h a (by simp)]
  case store T a x => rw [h a (by simp), h x (by simp)]
  case nilCheck x => rw [h x (by simp)]
  case binOp op T x y U => rw [h x (by simp), h y (by simp)]
  case unOp op T x => rw [h x (by simp)]
  case convert S T x => rw [h x (by simp)]
  case makeSlice T a b => rw [h a (by simp), h b (by simp)]
  case fieldAddr T x f => rw [h x (by simp)]
  case field T x f => rw [h x (by simp)]
  case indexAddr T x i => rw [h x (by simp), h i (by simp)]
  case index T x i => rw [h x (by simp), h i (by simp)]
  case extract x i => rw [h x (by simp)]
  case call c =>
    have ha : ∀ x ∈ c.args.toList, ev t x = ev t' x := fun x hx => h x (callOps hx)
    split
    · split
      · rename_i x T hx _
        rw [ha x (by rw [hx]; simp)]
      · rfl
    · split
      · rename_i a x T U hx _
        rw [ha a (by rw [hx]; simp), ha x (by rw [hx]; simp)]
      · rfl
    · split
      · rename_i x T hx _
        rw [ha x (by rw [hx]; simp)]
      · rfl
    · split
      · rename_i a b hx
        rw [ha a (by rw [hx]; simp), ha b (by rw [hx]; simp)]
      · rfl
    · split
      · rename_i a b hx
        rw [ha a (by rw [hx]; simp), ha b (by rw [hx]; simp)]
      · rfl
    · rfl

theorem opE_congr {oc : Nat → List AV → List Blk → Option (AV × List Blk)} {oi : Nat → List AV → List Blk → Option Ans} {t t' : Nat → AV} {hp : List Blk} {l : Bool} {o : Oper} (h : ∀ x ∈ o.op.operands.toList, ev t x = ev t' x) :
    opE X oc oi t hp l o = opE X oc oi t' hp l o := by
  unfold opE
  cases hco : callOf o.op with
  | some c =>
    simp only
    have hop : o.op = .call c ∧ ∃ f, c.callee = .value f := by
      unfold callOf at hco
      split at hco
      · rename_i c' hop
        split at hco
        · rename_i f hf
          injection hco with hco
          subst hco
          exact ⟨hop, f, hf⟩
        · cases hco
      · cases hco
    obtain ⟨hop, f, hf⟩ := hop
    rw [hop] at h
    have ha : ∀ x ∈ c.args.toList, ev t x = ev t' x := fun x hx => h x (callOps hx)
    have hfe : ev t f = ev t' f := h f (by simp [Op.operands, Call.operands, hf])
    unfold callE
    simp only [hf, mapev_congr ha, hfe]
  | none =>
    simp only
    split
    · rename_i c a b hop
      rw [hop] at h
      rw [h c (by simp [Op.operands]), h a (by simp [Op.operands]), h b (by simp [Op.operands])]
    · exact op1_congr h

theorem wanted_congr {all : List Oper} {o : Oper} {t t' : Nat → AV} (h : ∀ x ∈ readsOf all o, t x = t' x) : wantedF all o t = wantedF all o t' := by
  unfold wantedF
  cases hg : o.guard with
  | none => rfl
  | some p =>
    obtain ⟨g, want⟩ := p
    simp only
    cases hd : (nth all g).bind (·.dst) with
    | none => rfl
    | some d =>
      simp only [Option.bind_some]
      rw [h d (by unfold readsOf; rw [hg]; simp [hd])]
theorem reads_ev {all : List Oper} {o : Oper} {t t' : Nat → AV} (h : ∀ x ∈ readsOf all o, t x = t' x) : ∀ x ∈ o.op.operands.toList, ev t x = ev t' x :=
  ev_congr fun i hi => h i (List.mem_append_left _ hi)
theorem namesOf_congr {t t' : Nat → AV} : ∀ {l : List Operand}, (∀ x ∈ l, ev t x = ev t' x) → namesOf t l = namesOf t' l
  | [], _ => rfl
  | x :: l, h => by simp only [namesOf, h x (List.mem_cons_self ..), namesOf_congr fun y hy => h y (List.mem_cons_of_mem _ hy)]
theorem foot_congr {mk : Bool} {t t' : Nat → AV} {o : Op} (h : ∀ x ∈ o.operands.toList, ev t x = ev t' x) : footE X mk t o = footE X mk t' o := by
  cases o <;> simp only [Op.operands] at h <;> simp only [footE]
  case buildSlice T n ps =>
    have : (ps.toList.map fun p => ev t p.2) = ps.toList.map fun p => ev t' p.2 := List.map_congr_left fun p hp => h p.2 (by simp; exact ⟨p.1, by simpa using hp⟩)
    rw [this]
  case load T a => rw [h a (by simp)]
  case store T a x => rw [h a (by simp)]
  case nilCheck x => rw [h x (by simp)]
  case convert S T x => rw [h x (by simp)]
  case slice T x lo hi mx => have e := h x (by simp); cases mx <;> simp only [footE, e]
  case fieldAddr T x f => rw [h x (by simp)]
  case indexAddr T x i => rw [h x (by simp)]
  case call c =>
    have ha : ∀ x ∈ c.args.toList, ev t x = ev t' x := fun x hx => h x (callOps hx)
    rw [namesOf_congr ha, mapev_congr ha]
    split
    · rfl
    · rfl
    · rfl
    · rfl
    · rename_i f hf
      rw [h f (by simp [Call.operands, hf])]
    · rfl
theorem eff_congr {oc : Nat → List AV → List Blk → Option (AV × List Blk)} {oi : Nat → List AV → List Blk → Option Ans} {all : List Oper} {o : Oper} {t t' : Nat → AV} {hp h' : List Blk} {l l' : Bool} {v : AV} (h : ∀ x ∈ readsOf all o, t x = t' x)
    (he : Eff X oc oi all o t hp l v h' l') : Eff X oc oi all o t' hp l v h' l' := by
  unfold Eff at *
  rw [← wanted_congr h, ← opE_congr (reads_ev h)]
  exact he

/-! ### What they look into -/

/-- The same block, but for its freedom. -/
def SB (b b' : Blk) : Prop := b'.sz = b.sz ∧ b'.ty = b.ty ∧ b'.els = b.els ∧ b'.box = b.box ∧ b'.rf = b.rf ∧ b'.ver = b.ver
theorem SB.refl (b : Blk) : SB b b := ⟨rfl, rfl, rfl, rfl, rfl, rfl⟩
theorem SB.trans {a b c : Blk} (h : SB a b) (k : SB b c) : SB a c := ⟨k.1.trans h.1, k.2.1.trans h.2.1, k.2.2.1.trans h.2.2.1, k.2.2.2.1.trans h.2.2.2.1, k.2.2.2.2.1.trans h.2.2.2.2.1, k.2.2.2.2.2.trans h.2.2.2.2.2⟩
theorem SB.symm {a b : Blk} (h : SB a b) : SB b a := ⟨h.1.symm, h.2.1.symm, h.2.2.1.symm, h.2.2.2.1.symm, h.2.2.2.2.1.symm, h.2.2.2.2.2.symm⟩
/-- Some blocks are the same here and there. -/
def Sees (ns : List Nat) (h h2 : List Blk) : Prop := ∀ n ∈ ns, ∀ b : Blk, h[n]? = some b → ∃ b2 : Blk, h2[n]? = some b2 ∧ SB b b2
theorem sees_at {ns : List Nat} {h h2 : List Blk} (hs : Sees ns h h2) {n ver : Nat} {b : Blk} (hn : n ∈ ns) (hb : blkAt h n ver = some b) : ∃ b2, blkAt h2 n ver = some b2 ∧ SB b b2 := by
  obtain ⟨h1, h3⟩ := blkAt_some hb
  obtain ⟨b2, h4, h5⟩ := hs n hn b h1
  refine ⟨b2, ?_, h5⟩
  unfold blkAt
  rw [nth_eq, h4]
  simp only [Option.bind_some]
  have : b2.ver = ver := h5.2.2.2.2.2.trans h3
  rw [this, Nat.beq_refl]; rfl

theorem shown_sees {h h2 : List Blk} {x : AV} (hs : Sees (valNames x) h h2) {r : Nat × List AV × Bool} (e : shown h x = some r) : shown h2 x = some r := by
  unfold shown at e ⊢
  split at e
  · exact e
  · rename_i n ver
    obtain ⟨b, h1, h3⟩ := bind_some e
    obtain ⟨b2, h4, h5⟩ := sees_at hs (by simp [valNames, cells, names]) h1
    simp only [h4, Option.bind_some, h5.1, h5.2.2.1, h5.2.2.2.2.1]
    exact h3
  · rename_i n ver off len
    obtain ⟨b, h1, h3⟩ := bind_some e
    obtain ⟨b2, h4, h5⟩ := sees_at hs (by simp [valNames, cells, names]) h1
    simp only [h4, Option.bind_some, h5.1, h5.2.2.1, h5.2.2.2.2.1]
    exact h3
  · cases e
theorem load_sees {β : Type} {h h2 : List Blk} {T : Nat} {a : AV} (hs : Sees (valNames a) h h2) {K : AV → Option β} {r : β} (e : loadE X h T a K = some r) : loadE X h2 T a K = some r := by
  unfold loadE at e ⊢
  split at e
  · rename_i n ver idx off
    obtain ⟨b, h1, h3⟩ := bind_some e
    obtain ⟨b2, h4, h5⟩ := sees_at hs (by simp [valNames, cells, names]) h1
    simp only [h4, Option.bind_some, h5.2.2.1]
    exact h3
  · exact e
  · cases e
theorem len_sees {h h2 : List Blk} {k : TK} {x : AV} (hs : Sees (valNames x) h h2) {r : Nat} (e : lenOf h k x = some r) : lenOf h2 k x = some r := by
  unfold lenOf at e ⊢
  split at e
  · exact e
  · exact e
  · rename_i n ver
    obtain ⟨h0, e⟩ := cond_some e
    obtain ⟨b, h1, h3⟩ := bind_some e
    obtain ⟨b2, h4, h5⟩ := sees_at hs (by simp [valNames, cells, names]) h1
    simp only [h0, cond_true, h4, Option.bind_some, h5.2.2.1]
    exact h3
  · rename_i n ver off len
    obtain ⟨h0, e⟩ := cond_some e
    obtain ⟨b, h1, h3⟩ := bind_some e
    obtain ⟨b2, h4, h5⟩ := sees_at hs (by simp [valNames, cells, names]) h1
    simp only [h0, cond_true, h4, Option.bind_some]
    exact h3
  · exact e
  · cases e
theorem slice_sees {h h2 : List Blk} {k : TK} {x : AV} {lo hi : Option AV} (hs : Sees (valNames x) h h2) {r : AV} (e : sliceE h k x lo hi = some r) : sliceE h2 k x lo hi = some r := by
  unfold sliceE at e ⊢
  split at e
  · exact e
  · exact e
  · rename_i n ver
    obtain ⟨b, h1, h3⟩ := bind_some e
    obtain ⟨b2, h4, h5⟩ := sees_at hs (by simp [valNames, cells, names]) h1
    simp only [h4, Option.bind_some, h5.1, h5.2.2.1]
    exact h3
  · rename_i n ver off len
    obtain ⟨b, h1, h3⟩ := bind_some e
    obtain ⟨b2, h4, h5⟩ := sees_at hs (by simp [valNames, cells, names]) h1
    simp only [h4, Option.bind_some, h5.1, h5.2.2.1]
    exact h3
  · exact e
  · cases e
theorem conv_sees {h h2 : List Blk} {S T : Nat} {x : AV} (hs : Sees (valNames x) h h2) {r : AV} (e : convE X h S T x = some r) : convE X h2 S T x = some r := by
  unfold convE at e ⊢
  split at e
  · exact e
  · exact e
  · exact e
  · exact e
  · obtain ⟨h0, e⟩ := cond_some e
    obtain ⟨p, h1, h3⟩ := bind_some e
    rw [h0, cond_true, shown_sees hs h1, Option.bind_some]
    exact h3
  · cases e

theorem hand_inj {v v' : AV} {h h' : List Blk} {l l' : Bool} (e : hand v h l = some (v', h', l')) : v = v' ∧ h = h' ∧ l = l' := by
  injection e with e
  injection e with e1 e
  injection e with e2 e3
  exact ⟨e1, e2, e3⟩
/-- It changes nothing, and gives the same wherever it sees the same. -/
def Still (h : List Blk) (l : Bool) (x : List Blk → Bool → Option Hand) (ns : List Nat) : Prop := ∀ v h' l', x h l = some (v, h', l') → h' = h ∧ l' = l ∧ ∀ h2 lx, Sees ns h h2 → x h2 lx = some (v, h2, lx)
theorem still_hand {h : List Blk} {l : Bool} {v : AV} {ns : List Nat} : Still h l (fun h l => hand v h l) ns := by
  intro v' h' l' e
  obtain ⟨rfl, rfl, rfl⟩ := hand_inj e
  exact ⟨rfl, rfl, fun _ _ _ => rfl⟩
theorem still_bind {α : Type} {h : List Blk} {l : Bool} {ns : List Nat} {o : List Blk → Option α} {G : α → List Blk → Bool → Option Hand} (ho : ∀ a h2, o h = some a → Sees ns h h2 → o h2 = some a) (hG : ∀ a, Still h l (G a) ns) :
    Still h l (fun h l => (o h).bind fun a => G a h l) ns := by
  intro v h' l' e
  obtain ⟨a, h1, h2⟩ := bind_some e
  obtain ⟨k1, k2, k3⟩ := hG a v h' l' h2
  exact ⟨k1, k2, fun hx lx hs => by show (o hx).bind _ = _; rw [ho a hx h1 hs, Option.bind_some]; exact k3 hx lx hs⟩
theorem still_cond {h : List Blk} {l b : Bool} {ns : List Nat} {x y : List Blk → Bool → Option Hand} (hx : Still h l x ns) (hy : Still h l y ns) : Still h l (fun h l => cond b (x h l) (y h l)) ns := by
  cases b
  · exact hy
  · exact hx
theorem still_none {h : List Blk} {l : Bool} {ns : List Nat} : Still h l (fun _ _ => none) ns := by intro _ _ _ e; cases e

theorem still_const {α : Type} {h : List Blk} {l : Bool} {ns : List Nat} {o : Option α} {G : α → List Blk → Bool → Option Hand} (hG : ∀ a, Still h l (G a) ns) : Still h l (fun h l => o.bind fun a => G a h l) ns :=
  still_bind (o := fun _ => o) (fun _ _ h _ => h) hG
theorem op1_still {t : Nat → AV} {h : List Blk} {l mk : Bool} {ty : Nat} {op : Op} {F : Foot} (hf : footE X mk t op = some F) (hc : F.chg = false) :
    Still h l (fun h l => op1 X t h l hand mk ty op) F.lk := by
  cases op <;> simp only [footE] at hf <;> (try (cases hf; done))
  case makeFunc f first cap =>
    cases f <;> simp only [op1] <;> (try exact still_none)
    split
    · simp only [forces_eq]; exact still_cond still_none still_hand
    · exact still_none
  case slice T x lo hi mx =>
    cases mx <;> simp only [footE] at hf <;> (try (cases hf; done))
    injection hf with hf
    subst hf
    simp only [op1]
    exact still_bind (o := fun h => sliceE h (tk X T) (ev t x) (lo.map (ev t)) (hi.map (ev t))) (fun a h2 h1 hs => slice_sees hs h1) fun _ => still_hand
  case call c =>
    simp only [op1]
    split at hf
    · rename_i hcal
      injection hf with hf
      subst hf
      simp only [hcal]
      split
      · rename_i x T hx _
        refine still_bind (o := fun h => lenOf h (tk X T) (ev t x)) (fun a h2 h1 hs => len_sees (fun n hn => hs n ?_) h1) fun _ => still_hand
        show n ∈ namesOf t c.args.toList
        rw [hx]
        simpa [namesOf] using hn
      · exact still_none
    · rename_i hcal
      simp only [hcal]
      split
      · exact still_const fun _ => still_const fun _ => still_cond still_hand still_none
      · exact still_none
    · rename_i hcal
      simp only [hcal]
      split
      · exact still_const fun _ => still_const fun _ => still_cond still_hand still_none
      · exact still_none
    · injection hf with hf
      subst hf
      cases hc
    · rename_i hcal
      simp only [hcal]
      exact still_none
    · cases hf
  all_goals injection hf with hf
  all_goals subst hf
  all_goals simp only [op1]
  all_goals (try (cases hc; done))
  case move x => exact still_hand
  case assign x =>
    have hc' : mk = false := hc
    subst hc'
    exact still_hand
  case pick c a b => exact still_none
  case build T ps =>
    split
    · exact still_cond (still_const fun _ => still_hand) still_none
    · exact still_none
  case buildSlice T n ps =>
    have hc' : (mk || anyRef (ps.toList.map fun p => ev t p.2)) = false := hc
    simp only [Bool.or_eq_false_iff] at hc'
    obtain ⟨rfl, hr⟩ := hc'
    split
    · intro v h' l' e
      obtain ⟨l0, h1, h2⟩ := bind_some e
      have hl0 : anyRef l0 = false := by
        have key : ∀ {i : Nat} {ps : List (Nat × AV)} {l : List AV}, inOrder i ps = some l → l = ps.map (·.2) := by
          intro i ps
          induction ps generalizing i with
          | nil => intro l h; simp [inOrder] at h; simp [h]
          | cons p ps ih =>
            intro l h
            obtain ⟨j, v⟩ := p
            simp only [inOrder] at h
            obtain ⟨_, h⟩ := cond_some h
            obtain ⟨r, h3, h4⟩ := bind_some h
            injection h4 with h4
            rw [← h4, ih h3]; rfl
        rw [key h1]
        unfold pairs
        rw [List.map_map]
        exact hr
      simp only [forces_eq] at h2
      obtain ⟨h3, h4⟩ := cond_some h2
      cases l0 with
      | nil =>
        obtain ⟨rfl, rfl, rfl⟩ := hand_inj h4
        exact ⟨rfl, rfl, fun h2 lx _ => by simp only [h1, Option.bind_some, forces_eq, h3, cond_true]; rfl⟩
      | cons x r =>
        simp only [hl0, Bool.or_false, cond_false] at h4
        obtain ⟨rfl, rfl, rfl⟩ := hand_inj h4
        exact ⟨rfl, rfl, fun h2 lx _ => by simp only [h1, Option.bind_some, forces_eq, h3, cond_true, hl0, Bool.or_false, cond_false]; rfl⟩
    · exact still_none
  case load T a =>
    intro v h' l' e
    have e' : loadE X h T (ev t a) (fun v => hand v h l) = some (v, h', l') := e
    have hx : ∀ {a : AV} {r : Hand}, loadE X h T a (fun v => hand v h l) = some r → r = (r.1, h, l) ∧ loadE X h T a some = some r.1 := by
      intro a r e
      unfold loadE at e ⊢
      split at e
      · obtain ⟨b, h1, e⟩ := bind_some e
        obtain ⟨x, h2, e⟩ := bind_some e
        obtain ⟨h3, e⟩ := cond_some e
        injection e with e
        subst e
        exact ⟨rfl, by simp only [h1, h2, Option.bind_some, h3, cond_true]⟩
      · obtain ⟨h3, e⟩ := cond_some e
        injection e with e
        subst e
        exact ⟨rfl, by simp only [h3, cond_true]⟩
      · cases e
    have hy : ∀ {h : List Blk} {a v : AV}, loadE X h T a some = some v → ∀ {β : Type} (K : AV → Option β), loadE X h T a K = K v := by
      intro h a v e β K
      unfold loadE at e ⊢
      split at e
      · obtain ⟨b, h1, e⟩ := bind_some e
        obtain ⟨x, h2, e⟩ := bind_some e
        obtain ⟨h3, e⟩ := cond_some e
        injection e with e
        subst e
        simp only [h1, h2, Option.bind_some, h3, cond_true]
      · obtain ⟨h3, e⟩ := cond_some e
        injection e with e
        subst e
        simp only [h3, cond_true]
      · cases e
    obtain ⟨h1, h2⟩ := hx e'
    injection h1 with _ h1
    injection h1 with h3 h4
    exact ⟨h3, h4, fun hh lx hs => hy (load_sees hs h2) _⟩
  case nilCheck x =>
    split
    · rename_i n ver idx off hx
      refine fun v h' l' e => ?_
      obtain ⟨b, h1, h2⟩ := bind_some e
      obtain ⟨rfl, rfl, rfl⟩ := hand_inj h2
      refine ⟨rfl, rfl, fun hh lx hs => ?_⟩
      obtain ⟨b2, h4, _⟩ := sees_at hs (by rw [hx]; simp [valNames, cells, names]) h1
      show (blkAt hh n ver).bind _ = _
      rw [h4]; rfl
    · exact still_hand
    · exact still_none
  case binOp op T x y U => exact still_const fun _ => still_hand
  case unOp op T x => exact still_const fun _ => still_hand
  case convert S T x => exact still_bind (o := fun h => convE X h S T (ev t x)) (fun a h2 h1 hs => conv_sees hs h1) fun _ => still_hand
  case fieldAddr T x f =>
    refine still_const fun p => ?_
    split
    · rename_i n ver idx off hx
      refine fun v h' l' e => ?_
      obtain ⟨b, h1, h2⟩ := bind_some e
      obtain ⟨rfl, rfl, rfl⟩ := hand_inj h2
      refine ⟨rfl, rfl, fun hh lx hs => ?_⟩
      obtain ⟨b2, h4, _⟩ := sees_at hs (by rw [hx]; simp [valNames, cells, names]) h1
      show (blkAt hh n ver).bind _ = _
      rw [h4]; rfl
    · exact still_hand
    · exact still_none
  case field T x f =>
    refine still_const fun p => ?_
    split
    · exact still_cond still_hand still_none
    · exact still_none
  case indexAddr T x i =>
    split
    · refine still_const fun p => ?_
      split
      · exact still_cond (still_const fun _ => still_hand) still_none
      · rename_i n ver hx
        refine fun v h' l' e => ?_
        obtain ⟨b, h1, h2⟩ := bind_some e
        obtain ⟨h3, h2⟩ := cond_some h2
        obtain ⟨rfl, rfl, rfl⟩ := hand_inj h2
        refine ⟨rfl, rfl, fun hh lx hs => ?_⟩
        obtain ⟨b2, h4, h5⟩ := sees_at hs (by rw [hx]; simp [valNames, cells, names]) h1
        show (blkAt hh n ver).bind _ = _
        rw [h4, Option.bind_some, h5.1, h5.2.2.1, h3]; rfl
      · rename_i n ver off len hx
        refine fun v h' l' e => ?_
        obtain ⟨b, h1, h2⟩ := bind_some e
        obtain ⟨h3, h2⟩ := cond_some h2
        obtain ⟨rfl, rfl, rfl⟩ := hand_inj h2
        refine ⟨rfl, rfl, fun hh lx hs => ?_⟩
        obtain ⟨b2, h4, h5⟩ := sees_at hs (by rw [hx]; simp [valNames, cells, names]) h1
        show (blkAt hh n ver).bind _ = _
        rw [h4, Option.bind_some, h5.1, h5.2.2.1, h3]; rfl
      · exact still_none
    · exact still_none
  case index T x i =>
    split
    · exact still_cond still_none (still_const fun _ => still_cond (still_const fun _ => still_hand) still_none)
    · exact still_none
  case extract x i => exact still_const fun _ => still_const fun _ => still_hand
end
end Go.Proofs.Ytiibidadpgknjaa.Fi
