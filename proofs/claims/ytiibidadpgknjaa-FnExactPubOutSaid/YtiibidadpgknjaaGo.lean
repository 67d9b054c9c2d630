/- The interpreter's run is the machine's. -/
import Derived.Test.YtiibidadpgknjaaDrE
namespace Go.Proofs.Ytiibidadpgknjaa.Fi
open Go

def cv : It → Item
  | .code c => .code c
  | .inBlock id => .inBlock id
  | .inLoop c => .inLoop c
  | .ops _ _ _ _ _ _ => .code .skip
def isOps : It → Bool
  | .ops _ _ _ _ _ _ => true
  | _ => false
def Plain (k : List It) : Prop := ∀ x ∈ k, isOps x = false
theorem plain_tail {x : It} {k : List It} (h : Plain (x :: k)) : Plain k := fun y hy => h y (List.mem_cons_of_mem _ hy)
theorem plain_cons {x : It} {k : List It} (hx : isOps x = false) (h : Plain k) : Plain (x :: k) := fun y hy => by
  rcases List.mem_cons.1 hy with rfl | hy
  · exact hx
  · exact h y hy
theorem exit_cv {id : Nat} : ∀ {k k' : List It}, Plain k → exitIt id k = some k' → exitTo id (k.map cv) = some (k'.map cv) ∧ Plain k'
  | [], _, _, h => by simp [exitIt] at h
  | x :: k, k', hp, h => by
    cases x with
    | inBlock j =>
      simp only [exitIt] at h
      simp only [List.map_cons, cv, exitTo]
      cases hj : Nat.beq j id with
      | true =>
        rw [hj] at h
        injection h with h
        subst h
        rw [Nat.eq_of_beq_eq_true hj]
        simp only [beq_self_eq_true, if_true]
        exact ⟨trivial, plain_tail hp⟩
      | false =>
        rw [hj] at h
        have hne : (j == id) = false := by simpa using fun e => by rw [e, Nat.beq_refl] at hj; cases hj
        rw [hne]
        exact exit_cv (plain_tail hp) h
    | code c => simp only [exitIt] at h; exact exit_cv (k := k) (plain_tail hp) h
    | inLoop c => simp only [exitIt] at h; exact exit_cv (k := k) (plain_tail hp) h
    | ops _ _ _ _ _ _ => have := hp _ (List.mem_cons_self ..); cases this

/-- What the machine has to do, where the interpreter begins. -/
inductive TodoR : List It → List Item → Prop
  | plain {k : List It} (h : Plain k) : TodoR k (k.map cv)
  | loop {c : Code} {k : List It} (h : Plain k) : TodoR (.inLoop c :: k) (.code (.loop c) :: k.map cv)
  | region {id : Nat} {ops : Array Oper} {draw : Bool} {k : List It} (h : Plain k) (hd : draw = true → drawOk ops.toList = true) :
      TodoR (.ops draw ops.toList (bif draw then befs ops.toList [] else []) 0 ops.toList [] :: k) (.code (.region id ops draw) :: k.map cv)

/-- The end of the call. -/
def Fin (iso : Bool) (ρ0 : R) (r : Ans) (e : Ending) (w' : World) : Prop :=
  ∃ vv φ' Z', e = .returned vv ∧ bif iso then Inv true ρ0 ⟨w', φ', Z', r.2.1⟩ ∧ (∀ b ∈ r.2.1, b.rf = false) ∧ ResV ⟨w', φ', Z', r.2.1⟩ r.1 vv
    else Nx ρ0 ⟨w', φ', Z', r.2.1⟩ ∧ ValR ⟨w', φ', Z', r.2.1⟩ r.1 vv ∧ (r.2.2 = false → Lk ρ0.h r.2.1)

/-- Where the machine stands. -/
structure St (X : Ctx) (iso : Bool) (ρ0 ρ : R) (t : Nat → AV) (h : List Blk) (leak : Bool) (a : Act) : Prop where
  inv : Inv iso ρ0 ρ
  heap : ρ.h = h
  sl : SlR ρ t a.tmps
  size : X.nt ≤ a.tmps.size
  defers : a.defers = []
  leak : leak = false → LkP X.nr ρ0.h h

def OkC (P : Program) (b : Frame) (X : Ctx) (iso : Bool) (ρ0 : R) (ok : List It → List Nat → List AV → List Blk → Bool → Option Ans) : Prop :=
  ∀ todo ks vs h l r, ok todo ks vs h l = some r → ∀ items, TodoR todo items → ∀ (ρ : R) (a : Act), St X iso ρ0 ρ (look ks vs) h l a → Runs P b items a ρ.w (Fin iso ρ0 r)

section
variable {P : Program} {X : Ctx} {oc : Nat → List AV → List Blk → Option (AV × List Blk)} {oi : Nat → List AV → List Blk → Option Ans}
  {ok : List It → List Nat → List AV → List Blk → Bool → Option Ans} {iso : Bool} {ρ0 : R} {b : Frame} {fn : Func}

theorem St.step {ρ ρ' : R} {t t' : Nat → AV} {h : List Blk} {l l' : Bool} {a a' : Act} (s : St X iso ρ0 ρ t h l a) (hn : X.nr = ρ0.h.length) (hx : Nx ρ ρ') (hs : SlR ρ' t' a'.tmps) (hz : a'.tmps.size = a.tmps.size) (hd : a'.defers = []) (hl : l' = false → l = false ∧ LkP X.nr h ρ'.h) :
    St X iso ρ0 ρ' t' ρ'.h l' a' := by
  refine ⟨s.inv.nx hx, rfl, hs, by rw [hz]; exact s.size, hd, fun hl' => ?_⟩
  obtain ⟨h1, h2⟩ := hl hl'
  exact (s.leak h1).trans h2

theorem look_map {g : Nat → AV} : ∀ {ks : List Nat} {i : Nat}, (i ∈ ks → look ks (ks.map g) i = g i) ∧ (i ∉ ks → look ks (ks.map g) i = .undef)
  | [], i => ⟨fun h => (by cases h), fun _ => rfl⟩
  | k :: ks, i => by
    obtain ⟨ih1, ih2⟩ := look_map (g := g) (ks := ks) (i := i)
    simp only [List.map_cons, look, List.mem_cons, not_or]
    cases hk : Nat.beq k i with
    | true =>
      have := Nat.eq_of_beq_eq_true hk
      subst this
      exact ⟨fun _ => rfl, fun h => absurd rfl h.1⟩
    | false =>
      have hne : k ≠ i := fun e => by rw [e, Nat.beq_refl] at hk; cases hk
      exact ⟨fun h => ih1 (h.resolve_left fun e => hne e.symm), fun h => ih2 h.2⟩

theorem keep_val {ρ : R} {nr0 m : Nat} {v : AV} {u : Value} (h : ValR ρ v u) (hb : bnd v ≤ m) : ValR (ρ.cut nr0 m) (nvKeep nr0 ρ.h v) u := by
  unfold nvKeep
  cases hr : valRef v with
  | true =>
    rw [cond_true]
    by_cases hu : v = .undef
    · subst hu; trivial
    · cases hc : isCell v with
      | true =>
        have h' := (vr_cell hc hu).1 h
        have e1 : nvV nr0 ρ.h v = nvCell nr0 ρ.h v := by cases v <;> first | rfl | cases hc
        have e2 : bnd v = bnd1 v := by cases v <;> first | rfl | cases hc
        rw [e1]
        exact cell_val (nvCell_cell h' (e2 ▸ hb))
      | false =>
        cases v with
        | agg cs => obtain ⟨us, e, h⟩ := h; exact ⟨us, e, nvCells_cells h hb⟩
        | tup vs => trivial
        | _ => cases hc
  | false =>
    rw [cond_false]
    have hm := hasRefs_mem (show hasRefs (cells v) = false from hr)
    cases hc : isCell v with
    | true =>
      have hu : v ≠ .undef := by rintro rfl; cases hm _ (List.mem_cons_self ..)
      have h' := (vr_cell hc hu).1 h
      have e1 : cells v = [v] := by cases v <;> first | rfl | cases hc
      exact cell_val (cell_move h' (hm v (by rw [e1]; simp)) fun b hb => ⟨hb, rfl⟩)
    | false =>
      cases v with
      | agg cs =>
        obtain ⟨us, e, h⟩ := h
        have h' := CellsR.iff.1 h
        exact ⟨us, e, (CellsR.iff (ρ := ρ.cut nr0 m)).2 ⟨h'.1, fun j c u h1 h2 => cell_move (h'.2 j c u h1 h2) (hm c (List.mem_of_getElem? h1)) fun b hb => ⟨hb, rfl⟩⟩⟩
      | tup vs => cases hm _ (List.mem_cons_self ..)
      | _ => cases hc

theorem allBelow_mem {m : Nat} : ∀ {l : List Blk}, allBelow m l = true → ∀ b ∈ l, b.rf = true → bndAll b.els ≤ m
  | [], _, _, h, _ => by cases h
  | c :: l, h, d, hd, hr => by
    simp only [allBelow, Bool.and_eq_true] at h
    rcases List.mem_cons.1 hd with rfl | hd
    · have := h.1
      simp only [blkBelow, Bool.or_eq_true, Bool.not_eq_true'] at this
      rcases this with h1 | h1
      · rw [hr] at h1; cases h1
      · exact Nat.le_of_ble_eq_true h1
    · exact allBelow_mem h.2 d hd hr

theorem growM_ge : ∀ (k nr m : Nat) (h : List Blk), m ≤ growM k nr m h
  | 0, _, m, _ => Nat.le_refl m
  | k + 1, nr, m, h => by
    simp only [growM]
    cases Nat.ble (rfBnd (dropN nr (takeN m h))) m with
    | true => exact Nat.le_refl m
    | false => exact Nat.le_trans (Nat.le_max_left _ _) (growM_ge k nr _ h)
theorem cut_runs (h0 : Ok ρ0) (hnr : X.nr = ρ0.h.length) (hok : OkC P b X iso ρ0 ok) {todo : List It} {ks : List Nat} {t : Nat → AV} {h : List Blk} {l : Bool} {r : Ans} (e : cutTo X ok iso todo ks t h l = some r) {items : List Item} (hi : TodoR todo items)
    {ρ : R} {a : Act} (s : St X iso ρ0 ρ t h l a) : Runs P b items a ρ.w (Fin iso ρ0 r) := by
  obtain rfl := s.heap
  unfold cutTo at e
  simp only [forces_eq, forceN_eq] at e
  obtain ⟨hm, e⟩ := cond_some e
  have hge := growM_ge 8 X.nr (Nat.max (bndAll (ks.map t)) X.nr) ρ.h
  generalize growM 8 X.nr (Nat.max (bndAll (ks.map t)) X.nr) ρ.h = m at hm e hge
  generalize hN : (bif iso then 0 else X.nr) = nr0 at e
  have hmr : X.nr ≤ m := Nat.le_trans (Nat.le_max_right _ _) hge
  have hmk : bndAll (ks.map t) ≤ m := Nat.le_trans (Nat.le_max_left _ _) hge
  unfold mayCut at hm
  simp only [Bool.and_eq_true, Bool.not_eq_true', Bool.and_eq_false_iff] at hm
  have hb : ∀ (n : Nat) (b : Blk), n < m → ρ.h[n]? = some b → b.rf = true → bndAll b.els ≤ bif Nat.blt n X.nr then X.nr else m := by
    intro n b hn hbn hr
    cases hlt : Nat.blt n X.nr with
    | true =>
      have hlt' : n < X.nr := Nat.blt_eq ▸ hlt
      have hl : l = false := by
        rcases hm.1 with h | h
        · exact h
        · have : Nat.blt 0 X.nr = true := Nat.blt_eq ▸ (by omega : 0 < X.nr)
          rw [this] at h; cases h
      have hb0 := List.getElem?_eq_getElem (show n < ρ0.h.length by omega)
      obtain ⟨b', h1, h2⟩ := s.leak hl n _ hlt' hb0
      rw [hbn] at h1
      injection h1 with h1
      subst h1
      have := blk_bnd h0 hb0
      rw [cond_true, hnr]
      exact Nat.le_trans h2 this
    | false =>
      rw [cond_false]
      refine allBelow_mem hm.2 b ?_ hr
      have hge : X.nr ≤ n := by
        rcases Nat.lt_or_ge n X.nr with h | h
        · rw [(Nat.blt_eq ▸ h : Nat.blt n X.nr = true)] at hlt; cases hlt
        · exact h
      rw [dropN_eq, takeN_eq]
      refine List.mem_of_getElem? (i := n - X.nr) ?_
      rw [List.getElem?_drop, List.getElem?_take, show X.nr + (n - X.nr) = n by omega, if_pos hn]
      exact hbn
  have hinv := cut_inv' (nr0 := nr0) (m := m) s.inv hnr hN.symm hmr hb
  refine hok _ _ _ _ _ _ e items hi (ρ.cut nr0 m) a ⟨hinv, rfl, fun i => ?_, s.size, s.defers, fun hl n b hn hbn => ?_⟩
  · have hlm := look_map (g := fun k => nvKeep nr0 ρ.h (t k)) (ks := ks) (i := i)
    rw [List.map_map]
    by_cases hk : i ∈ ks
    · have := hlm.1 hk
      rw [show (nvKeep nr0 ρ.h ∘ t) = fun k => nvKeep nr0 ρ.h (t k) from rfl, this]
      exact keep_val (s.sl i) (bndAll_le.1 hmk _ (List.mem_map.2 ⟨i, hk, rfl⟩))
    · have := hlm.2 hk
      rw [show (nvKeep nr0 ρ.h ∘ t) = fun k => nvKeep nr0 ρ.h (t k) from rfl, this]
      trivial
  · obtain ⟨b', h1, h2⟩ := s.leak hl n b hn hbn
    refine ⟨nvB nr0 ρ.h n b', ?_, Nat.le_trans nvB_bnd h2⟩
    exact cut_some (ρ := ρ) (by omega) h1

/-- The end. -/
theorem fin_runs (K : Kn P X oc oi) (hnr : X.nr = ρ0.h.length) (hk : b.kind = .normal) (hf : P.funcs[b.fn]? = some fn) {t : Nat → AV} {h : List Blk} {l : Bool} {r : Ans} (e : finish X fn iso t h l = some r)
    {ρ : R} {a : Act} (s : St X iso ρ0 ρ t h l a) : ∃ v, (results fn a.tmps).run P ρ.w = .ok v ρ.w ∧ Fin iso ρ0 r (.returned v) ρ.w := by
  obtain rfl := s.heap
  obtain ⟨v, h', l'⟩ := r
  cases iso with
  | true =>
    obtain ⟨vv, Z', h1, h2, h3, h4⟩ := finish_iso K.tab s.inv hnr s.sl e
    exact ⟨vv, h1, vv, ρ.φ, Z', rfl, h2, h3, h4⟩
  | false =>
    obtain ⟨rfl, rfl, vv, h1, h2⟩ := finish_inl K.tab s.inv.ok s.sl e
    refine ⟨vv, h1, vv, ρ.φ, ρ.Z, rfl, s.inv.toNx, h2, fun hl n b b' hb hb' => ?_⟩
    have hn : n < X.nr := by rw [hnr]; exact (List.getElem?_eq_some_iff.1 hb).1
    obtain ⟨b2, h3, h4⟩ := s.leak hl n b hn hb
    have hb2 : ρ.h[n]? = some b' := hb'
    rw [h3] at hb2
    injection hb2 with hb2
    subst hb2
    exact h4

theorem range'_cons {i n : Nat} (h : i < n) : List.range' i (n - i) = i :: List.range' (i + 1) (n - (i + 1)) := by
  rw [show n - i = (n - (i + 1)) + 1 by omega, List.range'_succ]

theorem go_ok (K : Kn P X oc oi) (h0 : Ok ρ0) (hnr : X.nr = ρ0.h.length) (hk : b.kind = .normal) (hf : P.funcs[b.fn]? = some fn) (hok : OkC P b X iso ρ0 ok) : ∀ (N n : Nat), n ≤ N → ∀ (todo : List It) (t : Nat → AV) (h : List Blk) (l : Bool) (r : Ans), go X fn oc oi ok iso n todo t h l = some r →
    ∀ (ρ : R) (a : Act), St X iso ρ0 ρ t h l a → (Plain todo → Runs P b (todo.map cv) a ρ.w (Fin iso ρ0 r)) ∧
      (∀ all bef i rest log k, todo = .ops false all bef i rest log :: k → Plain k → rest = all.drop i → i ≤ all.length → wpOps P all.toArray (fun e a w => e = .normal ∧ Runs P b (k.map cv) a w (Fin iso ρ0 r)) (List.range' i (all.length - i)) a ρ.w) := by
  intro N
  induction N with
  | zero => intro n hn todo t h l r e; obtain rfl : n = 0 := by omega
            cases e
  | succ N ih =>
    intro n hn todo t h l r e ρ a s
    cases n with
    | zero => cases e
    | succ n =>
      have ih1 : ∀ {todo : List It} {t : Nat → AV} {h : List Blk} {l : Bool}, go X fn oc oi ok iso n todo t h l = some r → ∀ {ρ : R} {a : Act}, St X iso ρ0 ρ t h l a → Plain todo → Runs P b (todo.map cv) a ρ.w (Fin iso ρ0 r) :=
        fun {todo t h l} e {ρ a} s hp => (ih n (by omega) _ _ _ _ _ e ρ a s).1 hp
      refine ⟨fun hp => ?_, fun all bef i rest log k htodo hpk hrest hile => ?_⟩
      · cases todo with
        | nil =>
          obtain ⟨v, h1, h2⟩ := fin_runs K hnr hk hf (show finish X fn iso t h l = some r from e) s
          exact runs_end hk hf s.defers h1 h2
        | cons it k =>
          have hpk := plain_tail hp
          cases it with
          | inBlock id => exact runs_inBlock (ih1 (todo := k) e s hpk)
          | inLoop c =>
            cases k with
            | nil => cases e
            | cons x k =>
              cases x with
              | inBlock id =>
                obtain ⟨ks, _, e⟩ := bind_some (show (X.keep id).bind _ = some r from e)
                exact cut_runs h0 hnr hok e (.plain hp) s
              | _ => cases e
          | code c =>
            cases c with
            | ret =>
              obtain ⟨v, h1, h2⟩ := fin_runs K hnr hk hf (show finish X fn iso t h l = some r from e) s
              exact runs_ret hk hf s.defers h1 h2
            | skip => exact runs_skip (ih1 (todo := k) e s hpk)
            | label _ => exact runs_label (ih1 (todo := k) e s hpk)
            | seq x y => exact runs_seq (ih1 (todo := .code x :: .code y :: k) e s (plain_cons rfl (plain_cons rfl hpk)))
            | cond c x y =>
              obtain ⟨bb, h1, h2⟩ := bind_some (show (asB (ev t c)).bind _ = some r from e)
              have hc := s.sl.ev c
              rw [asB_some h1] at hc
              refine runs_cond (vr_bool.1 hc) ?_
              cases bb with
              | true => rw [cond_true, setB_eq h1] at h2; exact ih1 (todo := .code x :: k) h2 s (plain_cons rfl hpk)
              | false => rw [cond_false, setB_eq h1] at h2; exact ih1 (todo := .code y :: k) h2 s (plain_cons rfl hpk)
            | block id c => exact runs_block (ih1 (todo := .code c :: .inBlock id :: k) e s (plain_cons rfl (plain_cons rfl hpk)))
            | loop c =>
              cases k with
              | nil => cases e
              | cons x k =>
                cases x with
                | inBlock id =>
                  obtain ⟨ks, _, e⟩ := bind_some (show (X.keep id).bind _ = some r from e)
                  exact cut_runs h0 hnr hok e (.loop hpk) s
                | _ => cases e
            | exit id =>
              obtain ⟨k', h1, h2⟩ := bind_some (show (exitIt id k).bind _ = some r from e)
              obtain ⟨h3, h4⟩ := exit_cv hpk h1
              exact runs_exit h3 (ih1 h2 s h4)
            | region id ops draw =>
              simp only [go] at e
              obtain ⟨hd, e⟩ := cond_some e
              simp only [Bool.or_eq_true, Bool.not_eq_true'] at hd
              have hdr : draw = true → drawOk ops.toList = true := fun h => by
                rcases hd with hd | hd
                · rw [h] at hd; cases hd
                · exact hd
              cases hc : X.cutr id with
              | some ks =>
                rw [hc] at e
                exact cut_runs h0 hnr hok e (.region hpk hdr) s
              | none =>
                rw [hc] at e
                simp only at e
                have hops : ops.toList.toArray = ops := by simp
                cases draw with
                | false =>
                  have := (ih n (by omega) _ _ _ _ _ e ρ a s).2 _ _ _ _ _ _ rfl hpk (by simp) (Nat.zero_le _)
                  rw [hops, Nat.sub_zero, Array.length_toList, ← List.range_eq_range'] at this
                  exact runs_region (runs_ops this)
                | true =>
                  obtain ⟨T, H, L, V, F, k1, k2, k3, _, k5, n', k6, k7⟩ := trace ops.toList 0 [] t h l n (by simp) (Nat.zero_le _) rfl e
                  have hrun : ∀ (j : Nat) (o : Oper), ops.toList[j]? = some o → Run1 X oc oi ops.toList (befs ops.toList []) T H L V F j o := fun j o ho => k5 j o (Nat.zero_le _) ho
                  refine runs_region_draw fun tp => runs_ops ?_
                  have hgrow : Nx ρ (ρ.at { ρ.w with drawn := ρ.w.drawn + 1 }) := nx_grow s.inv.ok rfl rfl rfl (Nat.le_refl _) (fun _ _ => rfl)
                  have := draw_ops K hrun (ρs := ρ.at { ρ.w with drawn := ρ.w.drawn + 1 }) (a := a) s.size s.defers hgrow.ok (by rw [k2]; exact s.heap) (by rw [k1]; exact s.sl.le hgrow.le) (hdr rfl)
                    (Q := fun e a w => e = .normal ∧ Runs P b (k.map cv) a w (Fin iso ρ0 r)) (fun a' w φ Z h1 h2 h3 h4 h5 => ⟨rfl, ?_⟩) (P.follows .mixedOrders) tp
                  · rw [hops] at this; exact this
                  · have s' : St X iso ρ0 ⟨w, φ, Z, H ops.toList.length⟩ (T ops.toList.length) (H ops.toList.length) (L ops.toList.length) a' :=
                      s.step hnr (hgrow.trans h3) h4 h1 h2 fun hl => by rw [k3, k2] at h5; exact h5 hl
                    exact (ih n' (by omega) _ _ _ _ _ k7 ⟨w, φ, Z, H ops.toList.length⟩ a' s').1 hpk
            | _ => cases e
          | ops _ _ _ _ _ _ => have := hp _ (List.mem_cons_self ..); cases this
      · subst htodo
        cases rest with
        | nil =>
          have hN : all.length - i = 0 := by
            have := congrArg List.length hrest
            simp at this
            omega
          rw [hN]
          exact ⟨rfl, ih1 (todo := k) e s hpk⟩
        | cons o rest =>
          have hio : all[i]? = some o := by
            have := congrArg (fun l => l[0]?) hrest
            simpa using this.symm
          have hilt := (List.getElem?_eq_some_iff.1 hio).1
          obtain ⟨log', v, h', l', _, h2, h3, h4⟩ := ops_part e
          rw [range'_cons hilt, wpOps_cons]
          refine eff_wp K.tab K.eq K.name K.iso K.inl K.bc K.bi h2 s.heap s.inv.ok s.sl hio fun w' φ' Z' vv hx hv hl => ?_
          have s' : St X iso ρ0 ⟨w', φ', Z', h'⟩ (putO o.dst v t) h' l' (a.put o.dst vv) :=
            s.step (ρ' := ⟨w', φ', Z', h'⟩) hnr hx (SlR.putO (a := a) (s.sl.le hx.le) (fun d hd => Nat.lt_of_lt_of_le (h3 d hd) s.size) hv) (act_put_size _ _ _) (by rw [act_put_defers]; exact s.defers)
              fun hl' => by
                obtain ⟨g1, g2⟩ := hl hl'
                refine ⟨g1, ?_⟩
                rw [← s.heap] at g2 ⊢
                exact LkP.of (ρ := ρ) (ρ' := ⟨w', φ', Z', h'⟩) g2 hx
          exact (ih n (by omega) _ _ _ _ _ h4 ⟨w', φ', Z', h'⟩ _ s').2 all bef (i + 1) rest log' k rfl hpk (by rw [← List.drop_drop, ← hrest]; rfl) hilt
end
end Go.Proofs.Ytiibidadpgknjaa.Fi
