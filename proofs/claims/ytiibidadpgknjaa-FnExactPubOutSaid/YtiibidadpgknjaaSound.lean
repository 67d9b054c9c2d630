/- Soundness: what the interpreter answers, the machine's call answers. -/
import Derived.Test.YtiibidadpgknjaaGo
import Derived.Test.YtiibidadpgknjaaLim
namespace Go.Proofs.Ytiibidadpgknjaa.Fi
open Go

section
variable {P : Program} {X : Ctx} {oc : Nat → List AV → List Blk → Option (AV × List Blk)} {oi : Nat → List AV → List Blk → Option Ans}
  {ok : List It → List Nat → List AV → List Blk → Bool → Option Ans} {iso : Bool} {ρ0 : R} {b : Frame} {fn : Func}

theorem enter_runs (K : Kn P X oc oi) (h0 : Ok ρ0) (hnr : X.nr = ρ0.h.length) (hk : b.kind = .normal) (hf : P.funcs[b.fn]? = some fn) (hok : OkC P b X iso ρ0 ok) {n : Nat} {todo : List It} {t : Nat → AV} {h : List Blk} {l : Bool} {r : Ans}
    (e : go X fn oc oi ok iso n (enterIt todo) t h l = some r) {items : List Item} (hi : TodoR todo items) {ρ : R} {a : Act} (s : St X iso ρ0 ρ t h l a) : Runs P b items a ρ.w (Fin iso ρ0 r) := by
  have G := fun (n : Nat) => go_ok (iso := iso) K h0 hnr hk hf hok n n (Nat.le_refl _)
  cases hi with
  | plain hp =>
    cases todo with
    | nil => exact (G n _ _ _ _ _ e ρ a s).1 hp
    | cons it k =>
      cases it with
      | inLoop c => exact runs_inLoop ((G n (.code c :: .inLoop c :: k) _ _ _ _ e ρ a s).1 (plain_cons rfl hp))
      | code c => exact (G n (.code c :: k) _ _ _ _ e ρ a s).1 hp
      | inBlock id => exact (G n (.inBlock id :: k) _ _ _ _ e ρ a s).1 hp
      | ops _ _ _ _ _ _ => have := hp _ (List.mem_cons_self ..); cases this
  | @loop c k hp => exact runs_loop ((G n (.code c :: .inLoop c :: k) _ _ _ _ e ρ a s).1 (plain_cons rfl (plain_cons rfl hp)))
  | @region id ops draw k hpk hdr =>
    have hops : ops.toList.toArray = ops := by simp
    have e : go X fn oc oi ok iso n (.ops draw ops.toList (bif draw then befs ops.toList [] else []) 0 ops.toList [] :: k) t h l = some r := e
    cases draw with
    | false =>
      have := (G n _ _ _ _ _ e ρ a s).2 _ _ _ _ _ _ rfl hpk (by simp) (Nat.zero_le _)
      rw [hops, Nat.sub_zero, Array.length_toList, ← List.range_eq_range'] at this
      exact runs_region (runs_ops this)
    | true =>
      obtain ⟨T, H, L, V, F, k1, k2, k3, _, k5, n', k6, k7⟩ := trace ops.toList 0 [] t h l n (by simp) (Nat.zero_le _) rfl e
      have hrun : ∀ (j : Nat) (o : Oper), ops.toList[j]? = some o → Run1 X oc oi ops.toList (befs ops.toList []) T H L V F j o := fun j o ho => k5 j o (Nat.zero_le _) ho
      refine runs_region_draw fun tp => runs_ops ?_
      have hgrow : Nx ρ (ρ.at { ρ.w with drawn := ρ.w.drawn + 1 }) := nx_grow s.inv.ok rfl rfl rfl (Nat.le_refl _) (fun _ _ => rfl)
      have := draw_ops K hrun (ρs := ρ.at { ρ.w with drawn := ρ.w.drawn + 1 }) (a := a) s.size s.defers hgrow.ok (by rw [k2]; exact s.heap) (by rw [k1]; exact s.sl.le hgrow.le) (hdr rfl)
        (Q := fun e a w => e = .normal ∧ Runs P b (k.map cv) a w (Fin iso ρ0 r)) (fun a' w φ Z h1 h2 h3 h4 h5 => ⟨rfl, ?_⟩) (P.follows .mixedOrders) tp
      · rw [hops] at this; exact this
      · have s' : St X iso ρ0 ⟨w, φ, Z, H ops.toList.length⟩ (T ops.toList.length) (H ops.toList.length) (L ops.toList.length) a' :=
          s.step hnr (hgrow.trans h3) h4 h1 h2 fun hl => by rw [k3, k2] at h5; exact h5 hl
        exact (G n' _ _ _ _ _ k7 ⟨w, φ, Z, H ops.toList.length⟩ a' s').1 hpk
end

theorem args_sl {ρ : R} : ∀ {as : List AV} {vals : List Value}, ValsR ρ as vals → as.length = vals.length ∧ ∀ (i : Nat) (a : AV) (u : Value), as[i]? = some a → vals[i]? = some u → ValR ρ a u
  | [], vals, h => by obtain rfl : vals = [] := h; exact ⟨rfl, fun i a u h => by simp at h⟩
  | a :: as, _, ⟨u, r, rfl, h1, h2⟩ => by
    obtain ⟨k1, k2⟩ := args_sl h2
    refine ⟨by simp [k1], fun i a' u' ha hu => ?_⟩
    cases i with
    | zero => simp at ha hu; subst ha hu; exact h1
    | succ i => exact k2 i a' u' (by simpa using ha) (by simpa using hu)
theorem look_at : ∀ {ks : List Nat} {vs : List AV} {i : Nat} {v : AV}, look ks vs i = v → v = .undef ∨ ∃ j : Nat, ks[j]? = some i ∧ vs[j]? = some v
  | [], vs, i, v, h => by cases vs <;> exact .inl h.symm
  | k :: ks, [], i, v, h => .inl h.symm
  | k :: ks, x :: vs, i, v, h => by
    simp only [look] at h
    cases hk : Nat.beq k i with
    | true =>
      rw [hk] at h
      exact .inr ⟨0, by simp [Nat.eq_of_beq_eq_true hk], by simpa using h⟩
    | false =>
      rw [hk] at h
      rcases look_at h with h1 | ⟨j, h1, h2⟩
      · exact .inl h1
      · exact .inr ⟨j + 1, by simpa using h1, by simpa using h2⟩
theorem start_sl {ρ : R} {as : List AV} {vals : Array Value} (h : ValsR ρ as vals.toList) (m : Nat) : SlR ρ (look (List.range as.length) as) (vals ++ Array.replicate m undef) := by
  obtain ⟨h1, h2⟩ := args_sl h
  intro i
  rcases look_at (ks := List.range as.length) (vs := as) (i := i) rfl with h3 | ⟨j, h3, h4⟩
  · rw [h3]; trivial
  · obtain ⟨h5, h6⟩ := List.getElem?_eq_some_iff.1 h3
    have hij : j = i := by simpa using h6
    subst hij
    have hj : j < vals.size := by simp at h5 h1; omega
    refine h2 j _ _ h4 ?_
    simp only [Array.getElem?_toList, Array.getD_eq_getD_getElem?, Array.getElem?_append_left hj, Array.getElem?_eq_getElem hj, Option.getD_some]

/-- What a round's run does. -/
def RunC (E : Env) (n : Nat) : Prop := ∀ f nr iso todo ks vs h leak r, runN E n f nr iso todo ks vs h leak = some r → ∀ fn, E.P.funcs[f]? = some fn → ∀ (b : Frame), b.kind = .normal → b.fn = f → ∀ ρ0, Ok ρ0 → nr = ρ0.h.length →
  ∀ items, TodoR todo items → ∀ (ρ : R) (a : Act), St (E.ctx f fn nr) iso ρ0 ρ (look ks vs) h leak a → Runs E.P b items a ρ.w (Fin iso ρ0 r)

/-- What is checked of the tables. -/
structure Good (E : Env) : Prop where
  tab : ∀ f fn nr, TabOk E.P (E.ctx f fn nr)
  eq : ∀ f fn nr, EqOk E.P (E.ctx f fn nr)
  name : NameOk E.P

theorem sound (E : Env) (hE : Good E) : ∀ n, RunC E n ∧ (∀ f as bs v bs', callPN E n f as bs = some (v, bs') → Iso E.P f as bs v bs' ∧ HasBody E.P f) ∧ (∀ f as h v h' l, callIN E n f as h = some (v, h', l) → Inl E.P f as h v h' l ∧ HasBody E.P f) := by
  intro n
  induction n with
  | zero =>
    refine ⟨fun f nr iso todo ks vs h leak r e => ?_, fun f as bs v bs' e => ?_, fun f as h v h' l e => ?_⟩
    · simp [runN] at e
    · simp [callPN] at e
    · simp [callIN] at e
  | succ n ih =>
    obtain ⟨ih1, ih2, ih3⟩ := ih
    have start : ∀ {f nr : Nat} {iso : Bool} {c : Code} {as : List AV} {h : List Blk} {r : Ans} {fn : Func}, runN E n f nr iso [.code c] (List.range as.length) as h false = some r → E.P.funcs[f]? = some fn → fn.body = some c →
        ∀ (ρ0 : R) (vals : Array Value), ρ0.h = h → nr = h.length → Ok ρ0 → ValsR ρ0 as vals.toList → Calls E.P f vals ρ0.w (Fin iso ρ0 r) := by
      intro f nr iso c as h r fn e hf hb ρ0 vals hh hnr ho hv
      refine calls_of_runs hf hb ?_
      refine ih1 f nr iso _ _ _ _ _ r e fn hf _ rfl rfl ρ0 ho (by rw [hh]; exact hnr) [.code c] (TodoR.plain (k := [.code c]) fun x hx => ?_) ρ0 _ ⟨Inv.refl ho, hh, start_sl hv _, ?_, rfl, fun _ => by rw [hh]; exact LkP.refl _ _⟩
      · obtain rfl : x = .code c := by simpa using hx
        rfl
      · show fn.ntmps ≤ _
        simp
        omega
    refine ⟨fun f nr iso todo ks vs h leak r e fn hf b hk hb ρ0 ho hnr items hi ρ a s => ?_, fun f as bs v bs' e => ?_, fun f as h v h' l e => ?_⟩
    · simp only [runN, hf] at e
      have K : Kn E.P (E.ctx f fn nr) (callPN E n) (callIN E n) :=
        ⟨hE.tab f fn nr, hE.eq f fn nr, hE.name, fun f as bs v bs' h => (ih2 f as bs v bs' h).1, fun f as h v h' l e => (ih3 f as h v h' l e).1, fun f as bs r h => (ih2 f as bs r.1 r.2 h).2, fun f as h r e => (ih3 f as h r.1 r.2.1 r.2.2 e).2⟩
      refine enter_runs K ho hnr hk (by rw [hb]; exact hf) (fun todo ks vs h l r e items hi ρ a s => ?_) e hi s
      exact ih1 f nr iso todo ks vs h l r e fn hf b hk hb ρ0 ho hnr items hi ρ a s
    · simp only [callPN] at e
      cases hf : E.P.funcs[f]? with
      | none => rw [hf] at e; cases e
      | some fn =>
        rw [hf] at e
        simp only at e
        cases hb : fn.body with
        | none => rw [hb] at e; cases e
        | some c =>
          rw [hb] at e
          simp only at e
          obtain ⟨r, h1, h2⟩ := bind_some e
          injection h2 with h2
          injection h2 with h2 h3
          subst h2 h3
          refine ⟨fun ρ0 vals hh ho hv => (start h1 hf hb ρ0 vals hh rfl ho hv).mono ?_, fn, c, hf, hb⟩
          rintro e w' ⟨vv, φ', Z', k1, k2, k3, k4⟩
          exact ⟨vv, φ', Z', k1, k2, k3, k4⟩
    · simp only [callIN] at e
      cases hf : E.P.funcs[f]? with
      | none => rw [hf] at e; cases e
      | some fn =>
        rw [hf] at e
        simp only at e
        cases hb : fn.body with
        | none => rw [hb] at e; cases e
        | some c =>
          rw [hb] at e
          simp only at e
          refine ⟨fun ρ0 vals hh ho hv => (start e hf hb ρ0 vals hh rfl ho hv).mono ?_, fn, c, hf, hb⟩
          rintro e w' ⟨vv, φ', Z', k1, k2, k3, k4⟩
          exact ⟨vv, φ', Z', k1, k2, k3, fun hl => hh ▸ k4 hl⟩

/-- The law, for a call in the limit. -/
theorem callP_sound {E : Env} (hE : Good E) {f : Nat} {as : List AV} {bs bs' : List Blk} {v : AV} (h : callP E f as bs = some (v, bs')) : Iso E.P f as bs v bs' := by
  obtain ⟨n, hn⟩ := ev_of h
  exact ((sound E hE n).2.1 f as bs v bs' (hn n (Nat.le_refl _))).1
end Go.Proofs.Ytiibidadpgknjaa.Fi
