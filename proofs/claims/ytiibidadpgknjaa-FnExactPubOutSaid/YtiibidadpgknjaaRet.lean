/- A call's end, and a call's answer at its caller. -/
import Derived.Test.YtiibidadpgknjaaCall
import Derived.Laws.Sem
namespace Go.Proofs.Ytiibidadpgknjaa.Fi
open Go

section
variable {P : Program} {X : Ctx} {ρ : R}

/-! ### The slots -/

def SlR (ρ : R) (t : Nat → AV) (tmps : Array Value) : Prop := ∀ i, ValR ρ (t i) (tmps.getD i undef)
theorem SlR.le {ρ' : R} (hl : Le ρ ρ') {t : Nat → AV} {tmps : Array Value} (h : SlR ρ t tmps) : SlR ρ' t tmps := fun i => (h i).le hl
theorem SlR.put {t : Nat → AV} {tmps : Array Value} (h : SlR ρ t tmps) {d : Nat} (hd : d < tmps.size) {v : AV} {vv : Value} (hv : ValR ρ v vv) : SlR ρ (put t d v) (tmps.setIfInBounds d vv) := by
  intro i
  unfold Fi.put
  simp only [Array.getD_eq_getD_getElem?, Array.getElem?_setIfInBounds]
  by_cases hi : d = i
  · subst hi
    simp [hd, hv]
  · have : Nat.beq d i = false := by rw [Bool.eq_false_iff]; intro hc; exact hi (Nat.eq_of_beq_eq_true hc)
    rw [this, if_neg hi, cond_false]
    have := h i
    rwa [Array.getD_eq_getD_getElem?] at this
theorem SlR.ev {t : Nat → AV} {a : Act} (h : SlR ρ t a.tmps) (x : Operand) : ValR ρ (Fi.ev t x) (a.eval x) :=
  ev_rel (e := a.eval) (fun i => h i) (fun _ => rfl) (fun _ => rfl) x
theorem SlR.evs {t : Nat → AV} {a : Act} (h : SlR ρ t a.tmps) : ∀ (l : List Operand), ValsR ρ (l.map (Fi.ev t)) (l.map a.eval)
  | [] => rfl
  | x :: l => ⟨_, _, rfl, h.ev x, SlR.evs h l⟩

/-! ### The results -/

def resOf (tmps : Array Value) : ResultVar → Sem Value
  | .tmp t => pure (tmps.getD t undef)
  | .cell a t => do loadVar t (← asAddr (tmps.getD a undef))
theorem results_eq (fn : Func) (tmps : Array Value) : results fn tmps = (do let vs ← fn.results.mapM (resOf tmps); pure (if h : vs.size = 1 then vs[0] else .tuple vs)) := by
  unfold results
  congr 1

theorem res_run (hT : TabOk P X) (ho : Ok ρ) {t : Nat → AV} {tmps : Array Value} (hs : SlR ρ t tmps) {β : Type} : ∀ {rs : List ResultVar} {K : List AV → Option β} {r : β}, resVals X t ρ.h rs K = some r →
    ∃ vs us, K vs = some r ∧ ValsR ρ vs us ∧ (rs.mapM (resOf tmps)).run P ρ.w = .ok us ρ.w
  | [], K, r, h => ⟨[], [], h, rfl, by simp⟩
  | .tmp i :: rs, K, r, h => by
    simp only [resVals] at h
    obtain ⟨vs, us, h1, h2, h3⟩ := res_run hT ho hs h
    refine ⟨t i :: vs, tmps.getD i undef :: us, h1, ⟨_, _, rfl, hs i, h2⟩, ?_⟩
    simp [List.mapM_cons, resOf, h3]
  | .cell a T :: rs, K, r, h => by
    simp only [resVals] at h
    obtain ⟨ad, v, vv, h1, h2, h3, h4⟩ := load_run hT ho (hs a) h
    obtain ⟨vs, us, g1, g2, g3⟩ := res_run hT ho hs h2
    refine ⟨v :: vs, vv :: us, g1, ⟨_, _, rfl, h4, g2⟩, ?_⟩
    rw [List.mapM_cons]
    simp [resOf, h1, asAddr, h3, g3]

theorem results_run (hT : TabOk P X) (ho : Ok ρ) {t : Nat → AV} {tmps : Array Value} (hs : SlR ρ t tmps) {fn : Func} {β : Type} {K : List AV → Option β} {r : β} (h : resVals X t ρ.h fn.results.toList K = some r) :
    ∃ vs us, K vs = some r ∧ ValsR ρ vs us ∧ (results fn tmps).run P ρ.w = .ok (match us with | [u] => u | us => .tuple us.toArray) ρ.w := by
  obtain ⟨vs, us, h1, h2, h3⟩ := res_run hT ho hs h
  refine ⟨vs, us, h1, h2, ?_⟩
  rw [results_eq, Array.mapM_eq_mapM_toList]
  simp only [Sem.run_bind, Sem.run_map, h3, Result.andThen_ok]
  match us with
  | [] => simp
  | [u] => simp
  | u :: v :: us => simp

theorem anyTup_mem : ∀ {l : List AV}, anyTup l = false → ∀ v ∈ l, ∀ vs, v ≠ .tup vs
  | [], _, _, h => by cases h
  | c :: cs, h, d, hd => by
    simp only [anyTup, Bool.or_eq_false_iff] at h
    rcases List.mem_cons.1 hd with rfl | hd
    · rintro vs rfl; cases h.1
    · exact anyTup_mem h.2 d hd
theorem vals_vals1 : ∀ {vs : List AV} {us : List Value}, (∀ v ∈ vs, ∀ l, v ≠ .tup l) → ValsR ρ vs us → Vals1 ρ vs us
  | [], _, _, h => h
  | v :: vs, _, hn, ⟨u, r, e, h1, h2⟩ => ⟨u, r, e, (valR_eq (hn v (List.mem_cons_self ..))).1 h1, vals_vals1 (fun x hx => hn x (List.mem_cons_of_mem _ hx)) h2⟩

/-- The end of a call in its caller's memory. -/
theorem finish_inl (hT : TabOk P X) (ho : Ok ρ) {t : Nat → AV} {tmps : Array Value} (hs : SlR ρ t tmps) {fn : Func} {leak l' : Bool} {v : AV} {h' : List Blk}
    (h : finish X fn false t ρ.h leak = some (v, h', l')) : h' = ρ.h ∧ l' = leak ∧ ∃ vv, (results fn tmps).run P ρ.w = .ok vv ρ.w ∧ ValR ρ v vv := by
  unfold finish at h
  obtain ⟨vs, us, h1, h2, h3⟩ := results_run hT ho hs h
  simp only [forces_eq, cond_false] at h1
  obtain ⟨h4, h5⟩ := cond_some h1
  injection h5 with h5
  injection h5 with h6 h7
  injection h7 with h7 h8
  subst h6 h7 h8
  refine ⟨rfl, rfl, _, h3, ?_⟩
  match vs, us, h2, h4 with
  | [], us, h2, _ =>
    obtain rfl : us = [] := h2
    exact ⟨#[], rfl, rfl⟩
  | [v], us, h2, _ =>
    obtain ⟨u, r, rfl, h5, h6⟩ := h2
    obtain rfl : r = [] := h6
    exact h5
  | v :: v2 :: vs, us, h2, h4 =>
    simp only [okTup, Bool.not_eq_true'] at h4
    have := vals_vals1 (anyTup_mem h4) h2
    obtain ⟨u, r, rfl, _, u2, r2, rfl, _⟩ := id h2
    exact ⟨_, rfl, this⟩

/-! ### The end of a call in memory of its own -/

def outZ (ρ : R) (nr : Nat) : Nat → Prop := fun k => ρ.Z k ∨ ∃ n b, nr ≤ n ∧ ρ.h[n]? = some b ∧ b.els ≠ [] ∧ ρ.φ n = k
theorem oldN_mem {nr : Nat} : ∀ {l : List Nat}, oldN nr l = false → ∀ n ∈ l, nr ≤ n
  | [], _, _, h => by cases h
  | m :: l, h, n, hn => by
    simp only [oldN, Bool.or_eq_false_iff] at h
    rcases List.mem_cons.1 hn with rfl | hn
    · have := h.1
      rcases Nat.lt_or_ge n nr with hlt | hge
      · rw [(Nat.blt_eq ▸ hlt : Nat.blt n nr = true)] at this; cases this
      · exact hge
    · exact oldN_mem h.2 n hn
theorem exZ_out {nr : Nat} {ns : List Nat} (h : ∀ n ∈ ns, nr ≤ n) (k : Nat) (hk : exZ ρ ns k) : outZ ρ nr k := by
  rcases hk with hk | ⟨n, b, h1, h2, h3, h4⟩
  · exact .inl hk
  · exact .inr ⟨n, b, h n h1, h2, h3, h4⟩
theorem resX_rr (ho : Ok ρ) {T : Nat} {v a : AV} {u : Value} (hv : ValR ρ v u) (h : resX X ρ.h T v = some a) :
    (∃ cs us, a = .agg cs ∧ u = .agg us ∧ RR ρ.w (outZ ρ X.nr) (.agg cs) us.toList) ∨ (isCell a = true ∧ RR ρ.w (outZ ρ X.nr) a [u]) := by
  unfold resX at h
  cases ho' : oldN X.nr (names (cells v)) with
  | true => rw [ho'] at h; cases h
  | false =>
    rw [ho'] at h
    rcases exV_rr ho hv h with ⟨cs, us, h1, h2, h3⟩ | ⟨h1, h2⟩
    · exact .inl ⟨cs, us, h1, h2, h3.mono (exZ_out (oldN_mem ho')) (fun _ _ => rfl)⟩
    · exact .inr ⟨h1, h2.mono (exZ_out (oldN_mem ho')) (fun _ _ => rfl)⟩

theorem rawOut_ok {h : List Blk} : ∀ {L bs' : List Blk}, rawOut X h L = some bs' → bs'.length = L.length ∧ ∀ (n : Nat) (b : Blk), L[n]? = some b → ∃ els, bs'[n]? = some { b with els := els, rf := false } ∧
    ((b.rf = false ∧ els = b.els) ∨ ∃ v a, b.els = [v] ∧ els = [a] ∧ resX X h b.ty v = some a)
  | [], bs', e => by
    simp only [rawOut] at e
    injection e with e
    subst e
    exact ⟨rfl, fun n b hn => by simp at hn⟩
  | ⟨sz, ty, els, box, rf, fz, ver⟩ :: L, bs', e => by
    simp only [rawOut] at e
    obtain ⟨a, h1, h2⟩ := bind_some e
    obtain ⟨l, h3, h4⟩ := bind_some h2
    injection h4 with h4
    subst h4
    obtain ⟨p1, p2⟩ := rawOut_ok h3
    refine ⟨by simp [p1], fun n b hn => ?_⟩
    cases n with
    | succ n => exact p2 n b (by simpa using hn)
    | zero =>
      simp at hn
      subst hn
      cases rf with
      | false =>
        simp only at h1
        injection h1 with h1
        subst h1
        exact ⟨els, rfl, .inl ⟨rfl, rfl⟩⟩
      | true =>
        match els, h1 with
        | [v], h1 =>
          obtain ⟨x, h5, h6⟩ := bind_some h1
          injection h6 with h6
          subst h6
          exact ⟨[x], rfl, .inr ⟨v, x, rfl, rfl, h5⟩⟩

theorem resVs_ok (ho : Ok ρ) : ∀ {Ts : List Nat} {vs vs' : List AV} {us : List Value} {bs' : List Blk}, ValsR ρ vs us → resVs X ρ.h Ts vs = some vs' →
    (∀ (n ver : Nat) (u : Value) (b : Blk), n < X.nr → Cell0 ρ (.own n ver) u → ρ.h[n]? = some b → b.ver = ver → Res1 ⟨ρ.w, ρ.φ, outZ ρ X.nr, bs'⟩ (.own n ver) u) →
    ResL ⟨ρ.w, ρ.φ, outZ ρ X.nr, bs'⟩ vs' us
  | [], [], vs', us, bs', hv, h, _ => by
    simp only [resVs] at h
    injection h with h
    subst h
    exact hv
  | [], _ :: _, _, _, _, _, h, _ => by simp [resVs] at h
  | _ :: _, [], _, _, _, _, h, _ => by simp [resVs] at h
  | T :: Ts, v :: vs, vs', us, bs', ⟨u, r, e, hv, hvs⟩, h, hown => by
    simp only [resVs] at h
    obtain ⟨a, h1, h2⟩ := bind_some h
    obtain ⟨l, h3, h4⟩ := bind_some h2
    injection h4 with h4
    subst h4
    refine ⟨u, r, e, ?_, resVs_ok ho hvs h3 hown⟩
    have gen : ∀ {v : AV}, ValR ρ v u → resX X ρ.h T v = some a → Res1 ⟨ρ.w, ρ.φ, outZ ρ X.nr, bs'⟩ a u := fun hv h1 => .inr (resX_rr ho hv h1)
    unfold resV at h1
    split at h1
    · rename_i n ver
      cases hlt : Nat.blt n X.nr with
      | true =>
        rw [hlt] at h1
        obtain ⟨b, h5, h6⟩ := bind_some h1
        injection h6 with h6
        subst h6
        obtain ⟨q1, q2⟩ := blkAt_some h5
        exact hown n ver u b (Nat.blt_eq ▸ hlt) hv q1 q2
      | false =>
        rw [hlt] at h1
        refine gen hv ?_
        unfold resX
        simp only [cells, names, oldN, hlt, Bool.or_false, cond_false]
        exact h1
    · exact gen hv h1

theorem finish_iso (hT : TabOk P X) {ρ0 : R} (hi : Inv true ρ0 ρ) (hnr : X.nr = ρ0.h.length) {t : Nat → AV} {tmps : Array Value} (hs : SlR ρ t tmps) {fn : Func} {leak l' : Bool} {v : AV} {bs' : List Blk}
    (h : finish X fn true t ρ.h leak = some (v, bs', l')) : ∃ vv Z', (results fn tmps).run P ρ.w = .ok vv ρ.w ∧ Inv true ρ0 ⟨ρ.w, ρ.φ, Z', bs'⟩ ∧ (∀ b ∈ bs', b.rf = false) ∧ ResV ⟨ρ.w, ρ.φ, Z', bs'⟩ v vv := by
  have ho := hi.ok
  unfold finish at h
  obtain ⟨vs, us, h1, h2, h3⟩ := results_run hT ho hs h
  simp only [forces_eq, cond_true] at h1
  obtain ⟨vs', h4, h5⟩ := bind_some h1
  obtain ⟨bs, h6, h7⟩ := bind_some h5
  injection h7 with h7
  injection h7 with e1 e2
  injection e2 with e2 e3
  subst e1 e2 e3
  obtain ⟨p1, p2⟩ := rawOut_ok h6
  rw [takeN_eq] at p1 p2
  have hlen : X.nr ≤ ρ.h.length := by
    rw [hnr]
    by_cases hz : ρ0.h.length = 0
    · omega
    · have hl : ρ0.h.length - 1 < ρ0.h.length := by omega
      obtain ⟨b', q, _⟩ := hi.gr _ _ (List.getElem?_eq_getElem hl)
      have := (List.getElem?_eq_some_iff.1 q).1
      omega
  have hget : ∀ (n : Nat) (b : Blk), n < X.nr → ρ.h[n]? = some b → ∃ els, bs[n]? = some { b with els := els, rf := false } ∧ ((b.rf = false ∧ els = b.els) ∨ ∃ v a, b.els = [v] ∧ els = [a] ∧ resX X ρ.h b.ty v = some a) := fun n b hn hb =>
    p2 n b (by rw [List.getElem?_take, if_pos hn]; exact hb)
  have hback : ∀ (n : Nat) (c : Blk), bs[n]? = some c → n < X.nr ∧ ∃ b els, ρ.h[n]? = some b ∧ c = { b with els := els, rf := false } ∧ els.length = b.els.length ∧ ((b.rf = false ∧ els = b.els) ∨ ∃ v a, b.els = [v] ∧ els = [a] ∧ resX X ρ.h b.ty v = some a) := by
    intro n c hc
    have hn : n < X.nr := by
      have := (List.getElem?_eq_some_iff.1 hc).1
      rw [p1, List.length_take] at this
      omega
    have hb := List.getElem?_eq_getElem (show n < ρ.h.length by omega)
    obtain ⟨els, q1, q2⟩ := hget n _ hn hb
    rw [hc] at q1
    refine ⟨hn, _, els, hb, Option.some.inj q1, ?_, q2⟩
    rcases q2 with ⟨_, q⟩ | ⟨v, a, q, q', _⟩
    · rw [q]
    · rw [q, q']; rfl
  have hne : ∀ {els els' : List AV}, els.length = els'.length → els ≠ [] → els' ≠ [] := fun h h1 h2 => h1 (List.eq_nil_of_length_eq_zero (by rw [h, h2]; rfl))
  have hzz : ∀ k, ρ.Z k → outZ ρ X.nr k := fun k hk => .inl hk
  refine ⟨_, outZ ρ X.nr, h3, ⟨⟨fun k hk => ?_, fun n c hc => ?_, fun n m x y hx hy hx0 hy0 hnm => ?_⟩, ⟨hi.fr.os, hi.fr.tape, hi.fr.output, hi.fr.size, hi.fr.fr, fun n c hc hc0 => ?_⟩, fun k hk => hzz k (hi.z k hk), fun n b0 hb0 => ?_, fun n b0 hb0 hf h0 => ?_, fun k hk => ?_, fun h => by cases h⟩, fun c hc => ?_, ?_⟩
  · rcases hk with hk | ⟨n, b, _, h2, h3, rfl⟩
    · exact ho.zlt k hk
    · exact ho.lt h2 h3
  · obtain ⟨hn, b, els, hb, rfl, hl, hels⟩ := hback n c hc
    have B := ho.blk n b hb
    refine ⟨B.pos, fun hbx e he => ?_, fun _ e he => ?_, fun hbx => by show els.length = 1; rw [hl]; exact B.box hbx, by show els.length ≤ _; rw [hl]; exact B.len, fun hc0 => ?_⟩
    · rcases hels with ⟨_, rfl⟩ | ⟨v, a, q1, rfl, q3⟩
      · exact B.can hbx e he
      · obtain rfl : e = a := by simpa using he
        have hv0 : b.els[0]? = some v := by rw [q1]; rfl
        obtain ⟨cur, c1, _, _, c4⟩ := B.mem (by rw [q1]; simp)
        obtain ⟨us0, u1, u2, u3⟩ := c4 0 v hv0
        cases v with
        | agg cs =>
          rcases resX_rr ho (u := .agg us0.toArray) (show ValR ρ (.agg cs) _ from ⟨_, rfl, u3⟩) q3 with ⟨cs', us', rfl, _, hr⟩ | ⟨hr1, hr2⟩
          · exact (rr_nonil hr).1
          · exact (rr_nonil hr2).1
        | _ =>
          obtain ⟨u, rfl, hu⟩ := (elemR_eq (by simp)).1 u3
          rcases resX_rr ho (cell_val hu) q3 with ⟨cs', us', rfl, _, hr⟩ | ⟨hr1, hr2⟩
          · exact (rr_nonil hr).1
          · exact (rr_nonil hr2).1
    · rcases hels with ⟨hr, rfl⟩ | ⟨v, a, q1, rfl, q3⟩
      · exact B.rf hr e he
      · obtain rfl : e = a := by simpa using he
        have hv0 : b.els[0]? = some v := by rw [q1]; rfl
        obtain ⟨cur, c1, _, _, c4⟩ := B.mem (by rw [q1]; simp)
        obtain ⟨us0, u1, u2, u3⟩ := c4 0 v hv0
        cases v with
        | agg cs =>
          rcases resX_rr ho (u := .agg us0.toArray) (show ValR ρ (.agg cs) _ from ⟨_, rfl, u3⟩) q3 with ⟨cs', us', rfl, _, hr⟩ | ⟨hr1, hr2⟩
          · exact (rr_nonil hr).2
          · exact (rr_nonil hr2).2
        | _ =>
          obtain ⟨u, rfl, hu⟩ := (elemR_eq (by simp)).1 u3
          rcases resX_rr ho (cell_val hu) q3 with ⟨cs', us', rfl, _, hr⟩ | ⟨hr1, hr2⟩
          · exact (rr_nonil hr).2
          · exact (rr_nonil hr2).2
    · have hb0 : b.els ≠ [] := hne hl hc0
      obtain ⟨cur, c1, c2, c3, c4⟩ := B.mem hb0
      refine ⟨cur, c1, fun hf hz => ?_, by show els.length * b.sz ≤ _; rw [hl]; exact c3, fun i e hie => ?_⟩
      · rcases hz with hz | ⟨m, b', k1, k2, k3, k4⟩
        · exact c2 hf hz
        · exact ho.inj m n b' b k2 hb k3 hb0 (by omega) k4
      · rcases hels with ⟨hr, rfl⟩ | ⟨v, a, q1, rfl, q3⟩
        · obtain ⟨us0, u1, u2, u3⟩ := c4 i e hie
          exact ⟨us0, u1, u2, elem_move u3 (B.rf hr e (List.mem_of_getElem? hie)) fun k hk => ⟨hzz k hk, rfl⟩⟩
        · obtain rfl : i = 0 := by have := (List.getElem?_eq_some_iff.1 hie).1; simp at this; exact this
          obtain rfl : a = e := by simpa using hie
          obtain ⟨us0, u1, u2, u3⟩ := c4 0 v (by rw [q1]; rfl)
          refine ⟨us0, u1, u2, ?_⟩
          cases v with
          | agg cs =>
            rcases resX_rr ho (u := .agg us0.toArray) (show ValR ρ (.agg cs) _ from ⟨_, rfl, u3⟩) q3 with ⟨cs', us', rfl, hu', hr⟩ | ⟨hr1, hr2⟩
            · injection hu' with hu'
              rw [← hu'] at hr
              exact rr_elem (ρ := ⟨ρ.w, ρ.φ, outZ ρ X.nr, bs⟩) hr
            · cases hr2 <;> cases hr1
          | _ =>
            obtain ⟨u, rfl, hu⟩ := (elemR_eq (by simp)).1 u3
            rcases resX_rr ho (cell_val hu) q3 with ⟨cs', us', rfl, hu', hr⟩ | ⟨hr1, hr2⟩
            · subst hu'
              exact absurd (CellR.one hu) (by simp [Value.oneCell'])
            · exact rr_elem (ρ := ⟨ρ.w, ρ.φ, outZ ρ X.nr, bs⟩) hr2
  · obtain ⟨hn, b, els, hb, rfl, hl, _⟩ := hback n x hx
    obtain ⟨hm, c, els2, hc, rfl, hl2, _⟩ := hback m y hy
    exact ho.inj n m b c hb hc (hne hl hx0) (hne hl2 hy0) hnm
  · obtain ⟨hn, b, els, hb, rfl, hl, _⟩ := hback n c hc
    exact hi.fr.nw n b hb (hne hl hc0)
  · obtain ⟨b, q1, q2, q3, q4, q5, q6⟩ := hi.gr n b0 hb0
    have hn : n < X.nr := by rw [hnr]; exact (List.getElem?_eq_some_iff.1 hb0).1
    obtain ⟨els, k1, k2⟩ := hget n b hn q1
    obtain ⟨_, b', els', k3, k4, k5, _⟩ := hback n _ k1
    rw [q1] at k3
    injection k3 with k3
    subst k3
    injection k4 with _ _ k4
    subst k4
    exact ⟨_, k1, q2, q3, q4, by show _ ≤ els.length; rw [k5]; exact q5, fun h h0 => q6 (k5.symm.trans h) h0⟩
  · obtain ⟨b, q1, q2, q3, q4⟩ := hi.fz n b0 hb0 hf h0
    have hn : n < X.nr := by rw [hnr]; exact (List.getElem?_eq_some_iff.1 hb0).1
    obtain ⟨els, k1, k2⟩ := hget n b hn q1
    obtain ⟨_, b', els', k3, k4, k5, _⟩ := hback n _ k1
    rw [q1] at k3
    injection k3 with k3
    subst k3
    injection k4 with _ _ k4
    subst k4
    exact ⟨_, k1, q2, hne k5.symm q3, q4⟩
  · have old : ∀ n b, ρ.h[n]? = some b → b.els ≠ [] → X.nr ≤ n → ρ0.w.heap.size ≤ ρ.φ n := fun n b hb hb0 hn => by
      rcases hi.fr.nw n b hb hb0 with q | ⟨b0, q, _⟩
      · exact q
      · have := (List.getElem?_eq_some_iff.1 q).1; omega
    rcases hk with hk | ⟨n, b, k1, k2, k3, rfl⟩
    · rcases hi.zn k hk with q | q | ⟨n, c, q1, q2, q3, q4⟩
      · exact .inl q
      · exact .inr (.inl q)
      · by_cases hn : n < X.nr
        · obtain ⟨els, k1, k2⟩ := hget n c hn q1
          obtain ⟨_, b', els', k3, k4, k5, _⟩ := hback n _ k1
          rw [q1] at k3
          injection k3 with k3
          subst k3
          injection k4 with _ _ k4
          subst k4
          exact .inr (.inr ⟨n, _, k1, hne k5.symm q2, q3, q4⟩)
        · exact .inr (.inl (q4 ▸ old n c q1 q2 (by omega)))
    · exact .inr (.inl (old n b k2 k3 k1))
  · obtain ⟨n, hn⟩ := List.getElem?_of_mem hc
    obtain ⟨_, b, els, _, rfl, _⟩ := hback n c hn
    rfl
  · have hown : ∀ (n ver : Nat) (u : Value) (b : Blk), n < X.nr → Cell0 ρ (.own n ver) u → ρ.h[n]? = some b → b.ver = ver → Res1 ⟨ρ.w, ρ.φ, outZ ρ X.nr, bs⟩ (.own n ver) u := by
      intro n ver u b hn hc hb hv
      obtain ⟨els, k1, k2⟩ := hget n b hn hb
      obtain ⟨_, b', els', k3, k4, k5, _⟩ := hback n _ k1
      rw [hb] at k3
      injection k3 with k3
      subst k3
      injection k4 with _ _ k4
      subst k4
      refine .inl ⟨n, ver, _, rfl, ?_, k1, hv⟩
      obtain ⟨o1, b', hb', g1, g2, g3⟩ := hc
      rw [hb] at hb'
      injection hb' with hb'
      subst hb'
      refine ⟨o1, _, k1, g1, g2, fun e => ?_⟩
      obtain ⟨a, cap, r1, r2, r3, r4, r5⟩ := g3 e
      refine ⟨a, cap, by show u = .slice a els.length cap; rw [k5]; exact r1, by show els.length ≤ _; rw [k5]; exact r2, by show els.length ≤ _; rw [k5]; exact r3, fun h0 => r4 ?_, fun h0 => r5 (hne k5 h0)⟩
      exact List.eq_nil_of_length_eq_zero (by rw [← k5]; exact congrArg List.length h0)
    have := resVs_ok (bs' := bs) ho h2 h4 hown
    match vs', us, this with
    | [], us, this =>
      obtain rfl : us = [] := this
      exact .inr ⟨[], #[], rfl, rfl, rfl⟩
    | [v], us, this =>
      obtain ⟨u, r, rfl, h5, h6⟩ := this
      obtain rfl : r = [] := h6
      exact .inl h5
    | v :: v2 :: vs', us, this =>
      obtain ⟨u, r, rfl, h5, u2, r2, rfl, h6⟩ := id this
      exact .inr ⟨_, _, rfl, rfl, this⟩
end
end Go.Proofs.Ytiibidadpgknjaa.Fi
