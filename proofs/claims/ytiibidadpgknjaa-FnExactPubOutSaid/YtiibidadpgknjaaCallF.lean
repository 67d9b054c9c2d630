/- A call, whichever way it is made. -/
import Derived.Test.YtiibidadpgknjaaFresh
namespace Go.Proofs.Ytiibidadpgknjaa.Fi
open Go

section
variable {P : Program} {X : Ctx} {ρ : R}

theorem prep_noraw {h : List Blk} : ∀ (as : List AV) {Ts raws : List Nat} {fixs : List Bool} {as' : List AV} {raws' : List Nat} {fixs' : List Bool}, prep X h [] Ts as raws fixs = some (as', raws', fixs') → raws' = raws
  | [], Ts, raws, fixs, as', raws', fixs', e => by
    cases Ts with
    | nil =>
      simp only [prep] at e
      injection e with e
      injection e with _ e
      injection e with e _
      exact e.symm
    | cons T Ts => simp [prep] at e
  | a :: as, Ts, raws, fixs, as', raws', fixs', e => by
    cases Ts with
    | nil => simp [prep] at e
    | cons T Ts =>
      simp only [prep] at e
      obtain ⟨v, _, e⟩ := bind_some e
      obtain ⟨⟨r1, r2, r3⟩, h3, h4⟩ := bind_some e
      injection h4 with h4
      injection h4 with _ h4
      injection h4 with e2 e3
      subst e2 e3
      exact prep_noraw as h3

/-! ### What a call made -/

theorem keepB_at {ns : List Nat} : ∀ {h : List Blk} {i n : Nat}, (keepB ns i h)[n]? = (h[n]?).map fun b => bif hasN ns (i + n) then b else deadB b
  | [], i, n => by simp [keepB]
  | b :: bs, i, 0 => by simp [keepB]
  | b :: bs, i, n + 1 => by
    rw [keepB, List.getElem?_cons_succ, keepB_at, List.getElem?_cons_succ, show i + 1 + n = i + (n + 1) by omega]
theorem pureB_at {ns : List Nat} : ∀ {h : List Blk} {i n : Nat} {b : Blk}, pureB ns i h = true → h[n]? = some b → hasN ns (i + n) = true → b.rf = false ∧ dirtyEls b.els = false
  | [], i, n, b, _, hb, _ => by simp at hb
  | c :: bs, i, 0, b, h, hb, hn => by
    simp at hb
    subst hb
    rw [pureB, Nat.add_zero] at *
    rw [hn] at h
    simp at h
    exact h.1
  | c :: bs, i, n + 1, b, h, hb, hn => by
    rw [pureB, Bool.and_eq_true] at h
    exact pureB_at (n := n) h.2 (by simpa using hb) (by rw [show i + 1 + n = i + (n + 1) by omega]; exact hn)
theorem dirtyCs_mem : ∀ {cs : List AV}, dirtyCs cs = false → ∀ c ∈ cs, dirtyC c = false
  | [], _, c, hc => by cases hc
  | d :: cs, h, c, hc => by
    simp only [dirtyCs, Bool.or_eq_false_iff] at h
    rcases List.mem_cons.1 hc with rfl | hc
    · exact h.1
    · exact dirtyCs_mem h.2 c hc
theorem dirtyEls_mem : ∀ {es : List AV}, dirtyEls es = false → ∀ e ∈ es, dirtyCs (cells e) = false
  | [], _, c, hc => by cases hc
  | d :: cs, h, c, hc => by
    simp only [dirtyEls, Bool.or_eq_false_iff] at h
    rcases List.mem_cons.1 hc with rfl | hc
    · exact h.1
    · exact dirtyEls_mem h.2 c hc

section
variable {ρ1 : R} {Z2 : Nat → Prop} {ns : List Nat}
/-- The blocks that a result names. -/
def R.trim (ρ1 : R) (Z2 : Nat → Prop) (ns : List Nat) : R := ⟨ρ1.w, ρ1.φ, Z2, keepB ns 0 ρ1.h⟩
theorem cut_in {n : Nat} {b : Blk} (hn : hasN ns n = true) (hb : ρ1.h[n]? = some b) : (ρ1.trim Z2 ns).h[n]? = some b := by
  show (keepB ns 0 ρ1.h)[n]? = _
  rw [keepB_at, hb, Nat.zero_add, Option.map_some, hn]; rfl
theorem cut_cell0 {c : AV} {u : Value} (h : Cell0 ρ1 c u) (hd : dirtyC c = false) (hn : ∀ n ∈ names [c], hasN ns n = true) : Cell0 (ρ1.trim Z2 ns) c u := by
  cases c with
  | own n ver =>
    obtain ⟨o1, b, hb, hv, hx, hp⟩ := h
    exact ⟨o1, b, cut_in (hn n (by simp [names])) hb, hv, hx, hp⟩
  | sl n ver off len =>
    obtain ⟨o1, b, hb, hv, hx, hp⟩ := h
    exact ⟨o1, b, cut_in (hn n (by simp [names])) hb, hv, hx, hp⟩
  | ptr n ver idx off =>
    obtain ⟨o1, b, hb, hv, hp⟩ := h
    exact ⟨o1, b, cut_in (hn n (by simp [names])) hb, hv, hp⟩
  | nilS => exact h
  | undef => exact h
  | agg cs => exact h.elim
  | tup vs => exact h.elim
  | fn f cap => exact h.elim
  | lst sz l => cases hd
  | rptr cs off => cases hd
  | bool b =>
    have h' : RR _ _ _ _ := h
    cases h'
    exact (show RR _ _ _ _ from .bool b)
  | int k n =>
    have h' : RR _ _ _ _ := h
    cases h'
    exact (show RR _ _ _ _ from .int k n (by assumption))
  | str s =>
    have h' : RR _ _ _ _ := h
    cases h'
    exact (show RR _ _ _ _ from .str s (by assumption))
theorem cut_cell {c : AV} {u : Value} (h : CellR ρ1 c u) (hd : dirtyC c = false) (hn : ∀ n ∈ names [c], hasN ns n = true) : CellR (ρ1.trim Z2 ns) c u := by
  have hf : ∀ f cap, c ≠ .fn f cap := fun f cap e => by subst e; cases hd
  exact (cellR_eq hf).2 (cut_cell0 ((cellR_eq hf).1 h) hd hn)
theorem names_cons1 {c : AV} {cs : List AV} : ∀ n, n ∈ names (c :: cs) ↔ n ∈ names [c] ∨ n ∈ names cs := by
  intro n
  cases c <;> simp [names]
theorem cut_cells : ∀ {cs : List AV} {us : List Value}, CellsR ρ1 cs us → dirtyCs cs = false → (∀ n ∈ names cs, hasN ns n = true) → CellsR (ρ1.trim Z2 ns) cs us
  | [], _, h, _, _ => h
  | c :: cs, _, ⟨u, r, e, h1, h2⟩, hd, hn => by
    simp only [dirtyCs, Bool.or_eq_false_iff] at hd
    exact ⟨u, r, e, cut_cell h1 hd.1 (fun n h => hn n ((names_cons1 n).2 (.inl h))), cut_cells h2 hd.2 (fun n h => hn n ((names_cons1 n).2 (.inr h)))⟩
theorem cut_val1 {v : AV} {u : Value} (h : Val1 ρ1 v u) (hd : dirtyCs (cells v) = false) (hn : ∀ n ∈ names (cells v), hasN ns n = true) : Val1 (ρ1.trim Z2 ns) v u := by
  by_cases ha : ∃ cs, v = .agg cs
  · obtain ⟨cs, rfl⟩ := ha
    obtain ⟨us, e, h⟩ := h
    exact ⟨us, e, cut_cells h hd hn⟩
  · have ha' : ∀ cs, v ≠ .agg cs := fun cs h => ha ⟨cs, h⟩
    by_cases hu : v = .undef
    · subst hu; trivial
    · have hc : cells v = [v] := by cases v <;> first | rfl | exact absurd rfl (ha' _)
      rw [hc] at hd hn
      refine (val1_eq ha' hu).2 (cut_cell ((val1_eq ha' hu).1 h) (dirtyCs_mem hd v (List.mem_cons_self ..)) hn)
theorem cut_vals : ∀ {vs : List AV} {us : List Value}, Vals1 ρ1 vs us → dirtyV.tupD vs = false → (∀ n ∈ namesV.tupN vs, hasN ns n = true) → Vals1 (ρ1.trim Z2 ns) vs us
  | [], _, h, _, _ => h
  | c :: cs, _, ⟨u, r, e, h1, h2⟩, hd, hn => by
    simp only [dirtyV.tupD, Bool.or_eq_false_iff] at hd
    simp only [namesV.tupN, List.mem_append] at hn
    exact ⟨u, r, e, cut_val1 h1 hd.1 (fun n h => hn n (.inl h)), cut_vals h2 hd.2 (fun n h => hn n (.inr h))⟩
theorem made_val {v : AV} {u : Value} (hd : dirtyV v = false) (h : ValR ρ1 v u) : ValR (ρ1.trim Z2 (namesV v)) v u := by
  by_cases ht : ∃ vs, v = .tup vs
  · obtain ⟨vs, rfl⟩ := ht
    obtain ⟨us, e, h⟩ := h
    exact ⟨us, e, cut_vals h hd fun n hn => hasN_iff.2 hn⟩
  · have ht' : ∀ vs, v ≠ .tup vs := fun vs h => ht ⟨vs, h⟩
    have e1 : dirtyV v = dirtyCs (cells v) := by cases v <;> first | rfl | exact absurd rfl (ht' _)
    have e2 : namesV v = names (cells v) := by cases v <;> first | rfl | exact absurd rfl (ht' _)
    rw [e1] at hd
    exact (valR_eq ht').2 (cut_val1 ((valR_eq ht').1 h) hd fun n hn => hasN_iff.2 (by rw [e2]; exact hn))
theorem cut_elem {e : AV} {us : List Value} (h : ElemR ρ1 e us) (hd : dirtyCs (cells e) = false) (hr : valRef e = false) : ElemR (ρ1.trim Z2 ns) e us := by
  have hm := hasRefs_mem (show hasRefs (cells e) = false from hr)
  have hn0 : ∀ (c : AV), hasRef c = false → ∀ n ∈ names [c], hasN ns n = true := fun c hc n hn => by cases c <;> first | (cases hc; done) | (simp [names] at hn)
  have hd' := dirtyCs_mem hd
  cases e with
  | agg cs =>
    have h' := CellsR.iff.1 (show CellsR ρ1 cs us from h)
    exact (CellsR.iff (ρ := ρ1.trim Z2 ns)).2 ⟨h'.1, fun j c u h1 h2 => cut_cell (h'.2 j c u h1 h2) (hd' c (List.mem_of_getElem? h1)) (hn0 c (hm c (List.mem_of_getElem? h1)))⟩
  | _ =>
    obtain ⟨u, rfl, h'⟩ := (elemR_eq (by simp)).1 h
    exact (elemR_eq (by simp)).2 ⟨u, rfl, cut_cell h' (hd' _ (by simp [cells])) (hn0 _ (hm _ (by simp [cells])))⟩
end
theorem made_nx (ho : Ok ρ) {vis : List Nat} {w' : World} {φ' : Nat → Nat} {Z' : Nat → Prop} {h1 : List Blk} {ns : List Nat} (hp : pureB ns 0 h1 = true) (q : Nx (ρ.sub [] vis []) ⟨w', φ', Z', h1⟩) :
    Nx ρ.bare (R.trim ⟨w', φ', Z', h1⟩ ρ.Z ns) := by
  have hz : ∀ k, ρ.Z k → Z' k ∧ w'.heap[k]? = ρ.w.heap[k]? := fun k hk => q.le.z k (.inl hk)
  have inv : ∀ {n : Nat} {c : Blk}, (R.trim ⟨w', φ', Z', h1⟩ ρ.Z ns).h[n]? = some c → (hasN ns n = true ∧ h1[n]? = some c) ∨ (c.els = [] ∧ 0 < c.sz ∧ c.box = false) := by
    intro n c hc
    have hc' : (keepB ns 0 h1)[n]? = some c := hc
    rw [keepB_at, Nat.zero_add] at hc'
    cases hb : h1[n]? with
    | none => rw [hb] at hc'; cases hc'
    | some b =>
      rw [hb, Option.map_some] at hc'
      cases hn : hasN ns n with
      | true => rw [hn] at hc'; exact .inl ⟨rfl, hc'⟩
      | false =>
        rw [hn] at hc'
        injection hc' with hc'
        subst hc'
        exact .inr ⟨rfl, Nat.one_pos, rfl⟩
  refine ⟨⟨fun k hk => ⟨hk, (hz k hk).2⟩, fun n b hb => by cases hb⟩, ⟨fun k hk => Nat.lt_of_lt_of_le (ho.zlt k hk) q.fr.size, fun n c hc => ?_, fun n m x y hx hy hx0 hy0 hnm => ?_⟩,
    ⟨q.fr.os, q.fr.tape, q.fr.output, q.fr.size, fun k hk _ => q.fr.fr k hk (fun n b h => by cases h), fun n c hc h0 => ?_⟩, (fun n b hb => by cases hb), (fun n b hb => by cases hb), fun k hk => .inl hk⟩
  · rcases inv hc with ⟨hn, hb⟩ | ⟨he, hs, hx⟩
    · have B := q.ok.blk n c hb
      obtain ⟨hr, hd⟩ := pureB_at hp hb (by rw [Nat.zero_add]; exact hn)
      refine ⟨B.pos, B.can, B.rf, B.box, B.len, fun h0 => ?_⟩
      obtain ⟨cur, c1, c2, c3, c4⟩ := B.mem h0
      refine ⟨cur, c1, fun hf hk => c2 hf (hz _ hk).1, c3, fun i e hi => ?_⟩
      obtain ⟨us, u1, u2, u3⟩ := c4 i e hi
      have hm := List.mem_of_getElem? hi
      exact ⟨us, u1, u2, cut_elem u3 (dirtyEls_mem hd e hm) (B.rf hr e hm)⟩
    · refine ⟨hs, fun _ e h => ?_, fun _ e h => ?_, fun h => ?_, ?_, fun h => absurd he h⟩
      · rw [he] at h; cases h
      · rw [he] at h; cases h
      · rw [hx] at h; cases h
      · rw [he]; exact Nat.zero_le _
  · rcases inv hx with ⟨_, hb⟩ | ⟨he, _⟩
    · rcases inv hy with ⟨_, hc⟩ | ⟨he, _⟩
      · exact q.ok.inj n m x y hb hc hx0 hy0 hnm
      · exact absurd he hy0
    · exact absurd he hx0
  · rcases inv hc with ⟨_, hb⟩ | ⟨he, _⟩
    · rcases q.fr.nw n c hb h0 with h | ⟨b0, h, _⟩
      · exact .inl h
      · cases h
    · exact absurd he h0

/-- A call, whichever way it is made. -/
theorem callF_does {oc : Nat → List AV → List Blk → Option (AV × List Blk)} {oi : Nat → List AV → List Blk → Option Ans}
    (hoc : ∀ f as bs v bs', oc f as bs = some (v, bs') → Iso P f as bs v bs') (hoi : ∀ f as h v h' l, oi f as h = some (v, h', l) → Inl P f as h v h' l)
    {β : Type} {h : List Blk} {leak : Bool} {Ts : List Nat} {f : Nat} {as : List AV} {K : AV → List Blk → Bool → Option β} {r : β} (e : callF X oc oi h leak Ts f as K = some r) :
    ∃ v h' l', K v h' l' = some r ∧ ∀ (ρ : R) (vals : Array Value), ρ.h = h → Ok ρ → ValsR ρ as vals.toList → Calls P f vals ρ.w fun e w' => ∃ vv φ' Z', e = .returned vv ∧ Nx ρ ⟨w', φ', Z', h'⟩ ∧ ValR ⟨w', φ', Z', h'⟩ v vv ∧
      (l' = false → leak = false ∧ Lk h h') := by
  simp only [callF_def, callF0, shW_eq] at e
  cases hm : X.mode f with
  | none =>
    simp only [hm] at e
    cases har : anyRef as with
    | true =>
      rw [har] at e
      simp only [cond_true] at e
      cases hmd : X.made f with
      | true =>
        rw [hmd] at e
        obtain ⟨⟨as', raws, fixs⟩, p1, e⟩ := bind_some e
        obtain ⟨⟨v, h1, l⟩, p2, e⟩ := bind_some e
        obtain ⟨hc, e⟩ := cond_some e
        refine ⟨_, _, leak, e, ?_⟩
        rintro ρ vals rfl ho hv
        obtain ⟨_, _, hsub⟩ := prep_ok ho as hv p1 (fun i j n hi => by simp at hi)
        simp only [Bool.and_eq_true, Bool.not_eq_true'] at hc
        have hok : Ok (ρ.sub [] (visOf [] as) []) := sub_ok ho (fun i j n hi => by simp at hi) (fun n hn => by cases hn) rfl
        obtain rfl := prep_noraw as p1
        have hargs : ValsR (ρ.sub [] (visOf [] as) []) as' vals.toList := hsub _ _ _ (fun k hk => hk) fun i n b hin hb => by simp at hin
        refine (hoi f as' [] v h1 l p2 (ρ.sub [] (visOf [] as) []) vals rfl hok hargs).mono ?_
        rintro e w' ⟨vv, φ', Z', q1, q2, q3, q4⟩
        have hm := made_nx ho hc.2 q2
        have hnx := shift_nx ho hm
        refine ⟨vv, _, _, q1, hnx, shV_val (ρ := ρ) (made_val hc.1 q3), fun hl => ⟨hl, fun n b c hb hc => ?_⟩⟩
        rw [List.getElem?_append_left (List.getElem?_eq_some_iff.1 hb).1, hb] at hc
        cases hc
        exact Nat.le_refl _
      | false =>
      rw [hmd] at e
      obtain ⟨⟨v, h', l⟩, h1, h2⟩ := bind_some e
      refine ⟨v, h', leak || l, h2, fun ρ vals hh ho hv => (hoi f as h v h' l h1 ρ vals hh ho hv).mono ?_⟩
      rintro e w' ⟨vv, φ', Z', q1, q2, q3, q4⟩
      refine ⟨vv, φ', Z', q1, q2, q3, fun hl => ?_⟩
      simp only [Bool.or_eq_false_iff] at hl
      exact ⟨hl.1, q4 hl.2⟩
    | false =>
      rw [har] at e
      obtain ⟨⟨v, h1, l⟩, h2, h3⟩ := bind_some e
      refine ⟨_, _, leak, h3, ?_⟩
      rintro ρ vals rfl ho hv
      refine (hoi f as [] v h1 l h2 ρ.bare vals rfl (bare_ok ho) (anyRef_vals har hv)).mono ?_
      rintro e w' ⟨vv, φ', Z', q1, q2, q3, q4⟩
      have hnx := shift_nx ho q2
      refine ⟨vv, _, _, q1, hnx, shV_val (ρ := ρ) q3, fun hl => ⟨hl, fun n b c hb hc => ?_⟩⟩
      rw [List.getElem?_append_left (List.getElem?_eq_some_iff.1 hb).1, hb] at hc
      cases hc
      exact Nat.le_refl _
  | some ms =>
    simp only [hm] at e
    obtain ⟨⟨as', raws, fixs⟩, h1, h2⟩ := bind_some e
    obtain ⟨hap, h2⟩ := cond_some h2
    obtain ⟨bs, h3, h4⟩ := bind_some h2
    obtain ⟨⟨v, bs'⟩, h5, h6⟩ := bind_some h4
    obtain ⟨h1', h7, h8⟩ := bind_some h6
    obtain ⟨v', h9, h10⟩ := bind_some h8
    refine ⟨v', _, leak, h10, ?_⟩
    rintro ρ vals rfl ho hv
    obtain ⟨_, hnd, hsub⟩ := prep_ok ho as hv h1 (fun i j n hi => by simp at hi)
    have hap' := apartN_mem hap
    have hok := sub_ok ho (vis := visOf ms as) hnd hap' h3
    have hargs : ValsR (ρ.sub raws (visOf ms as) bs) as' vals.toList := hsub _ _ _ (fun k hk => hk) fun i n b hin hb => by
      obtain ⟨b', q1, _, _, q4⟩ := (rawBlks_ok h3).2 i n hin
      rw [hb] at q1
      injection q1 with q1
      subst q1
      exact ⟨sub_phi (vis := visOf ms as) (bs := bs) hin, q4⟩
    refine (hoc f as' bs v bs' h5 (ρ.sub raws (visOf ms as) bs) vals rfl hok hargs).mono ?_
    rintro e w' ⟨vv, φ', Z', q1, q2, q3, q4⟩
    have fin : ∀ (ns : List Nat) (h2 : List Blk) (Zx : Nat → Prop), (∀ n, h2[n]? = (h1'[n]?).map (fzAt ns n)) → (∀ n ∈ raws, n ∉ ns) → (∀ k, ρ.Z k → Zx k) → (∀ k, Zx k → Z' k) → (raws ≠ [] → ∀ k, Z' k → Zx k) →
        ((∀ k, Zx k → ρ.Z k) ∨ ns = visOf ms as) → ((∀ k, Z' k → Zx k) ∨ hasL v' = false) →
        ∃ vv φ' Z', e = .returned vv ∧ Nx ρ ⟨w', φ', Z', h2⟩ ∧ ValR ⟨w', φ', Z', h2⟩ v' vv ∧ (leak = false → leak = false ∧ Lk ρ.h h2) := by
      intro ns h2 Zx hat hns hZ1 hZ2 hZ3 hZn hzv
      have hnx := iso_nx (ρ' := ⟨w', φ', Z', bs'⟩) ho hnd hap' h3 q2 q3 h7 hat hns hZ1 hZ2 hZ3 hZn
      refine ⟨vv, _, Zx, q1, hnx, back_val (ρ' := ⟨w', φ', Z', bs'⟩) hnd h7 hat hzv q4 h9, fun hl => ⟨hl, fun n b c hb hc => ?_⟩⟩
      obtain ⟨_, r2, r3⟩ := putRaws_ok hnd h7
      by_cases hn : n ∈ raws
      · obtain ⟨i, hin⟩ := List.getElem?_of_mem hn
        obtain ⟨b1, c1, ver, k1, k2, k3, _, _⟩ := r3 i n hin
        rw [hat, k3, Option.map_some] at hc
        injection hc with hc
        subst hc
        have hb1 := q2.ok.blk i b1 k1
        rw [fzAt_els]
        show bndAll b1.els ≤ _
        rw [bndAll0 (hb1.rf (q3 b1 (List.mem_of_getElem? k1)))]
        exact Nat.zero_le _
      · rw [hat, r2 n hn, hb] at hc
        injection hc with hc
        subst hc
        rw [fzAt_els]
        exact Nat.le_refl _
    cases hfr : hasL v' || !raws.isEmpty with
    | true =>
      exact fin (visOf ms as) _ Z' (fun n => freezeE_at _ _ _) hap' (fun k hk => q2.z k (.inl hk)) (fun _ h => h) (fun _ _ h => h) (.inr rfl) (.inl fun _ h => h)
    | false =>
      simp only [Bool.or_eq_false_iff, Bool.not_eq_false', List.isEmpty_iff] at hfr
      refine fin [] _ ρ.Z (fun n => ?_) (fun _ _ h => by cases h) (fun _ h => h) (fun k hk => q2.z k (.inl hk)) (fun h => absurd hfr.2 h) (.inl fun _ h => h) (.inr hfr.1)
      simp only [cond_false]
      cases h1'[n]? <;> simp [fzAt]
end
end Go.Proofs.Ytiibidadpgknjaa.Fi
