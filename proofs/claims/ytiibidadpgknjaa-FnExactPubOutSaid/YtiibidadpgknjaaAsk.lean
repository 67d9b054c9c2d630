/- A call's answer at its caller. -/
import Derived.Test.YtiibidadpgknjaaRet
namespace Go.Proofs.Ytiibidadpgknjaa.Fi
open Go

section
variable {P : Program} {X : Ctx} {ρ : R}

theorem anyLst_mem : ∀ {l : List AV}, anyLst l = false → ∀ v ∈ l, isLst v = false
  | [], _, _, h => by cases h
  | c :: cs, h, d, hd => by
    simp only [anyLst, Bool.or_eq_false_iff] at h
    rcases List.mem_cons.1 hd with rfl | hd
    · exact h.1
    · exact anyLst_mem h.2 d hd
theorem rr_nolst {w : World} {Z Z' : Nat → Prop} {v : AV} {us : List Value} (h : RR w Z v us) (hl : anyLst (cells v) = false) : RR w Z' v us := by
  have one : ∀ {c : AV} {u : Value}, RR w Z c [u] → isCell c = true → isLst c = false → RR w Z' c [u] := by
    intro c u h hc hl
    cases h with
    | bool b => exact .bool b
    | int k n h => exact .int k n h
    | str s h => exact .str s h
    | agg => cases hc
    | lst0 => cases hl
    | lst => cases hl
  cases h with
  | bool b => exact .bool b
  | int k n h => exact .int k n h
  | str s h => exact .str s h
  | agg cs us hlen hc h => exact .agg cs us hlen hc fun i c u h1 h2 => one (h i c u h1 h2) (hc c (List.mem_of_getElem? h1)) (anyLst_mem hl c (List.mem_of_getElem? h1))
  | lst0 => cases hl
  | lst => cases hl

/-- A result, named as the caller has it. -/
theorem back1_val {ρ' : R} {raws ns : List Nat} {fixs : List Bool} {h h1 h2 : List Blk} {Zx : Nat → Prop} {φ : Nat → Nat} {v v' : AV} {u : Value} (hnd : Nodup' raws) (hput : putRaws h raws fixs ρ'.h = some h1)
    (hat : ∀ n, h2[n]? = (h1[n]?).map (fzAt ns n)) (hz : (∀ k, ρ'.Z k → Zx k) ∨ anyLst (cells v') = false) (hv : Res1 ρ' v u) (hb : rawBack1 h1 raws v = some v') :
    ValR ⟨ρ'.w, backP raws φ ρ'.φ, Zx, h2⟩ v' u ∧ ∀ l, v' ≠ .tup l := by
  have hrr : ∀ {us}, RR ρ'.w ρ'.Z v' us → RR ρ'.w Zx v' us := fun h => by
    rcases hz with hz | hz
    · exact h.mono hz (fun _ _ => rfl)
    · exact rr_nolst h hz
  rcases hv with ⟨i, ver, b, rfl, hc, hb1, hv⟩ | ⟨cs, us, rfl, rfl, hr⟩ | ⟨hc, hr⟩
  · simp only [rawBack1] at hb
    obtain ⟨n, h3, h4⟩ := bind_some hb
    obtain ⟨bb, h5, h6⟩ := bind_some h4
    injection h6 with h6
    subst h6
    have hin := nth_some h3
    obtain ⟨_, _, r3⟩ := putRaws_ok hnd hput
    obtain ⟨b', c, ver', q1, q2, q3, q4, q5⟩ := r3 i n hin
    rw [hb1] at q1
    injection q1 with q1
    subst q1
    have h5' := nth_some h5
    rw [q3] at h5'
    injection h5' with h5'
    subst h5'
    obtain ⟨o1, b2, hb2, g1, g2, g3⟩ := hc
    rw [hb1] at hb2
    injection hb2 with hb2
    subst hb2
    obtain ⟨a, cap, k1, k2, k3, k4, k5⟩ := g3 hv.symm
    refine ⟨(show Cell0 ⟨ρ'.w, backP raws φ ρ'.φ, Zx, h2⟩ (.own n ver') u from ⟨o1, fzAt ns n { b with ver := ver' }, by show h2[n]? = _; rw [hat, q3]; rfl, by rw [fzAt_ver]; exact Nat.le_refl _, by rw [fzAt_box]; exact g2, fun _ => ?_⟩), by simp⟩
    simp only [fzAt_els, fzAt_sz]
    refine ⟨a, cap, k1, k2, k3, k4, fun h0 => ?_⟩
    rw [back_raw hnd hin]
    exact k5 h0
  · simp only [rawBack1] at hb
    injection hb with hb
    subst hb
    exact ⟨rr_val (ρ := ⟨ρ'.w, backP raws φ ρ'.φ, Zx, h2⟩) (.inl ⟨cs, us, rfl, rfl, hrr hr⟩), by simp⟩
  · have : v' = v := by
      cases v with
      | own n ver => cases hr
      | _ => simp only [rawBack1] at hb; injection hb with hb; exact hb.symm
    subst this
    exact ⟨rr_val (ρ := ⟨ρ'.w, backP raws φ ρ'.φ, Zx, h2⟩) (.inr ⟨hc, hrr hr⟩), fun l e => by rw [e] at hc; cases hc⟩

theorem backL_val {ρ' : R} {raws ns : List Nat} {fixs : List Bool} {h h1 h2 : List Blk} {Zx : Nat → Prop} {φ : Nat → Nat} (hnd : Nodup' raws) (hput : putRaws h raws fixs ρ'.h = some h1)
    (hat : ∀ n, h2[n]? = (h1[n]?).map (fzAt ns n)) : ∀ {vs vs' : List AV} {us : List Value}, (∀ k, ρ'.Z k → Zx k) ∨ hasL.tupL vs' = false → ResL ρ' vs us → rawBackL h1 raws vs = some vs' →
    Vals1 ⟨ρ'.w, backP raws φ ρ'.φ, Zx, h2⟩ vs' us
  | [], vs', us, _, hv, hb => by
    simp only [rawBackL] at hb
    injection hb with hb
    subst hb
    exact hv
  | v :: vs, vs', us, hz, ⟨u, r, e, hv, hvs⟩, hb => by
    simp only [rawBackL] at hb
    obtain ⟨a, h3, h4⟩ := bind_some hb
    obtain ⟨l, h5, h6⟩ := bind_some h4
    injection h6 with h6
    subst h6
    have hz1 : (∀ k, ρ'.Z k → Zx k) ∨ anyLst (cells a) = false := hz.imp id fun h => by simp only [hasL.tupL, Bool.or_eq_false_iff] at h; exact h.1
    have hz2 : (∀ k, ρ'.Z k → Zx k) ∨ hasL.tupL l = false := hz.imp id fun h => by simp only [hasL.tupL, Bool.or_eq_false_iff] at h; exact h.2
    obtain ⟨q1, q2⟩ := back1_val (φ := φ) hnd hput hat hz1 hv h3
    exact ⟨u, r, e, (valR_eq q2).1 q1, backL_val hnd hput hat hz2 hvs h5⟩

theorem back_val {ρ' : R} {raws ns : List Nat} {fixs : List Bool} {h h1 h2 : List Blk} {Zx : Nat → Prop} {φ : Nat → Nat} {v v' : AV} {u : Value} (hnd : Nodup' raws) (hput : putRaws h raws fixs ρ'.h = some h1)
    (hat : ∀ n, h2[n]? = (h1[n]?).map (fzAt ns n)) (hz : (∀ k, ρ'.Z k → Zx k) ∨ hasL v' = false) (hv : ResV ρ' v u) (hb : rawBack h1 raws v = some v') :
    ValR ⟨ρ'.w, backP raws φ ρ'.φ, Zx, h2⟩ v' u := by
  rcases hv with hv | ⟨vs, us, rfl, rfl, hv⟩
  · have hb' : rawBack1 h1 raws v = some v' := by
      cases v with
      | tup vs => rcases hv with ⟨_, _, _, e, _⟩ | ⟨_, _, e, _⟩ | ⟨hc, _⟩ <;> first | (cases e; done) | cases hc
      | _ => exact hb
    have hz' : (∀ k, ρ'.Z k → Zx k) ∨ anyLst (cells v') = false := by
      refine hz.imp id fun h => ?_
      cases v' with
      | agg cs => exact h
      | tup vs => rfl
      | _ => simp only [hasL] at h; simp only [cells, anyLst, h]; rfl
    exact (back1_val hnd hput hat hz' hv hb').1
  · simp only [rawBack] at hb
    obtain ⟨l, h3, h4⟩ := bind_some hb
    injection h4 with h4
    subst h4
    exact ⟨us, rfl, backL_val hnd hput hat (hz.imp id fun h => h) hv h3⟩

theorem bnd0 {e : AV} (h : valRef e = false) : bnd e = 0 := by
  have hm := hasRefs_mem (show hasRefs (cells e) = false from h)
  have one : ∀ {c : AV}, hasRef c = false → bnd1 c = 0 := by intro c hc; cases c <;> first | rfl | cases hc
  cases e with
  | agg cs =>
    show bnds cs = 0
    have : ∀ {l : List AV}, (∀ c ∈ l, hasRef c = false) → bnds l = 0 := by
      intro l
      induction l with
      | nil => intro _; rfl
      | cons c l ih => intro h; simp [bnds, one (h c (by simp)), ih (fun d hd => h d (by simp [hd]))]
    exact this hm
  | fn f cap => cases hm _ (List.mem_cons_self ..)
  | _ => exact one (hm _ (List.mem_cons_self ..))
theorem bndAll0 : ∀ {l : List AV}, (∀ e ∈ l, valRef e = false) → bndAll l = 0
  | [], _ => rfl
  | e :: l, h => by
    have h1 := bnd0 (h e (List.mem_cons_self ..))
    have h2 := bndAll0 (fun d hd => h d (List.mem_cons_of_mem _ hd))
    show Nat.max (bnd e) (bndAll l) = 0
    rw [h1, h2]; rfl
theorem Lk.refl (h : List Blk) : Lk h h := fun n b b' h1 h2 => by rw [h1] at h2; cases h2; exact Nat.le_refl _

end
end Go.Proofs.Ytiibidadpgknjaa.Fi
