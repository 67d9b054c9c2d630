/- What an operation lets its caller's blocks name. -/
import Derived.Test.YtiibidadpgknjaaAsk
namespace Go.Proofs.Ytiibidadpgknjaa.Fi
open Go

section
variable {P : Program} {X : Ctx} {ρ : R}

/-- The first nr blocks name no more than they did. -/
def LkN (nr : Nat) (h h' : List Blk) : Prop := ∀ (n : Nat) (b b' : Blk), n < nr → h[n]? = some b → h'[n]? = some b' → bndAll b'.els ≤ bndAll b.els
theorem LkN.refl (nr : Nat) (h : List Blk) : LkN nr h h := fun n b b' _ h1 h2 => by rw [h1] at h2; cases h2; exact Nat.le_refl _
theorem LkN.push (nr : Nat) (h : List Blk) (x : Blk) : LkN nr h (push h x) := fun n b b' _ h1 h2 => by
  unfold Fi.push at h2
  rw [List.getElem?_append_left (List.getElem?_eq_some_iff.1 h1).1, h1] at h2
  cases h2
  exact Nat.le_refl _
theorem LkN.upd {nr : Nat} {h : List Blk} {n : Nat} {b x : Blk} (hb : h[n]? = some b) (hx : n < nr → bndAll x.els ≤ bndAll b.els) : LkN nr h (updAt h n x) := fun m c c' hm h1 h2 => by
  rw [updAt_eq] at h2
  by_cases hmn : n = m
  · subst hmn
    rw [List.getElem?_set_self (List.getElem?_eq_some_iff.1 hb).1] at h2
    rw [hb] at h1
    cases h1
    cases h2
    exact hx hm
  · rw [List.getElem?_set_ne hmn, h1] at h2
    cases h2
    exact Nat.le_refl _

def Lh (nr : Nat) (h : List Blk) (l : Bool) (x : Option Hand) : Prop := ∀ v h' l', x = some (v, h', l') → l' = false → l = false ∧ LkN nr h h'
theorem lh_hand {nr : Nat} {v : AV} {h : List Blk} {l : Bool} : Lh nr h l (hand v h l) := by
  rintro v' h' l' e hl
  injection e with e
  injection e with e1 e2
  injection e2 with e2 e3
  subst e2 e3
  exact ⟨hl, LkN.refl _ _⟩
theorem lh_push {nr : Nat} {v : AV} {h : List Blk} {l : Bool} {x : Blk} : Lh nr h l (hand v (push h x) l) := by
  rintro v' h' l' e hl
  injection e with e
  injection e with e1 e2
  injection e2 with e2 e3
  subst e2 e3
  exact ⟨hl, LkN.push _ _ _⟩
theorem lh_upd {nr : Nat} {v : AV} {h : List Blk} {l r : Bool} {n : Nat} {b x : Blk} (hb : h[n]? = some b) (hx : r = false → n < nr → bndAll x.els ≤ bndAll b.els) : Lh nr h l (hand v (updAt h n x) (l || (r && Nat.blt n nr))) := by
  rintro v' h' l' e hl
  injection e with e
  injection e with e1 e2
  injection e2 with e2 e3
  subst e2 e3
  simp only [Bool.or_eq_false_iff, Bool.and_eq_false_iff] at hl
  refine ⟨hl.1, LkN.upd hb fun hn => ?_⟩
  rcases hl.2 with h | h
  · exact hx h hn
  · rw [(Nat.blt_eq ▸ hn : Nat.blt n nr = true)] at h; cases h
theorem lh_none {nr : Nat} {h : List Blk} {l : Bool} : Lh nr h l none := by rintro _ _ _ e; cases e
theorem lh_bind {α : Type} {nr : Nat} {h : List Blk} {l : Bool} {o : Option α} {G : α → Option Hand} (hG : ∀ a, o = some a → Lh nr h l (G a)) : Lh nr h l (o.bind G) := by
  cases o with
  | none => exact lh_none
  | some a => exact hG a rfl
theorem lh_cond {nr : Nat} {h : List Blk} {l b : Bool} {x y : Option Hand} (hx : Lh nr h l x) (hy : Lh nr h l y) : Lh nr h l (cond b x y) := by
  cases b
  · exact hy
  · exact hx

/-! ### Bounds -/

theorem bnds_le {m : Nat} : ∀ {l : List AV}, bnds l ≤ m ↔ ∀ c ∈ l, bnd1 c ≤ m
  | [] => by simp [bnds]
  | c :: l => by
    show Nat.max (bnd1 c) (bnds l) ≤ m ↔ _
    rw [Nat.max_le, bnds_le]
    simp
theorem bndAll_le {m : Nat} : ∀ {l : List AV}, bndAll l ≤ m ↔ ∀ c ∈ l, bnd c ≤ m
  | [] => by simp [bndAll]
  | c :: l => by
    show Nat.max (bnd c) (bndAll l) ≤ m ↔ _
    rw [Nat.max_le, bndAll_le]
    simp
theorem bnd1_0 {c : AV} (hc : hasRef c = false) : bnd1 c = 0 := by cases c <;> first | rfl | cases hc
theorem bnd_cell {c : AV} (hc : hasRef c = false) : bnd c = 0 := by cases c <;> first | rfl | cases hc
theorem mem_take_drop {α : Type} {l : List α} {a b : Nat} {x : α} : (x ∈ takeN a l ∨ x ∈ dropN b l) → x ∈ l := by
  rw [takeN_eq, dropN_eq]
  rintro (h | h)
  · exact List.mem_of_mem_take h
  · exact List.mem_of_mem_drop h

theorem setPart_bnd {m : Nat} {e : AV} {off : Nat} {xs : List AV} (he : bnd e ≤ m) (hx : ∀ c ∈ xs, hasRef c = false) : bnd (setPart e off xs) ≤ m := by
  unfold setPart
  split
  · rename_i cs
    have hc := bnds_le.1 (show bnds cs ≤ m from he)
    have : ∀ c ∈ splice cs off xs, bnd1 c ≤ m := by
      intro c hc'
      rcases mem_splice hc' with h | h
      · exact hc c h
      · rw [bnd1_0 (hx c h)]; exact Nat.zero_le _
    cases hb : Nat.beq off 0 && Nat.beq xs.length cs.length with
    | true => exact bnds_le.2 fun c hc => by rw [bnd1_0 (hx c hc)]; exact Nat.zero_le _
    | false => exact bnds_le.2 this
  · unfold nthD
    rw [nth_eq]
    cases h0 : xs[0]? with
    | none => exact Nat.zero_le _
    | some c => rw [Option.getD_some, bnd_cell (hx c (List.mem_of_getElem? h0))]; exact Nat.zero_le _

theorem storeE_leak {l : Bool} {T : Nat} {a x : AV} : Lh X.nr ρ.h l (storeE X ρ.h l hand T a x) := by
  unfold storeE
  refine lh_cond lh_none ?_
  split
  · rename_i n ver idx off
    refine lh_bind fun b hb => ?_
    obtain ⟨sz, ty, els, box, rf, fz, bver⟩ := b
    refine lh_bind fun y hy => ?_
    simp only [forceV_eq]
    refine lh_cond ?_ lh_none
    refine lh_upd (blkAt_some hb).1 fun hr hn => ?_
    rw [updAt_eq]
    refine bndAll_le.2 fun c hc => ?_
    have hall := bndAll_le.1 (Nat.le_refl (bndAll els))
    rcases List.mem_or_eq_of_mem_set hc with hc | rfl
    · exact hall c hc
    · refine setPart_bnd (hall y (List.mem_of_getElem? (nth_some hy))) (hasRefs_mem ?_)
      cases box with
      | true => exact hr
      | false => exact canonV_ref hr
  · exact lh_none

theorem appendE_leak (ho : Ok ρ) {l : Bool} {T : Nat} {a x : AV} {xv : Value} (hx : ValR ρ x xv) : Lh X.nr ρ.h l (appendE X ρ.h l hand T a x) := by
  unfold appendE
  split
  · rename_i esz eb ety hk
    refine lh_bind fun p hp => ?_
    obtain ⟨sz, xs, rf⟩ := p
    have hgood : rf = false → ∀ e ∈ xs, valRef e = false := by
      split at hp
      · injection hp with hp
        injection hp with _ hp
        injection hp with hp _
        subst hp
        intro _ e he; cases he
      · rename_i s
        injection hp with hp
        injection hp with _ hp
        injection hp with hp _
        subst hp
        intro _ e he
        obtain ⟨b, _, rfl⟩ := List.mem_map.1 he
        rfl
      · exact (shown_good ho hx hp).2
    refine lh_cond ?_ lh_none
    split
    · exact lh_cond lh_push lh_none
    · refine lh_bind fun b hb => ?_
      obtain ⟨bsz, bty, els, box, brf, fz, bver⟩ := b
      refine lh_cond (lh_upd (blkAt_some hb).1 fun hr _ => ?_) lh_none
      refine bndAll_le.2 fun c hc => ?_
      rcases List.mem_append.1 hc with hc | hc
      · exact bndAll_le.1 (Nat.le_refl (bndAll els)) c hc
      · rw [bnd0 (hgood hr c hc)]; exact Nat.zero_le _
    · refine lh_bind fun b hb => ?_
      obtain ⟨bsz, bty, els, box, brf, fz, bver⟩ := b
      refine lh_cond (lh_upd (blkAt_some hb).1 fun hr _ => ?_) lh_none
      refine bndAll_le.2 fun c hc => ?_
      rcases mem_splice hc with hc | hc
      · exact bndAll_le.1 (Nat.le_refl (bndAll els)) c hc
      · rw [bnd0 (hgood hr c hc)]; exact Nat.zero_le _
    · exact lh_none
  · exact lh_none

theorem clearE_leak {l : Bool} {esz ety : Nat} {x : AV} : Lh X.nr ρ.h l (clearE X ρ.h l hand esz ety x) := by
  have up : ∀ {n ver : Nat} {bsz bty : Nat} {els : List AV} {box brf fz : Bool} {bver off len : Nat} {c : Bool}, valRef (zeroCanon X ety) = false → blkAt ρ.h n ver = some ⟨bsz, bty, els, box, brf, fz, bver⟩ →
      Lh X.nr ρ.h l (bif c then hand .undef (updAt ρ.h n ⟨bsz, bty, splice els off (List.replicate len (zeroCanon X ety)), box, brf, fz, bver⟩) l else none) := by
    intro n ver bsz bty els box brf fz bver off len c hz hb
    refine lh_cond ?_ lh_none
    have := lh_upd (nr := X.nr) (v := .undef) (l := l) (r := false) (blkAt_some hb).1 (x := ⟨bsz, bty, splice els off (List.replicate len (zeroCanon X ety)), box, brf, fz, bver⟩) fun _ _ => by
      refine bndAll_le.2 fun c hc => ?_
      rcases mem_splice hc with hc | hc
      · exact bndAll_le.1 (Nat.le_refl (bndAll els)) c hc
      · rw [(List.mem_replicate.1 hc).2, bnd0 hz]; exact Nat.zero_le _
    simpa using this
  unfold clearE
  cases hz : valRef (zeroCanon X ety) with
  | true => exact lh_none
  | false =>
    rw [cond_false]
    split
    · exact lh_hand
    · refine lh_bind fun b hb => ?_
      obtain ⟨bsz, bty, els, box, brf, fz, bver⟩ := b
      exact up hz hb
    · refine lh_bind fun b hb => ?_
      obtain ⟨bsz, bty, els, box, brf, fz, bver⟩ := b
      exact up hz hb
    · exact lh_none
theorem op1_leak (ho : Ok ρ) {t : Nat → AV} {e : Operand → Value} (he : ∀ x, ValR ρ (ev t x) (e x)) {o : Op} {mk : Bool} {ty : Nat} {l : Bool} : Lh X.nr ρ.h l (op1 X t ρ.h l hand mk ty o) := by
  unfold op1
  split
  · exact lh_hand
  · refine lh_cond ?_ lh_hand
    split
    · exact lh_push
    · exact lh_hand
  · simp only [forceV_eq]; exact lh_cond lh_push lh_none
  · simp only [forceV_eq]; exact lh_cond lh_push lh_none
  · split
    · exact lh_cond (lh_bind fun _ _ => lh_hand) lh_none
    · exact lh_none
  · split
    · refine lh_bind fun l' _ => ?_
      simp only [forces_eq]
      refine lh_cond ?_ lh_none
      split
      · exact lh_hand
      · exact lh_cond lh_push lh_hand
    · exact lh_none
  · unfold loadE
    split
    · exact lh_bind fun _ _ => lh_bind fun _ _ => lh_cond lh_hand lh_none
    · exact lh_cond lh_hand lh_none
    · exact lh_none
  · exact storeE_leak
  · split
    · exact lh_bind fun _ _ => lh_hand
    · exact lh_hand
    · exact lh_none
  · exact lh_bind fun _ _ => lh_hand
  · exact lh_bind fun _ _ => lh_hand
  · exact lh_bind fun _ _ => lh_hand
  · split
    · simp only [forces_eq]; exact lh_cond lh_none lh_hand
    · exact lh_none
  · split
    · exact lh_bind fun _ _ => lh_bind fun _ _ => lh_cond lh_push lh_none
    · exact lh_none
  · exact lh_bind fun _ _ => lh_hand
  · exact lh_cond lh_hand lh_none
  · refine lh_bind fun _ _ => ?_
    split
    · exact lh_bind fun _ _ => lh_hand
    · exact lh_hand
    · exact lh_none
  · refine lh_bind fun _ _ => ?_
    split
    · exact lh_cond lh_hand lh_none
    · exact lh_none
  · split
    · refine lh_bind fun _ _ => ?_
      split
      · exact lh_cond (lh_bind fun _ _ => lh_hand) lh_none
      · exact lh_bind fun _ _ => lh_cond lh_hand lh_none
      · exact lh_bind fun _ _ => lh_cond lh_hand lh_none
      · exact lh_none
    · exact lh_none
  · split
    · exact lh_cond lh_none (lh_bind fun _ _ => lh_cond (lh_bind fun _ _ => lh_hand) lh_none)
    · exact lh_none
  · exact lh_bind fun _ _ => lh_bind fun _ _ => lh_hand
  · split
    · split
      · exact lh_bind fun _ _ => lh_hand
      · exact lh_none
    · split
      · rename_i a x T U _ _
        exact lh_cond (appendE_leak ho (he x)) lh_none
      · exact lh_none
    · split
      · split
        · exact clearE_leak
        · exact lh_none
      · exact lh_none
    · split
      · exact lh_bind fun _ _ => lh_bind fun _ _ => lh_cond lh_hand lh_none
      · exact lh_none
    · split
      · exact lh_bind fun _ _ => lh_bind fun _ _ => lh_cond lh_hand lh_none
      · exact lh_none
    · exact lh_none
  · exact lh_none
end
end Go.Proofs.Ytiibidadpgknjaa.Fi
