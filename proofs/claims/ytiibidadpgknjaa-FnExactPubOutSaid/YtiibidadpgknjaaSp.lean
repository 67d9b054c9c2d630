/- An operation that calls nothing: its answer parted from what comes behind it. -/
import Derived.Test.YtiibidadpgknjaaRel
namespace Go.Proofs.Ytiibidadpgknjaa.Fi
open Go

abbrev Hand := AV × List Blk × Bool
def hand (v : AV) (h : List Blk) (l : Bool) : Option Hand := some (v, h, l)
def Sp {β : Type} (x : Option Hand) (K : AV → List Blk → Bool → Option β) (r : β) : Prop := ∃ p, x = some p ∧ K p.1 p.2.1 p.2.2 = some r
theorem sp_hand {β : Type} {v : AV} {h : List Blk} {l : Bool} {K : AV → List Blk → Bool → Option β} {r : β} (e : K v h l = some r) : Sp (hand v h l) K r := ⟨(v, h, l), rfl, e⟩
theorem bind_sp {α β : Type} {o : Option α} {G : α → Option β} {G' : α → Option Hand} {K : AV → List Blk → Bool → Option β} {r : β} (h : o.bind G = some r) (hG : ∀ a, G a = some r → Sp (G' a) K r) :
    Sp (o.bind G') K r := by
  cases o with
  | none => cases h
  | some a => exact hG a h
theorem cond_sp {β : Type} {b : Bool} {x y : Option β} {x' y' : Option Hand} {K : AV → List Blk → Bool → Option β} {r : β} (h : cond b x y = some r) (hx : x = some r → Sp x' K r) (hy : y = some r → Sp y' K r) :
    Sp (cond b x' y') K r := by
  cases b
  · exact hy h
  · exact hx h

theorem loadE_sp {β : Type} {X : Ctx} {h : List Blk} {T : Nat} {a : AV} {G : AV → Option β} {G' : AV → Option Hand} {K : AV → List Blk → Bool → Option β} {r : β}
    (e : loadE X h T a G = some r) (hK : ∀ v, G v = some r → Sp (G' v) K r) : Sp (loadE X h T a G') K r := by
  unfold loadE at e ⊢
  split at e
  · exact bind_sp e fun b e => bind_sp e fun x e => cond_sp e (hK _) (fun e => by cases e)
  · exact cond_sp e (hK _) (fun e => by cases e)
  · cases e

theorem storeE_sp {β : Type} {X : Ctx} {h : List Blk} {leak : Bool} {K : AV → List Blk → Bool → Option β} {T : Nat} {a x : AV} {r : β}
    (e : storeE X h leak K T a x = some r) : Sp (storeE X h leak hand T a x) K r := by
  unfold storeE at e ⊢
  refine cond_sp e (fun e => by cases e) (fun e => ?_)
  split at e
  · refine bind_sp e fun b e => ?_
    obtain ⟨sz, ty, els, box, rf, fz, ver⟩ := b
    refine bind_sp e fun y e => ?_
    simp only [forceV_eq] at e ⊢
    exact cond_sp e sp_hand (fun e => by cases e)
  · cases e

theorem appendE_sp {β : Type} {X : Ctx} {h : List Blk} {leak : Bool} {K : AV → List Blk → Bool → Option β} {T : Nat} {a x : AV} {r : β}
    (e : appendE X h leak K T a x = some r) : Sp (appendE X h leak hand T a x) K r := by
  unfold appendE at e ⊢
  split at e
  · refine bind_sp e fun p e => ?_
    obtain ⟨sz, xs, rf⟩ := p
    refine cond_sp e (fun e => ?_) (fun e => by cases e)
    split at e
    · exact cond_sp e sp_hand (fun e => by cases e)
    · refine bind_sp e fun b e => ?_
      obtain ⟨bsz, bty, els, box, brf, fz, bver⟩ := b
      exact cond_sp e sp_hand (fun e => by cases e)
    · refine bind_sp e fun b e => ?_
      obtain ⟨bsz, bty, els, box, brf, fz, bver⟩ := b
      exact cond_sp e sp_hand (fun e => by cases e)
    · cases e
  · cases e

theorem clearE_sp {β : Type} {X : Ctx} {h : List Blk} {leak : Bool} {K : AV → List Blk → Bool → Option β} {esz ety : Nat} {x : AV} {r : β}
    (e : clearE X h leak K esz ety x = some r) : Sp (clearE X h leak hand esz ety x) K r := by
  unfold clearE at e ⊢
  refine cond_sp e (fun e => by cases e) (fun e => ?_)
  split at e
  · exact sp_hand e
  · refine bind_sp e fun b e => ?_
    obtain ⟨bsz, bty, els, box, brf, fz, bver⟩ := b
    exact cond_sp e sp_hand (fun e => by cases e)
  · refine bind_sp e fun b e => ?_
    obtain ⟨bsz, bty, els, box, brf, fz, bver⟩ := b
    exact cond_sp e sp_hand (fun e => by cases e)
  · cases e

theorem op1_sp {β : Type} {X : Ctx} {t : Nat → AV} {h : List Blk} {leak : Bool} {K : AV → List Blk → Bool → Option β} {mk : Bool} {ty : Nat} {o : Op} {r : β}
    (e : op1 X t h leak K mk ty o = some r) : Sp (op1 X t h leak hand mk ty o) K r := by
  unfold op1 at e ⊢
  split at e
  · exact sp_hand e
  · refine cond_sp e (fun e => ?_) sp_hand
    split at e <;> exact sp_hand e
  · simp only [forceV_eq] at e ⊢; exact cond_sp e sp_hand (fun e => by cases e)
  · simp only [forceV_eq] at e ⊢; exact cond_sp e sp_hand (fun e => by cases e)
  · split at e
    · exact cond_sp e (fun e => bind_sp e fun p e => sp_hand e) (fun e => by cases e)
    · cases e
  · split at e
    · refine bind_sp e fun l e => ?_
      simp only [forces_eq] at e ⊢
      refine cond_sp e (fun e => ?_) (fun e => by cases e)
      split at e
      · exact sp_hand e
      · exact cond_sp e sp_hand sp_hand
    · cases e
  · exact loadE_sp e fun v e => sp_hand e
  · exact storeE_sp e
  · split at e
    · exact bind_sp e fun b e => sp_hand e
    · exact sp_hand e
    · cases e
  · exact bind_sp e fun p e => sp_hand e
  · exact bind_sp e fun p e => sp_hand e
  · exact bind_sp e fun p e => sp_hand e
  · split at e
    · simp only [forces_eq] at e ⊢; exact cond_sp e (fun e => by cases e) sp_hand
    · cases e
  · split at e
    · exact bind_sp e fun n e => bind_sp e fun m e => cond_sp e sp_hand (fun e => by cases e)
    · cases e
  · exact bind_sp e fun p e => sp_hand e
  · exact cond_sp e sp_hand (fun e => by cases e)
  · refine bind_sp e fun p e => ?_
    split at e
    · exact bind_sp e fun b e => sp_hand e
    · exact sp_hand e
    · cases e
  · refine bind_sp e fun p e => ?_
    split at e
    · exact cond_sp e sp_hand (fun e => by cases e)
    · cases e
  · split at e
    · refine bind_sp e fun p e => ?_
      split at e
      · exact cond_sp e (fun e => bind_sp e fun p e => sp_hand e) (fun e => by cases e)
      · exact bind_sp e fun b e => cond_sp e sp_hand (fun e => by cases e)
      · exact bind_sp e fun b e => cond_sp e sp_hand (fun e => by cases e)
      · cases e
    · cases e
  · split at e
    · exact cond_sp e (fun e => by cases e) (fun e => bind_sp e fun p e => cond_sp e (fun e => bind_sp e fun p e => sp_hand e) (fun e => by cases e))
    · cases e
  · exact bind_sp e fun p e => bind_sp e fun p e => sp_hand e
  · split at e
    · split at e
      · exact bind_sp e fun p e => sp_hand e
      · cases e
    · split at e
      · exact cond_sp e (fun e => appendE_sp e) (fun e => by cases e)
      · cases e
    · split at e
      · split at e
        · exact clearE_sp e
        · cases e
      · cases e
    · split at e
      · exact bind_sp e fun p e => bind_sp e fun p e => cond_sp e sp_hand (fun e => by cases e)
      · cases e
    · split at e
      · exact bind_sp e fun p e => bind_sp e fun p e => cond_sp e sp_hand (fun e => by cases e)
      · cases e
    · cases e
  · cases e

end Go.Proofs.Ytiibidadpgknjaa.Fi
