/- The rules by which the interpreter is walked. -/
import Derived.Test.YtiibidadpgknjaaRun
namespace Go.Proofs.Ytiibidadpgknjaa.Fi
open Go

def Wp {β : Type} (o : Option β) (Q : β → Prop) : Prop := ∃ b, o = some b ∧ Q b

theorem wp_some {β : Type} {b : β} {Q : β → Prop} (h : Q b) : Wp (some b) Q := ⟨b, rfl, h⟩
theorem wp_eq {β : Type} {o : Option β} {b : β} {Q : β → Prop} (e : o = some b) (h : Q b) : Wp o Q := ⟨b, e, h⟩
theorem wp_bind {α β : Type} {o : Option α} {a : α} {K : α → Option β} {Q : β → Prop} (e : o = some a) (h : Wp (K a) Q) : Wp (o.bind K) Q := by rw [e]; exact h
theorem wp_cond {β : Type} {b : Bool} {x y : Option β} {Q : β → Prop} (ht : b = true → Wp x Q) (hf : b = false → Wp y Q) : Wp (cond b x y) Q := by
  cases b
  · exact hf rfl
  · exact ht rfl
theorem wp_dec {β : Type} {p : Prop} [d : Decidable p] {x y : Option β} {Q : β → Prop} (ht : p → Wp x Q) (hf : ¬p → Wp y Q) : Wp (cond (decide p) x y) Q := by
  by_cases h : p
  · rw [decide_eq_true h]; exact ht h
  · rw [decide_eq_false h]; exact hf h
theorem wp_beq {β : Type} {α : Type} [DecidableEq α] {u v : α} {x y : Option β} {Q : β → Prop} (ht : u = v → Wp x Q) (hf : u ≠ v → Wp y Q) : Wp (cond (u == v) x y) Q := by
  by_cases h : u = v
  · rw [beq_iff_eq.mpr h]; exact ht h
  · rw [beq_eq_false_iff_ne.mpr h]; exact hf h
theorem wp_must {β : Type} {b : Bool} {x y : Option β} {Q : β → Prop} (hb : b = true) (h : Wp x Q) : Wp (cond b x y) Q := by rw [hb]; exact h

end Go.Proofs.Ytiibidadpgknjaa.Fi
