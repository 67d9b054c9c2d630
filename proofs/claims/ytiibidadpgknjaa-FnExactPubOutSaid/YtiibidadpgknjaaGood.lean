/- The seat's tables hold. -/
import Derived.Test.YtiibidadpgknjaaEnv
import Derived.Test.YtiibidadpgknjaaRow
import Derived.Test.YtiibidadpgknjaaEq
import Derived.KernelRfl
namespace Go.Proofs.Ytiibidadpgknjaa.Fi
open Go

theorem tab_good (f : Nat) (fn : Func) (nr : Nat) : tabB E0.P (E0.ctx f fn nr) 0 (E0.ctx f fn nr).tab = true := by kernel_rfl
theorem names_good : (Try.prog.funcs.toList.all fun fn => !(fn.name == "runtime.NumGoroutine")) = true := by kernel_rfl
theorem good : Good E0 := by
  refine ⟨fun f fn nr => tab_ok (tab_good f fn nr), fun f fn nr => eq_ok (fun T h => (by cases h)), fun f fn h e => ?_⟩
  have h' : Try.prog.funcs[f]? = some fn := h
  have hm : fn ∈ Try.prog.funcs.toList := by
    rw [← Array.getElem?_toList] at h'
    exact List.mem_of_getElem? h'
  have := List.all_eq_true.1 names_good fn hm
  rw [e] at this
  simp at this
end Go.Proofs.Ytiibidadpgknjaa.Fi
