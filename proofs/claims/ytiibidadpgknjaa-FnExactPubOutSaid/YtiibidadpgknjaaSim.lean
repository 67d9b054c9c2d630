/- A body's run in the machine, by the todo list. -/
import Derived.Calls
import Derived.Test.YtiibidadpgknjaaFi
namespace Go.Proofs.Ytiibidadpgknjaa.Fi
open Go

/-- The call comes to its end from here. -/
def Runs (P : Program) (b : Frame) (todo : List Item) (a : Act) (w : World) (R : Ending → World → Prop) : Prop :=
  ∀ cs, ∃ e w' fr, R e w' ∧ Comes P (lone (b.at a todo) cs w) (lone fr cs w') e ∧ fr.fn = b.fn ∧ fr.leaving P w' e

section
variable {P : Program} {b : Frame} {a : Act} {w : World} {k : List Item} {R : Ending → World → Prop}

theorem Runs.mono {R' : Ending → World → Prop} {todo : List Item} (h : Runs P b todo a w R) (hr : ∀ e w', R e w' → R' e w') : Runs P b todo a w R' :=
  fun cs => let ⟨e, w', fr, r, rest⟩ := h cs; ⟨e, w', fr, hr _ _ r, rest⟩
theorem Runs.steps {todo todo' : List Item} {a' : Act} {w' : World} (hs : ∀ cs, Steps P (lone (b.at a todo) cs w) (lone (b.at a' todo') cs w')) (h : Runs P b todo' a' w' R) : Runs P b todo a w R :=
  fun cs => let ⟨e, w'', fr, r, c, rest⟩ := h cs; ⟨e, w'', fr, r, Comes.of_steps (hs cs) c, rest⟩
theorem runs_skip (h : Runs P b k a w R) : Runs P b (.code .skip :: k) a w R := h.steps fun _ => .one step_skip
theorem runs_label {l : Nat} (h : Runs P b k a w R) : Runs P b (.code (.label l) :: k) a w R := h.steps fun _ => .one step_label
theorem runs_inBlock {id : Nat} (h : Runs P b k a w R) : Runs P b (.inBlock id :: k) a w R := h.steps fun _ => .one step_inBlock
theorem runs_seq {x y : Code} (h : Runs P b (.code x :: .code y :: k) a w R) : Runs P b (.code (.seq x y) :: k) a w R := h.steps fun _ => .one step_seq
theorem runs_cond {c : Operand} {x y : Code} {t : Bool} (ht : a.eval c = .bool t) (h : Runs P b (.code (if t then x else y) :: k) a w R) : Runs P b (.code (.cond c x y) :: k) a w R := h.steps fun _ => .one (step_cond ht)
theorem runs_block {id : Nat} {c : Code} (h : Runs P b (.code c :: .inBlock id :: k) a w R) : Runs P b (.code (.block id c) :: k) a w R := h.steps fun _ => .one step_block
theorem runs_loop {c : Code} (h : Runs P b (.code c :: .inLoop c :: k) a w R) : Runs P b (.code (.loop c) :: k) a w R := h.steps fun _ => .one step_loop
theorem runs_inLoop {c : Code} (h : Runs P b (.code c :: .inLoop c :: k) a w R) : Runs P b (.inLoop c :: k) a w R := h.steps fun _ => .one step_inLoop
theorem runs_exit {id : Nat} {k' : List Item} (he : exitTo id k = some k') (h : Runs P b k' a w R) : Runs P b (.code (.exit id) :: k) a w R := h.steps fun _ => .one (step_exit he)

/-- The results at hand. -/
theorem runs_leave {todo : List Item} {fn : Func} {v : Value} (hk : b.kind = .normal) (hf : P.funcs[b.fn]? = some fn) (hd : a.defers = []) (hr : (results fn a.tmps).run P w = .ok v w) (hR : R (.returned v) w)
    (hs : ∀ cs, Steps P (lone (b.at a todo) cs w) (lone { b.at a todo with mode := .returning } cs w)) : Runs P b todo a w R :=
  fun cs => ⟨.returned v, w, _, hR, hs cs, rfl, rfl, hd, hk, fn, hf, hr⟩
theorem runs_ret {fn : Func} {v : Value} (hk : b.kind = .normal) (hf : P.funcs[b.fn]? = some fn) (hd : a.defers = []) (hr : (results fn a.tmps).run P w = .ok v w) (hR : R (.returned v) w) : Runs P b (.code .ret :: k) a w R :=
  runs_leave hk hf hd hr hR fun _ => .one step_ret
theorem runs_end {fn : Func} {v : Value} (hk : b.kind = .normal) (hf : P.funcs[b.fn]? = some fn) (hd : a.defers = []) (hr : (results fn a.tmps).run P w = .ok v w) (hR : R (.returned v) w) : Runs P b [] a w R :=
  runs_leave hk hf hd hr hR fun _ => .one step_end

/-- A region's operations in a given order. -/
theorem runs_ops {ops : Array Oper} {l : List Nat} (h : wpOps P ops (fun e a w => e = .normal ∧ Runs P b k a w R) l a w) : Runs P b (.inRegion ops l :: k) a w R := by
  intro cs
  obtain ⟨e, a', w', ⟨rfl, hq⟩, harr⟩ := wp_ops l a w h b k cs
  obtain ⟨e, w'', fr, r, c, rest⟩ := hq cs
  exact ⟨e, w'', fr, r, Comes.of_steps harr c, rest⟩
theorem runs_region {ops : Array Oper} {id : Nat} (h : Runs P b (.inRegion ops (List.range ops.size) :: k) a w R) : Runs P b (.code (.region id ops false) :: k) a w R := h.steps fun _ => .one step_region
theorem runs_region_draw {ops : Array Oper} {id : Nat} (h : ∀ t, Runs P b (.inRegion ops (Region.schedule (P.follows .mixedOrders) ops t) :: k) a { w with drawn := w.drawn + 1 } R) : Runs P b (.code (.region id ops true) :: k) a w R :=
  Runs.steps (fun _ => .one step_region_draw) (h _)
theorem calls_of_runs {f : FuncId} {fn : Func} {c : Code} {args : Array Value} (hf : P.funcs[f]? = some fn) (hb : fn.body = some c)
    (h : Runs P { (default : Frame) with fn := f, kind := .normal } [.code c] { tmps := args ++ Array.replicate (fn.ntmps - args.size) undef, defers := [] } w R) : Calls P f args w R := by
  intro cs
  have henter : Frame.enter P f args .normal =
      ({ (default : Frame) with fn := f, kind := .normal } : Frame).at { tmps := args ++ Array.replicate (fn.ntmps - args.size) undef, defers := [] } [.code c] := by
    simp [Frame.enter, Frame.at, hf, hb]
  rw [henter]
  exact h cs
end
end Go.Proofs.Ytiibidadpgknjaa.Fi
