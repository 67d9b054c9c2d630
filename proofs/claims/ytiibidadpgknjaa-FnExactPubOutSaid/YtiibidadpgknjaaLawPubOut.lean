/- Proved: for all arguments the law FnExactPubOut returns true, and both arguments read behind the call as they read before. No condition. -/
import Derived.Test.YtiibidadpgknjaaRows
import Derived.Test.YtiibidadpgknjaaGood
import Derived.Test.YtiibidadpgknjaaPubOutL
import Derived.WalkKit
import Derived.ProofKit
import Derived.OpenShut
import Derived.ShutString
import Derived.ChangeOld
import Derived.Below
import Derived.SizedLaws
namespace Go.Proofs.Ytiibidadpgknjaa.fnExactPubOut
open Go.ChangeShapes Go.WideShapes Go.ChangeAt Go.RowKit
set_option linter.unusedVariables false
theorem own : ownKnob Try.prog.godebug = none := by kernel_rfl
theorem laidOut : laidOutB Try.prog = true := by kernel_rfl
theorem shapes : Fi.shapesB Fi.E0.P [.st [.sl 16 .str], .str] [24, 9] = true := by kernel_rfl
theorem readable : ([24, 9] : List Nat).all (fun t => Try.prog.readableRec t && decide (t < Try.prog.types.size)) = true := by kernel_rfl
set_option maxRecDepth 100000 in
theorem lifted (os : Os) (started : os.Started) (H : Type) (enc : TypeId × Value → H) :
    ReturnsInHanded {} Try.checked os 3 .any (Rows.fnExactPubOutSpec.pre6 enc Try.prog Try.f3 Rows.fnExactPubOutRow.domain false) (Rows.fnExactPubOutSpec.post enc Try.prog Try.f3 false true false false) := by
  refine returnsInHanded_of_change_sized (C := Try.checked) own started (by kernel_rfl) Try.func3
    (ChangeSpec.witness6 (enc := enc) (C := Try.checked) false ⟨#[], #[.agg #[.slice none 0 0], .string ByteArray.empty], []⟩ 8 (by kernel_rfl) (by kernel_rfl) (by kernel_rfl) (by kernel_rfl)) ?_
  intro W base args ds gs before hval0 hW hcnd hsz0 _
  have hsz : (DataW.weightsEach Try.prog (Try.f3.params.toList ++ Rows.fnExactPubOutSpec.plain.varTypes Try.prog) (ds ++ gs)).all (· ≤ reachBytes) = true := hsz0
  have hval : ∀ (j : Nat) t v, Try.f3.params[j]? = some t → args[j]? = some v → Value.okWide Try.prog W .any base t v := hval0
  have hW' := hW
  obtain ⟨p, q, hA0, hV, rfl, hfz, hnd⟩ := hW
  have hA : DataW.TrodAll enc Try.prog W 0 (fun _ => true) true Try.f3.params.toList args.toList ds p := hA0
  rw [Try.params3] at hA hval hsz
  obtain ⟨v0, vs0, d0, ds0, p0, q0, hargs, rfl, rfl, h0, r0⟩ := trodAll_cons hA
  obtain ⟨v1, vs1, d1, ds1, p1, q1, rfl, rfl, rfl, h1, r1⟩ := trodAll_cons r0
  obtain ⟨rfl, rfl, rfl⟩ := trodAll_nil r1
  obtain ⟨rfl, rfl⟩ := trodVars_none hV
  have hsz1 : (DataW.weightsEach Fi.E0.P [24, 9] [d0, d1]).all (· ≤ reachBytes) = true := by
    rw [List.append_nil] at hsz
    exact hsz
  have hval1 : ∀ (j : Nat) t v, ([24, 9] : List Nat)[j]? = some t → args[j]? = some v → Value.okWide Fi.E0.P W .any base t v := fun j t v h => hval j t v (by simpa using h)
  refine (Fi.law_calls (enc := enc) (f := 3) Fi.good shapes Fi.lawPubOut hA hval1 hsz1).mono fun e W' ⟨he, bel⟩ => ?_
  subst he
  clear hA0 hval0 hsz0 hsz
  exact ⟨_, rfl, _, _, _, [], _, [], hW', trodAll_mk1 (shut_bool Try.underlying4 _), Fi.back_all laidOut readable hA bel, rfl, bel.frame _, fun h => by cases h⟩
theorem over : Rows.fnExactPubOutRow.holds Try.pinned (OpenSpec.ofChange Rows.fnExactPubOutSpec) :=
  OpenClaim.holds_of_wide 3 Try.f3 rfl rfl rfl rfl rfl rfl rfl ⟨rfl, rfl, rfl, rfl, rfl⟩ rfl rfl rfl rfl rfl (by kernel_rfl) Try.func3 (by kernel_rfl)
    (of_decide_eq_true (by kernel_rfl)) (by unfold Func.isWrapper; first | (rw [if_pos (by decide +kernel)]; kernel_rfl) | (rw [if_neg (by decide +kernel)]; exact ⟨rfl, rfl⟩))
    (fun os started H enc _ => lifted os started H enc)
theorem proved : Rows.FnExactPubOutSaid := over
#print axioms proved
end Go.Proofs.Ytiibidadpgknjaa.fnExactPubOut
namespace Go.Proofs.Ytiibidadpgknjaa
/-- The row, under a short name, for the claim. -/
theorem fnExactPubOut_holds : Rows.FnExactPubOutSaid := fnExactPubOut.proved
end Go.Proofs.Ytiibidadpgknjaa
