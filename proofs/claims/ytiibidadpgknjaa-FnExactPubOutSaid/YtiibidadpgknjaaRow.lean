/- From the interpreter's answer to the row. -/
import Derived.Test.YtiibidadpgknjaaRead
import Derived.Carry
import Derived.ChangeOld
namespace Go.Proofs.Ytiibidadpgknjaa.Fi
open Go Go.RowKit

section
variable {H : Type} {enc : TypeId × Value → H} {P : Program} {W : World}

def shapesB (P : Program) : List Sh → List Nat → Bool
  | [], [] => true
  | s :: ss, t :: ts => shapeB P s t && shapesB P ss ts
  | _, _ => false

def startR (W : World) : R := ⟨W, id, oldZ W, []⟩
theorem start_ok (W : World) : Ok (startR W) := ⟨fun _ h => h, (fun n b h => by cases h), (fun n m b c h => by cases h)⟩

theorem read_val {base : Nat} {s : Sh} {T : Nat} {v : Value} {d : DataW H} {p : List MemPlace} (hs : shapeB P s T = true) (hv : Value.okWide P W .any base T v) (h : DataW.Trod enc P W 0 (fun _ => true) true T v d p) (hw : ∀ n ∈ d.weights P T, n ≤ reachN) :
    ∃ a, TyV s a ∧ ValR (startR W) a v := by
  obtain ⟨fuel, hf⟩ := h
  obtain ⟨avs, h1, h2⟩ := read s T fuel _ _ hs hf hw
  obtain ⟨k1, k2, k3⟩ := mkV_ty h1 h2
  refine ⟨mkV s avs, k2, ?_⟩
  cases hst : s.isSt with
  | true =>
    have hm : mkV s avs = .agg avs := by unfold mkV; rw [hst]; rfl
    rw [hm] at k3 ⊢
    have : ∃ cs : Array Value, v = .agg cs := by
      cases s with
      | st fs =>
        unfold shapeB at hs
        split at hs
        · rename_i F hu
          unfold Value.okWide at hv
          rw [hu] at hv
          obtain ⟨cs, e, _⟩ := hv
          exact ⟨cs, e⟩
        · cases hs
      | _ => cases hst
    obtain ⟨cs, rfl⟩ := this
    exact rr_val (ρ := startR W) (.inl ⟨avs, cs, rfl, rfl, k3⟩)
  | false =>
    obtain ⟨c, rfl⟩ := (tyC_len s avs h1).2 hst
    have hm : mkV s [c] = c := by unfold mkV; rw [hst]; rfl
    rw [hm] at k3 ⊢
    have hc := h2.2.1 c (by simp)
    have hl := h2.1
    have hv1 : v.cells.toList = [v] := by
      cases v with
      | agg cs =>
        exfalso
        have hk := k3
        have hcell : ∀ {u : Value}, RR W (oldZ W) c [u] → u.oneCell' = true := fun h => CellR.one (rr_cell (ρ := startR W) hc h)
        have hno : P.underlying T ≠ none := by
          intro hn
          cases s <;> (unfold shapeB at hs; rw [hn] at hs; cases hs)
        unfold Value.okWide at hv
        cases s with
        | st fs => cases hst
        | int k => unfold shapeB at hs; split at hs <;> first | (cases hs; done) | skip
                   rename_i k' hu; rw [hu] at hv; simp [Cell.okWide, hu, Cell.ok] at hv
        | bool => unfold shapeB at hs; split at hs <;> first | (cases hs; done) | skip
                  rename_i hu; rw [hu] at hv; simp [Cell.okWide, hu, Cell.ok] at hv
        | str => unfold shapeB at hs; split at hs <;> first | (cases hs; done) | skip
                 rename_i hu; rw [hu] at hv; simp [Cell.okWide, hu, Cell.ok] at hv
        | sl eb e => unfold shapeB at hs; split at hs <;> first | (cases hs; done) | skip
                     rename_i E hu; rw [hu] at hv; simp [Cell.okWide, hu, Cell.ok] at hv
      | _ => rfl
    rw [hv1] at k3
    exact rr_val (ρ := startR W) (.inr ⟨hc, k3⟩)

theorem read_args {base : Nat} : ∀ {ss : List Sh} {ts : List Nat} {vs : List Value} {ds : List (DataW H)} {ps : List MemPlace}, shapesB P ss ts = true → DataW.TrodAll enc P W 0 (fun _ => true) true ts vs ds ps →
    (∀ (j : Nat) t v, ts[j]? = some t → vs[j]? = some v → Value.okWide P W .any base t v) → (∀ n ∈ DataW.weightsEach P ts ds, n ≤ reachN) → ∃ as, TyVs ss as ∧ ValsR (startR W) as vs
  | [], [], vs, ds, ps, _, h, _, _ => by
    obtain ⟨rfl, _, _⟩ := Go.ChangeShapes.trodAll_nil h
    exact ⟨[], rfl, rfl⟩
  | [], _ :: _, _, _, _, hs, _, _, _ => by cases hs
  | _ :: _, [], _, _, _, hs, _, _, _ => by cases hs
  | s :: ss, t :: ts, vs, ds, ps, hs, h, hv, hw => by
    simp only [shapesB, Bool.and_eq_true] at hs
    obtain ⟨v, vs', d, ds', p, q, rfl, rfl, rfl, h1, h2⟩ := Go.ChangeShapes.trodAll_cons h
    obtain ⟨a, k1, k2⟩ := read_val hs.1 (hv 0 t v rfl rfl) h1 fun n hn => hw n (by simp only [DataW.weightsEach, List.mem_append]; exact .inl hn)
    obtain ⟨as, k3, k4⟩ := read_args hs.2 h2 (fun j t' v' ht hv' => hv (j + 1) t' v' (by simpa using ht) (by simpa using hv')) fun n hn => hw n (by simp only [DataW.weightsEach, List.mem_append]; exact .inr hn)
    exact ⟨a :: as, ⟨a, as, rfl, k1, k3⟩, v, vs', rfl, k2, k4⟩

/-- The walk of a law, out of what the interpreter answers. -/
theorem law_calls {E : Env} (hE : Good E) {f : Nat} {ss : List Sh} {ts : List Nat} (hs : shapesB E.P ss ts = true) (hp : ∀ as, TyVs ss as → callP E f as [] = some (.bool true, [])) {base : Nat} {args : Array Value} {ds : List (DataW H)} {ps : List MemPlace}
    (hA : DataW.TrodAll enc E.P W 0 (fun _ => true) true ts args.toList ds ps) (hv : ∀ (j : Nat) t v, ts[j]? = some t → args[j]? = some v → Value.okWide E.P W .any base t v)
    (hw : (DataW.weightsEach E.P ts ds).all (· ≤ reachBytes) = true) : Calls E.P f args W fun e W' => e = .returned (.bool true) ∧ Below W.heap.size W W' := by
  obtain ⟨as, h1, h2⟩ := read_args (base := base) hs hA (fun j t v ht hv' => hv j t v ht (by simpa using hv')) fun n hn => by
    have := List.all_eq_true.1 hw n hn
    exact of_decide_eq_true (p := n ≤ reachBytes) this
  refine (callP_sound hE (hp as h1) (startR W) args rfl (start_ok W) h2).mono ?_
  rintro e w' ⟨vv, φ', Z', rfl, hi, _, hr⟩
  have hb : Below W.heap.size W w' := ⟨hi.fr.os, hi.fr.tape, hi.fr.output, hi.fr.size, fun k hk => hi.fr.fr k hk (fun n b h => by cases h)⟩
  rcases hr with (⟨_, _, _, e, _⟩ | ⟨_, _, e, _⟩ | ⟨_, hr⟩) | ⟨_, _, e, _⟩
  · cases e
  · cases e
  · cases hr with
    | bool b => exact ⟨rfl, hb⟩
  · cases e

/-- The arguments read as they did. -/
theorem back_all {W' : World} (hl : laidOutB P = true) : ∀ {ts : List Nat} {vs : List Value} {ds : List (DataW H)} {ps : List MemPlace}, (ts.all fun t => P.readableRec t && decide (t < P.types.size)) = true → DataW.TrodAll enc P W 0 (fun _ => true) true ts vs ds ps → Below W.heap.size W W' →
    DataW.TrodAll enc P W' 0 (fun b => decide (b < W.heap.size)) true ts vs ds ps
  | [], _, _, _, _, h, _ => by
    obtain ⟨rfl, rfl, rfl⟩ := Go.ChangeShapes.trodAll_nil h
    exact rfl
  | t :: ts, _, _, _, hr, h, hb => by
    simp only [List.all_cons, Bool.and_eq_true, decide_eq_true_eq] at hr
    obtain ⟨v, vs', d, ds', p, q, rfl, rfl, rfl, h1, h2⟩ := Go.ChangeShapes.trodAll_cons h
    refine ⟨p, q, Below.trod hl hr.1.1 hr.1.2 h1 hb ?_, back_all hl (by simpa using hr.2) h2 hb, rfl⟩
    obtain ⟨m, hm⟩ := h1
    exact DataW.trod_lt m _ _ _ hm
end
end Go.Proofs.Ytiibidadpgknjaa.Fi
