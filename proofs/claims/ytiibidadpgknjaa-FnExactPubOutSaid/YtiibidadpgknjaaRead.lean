/- An argument that can be read, as a value of the interpreter. -/
import Derived.Test.YtiibidadpgknjaaSound
import Derived.Deep.Slices
import Derived.ChangeArms
import Derived.SizedLaws
import Derived.Below
namespace Go.Proofs.Ytiibidadpgknjaa.Fi
open Go

/-- The shape of a type. -/
inductive Sh where
  | int (k : IntKind)
  | bool
  | str
  | sl (eb : Nat) (e : Sh)
  | st (fs : List Sh)

mutual
def Sh.cells : Sh → Nat
  | .st fs => Sh.cellsL fs
  | _ => 1
def Sh.cellsL : List Sh → Nat
  | [] => 0
  | s :: r => s.cells + Sh.cellsL r
end
def Sh.isSt : Sh → Bool
  | .st _ => true
  | _ => false

mutual
def shapeB (P : Program) : Sh → Nat → Bool
  | .int k, T => match P.underlying T with
    | some (.int k') => decide (k = k')
    | _ => false
  | .bool, T => match P.underlying T with
    | some .bool => true
    | _ => false
  | .str, T => match P.underlying T with
    | some .string => true
    | _ => false
  | .sl eb e, T => match P.underlying T with
    | some (.slice E) => shapeB P e E && decide (P.cellsOf E = e.cells) && decide (P.bytesOf E = eb) && decide (0 < eb) && decide (0 < e.cells)
    | _ => false
  | .st fs, T => match P.underlying T with
    | some (.struct F) => decide (P.cellsOf T = Sh.cellsL fs) && shapeL P fs 0 F.toList
    | _ => false
def shapeL (P : Program) : List Sh → Nat → List Field → Bool
  | [], _, [] => true
  | s :: fs, off, f :: F => decide (f.offset = off) && decide (P.cellsOf f.type = s.cells) && shapeB P s f.type && shapeL P fs (off + s.cells) F
  | _, _, _ => false
end

def reachN : Nat := 140737488351232
mutual
/-- Cells of that shape. -/
def TyC : Sh → List AV → Prop
  | .int k, cs => ∃ n, cs = [.int k n] ∧ k.has n
  | .bool, cs => ∃ b, cs = [.bool b]
  | .str, cs => ∃ s, cs = [.str s] ∧ s.length ≤ reachN
  | .sl eb e, cs => ∃ l, cs = [.lst e.cells l] ∧ l.length * eb ≤ reachN ∧ ∀ x ∈ l, (TyC e (cells x) ∧ (e.isSt = true → ∃ cs, x = .agg cs) ∧ (e.isSt = false → cells x = [x]))
  | .st fs, cs => TyL fs cs
def TyL : List Sh → List AV → Prop
  | [], cs => cs = []
  | s :: fs, cs => ∃ a b, cs = a ++ b ∧ TyC s a ∧ TyL fs b
end
/-- A value of that shape. -/
def TyV (s : Sh) (x : AV) : Prop := TyC s (cells x) ∧ (s.isSt = true → ∃ cs, x = .agg cs) ∧ (s.isSt = false → cells x = [x])
def TyVs : List Sh → List AV → Prop
  | [], as => as = []
  | s :: ss, as => ∃ a r, as = a :: r ∧ TyV s a ∧ TyVs ss r

/-- Cells that say what the machine's cells say. -/
def RL (w : World) (Z : Nat → Prop) (avs : List AV) (us : List Value) : Prop := us.length = avs.length ∧ (∀ c ∈ avs, isCell c = true) ∧ ∀ (i : Nat) (c : AV) (u : Value), avs[i]? = some c → us[i]? = some u → RR w Z c [u]
theorem RL.append {w : World} {Z : Nat → Prop} {a b : List AV} {us vs : List Value} (h : RL w Z a us) (k : RL w Z b vs) : RL w Z (a ++ b) (us ++ vs) := by
  refine ⟨by simp [h.1, k.1], fun c hc => ?_, fun i c u h1 h2 => ?_⟩
  · rcases List.mem_append.1 hc with hc | hc
    · exact h.2.1 c hc
    · exact k.2.1 c hc
  · by_cases hi : i < a.length
    · rw [List.getElem?_append_left hi] at h1
      rw [List.getElem?_append_left (by rw [h.1]; exact hi)] at h2
      exact h.2.2 i c u h1 h2
    · rw [List.getElem?_append_right (by omega)] at h1
      rw [List.getElem?_append_right (by rw [h.1]; omega), h.1] at h2
      exact k.2.2 _ c u h1 h2
theorem RL.one {w : World} {Z : Nat → Prop} {c : AV} {u : Value} (hc : isCell c = true) (h : RR w Z c [u]) : RL w Z [c] [u] := by
  refine ⟨rfl, (fun d hd => by obtain rfl : d = c := by simpa using hd
                               exact hc), fun i d v h1 h2 => ?_⟩
  cases i with
  | zero => simp at h1 h2; subst h1 h2; exact h
  | succ i => simp at h1

section
variable {H : Type} {enc : TypeId × Value → H} {P : Program} {w : World}

def oldZ (w : World) : Nat → Prop := fun b => b < w.heap.size

theorem add_block (a : Addr) (n : Nat) : (a.add n).block = a.block := by unfold Addr.add; split <;> rfl
theorem cell_lt {w : World} {a : Addr} {u : Value} (h : w.cell? a = some u) : a.block < w.heap.size := by
  rcases Nat.lt_or_ge a.block w.heap.size with hlt | hge
  · exact hlt
  · exfalso
    have : w.heap[a.block]? = none := by simp; omega
    unfold World.cell? at h
    rw [this] at h
    simp at h
theorem weights_all {ts : List (DataW H × List MemPlace)} {E : Nat} : ∀ {i : Nat} {y : DataW H × List MemPlace} {n : Nat}, ts[i]? = some y → n ∈ y.1.weights P E → n ∈ DataW.weightsAll P E (ts.map (·.1)) := by
  induction ts with
  | nil => intro i y n h; simp at h
  | cons t ts ih =>
    intro i y n h hn
    simp only [List.map_cons, DataW.weightsAll, List.mem_append]
    cases i with
    | zero => simp at h; subst h; exact .inl hn
    | succ i => exact .inr (ih (by simpa using h) hn)

mutual
theorem tyC_len : ∀ (s : Sh) (cs : List AV), TyC s cs → cs.length = s.cells ∧ (s.isSt = false → ∃ c, cs = [c])
  | .int k, cs, h => by
    unfold TyC at h
    obtain ⟨n, rfl, _⟩ := h
    exact ⟨by simp [Sh.cells], fun _ => ⟨_, rfl⟩⟩
  | .bool, cs, h => by
    unfold TyC at h
    obtain ⟨n, rfl⟩ := h
    exact ⟨by simp [Sh.cells], fun _ => ⟨_, rfl⟩⟩
  | .str, cs, h => by
    unfold TyC at h
    obtain ⟨n, rfl, _⟩ := h
    exact ⟨by simp [Sh.cells], fun _ => ⟨_, rfl⟩⟩
  | .sl eb e, cs, h => by
    unfold TyC at h
    obtain ⟨n, rfl, _⟩ := h
    exact ⟨by simp [Sh.cells], fun _ => ⟨_, rfl⟩⟩
  | .st fs, cs, h => by
    unfold TyC at h
    exact ⟨by rw [tyL_len fs cs h]; simp [Sh.cells], fun h => by cases h⟩
theorem tyL_len : ∀ (fs : List Sh) (cs : List AV), TyL fs cs → cs.length = Sh.cellsL fs
  | [], cs, h => by unfold TyL at h; subst h; simp [Sh.cellsL]
  | s :: fs, cs, h => by
    unfold TyL at h
    obtain ⟨a, b, rfl, h1, h2⟩ := h
    rw [List.length_append, (tyC_len s a h1).1, tyL_len fs b h2]
    simp [Sh.cellsL]
end

/-- One value of a shape out of its cells. -/
def mkV (s : Sh) (cs : List AV) : AV := bif s.isSt then .agg cs else nthD cs 0
theorem mkV_ty {s : Sh} {cs : List AV} {us : List Value} (h : TyC s cs) (hr : RL w (oldZ w) cs us) : cells (mkV s cs) = cs ∧ TyV s (mkV s cs) ∧ RR w (oldZ w) (mkV s cs) us := by
  unfold mkV
  cases hs : s.isSt with
  | true =>
    exact ⟨rfl, ⟨h, fun _ => ⟨cs, rfl⟩, (fun h' => by rw [hs] at h'; cases h')⟩, RR.agg cs us hr.1 hr.2.1 hr.2.2⟩
  | false =>
    obtain ⟨c, rfl⟩ := (tyC_len s cs h).2 hs
    have hc := hr.2.1 c (by simp)
    have e : cells c = [c] := by cases c <;> first | rfl | cases hc
    show cells c = [c] ∧ TyV s c ∧ RR w (oldZ w) c us
    match us, hr with
    | [u], hr => exact ⟨e, ⟨by rw [e]; exact h, (fun h' => by rw [hs] at h'; cases h'), fun _ => e⟩, hr.2.2 0 c u rfl rfl⟩

mutual
theorem read : ∀ (s : Sh) (T fuel : Nat) (cs : List Value) (x : DataW H × List MemPlace), shapeB P s T = true → DataW.trod enc P w 0 (fun _ => true) true fuel T cs = some x → (∀ n ∈ x.1.weights P T, n ≤ reachN) →
    ∃ avs, TyC s avs ∧ RL w (oldZ w) avs cs
  | .int k, T, fuel, cs, x, hs, h, _ => by
    unfold shapeB at hs
    split at hs
    · rename_i k' hu
      have hk := of_decide_eq_true hs
      subst hk
      obtain ⟨n, rfl, _, hw⟩ := DataW.trod_int hu h
      have hh : k.has n := by simpa [Lit.wf, has_iff] using hw
      exact ⟨[.int k n], ⟨n, rfl, hh⟩, RL.one rfl (.int k n hh)⟩
    · cases hs
  | .bool, T, fuel, cs, x, hs, h, _ => by
    unfold shapeB at hs
    split at hs
    · rename_i hu
      obtain ⟨b, rfl, _⟩ := DataW.trod_bool hu h
      exact ⟨[.bool b], ⟨b, rfl⟩, RL.one rfl (.bool b)⟩
    · cases hs
  | .str, T, fuel, cs, x, hs, h, hw => by
    unfold shapeB at hs
    split at hs
    · rename_i hu
      obtain ⟨s, rfl, rfl, _⟩ := DataW.trod_string hu h
      have hl : s.data.toList.length ≤ reachN := hw _ (by simp [DataW.weights])
      refine ⟨[.str s.data.toList], ⟨_, rfl, hl⟩, RL.one rfl ?_⟩
      have := RR.str (w := w) (Z := oldZ w) s.data.toList (Nat.le_trans hl (by decide))
      simpa using this
    · cases hs
  | .sl eb e, T, fuel, cs, x, hs, h, hw => by
    unfold shapeB at hs
    split at hs
    · rename_i E hu
      simp only [Bool.and_eq_true, decide_eq_true_eq] at hs
      obtain ⟨⟨⟨⟨h1, h2⟩, h3⟩, h4⟩, h5⟩ := hs
      rcases DataW.trod_slice hu h with ⟨rfl, rfl⟩ | ⟨a, len, cap, elems, rest, n, _, rfl, rfl, _, hl, hm, hlen, hel, _, _⟩
      · refine ⟨[.lst e.cells []], ?_, RL.one rfl (RR.lst0 _ _ _)⟩
        unfold TyC
        exact ⟨[], rfl, by simp, fun x hx => by cases hx⟩
      · have hwl : (elems.length + rest.length) * eb ≤ reachN := by
          have := hw ((elems.length + rest.length) * P.bytesOf E) (by simp [DataW.weights, hu])
          rwa [h3] at this
        have hwe : ∀ (i : Nat) (y : DataW H × List MemPlace), elems[i]? = some y → ∀ n ∈ y.1.weights P E, n ≤ reachN := fun i y hy n hn => hw n (by
          have := weights_all hy hn
          simp only [DataW.weights, hu, List.mem_cons, List.mem_append]
          exact .inr (.inl this))
        have hch : ∀ i : Nat, ∃ p : List AV × List Value, i < len → TyC e p.1 ∧ RL w (oldZ w) p.1 p.2 ∧ w.cells? 0 (a.add (i * P.cellsOf E)) (P.cellsOf E) = some p.2 := by
          intro i
          by_cases hi : i < len
          · have hx := hel i hi
            have hy := List.getElem?_eq_getElem (show i < elems.length by omega)
            rw [hy] at hx
            obtain ⟨cs', k1, k2⟩ := bind_some hx
            obtain ⟨avs, q1, q2⟩ := read e E n cs' _ h1 k2 (hwe i _ hy)
            exact ⟨(avs, cs'), fun _ => ⟨q1, q2, k1⟩⟩
          · exact ⟨([], []), fun h => absurd h hi⟩
        obtain ⟨f, hf⟩ := Classical.axiomOfChoice hch
        have hlen2 : ((List.range len).map fun i => mkV e (f i).1).length = len := by simp
        have hget : ∀ (i : Nat) (y : AV), ((List.range len).map fun i => mkV e (f i).1)[i]? = some y → i < len ∧ y = mkV e (f i).1 := by
          intro i y hy
          obtain ⟨j, hj, rfl⟩ := map_get hy
          have hil : i < len := by simpa using (List.getElem?_eq_some_iff.1 hj).1
          rw [List.getElem?_range hil] at hj
          injection hj with hj
          subst hj
          exact ⟨hil, rfl⟩
        refine ⟨[.lst e.cells ((List.range len).map fun i => mkV e (f i).1)], ?_, RL.one rfl ?_⟩
        · unfold TyC
          refine ⟨_, rfl, ?_, fun y hy => ?_⟩
          · rw [hlen2]
            refine Nat.le_trans (Nat.mul_le_mul_right eb ?_) hwl
            omega
          · obtain ⟨i, hi, rfl⟩ := List.mem_map.1 hy
            obtain ⟨q1, q2, _⟩ := hf i (by simpa using hi)
            exact (mkV_ty q1 q2).2.1
        · by_cases h0 : len = 0
          · subst h0
            exact RR.lst0 _ _ _
          · have hz : oldZ w a.block := by
              obtain ⟨q1, q2, q3⟩ := hf 0 (by omega)
              obtain ⟨_, k1, k2⟩ := World.cells?_some q3
              have hpos : 0 < P.cellsOf E := by rw [h2]; exact h5
              have hc := k2 0 hpos
              have hx : (f 0).2[0]? = some ((f 0).2[0]'(by omega)) := List.getElem?_eq_getElem (by omega)
              rw [hx] at hc
              have := cell_lt hc
              have e1 : ((a.add (0 * P.cellsOf E)).add 0).block = a.block := by rw [add_block, add_block]
              rw [e1] at this
              exact this
            have := RR.lst (w := w) (Z := oldZ w) e.cells ((List.range len).map fun i => mkV e (f i).1) a cap (fun i => (f i).2) hz (by rw [hlen2]; exact hl)
              (by rw [hlen2]; have : len ≤ elems.length + rest.length := by omega
                  have h5 : len * 1 ≤ len * eb := Nat.mul_le_mul_left len h4
                  have h6 : len * eb ≤ (elems.length + rest.length) * eb := Nat.mul_le_mul_right eb this
                  have : reachN ≤ bigN := by decide
                  omega)
              (fun i hi => by rw [hlen2] at hi; obtain ⟨q1, q2, _⟩ := hf i hi; rw [q2.1, (tyC_len e _ q1).1])
              (fun i j u hi hj => by
                rw [hlen2] at hi
                obtain ⟨q1, q2, q3⟩ := hf i hi
                obtain ⟨_, k1, k2⟩ := World.cells?_some q3
                have hjl : j < P.cellsOf E := by rw [← k1]; exact (List.getElem?_eq_some_iff.1 hj).1
                have := k2 j hjl
                rw [hj] at this
                unfold cellOf
                rw [← this, h2, Addr.add_add])
              (fun i y hy => by
                obtain ⟨hil, rfl⟩ := hget i y hy
                obtain ⟨q1, q2, _⟩ := hf i hil
                exact (mkV_ty q1 q2).2.2)
            rw [hlen2] at this
            exact this
    · cases hs
  | .st fs, T, fuel, cs, x, hs, h, hw => by
    unfold shapeB at hs
    split at hs
    · rename_i F hu
      simp only [Bool.and_eq_true, decide_eq_true_eq] at hs
      obtain ⟨xs, n, _, rfl, hl, hlen, hf⟩ := DataW.trod_struct hu h
      obtain ⟨avs, h1, h2⟩ := readL fs F.toList 0 n cs xs hs.2 (by rw [hl, hs.1]; simp) (by simpa using hlen) (fun i f hi => hf i f (by simpa using hi))
        (fun i f y hi hy m hm => hw m (by
          simp only [DataW.weights, hu]
          exact DataW.weights_mem_each (j := i) (t := f.type) (d := y.1) (by simp [hi]) (by simp [hy]) m hm))
      refine ⟨avs, ?_, by simpa using h2⟩
      unfold TyC
      exact h1
    · cases hs
theorem readL : ∀ (fs : List Sh) (F : List Field) (off n : Nat) (cs : List Value) (xs : List (DataW H × List MemPlace)), shapeL P fs off F = true → cs.length = off + Sh.cellsL fs → xs.length = F.length →
    (∀ (i : Nat) (f : Field), F[i]? = some f → DataW.trod enc P w 0 (fun _ => true) true n f.type ((cs.drop f.offset).take (P.cellsOf f.type)) = xs[i]?) →
    (∀ (i : Nat) (f : Field) (y : DataW H × List MemPlace), F[i]? = some f → xs[i]? = some y → ∀ m ∈ y.1.weights P f.type, m ≤ reachN) → ∃ avs, TyL fs avs ∧ RL w (oldZ w) avs (cs.drop off)
  | [], F, off, n, cs, xs, hs, hl, _, _, _ => by
    refine ⟨[], ?_, ?_⟩
    · unfold TyL; rfl
    · have : cs.drop off = [] := List.drop_eq_nil_iff.2 (by simp [Sh.cellsL] at hl; omega)
      rw [this]
      exact ⟨rfl, (fun c hc => by cases hc), (fun i c u h => by simp at h)⟩
  | s :: fs, [], off, n, cs, xs, hs, _, _, _, _ => by simp [shapeL] at hs
  | s :: fs, f :: F, off, n, cs, [], hs, _, hl, _, _ => by simp at hl
  | s :: fs, f :: F, off, n, cs, y :: xs, hs, hl, hx, ht, hw => by
    simp only [shapeL, Bool.and_eq_true, decide_eq_true_eq] at hs
    obtain ⟨⟨⟨h1, h2⟩, h3⟩, h4⟩ := hs
    have ht0 := ht 0 f rfl
    simp only [List.getElem?_cons_zero] at ht0
    obtain ⟨avs, k1, k2⟩ := read s f.type n _ y h3 ht0 (hw 0 f y rfl rfl)
    have hsl : Sh.cellsL (s :: fs) = s.cells + Sh.cellsL fs := by simp [Sh.cellsL]
    obtain ⟨bvs, k3, k4⟩ := readL fs F (off + s.cells) n cs xs h4 (by rw [hl, hsl]; omega) (by simpa using hx)
      (fun i f' hi => by simpa using ht (i + 1) f' (by simpa using hi)) (fun i f' y' hi hy => hw (i + 1) f' y' (by simpa using hi) (by simpa using hy))
    refine ⟨avs ++ bvs, ?_, ?_⟩
    · unfold TyL; exact ⟨avs, bvs, rfl, k1, k3⟩
    · have := k2.append k4
      rw [h1, h2] at this
      have e : cs.drop off = (cs.drop off).take s.cells ++ cs.drop (off + s.cells) := by rw [← List.drop_drop]; exact (List.take_append_drop _ _).symm
      rw [e]
      exact this
end
end
end Go.Proofs.Ytiibidadpgknjaa.Fi
