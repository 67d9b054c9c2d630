/- What one operation does in the machine: structs and slices built, made, written. -/
import Derived.Test.YtiibidadpgknjaaOpF
namespace Go.Proofs.Ytiibidadpgknjaa.Fi
open Go

/-- A row in which a segment is replaced. -/
def seg (cur : List Value) (o : Nat) (xs : List Value) : List Value := cur.take o ++ xs ++ cur.drop (o + xs.length)
theorem seg_len {cur : List Value} {o : Nat} {xs : List Value} (h : o + xs.length ≤ cur.length) : (seg cur o xs).length = cur.length := by
  unfold seg; simp; omega
theorem seg_in {cur : List Value} {o : Nat} {xs : List Value} (h : o + xs.length ≤ cur.length) {j : Nat} (hj : j < xs.length) : (seg cur o xs)[o + j]? = xs[j]? := by
  unfold seg
  rw [List.append_assoc, List.getElem?_append_right (by simp; omega)]
  have : o + j - (cur.take o).length = j := by simp; omega
  rw [this, List.getElem?_append_left hj]
theorem seg_out {cur : List Value} {o : Nat} {xs : List Value} (h : o + xs.length ≤ cur.length) {j : Nat} (hj : j < o ∨ o + xs.length ≤ j) : (seg cur o xs)[j]? = cur[j]? := by
  unfold seg
  rcases hj with hj | hj
  · rw [List.append_assoc, List.getElem?_append_left (by simp; omega), List.getElem?_take, if_pos hj]
  · rw [List.getElem?_append_right (by simp; omega), List.getElem?_drop]
    congr 1
    simp
    omega
theorem splice_eq (cs : List AV) (off : Nat) (xs : List AV) : splice cs off xs = cs.take off ++ xs ++ cs.drop (off + xs.length) := by unfold splice; rw [takeN_eq, dropN_eq]
theorem splice_len {cs : List AV} {off : Nat} {xs : List AV} (h : off + xs.length ≤ cs.length) : (splice cs off xs).length = cs.length := by rw [splice_eq]; simp; omega
theorem splice_in {cs : List AV} {o : Nat} {xs : List AV} (h : o + xs.length ≤ cs.length) {j : Nat} (hj : j < xs.length) : (splice cs o xs)[o + j]? = xs[j]? := by
  rw [splice_eq, List.append_assoc, List.getElem?_append_right (by simp; omega)]
  have : o + j - (cs.take o).length = j := by simp; omega
  rw [this, List.getElem?_append_left hj]
theorem splice_out {cs : List AV} {o : Nat} {xs : List AV} (h : o + xs.length ≤ cs.length) {j : Nat} (hj : j < o ∨ o + xs.length ≤ j) : (splice cs o xs)[j]? = cs[j]? := by
  rw [splice_eq]
  rcases hj with hj | hj
  · rw [List.append_assoc, List.getElem?_append_left (by simp; omega), List.getElem?_take, if_pos hj]
  · rw [List.getElem?_append_right (by simp; omega), List.getElem?_drop]
    congr 1
    simp
    omega

section
variable {P : Program} {X : Ctx} {ρ : R}

theorem splice_cells {cs xs : List AV} {us ys : List Value} {o : Nat} (hc : CellsR ρ cs us) (hx : CellsR ρ xs ys) (h : o + xs.length ≤ cs.length) : CellsR ρ (splice cs o xs) (seg us o ys) := by
  have l1 := hc.length
  have l2 := hx.length
  refine CellsR.iff.2 ⟨by rw [seg_len (by omega), splice_len h, l1], fun j c u hcj huj => ?_⟩
  by_cases hin : o ≤ j ∧ j < o + xs.length
  · obtain ⟨k, rfl⟩ : ∃ k, j = o + k := ⟨j - o, by omega⟩
    rw [splice_in h (by omega)] at hcj
    rw [seg_in (by omega) (by omega)] at huj
    exact (CellsR.iff.1 hx).2 k c u hcj huj
  · rw [splice_out h (by omega)] at hcj
    rw [seg_out (by omega) (by omega)] at huj
    exact (CellsR.iff.1 hc).2 j c u hcj huj

theorem fold_set : ∀ (xs : List Value) (k off : Nat) (cur : Array Value), off + k + xs.length ≤ cur.size →
    ((xs.zipIdx k).foldl (fun (cs : Array Value) (p : Value × Nat) => cs.setIfInBounds (off + p.2) p.1) cur) = (seg cur.toList (off + k) xs).toArray := by
  intro xs
  induction xs with
  | nil => intro k off cur _; unfold seg; simp
  | cons x xs ih =>
    intro k off cur h
    simp only [List.zipIdx_cons, List.foldl_cons]
    rw [ih (k + 1) off _ (by simp at h ⊢; omega)]
    congr 1
    unfold seg
    have e := list_seg_step cur.toList (off + k) x xs (by simp at h ⊢; omega)
    simpa [Array.toList_setIfInBounds, Nat.add_assoc] using e
theorem fold_set_arr (xs : Array Value) (off : Nat) (cur : Array Value) (h : off + xs.size ≤ cur.size) :
    (xs.zipIdx.foldl (fun (cs : Array Value) (p : Value × Nat) => cs.setIfInBounds (off + p.2) p.1) cur) = (seg cur.toList off xs.toList).toArray := by
  rw [← Array.foldl_toList]
  have := fold_set xs.toList 0 off cur (by simpa using h)
  simpa using this

/-- The parts' values. -/
inductive PartsR (ρ : R) : List (Nat × AV) → List (Nat × Value) → Prop
  | nil : PartsR ρ [] []
  | cons {i : Nat} {a : AV} {v : Value} {r : List (Nat × AV)} {s : List (Nat × Value)} (h : ValR ρ a v) (t : PartsR ρ r s) : PartsR ρ ((i, a) :: r) ((i, v) :: s)
theorem parts_rel {t : Nat → AV} {e : Operand → Value} (he : ∀ x, ValR ρ (ev t x) (e x)) : ∀ l : List (Nat × Operand), PartsR ρ (pairs t l) (l.map fun p => (p.1, e p.2))
  | [] => .nil
  | p :: r => .cons (he p.2) (parts_rel he r)

theorem fill_build {place : Nat → Option (Nat × Nat)} {fs : List (Nat × Nat × Bool)} (hp : ∀ i f, fs[i]? = some f → place i = some (f.1, f.2.1)) :
    ∀ {l : List (Nat × AV)} {m : List (Nat × Value)} {cs cs' : List AV} {cur : Array Value}, PartsR ρ l m → CellsR ρ cs cur.toList → buildCells fs cs l = some cs' →
      ∃ cur', Instr.fill place cur m = some cur' ∧ CellsR ρ cs' cur'.toList := by
  intro l
  induction l with
  | nil =>
    intro m cs cs' cur hl hc h
    cases hl
    simp only [buildCells] at h
    injection h with h
    subst h
    exact ⟨cur, rfl, hc⟩
  | cons p r ih =>
    intro m cs cs' cur hl hc h
    cases hl with
    | @cons i a v _ s hv ht =>
      simp only [buildCells] at h
      obtain ⟨f, h1, h⟩ := bind_some h
      obtain ⟨h2, h⟩ := cond_some h
      simp only [Bool.and_eq_true, Bool.not_eq_true'] at h2
      have e1 := Nat.eq_of_beq_eq_true h2.1.1
      have e2 := Nat.le_of_ble_eq_true h2.2
      have hel := elem_cells (val_elem hv h2.1.2)
      have hl1 := hel.length
      have hl2 := hc.length
      simp at hl1 hl2
      have hsz : v.cells.size = f.2.1 := by omega
      have hpl := hp i f (nth_some h1)
      obtain ⟨cur', c1, c2⟩ := ih (cur := (seg cur.toList f.1 v.cells.toList).toArray) ht (by simpa using splice_cells hc hel (by omega)) h
      refine ⟨cur', ?_, c2⟩
      simp only [Instr.fill, hpl]
      have hn : (decide (v.cells.size ≠ f.2.1) || decide (f.1 + v.cells.size > cur.size)) = false := by simp; omega
      rw [hn]
      simp only [Bool.false_eq_true, if_false]
      rw [fold_set_arr v.cells f.1 cur (by omega)]
      exact c1

theorem run_places {F : List Field} {w : World} : (∀ g ∈ F, ∃ I, P.info? g.type = some I) →
    (F.mapM (fun f => do pure (f.offset, ← sizeOf f.type) : Field → Sem (Nat × Nat))).run P w = .ok (F.map fun g => (g.offset, P.cellsOf g.type)) w := by
  intro h
  induction F with
  | nil => simp
  | cons g F ih =>
    obtain ⟨I, hI⟩ := h g (by simp)
    rw [List.mapM_cons]
    have hc : P.cellsOf g.type = I.size := by simp [Program.cellsOf, hI]
    simp only [Sem.run_bind, run_sizeOf' hI, Result.andThen_ok, Sem.run_pure, ih (fun x hx => h x (by simp [hx])), List.map_cons, hc]

theorem build_does (hT : TabOk P X) (ho : Ok ρ) {T : Nat} {fs : List (Nat × Nat × Bool)} (hk : tk X T = .agg fs) (h1 : 0 < tsz X T) {l : List (Nat × AV)} {m : Array (Nat × Value)} (hl : PartsR ρ l m.toList) {cs : List AV}
    (h : buildCells fs ((tz X T).map fresh) l = some cs) : Does P ρ (nv (Instr.build T m)) (.agg cs) ρ.h := by
  obtain ⟨I, z, i1, i2, i3, i4, i5, i6, i7, i8, i9, i10, i11⟩ := zero_ent (ρ := ρ) hT h1
  obtain ⟨F, f1, f2, f3⟩ := und_agg hT hk
  have hF : ∀ g ∈ F.toList, ∃ I, P.info? g.type = some I := by
    intro g hg
    obtain ⟨j, hj⟩ := List.getElem?_of_mem hg
    have hjl := (List.getElem?_eq_some_iff.1 hj).1
    have hjf : j < fs.length := by simp at hjl; omega
    obtain ⟨g', I', g1, g2, g3, _⟩ := f3 j fs[j] (List.getElem?_eq_getElem hjf)
    have : F.toList[j]? = some g' := by simpa using g1
    rw [hj] at this
    injection this with this
    subst this
    exact ⟨I', g3⟩
  let places : Array (Nat × Nat) := (F.toList.map fun g => (g.offset, P.cellsOf g.type)).toArray
  have hpl : (F.mapM (fun f => do pure (f.offset, ← sizeOf f.type) : Field → Sem (Nat × Nat))).run P ρ.w = .ok places ρ.w := by
    rw [Array.mapM_eq_mapM_toList]
    simp only [Sem.run_map, run_places hF, Result.andThen_ok]
    rfl
  obtain ⟨cur', c1, c2⟩ := fill_build (ρ := ρ) (place := (places[·]?)) (fs := fs) (fun i f hf => by
    obtain ⟨g, I', g1, g2, g3, g4, g5, g6⟩ := f3 i f hf
    have : F.toList[i]? = some g := by simpa using g1
    show places[i]? = _
    simp only [places, List.getElem?_toArray, List.getElem?_map, this, Option.map_some, g2]
    rw [show P.cellsOf g.type = f.2.1 by simp [Program.cellsOf, g3, g4]]) hl i7 h
  refine does_nv ho (vv := .agg cur') ?_ ⟨cur', rfl, c2⟩
  have hz : (zeroValue T).run P ρ.w = .ok z ρ.w := by simp [zeroValue, typeInfo, i1, i3]
  simp only [Instr.build, Sem.run_bind, hz, run_underlying f1, Result.andThen_ok, hpl, c1, Sem.run_pure]

/-! ### Slices made -/

theorem canon_nil (z : AV) : ∃ sz, canon .nilS z = .lst sz [] := by cases z <;> exact ⟨_, rfl⟩
/-- A cell that names nothing, as a reader has it. -/
theorem cell_rr {c z : AV} {u : Value} (h : CellR ρ c u) (hr : hasRef c = false) : RR ρ.w ρ.Z (canon c z) [u] ∧ isCell (canon c z) = true ∧ canon c z ≠ .nilS ∧ CellR ρ (canon c z) u ∧ hasRef (canon c z) = false := by
  have hrr : ∀ {c : AV}, c ≠ .nilS → canon c z = c := by intro c hc; unfold canon; split <;> first | exact absurd rfl hc | rfl
  cases c with
  | nilS =>
    obtain ⟨a, rfl⟩ := h
    obtain ⟨sz, e⟩ := canon_nil z
    rw [e]
    exact ⟨RR.lst0 sz a 0, rfl, by simp, RR.lst0 sz a 0, rfl⟩
  | bool b => rw [hrr (by simp)]; exact ⟨h, rfl, by simp, h, rfl⟩
  | int k n => rw [hrr (by simp)]; exact ⟨h, rfl, by simp, h, rfl⟩
  | str s => rw [hrr (by simp)]; exact ⟨h, rfl, by simp, h, rfl⟩
  | lst sz l => rw [hrr (by simp)]; exact ⟨h, rfl, by simp, h, rfl⟩
  | agg cs => exact h.elim
  | tup cs => exact h.elim
  | _ => cases hr
/-- The same cell, its nil slice an empty list. -/
theorem canon_cell {c z : AV} {u : Value} (h : CellR ρ c u) : CellR ρ (canon c z) u ∧ canon c z ≠ .nilS := by
  cases c with
  | nilS =>
    obtain ⟨p1, p2, p3, p4, p5⟩ := cell_rr (z := z) h rfl
    exact ⟨p4, p3⟩
  | _ => exact ⟨by unfold canon; exact h, by unfold canon; simp⟩
theorem canons_get : ∀ {cs zs : List AV} {j : Nat} {d : AV}, (canons cs zs)[j]? = some d → ∃ c z, cs[j]? = some c ∧ d = canon c z
  | [], _, _, _, h => by simp [canons] at h
  | c :: cs, [], 0, d, h => by simp [canons] at h; exact ⟨c, .undef, rfl, h.symm⟩
  | c :: cs, z :: zs, 0, d, h => by simp [canons] at h; exact ⟨c, z, rfl, h.symm⟩
  | c :: cs, [], j + 1, d, h => by
    obtain ⟨c', z', h1, h2⟩ := canons_get (cs := cs) (zs := []) (j := j) (d := d) (by simpa [canons] using h)
    exact ⟨c', z', by simpa using h1, h2⟩
  | c :: cs, z :: zs, j + 1, d, h => by
    obtain ⟨c', z', h1, h2⟩ := canons_get (cs := cs) (zs := zs) (j := j) (d := d) (by simpa [canons] using h)
    exact ⟨c', z', by simpa using h1, h2⟩
theorem canons_len : ∀ (cs zs : List AV), (canons cs zs).length = cs.length
  | [], _ => by simp [canons]
  | c :: cs, [] => by simp [canons, canons_len cs []]
  | c :: cs, z :: zs => by simp [canons, canons_len cs zs]
theorem canonV_elem {T : Nat} {e : AV} {us : List Value} (h : ElemR ρ e us) : ElemR ρ (canonV X T e) us ∧ noNil (canonV X T e) := by
  cases e with
  | agg cs =>
    refine ⟨?_, ?_⟩
    · show CellsR ρ (canons cs (tz X T)) us
      obtain ⟨k1, k2⟩ := CellsR.iff.1 (show CellsR ρ cs us from h)
      refine CellsR.iff.2 ⟨by rw [canons_len]; exact k1, fun j d u hd hu => ?_⟩
      obtain ⟨c, z, h1, rfl⟩ := canons_get hd
      exact (canon_cell (k2 j c u h1 hu)).1
    · intro d hd
      obtain ⟨j, hj⟩ := List.getElem?_of_mem (show d ∈ canons cs (tz X T) from hd)
      obtain ⟨c, z, h1, rfl⟩ := canons_get hj
      obtain ⟨u, h2, h3⟩ := CellsR.at (show CellsR ρ cs us from h) h1
      exact (canon_cell h3).2
  | nilS =>
    obtain ⟨u, rfl, h'⟩ := (elemR_eq (by simp)).1 h
    obtain ⟨p1, p2, p3, p4, p5⟩ := cell_rr (z := nthD (tz X T) 0) h' rfl
    obtain ⟨sz, e⟩ := canon_nil (nthD (tz X T) 0)
    have : canonV X T .nilS = .lst sz [] := e
    rw [this]
    rw [e] at p4
    exact ⟨⟨u, rfl, p4⟩, fun d hd => by rw [List.mem_singleton.1 (show d ∈ [AV.lst sz []] from hd)]; simp⟩
  | _ => exact ⟨h, fun d hd => by rw [List.mem_singleton.1 hd]; simp [canonV]⟩
theorem hasRefs_mem : ∀ {cs : List AV}, hasRefs cs = false → ∀ c ∈ cs, hasRef c = false
  | [], _, _, h => by cases h
  | c :: cs, h, d, hd => by
    simp only [hasRefs, Bool.or_eq_false_iff] at h
    rcases List.mem_cons.1 hd with rfl | hd
    · exact h.1
    · exact hasRefs_mem h.2 d hd
/-- An element without names and without nil slices is data. -/
theorem elem_rr {e : AV} {us : List Value} (h : ElemR ρ e us) (hr : valRef e = false) (hn : noNil e) : RR ρ.w ρ.Z e us := by
  have hc := elem_cells h
  have hcell : ∀ {c : AV} {u : Value}, CellR ρ c u → hasRef c = false → c ≠ .nilS → RR ρ.w ρ.Z c [u] ∧ isCell c = true := by
    intro c u h1 h2 h3
    obtain ⟨p1, p2, _⟩ := cell_rr (z := .undef) h1 h2
    have : canon c .undef = c := by unfold canon; split <;> first | exact absurd rfl h3 | rfl
    rw [this] at p1 p2
    exact ⟨p1, p2⟩
  have hm := hasRefs_mem (show hasRefs (cells e) = false from hr)
  cases e with
  | agg cs =>
    refine RR.agg cs us hc.length (fun c hcm => ?_) (fun i c u h1 h2 => (hcell ((CellsR.iff.1 hc).2 i c u h1 h2) (hm c (List.mem_of_getElem? h1)) (hn c (List.mem_of_getElem? h1))).1)
    obtain ⟨j, hj⟩ := List.getElem?_of_mem hcm
    obtain ⟨u, h2, h3⟩ := hc.at hj
    exact (hcell h3 (hm c hcm) (hn c hcm)).2
  | _ =>
    obtain ⟨u, rfl, h'⟩ := (elemR_eq (by simp)).1 h
    exact (hcell h' (hm _ (by simp [cells])) (hn _ (by simp [cells]))).1
end
end Go.Proofs.Ytiibidadpgknjaa.Fi
