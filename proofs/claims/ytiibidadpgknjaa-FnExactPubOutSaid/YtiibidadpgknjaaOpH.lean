/- What one operation does in the machine: slices' literals, make. -/
import Derived.Test.YtiibidadpgknjaaOpG
namespace Go.Proofs.Ytiibidadpgknjaa.Fi
open Go

section
variable {P : Program} {X : Ctx} {ρ : R}

theorem anyU_mem : ∀ {l : List AV}, anyU l = false → ∀ v ∈ l, isU v = false
  | [], _, _, h => by cases h
  | c :: cs, h, d, hd => by
    simp only [anyU, Bool.or_eq_false_iff] at h
    rcases List.mem_cons.1 hd with rfl | hd
    · exact h.1
    · exact anyU_mem h.2 d hd
theorem anyRef_mem : ∀ {l : List AV}, anyRef l = false → ∀ v ∈ l, valRef v = false
  | [], _, _, h => by cases h
  | c :: cs, h, d, hd => by
    simp only [anyRef, Bool.or_eq_false_iff] at h
    rcases List.mem_cons.1 hd with rfl | hd
    · exact h.1
    · exact anyRef_mem h.2 d hd
theorem allSized_mem {sz : Nat} : ∀ {l : List AV}, allSized sz l = true → ∀ v ∈ l, (cells v).length = sz
  | [], _, _, h => by cases h
  | c :: cs, h, d, hd => by
    simp only [allSized, Bool.and_eq_true] at h
    rcases List.mem_cons.1 hd with rfl | hd
    · exact Nat.eq_of_beq_eq_true h.1
    · exact allSized_mem h.2 d hd
theorem canons_ref : ∀ {cs zs : List AV}, hasRefs cs = false → hasRefs (canons cs zs) = false
  | [], _, _ => by simp [canons, hasRefs]
  | c :: cs, [], h => by
    simp only [hasRefs, Bool.or_eq_false_iff] at h
    simp only [canons, hasRefs, Bool.or_eq_false_iff]
    refine ⟨?_, canons_ref h.2⟩
    cases c <;> first | rfl | exact h.1
  | c :: cs, z :: zs, h => by
    simp only [hasRefs, Bool.or_eq_false_iff] at h
    simp only [canons, hasRefs, Bool.or_eq_false_iff]
    refine ⟨?_, canons_ref h.2⟩
    cases c <;> first | exact h.1 | (obtain ⟨sz, e⟩ := canon_nil z; rw [e]; rfl)
theorem canonV_ref {T : Nat} {v : AV} (h : valRef v = false) : valRef (canonV X T v) = false := by
  cases v with
  | agg cs => exact canons_ref (zs := tz X T) (show hasRefs cs = false from h)
  | nilS =>
    obtain ⟨sz, e⟩ := canon_nil (nthD (tz X T) 0)
    have : canonV X T .nilS = .lst sz [] := e
    rw [this]; rfl
  | _ => exact h

theorem fill_order {sz : Nat} (hsz : 0 < sz) : ∀ {ps : List (Nat × AV)} {m : List (Nat × Value)} {k : Nat} {l : List AV} {cur : Array Value}, PartsR ρ ps m → inOrder k ps = some l →
    (∀ v ∈ l, (cells v).length = sz) → (∀ v ∈ l, isU v = false) → (k + l.length) * sz ≤ cur.size →
    ∃ cur', Instr.fill (fun i => some (i * sz, sz)) cur m = some cur' ∧ cur'.size = cur.size ∧ (∀ j, j < k * sz → cur'[j]? = cur[j]?) ∧
      ∀ (i : Nat) (e : AV), l[i]? = some e → ∃ us : List Value, us.length = sz ∧ (∀ (j : Nat) (u : Value), us[j]? = some u → cur'[(k + i) * sz + j]? = some u) ∧ ElemR ρ e us := by
  intro ps
  induction ps with
  | nil =>
    intro m k l cur hp h _ _ _
    cases hp
    simp only [inOrder] at h
    injection h with h
    subst h
    exact ⟨cur, rfl, rfl, fun _ _ => rfl, fun i e hi => by simp at hi⟩
  | cons p r ih =>
    intro m k l cur hp h hs hu hl
    cases hp with
    | @cons i a v _ s hv ht =>
      simp only [inOrder] at h
      obtain ⟨h1, hb⟩ := cond_some h
      have hk := Nat.eq_of_beq_eq_true h1
      subst hk
      obtain ⟨l', h2, h3⟩ := bind_some hb
      injection h3 with h4
      subst h4
      have hel := val_elem hv (hu a (by simp))
      have hlen := (elem_cells hel).length
      simp at hlen
      have hvs : v.cells.size = sz := by rw [hlen]; exact hs a (by simp)
      simp only [List.length_cons] at hl
      have hk1 : (k + 1) * sz ≤ cur.size := Nat.le_trans (Nat.mul_le_mul_right _ (by omega)) hl
      rw [Nat.add_mul, Nat.one_mul] at hk1
      have hcs : k * sz + v.cells.toList.length ≤ cur.toList.length := by simp; omega
      obtain ⟨cur', c1, c2, c3, c4⟩ := ih (cur := (seg cur.toList (k * sz) v.cells.toList).toArray) ht h2 (fun v hv => hs v (by simp [hv])) (fun v hv => hu v (by simp [hv]))
        (by simp only [List.size_toArray, seg_len hcs, Array.length_toList]; rw [show k + 1 + l'.length = k + (l'.length + 1) by omega]; exact hl)
      refine ⟨cur', ?_, by rw [c2]; simp [seg_len hcs], fun j hj => ?_, fun i e hi => ?_⟩
      · simp only [Instr.fill]
        have hn : (decide (v.cells.size ≠ sz) || decide (k * sz + v.cells.size > cur.size)) = false := by simp; omega
        rw [hn]
        simp only [Bool.false_eq_true, if_false]
        rw [fold_set_arr v.cells (k * sz) cur (by omega)]
        exact c1
      · rw [c3 j (by rw [Nat.add_mul]; omega)]
        have := seg_out hcs (j := j) (.inl hj)
        simpa using this
      · cases i with
        | zero =>
          simp at hi
          subst hi
          refine ⟨v.cells.toList, by simpa using hvs, fun j u hj => ?_, hel⟩
          have hjl : j < sz := by
            have := (List.getElem?_eq_some_iff.1 hj).1
            simp at this
            omega
          rw [Nat.add_zero, c3 _ (by rw [Nat.add_mul]; omega)]
          have := seg_in hcs (j := j) (by simp; omega)
          rw [hj] at this
          simpa using this
        | succ i =>
          obtain ⟨us, u1, u2, u3⟩ := c4 i e (by simpa using hi)
          refine ⟨us, u1, fun j u hj => ?_, u3⟩
          have := u2 j u hj
          rwa [show k + 1 + i = k + (i + 1) by omega] at this

/-- A new slice over a block of its own. -/
theorem own_new (ho : Ok ρ) {w' : World} {b : Blk} {cur : Array Value} {cap : Nat} (hos : w'.os = ρ.w.os) (ht : w'.tape = ρ.w.tape) (hout : w'.output = ρ.w.output) (hz : w'.heap.size = ρ.w.heap.size + 1)
    (hs : ∀ k, k < ρ.w.heap.size → w'.heap[k]? = ρ.w.heap[k]?) (hnew : w'.heap[ρ.w.heap.size]? = some (.cells cur b.ty (0, 0)))
    (pos : 0 < b.sz) (can : ∀ e ∈ b.els, noNil e) (rf : b.rf = false → ∀ e ∈ b.els, valRef e = false) (box : b.box = false) (len : b.els.length ≤ bigN) (hcap : b.els.length ≤ cap) (h0 : b.els = [] → cap = 0)
    (hsize : cap * b.sz ≤ cur.size)
    (hel : ∀ (i : Nat) (e : AV), b.els[i]? = some e → ∃ us : List Value, us.length = b.sz ∧ (∀ (j : Nat) (u : Value), us[j]? = some u → cur[i * b.sz + j]? = some u) ∧ ElemR ρ e us) :
    Nx ρ (ρ.more w' b) ∧ ValR (ρ.more w' b) (.own ρ.h.length b.ver) (.slice (some ⟨ρ.w.heap.size, 0, none⟩) b.els.length cap) := by
  have hle : b.els.length * b.sz ≤ cur.size := Nat.le_trans (Nat.mul_le_mul_right _ hcap) hsize
  refine ⟨new_named ho hos ht hout hz hs hnew pos (fun _ => can) rf (fun h => by rw [box] at h; cases h) len hle hel, rfl, b, more_get _ _, Nat.le_refl _, box, fun _ => ⟨_, cap, rfl, hcap, len, h0, fun _ => ⟨?_, ?_⟩⟩⟩
  · rw [more_phi]
  · rw [more_phi]
    have : capCells (ρ.more w' b).w ρ.w.heap.size = cur.size := by
      show capCells w' _ = _
      unfold capCells
      rw [hnew]
    rw [this]
    exact hsize

theorem map_get {α β : Type} {f : α → β} {l : List α} {i : Nat} {y : β} (h : (l.map f)[i]? = some y) : ∃ x, l[i]? = some x ∧ f x = y := by
  rw [List.getElem?_map] at h
  cases hx : l[i]? with
  | none => rw [hx] at h; cases h
  | some x => rw [hx] at h; exact ⟨x, rfl, Option.some.inj h⟩

theorem buildSlice_run (hT : TabOk P X) {T esz eb ety len : Nat} (hk : tk X T = .slice esz eb ety) {m : Array (Nat × Value)} (hl : len * esz ≤ 16777216) {Q : Array Value → Prop}
    (hz : ∀ zero : Array Value, ∃ cur, Instr.fill (fun i => some (i * esz, esz)) ((Array.range (len * esz)).map (fun i => zero[i % zero.size]!)) m.toList = some cur ∧ Q cur) (w : World) (h1 : 0 < tsz X ety) :
    ∃ cur, Q cur ∧ (Instr.buildSlice T len m).run P w = .ok (.slice (some ⟨w.heap.size, 0, none⟩) len len) { w with heap := w.heap.push (.cells cur ety) } := by
  obtain ⟨hu, I, i1, i2, i3, i4, i5⟩ := und_slice hT hk
  obtain ⟨I', z, j1, j2, j3, j4, j5⟩ := zero_ent (ρ := ⟨w, fun n => n, fun _ => False, []⟩) hT h1
  have hzz : (zeroValue ety).run P w = .ok z w := by simp [zeroValue, typeInfo, j1, j3]
  have hn : ¬ (len * esz > 2 ^ 24) := by omega
  by_cases h0 : len * esz = 0
  · obtain ⟨cur, c1, c2⟩ := hz #[]
    refine ⟨cur, c2, ?_⟩
    simp only [Instr.buildSlice, Sem.run_bind, run_underlying hu, Result.andThen_ok, run_sizeOf' i1, i2, hn, if_false]
    rw [h0] at c1 ⊢
    simp only [if_true]
    simp only [Sem.run_pure, Result.andThen_ok, c1, newRow, Sem.run_bind, run_newObj]
  · obtain ⟨cur, c1, c2⟩ := hz z.cells
    refine ⟨cur, c2, ?_⟩
    simp only [Instr.buildSlice, Sem.run_bind, run_underlying hu, Result.andThen_ok, run_sizeOf' i1, i2, hn, if_false]
    simp only [h0, if_false, Sem.run_bind, hzz, Result.andThen_ok, Sem.run_pure, c1, newRow, run_newObj]

theorem buildSlice_does (hT : TabOk P X) (ho : Ok ρ) {T esz eb ety len : Nat} (hk : tk X T = .slice esz eb ety) {ps : List (Nat × AV)} {m : Array (Nat × Value)} (hp : PartsR ρ ps m.toList) {l : List AV} {mk : Bool}
    (hio : inOrder 0 ps = some l) (hc : (Nat.beq l.length len && allSized esz l && !anyU l && Nat.ble (len * esz) 16777216) = true) {v : AV} {h' : List Blk} {lk lk' : Bool}
    (h : (match (generalizing := false) l with
          | [] => hand .nilS ρ.h lk
          | v :: r => bif anyRef (v :: r) || mk then
              hand (.own ρ.h.length 0) (push ρ.h ⟨esz, ety, (v :: r).map (canonV X ety), false, anyRef (v :: r), false, 0⟩) lk
            else hand (.lst esz ((v :: r).map (canonV X ety))) ρ.h lk) = some (v, h', lk')) : Does P ρ (nv (Instr.buildSlice T len m)) v h' := by
  simp only [Bool.and_eq_true, Bool.not_eq_true'] at hc
  have hlen := Nat.eq_of_beq_eq_true hc.1.1.1
  have hal := allSized_mem hc.1.1.2
  have hau := anyU_mem hc.1.2
  have hsm := Nat.le_of_ble_eq_true hc.2
  subst hlen
  obtain ⟨_, _, _, _, _, i4, i5⟩ := und_slice hT hk
  have h1 : 0 < tsz X ety := by omega
  obtain ⟨cur, ⟨c2, c3⟩, hrun⟩ := buildSlice_run hT hk (len := l.length) (m := m) hsm (Q := fun cur => cur.size = l.length * esz ∧
      ∀ (i : Nat) (e : AV), l[i]? = some e → ∃ us : List Value, us.length = esz ∧ (∀ (j : Nat) (u : Value), us[j]? = some u → cur[i * esz + j]? = some u) ∧ ElemR ρ e us) (fun zero => by
    obtain ⟨cur', c1, c2, _, c4⟩ := fill_order (ρ := ρ) i4 (cur := (Array.range (l.length * esz)).map (fun i => zero[i % zero.size]!)) hp hio hal hau (by simp)
    refine ⟨cur', c1, by simpa using c2, fun i e hi => ?_⟩
    obtain ⟨us, u1, u2, u3⟩ := c4 i e hi
    exact ⟨us, u1, fun j u hj => by have := u2 j u hj; rwa [Nat.zero_add] at this, u3⟩) ρ.w h1
  obtain ⟨p1, p2, p3⟩ := pushed (w := ρ.w) (o := .cells cur ety) (d := ρ.w.drawn)
  have hlb : l.length ≤ bigN := by
    have : l.length * 1 ≤ l.length * esz := Nat.mul_le_mul_left _ i4
    unfold bigN
    omega
  have hmapel : ∀ (i : Nat) (e : AV), (l.map (canonV X ety))[i]? = some e → ∃ us : List Value, us.length = esz ∧ (∀ (j : Nat) (u : Value), us[j]? = some u → cur[i * esz + j]? = some u) ∧ ElemR ρ e us := by
    intro i e hi
    obtain ⟨x, hx, rfl⟩ := map_get hi
    obtain ⟨us, u1, u2, u3⟩ := c3 i x hx
    exact ⟨us, u1, u2, (canonV_elem u3).1⟩
  have hmapnil : ∀ e ∈ l.map (canonV X ety), noNil e := by
    intro e he
    obtain ⟨i, hi⟩ := List.getElem?_of_mem he
    obtain ⟨x, hx, rfl⟩ := map_get hi
    obtain ⟨us, u1, u2, u3⟩ := c3 i x hx
    exact (canonV_elem u3).2
  have hmapref : anyRef l = false → ∀ e ∈ l.map (canonV X ety), valRef e = false := by
    intro hr e he
    obtain ⟨x, hx, rfl⟩ := List.mem_map.1 he
    exact canonV_ref (anyRef_mem hr x hx)
  cases l with
  | nil =>
    injection h with e
    injection e with e1 e2
    injection e2 with e2 e3
    subst e1 e2
    exact ⟨_, _, _, _, _, run_nv hrun, .inl rfl, nx_grow ho rfl rfl rfl (by omega) p2, ⟨_, rfl⟩⟩
  | cons v0 r =>
    cases hm : anyRef (v0 :: r) || mk with
    | true =>
      simp only [hm, cond_true] at h
      injection h with e
      injection e with e1 e2
      injection e2 with e2 e3
      subst e1 e2
      obtain ⟨n1, n2⟩ := own_new ho (w' := { ρ.w with heap := ρ.w.heap.push (.cells cur ety) }) (b := ⟨esz, ety, (v0 :: r).map (canonV X ety), false, anyRef (v0 :: r), false, 0⟩) (cap := (v0 :: r).length)
        rfl rfl rfl p1 p2 p3 i4 hmapnil hmapref rfl (by simpa using hlb) (by simp) (by simp) (by rw [c2]; exact Nat.le_refl _) hmapel
      have e0 : ((v0 :: r).map (canonV X ety)).length = (v0 :: r).length := by simp
      rw [e0] at n2
      exact ⟨_, _, _, _, _, run_nv hrun, .inl rfl, n1, n2⟩
    | false =>
      simp only [hm, cond_false] at h
      injection h with e
      injection e with e1 e2
      injection e2 with e2 e3
      subst e1 e2
      have hr : anyRef (v0 :: r) = false := by simp only [Bool.or_eq_false_iff] at hm; exact hm.1
      have hnx := nx_zore ho (w' := { ρ.w with heap := ρ.w.heap.push (.cells cur ety) }) rfl rfl rfl p1 p2
      refine ⟨_, _, _, _, _, run_nv hrun, .inl rfl, hnx, ?_⟩
      have e0 : ((v0 :: r).map (canonV X ety)).length = (v0 :: r).length := by simp
      have hch : ∀ i : Nat, ∃ us : List Value, ∀ e : AV, ((v0 :: r).map (canonV X ety))[i]? = some e → us.length = esz ∧ (∀ (j : Nat) (u : Value), us[j]? = some u → cur[i * esz + j]? = some u) ∧ ElemR ρ e us := by
        intro i
        cases hi : ((v0 :: r).map (canonV X ety))[i]? with
        | none => exact ⟨[], fun e h => by cases h⟩
        | some e =>
          obtain ⟨us, hus⟩ := hmapel i e hi
          exact ⟨us, fun e' h => by injection h with h; subst h; exact hus⟩
      obtain ⟨us, hus⟩ := Classical.axiomOfChoice hch
      show RR { ρ.w with heap := ρ.w.heap.push (.cells cur ety) } (fun k => ρ.Z k ∨ k = ρ.w.heap.size) (.lst esz ((v0 :: r).map (canonV X ety))) [.slice (some ⟨ρ.w.heap.size, 0, none⟩) (v0 :: r).length (v0 :: r).length]
      rw [← e0]
      refine RR.lst esz _ _ _ us (.inr rfl) (Nat.le_refl _) (by rw [e0]; exact hlb) (fun i hi => (hus i _ (List.getElem?_eq_getElem hi)).1) (fun i j u hi hj => ?_) (fun i e hi => ?_)
      · have := (hus i _ (List.getElem?_eq_getElem hi)).2.1 j u hj
        unfold cellOf
        rw [addr_add, cell_at p3 (i * esz + j) (by omega)]
        exact this
      · obtain ⟨_, _, q⟩ := hus i e hi
        have hmem := List.mem_of_getElem? hi
        exact elem_rr (ρ := ρ.zore { ρ.w with heap := ρ.w.heap.push (.cells cur ety) }) (q.le hnx.le) (hmapref hr e hmem) (hmapnil e hmem)

/-! ### make -/

theorem makeSlice_does (hT : TabOk P X) (ho : Ok ρ) {T esz eb ety : Nat} (hk : tk X T = .slice esz eb ety) {n m : IntKind × Int} {lv cv : Value} (hlv : ValR ρ (.int n.1 n.2) lv) (hcv : ValR ρ (.int m.1 m.2) cv)
    (hc : (n.2 == m.2 && leI 0 n.2 && fits n.2.toNat eb && !valRef (zeroCanon X ety)) = true) :
    Does P ρ (nv (Instr.makeSlice T lv cv)) (.own ρ.h.length 0) (push ρ.h ⟨esz, ety, List.replicate n.2.toNat (zeroCanon X ety), false, false, false, 0⟩) := by
  simp only [Bool.and_eq_true, Bool.not_eq_true', beq_iff_eq, leI_iff] at hc
  obtain ⟨⟨⟨h1, h2⟩, h3⟩, h4⟩ := hc
  unfold fits limitB at h3
  simp only [Bool.and_eq_true, decide_eq_true_eq] at h3
  obtain ⟨rfl, _⟩ := vr_int.1 hlv
  obtain ⟨rfl, _⟩ := vr_int.1 hcv
  obtain ⟨hu, I, i1, i2, i3, i4, i5⟩ := und_slice hT hk
  have hts : 0 < tsz X ety := by omega
  obtain ⟨I', z, j1, j2, j3, j4, j5, j6, j7, j8, j9, j10, j11⟩ := zero_ent (ρ := ρ) hT hts
  have hw1 : IntKind.i64.wrap n.2 = n.2 := wrap_has (by rw [has_iff]; simp [IntKind.min, IntKind.max, IntKind.signed, IntKind.bits]; omega)
  obtain ⟨N, hN⟩ : ∃ N : Nat, n.2 = N := ⟨n.2.toNat, by omega⟩
  rw [hN] at h1 hw1 h3 ⊢
  rw [← h1]
  simp only [Int.toNat_natCast] at h3 ⊢
  let zz : Array Value := if N * esz = 0 then #[] else z.cells
  let cur : Array Value := (Array.range (N * esz)).map fun i => zz[i % zz.size]!
  have hrun : (Instr.makeSlice T (.int n.1 N) (.int m.1 N)).run P ρ.w = .ok (.slice (some ⟨ρ.w.heap.size, 0, none⟩) N N) { ρ.w with heap := ρ.w.heap.push (.cells cur ety) } := by
    have hzv : (zeroValue ety).run P ρ.w = .ok z ρ.w := by simp [zeroValue, typeInfo, j1, j3]
    have hty : (typeInfo ety).run P ρ.w = .ok I ρ.w := by simp [typeInfo, i1]
    have hneg : ¬ ((N : Int) < 0) := by omega
    have hbig : ¬ ((I.bytes : Int) * (N : Int) > 2 ^ 48) := by
      have := h3.1
      rw [i3]
      have e : ((eb : Int) * (N : Int)) = ((N * eb : Nat) : Int) := by rw [Nat.mul_comm]; simp
      rw [e]
      have : ((N * eb : Nat) : Int) ≤ 70368744177664 := by omega
      omega
    simp only [Instr.makeSlice, Sem.run_bind, run_underlying hu, Result.andThen_ok, asInt, asIntOf, Sem.run_pure, hty, hw1, run_askRoom, run_sizeOf' i1, i2]
    simp only [hneg, hbig, decide_false, Bool.false_or, Int.lt_irrefl, Bool.or_false, Bool.false_eq_true, if_false, Int.toNat_natCast, gt_iff_lt, Sem.run_bind, run_askRoom, Result.andThen_ok, run_sizeOf' i1, i2]
    by_cases h0 : N * esz = 0
    · simp only [h0, if_true, Sem.run_pure, Result.andThen_ok, newRow, Sem.run_bind, run_newObj]
      simp only [cur, zz, h0, if_true]
    · simp only [h0, if_false, Sem.run_pure, Result.andThen_ok, newRow, Sem.run_bind, run_newObj, hzv]
      simp only [cur, zz, h0, if_false]
  obtain ⟨p1, p2, p3⟩ := pushed (w := ρ.w) (o := .cells cur ety) (d := ρ.w.drawn)
  obtain ⟨q1, q2⟩ := shape_elem (ag := isAgg (tk X ety)) j6 (fun h => by rw [j5]; exact j9 h)
  have hel : ∀ (i : Nat) (e : AV), (List.replicate N (zeroCanon X ety))[i]? = some e → i < N ∧ e = zeroCanon X ety := by
    intro i e hi
    have h5 := (List.getElem?_eq_some_iff.1 hi).1
    simp at h5
    rw [List.getElem?_replicate, if_pos h5] at hi
    exact ⟨h5, (Option.some.inj hi).symm⟩
  obtain ⟨n1, n2⟩ := own_new ho (w' := { ρ.w with heap := ρ.w.heap.push (.cells cur ety) }) (b := ⟨esz, ety, List.replicate N (zeroCanon X ety), false, false, false, 0⟩) (cap := N) (cur := cur)
    rfl rfl rfl p1 p2 p3 i4 (fun e he => by
      have := (List.mem_replicate.1 he).2
      subst this
      intro c hcm
      have : c ∈ tz X ety := by rw [← q2]; exact hcm
      exact j8 c this) (fun _ e he => by
      have := (List.mem_replicate.1 he).2
      subst this
      exact h4) rfl (by simp [bigN]; omega) (by simp) (fun he => by simpa using he) (by simp [cur]) (fun i e hi => by
      obtain ⟨hiN, rfl⟩ := hel i e hi
      have hNe : ¬ N * esz = 0 := by
        have : 0 < N * esz := Nat.mul_pos (by omega) i4
        omega
      refine ⟨z.cells.toList, by simp; omega, fun j u hj => ?_, q1⟩
      have hjl : j < esz := by
        have := (List.getElem?_eq_some_iff.1 hj).1
        simp at this
        omega
      have hij : i * esz + j < N * esz := by
        have : (i + 1) * esz ≤ N * esz := Nat.mul_le_mul_right _ (by omega)
        rw [Nat.add_mul] at this
        omega
      have hzs : zz.size = esz := by simp only [zz, hNe, if_false]; omega
      have hmod : (i * esz + j) % zz.size = j := by rw [hzs, Nat.add_comm, Nat.add_mul_mod_self_right, Nat.mod_eq_of_lt hjl]
      have hr : (Array.range (N * esz))[i * esz + j]? = some (i * esz + j) := by rw [Array.getElem?_range, if_pos hij]
      have hzj : zz[j]? = some u := by
        have : zz = z.cells := if_neg hNe
        rw [this]
        simpa using hj
      show ((Array.range (N * esz)).map fun i => zz[i % zz.size]!)[i * esz + j]? = some u
      rw [Array.getElem?_map, hr, Option.map_some, hmod]
      rw [getElem!_def, hzj])
  have e0 : (List.replicate N (zeroCanon X ety)).length = N := by simp
  rw [e0] at n2
  exact ⟨_, _, _, _, _, run_nv hrun, .inl rfl, n1, n2⟩
end
end Go.Proofs.Ytiibidadpgknjaa.Fi
