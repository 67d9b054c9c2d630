/- What one operation does in the machine: slices, parts, addresses, conversions. -/
import Derived.Test.YtiibidadpgknjaaOpC
import Derived.Laws.BytesArg
namespace Go.Proofs.Ytiibidadpgknjaa.Fi
open Go

section
variable {P : Program} {X : Ctx} {ρ : R}

theorem spot_none {w : World} {a : Addr} {u : Value} (h : w.cell? a = some u) : a = ⟨a.block, a.off, none⟩ := by
  unfold World.cell? at h
  split at h
  · split at h
    · cases h
    · rename_i hs
      cases a with
      | mk b o s => cases s with
        | none => rfl
        | some _ => simp at hs
  · cases h

theorem rr_cell {c : AV} {u : Value} (hc : isCell c = true) (h : RR ρ.w ρ.Z c [u]) : CellR ρ c u := by
  cases h with
  | bool b => exact RR.bool b
  | int k n h => exact RR.int k n h
  | str s h => exact RR.str s h
  | agg => cases hc
  | lst0 sz a cap => exact RR.lst0 sz a cap
  | lst sz l a cap us hz hcap hb hs hm hh => exact RR.lst sz l a cap us hz hcap hb hs hm hh
theorem rr_cells {cs : List AV} {us : List Value} (h : RR ρ.w ρ.Z (.agg cs) us) : CellsR ρ cs us := by
  cases h with
  | agg _ _ hl hc hh => exact CellsR.iff.2 ⟨hl, fun j c u h1 h2 => rr_cell (hc c (List.mem_of_getElem? h1)) (hh j c u h1 h2)⟩
theorem rr_elem {e : AV} {us : List Value} (h : RR ρ.w ρ.Z e us) : ElemR ρ e us := by
  cases h with
  | bool b => exact ⟨_, rfl, RR.bool b⟩
  | int k n h => exact ⟨_, rfl, RR.int k n h⟩
  | str s h => exact ⟨_, rfl, RR.str s h⟩
  | agg cs us hl hc hh => exact rr_cells (.agg cs us hl hc hh)
  | lst0 sz a cap => exact ⟨_, rfl, RR.lst0 sz a cap⟩
  | lst sz l a cap us hz hcap hb hs hm hh => exact ⟨_, rfl, RR.lst sz l a cap us hz hcap hb hs hm hh⟩
theorem rr_agg {w : World} {Z : Nat → Prop} {e : AV} {us : List Value} (h : RR w Z e us) : RR w Z (.agg (cells e)) us ∧ ∀ c ∈ cells e, isCell c = true := by
  have one : ∀ {c : AV} {u : Value}, isCell c = true → RR w Z c [u] → RR w Z (.agg [c]) [u] ∧ ∀ x ∈ [c], isCell x = true := fun {c u} hc h =>
    ⟨.agg [c] [u] rfl (by simpa using hc) (fun i d v h1 h2 => by
      cases i with
      | zero => simp at h1 h2; subst h1 h2; exact h
      | succ i => simp at h1), by simpa using hc⟩
  cases h with
  | bool b => exact one rfl (.bool b)
  | int k n h => exact one rfl (.int k n h)
  | str s h => exact one rfl (.str s h)
  | agg cs us hl hc hh => exact ⟨.agg cs us hl hc hh, hc⟩
  | lst0 sz a cap => exact one rfl (.lst0 sz a cap)
  | lst sz l a cap us hz hcap hb hs hm hh => exact one rfl (.lst sz l a cap us hz hcap hb hs hm hh)

/-- A slice that shows xs. -/
def Shows (ρ : R) (xv : Value) (sz : Nat) (xs : List AV) : Prop :=
  ∃ a cap, xv = .slice a xs.length cap ∧ xs.length ≤ cap ∧ xs.length ≤ bigN ∧ (xs ≠ [] → ∃ b o, a = some ⟨b, o, none⟩ ∧ b < ρ.w.heap.size ∧
    ∀ (i : Nat) (e : AV), xs[i]? = some e → ∃ us : List Value, us.length = sz ∧ ElemR ρ e us ∧ ∀ (j : Nat) (u : Value), us[j]? = some u → ρ.w.cell? ⟨b, o + (i * sz + j), none⟩ = some u)

theorem lst_shows (ho : Ok ρ) {sz : Nat} {l : List AV} {xv : Value} (hs0 : 0 < sz) (h : ValR ρ (.lst sz l) xv) : Shows ρ xv sz l := by
  cases (show RR ρ.w ρ.Z (.lst sz l) [xv] from h) with
  | lst0 _ a cap => exact ⟨a, cap, rfl, Nat.zero_le _, Nat.zero_le _, fun h => absurd rfl h⟩
  | lst _ _ a cap us hz hcap hb hs hm hh =>
    refine ⟨some a, cap, rfl, hcap, hb, fun hne => ?_⟩
    have hl : 0 < l.length := List.length_pos_iff.2 hne
    have hsp : a = ⟨a.block, a.off, none⟩ := by
      have h0 := hs 0 hl
      have := hm 0 0 (us 0)[0] hl (by simp)
      simp only [cellOf, Nat.zero_mul, Nat.add_zero, Addr.add_zero'] at this
      exact spot_none this
    refine ⟨a.block, a.off, by rw [← hsp], ho.zlt _ hz, fun i e hi => ?_⟩
    have hil : i < l.length := (List.getElem?_eq_some_iff.1 hi).1
    refine ⟨us i, hs i hil, rr_elem (hh i e hi), fun j u hj => ?_⟩
    have := hm i j u hil hj
    unfold cellOf at this
    rw [hsp, addr_add] at this
    exact this

theorem take_drop_at {α : Type} {l : List α} {off len i : Nat} {e : α} (h : (takeN len (dropN off l))[i]? = some e) : i < len ∧ l[off + i]? = some e := by
  rw [takeN_eq, dropN_eq] at h
  by_cases hi : i < len
  · rw [List.getElem?_take, if_pos hi, List.getElem?_drop] at h; exact ⟨hi, h⟩
  · rw [List.getElem?_take, if_neg hi] at h; cases h
theorem take_drop_len {α : Type} {l : List α} {off len : Nat} (h : off + len ≤ l.length) : (takeN len (dropN off l)).length = len := by
  rw [takeN_eq, dropN_eq]; simp; omega

theorem shown_shows (ho : Ok ρ) {x : AV} {xv : Value} {sz : Nat} {xs : List AV} {rf : Bool} (hs0 : 0 < sz) (h : ValR ρ x xv) (hs : shown ρ.h x = some (sz, xs, rf)) : Shows ρ xv sz xs := by
  unfold shown at hs
  split at hs
  · injection hs with e
    injection e with e1 e2
    injection e2 with e2 e3
    subst e1 e2
    exact lst_shows ho hs0 h
  · rename_i n ver
    obtain ⟨b, h1, h2⟩ := bind_some hs
    injection h2 with e
    injection e with e1 e2
    injection e2 with e2 e3
    subst e1 e2
    obtain ⟨hb, hv⟩ := blkAt_some h1
    obtain ⟨_, b', hb', _, _, hp⟩ := (show Cell0 ρ (.own n ver) xv from h)
    rw [hb] at hb'
    injection hb' with hb'
    subst hb'
    obtain ⟨a, cap, rfl, hc, hbg, h0, hne⟩ := hp hv.symm
    refine ⟨a, cap, rfl, hc, hbg, fun hx => ?_⟩
    obtain ⟨ha, _⟩ := hne hx
    obtain ⟨cur, c1, _, c3, c4⟩ := (ho.blk n b hb).mem hx
    refine ⟨ρ.φ n, 0, ha, ho.lt hb hx, fun i e hi => ?_⟩
    obtain ⟨us, u1, u2, u3⟩ := c4 i e hi
    refine ⟨us, u1, u3, fun j u hj => ?_⟩
    rw [cell_at c1 (i * b.sz + j) (by omega)]
    exact u2 j u hj
  · rename_i n ver off len
    obtain ⟨b, h1, h2⟩ := bind_some hs
    injection h2 with e
    injection e with e1 e2
    injection e2 with e2 e3
    subst e1 e2
    obtain ⟨hb, hv⟩ := blkAt_some h1
    obtain ⟨_, b', hb', _, _, hp⟩ := (show Cell0 ρ (.sl n ver off len) xv from h)
    rw [hb] at hb'
    injection hb' with hb'
    subst hb'
    obtain ⟨a, cap, rfl, hc, hc2, hbg, h0, hne⟩ := hp hv.symm
    have hlen := take_drop_len hc
    refine ⟨a, cap, by rw [hlen], by omega, by omega, fun hx => ?_⟩
    have hl0 : 0 < len := by
      have := List.length_pos_iff.2 hx
      omega
    have hx' : b.els ≠ [] := by intro hc'; rw [hc'] at hc; simp at hc; omega
    have ha := hne (by omega)
    obtain ⟨cur, c1, _, c3, c4⟩ := (ho.blk n b hb).mem hx'
    refine ⟨ρ.φ n, off * b.sz, ha, ho.lt hb hx', fun i e hi => ?_⟩
    obtain ⟨hi, he⟩ := take_drop_at hi
    obtain ⟨us, u1, u2, u3⟩ := c4 (off + i) e he
    refine ⟨us, u1, u3, fun j u hj => ?_⟩
    rw [cell_at c1 ((off + i) * b.sz + j) (by rw [Nat.add_mul]; omega)]
    exact u2 j u hj
  · cases hs

/-! ### Lengths -/

theorem has_i64 {n : Nat} (h : n ≤ bigN) : IntKind.i64.has (n : Int) := by
  unfold bigN at h
  rw [has_iff]
  simp [IntKind.min, IntKind.max, IntKind.signed, IntKind.bits]
  omega
theorem isSlice_eq {k : TK} (h : isSlice k = true) : ∃ a b c, k = .slice a b c := by
  cases k <;> simp [isSlice] at h
  exact ⟨_, _, _, rfl⟩
theorem len_does (hT : TabOk P X) {T ty : Nat} {x : AV} {xv : Value} {n : Nat} (hx : ValR ρ x xv) (h : lenOf ρ.h (tk X T) x = some n) :
    ∃ vv, (Builtin.len_ #[T] ty #[xv]).run P ρ.w = .ok vv ρ.w ∧ ValR ρ (.int .i64 n) vv := by
  have hsl : ∀ {a : Option Addr} {n cap : Nat}, isSlice (tk X T) = true → n ≤ bigN → ∃ vv, (Builtin.len_ #[T] ty #[.slice a n cap]).run P ρ.w = .ok vv ρ.w ∧ ValR ρ (.int .i64 n) vv := by
    intro a n cap hk hn
    obtain ⟨esz, eb, ety, hk⟩ := isSlice_eq hk
    obtain ⟨hu, _⟩ := und_slice hT hk
    exact ⟨.int .i64 n, by simp [Builtin.len_, run_underlying hu, goInt], vr_int.2 ⟨rfl, has_i64 hn⟩⟩
  unfold lenOf at h
  split at h
  · rename_i sz l
    obtain ⟨hk, h2⟩ := cond_some h
    injection h2 with e
    subst e
    cases (show RR ρ.w ρ.Z (.lst sz l) [xv] from hx) with
    | lst0 _ a cap => exact hsl hk (Nat.zero_le _)
    | lst _ _ a cap us hz hcap hb hs hm hh => exact hsl hk hb
  · obtain ⟨hk, h2⟩ := cond_some h
    injection h2 with e
    subst e
    obtain ⟨a, rfl⟩ := (show Cell0 ρ .nilS xv from hx)
    exact hsl hk (Nat.zero_le _)
  · rename_i m ver
    obtain ⟨hk, h2⟩ := cond_some h
    obtain ⟨b, h1, h3⟩ := bind_some h2
    injection h3 with e
    subst e
    obtain ⟨hb, hv⟩ := blkAt_some h1
    obtain ⟨_, b', hb', _, _, hp⟩ := (show Cell0 ρ (.own m ver) xv from hx)
    rw [hb] at hb'
    injection hb' with hb'
    subst hb'
    obtain ⟨a, cap, rfl, hc, hbg, h0, hne⟩ := hp hv.symm
    exact hsl hk hbg
  · rename_i m ver off len
    obtain ⟨hk, h2⟩ := cond_some h
    obtain ⟨b, h1, h3⟩ := bind_some h2
    injection h3 with e
    subst e
    obtain ⟨hb, hv⟩ := blkAt_some h1
    obtain ⟨_, b', hb', _, _, hp⟩ := (show Cell0 ρ (.sl m ver off len) xv from hx)
    rw [hb] at hb'
    injection hb' with hb'
    subst hb'
    obtain ⟨a, cap, rfl, hc, hc2, hbg, h0, hne⟩ := hp hv.symm
    exact hsl hk hbg
  · rename_i s
    split at h
    · rename_i hk
      injection h with e
      subst e
      obtain ⟨rfl, hl⟩ := vr_str.1 hx
      refine ⟨.int .i64 s.length, ?_, vr_int.2 ⟨rfl, has_i64 hl⟩⟩
      have : (Builtin.len_ #[T] ty #[.string ⟨s.toArray⟩]).run P ρ.w = .ok (goInt (ByteArray.mk s.toArray).size) ρ.w := by
        simp [Builtin.len_, run_underlying (und_str hT hk)]
      rw [this]
      rfl
    · cases h
  · cases h

/-! ### Addresses -/

theorem field_does (hT : TabOk P X) {T f : Nat} {x v : AV} {xv : Value} (hx : ValR ρ x xv) {p : Nat × Nat × Bool} (hp : nth (fieldsOf (tk X T)) f = some p) {cs : List AV} (hc : x = .agg cs)
    (hl : p.1 + p.2.1 ≤ cs.length) (hv : v = partOf p.2.2 (.agg cs) p.1 p.2.1) : ∃ vv, (Instr.field T xv f).run P ρ.w = .ok vv ρ.w ∧ ValR ρ v vv := by
  subst hc hv
  obtain ⟨us, rfl, hr⟩ := hx
  cases hk : tk X T <;> rw [hk] at hp <;> simp only [fieldsOf] at hp <;> first | (cases hp; done) | skip
  obtain ⟨F, f1, f2, f3⟩ := und_agg hT hk
  obtain ⟨g, I, g1, g2, g3, g4, g5, g6⟩ := f3 f p (nth_some hp)
  obtain ⟨vv, r1, r2⟩ := part_does (P := P) g3 g4 g6 g5 hr hl
  refine ⟨vv, ?_, r2⟩
  simp only [Instr.field, Sem.run_bind, run_underlying f1, Result.andThen_ok, g1, Go.asAgg, Sem.run_pure, g2, r1]

theorem fieldAddr_does (hT : TabOk P X) {T f b o : Nat} {p : Nat × Nat × Bool} (hp : nth (fieldsOf (tk X T)) f = some p) (w : World) :
    (Instr.fieldAt T (.pointer (some ⟨b, o, none⟩)) f).run P w = .ok (.pointer (some ⟨b, o + p.1, none⟩)) w := by
  cases hk : tk X T <;> rw [hk] at hp <;> simp only [fieldsOf] at hp <;> first | (cases hp; done) | skip
  obtain ⟨F, f1, f2, f3⟩ := und_agg hT hk
  obtain ⟨g, I, g1, g2, g3, g4, g5, g6⟩ := f3 f p (nth_some hp)
  have h0 : I.size ≠ 0 := by omega
  simp only [Instr.fieldAt, Sem.run_bind, run_underlying f1, Result.andThen_ok, g1, Instr.sureAddr, Sem.run_pure, fieldPlace, run_sizeOf' g3, h0, if_false, addr_add, g2]

theorem indexAt_run (hT : TabOk P X) {T esz eb ety : Nat} (hk : tk X T = .slice esz eb ety) {b o len cap : Nat} {k : IntKind} {i : Int} (h0 : 0 ≤ i) (h1 : i < len) (w : World) :
    (Instr.indexAt T (.slice (some ⟨b, o, none⟩) len cap) (.int k i)).run P w = .ok (.pointer (some ⟨b, o + i.toNat * esz, none⟩)) w := by
  obtain ⟨hu, I, i1, i2, i3, i4, i5⟩ := und_slice hT hk
  simp only [Instr.indexAt, asIntOf, Sem.run_bind, Sem.run_pure, Result.andThen_ok, run_underlying hu, h0, h1, and_self, if_true, run_sizeOf' i1, i2, addr_add]

theorem below_some {x : Int} {n : Nat} (h : below x n = true) : 0 ≤ x ∧ x < n := by
  unfold below at h
  simpa [leI_iff, ltI_iff] using h

theorem indexAddr_does (hT : TabOk P X) (ho : Ok ρ) {T esz eb ety : Nat} (hk : tk X T = .slice esz eb ety) {x v : AV} {xv iv : Value} {n : IntKind × Int} (hi : ValR ρ (.int n.1 n.2) iv) (hx : ValR ρ x xv)
    {h' : List Blk} {l l' : Bool}
    (h : (match (generalizing := false) x with
          | .lst sz l0 => bif Nat.beq sz esz && below n.2 l0.length then (nth l0 n.2.toNat).bind fun e => hand (.rptr (cells e) 0) ρ.h l else none
          | .own m ver => (blkAt ρ.h m ver).bind fun b => bif Nat.beq b.sz esz && below n.2 b.els.length then hand (.ptr m ver n.2.toNat 0) ρ.h l else none
          | .sl m ver off len => (blkAt ρ.h m ver).bind fun b => bif Nat.beq b.sz esz && below n.2 len && decide (off + n.2.toNat < b.els.length) then hand (.ptr m ver (off + n.2.toNat) 0) ρ.h l else none
          | _ => none) = some (v, h', l')) : Does P ρ (nv (Instr.indexAt T xv iv)) v h' := by
  obtain ⟨rfl, _⟩ := vr_int.1 hi
  obtain ⟨_, _, _, _, _, h0s, _⟩ := und_slice hT hk
  split at h
  · rename_i sz l0
    obtain ⟨h1, h2⟩ := cond_some h
    simp only [Bool.and_eq_true] at h1
    have e1 := Nat.eq_of_beq_eq_true h1.1
    subst e1
    obtain ⟨k1, k2⟩ := below_some h1.2
    obtain ⟨e, h3, h4⟩ := bind_some h2
    injection h4 with e4
    injection e4 with e4 e5
    injection e5 with e5 e6
    subst e4 e5
    have he := nth_some h3
    have hil : n.2.toNat < l0.length := (List.getElem?_eq_some_iff.1 he).1
    cases (show RR ρ.w ρ.Z (.lst sz l0) [xv] from hx) with
    | lst0 _ a cap => simp at he
    | lst _ _ a cap us hz hcap hb hs hm hh =>
      have hsp : a = ⟨a.block, a.off, none⟩ := by
        have hl : 0 < l0.length := by omega
        have h0 := hs 0 hl
        have := hm 0 0 (us 0)[0] hl (by simp)
        simp only [cellOf, Nat.zero_mul, Nat.add_zero, Addr.add_zero'] at this
        exact spot_none this
      have hr := hh n.2.toNat e he
      refine does_nv ho (vv := .pointer (some ⟨a.block, a.off + n.2.toNat * sz, none⟩)) ?_ ?_
      · have := indexAt_run hT hk (b := a.block) (o := a.off) (len := l0.length) (cap := cap) (k := n.1) k1 k2 ρ.w
        rw [← hsp] at this
        exact this
      · obtain ⟨r1, r2⟩ := rr_agg hr
        refine ⟨a.block, a.off + n.2.toNat * sz, us n.2.toNat, by rw [Nat.add_zero], hz, hr.length, r2, fun j u hj => ?_, r1⟩
        have := hm n.2.toNat j u hil hj
        unfold cellOf at this
        rw [hsp, addr_add] at this
        rw [← this]
        show ρ.w.cell? _ = _
        congr 2
        omega
  · rename_i m ver
    obtain ⟨b, h1, h2⟩ := bind_some h
    obtain ⟨h3, h4⟩ := cond_some h2
    simp only [Bool.and_eq_true] at h3
    have e1 := Nat.eq_of_beq_eq_true h3.1
    obtain ⟨k1, k2⟩ := below_some h3.2
    injection h4 with e4
    injection e4 with e4 e5
    injection e5 with e5 e6
    subst e4 e5
    obtain ⟨hb, hv⟩ := blkAt_some h1
    obtain ⟨_, b', hb', _, _, hp⟩ := (show Cell0 ρ (.own m ver) xv from hx)
    rw [hb] at hb'
    injection hb' with hb'
    subst hb'
    obtain ⟨a, cap, rfl, hc, hbg, h0, hne⟩ := hp hv.symm
    have hne' : b.els ≠ [] := by intro hc'; rw [hc'] at k2; simp at k2; omega
    obtain ⟨rfl, _⟩ := hne hne'
    refine does_nv ho (indexAt_run hT hk k1 k2 ρ.w) ?_
    refine ⟨rfl, b, hb, by omega, fun _ => ⟨by omega, ?_⟩⟩
    rw [e1]
    simp
  · rename_i m ver off len
    obtain ⟨b, h1, h2⟩ := bind_some h
    obtain ⟨h3, h4⟩ := cond_some h2
    simp only [Bool.and_eq_true] at h3
    have e1 := Nat.eq_of_beq_eq_true h3.1.1
    obtain ⟨k1, k2⟩ := below_some h3.1.2
    have k3 := of_decide_eq_true h3.2
    injection h4 with e4
    injection e4 with e4 e5
    injection e5 with e5 e6
    subst e4 e5
    obtain ⟨hb, hv⟩ := blkAt_some h1
    obtain ⟨_, b', hb', _, _, hp⟩ := (show Cell0 ρ (.sl m ver off len) xv from hx)
    rw [hb] at hb'
    injection hb' with hb'
    subst hb'
    obtain ⟨a, cap, rfl, hc, hc2, hbg, h0, hne⟩ := hp hv.symm
    obtain rfl := hne (by omega)
    refine does_nv ho (indexAt_run hT hk k1 k2 ρ.w) ?_
    refine ⟨rfl, b, hb, by omega, fun _ => ⟨by omega, ?_⟩⟩
    rw [← e1, Nat.add_mul]
    simp
  · cases h
end
end Go.Proofs.Ytiibidadpgknjaa.Fi
