/- What one operation does in the machine: clear; a slice with a bound. -/
import Derived.Test.YtiibidadpgknjaaOpK
namespace Go.Proofs.Ytiibidadpgknjaa.Fi
open Go

section
variable {P : Program} {X : Ctx} {ρ : R}

theorem hand_some' {v : AV} {h : List Blk} {l : Bool} {v' : AV} {h' : List Blk} {l' : Bool} (e : hand v h l = some (v', h', l')) : v = v' ∧ h = h' := by
  injection e with e
  injection e with e1 e2
  injection e2 with e2 e3
  exact ⟨e1, e2⟩
/-- Rows of zeros. -/
theorem zero_rows (hT : TabOk P X) {T esz eb ety : Nat} (hk : tk X T = .slice esz eb ety) : ∃ I z, P.info? ety = some I ∧ I.zero = some z ∧ (∀ N, (Builtin.zeroCells z.cells N).size = N * esz) ∧ (∀ N, ∀ u ∈ (Builtin.zeroCells z.cells N).toList, u.oneCell' = true) ∧
    noNil (zeroCanon X ety) ∧ ∀ (N i : Nat), i < N → ∃ us : List Value, us.length = esz ∧ (∀ (j : Nat) (u : Value), us[j]? = some u → (Builtin.zeroCells z.cells N)[i * esz + j]? = some u) ∧ ElemR ρ (zeroCanon X ety) us := by
  obtain ⟨hu, I, i1, i2, i3, i4, i5⟩ := und_slice hT hk
  have hts : 0 < tsz X ety := by omega
  obtain ⟨I', z, j1, j2, j3, j4, j5, j6, j7, j8, j9, j10, j11⟩ := zero_ent (ρ := ρ) hT hts
  rw [i1] at j1
  injection j1 with j1
  subst j1
  obtain ⟨q1, q2⟩ := shape_elem (ag := isAgg (tk X ety)) j6 (fun h => by rw [j5]; exact j9 h)
  have hzs : z.cells.size = esz := by omega
  have hsize : ∀ N, (Builtin.zeroCells z.cells N).size = N * esz := fun N => by rw [size_zeroCells, hzs]
  have hat : ∀ (N k : Nat), k < N * esz → (Builtin.zeroCells z.cells N)[k]? = z.cells[k % esz]? := by
    intro N k hk
    unfold Builtin.zeroCells
    have hr : (Array.range (N * z.cells.size))[k]? = some k := by rw [Array.getElem?_range, if_pos (by rw [hzs]; exact hk)]
    rw [Array.getElem?_map, hr, Option.map_some, hzs]
    have hlt : k % esz < z.cells.size := by rw [hzs]; exact Nat.mod_lt _ i4
    rw [Array.getElem?_eq_getElem hlt, getElem!_pos z.cells _ hlt]
  refine ⟨I, z, i1, j3, hsize, fun N u hu => ?_, fun c hc => j8 c (by rw [← q2]; exact hc), fun N i hi => ⟨z.cells.toList, by simp; omega, fun j u hj => ?_, q1⟩⟩
  · obtain ⟨k, hk⟩ := List.getElem?_of_mem hu
    have hkl : k < N * esz := by
      have := (List.getElem?_eq_some_iff.1 hk).1
      rw [Array.length_toList, hsize] at this
      exact this
    rw [Array.getElem?_toList, hat N k hkl] at hk
    exact j10 u (Array.mem_toList_iff.2 (Array.mem_of_getElem? hk))
  · have hjl : j < esz := by
      have := (List.getElem?_eq_some_iff.1 hj).1
      simp at this
      omega
    have hij : i * esz + j < N * esz := by
      have : (i + 1) * esz ≤ N * esz := Nat.mul_le_mul_right _ (by omega)
      rw [Nat.add_mul] at this
      omega
    rw [hat N _ hij]
    have hmod : (i * esz + j) % esz = j := by rw [Nat.add_comm, Nat.add_mul_mod_self_right, Nat.mod_eq_of_lt hjl]
    rw [hmod]
    simpa using hj

/-- Some rows of a named block are written. -/
theorem rows_upd (ho : Ok ρ) {n : Nat} {bsz bty : Nat} {els xs : List AV} {brf : Bool} {bver p : Nat} (hb : ρ.h[n]? = some ⟨bsz, bty, els, false, brf, false, bver⟩) (he0 : els ≠ []) {cur : Array Value} (c1 : ρ.w.heap[ρ.φ n]? = some (.cells cur bty (0, 0)))
    (hin : p + xs.length ≤ els.length) {news : Array Value} (hns : news.size = xs.length * bsz) (hel : ∀ (i : Nat) (e : AV), xs[i]? = some e → ∃ us : List Value, us.length = bsz ∧ (∀ (j : Nat) (u : Value), us[j]? = some u → news[i * bsz + j]? = some u) ∧ ElemR ρ e us)
    (hxc : ∀ e ∈ xs, noNil e) (hxr : ∀ e ∈ xs, valRef e = false) :
    p * bsz + news.toList.length ≤ cur.toList.length ∧ Nx ρ ⟨ρ.w.setRow (ρ.φ n) (seg cur.toList (p * bsz) news.toList).toArray, ρ.φ, ρ.Z, ρ.h.set n ⟨bsz, bty, splice els p xs, false, brf, false, bver⟩⟩ := by
  have hB := ho.blk n _ hb
  have hbl := hB.len
  simp only at hbl
  have hspl : (splice els p xs).length = els.length := splice_len (by omega)
  obtain ⟨cur0, c1', c2, c3, c4⟩ := hB.mem he0
  simp only at c1' c2 c3 c4
  rw [c1] at c1'
  injection c1' with c1'
  injection c1' with c1' _ _
  subst c1'
  have hnl2 : news.toList.length = xs.length * bsz := by rw [Array.length_toList, hns]
  have hrow : (p + xs.length) * bsz ≤ els.length * bsz := Nat.mul_le_mul_right _ hin
  have hfit2 : p * bsz + news.toList.length ≤ cur.toList.length := by
    have : cur.toList.length = cur.size := by simp
    rw [hnl2, this]; rw [Nat.add_mul] at hrow; omega
  refine ⟨hfit2, ?_⟩
  let cur' : Array Value := (seg cur.toList (p * bsz) news.toList).toArray
  have hcs : cur'.size = cur.size := by simp [cur', seg_len hfit2]
  have hself : (ρ.w.setRow (ρ.φ n) cur').heap[ρ.φ n]? = some (.cells cur' bty (0, 0)) := setRow_heap ρ.w _ cur cur' bty _ c1
  refine nx_upd ho hb he0 rfl (b' := ⟨bsz, bty, splice els p xs, false, brf, false, bver⟩) c1 (w' := ρ.w.setRow (ρ.φ n) cur') rfl rfl rfl setRow_size (fun k hk => setRow_other ρ.w _ k cur' hk) hself hcs rfl rfl rfl (Nat.le_refl _)
    (Nat.le_of_eq hspl.symm) (fun _ => hspl) (fun hle => ?_)
  refine ⟨hB.pos, fun _ e he => ?_, fun hr e he => ?_, fun h => (by cases h), by show (splice els p xs).length ≤ _; rw [hspl]; exact hbl, fun _ => ⟨cur', hself, fun _ => c2 trivial, by show (splice els p xs).length * bsz ≤ _; rw [hspl, hcs]; exact c3, fun i e hi => ?_⟩⟩
  · rcases mem_splice he with h | h
    · exact hB.can rfl e h
    · exact hxc e h
  · rcases mem_splice he with h | h
    · exact hB.rf hr e h
    · exact hxr e h
  · have hi' : (splice els p xs)[i]? = some e := hi
    have hil : i < els.length := by rw [← hspl]; exact (List.getElem?_eq_some_iff.1 hi').1
    by_cases hm : p ≤ i ∧ i < p + xs.length
    · obtain ⟨k, rfl⟩ : ∃ k, i = p + k := ⟨i - p, by omega⟩
      rw [splice_in (by omega) (by omega)] at hi'
      obtain ⟨us, u1, u2, u3⟩ := hel k e hi'
      have hkl := (List.getElem?_eq_some_iff.1 hi').1
      refine ⟨us, u1, fun j u hj => ?_, u3.le hle⟩
      show cur'[(p + k) * bsz + j]? = some u
      have hjl : j < bsz := by rw [← u1]; exact (List.getElem?_eq_some_iff.1 hj).1
      have hb9 : k * bsz + j < news.toList.length := by
        rw [hnl2]
        have : (k + 1) * bsz ≤ xs.length * bsz := Nat.mul_le_mul_right _ hkl
        rw [Nat.add_mul] at this
        omega
      have := seg_in hfit2 hb9
      have h9 := u2 j u hj
      rw [show (p + k) * bsz + j = p * bsz + (k * bsz + j) by rw [Nat.add_mul]; omega]
      simpa [cur'] using this.trans (by simpa using h9)
    · rw [splice_out (by omega) (by omega)] at hi'
      obtain ⟨us, u1, u2, u3⟩ := c4 i e hi'
      refine ⟨us, u1, fun j u hj => ?_, u3.le hle⟩
      show cur'[i * bsz + j]? = some u
      have hjl : j < bsz := by rw [← u1]; exact (List.getElem?_eq_some_iff.1 hj).1
      have hdis : i * bsz + j < p * bsz ∨ p * bsz + news.toList.length ≤ i * bsz + j := by
        by_cases hlt : i < p
        · left
          have : (i + 1) * bsz ≤ p * bsz := Nat.mul_le_mul_right _ hlt
          rw [Nat.add_mul] at this
          omega
        · right
          rw [hnl2]
          have : (p + xs.length) * bsz ≤ i * bsz := Nat.mul_le_mul_right _ (by omega)
          rw [Nat.add_mul] at this
          omega
      have := seg_out hfit2 hdis
      have h9 := u2 j u hj
      simpa [cur'] using this.trans (by simpa using h9)

theorem clear_run0 {T ty : Nat} {d : TypeDesc} (hu : P.underlying T = some d) (a : Option Addr) (cap : Nat) (w : World) : (Builtin.clear_ #[T] ty #[.slice a 0 cap]).run P w = .ok (.tuple #[]) w := by
  cases a <;> simp [Builtin.clear_, run_underlying hu]

theorem clear_run {T ty e : Nat} (hu : P.underlying T = some (.slice e)) {z : Value} (hz : ∀ w, (zeroValue e).run P w = .ok z w) {a : Addr} {m cap : Nat} {w w' : World} (hst : (storeCells a (Builtin.zeroCells z.cells (m + 1)).toList).run P w = .ok () w') :
    (Builtin.clear_ #[T] ty #[.slice (some a) (m + 1) cap]).run P w = .ok (.tuple #[]) w' := by
  simp [Builtin.clear_, run_underlying hu, hz, hst]

theorem clear_does (hT : TabOk P X) (ho : Ok ρ) {T ty esz eb ety : Nat} (hk : tk X T = .slice esz eb ety) {x v : AV} {xv : Value} (hx : ValR ρ x xv) {h' : List Blk} {l l' : Bool}
    (h : clearE X ρ.h l hand esz ety x = some (v, h', l')) : Does P ρ (nv (Builtin.clear_ #[T] ty #[xv])) v h' := by
  obtain ⟨hu, I0, k1, k2, k3, k4, k5⟩ := und_slice hT hk
  obtain ⟨I, z, i1, i2, i3, i4, i5, i6⟩ := zero_rows (ρ := ρ) hT hk
  unfold clearE at h
  cases hz : valRef (zeroCanon X ety) with
  | true => rw [hz] at h; cases h
  | false =>
    rw [hz, cond_false] at h
    have hzv : ∀ w, (zeroValue ety).run P w = .ok z w := fun w => by simp [zeroValue, typeInfo, i1, i2]
    have main : ∀ {n : Nat} {els : List AV} {brf : Bool} {bver p len cap : Nat} {a : Option Addr}, ρ.h[n]? = some ⟨esz, ety, els, false, brf, false, bver⟩ → p + len ≤ els.length → xv = .slice a len cap → (0 < len → a = some ⟨ρ.φ n, p * esz, none⟩) →
        Does P ρ (nv (Builtin.clear_ #[T] ty #[xv])) .undef (ρ.h.set n ⟨esz, ety, splice els p (List.replicate len (zeroCanon X ety)), false, brf, false, bver⟩) := by
      intro n els brf bver p len cap a hb hin hxv ha
      subst hxv
      by_cases h0 : len = 0
      · subst h0
        have he : splice els p (List.replicate 0 (zeroCanon X ety)) = els := by
          unfold splice
          rw [takeN_eq, dropN_eq]
          simp
        rw [he]
        have hs : ρ.h.set n ⟨esz, ety, els, false, brf, false, bver⟩ = ρ.h := by
          obtain ⟨hn, hx⟩ := List.getElem?_eq_some_iff.1 hb
          rw [← hx]
          exact List.set_getElem_self hn
        rw [hs]
        exact does_nv ho (clear_run0 hu a cap ρ.w) trivial
      · have hl0 : 0 < len := by omega
        obtain rfl := ha hl0
        have he0 : els ≠ [] := by intro hc; rw [hc] at hin; simp at hin; omega
        obtain ⟨cur, c1, _, _, _⟩ := (ho.blk n _ hb).mem he0
        simp only at c1
        obtain ⟨hfit, hnx⟩ := rows_upd ho hb he0 c1 (p := p) (xs := List.replicate len (zeroCanon X ety)) (by simpa using hin) (news := Builtin.zeroCells z.cells len) (by rw [i3]; simp)
          (fun i e hi => by
            have hil := (List.getElem?_eq_some_iff.1 hi).1
            simp at hil
            rw [List.getElem?_replicate, if_pos hil] at hi
            injection hi with hi
            subst hi
            exact i6 len i hil)
          (fun e he => by rw [(List.mem_replicate.1 he).2]; exact i5) (fun e he => by rw [(List.mem_replicate.1 he).2]; exact hz)
        have hst := run_storeCells_at P (ρ.φ n) (p * esz) ety (Builtin.zeroCells z.cells len).toList 0 cur ρ.w c1 (by simpa using hfit) (i4 len)
        rw [Nat.add_zero] at hst
        obtain ⟨m, rfl⟩ : ∃ m, len = m + 1 := ⟨len - 1, by omega⟩
        exact ⟨_, ρ.φ, ρ.Z, _, .tuple #[], run_nv (clear_run hu hzv hst), .inl rfl, hnx, trivial⟩
    have beq : ∀ {a b : Nat}, Nat.beq a b = true → a = b := fun h => Nat.eq_of_beq_eq_true h
    split at h
    · obtain ⟨rfl, rfl⟩ := hand_some' h
      obtain ⟨a, rfl⟩ := (show Cell0 ρ .nilS xv from hx)
      exact does_nv ho (clear_run0 hu a 0 ρ.w) trivial
    · rename_i n ver
      obtain ⟨b, hb0, h5⟩ := bind_some h
      obtain ⟨hb, hv⟩ := blkAt_some hb0
      obtain ⟨bsz, bty, els, box, brf, fz, bver⟩ := b
      simp only at h5 hv
      obtain ⟨hc, h6⟩ := cond_some h5
      simp only [Bool.and_eq_true, Bool.not_eq_true'] at hc
      obtain ⟨⟨⟨hfz, hb1⟩, hb2⟩, hbx⟩ := hc
      have hbs := beq hb1
      have hbt := beq hb2
      subst hbs hbt hv hfz hbx
      obtain ⟨rfl, rfl⟩ := hand_some' h6
      obtain ⟨_, b', hb', _, _, hp⟩ := (show Cell0 ρ (.own n bver) xv from hx)
      rw [hb] at hb'
      injection hb' with hb'
      subst hb'
      obtain ⟨a0, cap, hxv, hcl, hbg, hnil, hne⟩ := hp rfl
      rw [updAt_eq]
      exact main hb (by simp) hxv fun hl => by
        have := (hne (by intro hc; simp only at hc; rw [hc] at hl; simp at hl)).1
        rw [this]; simp
    · rename_i n ver off len
      obtain ⟨b, hb0, h5⟩ := bind_some h
      obtain ⟨hb, hv⟩ := blkAt_some hb0
      obtain ⟨bsz, bty, els, box, brf, fz, bver⟩ := b
      simp only at h5 hv
      obtain ⟨hc, h6⟩ := cond_some h5
      simp only [Bool.and_eq_true, Bool.not_eq_true'] at hc
      obtain ⟨⟨⟨hfz, hb1⟩, hb2⟩, hbx⟩ := hc
      have hbs := beq hb1
      have hbt := beq hb2
      subst hbs hbt hv hfz hbx
      obtain ⟨rfl, rfl⟩ := hand_some' h6
      obtain ⟨_, b', hb', _, _, hp⟩ := (show Cell0 ρ (.sl n bver off len) xv from hx)
      rw [hb] at hb'
      injection hb' with hb'
      subst hb'
      obtain ⟨a0, cap, hxv, hcl, hcl2, hbg, hnil, hne⟩ := hp rfl
      simp only at hcl hcl2
      rw [updAt_eq]
      exact main hb hcl hxv fun hl => hne (by omega)
    · cases h

/-- A slice with a bound on its room: it may be taken. -/
theorem slice3_does (hT : TabOk P X) {T : Nat} {x m : AV} {xv mv : Value} {lo hi : Option AV} {lv hv : Option Value} (hx : ValR ρ x xv) (hm : ValR ρ m mv)
    (hlo : lo = none ∧ lv = none ∨ ∃ a v, lo = some a ∧ lv = some v ∧ ValR ρ a v) (hhi : hi = none ∧ hv = none ∨ ∃ a v, hi = some a ∧ hv = some v ∧ ValR ρ a v)
    (h : slice3 ρ.h (tk X T) x lo hi m = true) : ∃ vv, (Instr.sliceAt T xv lv hv (some mv)).run P ρ.w = .ok vv ρ.w := by
  unfold slice3 at h
  split at h
  · rename_i len mi hlen hmi
    split at h
    · rename_i l u hl hu'
      simp only [Bool.and_eq_true, leI_iff] at h
      obtain ⟨⟨⟨h0, h1⟩, h2⟩, h3⟩ := h
      obtain ⟨hl0, hlu⟩ := between_some h1
      rw [asI_some hmi] at hm
      obtain ⟨rfl, _⟩ := vr_int.1 hm
      have hshape : ∃ a cap sz, xv = .slice a len cap ∧ eszIs (tk X T) sz = true ∧ len ≤ cap := by
        split at hlen
        · rename_i n ver
          obtain ⟨b, hb0, h5⟩ := bind_some hlen
          obtain ⟨hb, hv'⟩ := blkAt_some hb0
          obtain ⟨h6, h7⟩ := cond_some h5
          injection h7 with h7
          obtain ⟨_, b', hb', _, _, hp⟩ := (show Cell0 ρ (.own n ver) xv from hx)
          rw [hb] at hb'
          injection hb' with hb'
          subst hb'
          obtain ⟨a0, cap, hxv, hcl, _⟩ := hp hv'.symm
          rw [h7] at hxv hcl
          exact ⟨a0, cap, b.sz, hxv, h6, hcl⟩
        · rename_i n ver off len'
          obtain ⟨b, hb0, h5⟩ := bind_some hlen
          obtain ⟨hb, hv'⟩ := blkAt_some hb0
          obtain ⟨h6, h7⟩ := cond_some h5
          injection h7 with h7
          subst h7
          simp only [Bool.and_eq_true, decide_eq_true_eq] at h6
          obtain ⟨_, b', hb', _, _, hp⟩ := (show Cell0 ρ (.sl n ver off len') xv from hx)
          rw [hb] at hb'
          injection hb' with hb'
          subst hb'
          obtain ⟨a0, cap, hxv, hcl, hcl2, _⟩ := hp hv'.symm
          exact ⟨a0, cap, b.sz, hxv, h6.1, by omega⟩
        · cases hlen
      obtain ⟨a, cap, sz, rfl, hsz, hcap⟩ := hshape
      obtain ⟨eb, ety, hk⟩ := eszIs_eq hsz
      obtain ⟨hund, I, i1, i2, i3, i4, i5⟩ := und_slice hT hk
      have b1 := bound_low hl hlo
      have b2 := bound_low hu' hhi
      have hbd : ∃ r, (Instr.sliceBounds true len cap lv hv (some (.int mi.1 mi.2))).run P ρ.w = .ok r ρ.w := by
        have hu0 : 0 ≤ u := by omega
        have hm0 : 0 ≤ mi.2 := by omega
        have em : ((mi.2.toNat : Nat) : Int) = mi.2 := by omega
        have eu : ((u.toNat : Nat) : Int) = u := by omega
        have hmc : mi.2 ≤ (cap : Int) := by omega
        have hum : u ≤ mi.2 := h2
        obtain ⟨k', rfl⟩ : ∃ k, hv = some (.int k u) := by
          rcases b2 with ⟨h, _⟩ | h
          · rcases hhi with ⟨h', _⟩ | ⟨_, _, _, h', _⟩
            · rw [h'] at h0; cases h0
            · rw [h'] at h; cases h
          · exact h
        rcases b1 with ⟨rfl, rfl⟩ | ⟨k, rfl⟩ <;> simp [Instr.sliceBounds, Instr.sliceBound, asIntOf, hu0, hm0, em, eu, hmc, hum, hl0, hlu, h2]
      obtain ⟨⟨r1, r2, r3⟩, hr⟩ := hbd
      refine ⟨.slice (if r3 = r1 then a else a.map (·.add (r1 * sz))) (r2 - r1) (r3 - r1), ?_⟩
      simp only [Instr.sliceAt, Sem.run_bind, run_underlying hund, Result.andThen_ok, Instr.slice, hr, run_sizeOf' i1, i2, Sem.run_pure]
    · cases h
  · cases h
end
end Go.Proofs.Ytiibidadpgknjaa.Fi
