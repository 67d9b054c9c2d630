/- What one operation does in the machine: append, whole. -/
import Derived.Test.YtiibidadpgknjaaOpJ
namespace Go.Proofs.Ytiibidadpgknjaa.Fi
open Go

section
variable {P : Program} {X : Ctx} {ρ : R}

theorem src_of (ho : Ok ρ) {esz sz : Nat} {x : AV} {xv : Value} {xs : List AV} {rf : Bool} (h0 : 0 < esz) (hx : ValR ρ x xv)
    (h : (match (generalizing := false) x with
     | .nilS => some (esz, [], false)
     | .str b => some (1, b.map byteV, false)
     | x => shown ρ.h x) = some (sz, xs, rf)) (hs : sz = esz) : ∃ news, Src P ρ esz xv xs rf news := by
  subst hs
  split at h
  · injection h with e
    injection e with e1 e2
    injection e2 with e2 e3
    subst e2 e3
    exact ⟨_, nil_src hx⟩
  · injection h with e
    injection e with e1 e2
    injection e2 with e2 e3
    subst e1 e2 e3
    exact ⟨_, str_src hx⟩
  · obtain ⟨g1, g2⟩ := shown_good ho hx h
    exact shows_src h0 (shown_shows ho h0 hx h) g1 g2

/-- A row of old elements, new ones and some more. -/
theorem cat_rows {esz : Nat} {els xs : List AV} {olds news more : Array Value} {v1 v2 : Value} {r1 r2 : Bool} (ho : Src P ρ esz v1 els r1 olds) (hn : Src P ρ esz v2 xs r2 news) :
    ∀ (i : Nat) (e : AV), (els ++ xs)[i]? = some e → ∃ us : List Value, us.length = esz ∧ (∀ (j : Nat) (u : Value), us[j]? = some u → (olds ++ news ++ more)[i * esz + j]? = some u) ∧ ElemR ρ e us := by
  intro i e hi
  by_cases hl : i < els.length
  · rw [List.getElem?_append_left hl] at hi
    obtain ⟨us, u1, u2, u3⟩ := ho.el i e hi
    refine ⟨us, u1, fun j u hj => ?_, u3⟩
    have hjl : j < esz := by rw [← u1]; exact (List.getElem?_eq_some_iff.1 hj).1
    have hb : i * esz + j < olds.size := by
      rw [ho.size]
      have : (i + 1) * esz ≤ els.length * esz := Nat.mul_le_mul_right _ hl
      rw [Nat.add_mul] at this
      omega
    rw [Array.getElem?_append_left (by simp; omega), Array.getElem?_append_left hb]
    exact u2 j u hj
  · rw [List.getElem?_append_right (by omega)] at hi
    obtain ⟨k, rfl⟩ : ∃ k, i = els.length + k := ⟨i - els.length, by omega⟩
    rw [show els.length + k - els.length = k by omega] at hi
    obtain ⟨us, u1, u2, u3⟩ := hn.el k e hi
    have hkl := (List.getElem?_eq_some_iff.1 hi).1
    refine ⟨us, u1, fun j u hj => ?_, u3⟩
    have hjl : j < esz := by rw [← u1]; exact (List.getElem?_eq_some_iff.1 hj).1
    have hb : k * esz + j < news.size := by
      rw [hn.size]
      have : (k + 1) * esz ≤ xs.length * esz := Nat.mul_le_mul_right _ hkl
      rw [Nat.add_mul] at this
      omega
    have e1 : (els.length + k) * esz + j = olds.size + (k * esz + j) := by rw [ho.size, Nat.add_mul]; omega
    rw [e1, Array.getElem?_append_left (by simp; omega), Array.getElem?_append_right (by omega)]
    rw [show olds.size + (k * esz + j) - olds.size = k * esz + j by omega]
    exact u2 j u hj

theorem drew_alloc {w : World} {o : Obj} : (w.drew.alloc o).heap.size = w.heap.size + 1 ∧ (∀ k, k < w.heap.size → (w.drew.alloc o).heap[k]? = w.heap[k]?) ∧ (w.drew.alloc o).heap[w.heap.size]? = some o :=
  pushed (w := w) (o := o) (d := w.drawn + 1)

theorem isNotInt (hT : TabOk P X) {U : Nat} (h : (isSlice (tk X U) || isStr (tk X U)) = true) : ∃ d, P.underlying U = some d ∧ ∀ k, d ≠ .int k := by
  simp only [Bool.or_eq_true] at h
  rcases h with h | h
  · obtain ⟨a, b, c, hk⟩ := isSlice_eq h
    obtain ⟨hu, _⟩ := und_slice hT hk
    exact ⟨_, hu, fun k h => by cases h⟩
  · exact ⟨_, und_str hT (isStr_eq h), fun k h => by cases h⟩

theorem append_does (hT : TabOk P X) (ho : Ok ρ) {T U ty : Nat} {a x v : AV} {av xv : Value} (ha : ValR ρ a av) (hx : ValR ρ x xv) (hU : (isSlice (tk X U) || isStr (tk X U)) = true) {h' : List Blk} {l l' : Bool}
    (h : appendE X ρ.h l hand T a x = some (v, h', l')) : Does P ρ (nv (Builtin.append_ #[T, U] ty #[av, xv])) v h' := by
  have hUd := isNotInt hT hU
  unfold appendE at h
  split at h
  · rename_i esz eb ety hk
    obtain ⟨_, _, _, _, _, i4, i5⟩ := und_slice hT hk
    have hts : 0 < tsz X ety := by omega
    obtain ⟨I, z, j1, j2, j3, j4, j5⟩ := zero_ent (ρ := ρ) hT hts
    obtain ⟨p, h1, h2⟩ := bind_some h
    obtain ⟨sz, xs, rf⟩ := p
    obtain ⟨h3, h4⟩ := cond_some h2
    have hsz := Nat.eq_of_beq_eq_true h3
    obtain ⟨news, hs⟩ := src_of (P := P) ho i4 hx h1 hsz
    subst hsz
    split at h4
    · -- to nothing
      obtain ⟨hf, h5⟩ := cond_some h4
      injection h5 with e
      injection e with e1 e2
      injection e2 with e2 e3
      subst e1 e2
      obtain ⟨a0, rfl⟩ := (show Cell0 ρ .nilS av from ha)
      have hbig : xs.length ≤ bigN := by
        unfold fits limitB at hf
        simp only [Bool.and_eq_true, decide_eq_true_eq] at hf
        unfold bigN; omega
      by_cases hx0 : xs = []
      · subst hx0
        refine ⟨_, _, _, _, _, run_nv (append_none hT hk hUd hs (Nat.le_refl 0)), .inl rfl, nx_empty ho rfl i4 rfl, ?_⟩
        refine ⟨rfl, ⟨sz, ety, [], false, rf, false, 0⟩, by show (ρ.h ++ [_])[ρ.h.length]? = _; simp, Nat.le_refl _, rfl, fun _ => ⟨a0, 0, rfl, Nat.le_refl _, Nat.zero_le _, fun _ => rfl, fun h => absurd rfl h⟩⟩
      · have hpos : 0 < xs.length := List.length_pos_iff.2 hx0
        have hold : (Builtin.firstCells sz 0 (.slice a0 0 0)).run P ρ.w.drew = .ok #[] ρ.w.drew := by
          cases a0 with
          | none => rfl
          | some a0 =>
            have := run_firstCells_some (P := P) ρ.w.drew sz 0 a0 0 0 [] (by simp) (by simp)
            simpa using this
        have hrun := append_grow (ty := ty) hT hk hUd hs j1 j3 hold (by omega) (by rw [Nat.zero_add]; exact hf)
        rw [Nat.zero_add] at hrun
        obtain ⟨p1, p2, p3⟩ := drew_alloc (w := ρ.w) (o := .cells (#[] ++ news ++ Builtin.zeroCells z.cells (grownCap ρ.w xs.length 0 ety - xs.length)) ety)
        have hge := grownCap_ge ρ.w xs.length 0 ety
        obtain ⟨n1, n2⟩ := own_new ho (w' := ρ.w.drew.alloc (.cells (#[] ++ news ++ Builtin.zeroCells z.cells (grownCap ρ.w xs.length 0 ety - xs.length)) ety)) (b := ⟨sz, ety, xs, false, rf, false, 0⟩) (cap := grownCap ρ.w xs.length 0 ety) rfl rfl rfl p1 p2 p3 i4 hs.can hs.rf rfl hbig hge (fun h => absurd h hx0)
          (by
            simp only [Array.size_append, size_zeroCells, hs.size, j4, i5]
            show _ ≤ 0 + xs.length * sz + (grownCap ρ.w xs.length 0 ety - xs.length) * sz
            rw [Nat.zero_add, ← Nat.add_mul]
            exact Nat.mul_le_mul_right _ (by omega))
          (fun i e hi => cat_rows (els := []) (olds := #[]) (v1 := .slice none 0 0) (r1 := false) (nil_src (ρ := ρ) (xv := .slice none 0 0) ⟨none, rfl⟩) hs i e (by simpa using hi))
        exact ⟨_, _, _, _, _, run_nv hrun, .inl rfl, n1, n2⟩
    · -- to a list of its own
      rename_i n ver
      obtain ⟨b, hb0, h5⟩ := bind_some h4
      obtain ⟨hb, hv⟩ := blkAt_some hb0
      obtain ⟨bsz, bty, els, box, brf, fz, bver⟩ := b
      simp only at h5 hv
      obtain ⟨hc, h6⟩ := cond_some h5
      simp only [Bool.and_eq_true, Bool.not_eq_true'] at hc
      obtain ⟨⟨⟨⟨hfz, hb1⟩, hb2⟩, hbx⟩, hf⟩ := hc
      have hbs := Nat.eq_of_beq_eq_true hb1
      have hbt := Nat.eq_of_beq_eq_true hb2
      subst hbs hbt hv hfz hbx
      injection h6 with e
      injection e with e1 e2
      injection e2 with e2 e3
      subst e1 e2
      have hbig : els.length + xs.length ≤ bigN := by
        have hf' := hf
        unfold fits limitB at hf'
        simp only [Bool.and_eq_true, decide_eq_true_eq] at hf'
        unfold bigN; omega
      have hB := ho.blk n _ hb
      have ha' := ha
      obtain ⟨_, b', hb', _, _, hp⟩ := (show Cell0 ρ (.own n bver) av from ha)
      rw [hb] at hb'
      injection hb' with hb'
      subst hb'
      obtain ⟨a0, cap, rfl, hcl, hbg, hnil, hne⟩ := hp rfl
      clear hp
      simp only at hcl hbg hnil hne
      have hnl : n < ρ.h.length := (List.getElem?_eq_some_iff.1 hb).1
      rw [updAt_eq]
      have hcan : ∀ e ∈ els ++ xs, noNil e := fun e he => by
        rcases List.mem_append.1 he with h | h
        · exact hB.can rfl e h
        · exact hs.can e h
      have hrf : (brf || rf) = false → ∀ e ∈ els ++ xs, valRef e = false := fun hr e he => by
        simp only [Bool.or_eq_false_iff] at hr
        rcases List.mem_append.1 he with h | h
        · exact hB.rf hr.1 e h
        · exact hs.rf hr.2 e h
      by_cases hroom : els.length + xs.length ≤ cap
      · by_cases he0 : els = []
        · subst he0
          have hc0 := hnil rfl
          subst hc0
          have hx0 : xs = [] := List.eq_nil_of_length_eq_zero (by simpa using hroom)
          subst hx0
          refine ⟨_, _, _, _, _, run_nv (append_none hT hk hUd hs (Nat.le_refl 0)), .inl rfl, nx_bump ho hb rfl rfl rfl rfl rfl rfl (Nat.le_succ _), ?_⟩
          refine ⟨rfl, ⟨bsz, bty, [] ++ [], false, brf || rf, false, bver + 1⟩, by show (ρ.h.set n _)[n]? = _; simp [hnl], Nat.le_refl _, rfl, fun _ => ⟨a0, 0, rfl, Nat.le_refl _, Nat.zero_le _, fun _ => rfl, fun h => absurd rfl h⟩⟩
        · obtain ⟨rfl, hcap⟩ := hne he0
          obtain ⟨cur, c1, c2, c3, c4⟩ := hB.mem he0
          simp only at c1 c2 c3 c4
          have hcc : capCells ρ.w (ρ.φ n) = cur.size := by unfold capCells; rw [c1]
          rw [hcc] at hcap
          have hfit : 0 + (els.length + xs.length) * bsz ≤ cur.size := by
            have : (els.length + xs.length) * bsz ≤ cap * bsz := Nat.mul_le_mul_right _ hroom
            omega
          have hrun := append_room (ty := ty) hT hk hUd hs (sLen := els.length) (sCap := cap) hroom c1 hfit
          rw [Nat.zero_add] at hrun hfit
          have hnl2 : news.toList.length = xs.length * bsz := by rw [Array.length_toList, hs.size]
          have hfit2 : els.length * bsz + news.toList.length ≤ cur.toList.length := by
            rw [hnl2, Array.length_toList]; rw [Nat.add_mul] at hfit; exact hfit
          let cur' : Array Value := (seg cur.toList (els.length * bsz) news.toList).toArray
          have hcs : cur'.size = cur.size := by simp [cur', seg_len hfit2]
          have hself : (ρ.w.setRow (ρ.φ n) cur').heap[ρ.φ n]? = some (.cells cur' bty (0, 0)) := setRow_heap ρ.w _ cur cur' bty _ c1
          have hnx := nx_upd ho hb he0 rfl (b' := ⟨bsz, bty, els ++ xs, false, brf || rf, false, bver + 1⟩) c1 (w' := ρ.w.setRow (ρ.φ n) cur') rfl rfl rfl setRow_size (fun k hk => setRow_other ρ.w _ k cur' hk) hself hcs rfl rfl rfl
            (Nat.le_succ _) (by simp) (fun h => by simp at h) (fun hle => by
              refine ⟨hB.pos, fun _ => hcan, hrf, fun h => (by cases h), by simpa using hbig, fun _ => ⟨cur', hself, fun _ => c2 trivial, by simp only [List.length_append]; rw [hcs]; exact hfit, fun i e hi => ?_⟩⟩
              have hi' : (els ++ xs)[i]? = some e := hi
              by_cases hl : i < els.length
              · rw [List.getElem?_append_left hl] at hi'
                obtain ⟨us, u1, u2, u3⟩ := c4 i e hi'
                refine ⟨us, u1, fun j u hj => ?_, u3.le hle⟩
                show cur'[i * bsz + j]? = some u
                have hjl : j < bsz := by rw [← u1]; exact (List.getElem?_eq_some_iff.1 hj).1
                have hb9 : i * bsz + j < els.length * bsz := by
                  have : (i + 1) * bsz ≤ els.length * bsz := Nat.mul_le_mul_right _ hl
                  rw [Nat.add_mul] at this
                  omega
                have := seg_out hfit2 (j := i * bsz + j) (.inl hb9)
                have h9 := u2 j u hj
                simpa [cur'] using this.trans (by simpa using h9)
              · rw [List.getElem?_append_right (by omega)] at hi'
                obtain ⟨k, rfl⟩ : ∃ k, i = els.length + k := ⟨i - els.length, by omega⟩
                rw [show els.length + k - els.length = k by omega] at hi'
                obtain ⟨us, u1, u2, u3⟩ := hs.el k e hi'
                have hkl := (List.getElem?_eq_some_iff.1 hi').1
                refine ⟨us, u1, fun j u hj => ?_, u3.le hle⟩
                show cur'[(els.length + k) * bsz + j]? = some u
                have hjl : j < bsz := by rw [← u1]; exact (List.getElem?_eq_some_iff.1 hj).1
                have hb9 : k * bsz + j < news.toList.length := by
                  rw [hnl2]
                  have : (k + 1) * bsz ≤ xs.length * bsz := Nat.mul_le_mul_right _ hkl
                  rw [Nat.add_mul] at this
                  omega
                have := seg_in hfit2 hb9
                have h9 := u2 j u hj
                rw [show (els.length + k) * bsz + j = els.length * bsz + (k * bsz + j) by rw [Nat.add_mul]; omega]
                simpa [cur'] using this.trans (by simpa using h9))
          refine ⟨_, _, _, _, _, run_nv hrun, .inl rfl, hnx, ?_⟩
          refine ⟨rfl, ⟨bsz, bty, els ++ xs, false, brf || rf, false, bver + 1⟩, by show (ρ.h.set n _)[n]? = _; simp [hnl], Nat.le_refl _, rfl, fun _ => ⟨some ⟨ρ.φ n, 0, none⟩, cap, by rw [List.length_append], by simpa using hroom, by simpa using hbig, fun h => ?_, fun _ => ⟨rfl, ?_⟩⟩⟩
          · simp at h; exact absurd h.1 he0
          · show cap * bsz ≤ capCells (ρ.w.setRow (ρ.φ n) cur') (ρ.φ n)
            unfold capCells
            rw [hself]
            simp only [hcs]
            exact hcap
      · -- a new row
        have hshown : shown ρ.h (.own n bver) = some (bsz, els, brf) := by
          simp only [shown, blkAt]
          rw [nth_eq, hb]
          simp
        obtain ⟨g1, g2⟩ := shown_good ho ha' hshown
        obtain ⟨olds, hos⟩ := shows_src (P := P) i4 (shown_shows ho i4 ha' hshown) g1 g2
        have hrun := append_grow (ty := ty) hT hk hUd hs j1 j3 (hos.cells ρ.w.drew rfl) (by omega) hf
        obtain ⟨p1, p2, p3⟩ := drew_alloc (w := ρ.w) (o := .cells (olds ++ news ++ Builtin.zeroCells z.cells (grownCap ρ.w (els.length + xs.length) cap bty - (els.length + xs.length))) bty)
        have hge := grownCap_ge ρ.w (els.length + xs.length) cap bty
        have hxp : 0 < xs.length := by omega
        have hcsz : grownCap ρ.w (els.length + xs.length) cap bty * bsz ≤ (olds ++ news ++ Builtin.zeroCells z.cells (grownCap ρ.w (els.length + xs.length) cap bty - (els.length + xs.length))).size := by
          simp only [Array.size_append, size_zeroCells, hs.size, hos.size, j4, i5]
          rw [← Nat.add_mul, ← Nat.add_mul]
          exact Nat.mul_le_mul_right _ (by omega)
        have hnx := nx_move ho hb rfl (b' := ⟨bsz, bty, els ++ xs, false, brf || rf, false, bver + 1⟩) (w' := ρ.w.drew.alloc (.cells (olds ++ news ++ Builtin.zeroCells z.cells (grownCap ρ.w (els.length + xs.length) cap bty - (els.length + xs.length))) bty))
          rfl rfl rfl p1 p2 rfl rfl rfl (Nat.lt_succ_self _) (by simp; exact hxp) p3 (fun _ => hcan) hrf (fun h => by cases h) (by simpa using hbig)
          (Nat.le_trans (Nat.mul_le_mul_right _ (by simpa using hge)) hcsz) (cat_rows hos hs)
        refine ⟨_, _, _, _, _, run_nv hrun, .inl rfl, hnx, ?_⟩
        refine ⟨rfl, ⟨bsz, bty, els ++ xs, false, brf || rf, false, bver + 1⟩, by show (ρ.h.set n _)[n]? = _; simp [hnl], Nat.le_refl _, rfl, fun _ => ⟨some ⟨ρ.w.heap.size, 0, none⟩, grownCap ρ.w (els.length + xs.length) cap bty, by rw [List.length_append], by simpa using hge, by simpa using hbig, fun h => ?_, fun _ => ⟨?_, ?_⟩⟩⟩
        · simp at h; rw [h.2] at hxp; simp at hxp
        · show _ = some (⟨if n = n then ρ.w.heap.size else _, 0, none⟩ : Addr)
          rw [if_pos rfl]
        · show _ * bsz ≤ capCells (ρ.w.drew.alloc _) (if n = n then ρ.w.heap.size else _)
          rw [if_pos rfl]
          unfold capCells
          rw [p3]
          exact hcsz
    · -- to a part of a list: in its place
      rename_i n ver off len
      obtain ⟨b, hb0, h5⟩ := bind_some h4
      obtain ⟨hb, hv⟩ := blkAt_some hb0
      obtain ⟨bsz, bty, els, box, brf, fz, bver⟩ := b
      simp only at h5 hv
      obtain ⟨hc, h6⟩ := cond_some h5
      simp only [Bool.and_eq_true, Bool.not_eq_true', decide_eq_true_eq] at hc
      obtain ⟨⟨⟨⟨hfz, hb1⟩, hb2⟩, hbx⟩, hin⟩ := hc
      have hbs := Nat.eq_of_beq_eq_true hb1
      have hbt := Nat.eq_of_beq_eq_true hb2
      subst hbs hbt hv hfz hbx
      injection h6 with e
      injection e with e1 e2
      injection e2 with e2 e3
      subst e1 e2
      have hB := ho.blk n _ hb
      have hbl := hB.len
      simp only at hbl
      obtain ⟨_, b', hb', _, _, hp⟩ := (show Cell0 ρ (.sl n bver off len) av from ha)
      rw [hb] at hb'
      injection hb' with hb'
      subst hb'
      obtain ⟨a0, cap, rfl, hcl, hcl2, hbg, hnil, hne⟩ := hp rfl
      clear hp
      simp only at hcl hcl2 hnil hne
      have hnl : n < ρ.h.length := (List.getElem?_eq_some_iff.1 hb).1
      have hspl : (splice els (off + len) xs).length = els.length := splice_len (by omega)
      have hroom : len + xs.length ≤ cap := by omega
      have hcan : ∀ e ∈ splice els (off + len) xs, noNil e := fun e he => by
        rcases mem_splice he with h | h
        · exact hB.can rfl e h
        · exact hs.can e h
      have hrf : (brf || rf) = false → ∀ e ∈ splice els (off + len) xs, valRef e = false := fun hr e he => by
        simp only [Bool.or_eq_false_iff] at hr
        rcases mem_splice he with h | h
        · exact hB.rf hr.1 e h
        · exact hs.rf hr.2 e h
      have hval : ∀ (w' : World) (Z : Nat → Prop), ValR ⟨w', ρ.φ, Z, ρ.h.set n ⟨bsz, bty, splice els (off + len) xs, false, brf || rf, false, bver⟩⟩ (.sl n bver off (len + xs.length)) (.slice a0 (len + xs.length) cap) := by
        intro w' Z
        refine ⟨rfl, ⟨bsz, bty, splice els (off + len) xs, false, brf || rf, false, bver⟩, by show (ρ.h.set n _)[n]? = _; simp [hnl], Nat.le_refl _, rfl, fun _ => ⟨a0, cap, rfl, ?_, ?_, ?_, fun h => ?_, hne⟩⟩
        · show off + (len + xs.length) ≤ (splice els (off + len) xs).length
          rw [hspl]; omega
        · show (splice els (off + len) xs).length ≤ _
          rw [hspl]; exact hcl2
        · omega
        · have h' : splice els (off + len) xs = [] := h
          exact hnil (List.eq_nil_of_length_eq_zero (by rw [← hspl, h']; rfl))
      rw [updAt_eq]
      by_cases he0 : els = []
      · subst he0
        have hx0 : xs = [] := List.eq_nil_of_length_eq_zero (by have : off + len + xs.length ≤ 0 := hin; omega)
        subst hx0
        refine ⟨_, _, _, _, _, run_nv (append_none hT hk hUd hs (by simpa using hroom)), .inl rfl, nx_bump ho hb rfl (List.eq_nil_of_length_eq_zero (by rw [hspl]; rfl)) rfl rfl rfl rfl (Nat.le_refl _), ?_⟩
        exact hval ρ.w ρ.Z
      · obtain ⟨cur, c1, c2, c3, c4⟩ := hB.mem he0
        simp only at c1 c2 c3 c4
        have hnl2 : news.toList.length = xs.length * bsz := by rw [Array.length_toList, hs.size]
        have hrow : (off + len + xs.length) * bsz ≤ els.length * bsz := Nat.mul_le_mul_right _ hin
        have hfit2 : (off + len) * bsz + news.toList.length ≤ cur.toList.length := by
          have : cur.toList.length = cur.size := by simp
          rw [hnl2, this]; rw [Nat.add_mul] at hrow; omega
        let cur' : Array Value := (seg cur.toList ((off + len) * bsz) news.toList).toArray
        have hcs : cur'.size = cur.size := by simp [cur', seg_len hfit2]
        have key : ∀ w' : World, w'.os = ρ.w.os → w'.tape = ρ.w.tape → w'.output = ρ.w.output → w'.heap.size = ρ.w.heap.size → (∀ k, k ≠ ρ.φ n → w'.heap[k]? = ρ.w.heap[k]?) →
            w'.heap[ρ.φ n]? = some (.cells cur' bty (0, 0)) → Nx ρ ⟨w', ρ.φ, ρ.Z, ρ.h.set n ⟨bsz, bty, splice els (off + len) xs, false, brf || rf, false, bver⟩⟩ := by
          intro w' hos ht hout hz hoth hself
          refine nx_upd ho hb he0 rfl (b' := ⟨bsz, bty, splice els (off + len) xs, false, brf || rf, false, bver⟩) c1 (w' := w') hos ht hout hz hoth hself hcs rfl rfl rfl (Nat.le_refl _)
            (Nat.le_of_eq hspl.symm) (fun _ => hspl) (fun hle => ?_)
          refine ⟨hB.pos, fun _ => hcan, hrf, fun h => (by cases h), by show (splice els (off + len) xs).length ≤ _; rw [hspl]; exact hbl, fun _ => ⟨cur', hself, fun _ => c2 trivial, by show (splice els (off + len) xs).length * bsz ≤ _; rw [hspl, hcs]; exact c3, fun i e hi => ?_⟩⟩
          have hi' : (splice els (off + len) xs)[i]? = some e := hi
          have hil : i < els.length := by rw [← hspl]; exact (List.getElem?_eq_some_iff.1 hi').1
          by_cases hm : off + len ≤ i ∧ i < off + len + xs.length
          · obtain ⟨k, rfl⟩ : ∃ k, i = off + len + k := ⟨i - (off + len), by omega⟩
            rw [splice_in (by omega) (by omega)] at hi'
            obtain ⟨us, u1, u2, u3⟩ := hs.el k e hi'
            have hkl := (List.getElem?_eq_some_iff.1 hi').1
            refine ⟨us, u1, fun j u hj => ?_, u3.le hle⟩
            show cur'[(off + len + k) * bsz + j]? = some u
            have hjl : j < bsz := by rw [← u1]; exact (List.getElem?_eq_some_iff.1 hj).1
            have hb9 : k * bsz + j < news.toList.length := by
              rw [hnl2]
              have : (k + 1) * bsz ≤ xs.length * bsz := Nat.mul_le_mul_right _ hkl
              rw [Nat.add_mul] at this
              omega
            have := seg_in hfit2 hb9
            have h9 := u2 j u hj
            rw [show (off + len + k) * bsz + j = (off + len) * bsz + (k * bsz + j) by rw [Nat.add_mul]; omega]
            simpa [cur'] using this.trans (by simpa using h9)
          · rw [splice_out (by omega) (by omega)] at hi'
            obtain ⟨us, u1, u2, u3⟩ := c4 i e hi'
            refine ⟨us, u1, fun j u hj => ?_, u3.le hle⟩
            show cur'[i * bsz + j]? = some u
            have hjl : j < bsz := by rw [← u1]; exact (List.getElem?_eq_some_iff.1 hj).1
            have hdis : i * bsz + j < (off + len) * bsz ∨ (off + len) * bsz + news.toList.length ≤ i * bsz + j := by
              by_cases hlt : i < off + len
              · left
                have : (i + 1) * bsz ≤ (off + len) * bsz := Nat.mul_le_mul_right _ hlt
                rw [Nat.add_mul] at this
                omega
              · right
                rw [hnl2]
                have : (off + len + xs.length) * bsz ≤ i * bsz := Nat.mul_le_mul_right _ (by omega)
                rw [Nat.add_mul] at this
                omega
            have := seg_out hfit2 hdis
            have h9 := u2 j u hj
            simpa [cur'] using this.trans (by simpa using h9)
        by_cases hc0 : 0 < cap
        · obtain rfl := hne hc0
          have hrun := append_room (ty := ty) hT hk hUd hs (o := off * bsz) (sLen := len) (sCap := cap) hroom c1 (by rw [← Nat.add_mul]; rw [← Nat.add_assoc]; omega)
          rw [← Nat.add_mul] at hrun
          exact ⟨_, _, _, _, _, run_nv hrun, .inl rfl, key _ rfl rfl rfl setRow_size (fun k hk => setRow_other ρ.w _ k cur' hk) (setRow_heap ρ.w _ cur cur' bty _ c1), hval _ _⟩
        · have hx0 : xs = [] := List.eq_nil_of_length_eq_zero (by omega)
          subst hx0
          have hn0 : news = #[] := by
            have := hs.size
            simp at this
            exact this
          have hcur : cur' = cur := by
            show (seg cur.toList _ news.toList).toArray = cur
            rw [hn0]; unfold seg; simp
          exact ⟨_, _, _, _, _, run_nv (append_none hT hk hUd hs (by simpa using hroom)), .inl rfl, key ρ.w rfl rfl rfl rfl (fun _ _ => rfl) (by rw [hcur]; exact c1), hval _ _⟩
    · cases h4
  · cases h
end
end Go.Proofs.Ytiibidadpgknjaa.Fi
