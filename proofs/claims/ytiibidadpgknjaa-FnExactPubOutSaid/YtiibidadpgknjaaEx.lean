/- What a caller hands to a reader. -/
import Derived.Test.YtiibidadpgknjaaOps
namespace Go.Proofs.Ytiibidadpgknjaa.Fi
open Go

section
variable {P : Program} {X : Ctx} {ρ : R}

/-- Some named blocks, as they are only read. -/
def isBlk (ρ : R) (ns : List Nat) (k : Nat) : Prop := ∃ n b, n ∈ ns ∧ ρ.h[n]? = some b ∧ b.els ≠ [] ∧ ρ.φ n = k
def exZ (ρ : R) (ns : List Nat) : Nat → Prop := fun k => ρ.Z k ∨ isBlk ρ ns k
theorem exZ_mono {ns ms : List Nat} (h : ∀ n ∈ ns, n ∈ ms) : ∀ k, exZ ρ ns k → exZ ρ ms k := by
  rintro k (hk | ⟨n, b, h1, h2, h3, h4⟩)
  · exact .inl hk
  · exact .inr ⟨n, b, h n h1, h2, h3, h4⟩

theorem exCell_rr (ho : Ok ρ) {z c c' : AV} {u : Value} (h : CellR ρ c u) (hc : exCell ρ.h z c = some c') : RR ρ.w (exZ ρ (names [c])) c' [u] ∧ isCell c' = true := by
  have plain : ∀ {c : AV}, CellR ρ c u → hasRef c = false → c ≠ .nilS → RR ρ.w (exZ ρ (names [c])) c [u] ∧ isCell c = true := by
    intro c h1 h2 h3
    obtain ⟨p1, p2, _⟩ := cell_rr (z := .undef) h1 h2
    have : canon c .undef = c := by unfold canon; split <;> first | exact absurd rfl h3 | rfl
    rw [this] at p1 p2
    exact ⟨p1.mono (fun b hb => .inl hb) (fun b _ => rfl), p2⟩
  unfold exCell at hc
  split at hc
  · injection hc with hc
    subst hc
    obtain ⟨a, rfl⟩ := (show Cell0 ρ .nilS u from h)
    obtain ⟨sz, e⟩ := canon_nil z
    rw [e]
    exact ⟨RR.lst0 sz a 0, rfl⟩
  · rename_i n ver
    obtain ⟨b, h1, h2⟩ := bind_some hc
    obtain ⟨hb, hv⟩ := blkAt_some h1
    cases hr : b.rf with
    | true => rw [hr] at h2; cases h2
    | false =>
      rw [hr] at h2
      injection h2 with h2
      subst h2
      obtain ⟨_, b', hb', _, hbx, hp⟩ := (show Cell0 ρ (.own n ver) u from h)
      rw [hb] at hb'
      injection hb' with hb'
      subst hb'
      obtain ⟨a, cap, rfl, hcl, hbg, h0, hne⟩ := hp hv.symm
      refine ⟨?_, rfl⟩
      by_cases he : b.els = []
      · rw [he]; exact RR.lst0 _ _ _
      · obtain ⟨ha, _⟩ := hne he
        subst ha
        have hB := ho.blk n b hb
        obtain ⟨cur, c1, _, c3, c4⟩ := hB.mem he
        have hch : ∀ i : Nat, ∃ us : List Value, ∀ e : AV, b.els[i]? = some e → us.length = b.sz ∧ (∀ (j : Nat) (u : Value), us[j]? = some u → cur[i * b.sz + j]? = some u) ∧ ElemR ρ e us := by
          intro i
          cases hi : b.els[i]? with
          | none => exact ⟨[], fun e h => by cases h⟩
          | some e =>
            obtain ⟨us, hus⟩ := c4 i e hi
            exact ⟨us, fun e' h => by injection h with h; subst h; exact hus⟩
        obtain ⟨us, hus⟩ := Classical.axiomOfChoice hch
        refine RR.lst b.sz b.els _ cap us (.inr ⟨n, b, by simp [names], hb, he, rfl⟩) hcl hbg (fun i hi => (hus i _ (List.getElem?_eq_getElem hi)).1) (fun i j q hi hj => ?_) (fun i e hi => ?_)
        · unfold cellOf
          rw [addr_add, cell_at c1 (i * b.sz + j) (by omega)]
          exact (hus i _ (List.getElem?_eq_getElem hi)).2.1 j q hj
        · have hm := List.mem_of_getElem? hi
          exact (elem_rr (hus i e hi).2.2 (hB.rf hr e hm) (hB.can hbx e hm)).mono (fun k hk => .inl hk) (fun _ _ => rfl)
  · rename_i n ver off len
    obtain ⟨b, h1, h2⟩ := bind_some hc
    obtain ⟨hb, hv⟩ := blkAt_some h1
    cases hr : b.rf with
    | true => rw [hr] at h2; cases h2
    | false =>
      rw [hr] at h2
      injection h2 with h2
      subst h2
      obtain ⟨_, b', hb', _, hbx, hp⟩ := (show Cell0 ρ (.sl n ver off len) u from h)
      rw [hb] at hb'
      injection hb' with hb'
      subst hb'
      obtain ⟨a, cap, rfl, hcl, hcl2, hbg, h0, hne⟩ := hp hv.symm
      refine ⟨?_, rfl⟩
      have hlen := take_drop_len hcl
      by_cases he : takeN len (dropN off b.els) = []
      · have hl0 : len = 0 := by rw [he] at hlen; exact hlen.symm
        rw [he, hl0]; exact RR.lst0 _ _ _
      · have hl0 : 0 < len := by have := List.length_pos_iff.2 he; omega
        obtain rfl := hne (by omega)
        have hB := ho.blk n b hb
        have hne' : b.els ≠ [] := by intro hx; rw [hx] at hcl; simp at hcl; omega
        obtain ⟨cur, c1, _, c3, c4⟩ := hB.mem hne'
        have hch : ∀ i : Nat, ∃ us : List Value, ∀ e : AV, b.els[i]? = some e → us.length = b.sz ∧ (∀ (j : Nat) (u : Value), us[j]? = some u → cur[i * b.sz + j]? = some u) ∧ ElemR ρ e us := by
          intro i
          cases hi : b.els[i]? with
          | none => exact ⟨[], fun e h => by cases h⟩
          | some e =>
            obtain ⟨us, hus⟩ := c4 i e hi
            exact ⟨us, fun e' h => by injection h with h; subst h; exact hus⟩
        obtain ⟨us, hus⟩ := Classical.axiomOfChoice hch
        have hget : ∀ (i : Nat) (e : AV), (takeN len (dropN off b.els))[i]? = some e → b.els[off + i]? = some e := fun i e hi => (take_drop_at hi).2
        generalize takeN len (dropN off b.els) = xs at hlen hget ⊢
        have hat : ∀ i, i < xs.length → ∃ e, b.els[off + i]? = some e := fun i hi => ⟨_, hget i _ (List.getElem?_eq_getElem hi)⟩
        have q : RR ρ.w (exZ ρ (names [.sl n ver off len])) (.lst b.sz xs) [.slice (some ⟨ρ.φ n, off * b.sz, none⟩) xs.length cap] := by
          refine RR.lst b.sz xs _ cap (fun i => us (off + i)) (.inr ⟨n, b, by simp [names], hb, hne', rfl⟩) (by omega) (by omega) (fun i hi => by obtain ⟨e, he⟩ := hat i hi; exact (hus _ e he).1) (fun i j q hi hj => ?_) (fun i e hi => ?_)
          · unfold cellOf
            rw [addr_add, cell_at c1 ((off + i) * b.sz + j) (by rw [Nat.add_mul]; omega)]
            obtain ⟨e, he⟩ := hat i hi
            exact (hus _ e he).2.1 j q hj
          · have he' := hget i e hi
            have hm := List.mem_of_getElem? he'
            exact (elem_rr (hus _ e he').2.2 (hB.rf hr e hm) (hB.can hbx e hm)).mono (fun k hk => .inl hk) (fun _ _ => rfl)
        rw [hlen] at q
        exact q
  · rename_i hn _ _
    cases hr : hasRef c with
    | true => rw [hr] at hc; cases hc
    | false =>
      rw [hr] at hc
      injection hc with hc
      subst hc
      exact plain h hr (fun e => hn e)

theorem names_cons {c : AV} {cs : List AV} {n : Nat} (h : n ∈ names [c]) : n ∈ names (c :: cs) := by
  cases c <;> simp [names] at h ⊢ <;> first | exact .inl h | skip
theorem names_tail {c : AV} {cs : List AV} {n : Nat} (h : n ∈ names cs) : n ∈ names (c :: cs) := by
  cases c <;> simp [names] <;> first | exact .inr h | exact h | skip
theorem exCells_rr (ho : Ok ρ) : ∀ {zs cs r : List AV} {us : List Value}, CellsR ρ cs us → exCells ρ.h zs cs = some r → r.length = cs.length ∧ (∀ c ∈ r, isCell c = true) ∧
    ∀ (i : Nat) (c : AV) (u : Value), r[i]? = some c → us[i]? = some u → RR ρ.w (exZ ρ (names cs)) c [u]
  | [], [], r, us, _, h => by
    simp only [exCells] at h
    injection h with h
    subst h
    exact ⟨rfl, fun c hc => (by cases hc), fun i c u hi => (by simp at hi)⟩
  | [], _ :: _, _, _, _, h => by simp [exCells] at h
  | _ :: _, [], _, _, _, h => by simp [exCells] at h
  | z :: zs, c :: cs, r, us, hc, h => by
    simp only [exCells] at h
    obtain ⟨a, h1, h2⟩ := bind_some h
    obtain ⟨r', h3, h4⟩ := bind_some h2
    injection h4 with h4
    subst h4
    obtain ⟨u, us', rfl, hu, hus⟩ := hc
    obtain ⟨k1, k2, k3⟩ := exCells_rr ho hus h3
    obtain ⟨q1, q2⟩ := exCell_rr ho hu h1
    refine ⟨by simp [k1], fun d hd => ?_, fun i d v hi hv => ?_⟩
    · rcases List.mem_cons.1 hd with rfl | hd
      · exact q2
      · exact k2 d hd
    · cases i with
      | zero =>
        simp at hi hv
        subst hi hv
        exact q1.mono (exZ_mono fun n hn => names_cons hn) (fun _ _ => rfl)
      | succ i => exact (k3 i d v (by simpa using hi) (by simpa using hv)).mono (exZ_mono fun n hn => names_tail hn) (fun _ _ => rfl)

/-- Data is a value, wherever its blocks are read. -/
theorem rr_val {v : AV} {u : Value} (h : (∃ cs us, v = .agg cs ∧ u = .agg us ∧ RR ρ.w ρ.Z (.agg cs) us.toList) ∨ (isCell v = true ∧ RR ρ.w ρ.Z v [u])) : ValR ρ v u := by
  rcases h with ⟨cs, us, rfl, rfl, h⟩ | ⟨hc, h⟩
  · exact ⟨us, rfl, rr_cells h⟩
  · exact cell_val (rr_cell hc h)
theorem anyNil_mem : ∀ {cs : List AV}, exV.anyNil cs = false → ∀ c ∈ cs, c ≠ .nilS
  | [], _, _, h => by cases h
  | c :: cs, h, d, hd => by
    rcases List.mem_cons.1 hd with rfl | hd
    · rintro rfl; simp [exV.anyNil] at h
    · refine anyNil_mem ?_ d hd
      cases c <;> simp [exV.anyNil] at h <;> exact h

/-- What goes to a reader. -/
theorem exV_rr (ho : Ok ρ) {T : Nat} {a v : AV} {u : Value} (h : ValR ρ a u) (he : exV X ρ.h T a = some v) :
    (∃ cs us, v = .agg cs ∧ u = .agg us ∧ RR ρ.w (exZ ρ (names (cells a))) (.agg cs) us.toList) ∨ (isCell v = true ∧ RR ρ.w (exZ ρ (names (cells a))) v [u]) := by
  unfold exV at he
  split at he
  · rename_i cs
    obtain ⟨us, rfl, hc⟩ := h
    cases hb : hasRefs cs || exV.anyNil cs with
    | true =>
      rw [hb] at he
      obtain ⟨r, h1, h2⟩ := bind_some he
      injection h2 with h2
      subst h2
      obtain ⟨k1, k2, k3⟩ := exCells_rr ho hc h1
      exact .inl ⟨r, us, rfl, rfl, RR.agg r _ (by rw [k1]; exact hc.length) k2 k3⟩
    | false =>
      rw [hb] at he
      injection he with he
      subst he
      simp only [Bool.or_eq_false_iff] at hb
      exact .inl ⟨cs, us, rfl, rfl, (elem_rr (e := .agg cs) hc hb.1 (anyNil_mem hb.2)).mono (fun k hk => .inl hk) (fun _ _ => rfl)⟩
  · rename_i hna
    right
    have hcell : CellR ρ a u := by
      cases a with
      | agg cs => exact absurd rfl (hna cs)
      | tup vs => simp [exCell, hasRef] at he
      | undef => simp [exCell, hasRef] at he
      | _ => exact h
    obtain ⟨q1, q2⟩ := exCell_rr ho hcell he
    have : cells a = [a] := by cases a <;> first | rfl | exact absurd rfl (hna _)
    rw [this]
    exact ⟨q2, q1⟩
end
end Go.Proofs.Ytiibidadpgknjaa.Fi
