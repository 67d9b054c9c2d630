/- What one operation does in the machine: stores. -/
import Derived.Test.YtiibidadpgknjaaOpH
namespace Go.Proofs.Ytiibidadpgknjaa.Fi
open Go

section
variable {P : Program} {X : Ctx} {ρ : R}

/-- One named block is written. -/
theorem nx_upd (ho : Ok ρ) {n : Nat} {b b' : Blk} (hb : ρ.h[n]? = some b) (hne : b.els ≠ []) (hf : b.fz = false) {cur cur' : Array Value} (hcur : ρ.w.heap[ρ.φ n]? = some (.cells cur b.ty (0, 0))) {w' : World}
    (hos : w'.os = ρ.w.os) (ht : w'.tape = ρ.w.tape) (hout : w'.output = ρ.w.output) (hz : w'.heap.size = ρ.w.heap.size) (hother : ∀ k, k ≠ ρ.φ n → w'.heap[k]? = ρ.w.heap[k]?)
    (hnew : w'.heap[ρ.φ n]? = some (.cells cur' b.ty (0, 0))) (hcs : cur'.size = cur.size) (hsz : b'.sz = b.sz) (hty : b'.ty = b.ty) (hbox : b'.box = b.box) (hver : b.ver ≤ b'.ver)
    (hlen : b.els.length ≤ b'.els.length) (hveq : b.ver = b'.ver → b'.els.length = b.els.length)
    (hB : Le ρ ⟨w', ρ.φ, ρ.Z, ρ.h.set n b'⟩ → BlkR ⟨w', ρ.φ, ρ.Z, ρ.h.set n b'⟩ n b') : Nx ρ ⟨w', ρ.φ, ρ.Z, ρ.h.set n b'⟩ := by
  have hn : n < ρ.h.length := (List.getElem?_eq_some_iff.1 hb).1
  have hself : (ρ.h.set n b')[n]? = some b' := by simp [hn]
  have hoth : ∀ k, k ≠ n → (ρ.h.set n b')[k]? = ρ.h[k]? := fun k hk => by rw [List.getElem?_set_ne (fun h => hk h.symm)]
  obtain ⟨_, _, hzn, _⟩ := (ho.blk n b hb).mem hne
  have hcap : capCells w' (ρ.φ n) = capCells ρ.w (ρ.φ n) := by unfold capCells; rw [hnew, hcur]; exact hcs
  have hcap' : ∀ (k : Nat) (c : Blk), ρ.h[k]? = some c → c.els ≠ [] → capCells w' (ρ.φ k) = capCells ρ.w (ρ.φ k) := by
    intro k c hc hce
    by_cases hk : k = n
    · subst hk; exact hcap
    · have := ho.inj k n c b hc hb hce hne hk
      unfold capCells
      rw [hother _ this]
  have hle : Le ρ ⟨w', ρ.φ, ρ.Z, ρ.h.set n b'⟩ := by
    refine ⟨fun x hx => ⟨hx, hother x (fun h => hzn hf (h ▸ hx))⟩, fun k c hc => ?_⟩
    by_cases hk : k = n
    · subst hk
      rw [hb] at hc
      injection hc with hc
      subst hc
      exact ⟨b', hself, hver, hbox, fun e => ⟨hveq e, hsz, fun _ => ⟨rfl, hcap⟩⟩⟩
    · exact ⟨c, (hoth k hk).trans hc, Nat.le_refl _, rfl, fun _ => ⟨rfl, rfl, fun hce => ⟨rfl, hcap' k c hc hce⟩⟩⟩
  have hne' : b'.els ≠ [] := by intro h; rw [h] at hlen; exact hne (List.eq_nil_of_length_eq_zero (by simpa using hlen))
  refine ⟨hle, ⟨fun x hx => by show x < w'.heap.size; rw [hz]; exact ho.zlt x hx, fun k c hc => ?_, fun k m x y hx hy hx0 hy0 hkm => ?_⟩, ⟨hos, ht, hout, by show _ ≤ w'.heap.size; omega, fun k hk hkn => ?_, fun k c hc he => ?_⟩, fun k c hc => ?_, fun k c hc h1 h2 => ?_, fun _ hk => .inl hk⟩
  · by_cases hk : k = n
    · subst hk
      have hc' : (ρ.h.set k b')[k]? = some c := hc
      rw [hself] at hc'
      injection hc' with hc'
      subst hc'
      exact hB hle
    · have hc' : (ρ.h.set n b')[k]? = some c := hc
      rw [hoth k hk] at hc'
      refine (ho.blk k c hc').keep hle fun hce => ⟨rfl, hother _ (ho.inj k n c b hc' hb hce hne hk), ?_⟩
      obtain ⟨_, _, c2, _⟩ := (ho.blk k c hc').mem hce
      exact c2
  · have hx' : (ρ.h.set n b')[k]? = some x := hx
    have hy' : (ρ.h.set n b')[m]? = some y := hy
    have key : ∀ (j : Nat) (z : Blk), (ρ.h.set n b')[j]? = some z → z.els ≠ [] → ∃ z0, ρ.h[j]? = some z0 ∧ z0.els ≠ [] := by
      intro j z hz hz0
      by_cases hj : j = n
      · subst hj; exact ⟨b, hb, hne⟩
      · rw [hoth j hj] at hz; exact ⟨z, hz, hz0⟩
    obtain ⟨x0, a1, a2⟩ := key k x hx' hx0
    obtain ⟨y0, b1, b2⟩ := key m y hy' hy0
    exact ho.inj k m x0 y0 a1 b1 a2 b2 hkm
  · exact hother k (fun h => hkn n b hb hne hf h.symm)
  · have hc' : (ρ.h.set n b')[k]? = some c := hc
    by_cases hk : k = n
    · subst hk; exact .inr ⟨b, hb, hne, fun _ => hf, rfl⟩
    · rw [hoth k hk] at hc'; exact .inr ⟨c, hc', he, id, rfl⟩
  · by_cases hk : k = n
    · subst hk
      rw [hb] at hc
      injection hc with hc
      subst hc
      exact ⟨b', hself, hsz, hty, hbox, hlen, fun _ _ => ⟨rfl, hcap⟩⟩
    · exact ⟨c, (hoth k hk).trans hc, rfl, rfl, rfl, Nat.le_refl _, fun _ hce => ⟨rfl, hcap' k c hc hce⟩⟩
  · by_cases hk : k = n
    · subst hk
      rw [hb] at hc
      injection hc with hc
      subst hc
      rw [hf] at h1; cases h1
    · exact ⟨c, (hoth k hk).trans hc, h1, h2, rfl⟩

theorem mem_splice {cs xs : List AV} {o : Nat} {c : AV} (h : c ∈ splice cs o xs) : c ∈ cs ∨ c ∈ xs := by
  rw [splice_eq] at h
  simp only [List.mem_append] at h
  rcases h with (h | h) | h
  · exact .inl (List.mem_of_mem_take h)
  · exact .inr h
  · exact .inl (List.mem_of_mem_drop h)
theorem refs_of_mem : ∀ {cs : List AV}, (∀ c ∈ cs, hasRef c = false) → hasRefs cs = false
  | [], _ => rfl
  | c :: cs, h => by
    simp only [hasRefs, Bool.or_eq_false_iff]
    exact ⟨h c (by simp), refs_of_mem fun d hd => h d (by simp [hd])⟩

theorem setPart_elem {e : AV} {us ys : List Value} {xs : List AV} {off : Nat} (he : ElemR ρ e us) (hx : CellsR ρ xs ys) (hl : off + xs.length ≤ (cells e).length) (h0 : 0 < xs.length) :
    ElemR ρ (setPart e off xs) (seg us off ys) ∧ cells (setPart e off xs) = splice (cells e) off xs := by
  have hs := splice_cells (elem_cells he) hx hl
  cases e with
  | agg cs =>
    simp only [setPart]
    cases hc : Nat.beq off 0 && Nat.beq xs.length cs.length with
    | true =>
      simp only [Bool.and_eq_true] at hc
      have e1 := Nat.eq_of_beq_eq_true hc.1
      have e2 := Nat.eq_of_beq_eq_true hc.2
      subst e1
      have : splice cs 0 xs = xs := by rw [splice_eq]; simp [e2]
      simp only [cond_true, cells] at hs ⊢
      rw [this] at hs ⊢
      exact ⟨hs, rfl⟩
    | false => exact ⟨hs, rfl⟩
  | _ =>
    simp only [cells, List.length_cons, List.length_nil] at hl
    match xs, hl, h0 with
    | [c], hl, _ =>
      have : off = 0 := by simp at hl; omega
      subst this
      simp only [setPart, nthD, nth, Option.getD_some]
      obtain ⟨u, r, rfl, hu, hr⟩ := hx
      have hr' : r = [] := hr
      subst hr'
      obtain ⟨v, rfl, _⟩ := (elemR_eq (by simp)).1 he
      have e1 : seg [v] 0 [u] = [u] := rfl
      rw [e1]
      cases c with
      | agg cs => exact hu.elim
      | _ => exact ⟨⟨u, rfl, hu⟩, rfl⟩

theorem setRow_size {w : World} {g : Nat} {cur : Array Value} : (w.setRow g cur).heap.size = w.heap.size := by simp [World.setRow]

theorem canonV_len {T : Nat} {x : AV} : (cells (canonV X T x)).length = (cells x).length := by
  cases x with
  | agg cs => exact canons_len cs (tz X T)
  | nilS =>
    obtain ⟨sz, e⟩ := canon_nil (nthD (tz X T) 0)
    have : canonV X T .nilS = .lst sz [] := e
    rw [this]; rfl
  | _ => rfl

theorem store_does (hT : TabOk P X) (ho : Ok ρ) {T : Nat} {a x v : AV} {av xv : Value} (ha : ValR ρ a av) (hx : ValR ρ x xv) {h' : List Blk} {l l' : Bool}
    (h : storeE X ρ.h l hand T a x = some (v, h', l')) : Does P ρ (do Instr.storeAt T av xv; pure .skip) v h' := by
  unfold storeE at h
  cases hU : isU x with
  | true => rw [hU] at h; cases h
  | false =>
  rw [hU] at h
  simp only [cond_false] at h
  split at h
  · rename_i n ver idx off
    obtain ⟨b, h1, h2⟩ := bind_some h
    obtain ⟨hb, hv⟩ := blkAt_some h1
    obtain ⟨bsz, bty, els, box, brf, fz, bver⟩ := b
    simp only at h2
    obtain ⟨e, h3, h4⟩ := bind_some h2
    obtain ⟨h5, h6⟩ := cond_some h4
    simp only [Bool.and_eq_true, Bool.not_eq_true'] at h5
    obtain ⟨⟨⟨hfz, hl0⟩, hl1⟩, hl2⟩ := h5
    have hxl := Nat.eq_of_beq_eq_true hl0
    have hoff := Nat.le_of_ble_eq_true hl1
    have hs1 : 0 < tsz X T := Nat.le_of_ble_eq_true hl2
    rw [forceV_eq] at h6
    injection h6 with h7
    injection h7 with e1 e2
    injection e2 with e2 e3
    subst e1 e2
    simp only at hv
    obtain ⟨_, b', hb', _, hp⟩ := (show Cell0 ρ (.ptr n ver idx off) av from ha)
    rw [hb] at hb'
    injection hb' with hb'
    subst hb'
    obtain ⟨hi, rfl⟩ := hp hv.symm
    simp only at hi
    have he := nth_some h3
    have hne : els ≠ [] := by intro hc; rw [hc] at hi; simp at hi
    have hB := ho.blk n _ hb
    obtain ⟨cur, c1, c2, c3, c4⟩ := hB.mem hne
    simp only at c1 c2 c3 c4
    obtain ⟨us, u1, u2, u3⟩ := c4 idx e he
    obtain ⟨i, I, z, t1, t2, t3, t4, t5, t6, t7⟩ := size_ent hT hs1
    have hxe := val_elem hx hU
    have hxc := elem_cells hxe
    have hxlen := hxc.length
    simp at hxlen
    have hsz : xv.cells.size = tsz X T := by omega
    have hul : us.length = (cells e).length := (elem_cells u3).length
    -- the value as it is written
    have hX : ∃ x' : AV, (bif box then x else canonV X T x) = x' ∧ ElemR ρ x' xv.cells.toList ∧ (box = false → noNil x') ∧ (valRef x = false → valRef x' = false) ∧ (cells x').length = tsz X T := by
      cases box with
      | true => exact ⟨x, rfl, hxe, fun h => (by cases h), fun h => h, hxl⟩
      | false => exact ⟨_, rfl, (canonV_elem hxe).1, fun _ => (canonV_elem hxe).2, fun h => canonV_ref h, by simp only [cond_false]; rw [canonV_len]; exact hxl⟩
    obtain ⟨x', hx', hx1, hx2, hx3, hx4⟩ := hX
    rw [hx']
    obtain ⟨q1, q2⟩ := setPart_elem u3 (elem_cells hx1) (off := off) (by omega) (by omega)
    let o := idx * bsz + off
    have hil : (idx + 1) * bsz ≤ els.length * bsz := Nat.mul_le_mul_right _ (by omega)
    rw [Nat.add_mul, Nat.one_mul] at hil
    have hfit : o + xv.cells.toList.length ≤ cur.toList.length := by simp [o]; omega
    let cur' : Array Value := (seg cur.toList o xv.cells.toList).toArray
    have hcs : cur'.size = cur.size := by simp [cur', seg_len hfit]
    let w' := ρ.w.setRow (ρ.φ n) cur'
    have hrun : (Instr.storeAt T (.pointer (some ⟨ρ.φ n, o, none⟩)) xv).run P ρ.w = .ok () w' := by
      have hst := run_storeCells_at P (ρ.φ n) o bty xv.cells.toList 0 cur ρ.w c1 (by simpa using hfit) (elem_one hxe)
      simp only [Instr.storeAt, Sem.run_bind, Instr.sureAddr, Sem.run_pure, Result.andThen_ok, storeVar, run_sizeOf' t3]
      rw [if_neg (by omega)]
      rw [Nat.add_zero] at hst
      exact hst
    have hself : w'.heap[ρ.φ n]? = some (.cells cur' bty (0, 0)) := setRow_heap ρ.w _ cur cur' bty _ c1
    have hother : ∀ k, k ≠ ρ.φ n → w'.heap[k]? = ρ.w.heap[k]? := fun k hk => setRow_other ρ.w _ k cur' hk
    have hnx := nx_upd ho hb hne hfz (b' := ⟨bsz, bty, updAt els idx (setPart e off (cells x')), box, brf || valRef x, fz, bver⟩) c1 (w' := w') rfl rfl rfl setRow_size hother hself hcs rfl rfl rfl (Nat.le_refl _)
      (by simp [updAt_eq]) (fun _ => by simp [updAt_eq]) (fun hle => by
        have hmem : ∀ y ∈ updAt els idx (setPart e off (cells x')), y = setPart e off (cells x') ∨ y ∈ els := by
          intro y hy
          rw [updAt_eq] at hy
          rcases List.mem_or_eq_of_mem_set hy with h | h
          · exact .inr h
          · exact .inl h
        have heM := List.mem_of_getElem? he
        refine ⟨hB.pos, fun hbx y hy c hc => ?_, fun hr y hy => ?_, fun hbx => by simpa [updAt_eq] using hB.box hbx, by simpa [updAt_eq] using hB.len, fun _ => ⟨cur', hself, c2, by simpa [updAt_eq, hcs] using c3, fun i y hy => ?_⟩⟩
        · rcases hmem y hy with rfl | h
          · rw [q2] at hc
            rcases mem_splice hc with h | h
            · exact hB.can hbx e heM c h
            · exact hx2 hbx c h
          · exact hB.can hbx y h c hc
        · simp only [Bool.or_eq_false_iff] at hr
          rcases hmem y hy with rfl | h
          · unfold valRef
            rw [q2]
            refine refs_of_mem fun c hc => ?_
            rcases mem_splice hc with h | h
            · exact hasRefs_mem (hB.rf hr.1 e heM) c h
            · exact hasRefs_mem (hx3 hr.2) c h
          · exact hB.rf hr.1 y h
        · have hy' : (els.set idx (setPart e off (cells x')))[i]? = some y := by rw [← updAt_eq]; exact hy
          have hil' : i < els.length := by
            have := (List.getElem?_eq_some_iff.1 hy').1
            simpa using this
          by_cases hii : i = idx
          · subst hii
            rw [List.getElem?_set_self hi] at hy'
            injection hy' with hy'
            subst hy'
            refine ⟨seg us off xv.cells.toList, by rw [seg_len (by simp; omega)]; exact u1, fun j u hj => ?_, q1.le hle⟩
            show cur'[i * bsz + j]? = some u
            have hjl : j < bsz := by
              have := (List.getElem?_eq_some_iff.1 hj).1
              rw [seg_len (by simp; omega)] at this
              omega
            by_cases hin : off ≤ j ∧ j < off + xv.cells.toList.length
            · obtain ⟨k, rfl⟩ : ∃ k, j = off + k := ⟨j - off, by omega⟩
              rw [seg_in (by simp; omega) (by omega)] at hj
              have := seg_in hfit (j := k) (by omega)
              rw [hj] at this
              simpa [cur', o, Nat.add_assoc] using this
            · rw [seg_out (by simp; omega) (by omega)] at hj
              have := seg_out hfit (j := i * bsz + j) (by simp only [o]; omega)
              have h9 := u2 j u hj
              simpa [cur'] using this.trans (by simpa using h9)
          · rw [List.getElem?_set_ne (fun h => hii h.symm)] at hy'
            obtain ⟨ws, w1, w2, w3⟩ := c4 i y hy'
            refine ⟨ws, w1, fun j u hj => ?_, w3.le hle⟩
            show cur'[i * bsz + j]? = some u
            have hjl : j < bsz := by
              have := (List.getElem?_eq_some_iff.1 hj).1
              omega
            have hdis : i * bsz + j < o ∨ o + xv.cells.toList.length ≤ i * bsz + j := by
              rcases Nat.lt_or_gt_of_ne hii with hlt | hgt
              · left
                have : (i + 1) * bsz ≤ idx * bsz := Nat.mul_le_mul_right _ hlt
                rw [Nat.add_mul] at this
                simp only [o]; omega
              · right
                have : (idx + 1) * bsz ≤ i * bsz := Nat.mul_le_mul_right _ hgt
                rw [Nat.add_mul] at this
                simp only [o, Array.length_toList]; omega
            have := seg_out hfit (j := i * bsz + j) hdis
            have h9 := w2 j u hj
            simpa [cur'] using this.trans (by simpa using h9))
    rw [← updAt_eq] at hnx
    refine ⟨_, _, _, _, _, ?_, .inr ⟨rfl, rfl⟩, hnx, trivial⟩
    rw [Sem.run_bind]
    show ((Instr.storeAt T (.pointer (some ⟨ρ.φ n, o, none⟩)) xv).run P ρ.w).andThen _ = _
    rw [hrun]
    rfl
  · cases h
end
end Go.Proofs.Ytiibidadpgknjaa.Fi
