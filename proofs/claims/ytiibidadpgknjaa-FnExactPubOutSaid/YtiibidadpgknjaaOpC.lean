/- What one operation does in the machine: loads, addresses, lengths. -/
import Derived.Test.YtiibidadpgknjaaOpB
namespace Go.Proofs.Ytiibidadpgknjaa.Fi
open Go

section
variable {P : Program} {X : Ctx} {ρ : R}

theorem blkAt_some {h : List Blk} {n ver : Nat} {b : Blk} (e : blkAt h n ver = some b) : h[n]? = some b ∧ b.ver = ver := by
  unfold blkAt at e
  obtain ⟨c, h1, h2⟩ := bind_some e
  obtain ⟨h3, h4⟩ := cond_some h2
  injection h4 with h5
  subst h5
  exact ⟨nth_some h1, Nat.eq_of_beq_eq_true h3⟩

theorem cell_at {w : World} {b o : Nat} {cur : Array Value} {t : Nat} {fr : Nat × Nat} (h : w.heap[b]? = some (.cells cur t fr)) (o' : Nat) (ho : o' = o) : w.cell? ⟨b, o, none⟩ = cur[o']? := by
  subst ho
  simp [World.cell?, h]
theorem addr_add (b o n : Nat) : (⟨b, o, none⟩ : Addr).add n = ⟨b, o + n, none⟩ := Addr.add_lit b o n

/-- Load of a variable's part. -/
theorem loadVar_cells {T : Nat} {I : TypeInfo} {ag : Bool} {w : World} {b o : Nat} {us : List Value} (hI : P.info? T = some I) (hag : aggOf P T = some ag) (hsz : I.size = us.length) (h1 : 0 < us.length)
    (hm : ∀ (j : Nat) (u : Value), us[j]? = some u → w.cell? ⟨b, o + j, none⟩ = some u) :
    (loadVar T ⟨b, o, none⟩).run P w = .ok (bif ag then .agg us.toArray else us.headD undef) w := by
  unfold loadVar
  rw [Sem.run_bind, run_isAgg hag]
  simp only [Result.andThen_ok]
  cases ag with
  | true =>
    simp only [if_true, Sem.run_bind, run_sizeOf' hI, Result.andThen_ok, hsz]
    rw [run_loadCells_list w _ us (fun j u hj => by rw [addr_add]; exact hm j u hj)]
    rfl
  | false =>
    cases us with
    | nil => simp at h1
    | cons u r =>
      have := hm 0 u rfl
      simp only [Nat.add_zero] at this
      simp [this]

/-- Part of what stands in memory. -/
theorem sub_part {cs : List AV} {us : List Value} {off n : Nat} {ag : Bool} (hc : CellsR ρ cs us) (hl : off + n ≤ cs.length) (h1 : 0 < n) :
    ValR ρ (partOf ag (.agg cs) off n) (bif ag then .agg ((us.drop off).take n).toArray else ((us.drop off).take n).headD undef) := by
  obtain ⟨e0, k⟩ := CellsR.iff.1 hc
  cases ag with
  | false =>
    obtain ⟨u, hu, hr⟩ := hc.at (nthD_some (l := cs) (i := off) (by omega))
    simp only [partOf, cond_false, cells]
    have : ((us.drop off).take n).headD undef = u := by
      have hx : (us.drop off)[0]? = some u := by simpa using hu
      have hy : ((us.drop off).take n)[0]? = some u := by rw [List.getElem?_take, if_pos h1]; exact hx
      cases hz : (us.drop off).take n with
      | nil => rw [hz] at hy; simp at hy
      | cons a r => rw [hz] at hy; simpa using hy
    rw [this]
    exact cell_val hr
  | true =>
    simp only [partOf, cond_true]
    cases hx : Nat.beq off 0 && Nat.beq n cs.length with
    | true =>
      simp only [Bool.and_eq_true] at hx
      have e1 := Nat.eq_of_beq_eq_true hx.1
      have e2 := Nat.eq_of_beq_eq_true hx.2
      subst e1
      refine ⟨_, rfl, ?_⟩
      rw [show ((us.drop 0).take n).toArray.toList = us by rw [List.drop_zero, List.take_of_length_le (by omega)]]
      exact hc
    | false =>
      refine ⟨_, rfl, ?_⟩
      unfold sub
      rw [takeN_eq, dropN_eq]
      refine CellsR.iff.2 ⟨by simp; omega, fun j c u hj hu => ?_⟩
      have hjn : j < n := by
        by_cases hlt : j < n
        · exact hlt
        · rw [List.getElem?_take, if_neg hlt] at hj; cases hj
      rw [List.getElem?_take, if_pos hjn, List.getElem?_drop] at hj
      simp only [List.getElem?_take, if_pos hjn, List.getElem?_drop] at hu
      exact k (off + j) c u hj hu

/-- An element's cells. -/
theorem elem_cells {e : AV} {us : List Value} (h : ElemR ρ e us) : CellsR ρ (cells e) us := by
  cases e with
  | agg cs => exact h
  | _ => obtain ⟨u, rfl, h'⟩ := (elemR_eq (by simp)).1 h; exact ⟨u, [], rfl, h', rfl⟩
theorem part_cells {e : AV} {off n : Nat} {ag : Bool} {v : Value} (h : ValR ρ (partOf ag (.agg (cells e)) off n) v) : ValR ρ (partOf ag e off n) v := by
  cases ag with
  | false => exact h
  | true =>
    cases e with
    | agg cs => exact h
    | _ => trivial

theorem size_ent (hT : TabOk P X) {T : Nat} (h : 0 < tsz X T) : ∃ i I z, tinfo X T = some i ∧ i.k = tk X T ∧ P.info? T = some I ∧ I.size = tsz X T ∧ I.zero = some z ∧ aggOf P T = some (isAgg (tk X T)) ∧ Ent P X T i := by
  unfold tsz at h ⊢
  unfold tk
  split at h
  · rename_i i hi
    rw [hi]
    have he := hT T i hi
    obtain ⟨I, z, h1, h2, h3, _⟩ := he.info h
    exact ⟨i, I, z, rfl, rfl, h1, h2, h3, he.agg h, he⟩
  · cases h

theorem load_run (hT : TabOk P X) (ho : Ok ρ) {T : Nat} {a : AV} {av : Value} (ha : ValR ρ a av) {β : Type} {K : AV → Option β} {r : β}
    (h : loadE X ρ.h T a K = some r) : ∃ ad v vv, av = .pointer (some ad) ∧ K v = some r ∧ (loadVar T ad).run P ρ.w = .ok vv ρ.w ∧ ValR ρ v vv := by
  unfold loadE at h
  split at h
  · rename_i n ver idx off
    obtain ⟨b, h1, h2⟩ := bind_some h
    obtain ⟨e, h3, h4⟩ := bind_some h2
    obtain ⟨h5, h6⟩ := cond_some h4
    simp only [Bool.and_eq_true] at h5
    have hs1 := Nat.le_of_ble_eq_true h5.1
    have hs2 : 0 < tsz X T := Nat.le_of_ble_eq_true h5.2
    obtain ⟨hb, hv⟩ := blkAt_some h1
    obtain ⟨_, b', hb', _, hp⟩ := (show Cell0 ρ (.ptr n ver idx off) av from ha)
    rw [hb] at hb'
    injection hb' with hb'
    subst hb'
    obtain ⟨hi, rfl⟩ := hp hv.symm
    have he := nth_some h3
    have hne : b.els ≠ [] := by intro hc; rw [hc] at hi; simp at hi
    obtain ⟨cur, c1, _, c3, c4⟩ := (ho.blk n b hb).mem hne
    obtain ⟨us, u1, u2, u3⟩ := c4 idx e he
    obtain ⟨i, I, z, t1, t2, t3, t4, t5, t6, t7⟩ := size_ent hT hs2
    have hcs := elem_cells u3
    have hlen : us.length = (cells e).length := hcs.length
    have hsub : ((us.drop off).take (tsz X T)).length = tsz X T := by simp; omega
    refine ⟨_, _, bif isAgg (tk X T) then .agg ((us.drop off).take (tsz X T)).toArray else ((us.drop off).take (tsz X T)).headD undef, rfl, h6, ?_, ?_⟩
    · refine loadVar_cells t3 t6 (by rw [hsub, t4]) (by omega) fun j u hj => ?_
      have hjn : j < tsz X T := by
        by_cases hlt : j < tsz X T
        · exact hlt
        · rw [List.getElem?_take, if_neg hlt] at hj; cases hj
      rw [List.getElem?_take, if_pos hjn, List.getElem?_drop] at hj
      rw [cell_at c1 (idx * b.sz + (off + j)) (by omega)]
      exact u2 _ _ hj
    · exact part_cells (sub_part hcs hs1 hs2)
  · rename_i cs off
    obtain ⟨h5, h6⟩ := cond_some h
    simp only [Bool.and_eq_true] at h5
    have hs1 := Nat.le_of_ble_eq_true h5.1
    have hs2 : 0 < tsz X T := Nat.le_of_ble_eq_true h5.2
    obtain ⟨b, o, us, rfl, hz, hlen, hc, hm, hr⟩ := (show Cell0 ρ (.rptr cs off) av from ha)
    obtain ⟨i, I, z, t1, t2, t3, t4, t5, t6, t7⟩ := size_ent hT hs2
    have hsub : ((us.drop off).take (tsz X T)).length = tsz X T := by simp; omega
    have hcs : CellsR ρ cs us := by
      cases hr with
      | agg _ _ _ _ hh =>
        refine CellsR.iff.2 ⟨hlen, fun j c u h1 h2 => ?_⟩
        have hcc := hc c (List.mem_of_getElem? h1)
        have := hh j c u h1 h2
        cases this with
        | bool b => exact RR.bool b
        | int k n h => exact RR.int k n h
        | str s h => exact RR.str s h
        | agg => cases hcc
        | lst0 sz a cap => exact RR.lst0 sz a cap
        | lst sz l a cap us hz hcap hb hs hm hh => exact RR.lst sz l a cap us hz hcap hb hs hm hh
    refine ⟨_, _, bif isAgg (tk X T) then .agg ((us.drop off).take (tsz X T)).toArray else ((us.drop off).take (tsz X T)).headD undef, rfl, h6, ?_, sub_part hcs hs1 hs2⟩
    refine loadVar_cells t3 t6 (by rw [hsub, t4]) (by omega) fun j u hj => ?_
    have hjn : j < tsz X T := by
      by_cases hlt : j < tsz X T
      · exact hlt
      · rw [List.getElem?_take, if_neg hlt] at hj; cases hj
    rw [List.getElem?_take, if_pos hjn, List.getElem?_drop] at hj
    have := hm (off + j) u hj
    rwa [show o + (off + j) = o + off + j by omega] at this
  · cases h
theorem load_does (hT : TabOk P X) (ho : Ok ρ) {T : Nat} {a v : AV} {av : Value} (ha : ValR ρ a av) {h' : List Blk} {l l' : Bool}
    (h : loadE X ρ.h T a (fun v => hand v ρ.h l) = some (v, h', l')) : Does P ρ (nv (Instr.loadAt T av)) v h' := by
  obtain ⟨ad, v1, vv, rfl, h1, h2, h3⟩ := load_run hT ho ha h
  injection h1 with h7
  injection h7 with h8 h9
  injection h9 with h10 h11
  subst h8 h10
  exact does_nv ho (by simp only [Instr.loadAt, Sem.run_bind, Instr.sureAddr, Sem.run_pure, Result.andThen_ok]; exact h2) h3
end
end Go.Proofs.Ytiibidadpgknjaa.Fi
