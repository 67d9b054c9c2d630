/- What one operation does in the machine: strings' bytes, parts of slices, conversions. -/
import Derived.Test.YtiibidadpgknjaaOpD
import Derived.Laws.BytesString
import Derived.Laws.Strings2
namespace Go.Proofs.Ytiibidadpgknjaa.Fi
open Go

section
variable {P : Program} {X : Ctx} {ρ : R}

theorem has_u8 (b : UInt8) : IntKind.u8.has (b.toNat : Int) := by
  have := b.toNat_lt
  rw [has_iff]
  simp [IntKind.min, IntKind.max, IntKind.signed, IntKind.bits]
  omega
theorem byteV_rel (b : UInt8) : ValR ρ (byteV b) (.int .u8 b.toNat) := vr_int.2 ⟨rfl, has_u8 b⟩

theorem index_does (hT : TabOk P X) {T : Nat} (hk : tk X T = .str) {s : List UInt8} {n : IntKind × Int} {c : UInt8} (h : below n.2 s.length = true) (hc : nth s n.2.toNat = some c) (w : World) :
    (Instr.index T (.string ⟨s.toArray⟩) (.int n.1 n.2)).run P w = .ok (.int .u8 c.toNat) w := by
  obtain ⟨h0, h1⟩ := below_some h
  have hi : n.2.toNat < (ByteArray.mk s.toArray).size := by simp [ByteArray.size]; omega
  have hg : (ByteArray.mk s.toArray)[n.2.toNat]? = some c := by
    have := nth_some hc
    rw [ByteArray.getElem?_lt' _ _ hi]
    congr 1
    have h2 : s[n.2.toNat]'(by omega) = c := by
      rw [List.getElem?_eq_getElem (by omega)] at this
      exact Option.some.inj this
    rw [← h2]
    rfl
  simp only [Instr.index, Sem.run_bind, asIntOf, Sem.run_pure, Result.andThen_ok, run_underlying (und_str hT hk), h0, if_true, hg]

theorem bound_low {d l : Int} {lo : Option AV} {lv : Option Value} (h : bound d lo = some l) (hr : lo = none ∧ lv = none ∨ ∃ a v, lo = some a ∧ lv = some v ∧ ValR ρ a v) :
    (lv = none ∧ l = d) ∨ ∃ k, lv = some (.int k l) := by
  rcases hr with ⟨rfl, rfl⟩ | ⟨a, v, rfl, rfl, hv⟩
  · left; unfold bound at h; exact ⟨rfl, (Option.some.inj h).symm⟩
  · right
    unfold bound at h
    obtain ⟨p, h1, h2⟩ := bind_some h
    injection h2 with e
    subst e
    have := asI_some h1
    subst this
    obtain ⟨rfl, _⟩ := vr_int.1 hv
    exact ⟨p.1, rfl⟩
theorem run_bounds {isS : Bool} {len cap : Nat} {l u : Int} {lv hv : Option Value} (h1 : (lv = none ∧ l = 0) ∨ ∃ k, lv = some (.int k l)) (h2 : (hv = none ∧ u = len) ∨ ∃ k, hv = some (.int k u))
    (hlu : 0 ≤ l ∧ l ≤ u) (huc : u ≤ cap) (w : World) : (Instr.sliceBounds isS len cap lv hv none).run P w = .ok (l.toNat, u.toNat, cap) w := by
  have hu0 : 0 ≤ u := by omega
  have ec : ((u.toNat : Nat) : Int) = u := by omega
  rcases h1 with ⟨rfl, rfl⟩ | ⟨k, rfl⟩ <;> rcases h2 with ⟨rfl, rfl⟩ | ⟨k', rfl⟩
  · simp [Instr.sliceBounds]
  · simp [Instr.sliceBounds, Instr.sliceBound, asIntOf, hu0, huc]
  · simp [Instr.sliceBounds, Instr.sliceBound, asIntOf, hlu.1, hlu.2]
  · simp [Instr.sliceBounds, Instr.sliceBound, asIntOf, hu0, huc, hlu.1, ec, hlu.2]

theorem between_some {lo x hi : Int} (h : between lo x hi = true) : lo ≤ x ∧ x ≤ hi := by
  unfold between at h; simpa [leI_iff] using h
theorem cutL_eq {α : Type} (l : List α) (lo hi : Int) : cutL l lo hi = (l.drop lo.toNat).take (hi.toNat - lo.toNat) := by unfold cutL; rw [takeN_eq, dropN_eq]

theorem eszIs_eq {k : TK} {sz : Nat} (h : eszIs k sz = true) : ∃ eb ety, k = .slice sz eb ety := by
  unfold eszIs at h
  split at h
  · rename_i e b t
    have := Nat.eq_of_beq_eq_true h
    subst this
    exact ⟨_, _, rfl⟩
  · cases h

theorem run_slice_slice (hT : TabOk P X) {T sz eb ety : Nat} (hk : tk X T = .slice sz eb ety) {a : Option Addr} {len cap : Nat} {l u : Int} {lv hv : Option Value}
    (h1 : (lv = none ∧ l = 0) ∨ ∃ k, lv = some (.int k l)) (h2 : (hv = none ∧ u = len) ∨ ∃ k, hv = some (.int k u)) (hlu : 0 ≤ l ∧ l ≤ u) (huc : u ≤ cap) (w : World) :
    (Instr.sliceAt T (.slice a len cap) lv hv none).run P w = .ok (.slice (if cap = l.toNat then a else a.map (·.add (l.toNat * sz))) (u.toNat - l.toNat) (cap - l.toNat)) w := by
  obtain ⟨hu, I, i1, i2, i3, i4, i5⟩ := und_slice hT hk
  simp only [Instr.sliceAt, Sem.run_bind, run_underlying hu, Result.andThen_ok, Instr.slice, run_bounds h1 h2 hlu huc, run_sizeOf' i1, i2, Sem.run_pure]

theorem slice_does (hT : TabOk P X) (ho : Ok ρ) {T : Nat} {x v : AV} {xv : Value} {lo hi : Option AV} {lv hv : Option Value} (hx : ValR ρ x xv)
    (hlo : lo = none ∧ lv = none ∨ ∃ a v, lo = some a ∧ lv = some v ∧ ValR ρ a v) (hhi : hi = none ∧ hv = none ∨ ∃ a v, hi = some a ∧ hv = some v ∧ ValR ρ a v)
    (h : sliceE ρ.h (tk X T) x lo hi = some v) : ∃ vv, (Instr.sliceAt T xv lv hv none).run P ρ.w = .ok vv ρ.w ∧ ValR ρ v vv := by
  have hnb : ∀ {α : Type} {b : Bool} {y : Option α} {r : α}, (bif !b then none else y) = some r → b = true ∧ y = some r := by
    intro α b y r h
    cases b
    · cases h
    · exact ⟨rfl, h⟩
  unfold sliceE at h
  split at h
  · rename_i s
    obtain ⟨hk, h⟩ := hnb h
    obtain ⟨l, h1, h⟩ := bind_some h
    obtain ⟨u, h2, h⟩ := bind_some h
    obtain ⟨h3, h⟩ := cond_some h
    injection h with e
    subst e
    simp only [Bool.and_eq_true, decide_eq_true_eq, leI_iff] at h3
    obtain ⟨k1, k2⟩ := between_some h3.1
    obtain ⟨rfl, hl⟩ := vr_str.1 hx
    have hu := und_str hT (isStr_eq hk)
    have hsz : (ByteArray.mk s.toArray).size = s.length := by simp [ByteArray.size]
    refine ⟨.string ⟨(cutL s l u).toArray⟩, ?_, vr_str.2 ⟨rfl, ?_⟩⟩
    · simp only [Instr.sliceAt, Sem.run_bind, run_underlying hu, Result.andThen_ok, Instr.slice, Option.isSome_none, Bool.false_eq_true, if_false, Sem.run_pure]
      rw [run_bounds (bound_low h1 hlo) (bound_low h2 hhi |>.imp (fun ⟨a, b⟩ => ⟨a, by rw [hsz]; exact b⟩) id) ⟨k1, k2⟩ (by rw [hsz]; omega)]
      simp only [Result.andThen_ok, ByteArray.extract_mk]
      rw [cutL_eq]
    · rw [cutL_eq]
      have : ((s.drop l.toNat).take (u.toNat - l.toNat)).length ≤ s.length := by simp; omega
      omega
  · rename_i sz es
    obtain ⟨hk, h⟩ := hnb h
    obtain ⟨eb, ety, hk⟩ := eszIs_eq hk
    obtain ⟨l, h1, h⟩ := bind_some h
    obtain ⟨u, h2, h⟩ := bind_some h
    obtain ⟨h3, h⟩ := cond_some h
    injection h with e
    subst e
    simp only [Bool.and_eq_true, decide_eq_true_eq, leI_iff] at h3
    obtain ⟨k1, k2⟩ := between_some h3.1
    have hlen : (cutL es l u).length = u.toNat - l.toNat := by rw [cutL_eq]; simp; omega
    obtain ⟨_, _, _, _, _, hs0, _⟩ := und_slice hT hk
    have hnil : ∀ {a : Option Addr} {c : Nat}, u.toNat - l.toNat = 0 → ValR ρ (.lst sz (cutL es l u)) (.slice a (u.toNat - l.toNat) c) := by
      intro a c h0
      have : cutL es l u = [] := List.eq_nil_of_length_eq_zero (by omega)
      rw [this, h0]
      exact RR.lst0 sz a c
    cases (show RR ρ.w ρ.Z (.lst sz es) [xv] from hx) with
    | lst0 _ a cap =>
      simp only [List.length_nil] at h3
      refine ⟨_, run_slice_slice hT hk (bound_low h1 hlo) (bound_low h2 hhi) ⟨k1, k2⟩ (by omega) ρ.w, hnil (by omega)⟩
    | lst _ _ a cap us hz hcap hb hs hm hh =>
      refine ⟨_, run_slice_slice hT hk (bound_low h1 hlo) (bound_low h2 hhi) ⟨k1, k2⟩ (by omega) ρ.w, ?_⟩
      by_cases h0 : u.toNat - l.toNat = 0
      · exact hnil h0
      · rw [if_neg (by omega), ← hlen]
        have hsp : a = ⟨a.block, a.off, none⟩ := by
          have hl : 0 < es.length := by omega
          have h0 := hs 0 hl
          have := hm 0 0 (us 0)[0] hl (by simp)
          simp only [cellOf, Nat.zero_mul, Nat.add_zero, Addr.add_zero'] at this
          exact spot_none this
        have hb' : (a.add (l.toNat * sz)).block = a.block := by unfold Addr.add; split <;> rfl
        refine RR.lst sz (cutL es l u) (a.add (l.toNat * sz)) _ (fun i => us (l.toNat + i)) (by rw [hb']; exact hz) (by omega) (by omega) (fun i hi => hs _ (by omega)) (fun i j q hi hj => ?_) (fun i e he => ?_)
        · have := hm (l.toNat + i) j q (by omega) hj
          unfold cellOf at this ⊢
          rw [hsp, addr_add] at this
          rw [hsp, addr_add, addr_add, ← this]
          congr 2
          rw [Nat.add_mul]
          omega
        · rw [cutL_eq] at he
          by_cases hi : i < u.toNat - l.toNat
          · rw [List.getElem?_take, if_pos hi, List.getElem?_drop] at he
            exact hh _ e he
          · rw [List.getElem?_take, if_neg hi] at he; cases he
  · rename_i n ver
    obtain ⟨b, hb0, h⟩ := bind_some h
    obtain ⟨hk, h⟩ := hnb h
    obtain ⟨eb, ety, hk⟩ := eszIs_eq hk
    obtain ⟨l, h1, h⟩ := bind_some h
    obtain ⟨u, h2, h⟩ := bind_some h
    obtain ⟨h3, h⟩ := cond_some h
    injection h with e
    subst e
    simp only [Bool.and_eq_true, decide_eq_true_eq, leI_iff] at h3
    obtain ⟨k1, k2⟩ := between_some h3.1
    obtain ⟨hb, hv'⟩ := blkAt_some hb0
    obtain ⟨_, b', hb', _, hbx, hp⟩ := (show Cell0 ρ (.own n ver) xv from hx)
    rw [hb] at hb'
    injection hb' with hb'
    subst hb'
    obtain ⟨a, cap, rfl, hc, hbg, h0, hne⟩ := hp hv'.symm
    have q1 : u ≤ (cap : Int) := by omega
    have q2 : l.toNat + (u.toNat - l.toNat) ≤ b.els.length := by omega
    have q3 : b.els.length ≤ l.toNat + (cap - l.toNat) := by omega
    have q4 : u.toNat - l.toNat ≤ bigN := by omega
    have q5 : b.els = [] → cap - l.toNat = 0 := fun he => by rw [h0 he]; exact Nat.zero_sub _
    refine ⟨_, run_slice_slice hT hk (bound_low h1 hlo) (bound_low h2 hhi) ⟨k1, k2⟩ q1 ρ.w, rfl, b, hb, Nat.le_of_eq hv'.symm, hbx, fun _ => ⟨_, _, rfl, q2, q3, q4, q5, fun hpos => ?_⟩⟩
    have hne' : b.els ≠ [] := fun he => by rw [h0 he] at hpos; omega
    rw [if_neg (by omega), (hne hne').1]
    simp [addr_add]
  · rename_i n ver off len
    obtain ⟨b, hb0, h⟩ := bind_some h
    obtain ⟨hk, h⟩ := hnb h
    obtain ⟨eb, ety, hk⟩ := eszIs_eq hk
    obtain ⟨l, h1, h⟩ := bind_some h
    obtain ⟨u, h2, h⟩ := bind_some h
    obtain ⟨h3, h⟩ := cond_some h
    injection h with e
    subst e
    simp only [Bool.and_eq_true, decide_eq_true_eq, leI_iff] at h3
    obtain ⟨k1, k2⟩ := between_some h3.1
    obtain ⟨hb, hv'⟩ := blkAt_some hb0
    obtain ⟨_, b', hb', _, hbx, hp⟩ := (show Cell0 ρ (.sl n ver off len) xv from hx)
    rw [hb] at hb'
    injection hb' with hb'
    subst hb'
    have hbl := (ho.blk n b hb).len
    obtain ⟨a, cap, rfl, hc, hc2, hbg, h0, hne⟩ := hp hv'.symm
    clear hp
    have q1 : u ≤ (cap : Int) := by omega
    have q2 : off + l.toNat + (u.toNat - l.toNat) ≤ b.els.length := by omega
    have q3 : b.els.length ≤ off + l.toNat + (cap - l.toNat) := by omega
    have q4 : u.toNat - l.toNat ≤ bigN := by omega
    have q5 : b.els = [] → cap - l.toNat = 0 := fun he => by rw [h0 he]; exact Nat.zero_sub _
    refine ⟨_, run_slice_slice hT hk (bound_low h1 hlo) (bound_low h2 hhi) ⟨k1, k2⟩ q1 ρ.w, rfl, b, hb, Nat.le_of_eq hv'.symm, hbx, fun _ => ⟨_, _, rfl, q2, q3, q4, q5, fun hpos => ?_⟩⟩
    rw [if_neg (by omega), hne (by omega)]
    simp [addr_add, Nat.add_mul]
  · obtain ⟨hk, h⟩ := hnb h
    obtain ⟨esz, eb, ety, hk⟩ := isSlice_eq hk
    obtain ⟨l, h1, h⟩ := bind_some h
    obtain ⟨u, h2, h⟩ := bind_some h
    obtain ⟨h3, h⟩ := cond_some h
    injection h with e
    subst e
    simp only [Bool.and_eq_true, beq_iff_eq] at h3
    obtain ⟨rfl, rfl⟩ := h3
    obtain ⟨a, rfl⟩ := (show Cell0 ρ .nilS xv from hx)
    refine ⟨_, run_slice_slice hT hk (bound_low h1 hlo) (bound_low h2 hhi) ⟨by omega, by omega⟩ (by omega) ρ.w, ?_⟩
    exact ⟨_, rfl⟩
  · cases h

/-! ### Conversions -/

theorem wider_has {k k' : IntKind} {n : Int} (h : wider k' k = true) (hn : k'.has n) : k.has n := by
  rw [has_iff] at hn ⊢
  cases k' <;> cases k <;> first | (cases h; done) | (simp [IntKind.min, IntKind.max, IntKind.signed, IntKind.bits] at hn ⊢; omega)

theorem strOf_len : ∀ {xs : List AV} {l : List UInt8}, strOf xs = some l → l.length = xs.length
  | [], l, h => by simp [strOf] at h; subst h; rfl
  | v :: vs, l, h => by
    simp only [strOf] at h
    obtain ⟨b, _, h⟩ := bind_some h
    obtain ⟨r, h1, h⟩ := bind_some h
    injection h with e
    subst e
    simp [strOf_len h1]
theorem strOf_at : ∀ {xs : List AV} {l : List UInt8} {i : Nat} {e : AV}, strOf xs = some l → xs[i]? = some e → ∃ n, e = .int .u8 n ∧ l[i]? = some (UInt8.ofNat n.toNat)
  | [], _, _, _, _, h => by simp at h
  | v :: vs, l, i, e, h, hi => by
    simp only [strOf] at h
    obtain ⟨b, h0, h⟩ := bind_some h
    obtain ⟨r, h1, h⟩ := bind_some h
    injection h with e1
    subst e1
    cases i with
    | zero =>
      simp at hi
      subst hi
      unfold byteOf at h0
      split at h0
      · injection h0 with h0; subst h0; exact ⟨_, rfl, rfl⟩
      · cases h0
    | succ i =>
      obtain ⟨n, e1, e2⟩ := strOf_at h1 (by simpa using hi)
      exact ⟨n, e1, by simpa using e2⟩
theorem push_fold (ns : List Int) : ∀ (s : List UInt8), ns.foldl (fun r n => r.push (UInt8.ofNat n.toNat)) (ByteArray.mk s.toArray) = ⟨(s ++ ns.map fun n => UInt8.ofNat n.toNat).toArray⟩ := by
  induction ns with
  | nil => intro s; simp
  | cons n ns ih =>
    intro s
    have : (ByteArray.mk s.toArray).push (UInt8.ofNat n.toNat) = ⟨(s ++ [UInt8.ofNat n.toNat]).toArray⟩ := by
      apply ByteArray.ext
      simp [ByteArray.push]
    rw [List.foldl_cons, this, ih]
    simp

/-- A slice of bytes as a string. -/
theorem bytes_string {xv : Value} {xs : List AV} {l : List UInt8} (h : Shows ρ xv 1 xs) (hs : strOf xs = some l) :
    (Conv.bytesToString xv).run P ρ.w = .ok (.string ⟨l.toArray⟩) ρ.w ∧ l.length ≤ bigN := by
  obtain ⟨a, cap, rfl, hc, hb, hm⟩ := h
  have hl := strOf_len hs
  refine ⟨?_, by omega⟩
  by_cases hx : xs = []
  · subst hx
    simp [strOf] at hs
    subst hs
    cases a with
    | none => simp [Conv.bytesToString]; rfl
    | some a =>
      have := run_bytesToString (P := P) ρ.w a 0 cap [] (by simp [loadCells, loadCellsFrom])
      rw [List.length_nil, this]
      rfl
  · obtain ⟨b, o, rfl, _, hcells⟩ := hm hx
    let ns : List Int := xs.map fun e => match e with | .int _ n => n | _ => 0
    have hn : ∀ (i : Nat) (e : AV), xs[i]? = some e → ∃ n : Int, e = .int .u8 n ∧ ns[i]? = some n ∧ l[i]? = some (UInt8.ofNat n.toNat) := by
      intro i e hi
      obtain ⟨n, e1, e2⟩ := strOf_at hs hi
      refine ⟨n, e1, ?_, e2⟩
      simp only [ns, List.getElem?_map, hi, Option.map_some, e1]
    have hload : (loadCells ⟨b, o, none⟩ xs.length).run P ρ.w = .ok (ns.map (Value.int .u8)).toArray ρ.w := by
      have := run_loadCells_list (P := P) ρ.w ⟨b, o, none⟩ (ns.map (Value.int .u8)) (fun j v hj => by
        rw [addr_add]
        rw [List.getElem?_map] at hj
        cases hnj : ns[j]? with
        | none => rw [hnj] at hj; cases hj
        | some n =>
          rw [hnj] at hj
          injection hj with hj
          subst hj
          have hjl : j < xs.length := by
            have := (List.getElem?_eq_some_iff.1 hnj).1
            simpa [ns] using this
          obtain ⟨n', e1, e2, _⟩ := hn j xs[j] (List.getElem?_eq_getElem hjl)
          rw [hnj] at e2
          injection e2 with e2
          subst e2
          obtain ⟨us, u1, u2, u3⟩ := hcells j xs[j] (List.getElem?_eq_getElem hjl)
          rw [e1] at u2
          obtain ⟨u, rfl, u4⟩ := (elemR_eq (by simp)).1 u2
          have := u3 0 u rfl
          rw [(vr_int.1 u4).1] at this
          simpa using this)
      simpa [ns] using this
    rw [run_bytesToString ρ.w _ _ _ ns hload]
    have := push_fold ns []
    rw [show ByteArray.empty = ⟨([] : List UInt8).toArray⟩ from rfl, this]
    congr 4
    rw [List.nil_append]
    apply List.ext_getElem?
    intro i
    by_cases hi : i < xs.length
    · obtain ⟨n, e1, e2, e3⟩ := hn i xs[i] (List.getElem?_eq_getElem hi)
      rw [List.getElem?_map, e2, e3]
      rfl
    · rw [List.getElem?_eq_none (by simp [ns]; omega), List.getElem?_eq_none (by omega)]
end
end Go.Proofs.Ytiibidadpgknjaa.Fi
