/- What one operation does in the machine: new variables, new slices. -/
import Derived.Test.YtiibidadpgknjaaOpE
namespace Go.Proofs.Ytiibidadpgknjaa.Fi
open Go

section
variable {P : Program} {X : Ctx} {ρ : R}

theorem new_named (ho : Ok ρ) {w' : World} {b : Blk} {cur : Array Value} (hos : w'.os = ρ.w.os) (ht : w'.tape = ρ.w.tape) (hout : w'.output = ρ.w.output) (hz : w'.heap.size = ρ.w.heap.size + 1)
    (hs : ∀ k, k < ρ.w.heap.size → w'.heap[k]? = ρ.w.heap[k]?) (hnew : w'.heap[ρ.w.heap.size]? = some (.cells cur b.ty (0, 0)))
    (pos : 0 < b.sz) (can : b.box = false → ∀ e ∈ b.els, noNil e) (rf : b.rf = false → ∀ e ∈ b.els, valRef e = false) (box : b.box = true → b.els.length = 1) (len : b.els.length ≤ bigN)
    (hsize : b.els.length * b.sz ≤ cur.size)
    (hel : ∀ (i : Nat) (e : AV), b.els[i]? = some e → ∃ us : List Value, us.length = b.sz ∧ (∀ (j : Nat) (u : Value), us[j]? = some u → cur[i * b.sz + j]? = some u) ∧ ElemR ρ e us) :
    Nx ρ (ρ.more w' b) := by
  refine nx_more ho hos ht hout hz hs ⟨pos, can, rf, box, len, fun hne => ⟨cur, ?_, fun _ hzz => ?_, hsize, fun i e hi => ?_⟩⟩
  · show w'.heap[if ρ.h.length = ρ.h.length then _ else _]? = _
    rw [if_pos rfl]
    exact hnew
  · have hzz' : ρ.Z (if ρ.h.length = ρ.h.length then ρ.w.heap.size else ρ.φ ρ.h.length) := hzz
    rw [if_pos rfl] at hzz'
    exact Nat.lt_irrefl _ (ho.zlt _ hzz')
  · obtain ⟨us, u1, u2, u3⟩ := hel i e hi
    exact ⟨us, u1, u2, u3.le (le_more ho hs)⟩
theorem more_phi (w' : World) (b : Blk) : (ρ.more w' b).φ ρ.h.length = ρ.w.heap.size := by
  show (if ρ.h.length = ρ.h.length then _ else _) = _
  rw [if_pos rfl]
theorem more_get (w' : World) (b : Blk) : (ρ.more w' b).h[ρ.h.length]? = some b := by
  show (ρ.h ++ [b])[ρ.h.length]? = _
  simp

/-- A name for a list without elements: no block. -/
theorem nx_empty (ho : Ok ρ) {b : Blk} (hb : b.els = []) (pos : 0 < b.sz) (box : b.box = false) : Nx ρ ⟨ρ.w, ρ.φ, ρ.Z, ρ.h ++ [b]⟩ := by
  have hle : Le ρ ⟨ρ.w, ρ.φ, ρ.Z, ρ.h ++ [b]⟩ := by
    refine ⟨fun b hb => ⟨hb, rfl⟩, fun n c hc => ?_⟩
    have hn : n < ρ.h.length := (List.getElem?_eq_some_iff.1 hc).1
    exact ⟨c, by show (ρ.h ++ [b])[n]? = _; rw [List.getElem?_append_left hn]; exact hc, Nat.le_refl _, rfl, fun _ => ⟨rfl, rfl, fun _ => ⟨rfl, rfl⟩⟩⟩
  refine ⟨hle, ⟨ho.zlt, fun n c hc => ?_, fun n m x y hx hy hx0 hy0 hnm => ?_⟩, ⟨rfl, rfl, rfl, Nat.le_refl _, fun _ _ _ => rfl, fun n c hc he => ?_⟩, fun n c hc => ?_, fun n c hc h1 h2 => ?_, fun _ hk => .inl hk⟩
  · rcases get_push _ _ _ _ hc with ⟨hn, hc⟩ | ⟨rfl, rfl⟩
    · refine (ho.blk n c hc).keep hle (fun hne => ⟨rfl, rfl, ?_⟩)
      obtain ⟨cur, _, c2, _⟩ := (ho.blk n c hc).mem hne
      exact c2
    · exact ⟨pos, fun _ e he => (by rw [hb] at he; cases he), fun _ e he => (by rw [hb] at he; cases he), fun h => (by rw [box] at h; cases h), (by rw [hb]; exact Nat.zero_le _), fun h => absurd hb h⟩
  · rcases get_push _ _ _ _ hx with ⟨hn, hx⟩ | ⟨rfl, rfl⟩
    · rcases get_push _ _ _ _ hy with ⟨hm, hy⟩ | ⟨rfl, rfl⟩
      · exact ho.inj n m x y hx hy hx0 hy0 hnm
      · exact absurd hb hy0
    · exact absurd hb hx0
  · rcases get_push _ _ _ _ hc with ⟨hn, hc⟩ | ⟨rfl, rfl⟩
    · exact .inr ⟨c, hc, he, id, rfl⟩
    · exact absurd hb he
  · have hn : n < ρ.h.length := (List.getElem?_eq_some_iff.1 hc).1
    exact ⟨c, by show (ρ.h ++ [b])[n]? = _; rw [List.getElem?_append_left hn]; exact hc, rfl, rfl, rfl, Nat.le_refl _, fun _ _ => ⟨rfl, rfl⟩⟩
  · have hn : n < ρ.h.length := (List.getElem?_eq_some_iff.1 hc).1
    exact ⟨c, by show (ρ.h ++ [b])[n]? = _; rw [List.getElem?_append_left hn]; exact hc, h1, h2, rfl⟩

/-! ### Conversions -/

theorem pushed {w : World} {o : Obj} {d : Nat} : let w' : World := { w with drawn := d, heap := w.heap.push o }
    (w'.heap.size = w.heap.size + 1) ∧ (∀ k, k < w.heap.size → w'.heap[k]? = w.heap[k]?) ∧ w'.heap[w.heap.size]? = some o := by
  refine ⟨by simp, fun k hk => ?_, ?_⟩
  · show (w.heap.push o)[k]? = _
    rw [Array.getElem?_push, if_neg (by omega)]
  · show (w.heap.push o)[w.heap.size]? = _
    rw [Array.getElem?_push_size]

theorem freeze_heap (W : World) (b o : Nat) : (W.freeze ⟨b, o, none⟩ 1).heap.size = W.heap.size ∧ (∀ k, k ≠ b → (W.freeze ⟨b, o, none⟩ 1).heap[k]? = W.heap[k]?) ∧
    (∀ c e fr, W.heap[b]? = some (.cells c e fr) → ∃ fr', (W.freeze ⟨b, o, none⟩ 1).heap[b]? = some (.cells c e fr')) := by
  have h1 : ¬ (1 : Nat) = 0 := by decide
  unfold World.freeze
  simp only [h1, if_false, Array.size_modify, Array.getElem?_modify, true_and]
  refine ⟨fun k hk => by rw [if_neg (fun h => hk h.symm)], fun c e fr h => ?_⟩
  rw [if_pos trivial, h]
  exact ⟨_, rfl⟩
theorem run_mark_new {W : World} {h0 : Array Obj} {row : Array Value} {e : Nat} (hW : W.heap = h0.push (.cells row e)) :
    (markStringish ⟨h0.size, 0, none⟩).run P W = .ok () (W.freeze ⟨h0.size, row.size, none⟩ 1) := by
  have hsh : W.shape? h0.size = some (e, row.size) := by
    unfold World.shape?
    rw [hW, Array.getElem?_push_size]
  simp [markStringish, hsh]

theorem conv_does (hT : TabOk P X) (ho : Ok ρ) {S T : Nat} {x v : AV} {xv : Value} (hx : ValR ρ x xv) (h : convE X ρ.h S T x = some v) : Does P ρ (nv (convert S T xv)) v ρ.h := by
  unfold convE at h
  split at h
  · rename_i k0 k k' n hS hTk
    injection h with e
    subst e
    obtain ⟨rfl, hn⟩ := vr_int.1 hx
    have : (convert S T (.int k' n)).run P ρ.w = .ok (.int k (k.wrap n)) ρ.w := by
      simp [convert, run_underlying (und_int hT hS), run_underlying (und_int hT hTk), Conv.intToInt]
    refine does_nv ho this ?_
    cases hw : wider k' k with
    | true =>
      have := wider_has hw hn
      rw [wrap_has this]
      exact vr_int.2 ⟨rfl, this⟩
    | false => exact vr_int.2 ⟨rfl, has_wrap _ _⟩
  · rename_i s hS hTk
    injection h with e
    subst e
    obtain ⟨rfl, hn⟩ := vr_str.1 hx
    refine does_nv ho (vv := .string ⟨s.toArray⟩) ?_ (vr_str.2 ⟨rfl, hn⟩)
    simp [convert, run_underlying (und_str hT hS), run_underlying (und_str hT hTk)]
  · rename_i a b ety s hS hTk
    obtain ⟨hu8, h⟩ := cond_some h
    injection h with e
    subst e
    obtain ⟨rfl, hn⟩ := vr_str.1 hx
    obtain ⟨hu, I, i1, i2, i3, i4, i5⟩ := und_slice hT hTk
    have hue := und_int hT (isU8_eq hu8)
    let cap := grownCap ρ.w s.length 0 ety
    have hcap : s.length ≤ cap := grownCap_ge _ _ _ _
    let elems : Array Value := s.toArray.map fun b => .int .u8 b.toNat
    let row : Array Value := elems ++ Array.replicate (cap - s.length) (.int .u8 0)
    let w1 : World := { ρ.w with drawn := ρ.w.drawn + 1, heap := ρ.w.heap.push (.cells row ety) }
    let w' : World := w1.freeze ⟨ρ.w.heap.size, row.size, none⟩ 1
    have hsz : (ByteArray.mk s.toArray).size = s.length := by simp [ByteArray.size]
    have hrun : (convert S T (.string ⟨s.toArray⟩)).run P ρ.w = .ok (.slice (some ⟨ρ.w.heap.size, 0, none⟩) s.length cap) w' := by
      simp only [convert, Sem.run_bind, run_underlying (und_str hT hS), run_underlying hu, Result.andThen_ok, run_underlying hue, Conv.stringToBytes, run_choose, Question.forced, Bool.false_eq_true, if_false, newRow, run_newObj, Sem.run_pure, hsz]
      rw [run_mark_new (h0 := ρ.w.heap) rfl]
      rfl
    obtain ⟨f1, f2, f3⟩ := freeze_heap w1 ρ.w.heap.size row.size
    obtain ⟨p1, p2, p3⟩ := pushed (w := ρ.w) (o := .cells row ety) (d := ρ.w.drawn + 1)
    have hheap : ∀ k, k < ρ.w.heap.size → w'.heap[k]? = ρ.w.heap[k]? := fun k hk => (f2 k (by omega)).trans (p2 k hk)
    have hnewh : ∃ fr, w'.heap[ρ.w.heap.size]? = some (.cells row ety fr) := f3 _ _ _ p3
    have hsize : w'.heap.size = ρ.w.heap.size + 1 := f1.trans p1
    have hnx := nx_zore ho (w' := w') rfl rfl rfl hsize hheap
    refine ⟨w', _, _, _, _, run_nv hrun, .inl rfl, hnx, ?_⟩
    obtain ⟨fr, hfr⟩ := hnewh
    have hlen : (s.map byteV).length = s.length := by simp
    show RR w' (fun k => ρ.Z k ∨ k = ρ.w.heap.size) (.lst 1 (s.map byteV)) [.slice (some ⟨ρ.w.heap.size, 0, none⟩) s.length cap]
    rw [← hlen]
    refine RR.lst 1 (s.map byteV) _ cap (fun i => [.int .u8 ((s.getD i 0).toNat : Int)]) (.inr rfl) (by omega) (by omega) (fun _ _ => rfl) (fun i j u hi hj => ?_) (fun i e hi => ?_)
    · cases j with
      | succ j => simp at hj
      | zero =>
        simp only [List.getElem?_cons_zero, Option.some.injEq] at hj
        subst hj
        unfold cellOf
        rw [addr_add, cell_at hfr (i * 1 + 0) (by omega)]
        have his : i < s.length := by omega
        show (elems ++ Array.replicate _ _)[i * 1 + 0]? = _
        rw [Array.getElem?_append_left (by simp [elems]; omega)]
        simp [elems, his]
    · have his : i < s.length := by
        have := (List.getElem?_eq_some_iff.1 hi).1
        omega
      rw [List.getElem?_map, List.getElem?_eq_getElem his] at hi
      injection hi with hi
      subst hi
      rw [show s.getD i 0 = s[i] by simp [his]]
      exact RR.int .u8 _ (has_u8 _)
  · rename_i a b ety hS hTk
    obtain ⟨hu8, h⟩ := cond_some h
    injection h with e
    subst e
    obtain ⟨hu, I, i1, i2, i3, i4, i5⟩ := und_slice hT hS
    have hue := und_int hT (isU8_eq hu8)
    obtain ⟨a, rfl⟩ := (show Cell0 ρ .nilS xv from hx)
    have hsh : Shows ρ (.slice a 0 0) 1 [] := ⟨a, 0, rfl, Nat.le_refl _, Nat.zero_le _, fun h => absurd rfl h⟩
    obtain ⟨r1, r2⟩ := bytes_string (P := P) hsh (l := []) rfl
    refine does_nv ho ?_ (vr_str.2 ⟨rfl, r2⟩)
    rw [run_convert_bytes_string ρ.w S T ety a 0 0 hu hue (und_str hT hTk)]
    exact r1
  · rename_i sz b ety hS hTk hxn
    obtain ⟨hc, h⟩ := cond_some h
    simp only [Bool.and_eq_true] at hc
    have e1 := Nat.eq_of_beq_eq_true hc.2
    obtain ⟨p, h1, h⟩ := bind_some h
    obtain ⟨hp1, h⟩ := cond_some h
    obtain ⟨l, h2, h⟩ := bind_some h
    injection h with e
    subst e
    have e2 := Nat.eq_of_beq_eq_true hp1
    obtain ⟨hu, I, i1, i2, i3, i4, i5⟩ := und_slice hT hS
    have hue := und_int hT (isU8_eq hc.1)
    obtain ⟨psz, xs, rf⟩ := p
    simp only at e2 h2
    subst e2
    have hsh := shown_shows ho (by omega) hx h1
    obtain ⟨r1, r2⟩ := bytes_string (P := P) hsh h2
    obtain ⟨a, cap, rfl, _⟩ := hsh
    refine does_nv ho ?_ (vr_str.2 ⟨rfl, r2⟩)
    rw [run_convert_bytes_string ρ.w S T ety a _ cap hu hue (und_str hT hTk)]
    exact r1
  · cases h

/-! ### New variables -/

theorem zr_self {c : AV} {u : Value} (h : ZR c u) (h1 : u.oneCell' = true) : CellR ρ c u := by
  unfold ZR at h
  split at h
  · obtain ⟨rfl, h⟩ := h; exact RR.int _ _ h
  · subst h; exact RR.bool _
  · subst h; exact RR.str [] (Nat.zero_le _)
  · subst h; exact RR.lst0 _ none 0
  · exact h1
  · exact h.elim
theorem zr_fresh {c : AV} {u : Value} (h : ZR c u) (h1 : u.oneCell' = true) : CellR ρ (fresh c) u := by
  unfold fresh
  split
  · have h' : u = .slice none 0 0 := h
    exact ⟨none, h'⟩
  · exact zr_self h h1
theorem zr_nonil {c : AV} {u : Value} (h : ZR c u) : c ≠ .nilS := by
  intro e
  subst e
  exact h

/-- The zero value's cells. -/
theorem zero_ent (hT : TabOk P X) {T : Nat} (h : 0 < tsz X T) : ∃ I z, P.info? T = some I ∧ I.size = tsz X T ∧ I.zero = some z ∧ z.cells.size = tsz X T ∧ (tz X T).length = tsz X T ∧
    CellsR ρ (tz X T) z.cells.toList ∧ CellsR ρ ((tz X T).map fresh) z.cells.toList ∧ (∀ c ∈ tz X T, c ≠ .nilS) ∧ (isAgg (tk X T) = false → tsz X T = 1) ∧
    (∀ u ∈ z.cells.toList, u.oneCell' = true) ∧ aggOf P T = some (isAgg (tk X T)) := by
  obtain ⟨i, I, z, t1, t2, t3, t4, t5, t6, t7⟩ := size_ent hT h
  have hz : tz X T = i.zero := by unfold tz; rw [t1]
  have hsz : tsz X T = i.size := by unfold tsz; rw [t1]
  obtain ⟨I', z', p1, p2, p3, p4, p5, p6, p7, p8, p9⟩ := t7.info (by omega)
  rw [t3] at p1
  injection p1 with p1
  subst p1
  rw [t5] at p3
  injection p3 with p3
  subst p3
  have hlen : z.cells.toList.length = i.zero.length := by simp; omega
  have hone : ∀ (j : Nat) (u : Value), z.cells.toList[j]? = some u → u.oneCell' = true := fun j u hj => p7 u (List.mem_of_getElem? hj)
  refine ⟨I, z, t3, t4, t5, by omega, by rw [hz]; omega, ?_, ?_, ?_, ?_, p7, t6⟩
  · rw [hz]
    exact CellsR.iff.2 ⟨hlen, fun j c u hc hu => zr_self (p6 j c u hc (by simpa using hu)) (hone j u hu)⟩
  · rw [hz]
    refine CellsR.iff.2 ⟨by simpa using hlen, fun j c u hc hu => ?_⟩
    rw [List.getElem?_map] at hc
    cases hd : i.zero[j]? with
    | none => rw [hd] at hc; cases hc
    | some d =>
      rw [hd] at hc
      injection hc with hc
      subst hc
      exact zr_fresh (p6 j d u hd (by simpa using hu)) (hone j u hu)
  · rw [hz]
    intro c hc
    obtain ⟨j, hj⟩ := List.getElem?_of_mem hc
    have hjl := (List.getElem?_eq_some_iff.1 hj).1
    exact zr_nonil (p6 j c z.cells[j] hj (by rw [Array.getElem?_eq_getElem]))
  · intro hag
    rw [← t2] at hag
    have := p9 hag
    have hc : z.cells = #[z] := by
      cases z <;> first | rfl | exact absurd rfl (this _)
    rw [hc] at p4
    simp at p4
    omega
/-- A value's cells, as a block's element. -/
theorem shape_elem {ag : Bool} {cs : List AV} {us : List Value} (h : CellsR ρ cs us) (h1 : ag = false → cs.length = 1) : ElemR ρ (shape ag cs) us ∧ cells (shape ag cs) = cs := by
  cases ag with
  | true => exact ⟨h, rfl⟩
  | false =>
    have hl := h1 rfl
    match cs, hl with
    | [c], _ =>
      obtain ⟨u, r, rfl, hu, hr⟩ := h
      have hr' : r = [] := hr
      subst hr'
      have hc : ElemR ρ c [u] ∧ cells c = [c] := by
        cases c with
        | agg cs => exact hu.elim
        | _ => exact ⟨⟨u, rfl, hu⟩, rfl⟩
      exact hc
theorem elem_one {e : AV} {us : List Value} (h : ElemR ρ e us) : ∀ u ∈ us, u.oneCell' = true := by
  have := elem_cells h
  intro u hu
  obtain ⟨j, hj⟩ := List.getElem?_of_mem hu
  have hjl := (List.getElem?_eq_some_iff.1 hj).1
  have hc : j < (cells e).length := by rw [← this.length]; exact hjl
  obtain ⟨v, h1, h2⟩ := this.at (List.getElem?_eq_getElem hc)
  rw [hj] at h1
  injection h1 with h1
  subst h1
  exact h2.one
/-- A value that can be stored. -/
theorem val_elem {v : AV} {vv : Value} (h : ValR ρ v vv) (hu : isU v = false) : ElemR ρ v vv.cells.toList := by
  cases v with
  | undef => cases hu
  | tup _ => cases hu
  | agg cs => obtain ⟨us, rfl, hr⟩ := h; exact hr
  | _ =>
    have h' := (val1_eq (by simp) (by simp)).1 ((valR_eq (by simp)).1 h)
    refine (elemR_eq (by simp)).2 ⟨vv, ?_, h'⟩
    have := h'.one
    cases vv <;> first | rfl | cases this

/-- A new variable with the value e. -/
theorem var_new (ho : Ok ρ) {T : Nat} {e : AV} {cur : Array Value} {rf : Bool} (h1 : 0 < tsz X T) (hs : cur.size = tsz X T) (he : ElemR ρ e cur.toList) (hrf : rf = false → valRef e = false) :
    Nx ρ (ρ.more { ρ.w with heap := ρ.w.heap.push (.cells cur T) } ⟨tsz X T, T, [e], true, rf, false, 0⟩) ∧
      ValR (ρ.more { ρ.w with heap := ρ.w.heap.push (.cells cur T) } ⟨tsz X T, T, [e], true, rf, false, 0⟩) (.ptr ρ.h.length 0 0 0) (.pointer (some ⟨ρ.w.heap.size, 0, none⟩)) := by
  obtain ⟨p1, p2, p3⟩ := pushed (w := ρ.w) (o := .cells cur T) (d := ρ.w.drawn)
  refine ⟨new_named ho rfl rfl rfl p1 p2 p3 h1 (fun h => by cases h) (fun h x hx => ?_) (fun _ => rfl) (by simp [bigN]) (by simp; omega) (fun i x hi => ?_), ?_⟩
  · have : x = e := by simpa using hx
    subst this
    exact hrf h
  · have hi0 : i = 0 := by
      have := (List.getElem?_eq_some_iff.1 hi).1
      simpa using this
    subst hi0
    have : e = x := by simpa using hi
    subst this
    exact ⟨cur.toList, by simpa using hs, fun j u hj => by simpa using hj, he⟩
  · refine ⟨rfl, _, more_get _ _, Nat.le_refl _, fun _ => ⟨by simp, ?_⟩⟩
    rw [more_phi]
    simp

theorem alloc_does (hT : TabOk P X) (ho : Ok ρ) {T : Nat} (h1 : 0 < tsz X T) :
    Does P ρ (nv (Instr.alloc T true (.tuple #[]))) (.ptr ρ.h.length 0 0 0) (push ρ.h ⟨tsz X T, T, [zeroOf X T], true, valRef (zeroOf X T), false, 0⟩) := by
  obtain ⟨I, z, i1, i2, i3, i4, i5, i6, i7, i8, i9, i10, i11⟩ := zero_ent (ρ := ρ) hT h1
  obtain ⟨he, _⟩ := shape_elem (ag := isAgg (tk X T)) i7 (fun h => by rw [List.length_map, i5]; exact i9 h)
  obtain ⟨n1, n2⟩ := var_new ho (X := X) (T := T) (e := zeroOf X T) (cur := z.cells) h1 i4 he (fun h => h)
  refine ⟨_, _, _, _, _, run_nv ?_, .inl rfl, n1, n2⟩
  simp [Instr.alloc, zeroValue, typeInfo, i1, i3, newVar, newRow]

theorem box_does (ho : Ok ρ) {T : Nat} {v : AV} {vv : Value} (hv : ValR ρ v vv) (h1 : 0 < tsz X T) (hl : (cells v).length = tsz X T) (hu : isU v = false) :
    Does P ρ (nv (Instr.box T vv)) (.ptr ρ.h.length 0 0 0) (push ρ.h ⟨tsz X T, T, [v], true, valRef v, false, 0⟩) := by
  have he := val_elem hv hu
  have hsz : vv.cells.size = tsz X T := by
    have := (elem_cells he).length
    simp at this
    omega
  obtain ⟨n1, n2⟩ := var_new ho (X := X) (T := T) (e := v) (cur := vv.cells) h1 hsz he (fun h => h)
  refine ⟨_, _, _, _, _, run_nv ?_, .inl rfl, n1, n2⟩
  simp [Instr.box, newVar, newRow]
end
end Go.Proofs.Ytiibidadpgknjaa.Fi
