/- What one operation does in the machine: append. -/
import Derived.Test.YtiibidadpgknjaaOpI
namespace Go.Proofs.Ytiibidadpgknjaa.Fi
open Go

section
variable {P : Program} {X : Ctx} {ρ : R}

/-- What is appended. -/
structure Src (P : Program) (ρ : R) (esz : Nat) (xv : Value) (xs : List AV) (rf : Bool) (news : Array Value) : Prop where
  len : ∀ w, (Builtin.lenOf xv).run P w = .ok xs.length w
  cells : ∀ w : World, w.heap = ρ.w.heap → (Builtin.firstCells esz xs.length xv).run P w = .ok news w
  size : news.size = xs.length * esz
  el : ∀ (i : Nat) (e : AV), xs[i]? = some e → ∃ us : List Value, us.length = esz ∧ (∀ (j : Nat) (u : Value), us[j]? = some u → news[i * esz + j]? = some u) ∧ ElemR ρ e us
  can : ∀ e ∈ xs, noNil e
  rf : rf = false → ∀ e ∈ xs, valRef e = false

theorem Src.one {esz : Nat} {xv : Value} {xs : List AV} {rf : Bool} {news : Array Value} (h0 : 0 < esz) (h : Src P ρ esz xv xs rf news) : ∀ u ∈ news.toList, u.oneCell' = true := by
  intro u hu
  obtain ⟨k, hk⟩ := List.getElem?_of_mem hu
  have hkl : k < xs.length * esz := by
    have := (List.getElem?_eq_some_iff.1 hk).1
    rw [Array.length_toList, h.size] at this
    exact this
  have hi : k / esz < xs.length := Nat.div_lt_of_lt_mul (by rw [Nat.mul_comm]; exact hkl)
  obtain ⟨us, u1, u2, u3⟩ := h.el (k / esz) _ (List.getElem?_eq_getElem hi)
  have hj : k % esz < us.length := by rw [u1]; exact Nat.mod_lt _ h0
  have := u2 (k % esz) _ (List.getElem?_eq_getElem hj)
  have e : k / esz * esz + k % esz = k := by rw [Nat.mul_comm]; exact Nat.div_add_mod k esz
  rw [e] at this
  have hk' : news[k]? = some u := by simpa using hk
  rw [hk'] at this
  injection this with this
  rw [this]
  exact elem_one u3 _ (List.getElem_mem hj)

theorem rr_nonil {w : World} {Z : Nat → Prop} {e : AV} {us : List Value} (h : RR w Z e us) : noNil e ∧ valRef e = false := by
  have one : ∀ {c : AV} {u : Value}, isCell c = true → RR w Z c [u] → c ≠ .nilS ∧ hasRef c = false := by
    intro c u hc h
    cases h <;> first | exact ⟨by simp, rfl⟩ | cases hc
  have cells1 : ∀ {c : AV} {u : Value}, cells c = [c] → isCell c = true → RR w Z c [u] → noNil c ∧ valRef c = false := by
    intro c u hcc hc h
    obtain ⟨h1, h2⟩ := one hc h
    refine ⟨fun d hd => by rw [hcc] at hd; rw [List.mem_singleton.1 hd]; exact h1, ?_⟩
    unfold valRef
    rw [hcc]
    exact refs_of_mem fun d hd => by rw [List.mem_singleton.1 hd]; exact h2
  cases h with
  | bool b => exact cells1 (u := .bool b) rfl rfl (.bool b)
  | int k n h => exact cells1 (u := .int k n) rfl rfl (.int k n h)
  | str s h => exact cells1 rfl rfl (.str s h)
  | lst0 sz a cap => exact cells1 rfl rfl (.lst0 sz a cap)
  | lst sz l a cap us hz hcap hb hs hm hh => exact cells1 rfl rfl (.lst sz l a cap us hz hcap hb hs hm hh)
  | agg cs us hl hc hh =>
    have key : ∀ c ∈ cs, c ≠ .nilS ∧ hasRef c = false := by
      intro c hcm
      obtain ⟨j, hj⟩ := List.getElem?_of_mem hcm
      have hjl := (List.getElem?_eq_some_iff.1 hj).1
      exact one (hc c hcm) (hh j c us[j] hj (List.getElem?_eq_getElem (by omega)))
    exact ⟨fun c hcm => (key c hcm).1, refs_of_mem fun c hcm => (key c hcm).2⟩

theorem lst_good {sz : Nat} {l : List AV} {xv : Value} (h : ValR ρ (.lst sz l) xv) : ∀ e ∈ l, noNil e ∧ valRef e = false := by
  intro e he
  cases (show RR ρ.w ρ.Z (.lst sz l) [xv] from h) with
  | lst0 => cases he
  | lst _ _ a cap us hz hcap hb hs hm hh =>
    obtain ⟨j, hj⟩ := List.getElem?_of_mem he
    exact rr_nonil (hh j e hj)
theorem shown_good (ho : Ok ρ) {x : AV} {xv : Value} {sz : Nat} {xs : List AV} {rf : Bool} (h : ValR ρ x xv) (hs : shown ρ.h x = some (sz, xs, rf)) : (∀ e ∈ xs, noNil e) ∧ (rf = false → ∀ e ∈ xs, valRef e = false) := by
  unfold shown at hs
  split at hs
  · injection hs with e
    injection e with e1 e2
    injection e2 with e2 e3
    subst e1 e2
    exact ⟨fun e he => (lst_good h e he).1, fun _ e he => (lst_good h e he).2⟩
  · rename_i n ver
    obtain ⟨b, h1, h2⟩ := bind_some hs
    injection h2 with e
    injection e with e1 e2
    injection e2 with e2 e3
    subst e1 e2 e3
    obtain ⟨hb, hv⟩ := blkAt_some h1
    obtain ⟨_, b', hb', _, hbx, hp⟩ := (show Cell0 ρ (.own n ver) xv from h)
    rw [hb] at hb'
    injection hb' with hb'
    subst hb'
    exact ⟨(ho.blk n b hb).can hbx, (ho.blk n b hb).rf⟩
  · rename_i n ver off len
    obtain ⟨b, h1, h2⟩ := bind_some hs
    injection h2 with e
    injection e with e1 e2
    injection e2 with e2 e3
    subst e1 e2 e3
    obtain ⟨hb, hv⟩ := blkAt_some h1
    obtain ⟨_, b', hb', _, hbx, hp⟩ := (show Cell0 ρ (.sl n ver off len) xv from h)
    rw [hb] at hb'
    injection hb' with hb'
    subst hb'
    have hm : ∀ e ∈ takeN len (dropN off b.els), e ∈ b.els := by
      intro e he
      rw [takeN_eq, dropN_eq] at he
      exact List.mem_of_mem_drop (List.mem_of_mem_take he)
    exact ⟨fun e he => (ho.blk n b hb).can hbx e (hm e he), fun hr e he => (ho.blk n b hb).rf hr e (hm e he)⟩
  · cases hs

theorem shows_src {esz : Nat} (h0 : 0 < esz) {xv : Value} {xs : List AV} {rf : Bool} (h : Shows ρ xv esz xs) (hc : ∀ e ∈ xs, noNil e) (hr : rf = false → ∀ e ∈ xs, valRef e = false) :
    ∃ news, Src P ρ esz xv xs rf news := by
  obtain ⟨a, cap, rfl, hcap, hb, hm⟩ := h
  have hl : ∀ w : World, (Builtin.lenOf (.slice a xs.length cap)).run P w = .ok xs.length w := fun w => rfl
  by_cases hx : xs = []
  · subst hx
    refine ⟨#[], hl, fun w _ => ?_, by simp, fun i e hi => by simp at hi, hc, hr⟩
    cases a with
    | none => rfl
    | some a =>
      have := run_firstCells_some (P := P) w esz 0 a 0 cap [] (by simp) (by simp)
      simpa using this
  · obtain ⟨b, o, rfl, _, hcells⟩ := hm hx
    let news : List Value := (List.range (xs.length * esz)).map fun k => (ρ.w.cell? ⟨b, o + k, none⟩).getD undef
    have hnl : news.length = xs.length * esz := by simp [news]
    have hget : ∀ k, k < xs.length * esz → ∃ u, ρ.w.cell? ⟨b, o + k, none⟩ = some u ∧ news[k]? = some u := by
      intro k hk
      have hi : k / esz < xs.length := Nat.div_lt_of_lt_mul (by rw [Nat.mul_comm]; exact hk)
      obtain ⟨us, u1, u2, u3⟩ := hcells (k / esz) _ (List.getElem?_eq_getElem hi)
      have hj : k % esz < us.length := by rw [u1]; exact Nat.mod_lt _ h0
      have := u3 (k % esz) _ (List.getElem?_eq_getElem hj)
      have e : k / esz * esz + k % esz = k := by rw [Nat.mul_comm]; exact Nat.div_add_mod k esz
      rw [e] at this
      refine ⟨_, this, ?_⟩
      simp [news, hk, this]
    refine ⟨news.toArray, hl, fun w hw => ?_, by simpa using hnl, fun i e hi => ?_, hc, hr⟩
    · refine run_firstCells_some (P := P) w esz xs.length ⟨b, o, none⟩ xs.length cap news hnl fun j v hj => ?_
      have hjl : j < xs.length * esz := by rw [← hnl]; exact (List.getElem?_eq_some_iff.1 hj).1
      obtain ⟨u, c1, c2⟩ := hget j hjl
      rw [hj] at c2
      injection c2 with c2
      subst c2
      rw [addr_add]
      rw [World.cell?_of_block (w := ρ.w) (by rw [hw])]
      exact c1
    · have hil := (List.getElem?_eq_some_iff.1 hi).1
      obtain ⟨us, u1, u2, u3⟩ := hcells i e hi
      refine ⟨us, u1, fun j u hj => ?_, u2⟩
      have hjl : j < esz := by rw [← u1]; exact (List.getElem?_eq_some_iff.1 hj).1
      have hk : i * esz + j < xs.length * esz := by
        have : (i + 1) * esz ≤ xs.length * esz := Nat.mul_le_mul_right _ hil
        rw [Nat.add_mul] at this
        omega
      obtain ⟨v, c1, c2⟩ := hget _ hk
      have := u3 j u hj
      rw [c1] at this
      injection this with this
      subst this
      simpa using c2

theorem nil_src {esz : Nat} {xv : Value} (h : ValR ρ .nilS xv) : Src P ρ esz xv [] false #[] := by
  obtain ⟨a, rfl⟩ := (show Cell0 ρ .nilS xv from h)
  refine ⟨fun w => rfl, fun w _ => ?_, by simp, fun i e hi => (by simp at hi), fun e he => (by cases he), fun _ e he => (by cases he)⟩
  cases a with
  | none => rfl
  | some a =>
    have := run_firstCells_some (P := P) w esz 0 a 0 0 [] (by simp) (by simp)
    simpa using this
theorem str_src {s : List UInt8} {xv : Value} (h : ValR ρ (.str s) xv) : Src P ρ 1 xv (s.map byteV) false (s.map fun b => Value.int .u8 (b.toNat : Int)).toArray := by
  obtain ⟨rfl, hl⟩ := vr_str.1 h
  have hm : ∀ e ∈ s.map byteV, ∃ b, e = byteV b := by
    intro e he
    obtain ⟨b, _, rfl⟩ := List.mem_map.1 he
    exact ⟨b, rfl⟩
  refine ⟨fun w => ?_, fun w _ => ?_, by simp, fun i e hi => ?_, fun e he => ?_, fun _ e he => ?_⟩
  · have : (s.map byteV).length = s.length := by simp
    rw [this]
    rfl
  · have : (s.map byteV).length = s.length := by simp
    rw [this]
    show Result.ok _ w = _
    congr 1
    have e1 : (ByteArray.mk s.toArray).extract 0 s.length = ⟨s.toArray⟩ := by
      rw [ByteArray.extract_mk]; simp
    rw [e1]
    simp
  · obtain ⟨b, hb, rfl⟩ := map_get hi
    refine ⟨[.int .u8 b.toNat], rfl, fun j u hj => ?_, ⟨_, rfl, vr_int.2 ⟨rfl, has_u8 b⟩⟩⟩
    cases j with
    | succ j => simp at hj
    | zero =>
      simp only [List.getElem?_cons_zero, Option.some.injEq] at hj
      subst hj
      simp [hb]
  · obtain ⟨b, rfl⟩ := hm e he
    intro c hc
    rw [List.mem_singleton.1 (show c ∈ [byteV b] from hc)]
    simp [byteV]
  · obtain ⟨b, rfl⟩ := hm e he
    rfl

theorem run_lenOf_slice (a : Option Addr) (n c : Nat) (w : World) : (Builtin.lenOf (.slice a n c)).run P w = .ok n w := rfl

section run
variable {T U esz eb ety ty : Nat} {xv : Value} {xs : List AV} {rf : Bool} {news : Array Value}

/-- Room enough: what is appended goes where the slice lies. -/
theorem append_room (hT : TabOk P X) (hk : tk X T = .slice esz eb ety) (hU : ∃ d, P.underlying U = some d ∧ ∀ k, d ≠ .int k) (hs : Src P ρ esz xv xs rf news)
    {g o sLen sCap : Nat} {cur : Array Value} (hcap : sLen + xs.length ≤ sCap) (hg : ρ.w.heap[g]? = some (.cells cur ety (0, 0))) (hfit : o + (sLen + xs.length) * esz ≤ cur.size) :
    (Builtin.append_ #[T, U] ty #[.slice (some ⟨g, o, none⟩) sLen sCap, xv]).run P ρ.w = .ok (.slice (some ⟨g, o, none⟩) (sLen + xs.length) sCap) (ρ.w.setRow g (seg cur.toList (o + sLen * esz) news.toList).toArray) := by
  obtain ⟨hu, I, i1, i2, i3, i4, i5⟩ := und_slice hT hk
  obtain ⟨d, hd, hdi⟩ := hU
  have hnl : news.toList.length = xs.length * esz := by rw [Array.length_toList, hs.size]
  have hst := run_storeCells_at P g (o + sLen * esz) ety news.toList 0 cur ρ.w hg (by rw [hnl]; rw [Nat.add_mul] at hfit; omega) (hs.one i4)
  rw [Nat.add_zero] at hst
  simp only [Builtin.append_, Sem.run_bind, List.getElem?_toArray, List.getElem?_cons_zero, List.getElem?_cons_succ, run_underlying hu, Result.andThen_ok, run_sizeOf' i1, i2, run_underlying hd, Sem.run_pure, Bool.false_eq_true, if_false, hs.len, hcap, if_true,
    Bool.not_false, hs.cells ρ.w rfl, addr_add]
  rw [show (storeCells (⟨g, o + sLen * esz, none⟩ : Addr) news.toList).run P ρ.w = _ from hst]
  rfl
/-- Nothing appended to nothing. -/
theorem append_none (hT : TabOk P X) (hk : tk X T = .slice esz eb ety) (hU : ∃ d, P.underlying U = some d ∧ ∀ k, d ≠ .int k) (hs : Src P ρ esz xv [] rf news) {a : Option Addr} {sLen sCap : Nat} (hc : sLen ≤ sCap) :
    (Builtin.append_ #[T, U] ty #[.slice a sLen sCap, xv]).run P ρ.w = .ok (.slice a sLen sCap) ρ.w := by
  obtain ⟨hu, I, i1, i2, i3, i4, i5⟩ := und_slice hT hk
  obtain ⟨d, hd, hdi⟩ := hU
  have hn : news = #[] := by
    have := hs.size
    simp at this
    exact this
  subst hn
  have hl := hs.len
  have hcl := hs.cells ρ.w rfl
  simp only [List.length_nil] at hl hcl
  simp only [Builtin.append_, Sem.run_bind, List.getElem?_toArray, List.getElem?_cons_zero, List.getElem?_cons_succ, run_underlying hu, Result.andThen_ok, run_sizeOf' i1, i2, run_underlying hd, Sem.run_pure, Bool.false_eq_true, if_false, hl, Nat.add_zero, hc, if_true,
    Bool.not_false, hcl]
  cases a with
  | none => rfl
  | some a =>
    simp only [storeCells, Sem.run_bind]
    rfl
/-- Not room enough: a new row. -/
theorem append_grow (hT : TabOk P X) (hk : tk X T = .slice esz eb ety) (hU : ∃ d, P.underlying U = some d ∧ ∀ k, d ≠ .int k) (hs : Src P ρ esz xv xs rf news) {a : Option Addr} {sLen sCap : Nat} {olds : Array Value} {z : Value} {I : TypeInfo}
    (hi : P.info? ety = some I) (hz : I.zero = some z) (ho : (Builtin.firstCells esz sLen (.slice a sLen sCap)).run P ρ.w.drew = .ok olds ρ.w.drew) (hg : sCap < sLen + xs.length) (hf : fits (sLen + xs.length) eb = true) :
    (Builtin.append_ #[T, U] ty #[.slice a sLen sCap, xv]).run P ρ.w =
      .ok (.slice (some ⟨ρ.w.heap.size, 0, none⟩) (sLen + xs.length) (grownCap ρ.w (sLen + xs.length) sCap ety))
        (ρ.w.drew.alloc (.cells (olds ++ news ++ Builtin.zeroCells z.cells (grownCap ρ.w (sLen + xs.length) sCap ety - (sLen + xs.length))) ety)) := by
  obtain ⟨hu, I', i1, i2, i3, i4, i5⟩ := und_slice hT hk
  rw [hi] at i1
  injection i1 with i1
  subst i1
  obtain ⟨d, hd, hdi⟩ := hU
  unfold fits limitB at hf
  simp only [Bool.and_eq_true, decide_eq_true_eq] at hf
  have hn : ¬ (sLen + xs.length ≤ sCap) := by omega
  have h63 : ¬ (((sLen + xs.length : Nat) : Int) > 9223372036854775807) := by omega
  have h48 : ¬ (Builtin.nextslicecap (sLen + xs.length) sCap * I.bytes > 2 ^ 48) := by
    have := growslice_fits (need := sLen + xs.length) (old := sCap) (bytes := I.bytes) hg (by rw [i3]; omega)
    omega
  have hmax : IntKind.i64.max = 9223372036854775807 := rfl
  have hzv : (zeroValue ety).run P ρ.w.drew = .ok z ρ.w.drew := by simp [zeroValue, typeInfo, hi, hz]
  have hty : (typeInfo ety).run P ρ.w = .ok I ρ.w := by simp [typeInfo, hi]
  have hty' : (typeInfo ety).run P ρ.w.drew = .ok I ρ.w.drew := by simp [typeInfo, hi]
  have hch : (choose (.appendCap (sLen + xs.length) sCap ety)).run P ρ.w = .ok (grownCap ρ.w (sLen + xs.length) sCap ety) ρ.w.drew := by
    rw [run_choose]; rfl
  simp only [Builtin.append_, Sem.run_bind, List.getElem?_toArray, List.getElem?_cons_zero, List.getElem?_cons_succ, run_underlying hu, Result.andThen_ok, run_sizeOf' hi, i2, run_underlying hd, Sem.run_pure, Bool.false_eq_true, if_false, hs.len, hn,
    Bool.not_false, if_true, hty, hmax, h63, false_and, h48, hch, run_askRoom, hty', ho, hs.cells ρ.w.drew rfl, hzv, newRow, run_newObj]
  rfl
end run

/-- A named block begins anew elsewhere. -/
theorem nx_move (ho : Ok ρ) {n : Nat} {b b' : Blk} (hb : ρ.h[n]? = some b) (hf : b.fz = false) {cur' : Array Value} {w' : World}
    (hos : w'.os = ρ.w.os) (ht : w'.tape = ρ.w.tape) (hout : w'.output = ρ.w.output) (hz : w'.heap.size = ρ.w.heap.size + 1) (hs : ∀ k, k < ρ.w.heap.size → w'.heap[k]? = ρ.w.heap[k]?)
    (hsz : b'.sz = b.sz) (hty : b'.ty = b.ty) (hbox : b'.box = b.box) (hver : b.ver < b'.ver) (hlen : b.els.length < b'.els.length)
    (hnew : w'.heap[ρ.w.heap.size]? = some (.cells cur' b.ty (0, 0)))
    (can : b'.box = false → ∀ e ∈ b'.els, noNil e) (rf : b'.rf = false → ∀ e ∈ b'.els, valRef e = false) (box : b'.box = true → b'.els.length = 1) (len : b'.els.length ≤ bigN)
    (hsize : b'.els.length * b'.sz ≤ cur'.size)
    (hel : ∀ (i : Nat) (e : AV), b'.els[i]? = some e → ∃ us : List Value, us.length = b'.sz ∧ (∀ (j : Nat) (u : Value), us[j]? = some u → cur'[i * b'.sz + j]? = some u) ∧ ElemR ρ e us) :
    Nx ρ ⟨w', fun k => if k = n then ρ.w.heap.size else ρ.φ k, ρ.Z, ρ.h.set n b'⟩ := by
  have hn : n < ρ.h.length := (List.getElem?_eq_some_iff.1 hb).1
  have hself : (ρ.h.set n b')[n]? = some b' := by simp [hn]
  have hoth : ∀ k, k ≠ n → (ρ.h.set n b')[k]? = ρ.h[k]? := fun k hk => by rw [List.getElem?_set_ne (fun h => hk h.symm)]
  have hcap' : ∀ (k : Nat) (c : Blk), ρ.h[k]? = some c → c.els ≠ [] → capCells w' (ρ.φ k) = capCells ρ.w (ρ.φ k) := by
    intro k c hc hce
    unfold capCells
    rw [hs _ (ho.lt hc hce)]
  have hle : Le ρ ⟨w', fun k => if k = n then ρ.w.heap.size else ρ.φ k, ρ.Z, ρ.h.set n b'⟩ := by
    refine ⟨fun x hx => ⟨hx, hs x (ho.zlt x hx)⟩, fun k c hc => ?_⟩
    by_cases hk : k = n
    · subst hk
      rw [hb] at hc
      injection hc with hc
      subst hc
      exact ⟨b', hself, Nat.le_of_lt hver, hbox, fun e => by omega⟩
    · exact ⟨c, (hoth k hk).trans hc, Nat.le_refl _, rfl, fun _ => ⟨rfl, rfl, fun hce => ⟨if_neg hk, hcap' k c hc hce⟩⟩⟩
  refine ⟨hle, ⟨fun x hx => by show x < w'.heap.size; have := ho.zlt x hx; omega, fun k c hc => ?_, fun k m x y hx hy hx0 hy0 hkm => ?_⟩, ⟨hos, ht, hout, by show _ ≤ w'.heap.size; omega, fun k hk hkn => hs k hk, fun k c hc he => ?_⟩, fun k c hc => ?_, fun k c hc h1 h2 => ?_, fun _ hk => .inl hk⟩
  · by_cases hk : k = n
    · subst hk
      have hc' : (ρ.h.set k b')[k]? = some c := hc
      rw [hself] at hc'
      injection hc' with hc'
      subst hc'
      refine ⟨by rw [hsz]; exact (ho.blk k b hb).pos, can, rf, box, len, fun _ => ⟨cur', ?_, fun _ hzz => ?_, hsize, fun i e hi => ?_⟩⟩
      · show w'.heap[if k = k then _ else _]? = _
        rw [if_pos rfl, hty]; exact hnew
      · have hzz' : ρ.Z (if k = k then ρ.w.heap.size else ρ.φ k) := hzz
        rw [if_pos rfl] at hzz'
        exact Nat.lt_irrefl _ (ho.zlt _ hzz')
      · obtain ⟨us, u1, u2, u3⟩ := hel i e hi
        exact ⟨us, u1, u2, u3.le hle⟩
    · have hc' : (ρ.h.set n b')[k]? = some c := hc
      rw [hoth k hk] at hc'
      refine (ho.blk k c hc').keep hle fun hce => ⟨if_neg hk, hs _ (ho.lt hc' hce), ?_⟩
      obtain ⟨_, _, c2, _⟩ := (ho.blk k c hc').mem hce
      exact c2
  · have hx' : (ρ.h.set n b')[k]? = some x := hx
    have hy' : (ρ.h.set n b')[m]? = some y := hy
    show (if k = n then _ else _) ≠ (if m = n then _ else _)
    by_cases hk : k = n
    · rw [if_pos hk, if_neg (fun h => hkm (hk.trans h.symm))]
      rw [hoth m (fun h => hkm (hk.trans h.symm))] at hy'
      have := ho.lt hy' hy0
      omega
    · rw [if_neg hk]
      rw [hoth k hk] at hx'
      by_cases hm : m = n
      · rw [if_pos hm]
        have := ho.lt hx' hx0
        omega
      · rw [if_neg hm]
        rw [hoth m hm] at hy'
        exact ho.inj k m x y hx' hy' hx0 hy0 hkm
  · have hc' : (ρ.h.set n b')[k]? = some c := hc
    show _ ≤ (if k = n then _ else _) ∨ ∃ b0, _ ∧ _ ∧ _ ∧ (if k = n then _ else _) = _
    by_cases hk : k = n
    · rw [if_pos hk]; exact .inl (Nat.le_refl _)
    · rw [if_neg hk]
      rw [hoth k hk] at hc'; exact .inr ⟨c, hc', he, id, rfl⟩
  · by_cases hk : k = n
    · subst hk
      rw [hb] at hc
      injection hc with hc
      subst hc
      exact ⟨b', hself, hsz, hty, hbox, Nat.le_of_lt hlen, fun h => by omega⟩
    · exact ⟨c, (hoth k hk).trans hc, rfl, rfl, rfl, Nat.le_refl _, fun _ hce => ⟨if_neg hk, hcap' k c hc hce⟩⟩
  · by_cases hk : k = n
    · subst hk
      rw [hb] at hc
      injection hc with hc
      subst hc
      rw [hf] at h1; cases h1
    · exact ⟨c, (hoth k hk).trans hc, h1, h2, if_neg hk⟩
/-- A named list without elements, one version on. -/
theorem nx_bump (ho : Ok ρ) {n : Nat} {b b' : Blk} (hb : ρ.h[n]? = some b) (he : b.els = []) (he' : b'.els = []) (hsz : b'.sz = b.sz) (hty : b'.ty = b.ty) (hbox : b'.box = b.box) (hb0 : b.box = false) (hver : b.ver ≤ b'.ver) :
    Nx ρ ⟨ρ.w, ρ.φ, ρ.Z, ρ.h.set n b'⟩ := by
  have hn : n < ρ.h.length := (List.getElem?_eq_some_iff.1 hb).1
  have hself : (ρ.h.set n b')[n]? = some b' := by simp [hn]
  have hoth : ∀ k, k ≠ n → (ρ.h.set n b')[k]? = ρ.h[k]? := fun k hk => by rw [List.getElem?_set_ne (fun h => hk h.symm)]
  have hle : Le ρ ⟨ρ.w, ρ.φ, ρ.Z, ρ.h.set n b'⟩ := by
    refine ⟨fun x hx => ⟨hx, rfl⟩, fun k c hc => ?_⟩
    by_cases hk : k = n
    · subst hk
      rw [hb] at hc
      injection hc with hc
      subst hc
      exact ⟨b', hself, hver, hbox, fun _ => ⟨by rw [he, he'], hsz, fun h => absurd he h⟩⟩
    · exact ⟨c, (hoth k hk).trans hc, Nat.le_refl _, rfl, fun _ => ⟨rfl, rfl, fun _ => ⟨rfl, rfl⟩⟩⟩
  have key : ∀ (j : Nat) (z : Blk), (ρ.h.set n b')[j]? = some z → z.els ≠ [] → j ≠ n ∧ ρ.h[j]? = some z := by
    intro j z hz hz0
    by_cases hj : j = n
    · subst hj; rw [hself] at hz; injection hz with hz; subst hz; exact absurd he' hz0
    · rw [hoth j hj] at hz; exact ⟨hj, hz⟩
  refine ⟨hle, ⟨ho.zlt, fun k c hc => ?_, fun k m x y hx hy hx0 hy0 hkm => ho.inj k m x y (key k x hx hx0).2 (key m y hy hy0).2 hx0 hy0 hkm⟩, ⟨rfl, rfl, rfl, Nat.le_refl _, fun _ _ _ => rfl, fun k c hc he => .inr ⟨c, (key k c hc he).2, he, id, rfl⟩⟩, fun k c hc => ?_, fun k c hc h1 h2 => ?_, fun _ hk => .inl hk⟩
  · by_cases hk : k = n
    · subst hk
      have hc' : (ρ.h.set k b')[k]? = some c := hc
      rw [hself] at hc'
      injection hc' with hc'
      subst hc'
      exact ⟨by rw [hsz]; exact (ho.blk k b hb).pos, fun _ e h => (by rw [he'] at h; cases h), fun _ e h => (by rw [he'] at h; cases h), fun h => (by rw [hbox, hb0] at h; cases h), (by rw [he']; exact Nat.zero_le _), fun h => absurd he' h⟩
    · have hc' : (ρ.h.set n b')[k]? = some c := hc
      rw [hoth k hk] at hc'
      refine (ho.blk k c hc').keep hle fun hce => ⟨rfl, rfl, ?_⟩
      obtain ⟨_, _, c2, _⟩ := (ho.blk k c hc').mem hce
      exact c2
  · by_cases hk : k = n
    · subst hk
      rw [hb] at hc
      injection hc with hc
      subst hc
      exact ⟨b', hself, hsz, hty, hbox, by rw [he, he']; exact Nat.le_refl _, fun _ h => absurd he h⟩
    · exact ⟨c, (hoth k hk).trans hc, rfl, rfl, rfl, Nat.le_refl _, fun _ _ => ⟨rfl, rfl⟩⟩
  · by_cases hk : k = n
    · subst hk
      rw [hb] at hc
      injection hc with hc
      subst hc
      exact absurd he h2
    · exact ⟨c, (hoth k hk).trans hc, h1, h2, rfl⟩
end
end Go.Proofs.Ytiibidadpgknjaa.Fi
