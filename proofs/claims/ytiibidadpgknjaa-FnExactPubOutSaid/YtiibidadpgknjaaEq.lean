/- Structs that are compared as they stand: a check by computation. -/
import Derived.Test.YtiibidadpgknjaaOpB
namespace Go.Proofs.Ytiibidadpgknjaa.Fi
open Go

/-- Fields one after the other, each a number, a bool, a string or such a struct, as the zero value's cells have it. -/
def flatB (P : Program) : Nat → List AV → Nat → List Field → Option Nat
  | 0, _, _, _ => none
  | _ + 1, _, off, [] => some off
  | n + 1, zs, off, f :: fs =>
    if f.name ≠ "_" ∧ f.offset = off then
      match P.underlying f.type, nth zs off with
      | some (.int k), some (.int k' _) => if k = k' then flatB P n zs (off + 1) fs else none
      | some .bool, some (.bool _) => flatB P n zs (off + 1) fs
      | some .string, some (.str _) => flatB P n zs (off + 1) fs
      | some (.struct gs), some _ => if P.stoodInHeld f.type = false then
          match P.info? f.type with
          | some I => if 0 < I.size ∧ flatB P n (takeN I.size (dropN off zs)) 0 gs.toList = some I.size then flatB P n zs (off + I.size) fs else none
          | none => none
        else none
      | _, _ => none
    else none
def eqB (P : Program) (X : Ctx) (T : Nat) : Bool := match P.underlying T with
  | some (.struct gs) => decide (P.stoodInHeld T = false) && decide (P.eqGuardType P.depth T = false) && decide (flatB P 1000 (tz X T) 0 gs.toList = some (tz X T).length)
  | _ => false

theorem LitL.len : ∀ {a : List AV} {us : List Value}, LitL a us → us.length = a.length
  | [], us, h => by rw [show us = [] from h]; rfl
  | _ :: _, _, ⟨u, r, e, _, h⟩ => by rw [e, List.length_cons, List.length_cons, LitL.len h]
theorem LitL.drop : ∀ {a : List AV} {us : List Value} (n : Nat), LitL a us → LitL (a.drop n) (us.drop n)
  | a, us, 0, h => by simpa using h
  | [], us, n + 1, h => by rw [show us = [] from h]; simp; rfl
  | _ :: a, _, n + 1, ⟨u, r, e, _, h⟩ => by rw [e]; simpa using LitL.drop n h
theorem LitL.take : ∀ {a : List AV} {us : List Value} (n : Nat), LitL a us → LitL (a.take n) (us.take n)
  | a, us, 0, h => by simp; rfl
  | [], us, n + 1, h => by rw [show us = [] from h]; simp; rfl
  | _ :: a, _, n + 1, ⟨u, r, e, h1, h⟩ => by rw [e]; exact ⟨u, r.take n, by simp, h1, LitL.take n h⟩
theorem eqCells_append : ∀ {a b a' b' : List AV} {r : Bool}, a.length = b.length → eqCells (a ++ a') (b ++ b') = some r → ∃ p q, eqCells a b = some p ∧ eqCells a' b' = some q ∧ r = (p && q)
  | [], [], a', b', r, _, h => ⟨true, r, rfl, by simpa using h, by simp⟩
  | [], _ :: _, _, _, _, hl, _ => by simp at hl
  | _ :: _, [], _, _, _, hl, _ => by simp at hl
  | c :: a, d :: b, a', b', r, hl, h => by
    simp only [List.cons_append, eqCells] at h
    obtain ⟨p, h1, h2⟩ := bind_some h
    obtain ⟨q, h3, h4⟩ := bind_some h2
    injection h4 with h4
    obtain ⟨p', q', k1, k2, k3⟩ := eqCells_append (by simpa using hl) h3
    exact ⟨p && p', q', by simp only [eqCells, h1, k1, Option.bind_some], k2, by rw [← h4, k3, Bool.and_assoc]⟩
theorem eqCells_len : ∀ {a b : List AV} {r : Bool}, eqCells a b = some r → a.length = b.length
  | [], [], _, _ => rfl
  | [], _ :: _, _, h => by simp [eqCells] at h
  | _ :: _, [], _, h => by simp [eqCells] at h
  | c :: a, d :: b, r, h => by
    simp only [eqCells] at h
    obtain ⟨p, h1, h2⟩ := bind_some h
    obtain ⟨q, h3, h4⟩ := bind_some h2
    simp [eqCells_len h3]

theorem eq_step (P : Program) {D : Nat} {w : World} {xs ys : Array Value} {f : Field} {fs : List Field} {u v : Value} {p q : Bool} (hn : f.name ≠ "_") (h1 : (part f.type xs f.offset).run P w = .ok u w) (h2 : (part f.type ys f.offset).run P w = .ok v w)
    (h3 : (Op.equalIn D f.type u v).run P w = .ok p w) (h4 : (Op.eqFields D xs ys fs).run P w = .ok q w) : (Op.eqFields D xs ys (f :: fs)).run P w = .ok (p && q) w := by
  simp only [Op.eqFields, hn, ne_eq, not_false_eq_true, if_true, Sem.run_bind, h1, h2, h3, Result.andThen_ok]
  cases p with
  | false => simp
  | true => simpa using h4
theorem lit_at {a : List AV} {us : List Value} {i : Nat} {c : AV} (h : LitL a us) (hc : a[i]? = some c) : ∃ u, us[i]? = some u ∧ Lit1 c u := by
  induction a generalizing us i with
  | nil => simp at hc
  | cons d a ih =>
    obtain ⟨u, r, e, h1, h2⟩ := h
    cases i with
    | zero => simp at hc; subst hc; exact ⟨u, by simp [e], h1⟩
    | succ i => obtain ⟨v, h3, h4⟩ := ih h2 (by simpa using hc); exact ⟨v, by simpa [e] using h3, h4⟩

theorem likeAll_len : ∀ {zs cs : List AV}, likeAll zs cs = true → zs.length = cs.length
  | [], [], _ => rfl
  | [], _ :: _, h => by cases h
  | _ :: _, [], h => by cases h
  | z :: zs, c :: cs, h => by
    simp only [likeAll, Bool.and_eq_true] at h
    simp [likeAll_len h.2]
theorem likeAll_at : ∀ {zs cs : List AV} {i : Nat} {z : AV}, likeAll zs cs = true → zs[i]? = some z → ∃ c, cs[i]? = some c ∧ like z c = true
  | [], [], _, _, _, h => by simp at h
  | [], _ :: _, _, _, h, _ => by cases h
  | _ :: _, [], _, _, h, _ => by cases h
  | z :: zs, c :: cs, 0, y, h, hz => by
    simp only [likeAll, Bool.and_eq_true] at h
    simp at hz
    subst hz
    exact ⟨c, rfl, h.1⟩
  | z :: zs, c :: cs, i + 1, y, h, hz => by
    simp only [likeAll, Bool.and_eq_true] at h
    simpa using likeAll_at h.2 (by simpa using hz)
theorem likeAll_drop : ∀ {zs cs : List AV} (n : Nat), likeAll zs cs = true → likeAll (zs.drop n) (cs.drop n) = true
  | zs, cs, 0, h => by simpa using h
  | [], [], n + 1, _ => by simp; rfl
  | [], _ :: _, _ + 1, h => by cases h
  | _ :: _, [], _ + 1, h => by cases h
  | z :: zs, c :: cs, n + 1, h => by
    simp only [likeAll, Bool.and_eq_true] at h
    simpa using likeAll_drop n h.2
theorem likeAll_take : ∀ {zs cs : List AV} (n : Nat), likeAll zs cs = true → likeAll (zs.take n) (cs.take n) = true
  | zs, cs, 0, h => by simp; rfl
  | [], [], n + 1, _ => by simp; rfl
  | [], _ :: _, _ + 1, h => by cases h
  | _ :: _, [], _ + 1, h => by cases h
  | z :: zs, c :: cs, n + 1, h => by
    simp only [likeAll, Bool.and_eq_true] at h
    simp only [List.take_succ_cons, likeAll, Bool.and_eq_true]
    exact ⟨h.1, likeAll_take n h.2⟩

theorem flat_run (P : Program) : ∀ (n off m : Nat) (zs : List AV) (fs : List Field), flatB P n zs off fs = some m → zs.length = m → ∀ (D : Nat) (w : World) (a b : List AV) (xs ys : Array Value) (r : Bool), n ≤ D → likeAll zs a = true → likeAll zs b = true →
    LitL a xs.toList → LitL b ys.toList → eqCells (a.drop off) (b.drop off) = some r → off ≤ m ∧ (Op.eqFields D xs ys fs).run P w = .ok r w := by
  intro n
  induction n with
  | zero => intro off m zs fs h; simp [flatB] at h
  | succ n ih =>
    intro off m zs fs h hzl D w a b xs ys r hD hka hkb ha hb hr
    obtain ⟨D, rfl⟩ : ∃ D', D = D' + 1 := ⟨D - 1, by omega⟩
    have hla := likeAll_len hka
    have hlb := likeAll_len hkb
    cases fs with
    | nil =>
      simp only [flatB] at h
      injection h with h
      subst h
      rw [List.drop_of_length_le (by omega), List.drop_of_length_le (by omega)] at hr
      simp only [eqCells] at hr
      injection hr with hr
      subst hr
      exact ⟨Nat.le_refl _, rfl⟩
    | cons f fs =>
      simp only [flatB] at h
      split at h
      · rename_i hf
        obtain ⟨hname, hoff⟩ := hf
        have scal : ∀ z, nth zs off = some z → aggOf P f.type = some false → flatB P n zs (off + 1) fs = some m →
            (∀ (u v : Value) (c d : AV) (p : Bool), like z c = true → like z d = true → Lit1 c u → Lit1 d v → eqCell c d = some p → (Op.equalIn (D + 1) f.type u v).run P w = .ok p w) →
            off ≤ m ∧ (Op.eqFields (D + 1) xs ys (f :: fs)).run P w = .ok r w := by
          intro z hz hag hrest heq
          have hz' := nth_some hz
          have hlt : off < zs.length := (List.getElem?_eq_some_iff.1 hz').1
          obtain ⟨c, hc, hzc⟩ := likeAll_at hka hz'
          obtain ⟨d, hd, hzd⟩ := likeAll_at hkb hz'
          have ec : a[off]'(by omega) = c := by rw [List.getElem?_eq_getElem (by omega)] at hc; exact Option.some.inj hc
          have ed : b[off]'(by omega) = d := by rw [List.getElem?_eq_getElem (by omega)] at hd; exact Option.some.inj hd
          have ea : a.drop off = [c] ++ a.drop (off + 1) := by rw [List.singleton_append, ← ec]; exact List.drop_eq_getElem_cons (by omega)
          have eb : b.drop off = [d] ++ b.drop (off + 1) := by rw [List.singleton_append, ← ed]; exact List.drop_eq_getElem_cons (by omega)
          rw [ea, eb] at hr
          obtain ⟨p, q, k1, k2, k3⟩ := eqCells_append (by simp) hr
          obtain ⟨_, r2⟩ := ih (off + 1) m zs fs hrest hzl (D + 1) w a b xs ys q (by omega) hka hkb ha hb k2
          simp only [eqCells] at k1
          obtain ⟨p1, k4, k5⟩ := bind_some k1
          simp only [Option.bind_some, Bool.and_true] at k5
          injection k5 with k5
          subst k5
          obtain ⟨u, u1, u2⟩ := lit_at ha hc
          obtain ⟨v, v1, v2⟩ := lit_at hb hd
          have hpart : ∀ {zs : Array Value} {u : Value}, zs.toList[off]? = some u → (part f.type zs f.offset).run P w = .ok u w := by
            intro zs u hu
            have hu' : zs[off]? = some u := by simpa using hu
            unfold part
            rw [Sem.run_bind, run_isAgg hag, hoff]
            simp [hu']
          rw [k3]
          exact ⟨by omega, eq_step P hname (hpart u1) (hpart v1) (heq u v c d p1 hzc hzd u2 v2 k4) r2⟩
        split at h
        · rename_i k k' n0 hu hz
          split at h
          · rename_i hkk
            subst hkk
            refine scal _ hz (by simp [aggOf, hu]) h fun u v c d p hzc hzd hc hd hp => ?_
            cases c <;> simp only [like] at hzc <;> first | (cases hzc; done) | skip
            cases d <;> simp only [like] at hzd <;> first | (cases hzd; done) | skip
            have e1 := of_decide_eq_true hzc
            have e2 := of_decide_eq_true hzd
            subst e1 e2
            have hc' : u = _ := hc
            have hd' : v = _ := hd
            subst hc' hd'
            simp only [eqCell, decide_true, cond_true] at hp
            injection hp with hp
            subst hp
            exact run_equalIn_int w D f.type _ _ _ _ hu
          · cases h
        · rename_i b0 hu hz
          refine scal _ hz (by simp [aggOf, hu]) h fun u v c d p hzc hzd hc hd hp => ?_
          cases c <;> simp only [like] at hzc <;> first | (cases hzc; done) | skip
          cases d <;> simp only [like] at hzd <;> first | (cases hzd; done) | skip
          have hc' : u = _ := hc
          have hd' : v = _ := hd
          subst hc' hd'
          simp only [eqCell] at hp
          injection hp with hp
          subst hp
          exact run_equalIn_bool' w D f.type _ _ hu
        · rename_i s0 hu hz
          refine scal _ hz (by simp [aggOf, hu]) h fun u v c d p hzc hzd hc hd hp => ?_
          cases c <;> simp only [like] at hzc <;> first | (cases hzc; done) | skip
          cases d <;> simp only [like] at hzd <;> first | (cases hzd; done) | skip
          have hc' : u = _ := hc
          have hd' : v = _ := hd
          subst hc' hd'
          simp only [eqCell] at hp
          injection hp with hp
          subst hp
          rw [run_equalIn_string w D f.type _ _ hu]
          simp [toList_mk]
        · rename_i gs z hu hz
          split at h
          · rename_i hst
            split at h
            · rename_i I hI
              split at h
              · rename_i hc
                obtain ⟨hpos, hin⟩ := hc
                have hz' := nth_some hz
                rw [takeN_eq, dropN_eq] at hin
                have hrest := fun (r : Bool) (hr : eqCells (a.drop (off + I.size)) (b.drop (off + I.size)) = some r) => ih (off + I.size) m zs fs h hzl (D + 1) w a b xs ys r (by omega) hka hkb ha hb hr
                have ea : a.drop off = (a.drop off).take I.size ++ a.drop (off + I.size) := by rw [← List.drop_drop, List.take_append_drop]
                have eb : b.drop off = (b.drop off).take I.size ++ b.drop (off + I.size) := by rw [← List.drop_drop, List.take_append_drop]
                rw [ea, eb] at hr
                obtain ⟨p, q, k1, k2, k3⟩ := eqCells_append (by simp; omega) hr
                obtain ⟨hle, r2⟩ := hrest q k2
                have hzin : ((zs.drop off).take I.size).length = I.size := by simp; omega
                have hag : aggOf P f.type = some true := by simp [aggOf, hu]
                have hpart : ∀ (vs : Array Value), vs.size = zs.length → (part f.type vs f.offset).run P w = .ok (.agg (vs.extract off (off + I.size))) w := by
                  intro vs hvs
                  unfold part
                  rw [Sem.run_bind, run_isAgg hag, hoff]
                  simp [run_sizeOf' hI]
                have hxl : xs.size = zs.length := by have := ha.len; simp at this; omega
                have hyl : ys.size = zs.length := by have := hb.len; simp at this; omega
                have hext : ∀ (vs : Array Value), (vs.extract off (off + I.size)).toList = (vs.toList.drop off).take I.size := by
                  intro vs
                  rw [Array.toList_extract, List.extract_eq_take_drop]
                  simp
                have hin2 := ih 0 I.size ((zs.drop off).take I.size) gs.toList hin hzin D w ((a.drop off).take I.size) ((b.drop off).take I.size) (xs.extract off (off + I.size)) (ys.extract off (off + I.size)) p (by omega)
                  (likeAll_take _ (likeAll_drop _ hka)) (likeAll_take _ (likeAll_drop _ hkb)) (by rw [hext]; exact (ha.drop off).take _) (by rw [hext]; exact (hb.drop off).take _) (by simpa using k1)
                have hfo : P.fieldsOf f.type = gs := by simp [Program.fieldsOf, hu]
                rw [k3]
                refine ⟨by omega, eq_step P hname (hpart xs hxl) (hpart ys hyl) ?_ r2⟩
                rw [run_equalIn_struct w D f.type _ _ (by rw [hfo]; exact hu) hst, hfo]
                exact hin2.2
              · cases h
            · cases h
          · cases h
        · cases h
      · cases h

theorem eq_ok {P : Program} {X : Ctx} (h : ∀ T, hasN X.eqs T = true → eqB P X T = true) : EqOk P X := by
  intro T hT
  have := h T hT
  unfold eqB at this
  split at this
  · rename_i gs hu
    simp only [Bool.and_eq_true, decide_eq_true_eq] at this
    obtain ⟨⟨h1, h2⟩, h3⟩ := this
    refine ⟨h2, fun w xs ys a b r hka hkb ha hb hr => ?_⟩
    have hfo : P.fieldsOf T = gs := by simp [Program.fieldsOf, hu]
    rw [run_equalIn_struct w 9999 T _ _ (by rw [hfo]; exact hu) h1, hfo]
    exact (flat_run P 1000 0 _ _ _ h3 rfl 9999 w a b xs ys r (by omega) hka hkb ha hb (by simpa using hr)).2
  · cases this
end Go.Proofs.Ytiibidadpgknjaa.Fi
