/- What one operation does in the machine: numbers, strings, parts of values. -/
import Derived.Test.YtiibidadpgknjaaOpA
namespace Go.Proofs.Ytiibidadpgknjaa.Fi
open Go

/-- A cell that is data without memory. -/
def Lit1 : AV → Value → Prop
  | .bool b, u => u = .bool b
  | .int k n, u => u = .int k n
  | .str s, u => u = .string ⟨s.toArray⟩
  | _, _ => False
def LitL : List AV → List Value → Prop
  | [], us => us = []
  | c :: cs, us => ∃ u r, us = u :: r ∧ Lit1 c u ∧ LitL cs r
/-- The structs that are compared as they stand. -/
def EqOk (P : Program) (X : Ctx) : Prop := ∀ T, hasN X.eqs T = true → P.eqGuardType P.depth T = false ∧ ∀ (w : World) (xs ys : Array Value) (a b : List AV) (r : Bool),
  likeAll (tz X T) a = true → likeAll (tz X T) b = true → LitL a xs.toList → LitL b ys.toList → eqCells a b = some r → (Op.equalIn 10000 T (.agg xs) (.agg ys)).run P w = .ok r w

theorem ev_rel {ρ : R} {t : Nat → AV} {e : Operand → Value} (he : ∀ i, ValR ρ (t i) (e (.tmp i))) (hc : ∀ v, e (.const v) = v) (hf : ∀ f, e (.func f) = .func (.func f) #[] #[]) (x : Operand) : ValR ρ (ev t x) (e x) := by
  cases x with
  | tmp i => exact he i
  | const v =>
    rw [hc]
    show ValR ρ (ofConst v) v
    unfold ofConst
    split
    · exact vr_bool.2 rfl
    · rename_i k n
      cases hr : inR k n with
      | true => exact vr_int.2 ⟨rfl, inR_has hr⟩
      | false => trivial
    · rename_i s
      cases hr : Nat.ble s.data.toList.length 1000000 with
      | true =>
        refine vr_str.2 ⟨by cases s; simp, ?_⟩
        have := Nat.le_of_ble_eq_true hr
        unfold bigN
        omega
      | false => trivial
    · exact ⟨none, rfl⟩
    · trivial
  | func f => rw [hf]; exact ⟨#[], rfl, rfl⟩
  | global g => trivial

theorem eqCells_lit {ρ : R} : ∀ {a b : List AV} {r : Bool} {xs ys : List Value}, eqCells a b = some r → CellsR ρ a xs → CellsR ρ b ys → LitL a xs ∧ LitL b ys := by
  intro a
  induction a with
  | nil =>
    intro b r xs ys h ha hb
    cases b with
    | nil => exact ⟨ha, hb⟩
    | cons _ _ => simp [eqCells] at h
  | cons c cs ih =>
    intro b r xs ys h ha hb
    cases b with
    | nil => simp [eqCells] at h
    | cons d ds =>
      obtain ⟨u, us, rfl, hu, hus⟩ := ha
      obtain ⟨v, vs, rfl, hv, hvs⟩ := hb
      simp only [eqCells] at h
      obtain ⟨p, h1, h2⟩ := bind_some h
      obtain ⟨q, h3, h4⟩ := bind_some h2
      obtain ⟨k1, k2⟩ := ih h3 hus hvs
      have : Lit1 c u ∧ Lit1 d v := by
        unfold eqCell at h1
        split at h1
        · exact ⟨vr_bool.1 hu, vr_bool.1 hv⟩
        · exact ⟨(vr_int.1 hu).1, (vr_int.1 hv).1⟩
        · exact ⟨(vr_str.1 hu).1, (vr_str.1 hv).1⟩
        · cases h1
      exact ⟨⟨u, us, rfl, this.1, k1⟩, ⟨v, vs, rfl, this.2, k2⟩⟩

section
variable {P : Program} {X : Ctx} {ρ : R}

theorem ent (hT : TabOk P X) {T : Nat} {k : TK} (h : tk X T = k) (hk : k ≠ .oth) : ∃ i, tinfo X T = some i ∧ i.k = k ∧ Ent P X T i := by
  unfold tk at h
  split at h
  · rename_i i hi; exact ⟨i, hi, h, hT T i hi⟩
  · exact absurd h.symm hk
theorem und_int (hT : TabOk P X) {T : Nat} {k : IntKind} (h : tk X T = .int k) : P.underlying T = some (.int k) := by
  obtain ⟨i, _, hk, he⟩ := ent hT h (by simp)
  have := he.kind; rw [hk] at this; exact this
theorem und_bool (hT : TabOk P X) {T : Nat} (h : isBool (tk X T) = true) : P.underlying T = some .bool := by
  cases hk : tk X T <;> rw [hk] at h <;> simp [isBool] at h
  obtain ⟨i, _, hk, he⟩ := ent hT hk (by simp)
  have := he.kind; rw [hk] at this; exact this
theorem und_str (hT : TabOk P X) {T : Nat} (h : tk X T = .str) : P.underlying T = some .string := by
  obtain ⟨i, _, hk, he⟩ := ent hT h (by simp)
  have := he.kind; rw [hk] at this; exact this
theorem isStr_eq {k : TK} (h : isStr k = true) : k = .str := by cases k <;> simp [isStr] at h; rfl
theorem isU8_eq {k : TK} (h : isU8 k = true) : k = .int .u8 := by
  cases k <;> simp [isU8] at h
  rename_i k
  cases k <;> simp at h ⊢
theorem und_slice (hT : TabOk P X) {T esz eb ety : Nat} (h : tk X T = .slice esz eb ety) :
    P.underlying T = some (.slice ety) ∧ ∃ I, P.info? ety = some I ∧ I.size = esz ∧ I.bytes = eb ∧ 0 < esz ∧ tsz X ety = esz := by
  obtain ⟨i, _, hk, he⟩ := ent hT h (by simp)
  have := he.kind; rw [hk] at this; exact this
theorem und_agg (hT : TabOk P X) {T : Nat} {fs : List (Nat × Nat × Bool)} (h : tk X T = .agg fs) :
    ∃ F : Array Field, P.underlying T = some (.struct F) ∧ F.size = fs.length ∧ ∀ (j : Nat) (f : Nat × Nat × Bool), fs[j]? = some f →
        ∃ g I, F[j]? = some g ∧ g.offset = f.1 ∧ P.info? g.type = some I ∧ I.size = f.2.1 ∧ 0 < f.2.1 ∧ aggOf P g.type = some f.2.2 := by
  obtain ⟨i, _, hk, he⟩ := ent hT h (by simp)
  have := he.kind; rw [hk] at this; exact this

theorem run_sizeOf' {T : Nat} {I : TypeInfo} (h : P.info? T = some I) (w : World) : (sizeOf T).run P w = .ok I.size w := by
  simp [sizeOf, typeInfo, h]
theorem run_isAgg {T : Nat} {b : Bool} (h : aggOf P T = some b) (w : World) : (Go.isAgg T).run P w = .ok b w := by
  unfold aggOf at h
  unfold Go.isAgg
  cases e : P.underlying T with
  | none => rw [e] at h; cases h
  | some d =>
    rw [e] at h
    rw [Sem.run_bind, run_underlying e]
    cases d <;> simp at h ⊢ <;> exact h

/-! ### Operators -/

theorem intOp_does {op : BinOp} {T : Nat} {k : IntKind} {x y : Int} {v : AV} (hx : k.has x) (h : intOp X op k x y = some v) (hsh : op ≠ .shl ∧ op ≠ .shr) :
    ∃ vv, (binOp op T (.int k x) (.int k y)).run P ρ.w = .ok vv ρ.w ∧ ValR ρ v vv := by
  cases op <;> simp only [intOp] at h <;> first
    | (cases h; done)
    | (have e := mkI_some h; subst e; refine ⟨_, ?_, vr_int.2 ⟨rfl, has_wrap _ _⟩⟩; simp [binOp, Op.intArith]; done)
    | (injection h with e; subst e; refine ⟨_, ?_, vr_int.2 ⟨rfl, has_wrap _ _⟩⟩; simp [binOp, Op.intBits]; done)
    | (injection h with e; subst e; refine ⟨_, ?_, vr_bool.2 rfl⟩; simp [binOp, Op.intCmp, leI_eq, ltI_eq]; done)
    | skip
  · by_cases hy : y = 0
    · subst hy; simp at h
    · have hb : (y == 0) = false := by simpa using hy
      rw [hb] at h
      have e := mkI_some h; subst e
      refine ⟨_, ?_, vr_int.2 ⟨rfl, has_wrap _ _⟩⟩
      simp [binOp, Op.intDiv, hy]
  · by_cases hy : y = 0
    · subst hy; simp at h
    · have hb : (y == 0) = false := by simpa using hy
      rw [hb] at h
      injection h with e; subst e
      refine ⟨_, ?_, vr_int.2 ⟨rfl, has_tmod hx _⟩⟩
      simp [binOp, Op.intDiv, hy]

theorem shiftOp_does {op : BinOp} {T : Nat} {k yk : IntKind} {x y : Int} {v : AV} (hx : k.has x) (h : shiftOp X op k x y = some v) :
    ∃ vv, (binOp op T (.int k x) (.int yk y)).run P ρ.w = .ok vv ρ.w ∧ ValR ρ v vv := by
  unfold shiftOp at h
  by_cases hy : y < 0
  · rw [ltI_eq, decide_eq_true hy] at h; cases h
  · rw [ltI_eq, decide_eq_false hy] at h
    cases op <;> simp only [cond_false] at h <;> first
      | (cases h; done)
      | skip
    · have e := mkI_some h; subst e
      refine ⟨_, ?_, vr_int.2 ⟨rfl, has_wrap _ _⟩⟩
      simp [binOp, Op.shift, hy]
    · injection h with e; subst e
      refine ⟨_, ?_, vr_int.2 ⟨rfl, has_shr hx _⟩⟩
      simp [binOp, Op.shift, hy]

theorem toList_mk (l : List UInt8) : (ByteArray.mk l.toArray).toList = l := by rw [ByteArray.toList_eq]

theorem strOp_does {op : BinOp} {T : Nat} {x y : List UInt8} {v : AV} (h : strOp op x y = some v) :
    ∃ vv, (binOp op T (.string ⟨x.toArray⟩) (.string ⟨y.toArray⟩)).run P ρ.w = .ok vv ρ.w ∧ ValR ρ v vv := by
  cases op <;> simp only [strOp] at h <;> first
    | (cases h; done)
    | (injection h with e; subst e; refine ⟨_, ?_, vr_bool.2 rfl⟩; simp [binOp, Op.stringOp]; done)
    | skip
  obtain ⟨h1, h2⟩ := cond_some h
  injection h2 with e; subst e
  have hl := of_decide_eq_true h1
  refine ⟨_, ?_, vr_str.2 ⟨rfl, by simpa [bigN] using hl⟩⟩
  show (Op.stringOp .add _ _).run P ρ.w = _
  rw [run_string_add_sum _ _ _ (by simp [ByteArray.size]; omega), ByteArray.mk_append_mk]

theorem LitL.of_cells {a : List AV} {us : List Value} : LitL a us → True := fun _ => trivial

theorem bin_does (hT : TabOk P X) (hE : EqOk P X) {op : BinOp} {T : Nat} {xo yo : Operand} {x y : AV} {xv yv : Value} {v : AV} (hx : ValR ρ x xv) (hy : ValR ρ y yv) (h : binE X T op x y = some v) :
    ∃ vv, (do eqGuard op T xo yo xv yv; binOp op T xv yv : Sem Value).run P ρ.w = .ok vv ρ.w ∧ ValR ρ v vv := by
  have hgi : ∀ k a k' b, (eqGuard op T xo yo (.int k a) (.int k' b)).run P ρ.w = .ok () ρ.w := by intros; cases op <;> rfl
  have hgs : ∀ a b, (eqGuard op T xo yo (.string a) (.string b)).run P ρ.w = .ok () ρ.w := by intros; cases op <;> rfl
  have hgb : ∀ a b, (eqGuard op T xo yo (.bool a) (.bool b)).run P ρ.w = .ok () ρ.w := by intros; cases op <;> rfl
  unfold binE at h
  split at h
  · obtain ⟨rfl, kx⟩ := vr_int.1 hx
    obtain ⟨rfl, ky⟩ := vr_int.1 hy
    rw [Sem.run_bind, hgi]
    simp only [Result.andThen_ok]
    split at h
    · exact shiftOp_does kx h
    · exact shiftOp_does kx h
    · rename_i h1 h2
      obtain ⟨k1, k2⟩ := cond_some h
      have := of_decide_eq_true k1
      subst this
      exact intOp_does kx k2 ⟨h1, h2⟩
  · obtain ⟨rfl, kx⟩ := vr_str.1 hx
    obtain ⟨rfl, ky⟩ := vr_str.1 hy
    rw [Sem.run_bind, hgs]
    exact strOp_does h
  · obtain rfl := vr_bool.1 hx
    obtain rfl := vr_bool.1 hy
    rw [Sem.run_bind, hgb]
    simp only [Result.andThen_ok]
    split at h
    · obtain ⟨k1, k2⟩ := cond_some h
      injection k2 with e; subst e
      refine ⟨_, ?_, vr_bool.2 rfl⟩
      simp [binOp, Op.equal, Op.maxDepth, run_equalIn_bool' _ _ _ _ _ (und_bool hT k1)]
    · obtain ⟨k1, k2⟩ := cond_some h
      injection k2 with e; subst e
      refine ⟨_, ?_, vr_bool.2 rfl⟩
      simp [binOp, Op.equal, Op.maxDepth, run_equalIn_bool' _ _ _ _ _ (und_bool hT k1)]
    · cases h
  · obtain ⟨us, rfl, kx⟩ := hx
    obtain ⟨vs, rfl, ky⟩ := hy
    split at h
    · obtain ⟨k1, k2⟩ := cond_some h
      obtain ⟨r, k3, k4⟩ := bind_some k2
      injection k4 with e; subst e
      obtain ⟨l1, l2⟩ := eqCells_lit k3 kx ky
      simp only [Bool.and_eq_true] at k1
      obtain ⟨g1, g2⟩ := hE T k1.1.1
      rw [Sem.run_bind, run_eqGuard_agg _ _ _ _ _ _ _ g1]
      refine ⟨_, ?_, vr_bool.2 rfl⟩
      simp only [Result.andThen_ok]
      rw [run_eql_struct, g2 _ _ _ _ _ _ k1.1.2 k1.2 l1 l2 k3]
      rfl
    · obtain ⟨k1, k2⟩ := cond_some h
      obtain ⟨r, k3, k4⟩ := bind_some k2
      injection k4 with e; subst e
      obtain ⟨l1, l2⟩ := eqCells_lit k3 kx ky
      simp only [Bool.and_eq_true] at k1
      obtain ⟨g1, g2⟩ := hE T k1.1.1
      rw [Sem.run_bind, run_eqGuard_agg _ _ _ _ _ _ _ g1]
      refine ⟨_, ?_, vr_bool.2 rfl⟩
      simp only [Result.andThen_ok]
      rw [run_neq_struct, g2 _ _ _ _ _ _ k1.1.2 k1.2 l1 l2 k3]
      rfl
    · cases h
  · cases h

theorem un_does {op : UnOp} {x v : AV} {xv : Value} (hx : ValR ρ x xv) (h : unE X op x = some v) : ∃ vv, (Op.unary op xv).run P ρ.w = .ok vv ρ.w ∧ ValR ρ v vv := by
  unfold unE at h
  split at h
  · obtain ⟨rfl, kx⟩ := vr_int.1 hx
    have e := mkI_some h; subst e
    refine ⟨_, ?_, vr_int.2 ⟨rfl, has_wrap _ _⟩⟩
    simp [Op.unary, Op.intArith]
  · obtain rfl := vr_bool.1 hx
    injection h with e; subst e
    refine ⟨_, ?_, vr_bool.2 rfl⟩
    simp [Op.unary]
  · cases h

/-! ### Parts -/

theorem nth_some {α : Type} {l : List α} {i : Nat} {x : α} (h : nth l i = some x) : l[i]? = some x := by rw [← nth_eq]; exact h
theorem vals1_at : ∀ {vs : List AV} {us : List Value} {i : Nat} {v : AV}, Vals1 ρ vs us → vs[i]? = some v → ∃ u, us[i]? = some u ∧ Val1 ρ v u
  | [], _, _, _, _, h => by simp at h
  | _ :: _, _, 0, v, ⟨u, r, e, h1, _⟩, h => by simp at h; subst h; exact ⟨u, by simp [e], h1⟩
  | _ :: _, _, i + 1, v, ⟨u, r, e, _, h2⟩, h => by
    obtain ⟨x, h3, h4⟩ := vals1_at h2 (by simpa using h)
    exact ⟨x, by simpa [e] using h3, h4⟩
theorem val1_valR {v : AV} {u : Value} (h : Val1 ρ v u) (ht : ∀ l, v ≠ .tup l) : ValR ρ v u := (valR_eq ht).2 h

theorem nthD_some {l : List AV} {i : Nat} (h : i < l.length) : l[i]? = some (nthD l i) := by
  unfold nthD
  rw [nth_eq, List.getElem?_eq_getElem h]
  rfl
/-- A cell that stands alone is a value. -/
theorem cell_val {c : AV} {u : Value} (h : CellR ρ c u) : ValR ρ c u := by
  cases c with
  | agg cs => exact h.elim
  | tup cs => exact h.elim
  | undef => trivial
  | _ => exact h
theorem part_does {e : Nat} {I : TypeInfo} {b : Bool} {cs : List AV} {us : Array Value} {off n : Nat} (hI : P.info? e = some I) (hn : I.size = n) (hb : aggOf P e = some b) (h1 : 0 < n)
    (hc : CellsR ρ cs us.toList) (hl : off + n ≤ cs.length) : ∃ vv, (part e us off).run P ρ.w = .ok vv ρ.w ∧ ValR ρ (partOf b (.agg cs) off n) vv := by
  have hlen : us.size = cs.length := by simpa using hc.length
  unfold part
  rw [Sem.run_bind, run_isAgg hb]
  simp only [Result.andThen_ok]
  cases b with
  | false =>
    obtain ⟨u, hu, hr⟩ := hc.at (nthD_some (l := cs) (i := off) (by omega))
    have hu' : us[off]? = some u := by simpa using hu
    refine ⟨u, by simp [hu'], ?_⟩
    exact cell_val hr
  | true =>
    refine ⟨.agg (us.extract off (off + n)), by simp [run_sizeOf' hI, hn], ?_⟩
    simp only [partOf, cond_true]
    cases hx : Nat.beq off 0 && Nat.beq n cs.length with
    | true =>
      simp only [Bool.and_eq_true] at hx
      have e1 := Nat.eq_of_beq_eq_true hx.1
      have e2 := Nat.eq_of_beq_eq_true hx.2
      subst e1
      simp only [cond_true]
      refine ⟨_, rfl, ?_⟩
      rw [show us.extract 0 (0 + n) = us by rw [Nat.zero_add, e2, ← hlen]; simp]
      exact hc
    | false =>
      simp only [cond_false]
      refine ⟨_, rfl, ?_⟩
      unfold sub
      rw [takeN_eq, dropN_eq]
      obtain ⟨_, k⟩ := CellsR.iff.1 hc
      refine CellsR.iff.2 ⟨by simp; omega, fun j c u hj hu => ?_⟩
      have hj' : cs[off + j]? = some c := by
        rw [List.getElem?_take] at hj
        split at hj
        · rw [List.getElem?_drop] at hj; exact hj
        · cases hj
      refine k (off + j) c u hj' ?_
      have : j < n := by
        by_cases hlt : j < n
        · exact hlt
        · rw [List.getElem?_take, if_neg hlt] at hj; cases hj
      simpa [Array.getElem?_extract, this] using hu
end
end Go.Proofs.Ytiibidadpgknjaa.Fi
