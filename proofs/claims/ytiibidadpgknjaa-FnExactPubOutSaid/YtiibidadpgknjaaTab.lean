/- The types' table, held against the program's own. -/
import Derived.Test.YtiibidadpgknjaaSp
import Derived.Laws.Entries
namespace Go.Proofs.Ytiibidadpgknjaa.Fi
open Go

def aggOf (P : Program) (T : Nat) : Option Bool := match P.underlying T with
  | some (.struct _) => some true
  | some (.array _ _) => some true
  | some _ => some false
  | none => none

/-- The zero value's cell. -/
def ZR : AV → Value → Prop
  | .int k n, u => u = .int k n ∧ k.has n
  | .bool b, u => u = .bool b
  | .str [], u => u = .string ⟨#[]⟩
  | .lst _ [], u => u = .slice none 0 0
  | .undef, _ => True
  | _, _ => False

structure Ent (P : Program) (X : Ctx) (T : Nat) (i : TI) : Prop where
  info : 0 < i.size → ∃ I z, P.info? T = some I ∧ I.size = i.size ∧ I.zero = some z ∧ z.cells.size = i.size ∧ i.zero.length = i.size ∧
    (∀ (j : Nat) (c : AV) (u : Value), i.zero[j]? = some c → z.cells[j]? = some u → ZR c u) ∧ (∀ u ∈ z.cells.toList, u.oneCell' = true) ∧
    (isAgg i.k = true → ∃ us, z = .agg us) ∧ (isAgg i.k = false → ∀ us, z ≠ .agg us)
  agg : 0 < i.size → aggOf P T = some (isAgg i.k)
  kind : match i.k with
    | .int k => P.underlying T = some (.int k)
    | .bool => P.underlying T = some .bool
    | .str => P.underlying T = some .string
    | .slice esz eb ety => P.underlying T = some (.slice ety) ∧ ∃ I, P.info? ety = some I ∧ I.size = esz ∧ I.bytes = eb ∧ 0 < esz ∧ tsz X ety = esz
    | .agg fs => ∃ F : Array Field, P.underlying T = some (.struct F) ∧ F.size = fs.length ∧ ∀ (j : Nat) (f : Nat × Nat × Bool), fs[j]? = some f →
        ∃ g I, F[j]? = some g ∧ g.offset = f.1 ∧ P.info? g.type = some I ∧ I.size = f.2.1 ∧ 0 < f.2.1 ∧ aggOf P g.type = some f.2.2
    | .oth => True
def TabOk (P : Program) (X : Ctx) : Prop := ∀ T i, tinfo X T = some i → Ent P X T i

/-! The check, by computation. -/
def zrB : AV → Value → Bool
  | .int k n, .int k' n' => decide (k = k') && decide (n = n') && inR k n
  | .bool b, .bool b' => b == b'
  | .str [], .string s => decide (s.data = #[])
  | .lst _ [], .slice none 0 0 => true
  | .undef, u => u.oneCell'
  | _, _ => false
def zrsB : List AV → List Value → Bool
  | [], [] => true
  | c :: cs, u :: us => zrB c u && zrsB cs us
  | _, _ => false
def isAggV : Value → Bool
  | .agg _ => true
  | _ => false
def infoB (P : Program) (T : Nat) (i : TI) : Bool := match P.info? T with
  | some I => match I.zero with
    | some z => decide (I.size = i.size) && zrsB i.zero z.cells.toList && decide (i.zero.length = i.size) && (isAggV z == isAgg i.k) && decide (aggOf P T = some (isAgg i.k))
    | none => false
  | none => false
def fieldsB (P : Program) : List (Nat × Nat × Bool) → List Field → Bool
  | [], [] => true
  | f :: fs, g :: gs => decide (g.offset = f.1) && (match P.info? g.type with | some I => decide (I.size = f.2.1) | none => false) && decide (0 < f.2.1) && decide (aggOf P g.type = some f.2.2) && fieldsB P fs gs
  | _, _ => false
def kindB (P : Program) (X : Ctx) (T : Nat) : TK → Bool
  | .int k => match P.underlying T with
    | some (.int k') => decide (k = k')
    | _ => false
  | .bool => match P.underlying T with
    | some .bool => true
    | _ => false
  | .str => match P.underlying T with
    | some .string => true
    | _ => false
  | .slice esz eb ety => match P.underlying T with
    | some (.slice e) => decide (e = ety) && (match P.info? ety with | some I => decide (I.size = esz) && decide (I.bytes = eb) | none => false) && decide (0 < esz) && decide (tsz X ety = esz)
    | _ => false
  | .agg fs => match P.underlying T with
    | some (.struct F) => fieldsB P fs F.toList
    | _ => false
  | .oth => true
def entB (P : Program) (X : Ctx) (T : Nat) (i : TI) : Bool := (decide (i.size = 0) || infoB P T i) && kindB P X T i.k
def rowB (P : Program) (X : Ctx) : Nat → List TI → Bool
  | _, [] => true
  | T, i :: r => entB P X T i && rowB P X (T + 1) r
def tabB (P : Program) (X : Ctx) : Nat → List (List TI) → Bool
  | _, [] => true
  | T, l :: r => decide (l.length ≤ 16) && rowB P X T l && tabB P X (T + 16) r

theorem inR_has {k : IntKind} {n : Int} (h : inR k n = true) : k.has n := by
  unfold inR at h
  simp only [Bool.and_eq_true, leI_iff] at h
  exact h
theorem zrB_zr {c : AV} {u : Value} (h : zrB c u = true) : ZR c u ∧ u.oneCell' = true := by
  unfold zrB at h
  split at h
  · simp only [Bool.and_eq_true, decide_eq_true_eq] at h
    obtain ⟨⟨rfl, rfl⟩, h⟩ := h
    exact ⟨⟨rfl, inR_has h⟩, rfl⟩
  · simp only [beq_iff_eq] at h
    subst h
    exact ⟨rfl, rfl⟩
  · rename_i s
    simp only [decide_eq_true_eq] at h
    refine ⟨?_, rfl⟩
    show Value.string s = _
    cases s
    simp only at h
    rw [h]
  · exact ⟨rfl, rfl⟩
  · exact ⟨trivial, h⟩
  · cases h
theorem zrsB_zr : ∀ {cs : List AV} {us : List Value}, zrsB cs us = true → us.length = cs.length ∧ (∀ (j : Nat) (c : AV) (u : Value), cs[j]? = some c → us[j]? = some u → ZR c u) ∧ ∀ u ∈ us, u.oneCell' = true
  | [], [], _ => ⟨rfl, by simp, by simp⟩
  | [], _ :: _, h => by cases h
  | _ :: _, [], h => by cases h
  | c :: cs, u :: us, h => by
    simp only [zrsB, Bool.and_eq_true] at h
    obtain ⟨h1, h2, h3⟩ := zrsB_zr h.2
    obtain ⟨k1, k2⟩ := zrB_zr h.1
    refine ⟨by simp [h1], fun j c' u' hc hu => ?_, fun x hx => ?_⟩
    · cases j with
      | zero => simp at hc hu; subst hc hu; exact k1
      | succ j => exact h2 j c' u' (by simpa using hc) (by simpa using hu)
    · rcases List.mem_cons.1 hx with rfl | hx
      · exact k2
      · exact h3 x hx
theorem fieldsB_ok {P : Program} : ∀ {fs : List (Nat × Nat × Bool)} {gs : List Field}, fieldsB P fs gs = true → gs.length = fs.length ∧ ∀ (j : Nat) (f : Nat × Nat × Bool), fs[j]? = some f →
    ∃ g I, gs[j]? = some g ∧ g.offset = f.1 ∧ P.info? g.type = some I ∧ I.size = f.2.1 ∧ 0 < f.2.1 ∧ aggOf P g.type = some f.2.2
  | [], [], _ => ⟨rfl, by simp⟩
  | [], _ :: _, h => by cases h
  | _ :: _, [], h => by cases h
  | f :: fs, g :: gs, h => by
    simp only [fieldsB, Bool.and_eq_true, decide_eq_true_eq] at h
    obtain ⟨⟨⟨⟨h1, h2⟩, h3⟩, h4⟩, h5⟩ := h
    obtain ⟨k1, k2⟩ := fieldsB_ok h5
    refine ⟨by simp [k1], fun j f' hj => ?_⟩
    cases j with
    | zero =>
      simp at hj
      subst hj
      split at h2
      · rename_i I hI
        simp only [decide_eq_true_eq] at h2
        exact ⟨g, I, rfl, h1, hI, h2, h3, h4⟩
      · cases h2
    | succ j => simpa using k2 j f' (by simpa using hj)
theorem entB_ok {P : Program} {X : Ctx} {T : Nat} {i : TI} (h : entB P X T i = true) : Ent P X T i := by
  unfold entB at h
  simp only [Bool.and_eq_true, Bool.or_eq_true, decide_eq_true_eq] at h
  obtain ⟨h1, h2⟩ := h
  have hinfo : 0 < i.size → infoB P T i = true := fun hp => by rcases h1 with h1 | h1 <;> first | omega | exact h1
  have hall : 0 < i.size → ∃ I z, P.info? T = some I ∧ I.zero = some z ∧ I.size = i.size ∧ zrsB i.zero z.cells.toList = true ∧ i.zero.length = i.size ∧ isAggV z = isAgg i.k ∧ aggOf P T = some (isAgg i.k) := by
    intro hp
    have h := hinfo hp
    unfold infoB at h
    split at h
    · rename_i I hI
      split at h
      · rename_i z hz
        simp only [Bool.and_eq_true, decide_eq_true_eq, beq_iff_eq] at h
        obtain ⟨⟨⟨⟨a, b⟩, c⟩, d⟩, e⟩ := h
        exact ⟨I, z, hI, hz, a, b, c, d, e⟩
      · cases h
    · cases h
  refine ⟨fun hp => ?_, fun hp => ?_, ?_⟩
  · obtain ⟨I, z, a, b, c, d, e, f, g⟩ := hall hp
    obtain ⟨d1, d2, d3⟩ := zrsB_zr d
    refine ⟨I, z, a, c, b, by simpa [e] using d1, e, fun j c u hj hu => d2 j c u hj (by simpa using hu), d3, fun hk => ?_, fun hk => ?_⟩
    · rw [hk] at f
      cases z <;> simp [isAggV] at f
      exact ⟨_, rfl⟩
    · rw [hk] at f
      rintro us rfl
      simp [isAggV] at f
  · obtain ⟨I, z, a, b, c, d, e, f, g⟩ := hall hp
    exact g
  · unfold kindB at h2
    split at h2
    · split at h2
      · rename_i e; simp only [decide_eq_true_eq] at h2; subst h2; simp [*]
      · cases h2
    · split at h2
      · simp [*]
      · cases h2
    · split at h2
      · simp [*]
      · cases h2
    · split at h2
      · rename_i hk _ e he
        simp only [Bool.and_eq_true, decide_eq_true_eq] at h2
        obtain ⟨⟨⟨rfl, a⟩, b⟩, c⟩ := h2
        split at a
        · rename_i I hI
          simp only [Bool.and_eq_true, decide_eq_true_eq] at a
          exact ⟨he, I, hI, a.1, a.2, b, c⟩
        · cases a
      · cases h2
    · split at h2
      · rename_i hk _ F hF
        obtain ⟨a, b⟩ := fieldsB_ok h2
        refine ⟨F, hF, by simpa using a, fun j f hj => ?_⟩
        obtain ⟨g, I, g1, g2⟩ := b j f hj
        exact ⟨g, I, by simpa using g1, g2⟩
      · cases h2
    · trivial
theorem rowB_ok {P : Program} {X : Ctx} : ∀ {l : List TI} {T : Nat}, rowB P X T l = true → ∀ (j : Nat) (i : TI), l[j]? = some i → Ent P X (T + j) i
  | [], _, _, j, i, hj => by simp at hj
  | x :: r, T, h, j, i, hj => by
    simp only [rowB, Bool.and_eq_true] at h
    cases j with
    | zero => simp at hj; subst hj; exact entB_ok h.1
    | succ j =>
      have := rowB_ok h.2 j i (by simpa using hj)
      rwa [show T + 1 + j = T + (j + 1) by omega] at this
theorem tabB_ok {P : Program} {X : Ctx} : ∀ {L : List (List TI)} {T : Nat}, tabB P X T L = true → ∀ (n j : Nat) (l : List TI) (i : TI), L[n]? = some l → l[j]? = some i → Ent P X (T + 16 * n + j) i
  | [], _, _, n, _, l, _, hn, _ => by simp at hn
  | x :: r, T, h, n, j, l, i, hn, hj => by
    simp only [tabB, Bool.and_eq_true] at h
    cases n with
    | zero => simp at hn; subst hn; exact rowB_ok h.1.2 j i hj
    | succ n =>
      have := tabB_ok h.2 n j l i (by simpa using hn) hj
      rwa [show T + 16 + 16 * n + j = T + 16 * (n + 1) + j by omega] at this
theorem tab_ok {P : Program} {X : Ctx} (h : tabB P X 0 X.tab = true) : TabOk P X := by
  intro T i hi
  unfold tinfo at hi
  obtain ⟨l, h1, h2⟩ := bind_some hi
  rw [nth_eq] at h1 h2
  have := tabB_ok h (T / 16) (T % 16) l i h1 h2
  rwa [show 0 + 16 * (T / 16) + T % 16 = T by omega] at this

end Go.Proofs.Ytiibidadpgknjaa.Fi
