/- What holds within a body, from its start on; the contracts of calls. -/
import Derived.Test.YtiibidadpgknjaaEx
import Derived.Test.YtiibidadpgknjaaSim
namespace Go.Proofs.Ytiibidadpgknjaa.Fi
open Go

/-- From a call's start on: what the caller may take. -/
structure Inv (iso : Bool) (ρ0 ρ : R) : Prop where
  ok : Ok ρ
  fr : Fr ρ0 ρ
  z : ∀ b, ρ0.Z b → ρ.Z b
  gr : ∀ n, GrB ρ0 ρ n
  fz : ∀ n, FzB ρ0 ρ n
  zn : ∀ b, ρ.Z b → ρ0.Z b ∨ ρ0.w.heap.size ≤ b ∨ ∃ n c, ρ.h[n]? = some c ∧ c.els ≠ [] ∧ c.fz = true ∧ ρ.φ n = b
  le : iso = false → Le ρ0 ρ

theorem Inv.refl {iso : Bool} {ρ : R} (h : Ok ρ) : Inv iso ρ ρ :=
  ⟨h, (Nx.refl h).fr, fun _ h => h, (Nx.refl h).gr, (Nx.refl h).fz, fun _ h => .inl h, fun _ => Le.refl ρ⟩
theorem Inv.nx {iso : Bool} {ρ0 ρ ρ' : R} (h : Inv iso ρ0 ρ) (k : Nx ρ ρ') : Inv iso ρ0 ρ' := by
  refine ⟨k.ok, h.fr.trans k.fr, fun b hb => (k.le.z b (h.z b hb)).1, fun n => (h.gr n).trans (k.gr n), fun n => (h.fz n).trans (k.fz n), fun b hb => ?_, fun hi => (h.le hi).trans k.le⟩
  rcases k.zn b hb with h1 | h1 | h1
  · rcases h.zn b h1 with h2 | h2 | ⟨n, c, h3, h4, h5, h6⟩
    · exact .inl h2
    · exact .inr (.inl h2)
    · obtain ⟨c', p1, p2, p3, p4⟩ := k.fz n c h3 h5 h4
      exact .inr (.inr ⟨n, c', p1, p3, p2, p4.trans h6⟩)
  · exact .inr (.inl (Nat.le_trans h.fr.size h1))
  · exact .inr (.inr h1)
theorem Inv.toNx {ρ0 ρ : R} (h : Inv false ρ0 ρ) : Nx ρ0 ρ := ⟨h.le rfl, h.ok, h.fr, h.gr, h.fz, h.zn⟩

/-- Values one by one. -/
def ValsR (ρ : R) : List AV → List Value → Prop
  | [], us => us = []
  | a :: as, us => ∃ u r, us = u :: r ∧ ValR ρ a u ∧ ValsR ρ as r

/-- A result of a call in memory of its own: data, or the whole of a raw block. -/
def Res1 (ρ : R) (v : AV) (u : Value) : Prop :=
  (∃ n ver b, v = .own n ver ∧ Cell0 ρ (.own n ver) u ∧ ρ.h[n]? = some b ∧ b.ver = ver) ∨
  (∃ cs us, v = .agg cs ∧ u = .agg us ∧ RR ρ.w ρ.Z (.agg cs) us.toList) ∨ (isCell v = true ∧ RR ρ.w ρ.Z v [u])
def ResL (ρ : R) : List AV → List Value → Prop
  | [], us => us = []
  | a :: as, us => ∃ u r, us = u :: r ∧ Res1 ρ a u ∧ ResL ρ as r
def ResV (ρ : R) (v : AV) (u : Value) : Prop := Res1 ρ v u ∨ ∃ vs us, v = .tup vs ∧ u = .tuple us ∧ ResL ρ vs us.toList

/-- The contract of a call in memory of its own. -/
def Iso (P : Program) (f : Nat) (as : List AV) (bs : List Blk) (v : AV) (bs' : List Blk) : Prop :=
  ∀ (ρ0 : R) (vals : Array Value), ρ0.h = bs → Ok ρ0 → ValsR ρ0 as vals.toList →
    Calls P f vals ρ0.w fun e w' => ∃ vv φ' Z', e = .returned vv ∧ Inv true ρ0 ⟨w', φ', Z', bs'⟩ ∧ (∀ b ∈ bs', b.rf = false) ∧ ResV ⟨w', φ', Z', bs'⟩ v vv

/-- No block that was there names more than it did. -/
def Lk (h h' : List Blk) : Prop := ∀ (n : Nat) (b b' : Blk), h[n]? = some b → h'[n]? = some b' → bndAll b'.els ≤ bndAll b.els

/-- The contract of a call in this memory. -/
def Inl (P : Program) (f : Nat) (as : List AV) (h : List Blk) (v : AV) (h' : List Blk) (l : Bool) : Prop :=
  ∀ (ρ0 : R) (vals : Array Value), ρ0.h = h → Ok ρ0 → ValsR ρ0 as vals.toList →
    Calls P f vals ρ0.w fun e w' => ∃ vv φ' Z', e = .returned vv ∧ Nx ρ0 ⟨w', φ', Z', h'⟩ ∧ ValR ⟨w', φ', Z', h'⟩ v vv ∧ (l = false → Lk h h')
end Go.Proofs.Ytiibidadpgknjaa.Fi
