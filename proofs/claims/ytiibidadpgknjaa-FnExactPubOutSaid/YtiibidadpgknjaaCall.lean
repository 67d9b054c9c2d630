/- A call in memory of its own, as its caller sees it. -/
import Derived.Test.YtiibidadpgknjaaInv
namespace Go.Proofs.Ytiibidadpgknjaa.Fi
open Go

/-! ### Lists of names -/

def Nodup' (l : List Nat) : Prop := ∀ (i j n : Nat), l[i]? = some n → l[j]? = some n → i = j
theorem hasN_iff {l : List Nat} {m : Nat} : hasN l m = true ↔ m ∈ l := by
  induction l with
  | nil => simp [hasN]
  | cons n r ih =>
    simp only [hasN, Bool.or_eq_true, ih, List.mem_cons, Nat.beq_eq]
    exact or_congr_left eq_comm
theorem apartN_mem : ∀ {a b : List Nat}, apartN a b = true → ∀ x ∈ a, x ∉ b
  | [], _, _, _, h => by cases h
  | y :: r, b, h, x, hx => by
    simp only [apartN, Bool.and_eq_true, Bool.not_eq_true'] at h
    rcases List.mem_cons.1 hx with rfl | hx
    · intro hb
      rw [hasN_iff.2 hb] at h
      cases h.1
    · exact apartN_mem h.2 x hx
theorem nodup_snoc {l : List Nat} {n : Nat} (h : Nodup' l) (hn : n ∉ l) : Nodup' (l ++ [n]) := by
  intro i j m hi hj
  rcases get_push _ _ _ _ hi with ⟨hi1, hi2⟩ | ⟨rfl, rfl⟩
  · rcases get_push _ _ _ _ hj with ⟨hj1, hj2⟩ | ⟨rfl, rfl⟩
    · exact h i j m hi2 hj2
    · exact absurd (List.mem_of_getElem? hi2) hn
  · rcases get_push _ _ _ _ hj with ⟨hj1, hj2⟩ | ⟨rfl, _⟩
    · exact absurd (List.mem_of_getElem? hj2) hn
    · rfl

section
variable {P : Program} {X : Ctx} {ρ : R}

/-! ### A cell without names, elsewhere -/

theorem cell_move {ρ' : R} {c : AV} {u : Value} (h : CellR ρ c u) (hr : hasRef c = false) (hz : ∀ b, ρ.Z b → ρ'.Z b ∧ ρ'.w.heap[b]? = ρ.w.heap[b]?) : CellR ρ' c u := by
  have hrr : ∀ {v us}, RR ρ.w ρ.Z v us → RR ρ'.w ρ'.Z v us := fun h => h.mono (fun b hb => (hz b hb).1) (fun b hb => (hz b hb).2)
  cases c with
  | nilS => exact h
  | bool b => exact hrr h
  | int k n => exact hrr h
  | str s => exact hrr h
  | lst sz l => exact hrr h
  | agg cs => exact h.elim
  | tup cs => exact h.elim
  | _ => cases hr
theorem elem_move {ρ' : R} {e : AV} {us : List Value} (h : ElemR ρ e us) (hr : valRef e = false) (hz : ∀ b, ρ.Z b → ρ'.Z b ∧ ρ'.w.heap[b]? = ρ.w.heap[b]?) : ElemR ρ' e us := by
  have hm := hasRefs_mem (show hasRefs (cells e) = false from hr)
  cases e with
  | agg cs =>
    have h' := CellsR.iff.1 (show CellsR ρ cs us from h)
    exact (CellsR.iff (ρ := ρ')).2 ⟨h'.1, fun j c u h1 h2 => cell_move (h'.2 j c u h1 h2) (hm c (List.mem_of_getElem? h1)) hz⟩
  | _ =>
    obtain ⟨u, rfl, h'⟩ := (elemR_eq (by simp)).1 h
    exact (elemR_eq (by simp)).2 ⟨u, rfl, cell_move h' (hm _ (by simp [cells])) hz⟩

/-! ### The arguments -/

/-- The block as the callee has it. -/
def Blk.new (b : Blk) : Blk := { b with ver := 0 }

theorem exV_val {ρ0 : R} {T : Nat} {a v : AV} {u : Value} (ho : Ok ρ) (h : ValR ρ a u) (he : exV X ρ.h T a = some v) (hw : ρ0.w = ρ.w) (hz : ∀ k, exZ ρ (names (cells a)) k → ρ0.Z k) : ValR ρ0 v u := by
  have hrr : ∀ {v us}, RR ρ.w (exZ ρ (names (cells a))) v us → RR ρ0.w ρ0.Z v us := fun h => h.mono hz (fun b _ => by rw [hw])
  rcases exV_rr ho h he with ⟨cs, us, rfl, rfl, h1⟩ | ⟨h1, h2⟩
  · exact rr_val (.inl ⟨cs, us, rfl, rfl, hrr h1⟩)
  · exact rr_val (.inr ⟨h1, hrr h2⟩)

theorem prepCs_ok : ∀ (cs : List AV) {raws : List Nat} {fixs : List Bool} {cs' : List AV} {raws' : List Nat} {fixs' : List Bool} {us : List Value},
    CellsR ρ cs us → prepCs ρ.h cs raws fixs = some (cs', raws', fixs') → Nodup' raws →
    (∀ (i n : Nat), raws[i]? = some n → raws'[i]? = some n) ∧ Nodup' raws' ∧
    ∀ (φ0 : Nat → Nat) (Z0 : Nat → Prop) (bs : List Blk),
      (∀ (i n : Nat) (b : Blk), raws'[i]? = some n → ρ.h[n]? = some b → φ0 i = ρ.φ n ∧ bs[i]? = some b.new) → CellsR ⟨ρ.w, φ0, Z0, bs⟩ cs' us
  | [], raws, fixs, cs', raws', fixs', us, hv, h, hn => by
    simp only [prepCs] at h
    injection h with h
    injection h with h1 h2
    injection h2 with h2 h3
    subst h1 h2 h3
    exact ⟨fun _ _ h => h, hn, fun _ _ _ _ => hv⟩
  | c :: cs, raws, fixs, cs', raws', fixs', us, hv, h, hn => by
    obtain ⟨u, us, rfl, hu, hus⟩ := hv
    have ex : ∀ {d : AV} (_ : ((prepCs ρ.h cs raws fixs).bind fun r => some (d :: r.1, r.2)) = some (cs', raws', fixs')) (_ : ∀ (φ0 : Nat → Nat) (Z0 : Nat → Prop) (bs : List Blk), CellR ⟨ρ.w, φ0, Z0, bs⟩ d u),
        (∀ (i n : Nat), raws[i]? = some n → raws'[i]? = some n) ∧ Nodup' raws' ∧
        ∀ (φ0 : Nat → Nat) (Z0 : Nat → Prop) (bs : List Blk),
          (∀ (i n : Nat) (b : Blk), raws'[i]? = some n → ρ.h[n]? = some b → φ0 i = ρ.φ n ∧ bs[i]? = some b.new) → CellsR ⟨ρ.w, φ0, Z0, bs⟩ cs' (u :: us) := by
      intro d h hd
      obtain ⟨⟨r1, r2, r3⟩, h3, h4⟩ := bind_some h
      injection h4 with h4
      injection h4 with e1 e2
      injection e2 with e2 e3
      subst e1 e2 e3
      obtain ⟨p1, p2, p3⟩ := prepCs_ok cs hus h3 hn
      exact ⟨p1, p2, fun φ0 Z0 bs hb => ⟨u, us, rfl, hd φ0 Z0 bs, p3 φ0 Z0 bs hb⟩⟩
    have raw : ∀ {n : Nat} {d : AV} {fixs1 : List Bool} (_ : hasN raws n = false)
        (_ : ((prepCs ρ.h cs (raws ++ [n]) fixs1).bind fun r => some (d :: r.1, r.2)) = some (cs', raws', fixs'))
        (_ : ∀ (φ0 : Nat → Nat) (Z0 : Nat → Prop) (bs : List Blk), (∀ b, ρ.h[n]? = some b → φ0 raws.length = ρ.φ n ∧ bs[raws.length]? = some b.new) → CellR ⟨ρ.w, φ0, Z0, bs⟩ d u),
        (∀ (i n : Nat), raws[i]? = some n → raws'[i]? = some n) ∧ Nodup' raws' ∧
        ∀ (φ0 : Nat → Nat) (Z0 : Nat → Prop) (bs : List Blk),
          (∀ (i n : Nat) (b : Blk), raws'[i]? = some n → ρ.h[n]? = some b → φ0 i = ρ.φ n ∧ bs[i]? = some b.new) → CellsR ⟨ρ.w, φ0, Z0, bs⟩ cs' (u :: us) := by
      intro n d fixs1 hno h hd
      obtain ⟨⟨r1, r2, r3⟩, h3, h4⟩ := bind_some h
      injection h4 with h4
      injection h4 with e1 e2
      injection e2 with e2 e3
      subst e1 e2 e3
      have hno' : n ∉ raws := fun hm => by rw [hasN_iff.2 hm] at hno; cases hno
      obtain ⟨p1, p2, p3⟩ := prepCs_ok cs hus h3 (nodup_snoc hn hno')
      exact ⟨fun i m hi => p1 i m (by rw [List.getElem?_append_left (List.getElem?_eq_some_iff.1 hi).1]; exact hi), p2, fun φ0 Z0 bs hb => ⟨u, us, rfl, hd φ0 Z0 bs fun b hb' => hb raws.length n b (p1 _ _ (by simp)) hb', p3 φ0 Z0 bs hb⟩⟩
    simp only [prepCs] at h
    split at h
    · rename_i n ver
      obtain ⟨b, h1, h2⟩ := bind_some h
      obtain ⟨hb, hv⟩ := blkAt_some h1
      cases hx : hasN raws n with
      | true => rw [hx] at h2; cases h2
      | false =>
        rw [hx] at h2
        refine raw hx h2 fun φ0 Z0 bs hbs => ?_
        obtain ⟨q1, q2⟩ := hbs b hb
        obtain ⟨o1, b', hb', _, hbx, hp⟩ := (show Cell0 ρ (.own n ver) u from hu)
        rw [hb] at hb'
        injection hb' with hb'
        subst hb'
        obtain ⟨a, cap, k1, k2, k3, k4, k5⟩ := hp hv.symm
        refine (show Cell0 ⟨ρ.w, φ0, Z0, bs⟩ (.own raws.length 0) u from ⟨o1, b.new, q2, Nat.le_refl _, hbx, fun _ => ⟨a, cap, k1, k2, k3, k4, fun hne => ?_⟩⟩)
        obtain ⟨r1, r2⟩ := k5 hne
        exact ⟨by rw [r1]; simp [q1], by simp only [q1]; exact r2⟩
    · rename_i n ver off len
      obtain ⟨b, h1, h2⟩ := bind_some h
      obtain ⟨hb, hv⟩ := blkAt_some h1
      cases hx : hasN raws n with
      | true => rw [hx] at h2; cases h2
      | false =>
        rw [hx] at h2
        refine raw hx h2 fun φ0 Z0 bs hbs => ?_
        obtain ⟨q1, q2⟩ := hbs b hb
        obtain ⟨o1, b', hb', _, hbx, hp⟩ := (show Cell0 ρ (.sl n ver off len) u from hu)
        rw [hb] at hb'
        injection hb' with hb'
        subst hb'
        obtain ⟨a, cap, k1, k2, k3, k3', k4, k5⟩ := hp hv.symm
        refine (show Cell0 ⟨ρ.w, φ0, Z0, bs⟩ (.sl raws.length 0 off len) u from ⟨o1, b.new, q2, Nat.le_refl _, hbx, fun _ => ⟨a, cap, k1, k2, k3, k3', k4, fun hc => ?_⟩⟩)
        rw [k5 hc]
        simp [q1, Blk.new]
    · refine ex h fun φ0 Z0 bs => ?_
      have h' : RR _ _ _ _ := hu
      cases h'
      exact (show RR _ _ _ _ from .bool _)
    · refine ex h fun φ0 Z0 bs => ?_
      have h' : RR _ _ _ _ := hu
      cases h'
      exact (show RR _ _ _ _ from .int _ _ (by assumption))
    · refine ex h fun φ0 Z0 bs => ?_
      have h' : RR _ _ _ _ := hu
      cases h'
      exact (show RR _ _ _ _ from .str _ (by assumption))
    · exact ex h fun φ0 Z0 bs => hu
    · cases h

theorem prep_ok (ho : Ok ρ) : ∀ (as : List AV) {ms Ts raws : List Nat} {fixs : List Bool} {as' : List AV} {raws' : List Nat} {fixs' : List Bool} {vals : List Value},
    ValsR ρ as vals → prep X ρ.h ms Ts as raws fixs = some (as', raws', fixs') → Nodup' raws →
    (∀ (i n : Nat), raws[i]? = some n → raws'[i]? = some n) ∧ Nodup' raws' ∧
    ∀ (φ0 : Nat → Nat) (Z0 : Nat → Prop) (bs : List Blk), (∀ k, exZ ρ (visOf ms as) k → Z0 k) →
      (∀ (i n : Nat) (b : Blk), raws'[i]? = some n → ρ.h[n]? = some b → φ0 i = ρ.φ n ∧ bs[i]? = some b.new) → ValsR ⟨ρ.w, φ0, Z0, bs⟩ as' vals
  | [], ms, Ts, raws, fixs, as', raws', fixs', vals, hv, h, hn => by
    cases Ts with
    | nil =>
      simp only [prep] at h
      injection h with h
      injection h with h1 h2
      injection h2 with h2 h3
      subst h1 h2 h3
      exact ⟨fun _ _ h => h, hn, fun _ _ _ _ _ => hv⟩
    | cons T Ts => simp [prep] at h
  | a :: as, ms, Ts, raws, fixs, as', raws', fixs', vals, hv, h, hn => by
    obtain ⟨u, us, rfl, hu, hus⟩ := hv
    cases Ts with
    | nil => simp [prep] at h
    | cons T Ts =>
      have ex : ∀ {ms' : List Nat} (_ : visOf ms (a :: as) = names (cells a) ++ visOf ms' as) (_ : ((exV X ρ.h T a).bind fun v => (prep X ρ.h ms' Ts as raws fixs).bind fun r => some (v :: r.1, r.2)) = some (as', raws', fixs')), (∀ (i n : Nat), raws[i]? = some n → raws'[i]? = some n) ∧ Nodup' raws' ∧
          ∀ (φ0 : Nat → Nat) (Z0 : Nat → Prop) (bs : List Blk), (∀ k, exZ ρ (visOf ms (a :: as)) k → Z0 k) →
            (∀ (i n : Nat) (b : Blk), raws'[i]? = some n → ρ.h[n]? = some b → φ0 i = ρ.φ n ∧ bs[i]? = some b.new) → ValsR ⟨ρ.w, φ0, Z0, bs⟩ as' (u :: us) := by
        intro ms' hvis h
        obtain ⟨v, h1, h2⟩ := bind_some h
        obtain ⟨⟨r1, r2, r3⟩, h3, h4⟩ := bind_some h2
        injection h4 with h4
        injection h4 with e1 e2
        injection e2 with e2 e3
        subst e1 e2 e3
        obtain ⟨p1, p2, p3⟩ := prep_ok ho as hus h3 hn
        refine ⟨p1, p2, fun φ0 Z0 bs hz hb => ⟨u, us, rfl, ?_, p3 φ0 Z0 bs (fun k hk => hz k ?_) hb⟩⟩
        · refine exV_val (ρ0 := ⟨ρ.w, φ0, Z0, bs⟩) ho hu h1 rfl fun k hk => hz k ?_
          rw [hvis]
          exact exZ_mono (fun n hn => List.mem_append_left _ hn) k hk
        · rw [hvis]
          exact exZ_mono (fun n hn => List.mem_append_right _ hn) k hk
      have raw : ∀ {ms' : List Nat} {n : Nat} {c : AV} {fixs1 : List Bool} (_ : visOf ms (a :: as) = visOf ms' as) (_ : hasN raws n = false)
          (_ : ((prep X ρ.h ms' Ts as (raws ++ [n]) fixs1).bind fun r => some (c :: r.1, r.2)) = some (as', raws', fixs'))
          (_ : ∀ (φ0 : Nat → Nat) (Z0 : Nat → Prop) (bs : List Blk), (∀ b, ρ.h[n]? = some b → φ0 raws.length = ρ.φ n ∧ bs[raws.length]? = some b.new) → ValR ⟨ρ.w, φ0, Z0, bs⟩ c u), (∀ (i n : Nat), raws[i]? = some n → raws'[i]? = some n) ∧ Nodup' raws' ∧
          ∀ (φ0 : Nat → Nat) (Z0 : Nat → Prop) (bs : List Blk), (∀ k, exZ ρ (visOf ms (a :: as)) k → Z0 k) →
            (∀ (i n : Nat) (b : Blk), raws'[i]? = some n → ρ.h[n]? = some b → φ0 i = ρ.φ n ∧ bs[i]? = some b.new) → ValsR ⟨ρ.w, φ0, Z0, bs⟩ as' (u :: us) := by
        intro ms' n c fixs1 hvis hno h hc
        obtain ⟨⟨r1, r2, r3⟩, h3, h4⟩ := bind_some h
        injection h4 with h4
        injection h4 with e1 e2
        injection e2 with e2 e3
        subst e1 e2 e3
        have hno' : n ∉ raws := fun hm => by rw [hasN_iff.2 hm] at hno; cases hno
        obtain ⟨p1, p2, p3⟩ := prep_ok ho as hus h3 (nodup_snoc hn hno')
        refine ⟨fun i m hi => p1 i m (by rw [List.getElem?_append_left (List.getElem?_eq_some_iff.1 hi).1]; exact hi), p2, fun φ0 Z0 bs hz hb => ⟨u, us, rfl, ?_, p3 φ0 Z0 bs (fun k hk => hz k (by rw [hvis]; exact hk)) hb⟩⟩
        exact hc φ0 Z0 bs fun b hb' => hb raws.length n b (p1 _ _ (by simp)) hb'
      cases ms with
      | nil =>
        simp only [prep] at h
        exact ex (ms' := []) rfl h
      | cons m ms =>
        cases m with
        | zero =>
          simp only [prep] at h
          exact ex (ms' := ms) rfl h
        | succ m =>
          simp only [prep] at h
          split at h
          · rename_i n ver
            obtain ⟨b, h1, h2⟩ := bind_some h
            obtain ⟨hb, hv⟩ := blkAt_some h1
            cases hx : hasN raws n || !b.box with
            | true => rw [hx] at h2; cases h2
            | false =>
              rw [hx] at h2
              simp only [Bool.or_eq_false_iff] at hx
              refine raw (ms' := ms) (n := n) rfl hx.1 h2 fun φ0 Z0 bs hbs => ?_
              obtain ⟨q1, q2⟩ := hbs b hb
              obtain ⟨o1, b', hb', _, hp⟩ := (show Cell0 ρ (.ptr n ver 0 0) u from hu)
              rw [hb] at hb'
              injection hb' with hb'
              subst hb'
              obtain ⟨k1, k2⟩ := hp hv.symm
              refine (show Cell0 ⟨ρ.w, φ0, Z0, bs⟩ (.ptr raws.length 0 0 0) u from ⟨o1, b.new, q2, Nat.le_refl _, fun _ => ⟨k1, ?_⟩⟩)
              show u = _
              rw [k2]
              simp [q1]
          · rename_i n ver
            obtain ⟨b, h1, h2⟩ := bind_some h
            obtain ⟨hb, hv⟩ := blkAt_some h1
            cases hx : hasN raws n with
            | true => rw [hx] at h2; cases h2
            | false =>
              rw [hx] at h2
              refine raw (ms' := ms) (n := n) rfl hx h2 fun φ0 Z0 bs hbs => ?_
              obtain ⟨q1, q2⟩ := hbs b hb
              obtain ⟨o1, b', hb', _, hbx, hp⟩ := (show Cell0 ρ (.own n ver) u from hu)
              rw [hb] at hb'
              injection hb' with hb'
              subst hb'
              obtain ⟨a, cap, k1, k2, k3, k4, k5⟩ := hp hv.symm
              refine (show Cell0 ⟨ρ.w, φ0, Z0, bs⟩ (.own raws.length 0) u from ⟨o1, b.new, q2, Nat.le_refl _, hbx, fun _ => ⟨a, cap, k1, k2, k3, k4, fun hne => ?_⟩⟩)
              obtain ⟨r1, r2⟩ := k5 hne
              exact ⟨by rw [r1]; simp [q1], by simp only [q1]; exact r2⟩
          · rename_i n ver off len
            obtain ⟨b, h1, h2⟩ := bind_some h
            obtain ⟨hb, hv⟩ := blkAt_some h1
            cases hx : hasN raws n with
            | true => rw [hx] at h2; cases h2
            | false =>
              rw [hx] at h2
              refine raw (ms' := ms) (n := n) rfl hx h2 fun φ0 Z0 bs hbs => ?_
              obtain ⟨q1, q2⟩ := hbs b hb
              obtain ⟨o1, b', hb', _, hbx, hp⟩ := (show Cell0 ρ (.sl n ver off len) u from hu)
              rw [hb] at hb'
              injection hb' with hb'
              subst hb'
              obtain ⟨a, cap, k1, k2, k3, k3', k4, k5⟩ := hp hv.symm
              refine (show Cell0 ⟨ρ.w, φ0, Z0, bs⟩ (.sl raws.length 0 off len) u from ⟨o1, b.new, q2, Nat.le_refl _, hbx, fun _ => ⟨a, cap, k1, k2, k3, k3', k4, fun hc => ?_⟩⟩)
              rw [k5 hc]
              simp [q1, Blk.new]
          · obtain ⟨⟨r1, r2, r3⟩, h3, h4⟩ := bind_some h
            injection h4 with h4
            injection h4 with e1 e2
            injection e2 with e2 e3
            subst e1 e2 e3
            obtain ⟨p1, p2, p3⟩ := prep_ok ho as hus h3 hn
            exact ⟨p1, p2, fun φ0 Z0 bs hz hb => ⟨u, us, rfl, (show Cell0 ρ .nilS u from hu), p3 φ0 Z0 bs hz hb⟩⟩
          · rename_i cs
            obtain ⟨⟨cs', raws1, fixs1⟩, g1, h⟩ := bind_some h
            obtain ⟨⟨r1, r2, r3⟩, h3, h4⟩ := bind_some h
            injection h4 with h4
            injection h4 with e1 e2
            injection e2 with e2 e3
            subst e1 e2 e3
            obtain ⟨us', rfl, hcs⟩ := (show ∃ us : Array Value, u = .agg us ∧ CellsR ρ cs us.toList from hu)
            obtain ⟨k1, k2, k3⟩ := prepCs_ok cs hcs g1 hn
            obtain ⟨p1, p2, p3⟩ := prep_ok ho as hus h3 k2
            exact ⟨fun i n hi => p1 i n (k1 i n hi), p2, fun φ0 Z0 bs hz hb => ⟨_, us, rfl, ⟨us', rfl, k3 φ0 Z0 bs fun i n b hi hb' => hb i n b (p1 i n hi) hb'⟩, p3 φ0 Z0 bs hz hb⟩⟩
          · cases h

/-! ### The blocks that go along -/

theorem rawBlks_ok {h : List Blk} : ∀ {raws : List Nat} {bs : List Blk}, rawBlks h raws = some bs → bs.length = raws.length ∧
    ∀ (i n : Nat), raws[i]? = some n → ∃ b : Blk, h[n]? = some b ∧ b.rf = false ∧ b.fz = false ∧ bs[i]? = some b.new
  | [], bs, e => by
    simp only [rawBlks] at e
    injection e with e
    subst e
    exact ⟨rfl, fun i n hi => by simp at hi⟩
  | n :: raws, bs, e => by
    simp only [rawBlks] at e
    obtain ⟨b, h1, h2⟩ := bind_some e
    obtain ⟨sz, ty, els, box, rf, fz, ver⟩ := b
    cases hx : rf || fz with
    | true => rw [hx] at h2; cases h2
    | false =>
      rw [hx] at h2
      obtain ⟨l, h3, h4⟩ := bind_some h2
      injection h4 with h4
      subst h4
      simp only [Bool.or_eq_false_iff] at hx
      obtain ⟨rfl, rfl⟩ := hx
      obtain ⟨p1, p2⟩ := rawBlks_ok h3
      refine ⟨by simp [p1], fun i m hi => ?_⟩
      cases i with
      | zero => simp at hi; subst hi; exact ⟨_, nth_some h1, rfl, rfl, rfl⟩
      | succ i => exact p2 i m (by simpa using hi)

theorem putRaws_ok : ∀ {raws : List Nat} {fixs : List Bool} {bs h h' : List Blk}, Nodup' raws → putRaws h raws fixs bs = some h' → h'.length = h.length ∧ (∀ n, n ∉ raws → h'[n]? = h[n]?) ∧
    ∀ (i n : Nat), raws[i]? = some n → ∃ (b c : Blk) (ver : Nat), bs[i]? = some b ∧ h[n]? = some c ∧ h'[n]? = some { b with ver := ver } ∧ c.ver ≤ ver ∧ (ver = c.ver → b.box = true ∨ b.els.length = c.els.length)
  | [], fixs, bs, h, h', hn, e => by
    cases fixs <;> cases bs <;> simp only [putRaws] at e <;> first | (cases e; done) | skip
    injection e with e
    subst e
    exact ⟨rfl, fun _ _ => rfl, fun i n hi => by simp at hi⟩
  | n :: raws, fixs, bs, h, h', hn, e => by
    cases fixs with
    | nil => simp [putRaws] at e
    | cons fix fixs =>
    cases bs with
    | nil => simp [putRaws] at e
    | cons b bs =>
    simp only [putRaws] at e
    obtain ⟨c, h1, h2⟩ := bind_some e
    obtain ⟨sz, ty, els, box, rf, fz, v0⟩ := b
    obtain ⟨sz0, ty0, els0, box0, rf0, fz0, ver⟩ := c
    have hc := nth_some h1
    have hn' : Nodup' raws := fun i j m hi hj => by
      have := hn (i + 1) (j + 1) m (by simpa using hi) (by simpa using hj)
      omega
    have hno : n ∉ raws := fun hm => by
      obtain ⟨j, hj⟩ := List.getElem?_of_mem hm
      have := hn 0 (j + 1) n rfl (by simpa using hj)
      omega
    have fin : ∀ (ver' : Nat), ver ≤ ver' → (ver' = ver → box = true ∨ els.length = els0.length) → putRaws (updAt h n ⟨sz, ty, els, box, rf, fz, ver'⟩) raws fixs bs = some h' →
        h'.length = h.length ∧ (∀ m, m ∉ n :: raws → h'[m]? = h[m]?) ∧
        ∀ (i m : Nat), (n :: raws)[i]? = some m → ∃ (b c : Blk) (ver : Nat), ((⟨sz, ty, els, box, rf, fz, v0⟩ : Blk) :: bs)[i]? = some b ∧ h[m]? = some c ∧ h'[m]? = some { b with ver := ver } ∧ c.ver ≤ ver ∧ (ver = c.ver → b.box = true ∨ b.els.length = c.els.length) := by
      intro ver' hle heq e
      rw [updAt_eq] at e
      obtain ⟨p1, p2, p3⟩ := putRaws_ok hn' e
      refine ⟨by rw [p1]; simp, fun m hm => ?_, fun i m hi => ?_⟩
      · simp only [List.mem_cons, not_or] at hm
        rw [p2 m hm.2, List.getElem?_set_ne (fun e => hm.1 e.symm)]
      · cases i with
        | zero =>
          simp at hi
          subst hi
          refine ⟨_, _, ver', rfl, hc, ?_, hle, heq⟩
          rw [p2 n hno, List.getElem?_set_self (List.getElem?_eq_some_iff.1 hc).1]
        | succ i =>
          have hi' : raws[i]? = some m := by simpa using hi
          obtain ⟨b, c, vr, q1, q2, q3, q4, q5⟩ := p3 i m hi'
          refine ⟨b, c, vr, by simpa using q1, ?_, q3, q4, q5⟩
          have hnm : n ≠ m := fun e => hno (by rw [e]; exact List.mem_of_getElem? hi')
          rw [List.getElem?_set_ne hnm] at q2
          exact q2
    cases hb1 : box || (fix && Nat.beq els.length els0.length) with
    | true =>
      simp only [hb1, cond_true] at h2
      refine fin ver (Nat.le_refl _) (fun _ => ?_) h2
      simp only [Bool.or_eq_true, Bool.and_eq_true] at hb1
      rcases hb1 with hb1 | hb1
      · exact .inl hb1
      · exact .inr (Nat.eq_of_beq_eq_true hb1.2)
    | false =>
      simp only [hb1, cond_false] at h2
      cases fix with
      | true => cases h2
      | false => exact fin (ver + 1) (Nat.le_succ _) (fun h => by omega) h2

def fzAt (ns : List Nat) (n : Nat) (b : Blk) : Blk := if n ∈ ns then { b with fz := true } else b
theorem freezeE_at : ∀ (ns : List Nat) (h : List Blk) (n : Nat), (freezeE h ns)[n]? = (h[n]?).map (fzAt ns n)
  | [], h, n => by
    simp only [freezeE]
    cases h[n]? <;> simp [fzAt]
  | m :: ns, h, n => by
    rw [freezeE, freezeE_at ns]
    cases hm : nth h m with
    | none =>
      simp only
      by_cases hmn : n = m
      · subst hmn
        rw [nth_eq] at hm
        simp [hm]
      · cases h[n]? <;> simp [fzAt, hmn]
    | some b =>
      obtain ⟨sz, ty, els, box, rf, fz, ver⟩ := b
      simp only [updAt_eq]
      rw [nth_eq] at hm
      by_cases hmn : n = m
      · subst hmn
        rw [List.getElem?_set_self (List.getElem?_eq_some_iff.1 hm).1, hm]
        simp [fzAt]
      · rw [List.getElem?_set_ne (fun e => hmn e.symm)]
        cases h[n]? <;> simp [fzAt, hmn]
theorem freezeE_len : ∀ (ns : List Nat) (h : List Blk), (freezeE h ns).length = h.length
  | [], h => rfl
  | m :: ns, h => by
    rw [freezeE, freezeE_len ns]
    split <;> simp [updAt_eq]
theorem fzAt_ver (ns : List Nat) (n : Nat) (b : Blk) : (fzAt ns n b).ver = b.ver := by unfold fzAt; split <;> rfl
theorem fzAt_els (ns : List Nat) (n : Nat) (b : Blk) : (fzAt ns n b).els = b.els := by unfold fzAt; split <;> rfl
theorem fzAt_sz (ns : List Nat) (n : Nat) (b : Blk) : (fzAt ns n b).sz = b.sz := by unfold fzAt; split <;> rfl
theorem fzAt_ty (ns : List Nat) (n : Nat) (b : Blk) : (fzAt ns n b).ty = b.ty := by unfold fzAt; split <;> rfl
theorem fzAt_box (ns : List Nat) (n : Nat) (b : Blk) : (fzAt ns n b).box = b.box := by unfold fzAt; split <;> rfl
theorem fzAt_fz {ns : List Nat} {n : Nat} {b : Blk} (h : (fzAt ns n b).fz = false) : n ∉ ns ∧ b.fz = false := by
  unfold fzAt at h
  split at h
  · cases h
  · exact ⟨by assumption, h⟩
theorem fzAt_fz' {ns : List Nat} {n : Nat} {b : Blk} (h : b.fz = true) : (fzAt ns n b).fz = true := by
  unfold fzAt
  split
  · rfl
  · exact h
theorem fzAt_in {ns : List Nat} {n : Nat} {b : Blk} (h : n ∈ ns) : (fzAt ns n b).fz = true := by unfold fzAt; rw [if_pos h]
theorem fzAt_out {ns : List Nat} {n : Nat} {b : Blk} (h : n ∉ ns) : fzAt ns n b = b := by unfold fzAt; rw [if_neg h]
theorem BlkR.fzAt {n : Nat} {b : Blk} (h : BlkR ρ n b) (ns : List Nat) : BlkR ρ n (fzAt ns n b) := by
  unfold Fi.fzAt
  split
  · refine ⟨h.pos, h.can, h.rf, h.box, h.len, fun hne => ?_⟩
    obtain ⟨cur, c1, c2, c3, c4⟩ := h.mem hne
    exact ⟨cur, c1, (fun h => by cases h), c3, c4⟩
  · exact h

/-! ### Behind the call -/

open Classical in
noncomputable def backP (raws : List Nat) (φ φ' : Nat → Nat) (n : Nat) : Nat := if h : ∃ i, raws[i]? = some n then φ' h.choose else φ n
theorem back_raw {raws : List Nat} {φ φ' : Nat → Nat} (hnd : Nodup' raws) {i n : Nat} (h : raws[i]? = some n) : backP raws φ φ' n = φ' i := by
  have hx : ∃ i, raws[i]? = some n := ⟨i, h⟩
  unfold backP
  rw [dif_pos hx, hnd _ _ _ hx.choose_spec h]
theorem back_non {raws : List Nat} {φ φ' : Nat → Nat} {n : Nat} (h : n ∉ raws) : backP raws φ φ' n = φ n := by
  unfold backP
  rw [dif_neg]
  rintro ⟨i, hi⟩
  exact h (List.mem_of_getElem? hi)

/-- The callee's view at its start. -/
def R.sub (ρ : R) (raws vis : List Nat) (bs : List Blk) : R := ⟨ρ.w, fun i => ρ.φ (raws.getD i 0), exZ ρ vis, bs⟩
theorem sub_phi {raws vis : List Nat} {bs : List Blk} {i n : Nat} (h : raws[i]? = some n) : (ρ.sub raws vis bs).φ i = ρ.φ n := by
  show ρ.φ (raws.getD i 0) = _
  rw [List.getD_eq_getElem?_getD, h]; rfl
theorem sub_blk {raws vis : List Nat} {bs : List Blk} (hbs : rawBlks ρ.h raws = some bs) {i : Nat} {b0 : Blk} (h : bs[i]? = some b0) :
    ∃ n b, raws[i]? = some n ∧ ρ.h[n]? = some b ∧ b.rf = false ∧ b.fz = false ∧ b0 = b.new ∧ (ρ.sub raws vis bs).φ i = ρ.φ n := by
  obtain ⟨p1, p2⟩ := rawBlks_ok hbs
  have hi : i < raws.length := by rw [← p1]; exact (List.getElem?_eq_some_iff.1 h).1
  have hn := List.getElem?_eq_getElem hi
  obtain ⟨b, q1, q2, q3, q4⟩ := p2 i _ hn
  rw [h] at q4
  exact ⟨_, b, hn, q1, q2, q3, Option.some.inj q4, sub_phi hn⟩

theorem sub_ok (ho : Ok ρ) {raws vis : List Nat} {bs : List Blk} (hnd : Nodup' raws) (hap : ∀ n ∈ raws, n ∉ vis) (hbs : rawBlks ρ.h raws = some bs) : Ok (ρ.sub raws vis bs) := by
  refine ⟨fun k hk => ?_, fun i b0 h => ?_, fun i j x y hx hy hx0 hy0 hij => ?_⟩
  · rcases hk with hk | ⟨n, b, _, h2, h3, rfl⟩
    · exact ho.zlt k hk
    · exact ho.lt h2 h3
  · obtain ⟨n, b, h1, h2, h3, h4, rfl, h6⟩ := sub_blk (vis := vis) hbs h
    have B := ho.blk n b h2
    refine ⟨B.pos, B.can, B.rf, B.box, B.len, fun hne => ?_⟩
    obtain ⟨cur, c1, c2, c3, c4⟩ := B.mem hne
    rw [h6]
    refine ⟨cur, c1, fun _ hz => ?_, c3, fun j e hj => ?_⟩
    · rcases hz with hz | ⟨m, c, k1, k2, k3, k4⟩
      · exact c2 h4 hz
      · by_cases hmn : m = n
        · subst hmn; exact hap m (List.mem_of_getElem? h1) k1
        · exact ho.inj m n c b k2 h2 k3 hne hmn k4
    · obtain ⟨us, u1, u2, u3⟩ := c4 j e hj
      exact ⟨us, u1, u2, elem_move u3 (B.rf h3 e (List.mem_of_getElem? hj)) fun b hb => ⟨.inl hb, rfl⟩⟩
  · obtain ⟨n, b, h1, h2, h3, h4, rfl, h6⟩ := sub_blk (vis := vis) hbs hx
    obtain ⟨m, c, k1, k2, k3, k4, rfl, k6⟩ := sub_blk (vis := vis) hbs hy
    rw [h6, k6]
    exact ho.inj n m b c h2 k2 hx0 hy0 fun e => hij (hnd i j n h1 (e ▸ k1))

theorem iso_nx (ho : Ok ρ) {ρ' : R} {raws vis ns : List Nat} {fixs : List Bool} {bs h1 h2 : List Blk} {Zx : Nat → Prop} (hnd : Nodup' raws) (hap : ∀ n ∈ raws, n ∉ vis) (hbs : rawBlks ρ.h raws = some bs)
    (hi : Inv true (ρ.sub raws vis bs) ρ') (hrf : ∀ b ∈ ρ'.h, b.rf = false) (hput : putRaws ρ.h raws fixs ρ'.h = some h1)
    (hat : ∀ n, h2[n]? = (h1[n]?).map (fzAt ns n)) (hns : ∀ n ∈ raws, n ∉ ns) (hZ1 : ∀ k, ρ.Z k → Zx k) (hZ2 : ∀ k, Zx k → ρ'.Z k) (hZ3 : raws ≠ [] → ∀ k, ρ'.Z k → Zx k)
    (hZn : (∀ k, Zx k → ρ.Z k) ∨ ns = vis) : Nx ρ ⟨ρ'.w, backP raws ρ.φ ρ'.φ, Zx, h2⟩ := by
  obtain ⟨p1, p2⟩ := rawBlks_ok hbs
  obtain ⟨r1, r2, r3⟩ := putRaws_ok hnd hput
  have hraw : ∀ (i n : Nat), raws[i]? = some n → ∃ (b c : Blk) (ver : Nat), ρ'.h[i]? = some b ∧ ρ.h[n]? = some c ∧ h2[n]? = some { b with ver := ver } ∧ c.ver ≤ ver ∧ (ver = c.ver → b.box = true ∨ b.els.length = c.els.length) := by
    intro i n hin
    obtain ⟨b, c, ver, q1, q2, q3, q4, q5⟩ := r3 i n hin
    exact ⟨b, c, ver, q1, q2, by rw [hat, q3, Option.map_some, fzAt_out (hns n (List.mem_of_getElem? hin))], q4, q5⟩
  have hnon : ∀ n, n ∉ raws → h2[n]? = (ρ.h[n]?).map (fzAt ns n) := fun n hn => by rw [hat, r2 n hn]
  have hnon' : ∀ n c, n ∉ raws → h2[n]? = some c → ∃ b, ρ.h[n]? = some b ∧ c = fzAt ns n b := by
    intro n c hn hc
    rw [hnon n hn] at hc
    cases hb : ρ.h[n]? with
    | none => rw [hb] at hc; cases hc
    | some b => rw [hb] at hc; exact ⟨b, rfl, (Option.some.inj hc).symm⟩
  have hraw' : ∀ n c, n ∈ raws → h2[n]? = some c → ∃ i b c0 ver, raws[i]? = some n ∧ ρ'.h[i]? = some b ∧ ρ.h[n]? = some c0 ∧ c = { b with ver := ver } ∧ backP raws ρ.φ ρ'.φ n = ρ'.φ i := by
    intro n c hn hc
    obtain ⟨i, hin⟩ := List.getElem?_of_mem hn
    obtain ⟨b, c0, ver, q1, q2, q3, q4, q5⟩ := hraw i n hin
    rw [hc] at q3
    exact ⟨i, b, c0, ver, hin, q1, q2, Option.some.inj q3, back_raw hnd hin⟩
  have hsz : ρ.w.heap.size ≤ ρ'.w.heap.size := hi.fr.size
  have hkeep : ∀ k, k < ρ.w.heap.size → (∀ n b, n ∈ raws → ρ.h[n]? = some b → b.els ≠ [] → b.fz = false → ρ.φ n ≠ k) → ρ'.w.heap[k]? = ρ.w.heap[k]? := fun k hk hx =>
    hi.fr.fr k hk fun i b0 hb0 hne _ => by
      obtain ⟨n, b, g1, g2, g3, g4, rfl, g6⟩ := sub_blk (vis := vis) hbs hb0
      rw [g6]
      exact hx n b (List.mem_of_getElem? g1) g2 hne g4
  have hzk : ∀ k, ρ.Z k → ρ'.w.heap[k]? = ρ.w.heap[k]? := fun k hk => hkeep k (ho.zlt k hk) fun n b hn hb hne hf e => by
    obtain ⟨cur, _, c2, _⟩ := (ho.blk n b hb).mem hne
    exact c2 hf (e ▸ hk)
  have hnk : ∀ n b, n ∉ raws → ρ.h[n]? = some b → b.els ≠ [] → ρ'.w.heap[ρ.φ n]? = ρ.w.heap[ρ.φ n]? := fun n b hn hb hne => hkeep _ (ho.lt hb hne) fun m c hm hc hne' _ =>
    ho.inj m n c b hc hb hne' hne fun e => hn (e ▸ hm)
  have hgr : ∀ n, GrB ρ ⟨ρ'.w, backP raws ρ.φ ρ'.φ, Zx, h2⟩ n := by
    intro n b hb
    by_cases hn : n ∈ raws
    · obtain ⟨i, hin⟩ := List.getElem?_of_mem hn
      obtain ⟨b', c, ver, q1, q2, q3, q4, q5⟩ := hraw i n hin
      obtain ⟨b0, g1, _, _, g4⟩ := p2 i n hin
      rw [hb] at g1
      injection g1 with g1
      subst g1
      obtain ⟨b'', k1, k2, k3, k4, k5, k6⟩ := hi.gr i b.new g4
      rw [q1] at k1
      injection k1 with k1
      subst k1
      refine ⟨_, q3, k2, k3, k4, k5, fun e hne => ?_⟩
      have := k6 e hne
      rw [sub_phi hin] at this
      show backP raws ρ.φ ρ'.φ n = _ ∧ _
      rw [back_raw hnd hin]
      exact this
    · refine ⟨_, by show h2[n]? = _; rw [hnon n hn, hb]; rfl, fzAt_sz _ _ _, fzAt_ty _ _ _, fzAt_box _ _ _, by rw [fzAt_els]; exact Nat.le_refl _, fun _ hne => ⟨back_non hn, ?_⟩⟩
      show capCells ρ'.w (ρ.φ n) = _
      unfold capCells
      rw [hnk n b hn hb hne]
  have hle : Le ρ ⟨ρ'.w, backP raws ρ.φ ρ'.φ, Zx, h2⟩ := by
    refine ⟨fun k hk => ⟨hZ1 k hk, hzk k hk⟩, fun n b hb => ?_⟩
    obtain ⟨c, g1, g2, g3, g4, g5, g6⟩ := hgr n b hb
    by_cases hn : n ∈ raws
    · obtain ⟨i, hin⟩ := List.getElem?_of_mem hn
      obtain ⟨b', c0, ver, q1, q2, q3, q4, q5⟩ := hraw i n hin
      rw [hb] at q2
      injection q2 with q2
      subst q2
      have g1' : h2[n]? = some c := g1
      rw [q3] at g1'
      injection g1' with g1'
      subst g1'
      refine ⟨_, q3, q4, g4, fun e => ?_⟩
      have hlen : b'.els.length = b.els.length := by
        rcases q5 e.symm with h | h
        · rw [(hi.ok.blk i b' q1).box h, (ho.blk n b hb).box (g4 ▸ h)]
        · exact h
      exact ⟨hlen, g2, fun hne => g6 hlen hne⟩
    · have hc : h2[n]? = some (fzAt ns n b) := by rw [hnon n hn, hb]; rfl
      have g1' : h2[n]? = some c := g1
      rw [hc] at g1'
      injection g1' with g1'
      subst g1'
      exact ⟨_, hc, by rw [fzAt_ver]; exact Nat.le_refl _, g4, fun _ => ⟨by rw [fzAt_els], g2, fun hne => g6 (by rw [fzAt_els]) hne⟩⟩
  have hzn : ∀ k, Zx k → ρ.Z k ∨ ρ.w.heap.size ≤ k ∨ ∃ n c, h2[n]? = some c ∧ c.els ≠ [] ∧ c.fz = true ∧ backP raws ρ.φ ρ'.φ n = k := by
    intro k hk
    rcases hZn with h | h
    · exact .inl (h k hk)
    · subst h
      rcases hi.zn k (hZ2 k hk) with (g | ⟨m, b, g1, g2, g3, g4⟩) | g | ⟨i, c, g1, g2, g3, g4⟩
      · exact .inl g
      · have hm : m ∉ raws := fun h => hap m h g1
        exact .inr (.inr ⟨m, fzAt ns m b, by rw [hnon m hm, g2]; rfl, by rw [fzAt_els]; exact g3, fzAt_in g1, (back_non hm).trans g4⟩)
      · exact .inr (.inl g)
      · rcases hi.fr.nw i c g1 g2 with q | ⟨b0, q, _⟩
        · exact .inr (.inl (g4 ▸ q))
        · obtain ⟨n, b, k1, _⟩ := sub_blk (vis := ns) hbs q
          obtain ⟨b', c0, ver, q1, q2, q3, q4, q5⟩ := hraw i n k1
          rw [g1] at q1
          injection q1 with q1
          subst q1
          exact .inr (.inr ⟨n, _, q3, g2, g3, (back_raw hnd k1).trans g4⟩)
  refine ⟨hle, ⟨fun k hk => hi.ok.zlt k (hZ2 k hk), fun n c hc => ?_, fun n m x y hx hy hx0 hy0 hnm => ?_⟩, ⟨hi.fr.os, hi.fr.tape, hi.fr.output, hsz, fun k hk hx => hkeep k hk fun n b _ hb hne hf => hx n b hb hne hf, fun n c hc hne => ?_⟩, hgr, fun n b hb hf hne => ?_, hzn⟩
  · by_cases hn : n ∈ raws
    · obtain ⟨i, b, c0, ver, q1, q2, q3, rfl, q5⟩ := hraw' n c hn hc
      have B := hi.ok.blk i b q2
      refine ⟨B.pos, B.can, B.rf, B.box, B.len, fun hne => ?_⟩
      obtain ⟨cur, c1, c2, c3, c4⟩ := B.mem hne
      show ∃ cur, ρ'.w.heap[backP raws ρ.φ ρ'.φ n]? = _ ∧ _
      rw [q5]
      refine ⟨cur, c1, fun hf hz => c2 hf (hZ2 _ (by rw [← q5]; exact hz)), c3, fun j e hj => ?_⟩
      obtain ⟨us, u1, u2, u3⟩ := c4 j e hj
      exact ⟨us, u1, u2, elem_move u3 (B.rf (hrf b (List.mem_of_getElem? q2)) e (List.mem_of_getElem? hj)) fun k hk => ⟨hZ3 (List.ne_nil_of_mem hn) k hk, rfl⟩⟩
    · obtain ⟨b, hb, rfl⟩ := hnon' n c hn hc
      refine ((ho.blk n b hb).fzAt ns).keep hle fun hne => ?_
      rw [fzAt_els] at hne
      refine ⟨back_non hn, hnk n b hn hb hne, fun hf hz => ?_⟩
      obtain ⟨hf1, hf2⟩ := fzAt_fz hf
      rcases hzn _ hz with g | g | ⟨m, c, g1, g2, g3, g4⟩
      · obtain ⟨cur, _, c2, _⟩ := (ho.blk n b hb).mem hne
        exact c2 hf2 g
      · have := ho.lt hb hne; omega
      · by_cases hm : m ∈ raws
        · obtain ⟨i, b', c0, ver, q1, q2, q3, rfl, q5⟩ := hraw' m c hm g1
          rw [q5] at g4
          rcases hi.fr.nw i b' q2 g2 with q | ⟨b0, q, k2, _, k4⟩
          · have := ho.lt hb hne; have q' : ρ.w.heap.size ≤ ρ'.φ i := q; omega
          · obtain ⟨m', b1, l1, l2, _, _, rfl, l6⟩ := sub_blk (vis := vis) hbs q
            rw [q1] at l1
            injection l1 with l1
            subst l1
            rw [l6] at k4
            exact ho.inj m n b1 b l2 hb k2 hne (fun e => hn (e ▸ hm)) (k4.symm.trans g4)
        · obtain ⟨b', hb', rfl⟩ := hnon' m c hm g1
          rw [back_non hm] at g4
          rw [fzAt_els] at g2
          by_cases hmn : m = n
          · subst hmn
            rw [hb] at hb'
            injection hb' with hb'
            subst hb'
            rw [hf] at g3
            cases g3
          · exact ho.inj m n b' b hb' hb g2 hne hmn g4
  · have mix : ∀ (n m : Nat) (x y : Blk), n ∈ raws → m ∉ raws → h2[n]? = some x → h2[m]? = some y → x.els ≠ [] → y.els ≠ [] → backP raws ρ.φ ρ'.φ n ≠ backP raws ρ.φ ρ'.φ m := by
      intro n m x y hn hm hx hy hx0 hy0 heq
      obtain ⟨i, b, c0, ver, q1, q2, q3, rfl, q5⟩ := hraw' n x hn hx
      obtain ⟨c, hc, rfl⟩ := hnon' m y hm hy
      rw [fzAt_els] at hy0
      rw [q5, back_non hm] at heq
      rcases hi.fr.nw i b q2 hx0 with q | ⟨b0, q, k2, _, k4⟩
      · have := ho.lt hc hy0; have q' : ρ.w.heap.size ≤ ρ'.φ i := q; omega
      · obtain ⟨m', b1, l1, l2, _, _, rfl, l6⟩ := sub_blk (vis := vis) hbs q
        rw [q1] at l1
        injection l1 with l1
        subst l1
        rw [l6] at k4
        exact ho.inj n m b1 c l2 hc k2 hy0 (fun e => hm (e ▸ hn)) (k4.symm.trans heq)
    have hx' : h2[n]? = some x := hx
    have hy' : h2[m]? = some y := hy
    show backP raws ρ.φ ρ'.φ n ≠ backP raws ρ.φ ρ'.φ m
    by_cases hn : n ∈ raws
    · by_cases hm : m ∈ raws
      · obtain ⟨i, b, c0, ver, q1, q2, q3, rfl, q5⟩ := hraw' n x hn hx'
        obtain ⟨j, b2, c2, ver2, k1, k2, k3, rfl, k5⟩ := hraw' m y hm hy'
        rw [q5, k5]
        exact hi.ok.inj i j b b2 q2 k2 hx0 hy0 fun e => hnm (by subst e; rw [q1] at k1; exact Option.some.inj k1)
      · exact mix n m x y hn hm hx' hy' hx0 hy0
    · by_cases hm : m ∈ raws
      · exact fun e => mix m n y x hm hn hy' hx' hy0 hx0 e.symm
      · obtain ⟨b, hb, rfl⟩ := hnon' n x hn hx'
        obtain ⟨c, hc, rfl⟩ := hnon' m y hm hy'
        rw [fzAt_els] at hx0 hy0
        rw [back_non hn, back_non hm]
        exact ho.inj n m b c hb hc hx0 hy0 hnm
  · by_cases hn : n ∈ raws
    · obtain ⟨i, b, c0, ver, q1, q2, q3, rfl, q5⟩ := hraw' n c hn hc
      show _ ≤ backP raws ρ.φ ρ'.φ n ∨ _
      rw [show (⟨ρ'.w, backP raws ρ.φ ρ'.φ, Zx, h2⟩ : R).φ n = ρ'.φ i from q5]
      rcases hi.fr.nw i b q2 hne with q | ⟨b0, q, k2, k3, k4⟩
      · exact .inl (by rw [q5]; exact q)
      · obtain ⟨m', b1, l1, l2, _, l4, rfl, l6⟩ := sub_blk (vis := vis) hbs q
        rw [q1] at l1
        injection l1 with l1
        subst l1
        exact .inr ⟨b1, l2, k2, fun _ => l4, k4.trans l6⟩
    · obtain ⟨b, hb, rfl⟩ := hnon' n c hn hc
      rw [fzAt_els] at hne
      exact .inr ⟨b, hb, hne, fun h => (fzAt_fz h).2, back_non hn⟩
  · have hn : n ∉ raws := fun hn => by
      obtain ⟨i, hin⟩ := List.getElem?_of_mem hn
      obtain ⟨b0, g1, _, g3, _⟩ := p2 i n hin
      rw [hb] at g1
      injection g1 with g1
      subst g1
      rw [hf] at g3
      cases g3
    exact ⟨_, by show h2[n]? = _; rw [hnon n hn, hb]; rfl, fzAt_fz' hf, by rw [fzAt_els]; exact hne, back_non hn⟩
end
end Go.Proofs.Ytiibidadpgknjaa.Fi
