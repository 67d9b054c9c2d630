/- Operations in another order: what they write. -/
import Derived.Test.YtiibidadpgknjaaDrA
namespace Go.Proofs.Ytiibidadpgknjaa.Fi
open Go

section
variable {P : Program} {X : Ctx} {ρ : R} {oc : Nat → List AV → List Blk → Option (AV × List Blk)} {oi : Nat → List AV → List Blk → Option Ans}

theorem entE_some {all : List Oper} {o : Oper} {t : Nat → AV} {F : Foot} (hf : entE X all o t = some F) :
    (wantedF all o t = some false ∧ F = ⟨false, [], []⟩) ∨ (wantedF all o t = some true ∧ footE X (mkOf X o) t o.op = some F) := by
  unfold entE at hf
  obtain ⟨w, h1, h2⟩ := bind_some hf
  cases w with
  | true => exact .inr ⟨h1, h2⟩
  | false => injection h2 with h2; exact .inl ⟨h1, h2.symm⟩

theorem callOf_some {op : Op} {c : Call} (hco : callOf op = some c) : op = .call c ∧ ∃ f, c.callee = .value f := by
  unfold callOf at hco
  split at hco
  · split at hco
    · rename_i f hf
      injection hco with hco
      subst hco
      exact ⟨rfl, f, hf⟩
    · cases hco
  · cases hco
theorem call_chg {mk : Bool} {t : Nat → AV} {op : Op} {F : Foot} {c : Call} (hco : callOf op = some c) (hf : footE X mk t op = some F) : F.chg = true := by
  obtain ⟨rfl, f, hcal⟩ := callOf_some hco
  simp only [footE, hcal] at hf
  split at hf
  · split at hf
    · injection hf with hf; rw [← hf]
    · cases hy : anyRef (List.map (ev t) c.args.toList) <;> rw [hy] at hf
      · injection hf with hf; rw [← hf]
      · cases hf
  · cases hf

theorem eff_still {all : List Oper} {o : Oper} {t : Nat → AV} {F : Foot} {h h' : List Blk} {l l' : Bool} {v : AV} (hf : entE X all o t = some F) (hc : F.chg = false) (he : Eff X oc oi all o t h l v h' l') :
    h' = h ∧ l' = l ∧ ∀ h2 lx, Sees F.lk h h2 → Eff X oc oi all o t h2 lx v h2 lx := by
  rcases he with ⟨hw, rfl, rfl, rfl⟩ | ⟨hw, he⟩
  · exact ⟨rfl, rfl, fun h2 lx _ => .inl ⟨hw, rfl, rfl, rfl⟩⟩
  · rcases entE_some hf with ⟨hw', _⟩ | ⟨_, hf⟩
    · rw [hw] at hw'; cases hw'
    · have key : Still h l (fun h l => opE X oc oi t h l o) F.lk := by
        unfold opE
        cases hco : callOf o.op with
        | some c => rw [call_chg hco hf] at hc; cases hc
        | none =>
          simp only
          split
          · exact still_const fun _ => still_cond still_hand still_hand
          · exact op1_still hf hc
      obtain ⟨k1, k2, k3⟩ := key v h' l' he
      exact ⟨k1, k2, fun h2 lx hs => .inr ⟨hw, k3 h2 lx hs⟩⟩

/-! ### Names lie in bounds -/

theorem cell0_names {c : AV} {u : Value} (h : Cell0 ρ c u) : ∀ n ∈ names [c], n < ρ.h.length := by
  intro n hn
  cases c with
  | own m ver => obtain ⟨_, b, hb, _⟩ := h; simp [names] at hn; subst hn; exact (List.getElem?_eq_some_iff.1 hb).1
  | sl m ver off len => obtain ⟨_, b, hb, _⟩ := h; simp [names] at hn; subst hn; exact (List.getElem?_eq_some_iff.1 hb).1
  | ptr m ver idx off => obtain ⟨_, b, hb, _⟩ := h; simp [names] at hn; subst hn; exact (List.getElem?_eq_some_iff.1 hb).1
  | fn f cap => exact h.elim
  | _ => simp [names] at hn
theorem cells0_names : ∀ {cs : List AV} {us : List Value}, Cells0 ρ cs us → ∀ n ∈ names.capNames cs, n < ρ.h.length
  | [], _, _, n, hn => by simp [names.capNames] at hn
  | c :: cs, _, ⟨u, r, _, h1, h2⟩, n, hn => by
    have ih := cells0_names h2 n
    cases c with
    | own m ver =>
      simp only [names.capNames, List.mem_cons] at hn
      rcases hn with rfl | hn
      · exact cell0_names h1 _ (by simp [names])
      · exact ih hn
    | sl m ver off len =>
      simp only [names.capNames, List.mem_cons] at hn
      rcases hn with rfl | hn
      · exact cell0_names h1 _ (by simp [names])
      · exact ih hn
    | ptr m ver idx off =>
      simp only [names.capNames, List.mem_cons] at hn
      rcases hn with rfl | hn
      · exact cell0_names h1 _ (by simp [names])
      · exact ih hn
    | _ => exact ih hn
theorem cells_names : ∀ {cs : List AV} {us : List Value}, CellsR ρ cs us → ∀ n ∈ names cs, n < ρ.h.length
  | [], _, _, n, hn => by simp [names] at hn
  | c :: cs, _, ⟨u, r, _, h1, h2⟩, n, hn => by
    have ih := cells_names h2 n
    cases c with
    | own m ver =>
      simp only [names, List.mem_cons] at hn
      rcases hn with rfl | hn
      · exact cell0_names (c := .own n ver) h1 _ (by simp [names])
      · exact ih hn
    | sl m ver off len =>
      simp only [names, List.mem_cons] at hn
      rcases hn with rfl | hn
      · exact cell0_names (c := .sl n ver off len) h1 _ (by simp [names])
      · exact ih hn
    | ptr m ver idx off =>
      simp only [names, List.mem_cons] at hn
      rcases hn with rfl | hn
      · exact cell0_names (c := .ptr n ver idx off) h1 _ (by simp [names])
      · exact ih hn
    | fn f cap =>
      simp only [names, List.mem_append] at hn
      rcases hn with hn | hn
      · obtain ⟨cu, _, h⟩ := h1
        exact cells0_names h n hn
      · exact ih hn
    | _ => exact ih hn
theorem val_names {v : AV} {u : Value} (h : ValR ρ v u) : ∀ n ∈ valNames v, n < ρ.h.length := by
  intro n hn
  by_cases hu : v = .undef
  · subst hu; simp [valNames, cells, names] at hn
  · cases hc : isCell v with
    | true =>
      have h' := (vr_cell hc hu).1 h
      have e : valNames v = names [v] := by cases v <;> first | rfl | cases hc
      rw [e] at hn
      exact cells_names (cs := [v]) (us := [u]) ⟨u, [], rfl, h', rfl⟩ n hn
    | false =>
      cases v with
      | agg cs => obtain ⟨us, _, h⟩ := h; exact cells_names h n hn
      | tup vs => simp [valNames, cells, names] at hn
      | _ => cases hc

theorem ent_lk {all : List Oper} {o : Oper} {t : Nat → AV} {F : Foot} {tmps : Array Value} (hs : SlR ρ t tmps) (hf : entE X all o t = some F) : ∀ n ∈ F.lk, n < ρ.h.length := by
  have hv : ∀ x, ∀ n ∈ valNames (ev t x), n < ρ.h.length := fun x => val_names (SlR.ev (a := ⟨tmps, []⟩) hs x)
  have hvs : ∀ (l : List Operand), ∀ n ∈ namesOf t l, n < ρ.h.length := by
    intro l
    induction l with
    | nil => intro n hn; simp [namesOf] at hn
    | cons x l ih =>
      intro n hn
      simp only [namesOf, List.mem_append] at hn
      rcases hn with hn | hn
      · exact hv x n hn
      · exact ih n hn
  rcases entE_some hf with ⟨_, rfl⟩ | ⟨_, hf⟩
  · intro n hn; cases hn
  · unfold footE at hf
    split at hf <;> first
      | (injection hf with hf; subst hf; intro n hn; cases hn; done)
      | (injection hf with hf; subst hf; exact hv _)
      | (cases hf; done)
      | skip
    split at hf <;> first
      | (injection hf with hf; subst hf; intro n hn; cases hn; done)
      | (injection hf with hf; subst hf; exact hvs _)
      | (cases hf; done)
      | skip
    split at hf
    · split at hf
      · injection hf with hf; subst hf; intro n hn; cases hn
      · generalize anyRef _ = y at hf
        cases y
        · injection hf with hf; subst hf; intro n hn; cases hn
        · cases hf
    · cases hf

/-! ### What they write -/

def Wr (ns : List Nat) (h : List Blk) (x : Option Hand) : Prop := ∀ v h' l', x = some (v, h', l') → ∀ (n : Nat) (b : Blk), n ∉ ns → h[n]? = some b → ∃ b' : Blk, h'[n]? = some b' ∧ SB b b'
section wr
variable {ns : List Nat} {h : List Blk} {l : Bool}
theorem wr_hand {v : AV} : Wr ns h (hand v h l) := by
  rintro v' h' l' e n b _ hb
  obtain ⟨_, rfl, _⟩ := hand_inj e
  exact ⟨b, hb, SB.refl b⟩
theorem wr_app {v : AV} {xs : List Blk} : Wr ns h (hand v (h ++ xs) l) := by
  rintro v' h' l' e n b _ hb
  obtain ⟨_, rfl, _⟩ := hand_inj e
  exact ⟨b, by rw [List.getElem?_append_left (List.getElem?_eq_some_iff.1 hb).1]; exact hb, SB.refl b⟩
theorem wr_upd {v : AV} {m : Nat} {x : Blk} (hm : m ∈ ns) : Wr ns h (hand v (updAt h m x) l) := by
  rintro v' h' l' e n b hn hb
  obtain ⟨_, rfl, _⟩ := hand_inj e
  rw [updAt_eq]
  have hmn : m ≠ n := fun e => hn (by rw [← e]; exact hm)
  exact ⟨b, by rw [List.getElem?_set_ne hmn]; exact hb, SB.refl b⟩
theorem wr_none : Wr ns h none := by rintro _ _ _ e; cases e
theorem wr_bind {α : Type} {o : Option α} {G : α → Option Hand} (hG : ∀ a, o = some a → Wr ns h (G a)) : Wr ns h (o.bind G) := by
  cases o with
  | none => exact wr_none
  | some a => exact hG a rfl
theorem wr_cond {b : Bool} {x y : Option Hand} (hx : Wr ns h x) (hy : Wr ns h y) : Wr ns h (cond b x y) := by
  cases b
  · exact hy
  · exact hx

theorem op1_wr {t : Nat → AV} {mk : Bool} {ty : Nat} {o : Op} (hst : ∀ T a x, o = .store T a x → ∀ n ∈ valNames (ev t a), n ∈ ns)
    (hap : ∀ c, o = .call c → c.callee = .builtin .append → ∀ n ∈ namesOf t c.args.toList, n ∈ ns) (hcl : ∀ c, o = .call c → c.callee ≠ .builtin .clear) : Wr ns h (op1 X t h l hand mk ty o) := by
  unfold op1
  split
  · exact wr_hand
  · refine wr_cond ?_ wr_hand
    split
    · exact wr_app
    · exact wr_hand
  · simp only [forceV_eq]; exact wr_cond wr_app wr_none
  · simp only [forceV_eq]; exact wr_cond wr_app wr_none
  · split
    · exact wr_cond (wr_bind fun _ _ => wr_hand) wr_none
    · exact wr_none
  · split
    · refine wr_bind fun l' _ => ?_
      simp only [forces_eq]
      refine wr_cond ?_ wr_none
      split
      · exact wr_hand
      · exact wr_cond wr_app wr_hand
    · exact wr_none
  · unfold loadE
    split
    · exact wr_bind fun _ _ => wr_bind fun _ _ => wr_cond wr_hand wr_none
    · exact wr_cond wr_hand wr_none
    · exact wr_none
  · rename_i T a x
    unfold storeE
    refine wr_cond wr_none ?_
    split
    · rename_i n ver idx off hev
      refine wr_bind fun b hb => ?_
      obtain ⟨sz, ty, els, box, rf, fz, bver⟩ := b
      refine wr_bind fun y hy => ?_
      simp only [forceV_eq]
      exact wr_cond (wr_upd (hst T a x rfl n (by rw [hev]; simp [valNames, cells, names]))) wr_none
    · exact wr_none
  · split
    · exact wr_bind fun _ _ => wr_hand
    · exact wr_hand
    · exact wr_none
  · exact wr_bind fun _ _ => wr_hand
  · exact wr_bind fun _ _ => wr_hand
  · exact wr_bind fun _ _ => wr_hand
  · split
    · simp only [forces_eq]; exact wr_cond wr_none wr_hand
    · exact wr_none
  · split
    · exact wr_bind fun _ _ => wr_bind fun _ _ => wr_cond wr_app wr_none
    · exact wr_none
  · exact wr_bind fun _ _ => wr_hand
  · exact wr_cond wr_hand wr_none
  · refine wr_bind fun _ _ => ?_
    split
    · exact wr_bind fun _ _ => wr_hand
    · exact wr_hand
    · exact wr_none
  · refine wr_bind fun _ _ => ?_
    split
    · exact wr_cond wr_hand wr_none
    · exact wr_none
  · split
    · refine wr_bind fun _ _ => ?_
      split
      · exact wr_cond (wr_bind fun _ _ => wr_hand) wr_none
      · exact wr_bind fun _ _ => wr_cond wr_hand wr_none
      · exact wr_bind fun _ _ => wr_cond wr_hand wr_none
      · exact wr_none
    · exact wr_none
  · split
    · exact wr_cond wr_none (wr_bind fun _ _ => wr_cond (wr_bind fun _ _ => wr_hand) wr_none)
    · exact wr_none
  · exact wr_bind fun _ _ => wr_bind fun _ _ => wr_hand
  · split
    · split
      · exact wr_bind fun _ _ => wr_hand
      · exact wr_none
    · rename_i hcal
      split
      · rename_i a x T U hx _
        have hin : ∀ n ∈ valNames (ev t a), n ∈ ns := fun n hn => hap _ rfl hcal n (by rw [hx]; simp [namesOf, hn])
        refine wr_cond ?_ wr_none
        unfold appendE
        split
        · refine wr_bind fun p _ => ?_
          obtain ⟨sz, xs, rf⟩ := p
          refine wr_cond ?_ wr_none
          split
          · exact wr_cond wr_app wr_none
          · rename_i n ver hev
            refine wr_bind fun b _ => ?_
            obtain ⟨bsz, bty, els, box, brf, fz, bver⟩ := b
            exact wr_cond (wr_upd (hin n (by rw [hev]; simp [valNames, cells, names]))) wr_none
          · rename_i n ver off len hev
            refine wr_bind fun b _ => ?_
            obtain ⟨bsz, bty, els, box, brf, fz, bver⟩ := b
            exact wr_cond (wr_upd (hin n (by rw [hev]; simp [valNames, cells, names]))) wr_none
          · exact wr_none
        · exact wr_none
      · exact wr_none
    · rename_i hcal
      exact absurd hcal (hcl _ rfl)
    · split
      · exact wr_bind fun _ _ => wr_bind fun _ _ => wr_cond wr_hand wr_none
      · exact wr_none
    · split
      · exact wr_bind fun _ _ => wr_bind fun _ _ => wr_cond wr_hand wr_none
      · exact wr_none
    · exact wr_none
  · exact wr_none
end wr

theorem prepCs_raws {h : List Blk} : ∀ (cs : List AV) {raws : List Nat} {fixs : List Bool} {cs' : List AV} {raws' : List Nat} {fixs' : List Bool}, prepCs h cs raws fixs = some (cs', raws', fixs') →
    (Nodup' raws → Nodup' raws') ∧ ∀ n ∈ raws', n ∈ raws ∨ n ∈ names cs
  | [], raws, fixs, cs', raws', fixs', e => by
    simp only [prepCs] at e
    injection e with e
    injection e with _ e
    injection e with e _
    subst e
    exact ⟨id, fun n hn => .inl hn⟩
  | c :: cs, raws, fixs, cs', raws', fixs', e => by
    have ex : ∀ {d : AV} (_ : ((prepCs h cs raws fixs).bind fun r => some (d :: r.1, r.2)) = some (cs', raws', fixs')) (_ : ∀ n, n ∈ names cs → n ∈ names (c :: cs)),
        (Nodup' raws → Nodup' raws') ∧ ∀ n ∈ raws', n ∈ raws ∨ n ∈ names (c :: cs) := by
      intro d e hs
      obtain ⟨⟨r1, r2, r3⟩, h3, h4⟩ := bind_some e
      injection h4 with h4
      injection h4 with _ h4
      injection h4 with e2 e3
      subst e2 e3
      obtain ⟨p1, p2⟩ := prepCs_raws cs h3
      exact ⟨p1, fun n hn => (p2 n hn).imp id (hs n)⟩
    have raw : ∀ {n : Nat} {d : AV} {fixs1 : List Bool} (_ : names (c :: cs) = n :: names cs) (_ : hasN raws n = false)
        (_ : ((prepCs h cs (raws ++ [n]) fixs1).bind fun r => some (d :: r.1, r.2)) = some (cs', raws', fixs')),
        (Nodup' raws → Nodup' raws') ∧ ∀ n ∈ raws', n ∈ raws ∨ n ∈ names (c :: cs) := by
      intro n d fixs1 hna hno e
      obtain ⟨⟨r1, r2, r3⟩, h3, h4⟩ := bind_some e
      injection h4 with h4
      injection h4 with _ h4
      injection h4 with e2 e3
      subst e2 e3
      obtain ⟨p1, p2⟩ := prepCs_raws cs h3
      have hno' : n ∉ raws := fun hm => by rw [hasN_iff.2 hm] at hno; cases hno
      refine ⟨fun hn => p1 (nodup_snoc hn hno'), fun m hm => ?_⟩
      rw [hna]
      rcases p2 m hm with hm | hm
      · rcases List.mem_append.1 hm with hm | hm
        · exact .inl hm
        · obtain rfl : m = n := by simpa using hm
          exact .inr (List.mem_cons_self ..)
      · exact .inr (List.mem_cons_of_mem _ hm)
    simp only [prepCs] at e
    split at e
    · rename_i n ver
      obtain ⟨b, h1, h2⟩ := bind_some e
      cases hx : hasN raws n with
      | true => rw [hx] at h2; cases h2
      | false => rw [hx] at h2; exact raw (by simp [names]) hx h2
    · rename_i n ver off len
      obtain ⟨b, h1, h2⟩ := bind_some e
      cases hx : hasN raws n with
      | true => rw [hx] at h2; cases h2
      | false => rw [hx] at h2; exact raw (by simp [names]) hx h2
    · exact ex e fun n hn => by simpa [names] using hn
    · exact ex e fun n hn => by simpa [names] using hn
    · exact ex e fun n hn => by simpa [names] using hn
    · exact ex e fun n hn => by simpa [names] using hn
    · cases e

theorem prep_raws {h : List Blk} : ∀ (as : List AV) {ms Ts raws : List Nat} {fixs : List Bool} {as' : List AV} {raws' : List Nat} {fixs' : List Bool}, prep X h ms Ts as raws fixs = some (as', raws', fixs') →
    (Nodup' raws → Nodup' raws') ∧ ∀ n ∈ raws', n ∈ raws ∨ n ∈ rawNames ms as
  | [], ms, Ts, raws, fixs, as', raws', fixs', e => by
    cases Ts with
    | nil =>
      simp only [prep] at e
      injection e with e
      injection e with _ e
      injection e with e _
      subst e
      exact ⟨id, fun n hn => .inl hn⟩
    | cons T Ts => simp [prep] at e
  | a :: as, ms, Ts, raws, fixs, as', raws', fixs', e => by
    cases Ts with
    | nil => simp [prep] at e
    | cons T Ts =>
      have ex : ∀ {ms' : List Nat} (_ : rawNames ms (a :: as) = rawNames ms' as) (_ : ((exV X h T a).bind fun v => (prep X h ms' Ts as raws fixs).bind fun r => some (v :: r.1, r.2)) = some (as', raws', fixs')),
          (Nodup' raws → Nodup' raws') ∧ ∀ n ∈ raws', n ∈ raws ∨ n ∈ rawNames ms (a :: as) := by
        intro ms' hms e
        obtain ⟨v, _, e⟩ := bind_some e
        obtain ⟨⟨r1, r2, r3⟩, h3, h4⟩ := bind_some e
        injection h4 with h4
        injection h4 with _ h4
        injection h4 with e2 e3
        subst e2 e3
        obtain ⟨p1, p2⟩ := prep_raws as h3
        exact ⟨p1, fun n hn => by rw [hms]; exact p2 n hn⟩
      have raw : ∀ {ms' : List Nat} {n : Nat} {c : AV} {fixs1 : List Bool} (_ : rawNames ms (a :: as) = valNames a ++ rawNames ms' as) (_ : n ∈ valNames a) (_ : hasN raws n = false)
          (_ : ((prep X h ms' Ts as (raws ++ [n]) fixs1).bind fun r => some (c :: r.1, r.2)) = some (as', raws', fixs')),
          (Nodup' raws → Nodup' raws') ∧ ∀ n ∈ raws', n ∈ raws ∨ n ∈ rawNames ms (a :: as) := by
        intro ms' n c fixs1 hms hna hno e
        obtain ⟨⟨r1, r2, r3⟩, h3, h4⟩ := bind_some e
        injection h4 with h4
        injection h4 with _ h4
        injection h4 with e2 e3
        subst e2 e3
        obtain ⟨p1, p2⟩ := prep_raws as h3
        have hno' : n ∉ raws := fun hm => by rw [hasN_iff.2 hm] at hno; cases hno
        refine ⟨fun hn => p1 (nodup_snoc hn hno'), fun m hm => ?_⟩
        rw [hms]
        rcases p2 m hm with hm | hm
        · rcases List.mem_append.1 hm with hm | hm
          · exact .inl hm
          · obtain rfl : m = n := by simpa using hm
            exact .inr (List.mem_append_left _ hna)
        · exact .inr (List.mem_append_right _ hm)
      cases ms with
      | nil =>
        simp only [prep] at e
        exact ex (ms' := []) (by cases as <;> simp [rawNames]) e
      | cons m ms =>
        cases m with
        | zero =>
          simp only [prep] at e
          exact ex (ms' := ms) (by simp [rawNames]) e
        | succ m =>
          simp only [prep] at e
          split at e
          · rename_i n ver
            obtain ⟨b, h1, h2⟩ := bind_some e
            cases hx : hasN raws n || !b.box with
            | true => rw [hx] at h2; cases h2
            | false =>
              rw [hx] at h2
              simp only [Bool.or_eq_false_iff] at hx
              exact raw (ms' := ms) (n := n) (by simp [rawNames]) (by simp [valNames, cells, names]) hx.1 h2
          · rename_i n ver
            obtain ⟨b, h1, h2⟩ := bind_some e
            cases hx : hasN raws n with
            | true => rw [hx] at h2; cases h2
            | false =>
              rw [hx] at h2
              exact raw (ms' := ms) (n := n) (by simp [rawNames]) (by simp [valNames, cells, names]) hx h2
          · rename_i n ver off len
            obtain ⟨b, h1, h2⟩ := bind_some e
            cases hx : hasN raws n with
            | true => rw [hx] at h2; cases h2
            | false =>
              rw [hx] at h2
              exact raw (ms' := ms) (n := n) (by simp [rawNames]) (by simp [valNames, cells, names]) hx h2
          · obtain ⟨⟨r1, r2, r3⟩, h3, h4⟩ := bind_some e
            injection h4 with h4
            injection h4 with _ h4
            injection h4 with e2 e3
            subst e2 e3
            obtain ⟨p1, p2⟩ := prep_raws as h3
            refine ⟨p1, fun n hn => (p2 n hn).imp id fun h => ?_⟩
            simp only [rawNames]
            exact List.mem_append_right _ h
          · rename_i cs
            obtain ⟨⟨cs', raws1, fixs1⟩, g1, e⟩ := bind_some e
            obtain ⟨⟨r1, r2, r3⟩, h3, h4⟩ := bind_some e
            injection h4 with h4
            injection h4 with _ h4
            injection h4 with e2 e3
            subst e2 e3
            obtain ⟨k1, k2⟩ := prepCs_raws cs g1
            obtain ⟨p1, p2⟩ := prep_raws as h3
            refine ⟨fun hn => p1 (k1 hn), fun n hn => ?_⟩
            simp only [rawNames]
            rcases p2 n hn with hn | hn
            · rcases k2 n hn with hn | hn
              · exact .inl hn
              · exact .inr (List.mem_append_left _ hn)
            · exact .inr (List.mem_append_right _ hn)
          · cases e

theorem SB.fz (ns : List Nat) (n : Nat) (b : Blk) : SB b (fzAt ns n b) := by unfold fzAt; split <;> exact SB.refl b

theorem eff_writes {all : List Oper} {o : Oper} {t : Nat → AV} {F : Foot} {h h' : List Blk} {l l' : Bool} {v : AV} (hf : entE X all o t = some F) (he : Eff X oc oi all o t h l v h' l') :
    ∀ (n : Nat) (b : Blk), n ∉ F.wr → h[n]? = some b → ∃ b' : Blk, h'[n]? = some b' ∧ SB b b' := by
  rcases he with ⟨hw, rfl, rfl, rfl⟩ | ⟨hw, he⟩
  · exact fun n b _ hb => ⟨b, hb, SB.refl b⟩
  · rcases entE_some hf with ⟨hw', _⟩ | ⟨_, hf⟩
    · rw [hw] at hw'; cases hw'
    · have key : Wr F.wr h (opE X oc oi t h l o) := by
        unfold opE
        cases hco : callOf o.op with
        | some c =>
          simp only
          obtain ⟨hop, f, hcal⟩ := callOf_some hco
          rw [hop] at hf
          simp only [footE, hcal] at hf
          unfold callE
          rw [hcal]
          simp only
          split at hf
          · rename_i g hev
            rw [hev]
            simp only
            rw [callF_def]
            unfold callF0
            split at hf
            · rename_i ms hm
              injection hf with hf
              subst hf
              simp only [hm]
              refine wr_bind fun pr hpr => ?_
              obtain ⟨as', raws, fixs⟩ := pr
              obtain ⟨q1, q2⟩ := prep_raws _ hpr
              refine wr_cond ?_ wr_none
              refine wr_bind fun bs _ => wr_bind fun a _ => ?_
              obtain ⟨v1, bs'⟩ := a
              refine wr_bind fun h1 hput => wr_bind fun v2 _ => ?_
              rintro v' h'' l'' e n b hn hb
              obtain ⟨_, rfl, _⟩ := hand_inj e
              have hnr : n ∉ raws := fun hr => hn (by rcases q2 n hr with h | h; cases h; exact h)
              have h1n : h1[n]? = some b := by
                rw [(putRaws_ok (q1 fun i j n hi => by simp at hi) hput).2.1 n hnr]; exact hb
              cases hasL v2 || !raws.isEmpty with
              | true => exact ⟨_, by rw [cond_true, freezeE_at, h1n]; rfl, SB.fz _ _ _⟩
              | false => exact ⟨b, h1n, SB.refl b⟩
            · rename_i hm
              simp only [hm]
              cases hy : anyRef (List.map (ev t) c.args.toList) with
              | true => rw [hy] at hf; cases hf
              | false =>
                simp only [cond_false]
                exact wr_bind fun a _ => wr_app
          · cases hf
        | none =>
          simp only
          split
          · exact wr_bind fun _ _ => wr_cond wr_hand wr_hand
          · refine op1_wr (fun T a x hop => ?_) (fun c hop hcal => ?_) (fun c hop hcal => ?_)
            · rw [hop] at hf
              simp only [footE] at hf
              injection hf with hf
              subst hf
              exact fun n hn => hn
            · rw [hop] at hf
              simp only [footE, hcal] at hf
              injection hf with hf
              subst hf
              exact fun n hn => hn
            · rw [hop] at hf
              simp only [footE, hcal] at hf
              cases hf
      exact key v h' l' he
end
end Go.Proofs.Ytiibidadpgknjaa.Fi
