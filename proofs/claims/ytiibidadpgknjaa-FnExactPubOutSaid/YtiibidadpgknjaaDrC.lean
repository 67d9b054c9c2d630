/- A region that draws its order: any order gives the same. -/
import Derived.Test.YtiibidadpgknjaaDrB
namespace Go.Proofs.Ytiibidadpgknjaa.Fi
open Go

/-! ### What waits for what -/

theorem befs_pre : ∀ (r : List Oper) (acc : List (List Nat)) (m : Nat), m < acc.length → (befs r acc)[m]? = acc[m]?
  | [], _, _, _ => rfl
  | o :: r, acc, m, hm => by
    rw [befs, befs_pre r _ m (by simp; omega), List.getElem?_append_left hm]
theorem befs_at : ∀ (r : List Oper) (acc : List (List Nat)) (m : Nat) (o : Oper), r[m]? = some o → ∃ b, (befs r acc)[acc.length + m]? = some b ∧
    ∀ j ∈ b, j ∈ edgesOf o ∨ ∃ k ∈ edgesOf o, k < acc.length + m ∧ j ∈ ((befs r acc)[k]?).getD []
  | [], _, _, _, h => by simp at h
  | o' :: r, acc, 0, o, h => by
    simp at h
    subst h
    refine ⟨edgesOf o' ++ (edgesOf o').flatMap fun j => (nth acc j).getD [], by rw [befs, befs_pre _ _ _ (by simp), Nat.add_zero, List.getElem?_append_right (Nat.le_refl _)]; simp, fun j hj => ?_⟩
    rcases List.mem_append.1 hj with hj | hj
    · exact .inl hj
    · obtain ⟨k, hk, hj⟩ := List.mem_flatMap.1 hj
      rw [nth_eq] at hj
      refine .inr ⟨k, hk, ?_⟩
      cases ha : acc[k]? with
      | none => rw [ha] at hj; simp at hj
      | some b =>
        have hlt := (List.getElem?_eq_some_iff.1 ha).1
        refine ⟨by omega, ?_⟩
        rw [befs, befs_pre _ _ _ (by simp; omega), List.getElem?_append_left hlt]
        exact hj
  | o' :: r, acc, m + 1, o, h => by
    obtain ⟨b, h1, h2⟩ := befs_at r (acc ++ [edgesOf o' ++ (edgesOf o').flatMap fun j => (nth acc j).getD []]) m o (by simpa using h)
    rw [befs]
    have e : (acc ++ [edgesOf o' ++ (edgesOf o').flatMap fun j => (nth acc j).getD []]).length + m = acc.length + (m + 1) := by simp; omega
    rw [e] at h1 h2
    exact ⟨b, h1, h2⟩

/-- What is listed is listed with all that it waits for. -/
def Closed (all : List Oper) (S : Nat → Bool) : Prop := ∀ (j : Nat) (o : Oper), all[j]? = some o → S j = true → ∀ e ∈ edgesOf o, S e = true
theorem closed_bef {all : List Oper} {S : Nat → Bool} (hc : Closed all S) : ∀ (n i : Nat), i < n → ∀ (o : Oper), all[i]? = some o → S i = true → ∀ j ∈ ((befs all [])[i]?).getD [], S j = true := by
  intro n
  induction n with
  | zero => intro i hi; omega
  | succ n ih =>
    intro i hi o ho hs j hj
    obtain ⟨b, h1, h2⟩ := befs_at all [] i o ho
    simp only [List.length_nil, Nat.zero_add] at h1 h2
    rw [h1] at hj
    rcases h2 j hj with h3 | ⟨k, h3, h4, h5⟩
    · exact hc i o ho hs j h3
    · have hk := hc i o ho hs k h3
      obtain ⟨ok, hok⟩ : ∃ ok, all[k]? = some ok := by
        have := (List.getElem?_eq_some_iff.1 ho).1
        exact ⟨_, List.getElem?_eq_getElem (by omega)⟩
      exact ih k (by omega) ok hok hk j h5
/-- One that may go next has all behind it that it waits for. -/
theorem ready_bef {all : List Oper} {S : Nat → Bool} (hc : Closed all S) {i : Nat} {o : Oper} (ho : all[i]? = some o) (he : ∀ e ∈ edgesOf o, S e = true) : ∀ j ∈ ((befs all [])[i]?).getD [], S j = true := by
  intro j hj
  obtain ⟨b, h1, h2⟩ := befs_at all [] i o ho
  simp only [List.length_nil, Nat.zero_add] at h1 h2
  rw [h1] at hj
  rcases h2 j hj with h3 | ⟨k, h3, h4, h5⟩
  · exact he j h3
  · obtain ⟨ok, hok⟩ : ∃ ok, all[k]? = some ok := by
      have := (List.getElem?_eq_some_iff.1 ho).1
      exact ⟨_, List.getElem?_eq_getElem (by omega)⟩
    exact closed_bef hc (k + 1) k (by omega) ok hok (he k h3) j h5

/-! ### One can always go -/

theorem subN_mem : ∀ {a s : List Nat}, topoB.subN a s = true → ∀ x ∈ a, x ∈ s
  | [], _, _, _, h => by cases h
  | y :: r, s, h, x, hx => by
    simp only [topoB.subN, Bool.and_eq_true] at h
    rcases List.mem_cons.1 hx with rfl | hx
    · exact hasN_iff.1 h.1
    · exact subN_mem h.2 x hx
theorem topo_next {E : List (List Nat)} {S : Nat → Bool} : ∀ {ord seen : List Nat}, topoB E seen ord = true → (∀ x ∈ seen, x < E.length ∧ S x = true) → (∃ i ∈ ord, S i = false) →
    ∃ i, i < E.length ∧ S i = false ∧ ∀ e ∈ (E[i]?).getD [], e < E.length ∧ S e = true
  | [], _, _, _, ⟨i, hi, _⟩ => by cases hi
  | i :: r, seen, h, hs, hx => by
    simp only [topoB, Bool.and_eq_true] at h
    obtain ⟨⟨h1, h2⟩, h3⟩ := h
    have hi : i < E.length := Nat.blt_eq ▸ h1
    rw [nth_eq] at h2
    cases hsi : S i with
    | false => exact ⟨i, hi, hsi, fun e he => hs e (subN_mem h2 e he)⟩
    | true =>
      refine topo_next h3 (fun x hx => ?_) ?_
      · rcases List.mem_cons.1 hx with rfl | hx
        · exact ⟨hi, hsi⟩
        · exact hs x hx
      · obtain ⟨j, hj, hsj⟩ := hx
        rcases List.mem_cons.1 hj with rfl | hj
        · rw [hsi] at hsj; cases hsj
        · exact ⟨j, hj, hsj⟩
theorem cover_mem {ord : List Nat} : ∀ {n : Nat}, coverB ord n = true → ∀ i, i < n → i ∈ ord
  | 0, _, i, hi => by omega
  | n + 1, h, i, hi => by
    simp only [coverB, Bool.and_eq_true] at h
    by_cases he : i = n
    · subst he; exact hasN_iff.1 h.1
    · exact cover_mem h.2 i (by omega)
theorem mem_edgesM {m : Region.Mode} {o : Oper} {e : Nat} : e ∈ edgesM m o ↔ ∃ x ∈ o.after, Region.binds m x = true ∧ x.on = e := by
  unfold edgesM
  simp only [List.mem_map, List.mem_filter, Array.mem_toList_iff]
  constructor
  · rintro ⟨x, ⟨h1, h2⟩, h3⟩; exact ⟨x, h1, h2, h3⟩
  · rintro ⟨x, h1, h2, h3⟩; exact ⟨x, ⟨h1, h2⟩, h3⟩
theorem ready_next {md : Region.Mode} {all : List Oper} {ord : List Nat} {listed : Array Bool} (ht : topoOk md all ord = true) (hl : listed.size = all.length) (hx : ∃ i, i < all.length ∧ listed.getD i false = false) :
    Region.ready md all.toArray listed ≠ [] := by
  unfold topoOk at ht
  simp only [Bool.and_eq_true] at ht
  obtain ⟨i, h1, h2⟩ := hx
  obtain ⟨j, k1, k2, k3⟩ := topo_next (S := fun i => listed.getD i false) ht.1 (fun x hx => by cases hx) ⟨i, cover_mem ht.2 i h1, h2⟩
  rw [List.length_map] at k1 k3
  have hm : j ∈ Region.ready md all.toArray listed := by
    refine mem_ready.2 ⟨?_, all[j], by rw [List.getElem?_toArray]; exact List.getElem?_eq_getElem k1, fun e he hb => ?_⟩
    rotate_left
    · refine (k3 e.on ?_).2
      rw [List.getElem?_map, List.getElem?_eq_getElem k1]
      exact mem_edgesM.2 ⟨e, he, hb, rfl⟩
    · have hj : j < listed.size := by omega
      simp only [Array.getD_eq_getD_getElem?, Array.getElem?_eq_getElem hj, Option.getD_some] at k2 ⊢
      exact k2
  exact List.ne_nil_of_mem hm

/-! ### How many are left -/

def left (S : Nat → Bool) : Nat → Nat
  | 0 => 0
  | n + 1 => left S n + (bif S n then 0 else 1)
theorem left_zero {S : Nat → Bool} : ∀ {n : Nat}, left S n = 0 → ∀ i, i < n → S i = true
  | 0, _, i, hi => by omega
  | n + 1, h, i, hi => by
    simp only [left] at h
    by_cases he : i = n
    · subst he
      cases hs : S i with
      | true => rfl
      | false => rw [hs] at h; simp at h
    · exact left_zero (n := n) (by omega) i (by omega)
theorem left_same {S S' : Nat → Bool} : ∀ {n : Nat}, (∀ j, j < n → S' j = S j) → left S' n = left S n
  | 0, _ => rfl
  | n + 1, h => by
    have ih := left_same (S := S) (S' := S') (n := n) fun j hj => h j (by omega)
    simp only [left, h n (by omega), ih]
theorem left_set {S S' : Nat → Bool} {i : Nat} (hi : S i = false) (hi' : S' i = true) (hs : ∀ j, j ≠ i → S' j = S j) : ∀ {n : Nat}, i < n → left S' n + 1 = left S n
  | 0, h => by omega
  | n + 1, h => by
    simp only [left]
    by_cases he : i = n
    · subst he
      rw [hi, hi', left_same fun j hj => hs j (by omega)]
      simp
    · rw [hs n (fun h => he h.symm)]
      have := left_set hi hi' hs (n := n) (by omega)
      omega

section
variable {P : Program} {X : Ctx} {oc : Nat → List AV → List Blk → Option (AV × List Blk)} {oi : Nat → List AV → List Blk → Option Ans}

/-! ### The run in the text's order -/

/-- The interpreter's run through a region, step by step. -/
structure Run1 (X : Ctx) (oc : Nat → List AV → List Blk → Option (AV × List Blk)) (oi : Nat → List AV → List Blk → Option Ans) (all : List Oper) (bef : List (List Nat))
    (T : Nat → Nat → AV) (H : Nat → List Blk) (L : Nat → Bool) (V : Nat → AV) (F : Nat → Foot) (j : Nat) (o : Oper) : Prop where
  eff : Eff X oc oi all o (T j) (H j) (L j) (V j) (H (j + 1)) (L (j + 1))
  nxt : T (j + 1) = putO o.dst (V j) (T j)
  ent : entE X all o (T j) = some (F j)
  dst : ∀ d, o.dst = some d → d < X.nt
  prs : ∀ (m : Nat) (o' : Oper), m < j → all[m]? = some o' → m ∈ (bef[j]?).getD [] ∨ indep all o' (F m) o (F j) = true

theorem okPairs_at {all : List Oper} {before : List Nat} {o : Oper} {e : Foot} : ∀ {i : Nat} {es : List Foot} {os : List Oper}, okPairs all before o e i es os = true →
    ∀ (m : Nat) (e' : Foot) (o' : Oper), es[m]? = some e' → os[m]? = some o' → i + m ∈ before ∨ indep all o' e' o e = true
  | i, [], _, _, m, e', o', h1, _ => by simp at h1
  | i, _ :: _, [], _, m, e', o', _, h2 => by simp at h2
  | i, e1 :: es, o1 :: os, h, m, e', o', h1, h2 => by
    simp only [okPairs, Bool.and_eq_true, Bool.or_eq_true] at h
    cases m with
    | zero =>
      simp at h1 h2
      subst h1 h2
      exact h.1.imp hasN_iff.1 id
    | succ m =>
      have := okPairs_at h.2 m e' o' (by simpa using h1) (by simpa using h2)
      rwa [show i + 1 + m = i + (m + 1) by omega] at this

variable {fn : Func} {ok : List It → List Nat → List AV → List Blk → Bool → Option Ans} {iso : Bool} {all : List Oper} {bef : List (List Nat)} {k : List It} {res : Ans}

theorem trace : ∀ (rest : List Oper) (i : Nat) (log : List Foot) (t : Nat → AV) (h : List Blk) (l : Bool) (n : Nat), rest = all.drop i → i ≤ all.length → log.length = i →
    go X fn oc oi ok iso n (.ops true all bef i rest log :: k) t h l = some res →
    ∃ (T : Nat → Nat → AV) (H : Nat → List Blk) (L : Nat → Bool) (V : Nat → AV) (F : Nat → Foot), T i = t ∧ H i = h ∧ L i = l ∧ (∀ (j : Nat) (e : Foot), log[j]? = some e → F j = e) ∧
      (∀ (j : Nat) (o : Oper), i ≤ j → all[j]? = some o → Run1 X oc oi all bef T H L V F j o) ∧ ∃ n', n' < n ∧ go X fn oc oi ok iso n' k (T all.length) (H all.length) (L all.length) = some res
  | [], i, log, t, h, l, n, hr, hi, hl, e => by
    cases n with
    | zero => cases e
    | succ n =>
      have hN : i = all.length := by
        have := congrArg List.length hr
        simp at this
        omega
      refine ⟨fun _ => t, fun _ => h, fun _ => l, fun _ => .undef, fun j => (log[j]?).getD ⟨false, [], []⟩, rfl, rfl, rfl, fun j e he => by show (log[j]?).getD _ = _; rw [he]; rfl, fun j o hj ho => ?_, n, by omega, e⟩
      have := (List.getElem?_eq_some_iff.1 ho).1
      omega
  | o :: rest, i, log, t, h, l, n, hr, hi, hl, e => by
    cases n with
    | zero => cases e
    | succ n =>
      obtain ⟨log', v, h', l', h1, h2, h3, h4⟩ := ops_part e
      have hlog := h1 rfl
      unfold logE at hlog
      obtain ⟨f, h5, h6⟩ := bind_some hlog
      obtain ⟨h7, h8⟩ := cond_some h6
      injection h8 with h8
      subst h8
      have hio : all[i]? = some o := by
        have := congrArg (fun l => l[0]?) hr
        simpa using this.symm
      have hilt := (List.getElem?_eq_some_iff.1 hio).1
      obtain ⟨T, H, L, V, F, k1, k2, k3, k4, k5, n', k6, k7⟩ := trace rest (i + 1) (log ++ [f]) _ h' l' n (by rw [← List.drop_drop, ← hr]; rfl) hilt (by simp [hl]) h4
      have hF : F i = f := k4 i f (by rw [← hl]; simp)
      refine ⟨fun j => if j = i then t else T j, fun j => if j = i then h else H j, fun j => if j = i then l else L j, fun j => if j = i then v else V j, F, if_pos rfl, if_pos rfl, if_pos rfl,
        fun j e he => k4 j e (by rw [List.getElem?_append_left (List.getElem?_eq_some_iff.1 he).1]; exact he), fun j o' hj ho => ?_, n', by omega, ?_⟩
      · by_cases hji : j = i
        · subst hji
          rw [hio] at ho
          injection ho with ho
          subst ho
          have hne : j + 1 ≠ j := by omega
          refine ⟨?_, ?_, ?_, h3, fun m o'' hm ho'' => ?_⟩
          · simp only [if_true, hne, if_false, k2, k3]; exact h2
          · simp only [if_true, hne, if_false, k1]
          · simp only [if_true, hF]; exact h5
          · have hlm : ∃ e', log[m]? = some e' := ⟨_, List.getElem?_eq_getElem (by omega)⟩
            obtain ⟨e', he'⟩ := hlm
            have := okPairs_at h7 m e' o'' he' ho''
            rw [k4 m e' (by rw [List.getElem?_append_left (by omega)]; exact he'), hF]
            rw [Nat.zero_add, nth_eq] at this
            exact this
        · have hj' : i + 1 ≤ j := by omega
          have hne : j + 1 ≠ i := by omega
          obtain ⟨q1, q2, q3, q4, q5⟩ := k5 j o' hj' ho
          refine ⟨?_, ?_, ?_, q4, q5⟩
          · simp only [hji, hne, if_false]; exact q1
          · simp only [hji, hne, if_false]; exact q2
          · simp only [hji, if_false]; exact q3
      · have : all.length ≠ i := by omega
        simp only [this, if_false]
        exact k7
end
end Go.Proofs.Ytiibidadpgknjaa.Fi
