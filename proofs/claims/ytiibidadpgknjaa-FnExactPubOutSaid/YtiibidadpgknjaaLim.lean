/- The calls in the limit: what comes out after rounds enough. -/
import Derived.Test.YtiibidadpgknjaaRul
namespace Go.Proofs.Ytiibidadpgknjaa.Fi
open Go

def Ev {α : Type} (g : Nat → Option α) (r : α) : Prop := ∃ n, ∀ m, n ≤ m → g m = some r

theorem Ev.uniq {α : Type} {g : Nat → Option α} {r r' : α} (h : Ev g r) (h' : Ev g r') : r = r' := by
  obtain ⟨n, hn⟩ := h
  obtain ⟨n', hn'⟩ := h'
  have a := hn (max n n') (by omega)
  have b := hn' (max n n') (by omega)
  rw [a] at b
  exact Option.some.inj b
theorem Ev.const {α : Type} {o : Option α} {r : α} (h : o = some r) : Ev (fun _ => o) r := ⟨0, fun _ _ => h⟩
theorem Ev.bind {α β : Type} {g : Nat → Option α} {K : Nat → α → Option β} {a : α} {r : β} (h : Ev g a) (h' : Ev (fun n => K n a) r) : Ev (fun n => (g n).bind (K n)) r := by
  obtain ⟨n, hn⟩ := h
  obtain ⟨n', hn'⟩ := h'
  refine ⟨max n n', fun m hm => ?_⟩
  show (g m).bind (K m) = some r
  rw [hn m (by omega)]
  exact hn' m (by omega)
theorem Ev.succ {α : Type} {g : Nat → Option α} {r : α} (h : Ev (fun n => g (n + 1)) r) : Ev g r := by
  obtain ⟨n, hn⟩ := h
  refine ⟨n + 1, fun m hm => ?_⟩
  obtain ⟨k, rfl⟩ : ∃ k, m = k + 1 := ⟨m - 1, by omega⟩
  exact hn k (by omega)

open Classical in
noncomputable def lim {α : Type} (g : Nat → Option α) : Option α := if h : ∃ r, Ev g r then some h.choose else none
theorem lim_of {α : Type} {g : Nat → Option α} {r : α} (h : Ev g r) : lim g = some r := by
  have hx : ∃ r, Ev g r := ⟨r, h⟩
  unfold lim
  rw [dif_pos hx]
  exact congrArg some (Ev.uniq hx.choose_spec h)
theorem ev_of {α : Type} {g : Nat → Option α} {r : α} (h : lim g = some r) : Ev g r := by
  unfold lim at h
  split at h
  · rename_i hx
    have e := Option.some.inj h
    rw [← e]
    exact hx.choose_spec
  · cases h

noncomputable def run (E : Env) (f nr : Nat) (iso : Bool) (todo : List It) (ks : List Nat) (vs : List AV) (h : List Blk) (leak : Bool) : Option Ans :=
  lim fun n => runN E n f nr iso todo ks vs h leak
noncomputable def callP (E : Env) (f : Nat) (as : List AV) (bs : List Blk) : Option (AV × List Blk) := lim fun n => callPN E n f as bs
noncomputable def callI (E : Env) (f : Nat) (as : List AV) (h : List Blk) : Option Ans := lim fun n => callIN E n f as h

section cont
variable {X : Ctx} {fn : Func} {oc : Nat → List AV → List Blk → Option (AV × List Blk)} {oi : Nat → List AV → List Blk → Option Ans}
  {ok : List It → List Nat → List AV → List Blk → Bool → Option Ans}
  {OC : Nat → Nat → List AV → List Blk → Option (AV × List Blk)} {OI : Nat → Nat → List AV → List Blk → Option Ans}
  {OK : Nat → List It → List Nat → List AV → List Blk → Bool → Option Ans}
variable (hc : ∀ f a b r, oc f a b = some r → Ev (fun n => OC n f a b) r) (hi : ∀ f a b r, oi f a b = some r → Ev (fun n => OI n f a b) r)
  (hk : ∀ t ks vs h l r, ok t ks vs h l = some r → Ev (fun n => OK n t ks vs h l) r)

theorem cut_cont {iso : Bool} {todo : List It} {ks : List Nat} {t : Nat → AV} {h : List Blk} {l : Bool} {r : Ans} (hk : ∀ t ks vs h l r, ok t ks vs h l = some r → Ev (fun n => OK n t ks vs h l) r)
    (e : cutTo X ok iso todo ks t h l = some r) : Ev (fun n => cutTo X (OK n) iso todo ks t h l) r := by
  unfold cutTo at e ⊢
  simp only [forces_eq, forceN_eq] at e ⊢
  cases hm : mayCut l X.nr (growM 8 X.nr (Nat.max (bndAll (ks.map t)) X.nr) h) h with
  | false => rw [hm] at e; cases e
  | true =>
    rw [hm] at e
    simp only [cond_true] at e ⊢
    exact hk _ _ _ _ _ _ e

theorem bind_cont {α β : Type} {o : Option α} {K : α → Option β} {K' : Nat → α → Option β} {r : β} (h : o.bind K = some r) (hK : ∀ a, K a = some r → Ev (fun n => K' n a) r) :
    Ev (fun n => o.bind (K' n)) r := by
  cases o with
  | none => cases h
  | some a => exact hK a h
theorem cond_cont {β : Type} {b : Bool} {x y : Option β} {x' y' : Nat → Option β} {r : β} (h : cond b x y = some r) (hx : x = some r → Ev x' r) (hy : y = some r → Ev y' r) :
    Ev (fun n => cond b (x' n) (y' n)) r := by
  cases b
  · exact hy h
  · exact hx h

include hc hi in
theorem callF_cont {β : Type} {h : List Blk} {leak : Bool} {Ts : List Nat} {f : Nat} {as : List AV} {K : AV → List Blk → Bool → Option β} {K' : Nat → AV → List Blk → Bool → Option β} {r : β}
    (e : callF X oc oi h leak Ts f as K = some r) (hK : ∀ v h l, K v h l = some r → Ev (fun n => K' n v h l) r) : Ev (fun n => callF X (OC n) (OI n) h leak Ts f as (K' n)) r := by
  simp only [callF_def, callF0] at e ⊢
  cases hm : X.mode f with
  | none =>
    simp only [hm] at e ⊢
    refine cond_cont e (fun e => cond_cont e (fun e => ?_) (fun e => ?_)) (fun e => ?_)
    · refine bind_cont e fun pr e => ?_
      obtain ⟨as', raws, fixs⟩ := pr
      cases ho : oi f as' [] with
      | none => simp only [ho] at e; cases e
      | some a => simp only [ho] at e; obtain ⟨v, h', l⟩ := a; exact (hi _ _ _ _ ho).bind (cond_cont e (hK _ _ _) (fun e => by cases e))
    · cases ho : oi f as h with
      | none => rw [ho] at e; cases e
      | some a => rw [ho] at e; obtain ⟨v, h', l⟩ := a; exact (hi _ _ _ _ ho).bind (hK _ _ _ e)
    · cases ho : oi f as [] with
      | none => rw [ho] at e; cases e
      | some a => rw [ho] at e; obtain ⟨v, h', l⟩ := a; exact (hi _ _ _ _ ho).bind (hK _ _ _ e)
  | some ms =>
    simp only [hm] at e ⊢
    refine bind_cont e fun pr e => ?_
    obtain ⟨as', raws, fixs⟩ := pr
    refine cond_cont e (fun e => ?_) (fun e => by cases e)
    refine bind_cont e fun bs e => ?_
    cases ho : oc f as' bs with
    | none => rw [ho] at e; cases e
    | some a => rw [ho] at e; obtain ⟨v, bs'⟩ := a; exact (hc _ _ _ _ ho).bind (bind_cont e fun h' e => bind_cont e fun v e => hK _ _ _ e)

include hc hi in
theorem callE_cont {β : Type} {t : Nat → AV} {h : List Blk} {leak : Bool} {c : Call} {K : AV → List Blk → Bool → Option β} {K' : Nat → AV → List Blk → Bool → Option β} {r : β}
    (e : callE X oc oi t h leak c K = some r) (hK : ∀ v h l, K v h l = some r → Ev (fun n => K' n v h l) r) : Ev (fun n => callE X (OC n) (OI n) t h leak c (K' n)) r := by
  unfold callE at e ⊢
  split at e
  · rename_i f hf
    split at e
    · exact callF_cont hc hi e hK
    · split at e
      · exact callF_cont hc hi e hK
      · cases e
    · cases e
  · cases e

theorem putDst_cont {β : Type} {nt : Nat} {dst : Option Nat} {v : AV} {t : Nat → AV} {K : (Nat → AV) → Option β} {K' : Nat → (Nat → AV) → Option β} {r : β}
    (e : putDst nt dst v t K = some r) (hK : ∀ t, K t = some r → Ev (fun n => K' n t) r) : Ev (fun n => putDst nt dst v t (K' n)) r := by
  unfold putDst at e ⊢
  cases dst with
  | none => exact hK _ e
  | some d =>
    simp only [forceV_eq] at e ⊢
    exact cond_cont e (hK _) (fun e => by cases e)

theorem loadE_cont {β : Type} {X : Ctx} {h : List Blk} {T : Nat} {a : AV} {K : AV → Option β} {K' : Nat → AV → Option β} {r : β}
    (e : loadE X h T a K = some r) (hK : ∀ v, K v = some r → Ev (fun n => K' n v) r) : Ev (fun n => loadE X h T a (K' n)) r := by
  unfold loadE at e ⊢
  split at e
  · exact bind_cont e fun b e => bind_cont e fun x e => cond_cont e (hK _) (fun e => by cases e)
  · exact cond_cont e (hK _) (fun e => by cases e)
  · cases e

theorem storeE_cont {β : Type} {X : Ctx} {h : List Blk} {leak : Bool} {K : AV → List Blk → Bool → Option β} {K' : Nat → AV → List Blk → Bool → Option β} {T : Nat} {a x : AV} {r : β}
    (e : storeE X h leak K T a x = some r) (hK : ∀ v h l, K v h l = some r → Ev (fun n => K' n v h l) r) : Ev (fun n => storeE X h leak (K' n) T a x) r := by
  unfold storeE at e ⊢
  refine cond_cont e (fun e => by cases e) (fun e => ?_)
  split at e
  · refine bind_cont e fun b e => ?_
    obtain ⟨sz, ty, els, box, rf, fz, ver⟩ := b
    refine bind_cont e fun y e => ?_
    simp only [forceV_eq] at e ⊢
    exact cond_cont e (hK _ _ _) (fun e => by cases e)
  · cases e

theorem appendE_cont {β : Type} {X : Ctx} {h : List Blk} {leak : Bool} {K : AV → List Blk → Bool → Option β} {K' : Nat → AV → List Blk → Bool → Option β} {T : Nat} {a x : AV} {r : β}
    (e : appendE X h leak K T a x = some r) (hK : ∀ v h l, K v h l = some r → Ev (fun n => K' n v h l) r) : Ev (fun n => appendE X h leak (K' n) T a x) r := by
  unfold appendE at e ⊢
  split at e
  · refine bind_cont e fun p e => ?_
    obtain ⟨sz, xs, rf⟩ := p
    refine cond_cont e (fun e => ?_) (fun e => by cases e)
    split at e
    · exact cond_cont e (hK _ _ _) (fun e => by cases e)
    · refine bind_cont e fun b e => ?_
      obtain ⟨bsz, bty, els, box, brf, fz, bver⟩ := b
      exact cond_cont e (hK _ _ _) (fun e => by cases e)
    · refine bind_cont e fun b e => ?_
      obtain ⟨bsz, bty, els, box, brf, fz, bver⟩ := b
      exact cond_cont e (hK _ _ _) (fun e => by cases e)
    · cases e
  · cases e

theorem clearE_cont {β : Type} {X : Ctx} {h : List Blk} {leak : Bool} {K : AV → List Blk → Bool → Option β} {K' : Nat → AV → List Blk → Bool → Option β} {esz ety : Nat} {x : AV} {r : β}
    (e : clearE X h leak K esz ety x = some r) (hK : ∀ v h l, K v h l = some r → Ev (fun n => K' n v h l) r) : Ev (fun n => clearE X h leak (K' n) esz ety x) r := by
  unfold clearE at e ⊢
  refine cond_cont e (fun e => by cases e) (fun e => ?_)
  split at e
  · exact hK _ _ _ e
  · refine bind_cont e fun b e => ?_
    obtain ⟨bsz, bty, els, box, brf, fz, bver⟩ := b
    exact cond_cont e (hK _ _ _) (fun e => by cases e)
  · refine bind_cont e fun b e => ?_
    obtain ⟨bsz, bty, els, box, brf, fz, bver⟩ := b
    exact cond_cont e (hK _ _ _) (fun e => by cases e)
  · cases e

theorem op1_cont {β : Type} {X : Ctx} {t : Nat → AV} {h : List Blk} {leak : Bool} {K : AV → List Blk → Bool → Option β} {K' : Nat → AV → List Blk → Bool → Option β} {mk : Bool} {ty : Nat} {o : Op} {r : β}
    (e : op1 X t h leak K mk ty o = some r) (hK : ∀ v h l, K v h l = some r → Ev (fun n => K' n v h l) r) : Ev (fun n => op1 X t h leak (K' n) mk ty o) r := by
  unfold op1 at e ⊢
  split at e
  · exact hK _ _ _ e
  · refine cond_cont e (fun e => ?_) (hK _ _ _)
    split at e <;> exact hK _ _ _ e
  · simp only [forceV_eq] at e ⊢; exact cond_cont e (hK _ _ _) (fun e => by cases e)
  · simp only [forceV_eq] at e ⊢; exact cond_cont e (hK _ _ _) (fun e => by cases e)
  · split at e
    · exact cond_cont e (fun e => bind_cont e fun p e => hK _ _ _ e) (fun e => by cases e)
    · cases e
  · split at e
    · refine bind_cont e fun l e => ?_
      simp only [forces_eq] at e ⊢
      refine cond_cont e (fun e => ?_) (fun e => by cases e)
      split at e
      · exact hK _ _ _ e
      · exact cond_cont e (hK _ _ _) (hK _ _ _)
    · cases e
  · exact loadE_cont e fun v e => hK _ _ _ e
  · exact storeE_cont e hK
  · split at e
    · exact bind_cont e fun b e => hK _ _ _ e
    · exact hK _ _ _ e
    · cases e
  · exact bind_cont e fun p e => hK _ _ _ e
  · exact bind_cont e fun p e => hK _ _ _ e
  · exact bind_cont e fun p e => hK _ _ _ e
  · split at e
    · simp only [forces_eq] at e ⊢; exact cond_cont e (fun e => by cases e) (hK _ _ _)
    · cases e
  · split at e
    · exact bind_cont e fun n e => bind_cont e fun m e => cond_cont e (hK _ _ _) (fun e => by cases e)
    · cases e
  · exact bind_cont e fun p e => hK _ _ _ e
  · exact cond_cont e (hK _ _ _) (fun e => by cases e)
  · refine bind_cont e fun p e => ?_
    split at e
    · exact bind_cont e fun b e => hK _ _ _ e
    · exact hK _ _ _ e
    · cases e
  · refine bind_cont e fun p e => ?_
    split at e
    · exact cond_cont e (hK _ _ _) (fun e => by cases e)
    · cases e
  · split at e
    · refine bind_cont e fun p e => ?_
      split at e
      · exact cond_cont e (fun e => bind_cont e fun p e => hK _ _ _ e) (fun e => by cases e)
      · exact bind_cont e fun b e => cond_cont e (hK _ _ _) (fun e => by cases e)
      · exact bind_cont e fun b e => cond_cont e (hK _ _ _) (fun e => by cases e)
      · cases e
    · cases e
  · split at e
    · exact cond_cont e (fun e => by cases e) (fun e => bind_cont e fun p e => cond_cont e (fun e => bind_cont e fun p e => hK _ _ _ e) (fun e => by cases e))
    · cases e
  · exact bind_cont e fun p e => bind_cont e fun p e => hK _ _ _ e
  · split at e
    · split at e
      · exact bind_cont e fun p e => hK _ _ _ e
      · cases e
    · split at e
      · exact cond_cont e (fun e => appendE_cont e hK) (fun e => by cases e)
      · cases e
    · split at e
      · split at e
        · exact clearE_cont e hK
        · cases e
      · cases e
    · split at e
      · exact bind_cont e fun p e => bind_cont e fun p e => cond_cont e (hK _ _ _) (fun e => by cases e)
      · cases e
    · split at e
      · exact bind_cont e fun p e => bind_cont e fun p e => cond_cont e (hK _ _ _) (fun e => by cases e)
      · cases e
    · cases e
  · cases e

include hc hi hk in
theorem go_cont (iso : Bool) : ∀ (n : Nat) (todo : List It) (t : Nat → AV) (h : List Blk) (l : Bool) (r : Ans), go X fn oc oi ok iso n todo t h l = some r → Ev (fun m => go X fn (OC m) (OI m) (OK m) iso n todo t h l) r := by
  intro n
  induction n with
  | zero => intro todo t h l r e; cases e
  | succ n ih =>
    intro todo t h l r e
    cases todo with
    | nil => exact Ev.const e
    | cons it k =>
      cases it with
      | inBlock id => exact ih _ _ _ _ _ e
      | inLoop c =>
        cases k with
        | nil => cases e
        | cons x k =>
          cases x with
          | inBlock id => exact bind_cont e fun ks e => cut_cont hk e
          | _ => cases e
      | code c =>
        cases c with
        | ret => exact Ev.const e
        | skip => exact ih _ _ _ _ _ e
        | label _ => exact ih _ _ _ _ _ e
        | seq a b => exact ih _ _ _ _ _ e
        | cond c x y => exact bind_cont e fun b e => cond_cont e (ih _ _ _ _ _) (ih _ _ _ _ _)
        | block id c => exact ih _ _ _ _ _ e
        | loop c =>
          cases k with
          | nil => cases e
          | cons x k =>
            cases x with
            | inBlock id => exact bind_cont e fun ks e => cut_cont hk e
            | _ => cases e
        | exit id => exact bind_cont e fun k' e => ih _ _ _ _ _ e
        | region id ops draw =>
          simp only [go] at e ⊢
          refine cond_cont e (fun e => ?_) (fun e => by cases e)
          cases hm : X.cutr id with
          | none => simp only [hm] at e ⊢; exact ih _ _ _ _ _ e
          | some ks => simp only [hm] at e ⊢; exact cut_cont hk e
        | _ => cases e
      | ops draw all bef i rest log =>
        cases rest with
        | nil => exact ih _ _ _ _ _ e
        | cons o rest =>
          simp only [go] at e ⊢
          refine bind_cont e fun log e => ?_
          have hskip : ∀ (L : It) (t : Nat → AV), (putDst X.nt o.dst (.tup []) t fun t => go X fn oc oi ok iso n (L :: k) t h l) = some r →
              Ev (fun m => putDst X.nt o.dst (.tup []) t fun t => go X fn (OC m) (OI m) (OK m) iso n (L :: k) t h l) r :=
            fun L t e => putDst_cont e fun t e => ih _ _ _ _ _ e
          have hdo : ∀ (L : It) (t : Nat → AV), (match callOf o.op with
              | some c => callE X oc oi t h l c fun v h l => putDst X.nt o.dst v t fun t => go X fn oc oi ok iso n (L :: k) t h l
              | none => match o.op with
                | .pick c a b => (asB (ev t c)).bind fun x =>
                    cond x (putDst X.nt o.dst (ev t a) (setB t c true) fun t => go X fn oc oi ok iso n (L :: k) t h l)
                      (putDst X.nt o.dst (ev t b) (setB t c false) fun t => go X fn oc oi ok iso n (L :: k) t h l)
                | op => op1 X t h l (fun v h l => putDst X.nt o.dst v t fun t => go X fn oc oi ok iso n (L :: k) t h l) (mkOf X o) o.type op) = some r →
              Ev (fun m => match callOf o.op with
              | some c => callE X (OC m) (OI m) t h l c fun v h l => putDst X.nt o.dst v t fun t => go X fn (OC m) (OI m) (OK m) iso n (L :: k) t h l
              | none => match o.op with
                | .pick c a b => (asB (ev t c)).bind fun x =>
                    cond x (putDst X.nt o.dst (ev t a) (setB t c true) fun t => go X fn (OC m) (OI m) (OK m) iso n (L :: k) t h l)
                      (putDst X.nt o.dst (ev t b) (setB t c false) fun t => go X fn (OC m) (OI m) (OK m) iso n (L :: k) t h l)
                | op => op1 X t h l (fun v h l => putDst X.nt o.dst v t fun t => go X fn (OC m) (OI m) (OK m) iso n (L :: k) t h l) (mkOf X o) o.type op) r := by
            intro L t e
            cases hco : callOf o.op with
            | some c =>
              simp only [hco] at e ⊢
              exact callE_cont hc hi e fun v h l e => putDst_cont e fun t e => ih _ _ _ _ _ e
            | none =>
              simp only [hco] at e ⊢
              split at e
              · exact bind_cont e fun b e => cond_cont e (fun e => putDst_cont e fun t e => ih _ _ _ _ _ e) (fun e => putDst_cont e fun t e => ih _ _ _ _ _ e)
              · exact op1_cont e fun v h l e => putDst_cont e fun t e => ih _ _ _ _ _ e
          cases hg : o.guard with
          | none => simp only [hg] at e ⊢; exact hdo _ _ e
          | some p =>
            obtain ⟨g, want⟩ := p
            simp only [hg] at e ⊢
            refine bind_cont e fun d e => ?_
            split at e
            · cases want
              · exact cond_cont e (hskip _ _) (hdo _ _)
              · exact cond_cont e (hdo _ _) (hskip _ _)
            · exact hskip _ _ e
            · cases e
end cont

theorem run_intro {E : Env} {f nr : Nat} {iso : Bool} {todo : List It} {ks : List Nat} {vs : List AV} {h : List Blk} {leak : Bool} {fn : Func} {r : Ans} (hf : E.P.funcs[f]? = some fn)
    (hr : go (E.ctx f fn nr) fn (callP E) (callI E) (run E f nr iso) iso BIG (enterIt todo) (look ks vs) h leak = some r) : run E f nr iso todo ks vs h leak = some r := by
  refine lim_of (Ev.succ ?_)
  have := go_cont (X := E.ctx f fn nr) (fn := fn) (oc := callP E) (oi := callI E) (ok := run E f nr iso) (OC := fun n => callPN E n) (OI := fun n => callIN E n) (OK := fun n => runN E n f nr iso)
    (fun f a b r h => ev_of h) (fun f a b r h => ev_of h) (fun t ks vs h l r e => ev_of e) iso BIG (enterIt todo) (look ks vs) h leak r hr
  simpa only [runN, hf] using this

theorem callP_intro {E : Env} {f : Nat} {as : List AV} {bs bs' : List Blk} {v : AV} {fn : Func} {c : Code} {l : Bool} (hf : E.P.funcs[f]? = some fn) (hb : fn.body = some c)
    (hr : run E f bs.length true [.code c] (List.range as.length) as bs false = some (v, bs', l)) :
    callP E f as bs = some (v, bs') := by
  refine lim_of (Ev.succ ?_)
  simp only [callPN, hf, hb]
  exact (ev_of hr).bind (Ev.const rfl)

theorem callI_intro {E : Env} {f : Nat} {as : List AV} {h : List Blk} {fn : Func} {c : Code} {a : Ans} (hf : E.P.funcs[f]? = some fn) (hb : fn.body = some c)
    (hr : run E f h.length false [.code c] (List.range as.length) as h false = some a) : callI E f as h = some a := by
  refine lim_of (Ev.succ ?_)
  simp only [callIN, hf, hb]
  exact ev_of hr

end Go.Proofs.Ytiibidadpgknjaa.Fi
namespace Go.Proofs.Ytiibidadpgknjaa.Fi
open Go

/-- The places at which a loop begins anew, the outer ones first. -/
def loops : Code → List It → List (List It)
  | .seq a b, k => loops a (.code b :: k) ++ loops b k
  | .cond _ x y, k => loops x k ++ loops y k
  | .block id c, k => loops c (.inBlock id :: k)
  | .loop c, k => (.inLoop c :: k) :: loops c (.inLoop c :: k)
  | _, _ => []
def bodyOf (fn : Func) : Code := match fn.body with
  | some c => c
  | none => .skip
def loopT (fn : Func) (i : Nat) : List It := match nth (loops (bodyOf fn) []) i with
  | some l => l
  | none => []

theorem pcall {E : Env} {f : Nat} {as : List AV} {bs bs' : List Blk} {v : AV} {fn : Func} {c : Code} (hf : E.P.funcs[f]? = some fn) (hb : fn.body = some c)
    (h : ∀ oc oi ok, oc = callP E → oi = callI E → ok = run E f bs.length true →
      Wp (go (E.ctx f fn bs.length) fn oc oi ok true BIG [.code c] (look (List.range as.length) as) bs false) fun a => a = (v, bs', false)) :
    callP E f as bs = some (v, bs') := by
  obtain ⟨a, e, rfl⟩ := h _ _ _ rfl rfl rfl
  exact callP_intro hf hb (run_intro hf e)
theorem prun {E : Env} {f nr : Nat} {iso : Bool} {todo : List It} {ks : List Nat} {vs : List AV} {h : List Blk} {leak : Bool} {fn : Func} {Q : Ans → Prop} (hf : E.P.funcs[f]? = some fn)
    (hr : ∀ oc oi ok, oc = callP E → oi = callI E → ok = run E f nr iso → Wp (go (E.ctx f fn nr) fn oc oi ok iso BIG (enterIt todo) (look ks vs) h leak) Q) :
    Wp (run E f nr iso todo ks vs h leak) Q := by
  obtain ⟨a, e, hp⟩ := hr _ _ _ rfl rfl rfl
  exact ⟨a, run_intro hf e, hp⟩
theorem wp_ok {E : Env} {f nr : Nat} {iso : Bool} {ok : List It → List Nat → List AV → List Blk → Bool → Option Ans} (e : ok = run E f nr iso)
    {todo : List It} {ks : List Nat} {vs : List AV} {h : List Blk} {leak : Bool} {Q : Ans → Prop} (hr : Wp (run E f nr iso todo ks vs h leak) Q) : Wp (ok todo ks vs h leak) Q := by
  rw [e]; exact hr
theorem wp_oc {E : Env} {oc : Nat → List AV → List Blk → Option (AV × List Blk)} (e : oc = callP E) {β : Type} {f : Nat} {as : List AV} {bs : List Blk} {r : AV × List Blk}
    {K : AV × List Blk → Option β} {Q : β → Prop} (hr : callP E f as bs = some r) (h : Wp (K r) Q) : Wp ((oc f as bs).bind K) Q := by
  rw [e, hr]; exact h
end Go.Proofs.Ytiibidadpgknjaa.Fi
