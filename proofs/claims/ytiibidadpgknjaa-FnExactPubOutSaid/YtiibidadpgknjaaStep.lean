/- One operation of a region: parted from what follows, and in the machine. -/
import Derived.Test.YtiibidadpgknjaaCallF
import Derived.Orders
namespace Go.Proofs.Ytiibidadpgknjaa.Fi
open Go

section
variable {P : Program} {X : Ctx} {ρ : R}

/-! ### Parted -/

theorem callF_sp {β : Type} {oc : Nat → List AV → List Blk → Option (AV × List Blk)} {oi : Nat → List AV → List Blk → Option Ans} {h : List Blk} {leak : Bool} {Ts : List Nat} {f : Nat} {as : List AV} {K : AV → List Blk → Bool → Option β} {r : β}
    (e : callF X oc oi h leak Ts f as K = some r) : Sp (callF X oc oi h leak Ts f as hand) K r := by
  simp only [callF_def, callF0] at e ⊢
  cases hm : X.mode f with
  | none =>
    simp only [hm] at e ⊢
    exact cond_sp e (fun e => cond_sp e (fun e => bind_sp e fun pr e => bind_sp e fun a e => cond_sp e (fun e => sp_hand e) (fun e => by cases e)) (fun e => bind_sp e fun a e => sp_hand e)) (fun e => bind_sp e fun a e => sp_hand e)
  | some ms =>
    simp only [hm] at e ⊢
    refine bind_sp e fun pr e => ?_
    obtain ⟨as', raws, fixs⟩ := pr
    refine cond_sp e (fun e => ?_) (fun e => by cases e)
    refine bind_sp e fun bs e => bind_sp e fun a e => ?_
    obtain ⟨v, bs'⟩ := a
    exact bind_sp e fun h' e => bind_sp e fun v e => sp_hand e
theorem callE_sp {β : Type} {oc : Nat → List AV → List Blk → Option (AV × List Blk)} {oi : Nat → List AV → List Blk → Option Ans} {t : Nat → AV} {h : List Blk} {leak : Bool} {c : Call} {K : AV → List Blk → Bool → Option β} {r : β}
    (e : callE X oc oi t h leak c K = some r) : Sp (callE X oc oi t h leak c hand) K r := by
  unfold callE at e ⊢
  split at e
  · rename_i f hf
    split at e
    · exact callF_sp e
    · split at e
      · exact callF_sp e
      · cases e
    · cases e
  · cases e

/-- What an operation answers. -/
def opE (X : Ctx) (oc : Nat → List AV → List Blk → Option (AV × List Blk)) (oi : Nat → List AV → List Blk → Option Ans) (t : Nat → AV) (h : List Blk) (l : Bool) (o : Oper) : Option Hand :=
  match callOf o.op with
  | some c => callE X oc oi t h l c hand
  | none => match o.op with
    | .pick c a b => (asB (ev t c)).bind fun x => cond x (hand (ev t a) h l) (hand (ev t b) h l)
    | op => op1 X t h l hand (mkOf X o) o.type op
def Eff (X : Ctx) (oc : Nat → List AV → List Blk → Option (AV × List Blk)) (oi : Nat → List AV → List Blk → Option Ans) (all : List Oper) (o : Oper) (t : Nat → AV) (h : List Blk) (l : Bool) (v : AV) (h' : List Blk) (l' : Bool) : Prop :=
  (wantedF all o t = some false ∧ v = .tup [] ∧ h' = h ∧ l' = l) ∨ (wantedF all o t = some true ∧ opE X oc oi t h l o = some (v, h', l'))
def putO (dst : Option Nat) (v : AV) (t : Nat → AV) : Nat → AV := match dst with
  | some d => put t d v
  | none => t

theorem setB_eq {t : Nat → AV} {c : Operand} {b : Bool} (h : asB (ev t c) = some b) : setB t c b = t := by
  cases c with
  | tmp i =>
    have := asB_some h
    funext j
    show (bif Nat.beq i j then AV.bool b else t j) = t j
    cases hij : Nat.beq i j with
    | false => rfl
    | true => rw [← Nat.eq_of_beq_eq_true hij]; exact this.symm
  | _ => rfl
theorem put_same {t : Nat → AV} {d : Nat} {v : AV} (h : t d = v) : put t d v = t := by
  funext j
  show (bif Nat.beq d j then v else t j) = t j
  cases hij : Nat.beq d j with
  | false => rfl
  | true => rw [← Nat.eq_of_beq_eq_true hij]; exact h.symm
theorem putDst_some {β : Type} {nt : Nat} {dst : Option Nat} {v : AV} {t : Nat → AV} {K : (Nat → AV) → Option β} {r : β} (e : putDst nt dst v t K = some r) : (∀ d, dst = some d → d < nt) ∧ K (putO dst v t) = some r := by
  unfold putDst at e
  cases dst with
  | none => exact ⟨(fun d h => by cases h), e⟩
  | some d =>
    simp only [forceV_eq] at e
    obtain ⟨h1, h2⟩ := cond_some e
    refine ⟨fun d' h => ?_, h2⟩
    injection h with h
    subst h
    exact Nat.blt_eq ▸ h1

section
variable {fn : Func} {oc : Nat → List AV → List Blk → Option (AV × List Blk)} {oi : Nat → List AV → List Blk → Option Ans}
  {ok : List It → List Nat → List AV → List Blk → Bool → Option Ans}

theorem ops_part {iso : Bool} {n : Nat} {draw : Bool} {all : List Oper} {bef : List (List Nat)} {i : Nat} {o : Oper} {r : List Oper} {log : List Foot} {k : List It} {t : Nat → AV} {h : List Blk} {l : Bool} {res : Ans}
    (e : go X fn oc oi ok iso (n + 1) (.ops draw all bef i (o :: r) log :: k) t h l = some res) :
    ∃ log' v h' l', (draw = true → logE X all bef i o t log = some log') ∧ Eff X oc oi all o t h l v h' l' ∧ (∀ d, o.dst = some d → d < X.nt) ∧
      go X fn oc oi ok iso n (.ops draw all bef (i + 1) r log' :: k) (putO o.dst v t) h' l' = some res := by
  simp only [go] at e
  obtain ⟨log', hlog, e⟩ := bind_some e
  have hskip : ∀ (t : Nat → AV), (putDst X.nt o.dst (.tup []) t fun t => go X fn oc oi ok iso n (.ops draw all bef (i + 1) r log' :: k) t h l) = some res →
      (∀ d, o.dst = some d → d < X.nt) ∧ go X fn oc oi ok iso n (.ops draw all bef (i + 1) r log' :: k) (putO o.dst (.tup []) t) h l = some res := fun t e => putDst_some e
  have hdo : ∀ (t : Nat → AV), (match callOf o.op with
      | some c => callE X oc oi t h l c fun v h l => putDst X.nt o.dst v t fun t => go X fn oc oi ok iso n (.ops draw all bef (i + 1) r log' :: k) t h l
      | none => match o.op with
        | .pick c a b => (asB (ev t c)).bind fun x =>
            cond x (putDst X.nt o.dst (ev t a) (setB t c true) fun t => go X fn oc oi ok iso n (.ops draw all bef (i + 1) r log' :: k) t h l)
              (putDst X.nt o.dst (ev t b) (setB t c false) fun t => go X fn oc oi ok iso n (.ops draw all bef (i + 1) r log' :: k) t h l)
        | op => op1 X t h l (fun v h l => putDst X.nt o.dst v t fun t => go X fn oc oi ok iso n (.ops draw all bef (i + 1) r log' :: k) t h l) (mkOf X o) o.type op) = some res →
      ∃ v h' l', opE X oc oi t h l o = some (v, h', l') ∧ (∀ d, o.dst = some d → d < X.nt) ∧ go X fn oc oi ok iso n (.ops draw all bef (i + 1) r log' :: k) (putO o.dst v t) h' l' = some res := by
    intro t e
    unfold opE
    cases hco : callOf o.op with
    | some c =>
      simp only [hco] at e ⊢
      obtain ⟨⟨v, h', l'⟩, h1, h2⟩ := callE_sp e
      obtain ⟨h3, h4⟩ := putDst_some h2
      exact ⟨v, h', l', h1, h3, h4⟩
    | none =>
      simp only [hco] at e ⊢
      split at e
      · rename_i c a b hop
        obtain ⟨x, h1, h2⟩ := bind_some e
        cases x with
        | true =>
          rw [setB_eq h1, cond_true] at h2
          obtain ⟨h3, h4⟩ := putDst_some h2
          exact ⟨_, _, _, by rw [h1]; rfl, h3, h4⟩
        | false =>
          rw [setB_eq h1, cond_false] at h2
          obtain ⟨h3, h4⟩ := putDst_some h2
          exact ⟨_, _, _, by rw [h1]; rfl, h3, h4⟩
      · obtain ⟨⟨v, h', l'⟩, h1, h2⟩ := op1_sp e
        obtain ⟨h3, h4⟩ := putDst_some h2
        exact ⟨v, h', l', h1, h3, h4⟩
  have hl : draw = true → logE X all bef i o t log = some log' := by
    intro hd
    rw [hd] at hlog
    exact hlog
  cases hg : o.guard with
  | none =>
    simp only [hg] at e
    obtain ⟨v, h', l', h1, h2, h3⟩ := hdo t e
    exact ⟨log', v, h', l', hl, .inr ⟨by unfold wantedF; rw [hg], h1⟩, h2, h3⟩
  | some p =>
    obtain ⟨g, want⟩ := p
    simp only [hg] at e
    obtain ⟨d, hd, e⟩ := bind_some e
    split at e
    · rename_i b htd
      have hw : wantedF all o t = some (bif want then b else !b) := by unfold wantedF; rw [hg]; simp only [hd, Option.bind_some, htd]
      cases b with
      | true =>
        rw [cond_true, put_same htd] at e
        cases want with
        | true =>
          obtain ⟨v, h', l', h1, h2, h3⟩ := hdo t e
          exact ⟨log', v, h', l', hl, .inr ⟨hw, h1⟩, h2, h3⟩
        | false =>
          obtain ⟨h1, h2⟩ := hskip t e
          exact ⟨log', _, _, _, hl, .inl ⟨hw, rfl, rfl, rfl⟩, h1, h2⟩
      | false =>
        rw [cond_false, put_same htd] at e
        cases want with
        | true =>
          obtain ⟨h1, h2⟩ := hskip t e
          exact ⟨log', _, _, _, hl, .inl ⟨hw, rfl, rfl, rfl⟩, h1, h2⟩
        | false =>
          obtain ⟨v, h', l', h1, h2, h3⟩ := hdo t e
          exact ⟨log', v, h', l', hl, .inr ⟨hw, h1⟩, h2, h3⟩
    · rename_i x htd
      have hw : wantedF all o t = some false := by unfold wantedF; rw [hg]; simp only [hd, Option.bind_some, htd]
      obtain ⟨h1, h2⟩ := hskip t e
      exact ⟨log', _, _, _, hl, .inl ⟨hw, rfl, rfl, rfl⟩, h1, h2⟩
    · cases e
end

/-! ### In the machine -/

theorem vals_append : ∀ {as bs : List AV} {us vs : List Value}, ValsR ρ as us → ValsR ρ bs vs → ValsR ρ (as ++ bs) (us ++ vs)
  | [], _, us, _, h, h' => by obtain rfl : us = [] := h; exact h'
  | _ :: _, _, _, _, ⟨u, r, e, h1, h2⟩, h' => ⟨u, r ++ _, by rw [e]; rfl, h1, vals_append h2 h'⟩
theorem cells_vals : ∀ {cs : List AV} {us : List Value}, Cells0 ρ cs us → ValsR ρ cs us
  | [], _, h => h
  | c :: cs, _, ⟨u, r, e, h1, h2⟩ => by
    refine ⟨u, r, e, cell_val ?_, cells_vals h2⟩
    cases c <;> first | exact h1 | exact h1.elim

theorem wanted_eq {all : List Oper} {o : Oper} {t : Nat → AV} {tmps : Array Value} (hs : SlR ρ t tmps) {w : Bool} (h : wantedF all o t = some w) : Region.wanted o (yielded all.toArray tmps) = w := by
  unfold wantedF at h
  unfold Region.wanted
  cases hg : o.guard with
  | none => rw [hg] at h; injection h with h
  | some p =>
    obtain ⟨g, want⟩ := p
    rw [hg] at h
    obtain ⟨d, hd, h⟩ := bind_some h
    rw [nth_eq] at hd
    have hd' : (all.toArray[g]?).bind (·.dst) = some d := by rw [List.getElem?_toArray]; exact hd
    have hr := hs d
    unfold yielded
    simp only [hd', Option.bind_some]
    rw [Array.getD_eq_getD_getElem?] at hr
    split at h
    · rename_i b htd
      injection h with h
      rw [htd] at hr
      have hr' := vr_bool.1 hr
      cases hx : tmps[d]? with
      | none => rw [hx] at hr'; simp [undef] at hr'
      | some x =>
        rw [hx, Option.getD_some] at hr'
        subst hr' h
        cases b <;> cases want <;> rfl
    · rename_i x htd
      injection h with h
      rw [htd] at hr
      obtain ⟨us, hu, _⟩ := hr
      cases hx : tmps[d]? with
      | none => subst h; rfl
      | some x =>
        rw [hx, Option.getD_some] at hu
        subst hu h
        rfl
    · cases h

def NameOk (P : Program) : Prop := ∀ (f : Nat) (fn : Func), P.funcs[f]? = some fn → fn.name ≠ "runtime.NumGoroutine"
/-- A function that is called has a body. -/
theorem run_callFunc {f : Nat} {args : Array Value} {fn : Func} {c : Code} {w : World} (hn : NameOk P) (hf : P.funcs[f]? = some fn) (hb : fn.body = some c) : (callFunc f args).run P w = .ok (.enter f args) w := by
  unfold callFunc
  simp [hf, hn f fn hf, hb]

def HasBody (P : Program) (f : Nat) : Prop := ∃ fn c, P.funcs[f]? = some fn ∧ fn.body = some c
section
variable {oc : Nat → List AV → List Blk → Option (AV × List Blk)} {oi : Nat → List AV → List Blk → Option Ans}
theorem callF_body (hb1 : ∀ f as bs r, oc f as bs = some r → HasBody P f) (hb2 : ∀ f as h r, oi f as h = some r → HasBody P f) {β : Type} {h : List Blk} {leak : Bool} {Ts : List Nat} {f : Nat} {as : List AV} {K : AV → List Blk → Bool → Option β} {r : β}
    (e : callF X oc oi h leak Ts f as K = some r) : HasBody P f := by
  simp only [callF_def, callF0] at e
  cases hm : X.mode f with
  | none =>
    simp only [hm] at e
    cases har : anyRef as with
    | true =>
      rw [har] at e
      cases hmd : X.made f with
      | true => rw [hmd] at e; obtain ⟨pr, _, e⟩ := bind_some e; obtain ⟨a, h1, _⟩ := bind_some e; exact hb2 _ _ _ _ h1
      | false => rw [hmd] at e; obtain ⟨a, h1, _⟩ := bind_some e; exact hb2 _ _ _ _ h1
    | false => rw [har] at e; obtain ⟨a, h1, _⟩ := bind_some e; exact hb2 _ _ _ _ h1
  | some ms =>
    simp only [hm] at e
    obtain ⟨⟨as', raws, fixs⟩, h1, h2⟩ := bind_some e
    obtain ⟨_, h2⟩ := cond_some h2
    obtain ⟨bs, h3, h4⟩ := bind_some h2
    obtain ⟨a, h5, _⟩ := bind_some h4
    exact hb1 _ _ _ _ h5

theorem eff_wp (hT : TabOk P X) (hE : EqOk P X) (hn : NameOk P) (hoc : ∀ f as bs v bs', oc f as bs = some (v, bs') → Iso P f as bs v bs') (hoi : ∀ f as h v h' l, oi f as h = some (v, h', l) → Inl P f as h v h' l)
    (hb1 : ∀ f as bs r, oc f as bs = some r → HasBody P f) (hb2 : ∀ f as h r, oi f as h = some r → HasBody P f)
    {all : List Oper} {o : Oper} {t : Nat → AV} {h h' : List Blk} {l l' : Bool} {v : AV} (he : Eff X oc oi all o t h l v h' l') (hh : ρ.h = h) (ho : Ok ρ) {a : Act} (hs : SlR ρ t a.tmps) {i : Nat} (hi : all[i]? = some o)
    {Q : Exit → Act → World → Prop} {K : Act → World → Prop} (hK : ∀ w' φ' Z' vv, Nx ρ ⟨w', φ', Z', h'⟩ → ValR ⟨w', φ', Z', h'⟩ v vv → (l' = false → l = false ∧ LkN X.nr h h') → K (a.put o.dst vv) w') :
    wpOp P all.toArray Q i K a ρ.w := by
  subst hh
  unfold wpOp
  rw [List.getElem?_toArray, hi]
  rcases he with ⟨hw, rfl, rfl, rfl⟩ | ⟨hw, he⟩
  · simp only [wanted_eq hs hw, Bool.false_eq_true, if_false]
    exact hK _ _ _ _ (Nx.refl ho) ⟨#[], rfl, rfl⟩ fun hl => ⟨hl, LkN.refl _ _⟩
  · simp only [wanted_eq hs hw, if_true]
    refine .inl ?_
    unfold Oper.wp
    unfold opE at he
    have one : ∀ (_ : Does P ρ (execOp a.eval o) v h') (_ : l' = false → l = false ∧ LkN X.nr ρ.h h'), o.upon P a K Q ((execOp a.eval o).run P ρ.w) := by
      rintro ⟨w', φ', Z', nx, vv, h1, h2, h3, h4⟩ hl
      rw [h1]
      rcases h2 with rfl | ⟨rfl, rfl⟩
      · exact hK _ _ _ _ h3 h4 hl
      · exact hK _ _ _ _ h3 h4 hl
    cases hco : callOf o.op with
    | some c =>
      simp only [hco] at he
      obtain ⟨f, hop, hcal⟩ : ∃ f, o.op = .call c ∧ c.callee = .value f := by
        unfold callOf at hco
        split at hco
        · rename_i c' hop
          split at hco
          · rename_i f hf
            injection hco with hco
            subst hco
            exact ⟨f, hop, hf⟩
          · cases hco
        · cases hco
      have hexec : execOp a.eval o = (do let d ← Deferred.ofValue (a.eval f) (c.args.map a.eval); invoke d.target d.args) := by
        simp only [execOp, hop, resolve, hcal]
      have fin : ∀ {g : Nat} {as : List AV} {vals : Array Value} {cu : Array Value}, a.eval f = .func (.func g) #[] cu → vals = c.args.map a.eval ++ cu → callF X oc oi ρ.h l c.argTypes.toList g as hand = some (v, h', l') → ValsR ρ as vals.toList →
          o.upon P a K Q ((execOp a.eval o).run P ρ.w) := by
        intro g as vals cu hf hvals hc hv
        obtain ⟨v2, h2, l2, h3, h4⟩ := callF_does hoc hoi hc
        injection h3 with h3
        injection h3 with e1 e2
        injection e2 with e2 e3
        subst e1 e2 e3
        obtain ⟨fn', c', hf', hb'⟩ := callF_body hb1 hb2 hc
        have hrun : (execOp a.eval o).run P ρ.w = .ok (.enter g vals) ρ.w := by
          rw [hexec, hf]
          have e2 := run_callFunc (args := c.args.map a.eval ++ cu) (w := ρ.w) hn hf' hb'
          have := run_callFunc (args := #[] ++ c.args.map a.eval ++ cu) (w := ρ.w) hn hf' hb'
          simp only [Deferred.ofValue, Sem.run_bind, Sem.run_pure, Result.andThen_ok, invoke]
          rw [this, hvals]
          simp
        rw [hrun, Oper.upon_enter]
        refine (h4 ρ vals rfl ho hv).mono ?_
        rintro e w' ⟨vv, φ', Z', rfl, q2, q3, q4⟩
        refine hK _ _ _ _ q2 q3 fun hl => ?_
        obtain ⟨k1, k2⟩ := q4 hl
        exact ⟨k1, fun n b b' _ hb hb' => k2 n b b' hb hb'⟩
      unfold callE at he
      rw [hcal] at he
      simp only at he
      have hfv := hs.ev f
      have hargs := hs.evs c.args.toList
      split at he
      · rename_i g hev
        rw [hev] at hfv
        obtain ⟨cu, hcu, hcells⟩ := hfv
        have hcu0 : cu = #[] := by
          have : cu.toList = [] := hcells
          exact Array.toList_inj.1 this
        subst hcu0
        refine fin (vals := c.args.map a.eval) hcu (by simp) he ?_
        rw [Array.toList_map]
        exact hargs
      · rename_i g cap hne hev
        split at he
        · rw [hev] at hfv
          obtain ⟨cu, hcu, hcells⟩ := hfv
          refine fin hcu rfl he ?_
          rw [Array.toList_append, Array.toList_map]
          exact vals_append hargs (cells_vals hcells)
        · cases he
      · cases he
    | none =>
      simp only [hco] at he
      split at he
      · rename_i c x y hop
        obtain ⟨b, h1, h2⟩ := bind_some he
        have hc := hs.ev c
        rw [asB_some h1] at hc
        have hc' := vr_bool.1 hc
        have hexec : (execOp a.eval o).run P ρ.w = .ok (.value (if b then a.eval x else a.eval y)) ρ.w := by
          simp only [execOp, hop, hc', asBool, Sem.run_bind, Sem.run_pure, Result.andThen_ok]
        cases b with
        | true =>
          rw [cond_true] at h2
          injection h2 with h2
          injection h2 with e1 e2
          injection e2 with e2 e3
          subst e1 e2 e3
          exact one (does_pure ho hexec (hs.ev x)) fun hl => ⟨hl, LkN.refl _ _⟩
        | false =>
          rw [cond_false] at h2
          injection h2 with h2
          injection h2 with e1 e2
          injection e2 with e2 e3
          subst e1 e2 e3
          exact one (does_pure ho hexec (hs.ev y)) fun hl => ⟨hl, LkN.refl _ _⟩
      · exact one (op1_does hT hE ho (fun x => hs.ev x) he) (op1_leak ho (fun x => hs.ev x) v h' l' he)
end
end
end Go.Proofs.Ytiibidadpgknjaa.Fi
