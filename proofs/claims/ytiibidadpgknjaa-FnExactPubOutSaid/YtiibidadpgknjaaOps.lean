/- What one operation that calls nothing does in the machine. -/
import Derived.Test.YtiibidadpgknjaaOpL
namespace Go.Proofs.Ytiibidadpgknjaa.Fi
open Go

section
variable {P : Program} {X : Ctx} {ρ : R}

theorem hand_some {v : AV} {h : List Blk} {l : Bool} {v' : AV} {h' : List Blk} {l' : Bool} (e : hand v h l = some (v', h', l')) : v = v' ∧ h = h' := by
  injection e with e
  injection e with e1 e2
  injection e2 with e2 e3
  exact ⟨e1, e2⟩
theorem does_as {s s' : Sem Next} {v : AV} {h' : List Blk} (e : s = s') (h : Does P ρ s' v h') : Does P ρ s v h' := e ▸ h

theorem anyBad_mem : ∀ {l : List AV}, anyBad l = false → ∀ v ∈ l, badCap v = false
  | [], _, _, h => by cases h
  | c :: cs, h, d, hd => by
    simp only [anyBad, Bool.or_eq_false_iff] at h
    rcases List.mem_cons.1 hd with rfl | hd
    · exact h.1
    · exact anyBad_mem h.2 d hd
theorem cap_rel {v : AV} {u : Value} (hb : badCap v = false) (h : ValR ρ v u) : Cell0 ρ v u := by
  cases v <;> first | exact h | (cases hb; done)
/-- What a function value holds. -/
theorem caps_rel {t : Nat → AV} {e : Operand → Value} (he : ∀ x, ValR ρ (ev t x) (e x)) : ∀ {l : List Operand}, anyBad (l.map (ev t)) = false → Cells0 ρ (l.map (ev t)) (l.map e)
  | [], _ => rfl
  | x :: l, h => by
    simp only [List.map_cons, anyBad, Bool.or_eq_false_iff] at h
    exact ⟨e x, l.map e, rfl, cap_rel h.1 (he x), caps_rel he h.2⟩
theorem opt_rel {t : Nat → AV} {e : Operand → Value} (he : ∀ x, ValR ρ (ev t x) (e x)) (lo : Option Operand) : lo.map (ev t) = none ∧ lo.map e = none ∨ ∃ a v, lo.map (ev t) = some a ∧ lo.map e = some v ∧ ValR ρ a v := by
  cases lo with
  | none => exact .inl ⟨rfl, rfl⟩
  | some x => exact .inr ⟨_, _, rfl, rfl, he x⟩

theorem op1_does (hT : TabOk P X) (hE : EqOk P X) (ho : Ok ρ) {t : Nat → AV} {e : Operand → Value} (he : ∀ x, ValR ρ (ev t x) (e x)) {o : Oper} {mk : Bool} {ty : Nat} {l l' : Bool} {v : AV} {h' : List Blk}
    (h : op1 X t ρ.h l hand mk ty o.op = some (v, h', l')) : Does P ρ (execOp e o) v h' := by
  unfold op1 at h
  split at h
  · rename_i x hop
    obtain ⟨rfl, rfl⟩ := hand_some h
    exact does_pure ho (by simp only [execOp, hop]; rfl) (he x)
  · rename_i x hop
    have hrun : ∀ w, (execOp e o).run P w = .ok (.value (e x)) w := fun w => by simp only [execOp, hop]; rfl
    cases mk with
    | false =>
      obtain ⟨rfl, rfl⟩ := hand_some h
      exact does_pure ho (hrun _) (he x)
    | true =>
      simp only [cond_true] at h
      split at h
      · rename_i esz eb ety hx hk
        obtain ⟨rfl, rfl⟩ := hand_some h
        obtain ⟨_, _, _, _, _, i4, _⟩ := und_slice hT hk
        have hr := he x
        rw [hx] at hr
        obtain ⟨a, ha⟩ := (show Cell0 ρ .nilS (e x) from hr)
        refine ⟨_, _, _, _, _, hrun _, .inl rfl, nx_empty ho (b := ⟨esz, ety, [], false, false, false, 0⟩) rfl i4 rfl, ?_⟩
        rw [ha]
        refine ⟨rfl, ⟨esz, ety, [], false, false, false, 0⟩, by show (ρ.h ++ [_])[ρ.h.length]? = _; simp, Nat.le_refl _, rfl, fun _ => ⟨a, 0, rfl, Nat.le_refl _, Nat.zero_le _, fun _ => rfl, fun h => absurd rfl h⟩⟩
      · obtain ⟨rfl, rfl⟩ := hand_some h
        exact does_pure ho (hrun _) (he x)
  · rename_i T hop
    rw [forceV_eq] at h
    obtain ⟨h1, h2⟩ := cond_some h
    obtain ⟨rfl, rfl⟩ := hand_some h2
    refine does_as ?_ (alloc_does hT ho (Nat.le_of_ble_eq_true h1))
    simp only [execOp, hop]; rfl
  · rename_i T x hop
    rw [forceV_eq] at h
    obtain ⟨h1, h2⟩ := cond_some h
    simp only [Bool.and_eq_true, Bool.not_eq_true'] at h1
    obtain ⟨rfl, rfl⟩ := hand_some h2
    refine does_as ?_ (box_does ho (he x) (Nat.le_of_ble_eq_true h1.2) (Nat.eq_of_beq_eq_true h1.1.1) h1.1.2)
    simp only [execOp, hop]; rfl
  · rename_i T ps hop
    split at h
    · rename_i fs hk
      obtain ⟨h1, h2⟩ := cond_some h
      obtain ⟨cs, h3, h4⟩ := bind_some h2
      obtain ⟨rfl, rfl⟩ := hand_some h4
      refine does_as ?_ (build_does hT ho hk (Nat.le_of_ble_eq_true h1) (m := ps.map fun p => (p.1, e p.2)) (by simpa using parts_rel he ps.toList) h3)
      simp only [execOp, hop]; rfl
    · cases h
  · rename_i T len ps hop
    split at h
    · rename_i esz eb ety hk
      obtain ⟨l0, h1, h2⟩ := bind_some h
      rw [forces_eq] at h2
      obtain ⟨h3, h4⟩ := cond_some h2
      refine does_as ?_ (buildSlice_does hT ho hk (m := ps.map fun p => (p.1, e p.2)) (by simpa using parts_rel he ps.toList) h1 h3 (mk := mk) (lk := l) (lk' := l') h4)
      simp only [execOp, hop]; rfl
    · cases h
  · rename_i T a hop
    refine does_as ?_ (load_does hT ho (he a) h)
    simp only [execOp, hop]; rfl
  · rename_i T a x hop
    refine does_as ?_ (store_does hT ho (he a) (he x) h)
    simp only [execOp, hop]
  · rename_i x hop
    split at h
    · rename_i n ver idx off hx
      obtain ⟨b, h1, h2⟩ := bind_some h
      obtain ⟨rfl, rfl⟩ := hand_some h2
      obtain ⟨hb, hv⟩ := blkAt_some h1
      have hr := he x
      rw [hx] at hr
      obtain ⟨h1c, b', hb', _, hp⟩ := (show Cell0 ρ (.ptr n ver idx off) (e x) from hr)
      rw [hb] at hb'
      injection hb' with hb'
      subst hb'
      obtain ⟨_, hu⟩ := hp hv.symm
      refine does_pure ho (vv := e x) ?_ hr
      simp only [execOp, hop, hu]
      rfl
    · rename_i cs off hx
      obtain ⟨rfl, rfl⟩ := hand_some h
      have hr := he x
      rw [hx] at hr
      obtain ⟨b, o', us, hu, _⟩ := (show Cell0 ρ (.rptr cs off) (e x) from hr)
      refine does_pure ho (vv := e x) ?_ hr
      simp only [execOp, hop, hu]
      rfl
    · cases h
  · rename_i op T x y yT hop
    obtain ⟨v', h1, h2⟩ := bind_some h
    obtain ⟨rfl, rfl⟩ := hand_some h2
    obtain ⟨vv, r1, r2⟩ := bin_does (P := P) hT hE (xo := x) (yo := y) (he x) (he y) h1
    refine does_as ?_ (does_nv ho r1 r2)
    simp only [execOp, hop]; rfl
  · rename_i op T x hop
    obtain ⟨v', h1, h2⟩ := bind_some h
    obtain ⟨rfl, rfl⟩ := hand_some h2
    obtain ⟨vv, r1, r2⟩ := un_does (P := P) (he x) h1
    refine does_as ?_ (does_nv ho r1 r2)
    simp only [execOp, hop]; rfl
  · rename_i S T x hop
    obtain ⟨v', h1, h2⟩ := bind_some h
    obtain ⟨rfl, rfl⟩ := hand_some h2
    refine does_as ?_ (conv_does hT ho (he x) h1)
    simp only [execOp, hop]; rfl
  · rename_i f first cap hop
    split at h
    · rename_i hfst
      rw [forces_eq] at h
      cases hb : anyBad (cap.toList.map (ev t)) with
      | true => rw [hb] at h; cases h
      | false =>
        rw [hb] at h
        obtain ⟨rfl, rfl⟩ := hand_some h
        have hf0 : first = #[] := by cases first; simp at hfst; subst hfst; rfl
        refine does_pure ho (vv := .func (.func f) #[] (cap.map e)) ?_ ⟨cap.map e, rfl, by simpa using caps_rel he hb⟩
        simp [execOp, hop, hf0, Instr.makeFunc]
    · cases h
  · rename_i T lo cp hop
    split at h
    · rename_i esz eb ety hk
      obtain ⟨n, h1, h2⟩ := bind_some h
      obtain ⟨m, h3, h4⟩ := bind_some h2
      obtain ⟨h5, h6⟩ := cond_some h4
      obtain ⟨rfl, rfl⟩ := hand_some h6
      have hl := he lo
      have hc := he cp
      rw [asI_some h1] at hl
      rw [asI_some h3] at hc
      refine does_as ?_ (makeSlice_does hT ho hk hl hc h5)
      simp only [execOp, hop]; rfl
    · cases h
  · rename_i T x lo hi hop
    obtain ⟨v', h1, h2⟩ := bind_some h
    obtain ⟨rfl, rfl⟩ := hand_some h2
    obtain ⟨vv, r1, r2⟩ := slice_does (P := P) hT ho (he x) (opt_rel he lo) (opt_rel he hi) h1
    refine does_as ?_ (does_nv ho r1 r2)
    simp only [execOp, hop]; rfl
  · rename_i T x lo hi m hop
    obtain ⟨h1, h2⟩ := cond_some h
    obtain ⟨rfl, rfl⟩ := hand_some h2
    obtain ⟨vv, r1⟩ := slice3_does (P := P) hT (he x) (he m) (opt_rel he lo) (opt_rel he hi) h1
    refine does_as ?_ (does_nv (v := .undef) ho r1 trivial)
    simp only [execOp, hop]; rfl
  · rename_i T x f hop
    have hex : execOp e o = nv (Instr.fieldAt T (e x) f) := by simp only [execOp, hop]; rfl
    obtain ⟨p, h1, h2⟩ := bind_some h
    split at h2
    · rename_i n ver idx off hx
      obtain ⟨b, h3, h4⟩ := bind_some h2
      obtain ⟨rfl, rfl⟩ := hand_some h4
      obtain ⟨hb, hv⟩ := blkAt_some h3
      have hr := he x
      rw [hx] at hr
      obtain ⟨h1c, b', hb', hv', hp⟩ := (show Cell0 ρ (.ptr n ver idx off) (e x) from hr)
      rw [hb] at hb'
      injection hb' with hb'
      subst hb'
      obtain ⟨hi, hu⟩ := hp hv.symm
      rw [hex, hu]
      refine does_nv ho (fieldAddr_does hT h1 ρ.w) ⟨rfl, b, hb, hv', fun _ => ⟨hi, by rw [Nat.add_assoc]⟩⟩
    · rename_i cs off hx
      obtain ⟨rfl, rfl⟩ := hand_some h2
      have hr := he x
      rw [hx] at hr
      obtain ⟨b, o', us, hu, q1, q2, q3, q4, q5⟩ := (show Cell0 ρ (.rptr cs off) (e x) from hr)
      rw [hex, hu]
      exact does_nv ho (fieldAddr_does hT h1 ρ.w) ⟨b, o', us, by rw [Nat.add_assoc], q1, q2, q3, q4, q5⟩
    · cases h2
  · rename_i T x f hop
    have hex : execOp e o = nv (Instr.field T (e x) f) := by simp only [execOp, hop]; rfl
    obtain ⟨p, h1, h2⟩ := bind_some h
    split at h2
    · rename_i cs hx
      obtain ⟨h3, h4⟩ := cond_some h2
      obtain ⟨rfl, rfl⟩ := hand_some h4
      obtain ⟨vv, r1, r2⟩ := field_does (P := P) hT (he x) h1 hx (Nat.le_of_ble_eq_true h3) rfl
      rw [hex]
      exact does_nv ho r1 r2
    · cases h2
  · rename_i T x i hop
    have hex : execOp e o = nv (Instr.indexAt T (e x) (e i)) := by simp only [execOp, hop]; rfl
    split at h
    · rename_i esz eb ety hk
      obtain ⟨n, h1, h2⟩ := bind_some h
      have hi := he i
      rw [asI_some h1] at hi
      rw [hex]
      exact indexAddr_does hT ho hk hi (he x) h2
    · cases h
  · rename_i T x i hop
    have hex : execOp e o = nv (Instr.index T (e x) (e i)) := by simp only [execOp, hop]; rfl
    split at h
    · rename_i s hx
      cases hk : isStr (tk X T) with
      | false => rw [hk] at h; cases h
      | true =>
        rw [hk] at h
        obtain ⟨n, h1, h2⟩ := bind_some h
        obtain ⟨h3, h4⟩ := cond_some h2
        obtain ⟨c, h5, h6⟩ := bind_some h4
        obtain ⟨rfl, rfl⟩ := hand_some h6
        have hi := he i
        rw [asI_some h1] at hi
        have hr := he x
        rw [hx] at hr
        rw [hex, (vr_str.1 hr).1, (vr_int.1 hi).1]
        exact does_nv ho (index_does hT (isStr_eq hk) h3 h5 ρ.w) (byteV_rel c)
    · cases h
  · rename_i x i hop
    have hex : execOp e o = nv (Instr.extract (e x) i) := by simp only [execOp, hop]; rfl
    obtain ⟨vs, h1, h2⟩ := bind_some h
    obtain ⟨v', h3, h4⟩ := bind_some h2
    obtain ⟨rfl, rfl⟩ := hand_some h4
    have hr := he x
    rw [asTup_some h1] at hr
    obtain ⟨us, hu, hv⟩ := hr
    obtain ⟨u, u1, u2⟩ := vals1_at hv (nth_some h3)
    rw [hex, hu]
    refine does_nv ho (vv := u) ?_ ?_
    · have : us[i]? = some u := by simpa using u1
      simp [Instr.extract, this]
    · cases v' with
      | tup l => exact (show CellR ρ (.tup l) u from u2).elim
      | _ => exact u2
  · rename_i c hop
    have hcall : ∀ b, c.callee = .builtin b → execOp e o = builtin b c.argTypes o.type (c.args.map fun | .const _ => true | _ => false) (c.args.map e) := by
      intro b hb
      simp only [execOp, hop, resolve, hb]
      rfl
    split at h
    · rename_i hb
      rw [hcall _ hb]
      split at h
      · rename_i x T hx hT'
        obtain ⟨n, h1, h2⟩ := bind_some h
        obtain ⟨rfl, rfl⟩ := hand_some h2
        have e1 : c.args = #[x] := by cases hc : c.args; rw [hc] at hx; simp at hx; subst hx; rfl
        have e2 : c.argTypes = #[T] := by cases hc : c.argTypes; rw [hc] at hT'; simp at hT'; subst hT'; rfl
        obtain ⟨vv, r1, r2⟩ := len_does (P := P) (ty := o.type) hT (he x) h1
        have em : (#[x] : Array Operand).map e = #[e x] := by simp
        rw [e1, e2, em]
        exact does_nv ho r1 r2
      · cases h
    · rename_i hb
      rw [hcall _ hb]
      split at h
      · rename_i a x T U hx hT'
        obtain ⟨h1, h2⟩ := cond_some h
        have e1 : c.args = #[a, x] := by cases hc : c.args; rw [hc] at hx; simp at hx; subst hx; rfl
        have e2 : c.argTypes = #[T, U] := by cases hc : c.argTypes; rw [hc] at hT'; simp at hT'; subst hT'; rfl
        have em : (#[a, x] : Array Operand).map e = #[e a, e x] := by simp
        rw [e1, e2, em]
        exact append_does (ty := o.type) hT ho (he a) (he x) h1 h2
      · cases h
    · rename_i hb
      rw [hcall _ hb]
      split at h
      · rename_i x T hx hT'
        split at h
        · rename_i esz eb ety hk
          have e1 : c.args = #[x] := by cases hc : c.args; rw [hc] at hx; simp at hx; subst hx; rfl
          have e2 : c.argTypes = #[T] := by cases hc : c.argTypes; rw [hc] at hT'; simp at hT'; subst hT'; rfl
          have em : (#[x] : Array Operand).map e = #[e x] := by simp
          rw [e1, e2, em]
          exact clear_does (ty := o.type) hT ho hk (he x) h
        · cases h
      · cases h
    · rename_i hb
      rw [hcall _ hb]
      split at h
      · rename_i a b hx
        obtain ⟨x, h1, h2⟩ := bind_some h
        obtain ⟨y, h3, h4⟩ := bind_some h2
        obtain ⟨h5, h6⟩ := cond_some h4
        obtain ⟨rfl, rfl⟩ := hand_some h6
        have hk := of_decide_eq_true h5
        have e1 : c.args = #[a, b] := by cases hc : c.args; rw [hc] at hx; simp at hx; subst hx; rfl
        have ha := he a
        have hb' := he b
        rw [asI_some h1] at ha
        rw [asI_some h3] at hb'
        obtain ⟨a1, a2⟩ := vr_int.1 ha
        obtain ⟨b1, b2⟩ := vr_int.1 hb'
        rw [← hk] at b2
        have em : (#[a, b] : Array Operand).map e = #[e a, e b] := by simp
        rw [e1, em]
        refine does_nv (s := Builtin.max_ c.argTypes o.type #[e a, e b]) ho (vv := .int x.1 (if y.2 > x.2 then y.2 else x.2)) ?_ (vr_int.2 ⟨rfl, by split <;> assumption⟩)
        rw [a1, b1]
        simp [Builtin.max_, Builtin.max2]
      · cases h
    · rename_i hb
      rw [hcall _ hb]
      split at h
      · rename_i a b hx
        obtain ⟨x, h1, h2⟩ := bind_some h
        obtain ⟨y, h3, h4⟩ := bind_some h2
        obtain ⟨h5, h6⟩ := cond_some h4
        obtain ⟨rfl, rfl⟩ := hand_some h6
        have hk := of_decide_eq_true h5
        have e1 : c.args = #[a, b] := by cases hc : c.args; rw [hc] at hx; simp at hx; subst hx; rfl
        have ha := he a
        have hb' := he b
        rw [asI_some h1] at ha
        rw [asI_some h3] at hb'
        obtain ⟨a1, a2⟩ := vr_int.1 ha
        obtain ⟨b1, b2⟩ := vr_int.1 hb'
        rw [← hk] at b2
        have em : (#[a, b] : Array Operand).map e = #[e a, e b] := by simp
        rw [e1, em]
        refine does_nv (s := Builtin.min_ c.argTypes o.type #[e a, e b]) ho (vv := .int x.1 (if y.2 < x.2 then y.2 else x.2)) ?_ (vr_int.2 ⟨rfl, by split <;> assumption⟩)
        rw [a1, b1]
        simp [Builtin.min_, Builtin.min2]
      · cases h
    · cases h
  · cases h
end
end Go.Proofs.Ytiibidadpgknjaa.Fi
