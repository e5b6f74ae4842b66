/- Every order of a region comes to the same. -/
import Derived.Test.YtimnggioioeehabGreatDoorAeCode1
namespace Go.AE
open Go.RowKit (Below)

variable {P : Program} {κ : Ctx} {im : Imm} {ob : Obm} {h : Heap} {w : World}
variable {pol : Pol} {call : CallF} {f : FuncId} {ro : Bool} {rid i j : Nat} {draw : Bool}

/-! ### what an operation looks at -/
theorem whoOf_congr {ev ev' : Operand → AV} (c : Call) (h : ∀ x ∈ c.operands, ev x = ev' x) : whoOf P ev c = whoOf P ev' c := by
  have hargs : c.args.toList.map ev = c.args.toList.map ev' := List.map_congr_left fun x hx => h x (by simp [Call.operands, Array.mem_toList_iff.1 hx])
  unfold whoOf
  simp only [hargs]
  cases hc : c.callee with
  | value f => have hf : ev f = ev' f := h f (by simp [Call.operands, hc]); simp only [hf]
  | invoke r m => have hr : ev r = ev' r := h r (by simp [Call.operands, hc]); simp only [hr]
  | builtin b => rfl

theorem bltOf_congr {ev ev' : Operand → AV} {mu g : Bool} {slot : Nat} {b : Builtin} (c : Call) (h : ∀ x ∈ c.operands, ev x = ev' x) (st : Heap) : bltOf P ro ev st mu g draw slot b c = bltOf P ro ev' st mu g draw slot b c := by
  have hargs : c.args.toList.map ev = c.args.toList.map ev' := List.map_congr_left fun x hx => h x (by simp [Call.operands, Array.mem_toList_iff.1 hx])
  unfold bltOf
  rw [hargs]

theorem opF_congr {ev ev' : Operand → AV} (o : Oper) (h : ∀ x ∈ o.op.operands, ev x = ev' x) (st : Heap) : opF P pol call f ro rid i draw o ev st = opF P pol call f ro rid i draw o ev' st := by
  obtain ⟨dst, op, type, pos, after, guard⟩ := o
  have pairs : ∀ ps : Array (Nat × Operand), (∀ x ∈ (ps.toList.map (·.2)).toArray, ev x = ev' x) → (ps.toList.map fun p => (p.1, ev p.2)) = (ps.toList.map fun p => (p.1, ev' p.2)) := fun ps hp =>
    List.map_congr_left fun p hm => by rw [hp p.2 (by simp only [List.mem_toArray]; exact List.mem_map.2 ⟨p, hm, rfl⟩)]
  cases op <;> simp only [Op.operands] at h
  case build t ps => simp only [opF]; rw [pairs ps h]
  case buildSlice t n ps => cases n <;> simp only [opF] <;> rw [pairs ps h]
  case makeFunc fn first captured =>
    simp only [opF]
    rw [List.map_congr_left (l := first.toList) fun x hx => h x (by simp [Array.mem_toList_iff.1 hx]), List.map_congr_left (l := captured.toList) fun x hx => h x (by simp [Array.mem_toList_iff.1 hx])]
  case call c =>
    simp only [opF]
    rw [whoOf_congr c h]
    congr 1
    funext wh
    cases wh with
    | blt b => exact bltOf_congr c h st
    | func g args => rfl
  case makeMap t r => cases r <;> rfl
  case slice t x lo hi mx =>
    have e1 : lo.map ev = lo.map ev' := by cases lo <;> simp_all
    have e2 : hi.map ev = hi.map ev' := by cases hi <;> simp_all
    have e3 : mx.map ev = mx.map ev' := by cases mx <;> simp_all
    have e4 : ev x = ev' x := h x (by simp)
    simp only [opF, e1, e2, e3, e4]
  case pick c a b =>
    have e1 : ev c = ev' c := h c (by simp)
    have e2 : ev a = ev' a := h a (by simp)
    have e3 : ev b = ev' b := h b (by simp)
    simp only [opF, e1, e2, e3]
  case move x => have e1 : ev x = ev' x := h x (by simp); simp only [opF, e1]
  case assign x => have e1 : ev x = ev' x := h x (by simp); simp only [opF, e1]
  case box t x => have e1 : ev x = ev' x := h x (by simp); simp only [opF, e1]
  case load t x => have e1 : ev x = ev' x := h x (by simp); simp only [opF, e1]
  case nilCheck x => have e1 : ev x = ev' x := h x (by simp); simp only [opF, e1]
  case unOp op t x => have e1 : ev x = ev' x := h x (by simp); simp only [opF, e1]
  case convert s d x => have e1 : ev x = ev' x := h x (by simp); simp only [opF, e1]
  case makeInterface t x => have e1 : ev x = ev' x := h x (by simp); simp only [opF, e1]
  case fieldAddr t x fd => have e1 : ev x = ev' x := h x (by simp); simp only [opF, e1]
  case field t x fd => have e1 : ev x = ev' x := h x (by simp); simp only [opF, e1]
  case extract t k => have e1 : ev t = ev' t := h t (by simp); simp only [opF, e1]
  case store t a x => have e1 : ev a = ev' a := h a (by simp); have e2 : ev x = ev' x := h x (by simp); simp only [opF, e1, e2]
  case binOp op t a x q => have e1 : ev a = ev' a := h a (by simp); have e2 : ev x = ev' x := h x (by simp); simp only [opF, e1, e2]
  case makeSlice t a x => have e1 : ev a = ev' a := h a (by simp); have e2 : ev x = ev' x := h x (by simp); simp only [opF, e1, e2]
  case indexAddr t a x => have e1 : ev a = ev' a := h a (by simp); have e2 : ev x = ev' x := h x (by simp); simp only [opF, e1, e2]
  case index t a x => have e1 : ev a = ev' a := h a (by simp); have e2 : ev x = ev' x := h x (by simp); simp only [opF, e1, e2]
  case lookup t a x b => have e1 : ev a = ev' a := h a (by simp); have e2 : ev x = ev' x := h x (by simp); simp only [opF, e1, e2]
  case mapUpdate t m k x => have e1 : ev m = ev' m := h m (by simp); have e2 : ev k = ev' k := h k (by simp); have e3 : ev x = ev' x := h x (by simp); simp only [opF, e1, e2, e3]
  case insert t m k x => have e1 : ev m = ev' m := h m (by simp); have e2 : ev k = ev' k := h k (by simp); have e3 : ev x = ev' x := h x (by simp); simp only [opF, e1, e2, e3]
  all_goals rfl

/-! ### what it does to the heap -/
theorem ok_heap {v : Option AV} {st st2 : Heap} {y : AV} (hy : (v.map fun a => (a, st)) = some (y, st2)) : st2 = st := by
  simp only [Option.map_eq_some_iff, Prod.mk.injEq] at hy
  obtain ⟨_, _, _, h⟩ := hy
  exact h.symm
theorem ok_any {v : Option AV} {st st2 : Heap} {y : AV} (hy : (v.map fun a => (a, st)) = some (y, st2)) (st' : Heap) : (v.map fun a => (a, st')) = some (y, st') := by
  simp only [Option.map_eq_some_iff, Prod.mk.injEq] at hy
  obtain ⟨a, h, rfl, _⟩ := hy
  simp [h]

theorem whoOf_blt {ev : Operand → AV} {c : Call} {b : Builtin} (hw : whoOf P ev c = some (.blt b)) : c.callee = .builtin b := by
  unfold whoOf at hw
  split at hw
  · rename_i b' hb; simp only [Option.some.injEq, Who.blt.injEq] at hw; rw [← hw]; exact hb
  · split at hw <;> simp at hw
  · split at hw <;> simp at hw
theorem whoOf_fn {ev : Operand → AV} {c : Call} {g : FuncId} {args : List AV} (hw : whoOf P ev c = some (.func g args)) : ∀ b, c.callee ≠ .builtin b := by
  intro b hb
  unfold whoOf at hw
  rw [hb] at hw
  simp at hw

theorem meets_zero {ev : Operand → AV} {o : Oper} {st st2 : Heap} {y : AV} (hm : meets pol f rid i draw o = 0) (hy : opF P pol call f ro rid i draw o ev st = some (y, st2)) :
    st2 = st ∧ ∀ st', opF P pol call f ro rid i draw o ev st' = some (y, st') := by
  obtain ⟨dst, op, type, pos, after, guard⟩ := o
  cases op <;> simp only [meets] at hm <;> try (exact absurd hm (by decide))
  case load =>
    split at hm
    · cases hm
    · split at hm <;> cases hm
  case move x =>
    simp only [opF] at hy ⊢
    split at hm
    · cases hm
    · rename_i hf
      rw [if_neg hf] at hy
      simp only [Option.some.injEq, Prod.mk.injEq] at hy
      exact ⟨hy.2.symm, fun st' => by rw [if_neg hf]; rw [hy.1]⟩
  case assign x =>
    simp only [opF] at hy ⊢
    split at hm
    · cases hm
    · rename_i hf
      rw [if_neg hf] at hy
      simp only [Option.some.injEq, Prod.mk.injEq] at hy
      exact ⟨hy.2.symm, fun st' => by rw [if_neg hf]; rw [hy.1]⟩
  case pick => exact ⟨ok_heap hy, fun st' => ok_any hy st'⟩
  case build => exact ⟨ok_heap hy, fun st' => ok_any hy st'⟩
  case buildSlice t n ps =>
    split at hm
    · cases hm
    · rename_i hf
      have hf : pol.mu f rid i = false := by simpa using hf
      cases n with
      | zero =>
        simp only [opF] at hy ⊢
        split at hy
        · rename_i he; exact ⟨ok_heap hy, fun st' => by rw [if_pos he]; exact ok_any hy st'⟩
        · cases hy
      | succ n =>
        simp only [opF, hf, Bool.and_false, Bool.false_eq_true, if_false, newSlice] at hy ⊢
        simp only [Option.bind_eq_some_iff, Option.some.injEq, Prod.mk.injEq] at hy
        obtain ⟨xs, hxs, rfl, rfl⟩ := hy
        exact ⟨rfl, fun st' => by simp [hxs]⟩
  case nilCheck x =>
    simp only [opF] at hy ⊢
    split at hy
    · exact ⟨ok_heap hy, fun st' => ok_any hy st'⟩
    · exact ⟨ok_heap hy, fun st' => ok_any hy st'⟩
    · exact ⟨ok_heap hy, fun st' => ok_any hy st'⟩
    · cases hy
  case binOp => exact ⟨ok_heap hy, fun st' => ok_any hy st'⟩
  case unOp => exact ⟨ok_heap hy, fun st' => ok_any hy st'⟩
  case convert => exact ⟨ok_heap hy, fun st' => ok_any hy st'⟩
  case makeInterface t x =>
    simp only [opF] at hy ⊢
    split at hy
    · cases hy
    · exact ⟨ok_heap hy, fun st' => ok_any hy st'⟩
    · cases hy
  case makeFunc fn a b =>
    simp only [opF, Option.map_some, Option.some.injEq, Prod.mk.injEq] at hy ⊢
    exact ⟨hy.2.symm, fun st' => ⟨hy.1, trivial⟩⟩
  case slice => exact ⟨ok_heap hy, fun st' => ok_any hy st'⟩
  case fieldAddr => exact ⟨ok_heap hy, fun st' => ok_any hy st'⟩
  case field => exact ⟨ok_heap hy, fun st' => ok_any hy st'⟩
  case index => exact ⟨ok_heap hy, fun st' => ok_any hy st'⟩
  case extract t k =>
    simp only [opF] at hy ⊢
    split at hy
    · exact ⟨ok_heap hy, fun st' => ok_any hy st'⟩
    · cases hy
  case call c =>
    simp only [opF, Option.bind_eq_some_iff] at hy
    obtain ⟨wh, hwh, hy⟩ := hy
    cases wh with
    | func g args =>
      have hb := whoOf_fn hwh
      split at hm
      · rename_i b hc; exact absurd hc (hb b)
      · split at hm
        · cases hm
        · split at hm <;> cases hm
    | blt b =>
      rw [whoOf_blt hwh] at hm
      simp only at hm
      simp only [opF, hwh, Option.bind_some]
      split at hm
      · simp only at hy
        unfold bltOf at hy ⊢
        split at hy <;> first
          | (simp only [Option.map_eq_some_iff, Prod.mk.injEq] at hy
             obtain ⟨z, hz, rfl, rfl⟩ := hy
             rename_i hx
             exact ⟨rfl, fun st' => by simp [hx, hz]⟩)
          | (rename_i hb _; cases hb)
          | cases hy
      · simp only at hy
        unfold bltOf at hy ⊢
        split at hy <;> first
          | (simp only [Option.map_eq_some_iff, Prod.mk.injEq] at hy
             obtain ⟨z, hz, rfl, rfl⟩ := hy
             rename_i hx
             exact ⟨rfl, fun st' => by simp [hx, hz]⟩)
          | (rename_i hb _; cases hb)
          | cases hy
      · cases hm
      · cases hm

theorem meets_one {ev : Operand → AV} {o : Oper} {st st2 : Heap} {y : AV} (hm : meets pol f rid i draw o = 1) (hy : opF P pol call f ro rid i draw o ev st = some (y, st2)) : st2 = st := by
  obtain ⟨dst, op, type, pos, after, guard⟩ := o
  cases op <;> simp only [meets] at hm <;> try (exact absurd hm (by decide))
  case move => split at hm <;> cases hm
  case assign => split at hm <;> cases hm
  case buildSlice => split at hm <;> cases hm
  case load =>
    split at hm
    · cases hm
    rename_i hfr
    simp only [opF] at hy
    rw [if_neg hfr] at hy
    split at hy
    · cases hy
    · exact ok_heap hy
  case indexAddr => exact ok_heap hy
  case lookup t x k b =>
    simp only [opF] at hy
    split at hy
    · split at hy
      · cases hy
      split at hy
      · split at hy
        · exact ok_heap hy
        · cases hy
      · exact ok_heap hy
      · cases hy
    · cases hy
  case call c =>
    simp only [opF, Option.bind_eq_some_iff] at hy
    obtain ⟨wh, hwh, hy⟩ := hy
    cases wh with
    | func g args =>
      have hb := whoOf_fn hwh
      split at hm
      · rename_i b hc; exact absurd hc (hb b)
      · split at hm
        · rename_i hd
          simp only at hy
          split at hy
          · exact ok_heap hy
          · split at hy
            · rw [if_pos (by simp [hd])] at hy; cases hy
            rw [if_neg (by simp [hd])] at hy
            simp only [Option.bind_eq_some_iff] at hy
            obtain ⟨a, ha, r, hr, hy⟩ := hy
            unfold landOf at hy
            rw [if_pos hd] at hy
            simp only [Option.map_eq_some_iff, Prod.mk.injEq] at hy
            obtain ⟨_, _, _, h⟩ := hy
            exact h.symm
        · split at hm <;> cases hm
    | blt b =>
      rw [whoOf_blt hwh] at hm
      simp only at hm
      split at hm
      · cases hm
      · cases hm
      · simp only at hy
        unfold bltOf at hy
        split at hy <;> first
          | (simp only [Option.bind_eq_some_iff, Option.map_eq_some_iff, Prod.mk.injEq] at hy
             obtain ⟨t, ht, d, hd, n, hn, rfl, rfl⟩ := hy
             rfl)
          | (rename_i hb _; cases hb)
          | cases hy
      · cases hm

theorem loadAt_own {st st' : Heap} {t : TypeId} {a : AV} (h : ownAddr a = true) (hc : st'.cur = st.cur) : loadAt P st' t a = loadAt P st t a := by
  have hcon : ∀ c v, Loc.here c = true → st'.con c v = st.con c v := by
    intro c v h
    match c, h with
    | .fr 0 s, _ =>
      have ho : st'.obj (.fr 0 s) = st.obj (.fr 0 s) := congrFun hc s
      unfold Heap.con; rw [ho]
  cases a with
  | ptr c v off => simp only [loadAt, hcon c v h]
  | eptr c v i j => simp only [loadAt, hcon c v h]
  | cptr cs => rfl
  | _ => cases h
theorem meets_three {ev : Operand → AV} {o : Oper} {st st2 : Heap} {y : AV} (hm : meets pol f rid i draw o = 3) (hy : opF P pol call f ro rid i draw o ev st = some (y, st2)) :
    st2 = st ∧ ∀ st', st'.cur = st.cur → opF P pol call f ro rid i draw o ev st' = some (y, st') := by
  obtain ⟨dst, op, type, pos, after, guard⟩ := o
  cases op <;> simp only [meets] at hm <;> try (exact absurd hm (by decide))
  case move => split at hm <;> cases hm
  case assign => split at hm <;> cases hm
  case buildSlice => split at hm <;> cases hm
  case load t a =>
    split at hm
    · cases hm
    rename_i hfr
    have ho : pol.own f rid i = true := by
      split at hm
      · assumption
      · cases hm
    simp only [opF] at hy ⊢
    simp only [if_neg hfr] at hy ⊢
    by_cases h : ownAddr (ev a) = true
    · rw [if_neg (by simp [h])] at hy
      refine ⟨ok_heap hy, fun st' hc => ?_⟩
      rw [if_neg (by simp [h]), loadAt_own h hc]
      exact ok_any hy st'
    · rw [if_pos (by simp [ho, h])] at hy; cases hy
  case call c =>
    split at hm
    · split at hm <;> cases hm
    · split at hm
      · cases hm
      · split at hm <;> cases hm
theorem meets_four {ev : Operand → AV} {o : Oper} {st st2 : Heap} {y : AV} (hm : meets pol f rid i draw o = 4) (hy : opF P pol call f ro rid i draw o ev st = some (y, st2)) : st2.cur = st.cur := by
  obtain ⟨dst, op, type, pos, after, guard⟩ := o
  cases op <;> simp only [meets] at hm <;> try (exact absurd hm (by decide))
  case move => split at hm <;> cases hm
  case assign => split at hm <;> cases hm
  case buildSlice => split at hm <;> cases hm
  case load =>
    split at hm
    · cases hm
    · split at hm <;> cases hm
  case call c =>
    simp only [opF, Option.bind_eq_some_iff] at hy
    obtain ⟨wh, hwh, hy⟩ := hy
    cases wh with
    | blt b => rw [whoOf_blt hwh] at hm; simp only at hm; split at hm <;> cases hm
    | func g args =>
      have hb := whoOf_fn hwh
      split at hm
      · rename_i b hc; exact absurd hc (hb b)
      · split at hm
        · cases hm
        · rename_i hd
          split at hm
          · rename_i ha
            simp only at hy
            split at hy
            · rw [ok_heap hy]
            · split at hy
              · rw [if_pos (by simp only [Bool.and_eq_true] at ha; simp [ha.1])] at hy; cases hy
              rw [if_pos (by simp only [Bool.and_eq_true, Bool.not_eq_true', Bool.or_eq_false_iff] at ha ⊢; exact ⟨ha.1, by simpa using hd, ha.2⟩)] at hy
              simp only [awayOf, Option.bind_eq_some_iff, Option.map_eq_some_iff, Prod.mk.injEq] at hy
              obtain ⟨_, _, _, _, _, _, _, _, _, _, _, rfl⟩ := hy
              rfl
          · cases hm

/-! ### one step, as what it gives -/
def res (P : Program) (pol : Pol) (call : CallF) (f : FuncId) (ro : Bool) (ops : Array Oper) (rid i : Nat) (d : Bool) (o : Oper) (tm : Nat → AV) (hp : Heap) : Option (AV × Heap) :=
  (wanted ops o tm).bind fun b => if b then opF P pol call f ro rid i d o (St.ev tm) hp else some (.tup [], hp)

theorem stepOp_eq (ops : Array Oper) (st : St) : stepOp P pol call f ro ops rid draw i st = match ops[i]? with
    | none => some st
    | some o => (res P pol call f ro ops rid i (drawn pol f rid ops draw i) o st.tmps st.hp).map fun r => { tmps := putT st.tmps o.dst r.1, hp := r.2 } := by
  unfold stepOp res exOp
  cases ops[i]? with
  | none => rfl
  | some o =>
    simp only
    cases wanted ops o st.tmps with
    | none => rfl
    | some b => cases b <;> simp

theorem res_congr {ops : Array Oper} {d : Bool} {o : Oper} {tm tm' : Nat → AV} (h : ∀ t ∈ readsOf ops o, tm t = tm' t) (hp : Heap) : res P pol call f ro ops rid i d o tm hp = res P pol call f ro ops rid i d o tm' hp := by
  have h1 : wanted ops o tm = wanted ops o tm' := by
    unfold wanted
    cases hg : o.guard with
    | none => rfl
    | some jw =>
      obtain ⟨j, want⟩ := jw
      simp only
      cases hd : (ops[j]?).bind (·.dst) with
      | none => rfl
      | some t =>
        simp only
        rw [h t (by simp [readsOf, hg, hd])]
  have h2 : ∀ x ∈ o.op.operands, St.ev tm x = St.ev tm' x := by
    intro x hx
    cases x with
    | tmp t => exact h t (List.mem_append_left _ (List.mem_filterMap.2 ⟨.tmp t, by simpa using hx, rfl⟩))
    | _ => rfl
  unfold res
  rw [h1]
  congr 1
  funext b
  cases b
  · rfl
  · simp only [if_true]; exact opF_congr o h2 hp

theorem res_zero {ops : Array Oper} {d : Bool} {o : Oper} {tm : Nat → AV} {hp hp2 : Heap} {y : AV} (hm : meets pol f rid i d o = 0) (hy : res P pol call f ro ops rid i d o tm hp = some (y, hp2)) :
    hp2 = hp ∧ ∀ hp', res P pol call f ro ops rid i d o tm hp' = some (y, hp') := by
  unfold res at hy ⊢
  simp only [Option.bind_eq_some_iff] at hy
  obtain ⟨b, hb, hy⟩ := hy
  simp only [hb, Option.bind_some]
  cases b with
  | true => exact meets_zero hm hy
  | false =>
    simp only [Bool.false_eq_true, if_false, Option.some.injEq, Prod.mk.injEq] at hy ⊢
    exact ⟨hy.2.symm, fun hp' => ⟨hy.1, trivial⟩⟩
theorem res_one {ops : Array Oper} {d : Bool} {o : Oper} {tm : Nat → AV} {hp hp2 : Heap} {y : AV} (hm : meets pol f rid i d o = 1) (hy : res P pol call f ro ops rid i d o tm hp = some (y, hp2)) : hp2 = hp := by
  unfold res at hy
  simp only [Option.bind_eq_some_iff] at hy
  obtain ⟨b, hb, hy⟩ := hy
  cases b with
  | true => exact meets_one hm hy
  | false =>
    simp only [Bool.false_eq_true, if_false, Option.some.injEq, Prod.mk.injEq] at hy
    exact hy.2.symm

theorem res_three {ops : Array Oper} {d : Bool} {o : Oper} {tm : Nat → AV} {hp hp2 : Heap} {y : AV} (hm : meets pol f rid i d o = 3) (hy : res P pol call f ro ops rid i d o tm hp = some (y, hp2)) :
    hp2 = hp ∧ ∀ hp' : Heap, hp'.cur = hp.cur → res P pol call f ro ops rid i d o tm hp' = some (y, hp') := by
  unfold res at hy ⊢
  simp only [Option.bind_eq_some_iff] at hy
  obtain ⟨b, hb, hy⟩ := hy
  simp only [hb, Option.bind_some]
  cases b with
  | true => exact meets_three hm hy
  | false =>
    simp only [Bool.false_eq_true, if_false, Option.some.injEq, Prod.mk.injEq] at hy ⊢
    exact ⟨hy.2.symm, fun hp' _ => ⟨hy.1, trivial⟩⟩
theorem res_four {ops : Array Oper} {d : Bool} {o : Oper} {tm : Nat → AV} {hp hp2 : Heap} {y : AV} (hm : meets pol f rid i d o = 4) (hy : res P pol call f ro ops rid i d o tm hp = some (y, hp2)) : hp2.cur = hp.cur := by
  unfold res at hy
  simp only [Option.bind_eq_some_iff] at hy
  obtain ⟨b, hb, hy⟩ := hy
  cases b with
  | true => exact meets_four hm hy
  | false =>
    simp only [Bool.false_eq_true, if_false, Option.some.injEq, Prod.mk.injEq] at hy
    rw [hy.2]

theorem putT_reads {ops : Array Oper} {o : Oper} {d : Option Nat} {tm : Nat → AV} {y : AV} (h : (match d with | some x => !(readsOf ops o).contains x | none => true) = true) : ∀ t ∈ readsOf ops o, putT tm d y t = tm t := by
  intro t ht
  cases d with
  | none => rfl
  | some x =>
    simp only [putT, upd]
    rw [if_neg]
    intro e; subst e
    simp [ht] at h
theorem putT_comm {d e : Option Nat} {tm : Nat → AV} {x y : AV} (h : (match d, e with | some x, some y => x != y | _, _ => true) = true) : putT (putT tm d x) e y = putT (putT tm e y) d x := by
  cases d with
  | none => rfl
  | some a =>
    cases e with
    | none => rfl
    | some b =>
      have hne : a ≠ b := by simpa using h
      funext s
      simp only [putT, upd]
      by_cases h1 : s = a
      · by_cases h2 : s = b
        · omega
        · subst h1; simp [hne]
      · by_cases h2 : s = b
        · subst h2; simp [h1]
        · simp [h1, h2]

/-- Two that may change places. -/
theorem stepOp_comm {ops : Array Oper} {a b : Nat} (hs : swaps pol f rid ops a b = true) {st s1 s2 : St} (h1 : stepOp P pol call f ro ops rid true a st = some s1) (h2 : stepOp P pol call f ro ops rid true b s1 = some s2) :
    ∃ s3, stepOp P pol call f ro ops rid true b st = some s3 ∧ stepOp P pol call f ro ops rid true a s3 = some s2 := by
  unfold swaps at hs
  split at hs
  case h_2 => cases hs
  rename_i oa ob ha hb
  simp only [Bool.and_eq_true, Bool.or_eq_true, beq_iff_eq] at hs
  obtain ⟨⟨⟨c1, c2⟩, c3⟩, c4⟩ := hs
  rw [stepOp_eq] at h1 h2
  simp only [ha] at h1
  simp only [hb] at h2
  simp only [Option.map_eq_some_iff] at h1 h2
  obtain ⟨⟨ya, ha1⟩, ra, rfl⟩ := h1
  obtain ⟨⟨yb, hb1⟩, rb, rfl⟩ := h2
  simp only at rb
  rw [res_congr (putT_reads c2)] at rb
  simp only [stepOp_eq, ha, hb]
  have fin : ∀ hm hn, res P pol call f ro ops rid b (drawn pol f rid ops true b) ob st.tmps st.hp = some (yb, hm) → res P pol call f ro ops rid a (drawn pol f rid ops true a) oa st.tmps hm = some (ya, hn) → hn = hb1 →
      ∃ s3, ((res P pol call f ro ops rid b (drawn pol f rid ops true b) ob st.tmps st.hp).map fun r => ({ tmps := putT st.tmps ob.dst r.1, hp := r.2 } : St)) = some s3 ∧
        ((res P pol call f ro ops rid a (drawn pol f rid ops true a) oa s3.tmps s3.hp).map fun r => ({ tmps := putT s3.tmps oa.dst r.1, hp := r.2 } : St)) = some { tmps := putT (putT st.tmps oa.dst ya) ob.dst yb, hp := hb1 } := by
    intro hm hn e1 e2 e3
    subst e3
    refine ⟨{ tmps := putT st.tmps ob.dst yb, hp := hm }, by rw [e1]; rfl, ?_⟩
    simp only
    rw [res_congr (putT_reads c3), e2]
    simp only [Option.map_some, Option.some.injEq, St.mk.injEq, and_true]
    exact (putT_comm c1).symm
  rcases c4 with (((c4 | c4) | ⟨c4, c5⟩) | ⟨c4, c5⟩) | ⟨c4, c5⟩
  · obtain ⟨rfl, hall⟩ := res_zero c4 ra
    exact fin _ _ rb (hall hb1) rfl
  · obtain ⟨rfl, hall⟩ := res_zero c4 rb
    exact fin _ _ (hall st.hp) ra rfl
  · have e1 := res_one c4 ra
    subst e1
    have e2 := res_one c5 rb
    subst e2
    exact fin _ _ rb ra rfl
  · obtain ⟨rfl, hall⟩ := res_three c4 ra
    have hcur : hb1.cur = st.hp.cur := by
      rcases c5 with (c5 | c5) | c5
      · rw [res_one c5 rb]
      · rw [(res_three c5 rb).1]
      · exact res_four c5 rb
    exact fin _ _ rb (hall hb1 hcur) rfl
  · have hcur : ha1.cur = st.hp.cur := by
      rcases c5 with c5 | c5
      · rw [res_one c5 ra]
      · exact res_four c5 ra
    obtain ⟨rfl, hall⟩ := res_three c4 rb
    exact fin _ _ (hall st.hp hcur.symm) ra rfl

/-- One that may change places with all before it comes first. -/
theorem exOps_front {ops : Array Oper} {b : Nat} : ∀ (pre post : List Nat) (st st' : St), (∀ a ∈ pre, swaps pol f rid ops a b = true) → exOps P pol call f ro ops rid true (pre ++ b :: post) st = some st' →
    exOps P pol call f ro ops rid true (b :: (pre ++ post)) st = some st'
  | [], post, st, st', _, h => h
  | a :: pre, post, st, st', hs, h => by
    simp only [List.cons_append, exOps, Option.bind_eq_some_iff] at h
    obtain ⟨s1, h1, h2⟩ := h
    have ih := exOps_front pre post s1 st' (fun x hx => hs x (List.mem_cons_of_mem _ hx)) h2
    simp only [exOps, Option.bind_eq_some_iff] at ih
    obtain ⟨s2, h3, h4⟩ := ih
    obtain ⟨s3, h5, h6⟩ := stepOp_comm (hs a (List.mem_cons_self ..)) h1 h3
    simp only [List.cons_append, exOps, Option.bind_eq_some_iff]
    exact ⟨s3, h5, s2, h6, h4⟩
end Go.AE
