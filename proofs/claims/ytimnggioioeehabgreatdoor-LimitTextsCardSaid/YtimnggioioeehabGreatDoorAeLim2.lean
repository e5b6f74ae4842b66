/- The evaluator without fuel: its equations. -/
import Derived.Test.YtimnggioioeehabGreatDoorAeLim
namespace Go.AE

variable {P : Program} {pol : Pol} {f : FuncId} {ro : Bool} {rid i : Nat} {draw : Bool}

theorem two_up {call call' : CallF} (h : ∀ ro g args out glob r, call ro g args out glob = some r → call' ro g args out glob = some r) : UpC fun k => if k = 0 then call else call' := by
  intro ro g args out glob k r hr
  simp only at hr ⊢
  split at hr
  · rw [if_neg (by omega)]; exact h _ _ _ _ _ _ hr
  · rw [if_neg (by omega)]; exact hr

theorem rounds_mono {g g' : St → Option (Ex × St)} (h : ∀ st r, g st = some r → g' st = some r) : ∀ (m m' : Nat) (st : St) (r : Ex × St), m ≤ m' → rounds g m st = some r → rounds g' m' st = some r
  | 0, m', st, r, _, hr => by simp [rounds] at hr
  | m + 1, 0, st, r, hm, hr => by omega
  | m + 1, m' + 1, st, r, hm, hr => by
    simp only [rounds, Option.bind_eq_some_iff] at hr ⊢
    obtain ⟨a, ha, hr⟩ := hr
    refine ⟨a, h _ _ ha, ?_⟩
    obtain ⟨e, s⟩ := a
    cases e with
    | normal => exact rounds_mono h m m' s r (by omega) hr
    | _ => exact hr

theorem exCode_mono {call call' : CallF} (h : ∀ ro g args out glob r, call ro g args out glob = some r → call' ro g args out glob = some r) {k k' : Nat} (hk : k ≤ k') :
    ∀ (c : Code) (st : St) (r : Ex × St), exCode P pol call f ro k c st = some r → exCode P pol call' f ro k' c st = some r := by
  intro c
  induction c with
  | region id ops draw =>
    intro st r hr
    simp only [exCode] at hr ⊢
    split at hr
    · cases hr
    rename_i hn
    rw [if_neg hn]
    simp only [Option.map_eq_some_iff] at hr ⊢
    obtain ⟨s, hs, hr⟩ := hr
    refine ⟨s, ?_, hr⟩
    have := (exOps_lim (P := P) (pol := pol) (f := f) (ro := ro) (rid := id) (draw := draw) (two_up h) ops (List.range ops.size) st).1 0 s
    simpa using this (by simpa using hs)
  | seq a b iha ihb =>
    intro st r hr
    simp only [exCode, Option.bind_eq_some_iff] at hr ⊢
    obtain ⟨⟨e, s⟩, hs, hr⟩ := hr
    refine ⟨(e, s), iha st _ hs, ?_⟩
    cases e with
    | normal => exact ihb s r hr
    | _ => exact hr
  | cond c a b iha ihb =>
    intro st r hr
    simp only [exCode, Option.bind_eq_some_iff] at hr ⊢
    obtain ⟨t, ht, hr⟩ := hr
    refine ⟨t, ht, ?_⟩
    cases t with
    | true => exact iha st r hr
    | false => exact ihb st r hr
  | block id c ih =>
    intro st r hr
    simp only [exCode, Option.map_eq_some_iff] at hr ⊢
    obtain ⟨s, hs, hr⟩ := hr
    exact ⟨s, ih st s hs, hr⟩
  | loop c ih =>
    intro st r hr
    simp only [exCode] at hr ⊢
    exact rounds_mono ih k k' st r hk hr
  | skip => intro st r hr; simpa [exCode] using hr
  | exit id => intro st r hr; simpa [exCode] using hr
  | ret => intro st r hr; simpa [exCode] using hr
  | _ => intro st r hr; simp [exCode] at hr

theorem aCall_up : UpC (aCall P pol) := by
  have key : ∀ k ro g args out glob r, aCall P pol k ro g args out glob = some r → aCall P pol (k + 1) ro g args out glob = some r := by
    intro k
    induction k with
    | zero => intro ro g args out glob r hr; simp [aCall] at hr
    | succ k ih =>
      intro ro g args out glob r hr
      unfold aCall at hr ⊢
      simp only [Option.bind_eq_some_iff] at hr ⊢
      obtain ⟨fn, hf, c, hc, hr⟩ := hr
      refine ⟨fn, hf, c, hc, ?_⟩
      split at hr
      · cases hr
      rename_i hn
      rw [if_neg hn]
      simp only [Option.bind_eq_some_iff] at hr ⊢
      obtain ⟨s, hs, hr⟩ := hr
      exact ⟨s, exCode_mono ih (Nat.le_succ k) c _ s hs, hr⟩
  exact fun ro g args out glob k r => key k ro g args out glob r

/-- The answer of a call, whatever fuel it takes. -/
noncomputable def A (P : Program) (pol : Pol) : CallF := limC (aCall P pol)
/-- What code comes to. -/
noncomputable def E (P : Program) (pol : Pol) (f : FuncId) (ro : Bool) (c : Code) (st : St) : Option (Ex × St) := lim fun k => exCode P pol (aCall P pol k) f ro k c st

theorem A_some {ro : Bool} {g : FuncId} {args : List AV} {out : List Frame} {glob : List AObj} {r : AV × Heap} : A P pol ro g args out glob = some r ↔ ∃ k, aCall P pol k ro g args out glob = some r := lim_some (aCall_up ro g args out glob)

theorem code_up (c : Code) (st : St) : Up fun k => exCode P pol (aCall P pol k) f ro k c st := fun k r hr => exCode_mono (fun ro g args out glob r hr => aCall_up ro g args out glob k r hr) (Nat.le_succ k) c st r hr

theorem E_skip (st : St) : E P pol f ro .skip st = some (.normal, st) := by unfold E; simp only [exCode]; exact lim_const _
theorem E_exit (id : Nat) (st : St) : E P pol f ro (.exit id) st = some (.exit id, st) := by unfold E; simp only [exCode]; exact lim_const _
theorem E_ret (st : St) : E P pol f ro .ret st = some (.ret, st) := by unfold E; simp only [exCode]; exact lim_const _
theorem E_region (id : Nat) (ops : Array Oper) (draw : Bool) (st : St) : E P pol f ro (.region id ops draw) st =
    if draw && !regionOk pol f id ops then none else (exOps P pol (A P pol) f ro ops id draw (List.range ops.size) st).map fun st => (.normal, st) := by
  unfold E
  simp only [exCode]
  split
  · exact lim_const _
  · obtain ⟨h1, h2⟩ := exOps_lim (P := P) (pol := pol) (f := f) (ro := ro) (rid := id) (draw := draw) (aCall_up (P := P) (pol := pol)) ops (List.range ops.size) st
    rw [lim_map h1, h2]; rfl
theorem E_seq (a b : Code) (st : St) : E P pol f ro (.seq a b) st = (E P pol f ro a st).bind fun r => match r.1 with
    | .normal => E P pol f ro b r.2
    | e => some (e, r.2) := by
  have hb : ∀ r : Ex × St, Up fun k => (match r.1 with | .normal => exCode P pol (aCall P pol k) f ro k b r.2 | e => some (e, r.2)) := by
    intro ⟨e, s⟩
    cases e with
    | normal => exact code_up b s
    | _ => exact Up.const _
  unfold E
  simp only [exCode]
  refine (lim_bind (h := fun k r => match r.1 with | .normal => exCode P pol (aCall P pol k) f ro k b r.2 | e => some (e, r.2)) (code_up a st) hb).trans ?_
  congr 1
  funext ⟨e, s⟩
  cases e with
  | normal => rfl
  | _ => exact lim_const _
theorem E_cond (c : Operand) (a b : Code) (st : St) : E P pol f ro (.cond c a b) st = (aBool (St.ev st.tmps c)).bind fun t => if t then E P pol f ro a st else E P pol f ro b st := by
  unfold E
  simp only [exCode]
  cases aBool (St.ev st.tmps c) with
  | none => exact lim_const _
  | some t => cases t <;> rfl
theorem E_block (id : Nat) (c : Code) (st : St) : E P pol f ro (.block id c) st = (E P pol f ro c st).map fun r => if r.1 = .exit id then (.normal, r.2) else r := by
  unfold E
  simp only [exCode]
  exact lim_map (code_up c st) _
theorem E_loop (c : Code) (st : St) : E P pol f ro (.loop c) st = (E P pol f ro c st).bind fun r => match r.1 with
    | .normal => E P pol f ro (.loop c) r.2
    | e => some (e, r.2) := by
  refine lim_eq (code_up (.loop c) st) (fun r => ?_)
  simp only [Option.bind_eq_some_iff]
  constructor
  · rintro ⟨⟨e, s⟩, h1, h2⟩
    obtain ⟨k1, hk1⟩ := (lim_some (code_up c st)).1 h1
    cases e with
    | normal =>
      obtain ⟨k2, hk2⟩ := (lim_some (code_up (.loop c) s)).1 h2
      refine ⟨max k1 k2 + 1, ?_⟩
      have e1 := (code_up (P := P) (pol := pol) (f := f) (ro := ro) c st).le (show k1 ≤ max k1 k2 + 1 by omega) hk1
      simp only [exCode] at hk2 ⊢
      simp only [rounds, Option.bind_eq_some_iff]
      refine ⟨(.normal, s), e1, ?_⟩
      refine rounds_mono (fun st r hr => ?_) k2 (max k1 k2) s r (by omega) hk2
      exact (code_up (P := P) (pol := pol) (f := f) (ro := ro) c st).le (show k2 ≤ max k1 k2 + 1 by omega) hr
    | exit id =>
      refine ⟨k1 + 1, ?_⟩
      have e1 := (code_up (P := P) (pol := pol) (f := f) (ro := ro) c st).le (show k1 ≤ k1 + 1 by omega) hk1
      simp only [exCode, rounds, Option.bind_eq_some_iff]
      exact ⟨_, e1, h2⟩
    | ret =>
      refine ⟨k1 + 1, ?_⟩
      have e1 := (code_up (P := P) (pol := pol) (f := f) (ro := ro) c st).le (show k1 ≤ k1 + 1 by omega) hk1
      simp only [exCode, rounds, Option.bind_eq_some_iff]
      exact ⟨_, e1, h2⟩
  · rintro ⟨k, hk⟩
    simp only [exCode] at hk
    cases k with
    | zero => simp [rounds] at hk
    | succ k =>
      simp only [rounds, Option.bind_eq_some_iff] at hk
      obtain ⟨⟨e, s⟩, h1, h2⟩ := hk
      refine ⟨(e, s), (lim_some (code_up c st)).2 ⟨k + 1, h1⟩, ?_⟩
      cases e with
      | normal =>
        refine (lim_some (code_up (.loop c) s)).2 ⟨k + 1, ?_⟩
        simp only [exCode]
        exact rounds_mono (fun _ _ h => h) k (k + 1) s r (by omega) h2
      | _ => exact h2

/-- A call is its body. -/
theorem A_eq (ro : Bool) (g : FuncId) (args : List AV) (out : List Frame) (glob : List AObj) : A P pol ro g args out glob =
    (P.funcs[g]?).bind fun fn => fn.body.bind fun c => if fn.ntmps < args.length then none else
      (E P pol g ro c { tmps := argTmps args fn.ntmps, hp := { cur := fun _ => ⟨0, .gone⟩, out, glob } }).bind fun r =>
      match r.1 with
      | .exit _ => none
      | _ => (resultsOf P r.2 fn.results.toList).map fun vs => (oneOf vs, r.2.hp) := by
  refine lim_eq (aCall_up ro g args out glob) (fun r => ?_)
  simp only [Option.bind_eq_some_iff]
  constructor
  · rintro ⟨fn, hf, c, hc, hr⟩
    split at hr
    · cases hr
    rename_i hn
    simp only [Option.bind_eq_some_iff] at hr
    obtain ⟨s, hs, hr⟩ := hr
    obtain ⟨k, hk⟩ := (lim_some (code_up c _)).1 hs
    refine ⟨k + 1, ?_⟩
    unfold aCall
    simp only [Option.bind_eq_some_iff]
    refine ⟨fn, hf, c, hc, ?_⟩
    rw [if_neg hn]
    simp only [Option.bind_eq_some_iff]
    exact ⟨s, hk, hr⟩
  · rintro ⟨k, hk⟩
    cases k with
    | zero => simp [aCall] at hk
    | succ k =>
      unfold aCall at hk
      simp only [Option.bind_eq_some_iff] at hk
      obtain ⟨fn, hf, c, hc, hr⟩ := hk
      refine ⟨fn, hf, c, hc, ?_⟩
      split at hr
      · cases hr
      rename_i hn
      rw [if_neg hn]
      simp only [Option.bind_eq_some_iff] at hr ⊢
      obtain ⟨s, hs, hr⟩ := hr
      exact ⟨s, (lim_some (code_up c _)).2 ⟨k, hs⟩, hr⟩
end Go.AE
