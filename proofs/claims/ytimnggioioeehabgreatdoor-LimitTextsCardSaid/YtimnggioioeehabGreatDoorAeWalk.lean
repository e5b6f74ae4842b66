/- Walking through code with the evaluator without fuel: one rule for each kind of code; what follows is left alone until it is reached. -/
import Derived.Test.YtimnggioioeehabGreatDoorAeLim2
namespace Go.AE

variable {P : Program} {pol : Pol} {f : FuncId} {ro : Bool} {rid i : Nat} {draw : Bool}

/-- The code comes to an end that K holds of. -/
def W (P : Program) (pol : Pol) (f : FuncId) (ro : Bool) (c : Code) (st : St) (K : Ex → St → Prop) : Prop := ∃ e st', E P pol f ro c st = some (e, st') ∧ K e st'
/-- The operations l do. -/
def WO (P : Program) (pol : Pol) (f : FuncId) (ro : Bool) (ops : Array Oper) (rid : Nat) (draw : Bool) (l : List Nat) (st : St) (K : St → Prop) : Prop := ∃ st', exOps P pol (A P pol) f ro ops rid draw l st = some st' ∧ K st'
/-- What follows a first part. -/
def Then (P : Program) (pol : Pol) (f : FuncId) (ro : Bool) (b : Code) (K : Ex → St → Prop) : Ex → St → Prop
  | .normal, st => W P pol f ro b st K
  | e, st => K e st
def InBlock (id : Nat) (K : Ex → St → Prop) : Ex → St → Prop
  | .exit id', st => if id' = id then K .normal st else K (.exit id') st
  | e, st => K e st

theorem W_mono {c : Code} {st : St} {K K' : Ex → St → Prop} (h : W P pol f ro c st K) (hk : ∀ e st, K e st → K' e st) : W P pol f ro c st K' :=
  let ⟨e, st', h1, h2⟩ := h; ⟨e, st', h1, hk _ _ h2⟩
theorem W_skip {st : St} {K : Ex → St → Prop} (h : K .normal st) : W P pol f ro .skip st K := ⟨_, _, E_skip st, h⟩
theorem W_exit {id : Nat} {st : St} {K : Ex → St → Prop} (h : K (.exit id) st) : W P pol f ro (.exit id) st K := ⟨_, _, E_exit id st, h⟩
theorem W_ret {st : St} {K : Ex → St → Prop} (h : K .ret st) : W P pol f ro .ret st K := ⟨_, _, E_ret st, h⟩
theorem W_seq {a b : Code} {st : St} {K : Ex → St → Prop} (h : W P pol f ro a st (Then P pol f ro b K)) : W P pol f ro (.seq a b) st K := by
  obtain ⟨e, st', h1, h2⟩ := h
  unfold W
  rw [E_seq, h1]
  cases e with
  | normal => exact h2
  | exit id => exact ⟨_, _, rfl, h2⟩
  | ret => exact ⟨_, _, rfl, h2⟩
theorem W_region {id : Nat} {ops : Array Oper} {st : St} {K : Ex → St → Prop} (h : WO P pol f ro ops id false (List.range ops.size) st (K .normal)) : W P pol f ro (.region id ops false) st K := by
  obtain ⟨st', h1, h2⟩ := h
  unfold W
  rw [E_region, if_neg (by simp), h1]
  exact ⟨_, _, rfl, h2⟩
theorem W_draw {id : Nat} {ops : Array Oper} {st : St} {K : Ex → St → Prop} (hr : regionOk pol f id ops = true) (h : WO P pol f ro ops id true (List.range ops.size) st (K .normal)) : W P pol f ro (.region id ops true) st K := by
  obtain ⟨st', h1, h2⟩ := h
  unfold W
  rw [E_region, if_neg (by simp [hr]), h1]
  exact ⟨_, _, rfl, h2⟩
theorem W_cond {c : Operand} {a b : Code} {st : St} {K : Ex → St → Prop} (t : Bool) (ht : aBool (St.ev st.tmps c) = some t) (h1 : t = true → W P pol f ro a st K) (h2 : t = false → W P pol f ro b st K) : W P pol f ro (.cond c a b) st K := by
  unfold W
  rw [E_cond, ht]
  cases t with
  | true => exact h1 rfl
  | false => exact h2 rfl
theorem W_block {id : Nat} {c : Code} {st : St} {K : Ex → St → Prop} (h : W P pol f ro c st (InBlock id K)) : W P pol f ro (.block id c) st K := by
  obtain ⟨e, st', h1, h2⟩ := h
  unfold W
  rw [E_block, h1]
  cases e with
  | normal => exact ⟨_, _, rfl, h2⟩
  | exit id' =>
    simp only [InBlock] at h2
    by_cases e : id' = id
    · subst e; rw [if_pos rfl] at h2; exact ⟨_, _, by simp, h2⟩
    · rw [if_neg e] at h2; exact ⟨_, _, by simp [e], h2⟩
  | ret => exact ⟨_, _, rfl, h2⟩
/-- A loop by an invariant and a number that falls. -/
theorem W_loop {c : Code} {K : Ex → St → Prop} (I : Nat → St → Prop) (hI : ∀ n st, I n st → W P pol f ro c st fun e st' => match e with | .normal => ∃ m, m < n ∧ I m st' | e => K e st') : ∀ (n : Nat) (st : St), I n st → W P pol f ro (.loop c) st K := by
  intro n
  induction n using Nat.strongRecOn with
  | _ n ih =>
    intro st hst
    obtain ⟨e, st', h1, h2⟩ := hI n st hst
    unfold W
    rw [E_loop, h1]
    cases e with
    | normal =>
      obtain ⟨m, hm, hI'⟩ := h2
      exact ih m hm st' hI'
    | exit id => exact ⟨_, _, rfl, h2⟩
    | ret => exact ⟨_, _, rfl, h2⟩

theorem WO_nil {ops : Array Oper} {st : St} {K : St → Prop} (h : K st) : WO P pol f ro ops rid draw [] st K := ⟨_, rfl, h⟩
theorem WO_cons {ops : Array Oper} {i : Nat} {l : List Nat} {st st1 : St} {K : St → Prop} (h1 : stepOp P pol (A P pol) f ro ops rid draw i st = some st1) (h : WO P pol f ro ops rid draw l st1 K) : WO P pol f ro ops rid draw (i :: l) st K := by
  obtain ⟨st', h2, h3⟩ := h
  exact ⟨st', by simp only [exOps, h1, Option.bind_some]; exact h2, h3⟩
/-- An operation that is carried out in every case. -/
theorem WO_op {ops : Array Oper} {i : Nat} {l : List Nat} {tm : Nat → AV} {hp : Heap} {K : St → Prop} (o : Oper) {y : AV} {h' : Heap} (ho : ops[i]? = some o) (hg : o.guard = none)
    (h1 : opF P pol (A P pol) f ro rid i (drawn pol f rid ops draw i) o (St.ev tm) hp = some (y, h')) (h : WO P pol f ro ops rid draw l ⟨putT tm o.dst y, h'⟩ K) : WO P pol f ro ops rid draw (i :: l) ⟨tm, hp⟩ K := by
  refine WO_cons ?_ h
  unfold stepOp
  rw [ho]
  simp only [wanted, hg, Option.bind_some, if_true, exOp, h1, Option.map_some]

/-- A call's answer, by its body. -/
theorem A_walk {g : FuncId} {fn : Func} {c : Code} {args : List AV} {out : List Frame} {glob : List AObj} {R : AV → Heap → Prop} (hf : P.funcs[g]? = some fn) (hc : fn.body = some c) (hn : ¬ fn.ntmps < args.length)
    (h : W P pol g ro c ⟨argTmps args fn.ntmps, ⟨fun _ => ⟨0, .gone⟩, out, glob⟩⟩ fun e st => (e = .normal ∨ e = .ret) ∧ ∃ vs, resultsOf P st fn.results.toList = some vs ∧ R (oneOf vs) st.hp) :
    ∃ r h', A P pol ro g args out glob = some (r, h') ∧ R r h' := by
  obtain ⟨e, st, h1, he, vs, h2, h3⟩ := h
  refine ⟨oneOf vs, st.hp, ?_, h3⟩
  rw [A_eq, hf]
  simp only [Option.bind_some, hc, if_neg hn, h1]
  rcases he with rfl | rfl <;> simp [h2]

/-- An operation that calls a function: by what is known of the callee. -/
theorem WO_call {ops : Array Oper} {i : Nat} {l : List Nat} {tm : Nat → AV} {hp : Heap} {K : St → Prop} (o : Oper) (c : Call) {g : FuncId} {args args2 : List AV} {R : AV → Heap → Prop} (ho : ops[i]? = some o) (hg : o.guard = none) (hop : o.op = .call c)
    (hw : whoOf P (St.ev tm) c = some (.func g args)) (hi : pol.intr g = none) (ha : AV.travL (AV.mapLoc Loc.push) args = some args2)
    (hA : ∃ r h', A P pol (ro || drawn pol f rid ops draw i) g args2 (hp.cur :: hp.out) hp.glob = some (r, h') ∧ R r h')
    (hl : ∀ r h', R r h' → ∃ v st1, landOf hp (pol.mu f rid i) (drawn pol f rid ops draw i) (slotAt pol f rid i o) (r, h') = some (v, st1) ∧ WO P pol f ro ops rid draw l ⟨putT tm o.dst v, st1⟩ K) (haw : pol.away f rid i = false := by rfl) (hih : pol.intrH g = none := by rfl) :
    WO P pol f ro ops rid draw (i :: l) ⟨tm, hp⟩ K := by
  obtain ⟨r, h', h1, h2⟩ := hA
  obtain ⟨v, st1, h3, h4⟩ := hl r h' h2
  refine WO_op o ho hg ?_ h4
  simp only [opF, hop, hw, Option.bind_some, hi, hih, haw, Bool.false_and, Bool.false_eq_true, if_false, ha, h1, h3]
end Go.AE
