/- Loops, function starts and ends, states that are known in part. -/
import Derived.Test.YtdpfbnefkemkiaaGxOps
namespace Go.AE

variable {P : Program} {pol : Pol} {f : FuncId} {ro : Bool}

theorem W_loopV {V Bt : Type} {body : V → Option (Step V Bt)} {c : Code} {K : Ex → St → Prop} {b : Bt} {v0 : V} {st0 : St} (hF : loopV body v0 = some b) (rel : V → St → Prop) (h0 : rel v0 st0)
    (hstep : ∀ v st s, rel v st → body v = some s → (∀ b', s = .done b' → b' = b) → W P pol f ro c st fun e st' => match e with | .normal => ∃ v', s = .next v' ∧ rel v' st' | e => K e st') : W P pol f ro (.loop c) st0 K := by
  obtain ⟨n, hn⟩ := loopV_some.1 hF
  clear hF
  induction n generalizing v0 st0 with
  | zero => simp [loopN] at hn
  | succ n ih =>
    simp only [loopN, Option.bind_eq_some_iff] at hn
    obtain ⟨s, h1, h2⟩ := hn
    obtain ⟨e, st', h3, h4⟩ := hstep v0 st0 s h0 h1 (fun b' hb => by subst hb; simpa using h2)
    unfold W
    rw [E_loop, h3]
    cases e with
    | normal =>
      obtain ⟨v', rfl, h5⟩ := h4
      exact ih h5 h2
    | exit id => exact ⟨_, _, rfl, h4⟩
    | ret => exact ⟨_, _, rfl, h4⟩

theorem W_rangeL {α V Bt : Type} {g : Int → α → V → Option (Step V Bt)} {fin : V → Bt} {c : Code} {K : Ex → St → Prop} {b : Bt} {l : List α} {v0 : V} {st0 : St} (hF : rangeL g fin 0 l v0 = some b) (rel : Nat → V → St → Prop) (h0 : rel 0 v0 st0)
    (hstep : ∀ (i : Nat) (hi : i < l.length) v st s, rel i v st → g i l[i] v = some s → (∀ b', s = .done b' → b' = b) → W P pol f ro c st fun e st' => match e with | .normal => ∃ v', s = .next v' ∧ rel (i + 1) v' st' | e => K e st')
    (hend : ∀ v st, rel l.length v st → fin v = b → W P pol f ro c st fun e st' => match e with | .normal => False | e => K e st') : W P pol f ro (.loop c) st0 K := by
  have key : ∀ (m i : Nat) (v : V) (st : St), l.length - i = m → i ≤ l.length → rel i v st → rangeL g fin i (l.drop i) v = some b → W P pol f ro (.loop c) st K := by
    intro m
    induction m with
    | zero =>
      intro i v st hm hi hr hF
      have hi : i = l.length := by omega
      subst hi
      rw [List.drop_length] at hF
      simp only [rangeL, Option.some.injEq] at hF
      obtain ⟨e, st', h3, h4⟩ := hend v st hr hF
      unfold W
      rw [E_loop, h3]
      cases e with
      | normal => exact h4.elim
      | exit id => exact ⟨_, _, rfl, h4⟩
      | ret => exact ⟨_, _, rfl, h4⟩
    | succ m ih =>
      intro i v st hm hi hr hF
      have hlt : i < l.length := by omega
      rw [List.drop_eq_getElem_cons hlt] at hF
      simp only [rangeL, Option.bind_eq_some_iff] at hF
      obtain ⟨s, h1, h2⟩ := hF
      obtain ⟨e, st', h3, h4⟩ := hstep i hlt v st s hr h1 (fun b' hb => by subst hb; simpa using h2)
      unfold W
      rw [E_loop, h3]
      cases e with
      | normal =>
        obtain ⟨v', rfl, h5⟩ := h4
        exact ih (i + 1) v' st' (by omega) (by omega) h5 h2
      | exit id => exact ⟨_, _, rfl, h4⟩
      | ret => exact ⟨_, _, rfl, h4⟩
  exact key l.length 0 v0 st0 rfl (Nat.zero_le _) h0 hF
theorem range_len {i n : Nat} (h : i < n) (hn : n < 2 ^ 62) : w64 ((i : Int) + 1) = ((i + 1 : Nat) : Int) := by
  rw [show w64 ((i : Int) + 1) = IntKind.i64.wrap ((i : Int) + 1) from rfl, wrap_id (by omega) (by omega)]; rfl
theorem range_lt {i n : Nat} (h : i < n) : decide ((i : Int) < (n : Int)) = true := decide_eq_true (by omega)
theorem range_ge (n : Nat) : decide ((n : Int) < (n : Int)) = false := decide_eq_false (by omega)
theorem rangeN_lt {i : Nat} {n : Int} (h : i < (List.range n.toNat).length) : decide ((i : Int) < n) = true := decide_eq_true (by simp at h; omega)
theorem rangeN_ge (n : Int) : decide (((List.range n.toNat).length : Int) < n) = false := decide_eq_false (by simp; omega)
theorem rangeN_len {i : Nat} {n : Int} (h : i < (List.range n.toNat).length) (hn : n < 2 ^ 62) : w64 ((i : Int) + 1) = ((i + 1 : Nat) : Int) := range_len h (by simp; omega)

theorem upd_same {α : Type} {g : Nat → α} {t : Nat} {a : α} (h : g t = a) : upd g t a = g := by
  funext s; unfold upd; split
  · rename_i e; rw [e, h]
  · rfl

/-- What is known of some places of a function. -/
def AllEq {α : Type} (g : Nat → α) : List (Nat × α) → Prop
  | [] => True
  | p :: l => g p.1 = p.2 ∧ AllEq g l
def updL {α : Type} (g : Nat → α) : List (Nat × α) → Nat → α
  | [] => g
  | p :: l => upd (updL g l) p.1 p.2
theorem allEq {α : Type} {g : Nat → α} {l : List (Nat × α)} (h : AllEq g l) : ∃ t, g = updL t l := by
  refine ⟨g, ?_⟩
  induction l with
  | nil => rfl
  | cons p l ih => simp only [updL]; rw [← ih h.2, upd_same h.1]

/-- Ways that meet. -/
theorem W_cut {c : Code} {st : St} {K : Ex → St → Prop} (J : St → Prop) (h1 : ∀ st, J st → K .normal st) (h2 : W P pol f ro c st fun e st => match e with | .normal => J st | e => K e st) : W P pol f ro c st K := by
  refine W_mono h2 (fun e st h => ?_)
  cases e with
  | normal => exact h1 st h
  | _ => exact h
theorem W_loopcut {c : Code} {id : Nat} {st : St} {K : Ex → St → Prop} (J : St → Prop) (h1 : ∀ st, J st → K .normal st) (h2 : W P pol f ro c st (InBlock id fun e st => match e with | .normal => J st | e => K e st)) : W P pol f ro c st (InBlock id K) := by
  refine W_mono h2 (fun e st h => ?_)
  cases e with
  | normal => exact h1 st h
  | exit id' =>
    simp only [InBlock] at h ⊢
    by_cases e : id' = id
    · rw [if_pos e] at h ⊢; exact h1 st h
    · rw [if_neg e] at h ⊢; exact h
  | ret => exact h
theorem exOps_append {ops : Array Oper} {rid : Nat} {draw : Bool} : ∀ (l m : List Nat) (st : St), exOps P pol (A P pol) f ro ops rid draw (l ++ m) st = (exOps P pol (A P pol) f ro ops rid draw l st).bind (exOps P pol (A P pol) f ro ops rid draw m)
  | [], m, st => rfl
  | i :: l, m, st => by
    simp only [List.cons_append, exOps, Option.bind_assoc]
    congr 1; funext s; exact exOps_append l m s
theorem WO_cut {ops : Array Oper} {rid : Nat} {draw : Bool} {l : List Nat} {st : St} {K : St → Prop} (n : Nat) (J : St → Prop) (h1 : ∀ st, J st → WO P pol f ro ops rid draw (l.drop n) st K) (h2 : WO P pol f ro ops rid draw (l.take n) st J) : WO P pol f ro ops rid draw l st K := by
  obtain ⟨s1, h3, h4⟩ := h2
  obtain ⟨s2, h5, h6⟩ := h1 s1 h4
  refine ⟨s2, ?_, h6⟩
  rw [← List.take_append_drop n l, exOps_append, h3]
  exact h5

theorem rd_leaf {e : Ex} {st : St} {res : List ResultVar} {vs : List AV} {r : AV} {out : List Frame} {glob : List AObj} (he : e = .normal ∨ e = .ret) (hv : resultsOf P st res = some vs) (hr : retV st.hp.cur 3 (oneOf vs) = some r) (ho : st.hp.out = out) (hg : st.hp.glob = glob) :
    (e = .normal ∨ e = .ret) ∧ ∃ vs, resultsOf P st res = some vs ∧ retV st.hp.cur 3 (oneOf vs) = some r ∧ st.hp.out = out ∧ st.hp.glob = glob := ⟨he, vs, hv, hr, ho, hg⟩
theorem mut_leaf {e : Ex} {st : St} {res : List ResultVar} {vs : List AV} {r : AV} {out : List Frame} {glob : List AObj} {d : Loc} {v : Nat} {cs' : List AV} (he : e = .normal ∨ e = .ret) (hv : resultsOf P st res = some vs) (hr : retV st.hp.cur 3 (oneOf vs) = some r) (hk : con2 st.hp.out st.hp.glob d v = .cells cs') (hs : Same d out glob st.hp.out st.hp.glob) :
    (e = .normal ∨ e = .ret) ∧ ∃ vs, resultsOf P st res = some vs ∧ retV st.hp.cur 3 (oneOf vs) = some r ∧ con2 st.hp.out st.hp.glob d v = .cells cs' ∧ Same d out glob st.hp.out st.hp.glob := ⟨he, vs, hv, hr, hk, hs⟩

/-- A function that changes nothing. -/
theorem rd_walk {g : FuncId} {fn : Func} {c : Code} {args : List AV} {out : List Frame} {glob : List AObj} {r : AV} (hf : P.funcs[g]? = some fn) (hc : fn.body = some c) (hn : ¬ fn.ntmps < args.length)
    (h : ∀ ro, W P pol g ro c ⟨argTmps args fn.ntmps, ⟨fun _ => ⟨0, .gone⟩, out, glob⟩⟩ fun e st => (e = .normal ∨ e = .ret) ∧ ∃ vs, resultsOf P st fn.results.toList = some vs ∧ retV st.hp.cur 3 (oneOf vs) = some r ∧ st.hp.out = out ∧ st.hp.glob = glob) :
    RdOk P pol true g args out glob r := by
  intro ro _
  obtain ⟨r0, h', h1, h2, h3, h4⟩ := A_walk (R := fun r0 hp => retV hp.cur 3 r0 = some r ∧ hp.out = out ∧ hp.glob = glob) hf hc hn (h ro)
  cases h'
  simp only at h3 h4
  subst h3 h4
  exact ⟨r0, _, h1, h2⟩
theorem rd_walkF {g : FuncId} {fn : Func} {c : Code} {args : List AV} {out : List Frame} {glob : List AObj} {r : AV} (hf : P.funcs[g]? = some fn) (hc : fn.body = some c) (hn : ¬ fn.ntmps < args.length)
    (h : W P pol g false c ⟨argTmps args fn.ntmps, ⟨fun _ => ⟨0, .gone⟩, out, glob⟩⟩ fun e st => (e = .normal ∨ e = .ret) ∧ ∃ vs, resultsOf P st fn.results.toList = some vs ∧ retV st.hp.cur 3 (oneOf vs) = some r ∧ st.hp.out = out ∧ st.hp.glob = glob) :
    RdOk P pol false g args out glob r := by
  intro ro hro
  have : ro = false := by cases ro <;> simp_all
  subst this
  obtain ⟨r0, h', h1, h2, h3, h4⟩ := A_walk (R := fun r0 hp => retV hp.cur 3 r0 = some r ∧ hp.out = out ∧ hp.glob = glob) hf hc hn h
  cases h'
  simp only at h3 h4
  subst h3 h4
  exact ⟨r0, _, h1, h2⟩
/-- A function that changes one object. -/
theorem mut_walk {g : FuncId} {fn : Func} {c : Code} {args : AV → List AV} {cs cs' : List AV} {r : AV} (hf : P.funcs[g]? = some fn) (hc : fn.body = some c) (hn : ∀ a, ¬ fn.ntmps < (args a).length)
    (h : ∀ (out : List Frame) (glob : List AObj) (d : Loc) (v : Nat), d.here = false → con2 out glob d v = .cells cs → W P pol g false c ⟨argTmps (args (.ptr d v 0)) fn.ntmps, ⟨fun _ => ⟨0, .gone⟩, out, glob⟩⟩ fun e st => (e = .normal ∨ e = .ret) ∧
      ∃ vs, resultsOf P st fn.results.toList = some vs ∧ retV st.hp.cur 3 (oneOf vs) = some r ∧ con2 st.hp.out st.hp.glob d v = .cells cs' ∧ Same d out glob st.hp.out st.hp.glob) :
    MutOk P pol g args cs r cs' := by
  intro out glob d v hd hk
  obtain ⟨r0, h', h1, h2, h3, h4⟩ := A_walk (R := fun r0 hp => retV hp.cur 3 r0 = some r ∧ con2 hp.out hp.glob d v = .cells cs' ∧ Same d out glob hp.out hp.glob) hf hc (hn _) (h out glob d v hd hk)
  exact ⟨r0, h'.cur, h'.out, h'.glob, h1, h2, h3, h4⟩
/-- A call that hands an array over. -/
def RdM (P : Program) (pol : Pol) (any : Bool) (g : FuncId) (args : List AV) (out : List Frame) (glob : List AObj) {α : Type} (n : Nat) (c : α → List AV) (a : Ar α) (rest : List AV) : Prop :=
  ∀ ro, (any || !ro) = true → ∃ cur t v, A P pol ro g args out glob = some (oneOf (.rsl (.fr 0 t) v 0 a.list.length :: rest), ⟨cur, out, glob⟩) ∧ cur t = ⟨v, a.con n c⟩
theorem rdm_leaf {e : Ex} {st : St} {res : List ResultVar} {α : Type} {n : Nat} {c : α → List AV} {a : Ar α} {rest : List AV} {t v : Nat} {out : List Frame} {glob : List AObj} (he : e = .normal ∨ e = .ret) (hv : resultsOf P st res = some (.rsl (.fr 0 t) v 0 a.list.length :: rest)) (ha : st.hp.cur t = ⟨v, a.con n c⟩) (ho : st.hp.out = out) (hg : st.hp.glob = glob) (_ : True := True.intro) :
    (e = .normal ∨ e = .ret) ∧ ∃ vs, resultsOf P st res = some vs ∧ (∃ t v, oneOf vs = oneOf (.rsl (.fr 0 t) v 0 a.list.length :: rest) ∧ st.hp.cur t = ⟨v, a.con n c⟩) ∧ st.hp.out = out ∧ st.hp.glob = glob := ⟨he, _, hv, ⟨t, v, rfl, ha⟩, ho, hg⟩
theorem rdm_walk {g : FuncId} {fn : Func} {cd : Code} {args : List AV} {out : List Frame} {glob : List AObj} {α : Type} {n : Nat} {c : α → List AV} {a : Ar α} {rest : List AV} (hf : P.funcs[g]? = some fn) (hc : fn.body = some cd) (hn : ¬ fn.ntmps < args.length)
    (h : ∀ ro, W P pol g ro cd ⟨argTmps args fn.ntmps, ⟨fun _ => ⟨0, .gone⟩, out, glob⟩⟩ fun e st => (e = .normal ∨ e = .ret) ∧ ∃ vs, resultsOf P st fn.results.toList = some vs ∧ (∃ t v, oneOf vs = oneOf (.rsl (.fr 0 t) v 0 a.list.length :: rest) ∧ st.hp.cur t = ⟨v, a.con n c⟩) ∧ st.hp.out = out ∧ st.hp.glob = glob) :
    RdM P pol true g args out glob n c a rest := by
  intro ro _
  obtain ⟨r0, h', h1, ⟨t, v, h2, h3⟩, h4, h5⟩ := A_walk (R := fun r0 hp => (∃ t v, r0 = oneOf (.rsl (.fr 0 t) v 0 a.list.length :: rest) ∧ hp.cur t = ⟨v, a.con n c⟩) ∧ hp.out = out ∧ hp.glob = glob) hf hc hn (h ro)
  cases h'
  simp only at h3 h4 h5
  subst h2 h4 h5
  exact ⟨_, t, v, h1, h3⟩
theorem WO_muR {ops : Array Oper} {rid i : Nat} {draw : Bool} {l : List Nat} {tm : Nat → AV} {K : St → Prop} {cur : Frame} {out : List Frame} {glob : List AObj} {h' : Heap} {y : AV} (o : Oper) (cl : Call) {g : FuncId} {args args2 : List AV} {α : Type} {n : Nat} {c : α → List AV} [hcs : ∀ x, Cs (c x)] {a : Ar α} {b : AV} {rest : List AV} (ho : ops[i]? = some o) (hw : wanted ops o tm = some true) (hop : o.op = .call cl)
    (hwho : whoOf P (St.ev tm) cl = some (.func g args)) (hi : pol.intr g = none) (hmu : pol.mu f rid i = true) {any : Bool} (hr : (any || !(ro || drawn pol f rid ops draw i)) = true) (hd : drawn pol f rid ops draw i = false) [ha : PushL args args2] (hok : RdM P pol any g args2 (cur :: out) glob n c a (b :: rest)) [hp : PlL (b :: rest)]
    (hy : AV.tup (.rsl (.fr 0 (slotOf o + 1000)) ((cur (slotOf o + 1000)).ver + 1) 0 a.list.length :: b :: rest) = y) (hh : (⟨upd cur (slotOf o + 1000) ⟨(cur (slotOf o + 1000)).ver + 1, a.con n c⟩, out, glob⟩ : Heap) = h')
    (h : WO P pol f ro ops rid draw l ⟨putT tm o.dst y, h'⟩ K) : WO P pol f ro ops rid draw (i :: l) ⟨tm, ⟨cur, out, glob⟩⟩ K := by
  obtain ⟨cur0, t, v, h1, h2⟩ := hok (ro || drawn pol f rid ops draw i) hr
  subst hy hh
  refine WO_do o ho hw (opF_call (hp := ⟨cur, out, glob⟩) o cl hop hwho hi ha.tr h1 ?_) h
  have hm : mapO (AV.trav (AV.mapLoc Loc.pop)) (b :: rest) = some (b :: rest) := (mapO_trav _ _).trans (hp.tr _)
  have hl : ∀ l : List α, mapO (mapO (AV.trav (AV.mapLoc Loc.pop))) (l.map c) = some (l.map c) := mapO_cs _ (fun x => (mapO_trav _ _).trans ((hcs x).tr _))
  simp only [landOf, hd, hmu, oneOf]
  cases a with
  | nil => simp only [Ar.con] at h2; simp only [moveAll, h2, Ar.list, hm]; simp [mapO, Heap.alloc, Ar.con]
  | full l => simp only [Ar.con] at h2; simp only [moveAll, h2, Ar.list, hm]; simp [hl, Heap.alloc, Ar.con]
theorem WO_muR1 {ops : Array Oper} {rid i : Nat} {draw : Bool} {l : List Nat} {tm : Nat → AV} {K : St → Prop} {cur : Frame} {out : List Frame} {glob : List AObj} {h' : Heap} {y : AV} (o : Oper) (cl : Call) {g : FuncId} {args args2 : List AV} {α : Type} {n : Nat} {c : α → List AV} [hcs : ∀ x, Cs (c x)] {a : Ar α} (ho : ops[i]? = some o) (hw : wanted ops o tm = some true) (hop : o.op = .call cl)
    (hwho : whoOf P (St.ev tm) cl = some (.func g args)) (hi : pol.intr g = none) (hmu : pol.mu f rid i = true) {any : Bool} (hr : (any || !(ro || drawn pol f rid ops draw i)) = true) (hd : drawn pol f rid ops draw i = false) [ha : PushL args args2] (hok : RdM P pol any g args2 (cur :: out) glob n c a [])
    (hy : (.rsl (.fr 0 (slotOf o + 1000)) ((cur (slotOf o + 1000)).ver + 1) 0 a.list.length) = y) (hh : (⟨upd cur (slotOf o + 1000) ⟨(cur (slotOf o + 1000)).ver + 1, a.con n c⟩, out, glob⟩ : Heap) = h')
    (h : WO P pol f ro ops rid draw l ⟨putT tm o.dst y, h'⟩ K) : WO P pol f ro ops rid draw (i :: l) ⟨tm, ⟨cur, out, glob⟩⟩ K := by
  obtain ⟨cur0, t, v, h1, h2⟩ := hok (ro || drawn pol f rid ops draw i) hr
  subst hy hh
  refine WO_do o ho hw (opF_call (hp := ⟨cur, out, glob⟩) o cl hop hwho hi ha.tr h1 ?_) h
  have hl : ∀ l : List α, mapO (mapO (AV.trav (AV.mapLoc Loc.pop))) (l.map c) = some (l.map c) := mapO_cs _ (fun x => (mapO_trav _ _).trans ((hcs x).tr _))
  simp only [landOf, hd, hmu, oneOf]
  cases a with
  | nil => simp only [Ar.con] at h2; simp [moveAll, h2, Ar.list, mapO, Heap.alloc, Ar.con]
  | full l => simp only [Ar.con] at h2; simp [moveAll, h2, Ar.list, hl, mapO, Heap.alloc, Ar.con]

/-- A law. -/
theorem law_leaf {e : Ex} {st : St} {res : List ResultVar} {r : AV} (he : e = .normal ∨ e = .ret) (hv : (resultsOf P st res).map oneOf = some r) : (e = .normal ∨ e = .ret) ∧ ∃ vs, resultsOf P st res = some vs ∧ oneOf vs = r := by
  simp only [Option.map_eq_some_iff] at hv
  obtain ⟨vs, h1, h2⟩ := hv
  exact ⟨he, vs, h1, h2⟩
theorem law_walk {g : FuncId} {fn : Func} {c : Code} {args : List AV} {out : List Frame} {glob : List AObj} {r : AV} (hf : P.funcs[g]? = some fn) (hc : fn.body = some c) (hn : ¬ fn.ntmps < args.length)
    (h : W P pol g false c ⟨argTmps args fn.ntmps, ⟨fun _ => ⟨0, .gone⟩, out, glob⟩⟩ fun e st => (e = .normal ∨ e = .ret) ∧ ∃ vs, resultsOf P st fn.results.toList = some vs ∧ oneOf vs = r) :
    ∃ h, A P pol false g args out glob = some (r, h) := by
  obtain ⟨r0, h', h1, h2⟩ := A_walk (R := fun r0 _ => r0 = r) hf hc hn h
  subst h2
  exact ⟨h', h1⟩
theorem WO_lim {ops : Array Oper} {rid i : Nat} {draw : Bool} {l : List Nat} {tm : Nat → AV} {K : St → Prop} {cur : Frame} {out : List Frame} {glob : List AObj} (o : Oper) (c : Call) {g : FuncId} (ho : ops[i]? = some o) (hw : wanted ops o tm = some true) (hop : o.op = .call c)
    (hwho : whoOf P (St.ev tm) c = some (.func g [])) (hi : pol.intr g = none) (hmu : pol.mu f rid i = false) (hr : ro = false) (hd : drawn pol f rid ops draw i = false) (hg : glob = []) (hA : ∀ out, ∃ r h', A P pol false g [] out [] = some (r, h') ∧ (r = .bool true ∧ h'.out = out))
    (h : ∀ glob', WO P pol f ro ops rid draw l ⟨putT tm o.dst (.bool true), ⟨cur, out, glob'⟩⟩ K) : WO P pol f ro ops rid draw (i :: l) ⟨tm, ⟨cur, out, glob⟩⟩ K := by
  subst hg hr
  obtain ⟨r, h', h1, rfl, h3⟩ := hA (cur :: out)
  refine WO_do o ho hw (opF_call (hp := ⟨cur, out, []⟩) o c hop hwho hi (args2 := []) rfl (by rw [hd]; exact h1) ?_) (h h'.glob)
  have e : retV h'.cur 3 (.bool true) = some (.bool true) := retV_pl _ _ _
  simp [landOf, hd, hmu, h3, e]

-- short names
theorem M {ops : Array Oper} {rid i : Nat} {draw : Bool} {l : List Nat} {tm : Nat → AV} {hp h' : Heap} {K : St → Prop} (d : Nat) (y : AV) (h1 : stepOp P pol (A P pol) f ro ops rid draw i ⟨tm, hp⟩ = some ⟨upd tm d y, h'⟩) (h : WO P pol f ro ops rid draw l ⟨upd tm d y, h'⟩ K) : WO P pol f ro ops rid draw (i :: l) ⟨tm, hp⟩ K := WO_cons h1 h
theorem L {ops : Array Oper} {rid i : Nat} {draw : Bool} {l : List Nat} {tm : Nat → AV} {hp h' : Heap} {K : St → Prop} {o : Oper} (y : AV) (ho : ops[i]? = some o) (hw : wanted ops o tm = some true)
    (h1 : opF P pol (A P pol) f ro rid i (drawn pol f rid ops draw i) o (St.ev tm) hp = some (y, h')) (h : WO P pol f ro ops rid draw l ⟨putT tm o.dst y, h'⟩ K) : WO P pol f ro ops rid draw (i :: l) ⟨tm, hp⟩ K := WO_do o ho hw h1 h
theorem sq {a b : Code} {st : St} {K : Ex → St → Prop} (h : W P pol f ro a st (Then P pol f ro b K)) : W P pol f ro (.seq a b) st K := W_seq h
theorem rg {id : Nat} {ops : Array Oper} {st : St} {K : Ex → St → Prop} (h : WO P pol f ro ops id false (List.range ops.size) st (K .normal)) : W P pol f ro (.region id ops false) st K := W_region h
theorem dw {id : Nat} {ops : Array Oper} {st : St} {K : Ex → St → Prop} (hr : regionOk pol f id ops = true) (h : WO P pol f ro ops id true (List.range ops.size) st (K .normal)) : W P pol f ro (.region id ops true) st K := W_draw hr h
theorem nl {ops : Array Oper} {rid : Nat} {draw : Bool} {st : St} {K : St → Prop} (h : K st) : WO P pol f ro ops rid draw [] st K := WO_nil h
theorem sk {st : St} {K : Ex → St → Prop} (h : K .normal st) : W P pol f ro .skip st K := W_skip h
theorem bk {id : Nat} {c : Code} {st : St} {K : Ex → St → Prop} (h : W P pol f ro c st (InBlock id K)) : W P pol f ro (.block id c) st K := W_block h
theorem cd {c : Operand} {a b : Code} {st : St} {K : Ex → St → Prop} (t : Bool) (ht : aBool (St.ev st.tmps c) = some t) (h1 : t = true → W P pol f ro a st K) (h2 : t = false → W P pol f ro b st K) : W P pol f ro (.cond c a b) st K := W_cond t ht h1 h2
theorem xt {id : Nat} {st : St} {K : Ex → St → Prop} (h : K (.exit id) st) : W P pol f ro (.exit id) st K := W_exit h
theorem rt {st : St} {K : Ex → St → Prop} (h : K .ret st) : W P pol f ro .ret st K := W_ret h
end Go.AE
