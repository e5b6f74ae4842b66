/- Loops, function starts and ends, states that are known in part. -/
import Derived.Test.YtimnggioioeehabGreatDoorGxOps
namespace Go.AE

variable {P : Program} {pol : Pol} {f : FuncId} {ro : Bool}

theorem W_loopV {V Bt : Type} {body : V → Option (Step V Bt)} {c : Code} {K : Ex → St → Prop} {b : Bt} {v0 : V} {st0 : St} (hF : loopV body v0 = some b) (rel : V → St → Prop) (h0 : rel v0 st0)
    (hstep : ∀ v st s, rel v st → body v = some s → (∀ b', s = .done b' → b' = b) → W P pol f ro c st fun e st' => match e with | .normal => ∃ v', s = .next v' ∧ rel v' st' | e => K e st') : W P pol f ro (.loop c) st0 K := by
  obtain ⟨n, hn⟩ := loopV_some.1 hF
  clear hF
  induction n generalizing v0 st0 with
  | zero => simp [loopN] at hn
  | succ n ih =>
    simp only [loopN, Option.bind_eq_some_iff] at hn
    obtain ⟨s, h1, h2⟩ := hn
    obtain ⟨e, st', h3, h4⟩ := hstep v0 st0 s h0 h1 (fun b' hb => by subst hb; simpa using h2)
    unfold W
    rw [E_loop, h3]
    cases e with
    | normal =>
      obtain ⟨v', rfl, h5⟩ := h4
      exact ih h5 h2
    | exit id => exact ⟨_, _, rfl, h4⟩
    | ret => exact ⟨_, _, rfl, h4⟩

theorem W_rangeL {α V Bt : Type} {g : Int → α → V → Option (Step V Bt)} {fin : V → Bt} {c : Code} {K : Ex → St → Prop} {b : Bt} {l : List α} {v0 : V} {st0 : St} (hF : rangeL g fin 0 l v0 = some b) (rel : Nat → V → St → Prop) (h0 : rel 0 v0 st0)
    (hstep : ∀ (i : Nat) (hi : i < l.length) v st s, rel i v st → g i l[i] v = some s → (∀ b', s = .done b' → b' = b) → W P pol f ro c st fun e st' => match e with | .normal => ∃ v', s = .next v' ∧ rel (i + 1) v' st' | e => K e st')
    (hend : ∀ v st, rel l.length v st → fin v = b → W P pol f ro c st fun e st' => match e with | .normal => False | e => K e st') : W P pol f ro (.loop c) st0 K := by
  have key : ∀ (m i : Nat) (v : V) (st : St), l.length - i = m → i ≤ l.length → rel i v st → rangeL g fin i (l.drop i) v = some b → W P pol f ro (.loop c) st K := by
    intro m
    induction m with
    | zero =>
      intro i v st hm hi hr hF
      have hi : i = l.length := by omega
      subst hi
      rw [List.drop_length] at hF
      simp only [rangeL, Option.some.injEq] at hF
      obtain ⟨e, st', h3, h4⟩ := hend v st hr hF
      unfold W
      rw [E_loop, h3]
      cases e with
      | normal => exact h4.elim
      | exit id => exact ⟨_, _, rfl, h4⟩
      | ret => exact ⟨_, _, rfl, h4⟩
    | succ m ih =>
      intro i v st hm hi hr hF
      have hlt : i < l.length := by omega
      rw [List.drop_eq_getElem_cons hlt] at hF
      simp only [rangeL, Option.bind_eq_some_iff] at hF
      obtain ⟨s, h1, h2⟩ := hF
      obtain ⟨e, st', h3, h4⟩ := hstep i hlt v st s hr h1 (fun b' hb => by subst hb; simpa using h2)
      unfold W
      rw [E_loop, h3]
      cases e with
      | normal =>
        obtain ⟨v', rfl, h5⟩ := h4
        exact ih (i + 1) v' st' (by omega) (by omega) h5 h2
      | exit id => exact ⟨_, _, rfl, h4⟩
      | ret => exact ⟨_, _, rfl, h4⟩
  exact key l.length 0 v0 st0 rfl (Nat.zero_le _) h0 hF
theorem range_len {i n : Nat} (h : i < n) (hn : n < 2 ^ 62) : w64 ((i : Int) + 1) = ((i + 1 : Nat) : Int) := by
  rw [show w64 ((i : Int) + 1) = IntKind.i64.wrap ((i : Int) + 1) from rfl, wrap_id (by omega) (by omega)]; rfl
theorem range_lt {i n : Nat} (h : i < n) : decide ((i : Int) < (n : Int)) = true := decide_eq_true (by omega)
theorem range_ge (n : Nat) : decide ((n : Int) < (n : Int)) = false := decide_eq_false (by omega)
theorem rangeN_lt {i : Nat} {n : Int} (h : i < (List.range n.toNat).length) : decide ((i : Int) < n) = true := decide_eq_true (by simp at h; omega)
theorem rangeN_ge (n : Int) : decide (((List.range n.toNat).length : Int) < n) = false := decide_eq_false (by simp; omega)
theorem rangeN_len {i : Nat} {n : Int} (h : i < (List.range n.toNat).length) (hn : n < 2 ^ 62) : w64 ((i : Int) + 1) = ((i + 1 : Nat) : Int) := range_len h (by simp; omega)

theorem upd_same {α : Type} {g : Nat → α} {t : Nat} {a : α} (h : g t = a) : upd g t a = g := by
  funext s; unfold upd; split
  · rename_i e; rw [e, h]
  · rfl

/-- What is known of some places of a function. -/
def AllEq {α : Type} (g : Nat → α) : List (Nat × α) → Prop
  | [] => True
  | p :: l => g p.1 = p.2 ∧ AllEq g l
def updL {α : Type} (g : Nat → α) : List (Nat × α) → Nat → α
  | [] => g
  | p :: l => upd (updL g l) p.1 p.2
theorem allEq {α : Type} {g : Nat → α} {l : List (Nat × α)} (h : AllEq g l) : ∃ t, g = updL t l := by
  refine ⟨g, ?_⟩
  induction l with
  | nil => rfl
  | cons p l ih => simp only [updL]; rw [← ih h.2, upd_same h.1]

/-- Ways that meet. -/
theorem W_cut {c : Code} {st : St} {K : Ex → St → Prop} (J : St → Prop) (h1 : ∀ st, J st → K .normal st) (h2 : W P pol f ro c st fun e st => match e with | .normal => J st | e => K e st) : W P pol f ro c st K := by
  refine W_mono h2 (fun e st h => ?_)
  cases e with
  | normal => exact h1 st h
  | _ => exact h
theorem W_loopcut {c : Code} {id : Nat} {st : St} {K : Ex → St → Prop} (J : St → Prop) (h1 : ∀ st, J st → K .normal st) (h2 : W P pol f ro c st (InBlock id fun e st => match e with | .normal => J st | e => K e st)) : W P pol f ro c st (InBlock id K) := by
  refine W_mono h2 (fun e st h => ?_)
  cases e with
  | normal => exact h1 st h
  | exit id' =>
    simp only [InBlock] at h ⊢
    by_cases e : id' = id
    · rw [if_pos e] at h ⊢; exact h1 st h
    · rw [if_neg e] at h ⊢; exact h
  | ret => exact h
theorem exOps_append {ops : Array Oper} {rid : Nat} {draw : Bool} : ∀ (l m : List Nat) (st : St), exOps P pol (A P pol) f ro ops rid draw (l ++ m) st = (exOps P pol (A P pol) f ro ops rid draw l st).bind (exOps P pol (A P pol) f ro ops rid draw m)
  | [], m, st => rfl
  | i :: l, m, st => by
    simp only [List.cons_append, exOps, Option.bind_assoc]
    congr 1; funext s; exact exOps_append l m s
theorem WO_cut {ops : Array Oper} {rid : Nat} {draw : Bool} {l : List Nat} {st : St} {K : St → Prop} (n : Nat) (J : St → Prop) (h1 : ∀ st, J st → WO P pol f ro ops rid draw (l.drop n) st K) (h2 : WO P pol f ro ops rid draw (l.take n) st J) : WO P pol f ro ops rid draw l st K := by
  obtain ⟨s1, h3, h4⟩ := h2
  obtain ⟨s2, h5, h6⟩ := h1 s1 h4
  refine ⟨s2, ?_, h6⟩
  rw [← List.take_append_drop n l, exOps_append, h3]
  exact h5

theorem rd_leaf {e : Ex} {st : St} {res : List ResultVar} {vs : List AV} {r : AV} {out : List Frame} {glob : List AObj} (he : e = .normal ∨ e = .ret) (hv : resultsOf P st res = some vs) (hr : retV st.hp.cur 3 (oneOf vs) = some r) (ho : st.hp.out = out) (hg : st.hp.glob = glob) :
    (e = .normal ∨ e = .ret) ∧ ∃ vs, resultsOf P st res = some vs ∧ retV st.hp.cur 3 (oneOf vs) = some r ∧ st.hp.out = out ∧ st.hp.glob = glob := ⟨he, vs, hv, hr, ho, hg⟩
theorem mut_leaf {e : Ex} {st : St} {res : List ResultVar} {vs : List AV} {r : AV} {out : List Frame} {glob : List AObj} {d : Loc} {v : Nat} {cs' : List AV} (he : e = .normal ∨ e = .ret) (hv : resultsOf P st res = some vs) (hr : retV st.hp.cur 3 (oneOf vs) = some r) (hk : con2 st.hp.out st.hp.glob d v = .cells cs') (hs : Same d out glob st.hp.out st.hp.glob) :
    (e = .normal ∨ e = .ret) ∧ ∃ vs, resultsOf P st res = some vs ∧ retV st.hp.cur 3 (oneOf vs) = some r ∧ con2 st.hp.out st.hp.glob d v = .cells cs' ∧ Same d out glob st.hp.out st.hp.glob := ⟨he, vs, hv, hr, hk, hs⟩

/-- A function that changes nothing. -/
theorem rd_walk {g : FuncId} {fn : Func} {c : Code} {args : List AV} {out : List Frame} {glob : List AObj} {r : AV} (hf : P.funcs[g]? = some fn) (hc : fn.body = some c) (hn : ¬ fn.ntmps < args.length)
    (h : ∀ ro, W P pol g ro c ⟨argTmps args fn.ntmps, ⟨fun _ => ⟨0, .gone⟩, out, glob⟩⟩ fun e st => (e = .normal ∨ e = .ret) ∧ ∃ vs, resultsOf P st fn.results.toList = some vs ∧ retV st.hp.cur 3 (oneOf vs) = some r ∧ st.hp.out = out ∧ st.hp.glob = glob) :
    RdOk P pol true g args out glob r := by
  intro ro _
  obtain ⟨r0, h', h1, h2, h3, h4⟩ := A_walk (R := fun r0 hp => retV hp.cur 3 r0 = some r ∧ hp.out = out ∧ hp.glob = glob) hf hc hn (h ro)
  cases h'
  simp only at h3 h4
  subst h3 h4
  exact ⟨r0, _, h1, h2⟩
theorem rd_walkF {g : FuncId} {fn : Func} {c : Code} {args : List AV} {out : List Frame} {glob : List AObj} {r : AV} (hf : P.funcs[g]? = some fn) (hc : fn.body = some c) (hn : ¬ fn.ntmps < args.length)
    (h : W P pol g false c ⟨argTmps args fn.ntmps, ⟨fun _ => ⟨0, .gone⟩, out, glob⟩⟩ fun e st => (e = .normal ∨ e = .ret) ∧ ∃ vs, resultsOf P st fn.results.toList = some vs ∧ retV st.hp.cur 3 (oneOf vs) = some r ∧ st.hp.out = out ∧ st.hp.glob = glob) :
    RdOk P pol false g args out glob r := by
  intro ro hro
  have : ro = false := by cases ro <;> simp_all
  subst this
  obtain ⟨r0, h', h1, h2, h3, h4⟩ := A_walk (R := fun r0 hp => retV hp.cur 3 r0 = some r ∧ hp.out = out ∧ hp.glob = glob) hf hc hn h
  cases h'
  simp only at h3 h4
  subst h3 h4
  exact ⟨r0, _, h1, h2⟩
/-- A function that changes one object. -/
theorem mut_walk {g : FuncId} {fn : Func} {c : Code} {args : AV → List AV} {cs cs' : List AV} {r : AV} (hf : P.funcs[g]? = some fn) (hc : fn.body = some c) (hn : ∀ a, ¬ fn.ntmps < (args a).length)
    (h : ∀ (out : List Frame) (glob : List AObj) (d : Loc) (v : Nat), d.here = false → con2 out glob d v = .cells cs → W P pol g false c ⟨argTmps (args (.ptr d v 0)) fn.ntmps, ⟨fun _ => ⟨0, .gone⟩, out, glob⟩⟩ fun e st => (e = .normal ∨ e = .ret) ∧
      ∃ vs, resultsOf P st fn.results.toList = some vs ∧ retV st.hp.cur 3 (oneOf vs) = some r ∧ con2 st.hp.out st.hp.glob d v = .cells cs' ∧ Same d out glob st.hp.out st.hp.glob) :
    MutOk P pol g args cs r cs' := by
  intro out glob d v hd hk
  obtain ⟨r0, h', h1, h2, h3, h4⟩ := A_walk (R := fun r0 hp => retV hp.cur 3 r0 = some r ∧ con2 hp.out hp.glob d v = .cells cs' ∧ Same d out glob hp.out hp.glob) hf hc (hn _) (h out glob d v hd hk)
  exact ⟨r0, h'.cur, h'.out, h'.glob, h1, h2, h3, h4⟩
/-- A law. -/
theorem law_leaf {e : Ex} {st : St} {res : List ResultVar} {r : AV} (he : e = .normal ∨ e = .ret) (hv : (resultsOf P st res).map oneOf = some r) : (e = .normal ∨ e = .ret) ∧ ∃ vs, resultsOf P st res = some vs ∧ oneOf vs = r := by
  simp only [Option.map_eq_some_iff] at hv
  obtain ⟨vs, h1, h2⟩ := hv
  exact ⟨he, vs, h1, h2⟩
theorem law_walk {g : FuncId} {fn : Func} {c : Code} {args : List AV} {out : List Frame} {glob : List AObj} {r : AV} (hf : P.funcs[g]? = some fn) (hc : fn.body = some c) (hn : ¬ fn.ntmps < args.length)
    (h : W P pol g false c ⟨argTmps args fn.ntmps, ⟨fun _ => ⟨0, .gone⟩, out, glob⟩⟩ fun e st => (e = .normal ∨ e = .ret) ∧ ∃ vs, resultsOf P st fn.results.toList = some vs ∧ oneOf vs = r) :
    ∃ h, A P pol false g args out glob = some (r, h) := by
  obtain ⟨r0, h', h1, h2⟩ := A_walk (R := fun r0 _ => r0 = r) hf hc hn h
  subst h2
  exact ⟨h', h1⟩
theorem WO_lim {ops : Array Oper} {rid i : Nat} {draw : Bool} {l : List Nat} {tm : Nat → AV} {K : St → Prop} {cur : Frame} {out : List Frame} {glob : List AObj} (o : Oper) (c : Call) {g : FuncId} (ho : ops[i]? = some o) (hw : wanted ops o tm = some true) (hop : o.op = .call c)
    (hwho : whoOf P (St.ev tm) c = some (.func g [])) (hi : plainCall pol f rid i g = true) (hmu : pol.mu f rid i = false) (hr : ro = false) (hd : drawn pol f rid ops draw i = false) (hg : glob = []) (hA : ∀ out, ∃ r h', A P pol false g [] out [] = some (r, h') ∧ (r = .bool true ∧ h'.out = out))
    (h : ∀ glob', WO P pol f ro ops rid draw l ⟨putT tm o.dst (.bool true), ⟨cur, out, glob'⟩⟩ K) : WO P pol f ro ops rid draw (i :: l) ⟨tm, ⟨cur, out, glob⟩⟩ K := by
  subst hg hr
  obtain ⟨r, h', h1, rfl, h3⟩ := hA (cur :: out)
  refine WO_do o ho hw (opF_call (hp := ⟨cur, out, []⟩) o c hop hwho hi (args2 := []) rfl (by rw [hd]; exact h1) ?_) (h h'.glob)
  have e : retV h'.cur 3 (.bool true) = some (.bool true) := retV_pl _ _ _
  simp [landOf, hd, hmu, h3, e]

-- short names
theorem M {ops : Array Oper} {rid i : Nat} {draw : Bool} {l : List Nat} {tm : Nat → AV} {hp h' : Heap} {K : St → Prop} (d : Nat) (y : AV) (h1 : stepOp P pol (A P pol) f ro ops rid draw i ⟨tm, hp⟩ = some ⟨upd tm d y, h'⟩) (h : WO P pol f ro ops rid draw l ⟨upd tm d y, h'⟩ K) : WO P pol f ro ops rid draw (i :: l) ⟨tm, hp⟩ K := WO_cons h1 h
theorem L {ops : Array Oper} {rid i : Nat} {draw : Bool} {l : List Nat} {tm : Nat → AV} {hp h' : Heap} {K : St → Prop} {o : Oper} (y : AV) (ho : ops[i]? = some o) (hw : wanted ops o tm = some true)
    (h1 : opF P pol (A P pol) f ro rid i (drawn pol f rid ops draw i) o (St.ev tm) hp = some (y, h')) (h : WO P pol f ro ops rid draw l ⟨putT tm o.dst y, h'⟩ K) : WO P pol f ro ops rid draw (i :: l) ⟨tm, hp⟩ K := WO_do o ho hw h1 h
theorem sq {a b : Code} {st : St} {K : Ex → St → Prop} (h : W P pol f ro a st (Then P pol f ro b K)) : W P pol f ro (.seq a b) st K := W_seq h
theorem rg {id : Nat} {ops : Array Oper} {st : St} {K : Ex → St → Prop} (h : WO P pol f ro ops id false (List.range ops.size) st (K .normal)) : W P pol f ro (.region id ops false) st K := W_region h
theorem dw {id : Nat} {ops : Array Oper} {st : St} {K : Ex → St → Prop} (hr : regionOk pol f id ops = true) (h : WO P pol f ro ops id true (List.range ops.size) st (K .normal)) : W P pol f ro (.region id ops true) st K := W_draw hr h
theorem nl {ops : Array Oper} {rid : Nat} {draw : Bool} {st : St} {K : St → Prop} (h : K st) : WO P pol f ro ops rid draw [] st K := WO_nil h
theorem sk {st : St} {K : Ex → St → Prop} (h : K .normal st) : W P pol f ro .skip st K := W_skip h
theorem bk {id : Nat} {c : Code} {st : St} {K : Ex → St → Prop} (h : W P pol f ro c st (InBlock id K)) : W P pol f ro (.block id c) st K := W_block h
theorem cd {c : Operand} {a b : Code} {st : St} {K : Ex → St → Prop} (t : Bool) (ht : aBool (St.ev st.tmps c) = some t) (h1 : t = true → W P pol f ro a st K) (h2 : t = false → W P pol f ro b st K) : W P pol f ro (.cond c a b) st K := W_cond t ht h1 h2
theorem xt {id : Nat} {st : St} {K : Ex → St → Prop} (h : K (.exit id) st) : W P pol f ro (.exit id) st K := W_exit h
theorem rt {st : St} {K : Ex → St → Prop} (h : K .ret st) : W P pol f ro .ret st K := W_ret h

section lz
variable {ops : Array Oper} {rid i : Nat} {draw : Bool} {l : List Nat} {tm : Nat → AV} {K : St → Prop} {cur : Frame} {out : List Frame} {glob : List AObj} {α : Type} {n : Nat} {c : α → List AV} {x x' : Sl α} {s : Nat} {o : AObj}
theorem upd_upd {β : Type} (g : Nat → β) (t : Nat) (a b : β) : upd (upd g t a) t b = upd g t b := by
  funext u; unfold upd; split <;> rfl
theorem lz_len (d : Loc) (v : Nat) (x : Sl α) : lenOf (x.lav d v) = some x.list.length := by cases x <;> rfl
theorem con_at (hcur : cur s = o) : (⟨cur, out, glob⟩ : Heap).con (.fr 0 s) o.ver = o.con := by subst hcur; simp [Heap.con, Heap.obj]
theorem lz_elems [hc : ∀ x, Cs (c x)] (hcur : cur s = o) (hf : LzF n c o x) : elemsOf ⟨cur, out, glob⟩ (x.lav (.fr 0 s) o.ver) = some (x.list.map c) := by
  have hm : ∀ l : List α, mapO (mapO (Loc.fr 0 s).from) (l.map c) = some (l.map c) := mapO_cs _ (fun x => (mapO_trav _ _).trans ((hc x).tr _))
  cases x with
  | nil => rfl
  | ez => rfl
  | full xs => simp only [LzF] at hf; simp [Sl.lav, elemsOf, con_at hcur, hf, List.take_of_length_le, hm, Sl.list]
theorem lz_app [hc : ∀ x, Cs (c x)] {t e : TypeId} {xt : Option TypeId} {info : TypeInfo} {z : List AV} {xs : List α} {y : AV} (hu : P.underlying t = some (.slice e)) (hi : P.info? e = some info) (hz : zeroCells? P e = some z)
    (hn : info.size = n) (hzl : z.length = n) (h0 : n ≠ 0) (hcl : ∀ x, (c x).length = n) (hnoint : noInt P xt = true) (hy : elemsOf ⟨cur, out, glob⟩ y = some (xs.map c)) (hcur : cur s = o) (hf : LzF n c o x) (hap : x.app? info.bytes xs = some x') (hbt : (Loc.fr 0 s).bt = none) :
    ∃ o', appendOf P ro ⟨cur, out, glob⟩ true false s t xt (x.lav (.fr 0 s) o.ver) y = some (x'.lav (.fr 0 s) o'.ver, ⟨upd cur s o', out, glob⟩) ∧ LzF n c o' x' := by
  unfold Sl.app? at hap
  obtain ⟨hr, hap⟩ := ite_none hap
  simp only [Option.some.injEq] at hap
  subst hap
  have hall : (xs.map c).all (fun l => l.length == n && l.all AV.one) = true := by
    rw [List.all_eq_true]
    intro l hl
    obtain ⟨u, _, rfl⟩ := List.mem_map.1 hl
    simp only [hcl u, (hc u).one, beq_self_eq_true, Bool.and_true]
  have hinto : intoAllL (Loc.fr 0 s) (xs.map c) = some (xs.map c) := mapO_cs _ (fun x => intoAll_cs _ _) _
  have hz0 : ¬ (z.length ≠ n ∨ n = 0) := by omega
  unfold appendOf
  rw [if_neg (by simp [hnoint]), hu]
  simp only [hi, hz, Option.bind_some, hn, if_neg hz0, hy, hall, Bool.not_true, Bool.false_eq_true, if_false]
  have new : ∀ (y : α) (ys : List α), xs = y :: ys → x.list = [] → newSlice ⟨cur, out, glob⟩ true false s n (xs.map c) = some ((x.app xs).lav (.fr 0 s) (o.ver + 1), ⟨upd cur s ⟨o.ver + 1, .arr false n (xs.map c)⟩, out, glob⟩) := by
    intro y ys e hl
    unfold newSlice
    simp only [Heap.alloc, hcur]
    rw [if_neg h0]
    simp only [if_true, Bool.false_eq_true, if_false, hbt, Option.isSome_none, hinto, Option.map_some, Heap.setObj, upd_upd]
    subst e
    simp [Sl.app, hl, Sl.lav]
  cases x with
  | nil =>
    simp only [show (Sl.nil : Sl α).lav (Loc.fr 0 s) o.ver = AV.sl true 0 [] from rfl]
    cases xs with
    | nil => exact ⟨o, by simp [Sl.app, Sl.lav, upd_same hcur], trivial⟩
    | cons y ys =>
      simp only [Sl.list, List.length_nil, Nat.zero_add] at hr
      refine ⟨⟨o.ver + 1, .arr false n ((y :: ys).map c)⟩, ?_, by simp [Sl.app, LzF, Sl.list]⟩
      rw [← new y ys rfl rfl]
      simp only [List.map_cons, List.isEmpty_cons, Bool.false_eq_true, if_false, List.length_cons, List.length_map]
      rw [if_pos (by simpa using hr)]
  | ez =>
    simp only [show (Sl.ez : Sl α).lav (Loc.fr 0 s) o.ver = AV.ez from rfl]
    cases xs with
    | nil => exact ⟨o, by simp [Sl.app, Sl.lav, upd_same hcur], trivial⟩
    | cons y ys =>
      simp only [Sl.list, List.length_nil, Nat.zero_add] at hr
      refine ⟨⟨o.ver + 1, .arr false n ((y :: ys).map c)⟩, ?_, by simp [Sl.app, LzF, Sl.list]⟩
      rw [← new y ys rfl rfl]
      simp only [List.map_cons, List.isEmpty_cons, Bool.false_eq_true, if_false, List.length_cons, List.length_map]
      rw [if_pos (by simpa using hr)]
  | full l =>
    simp only [LzF] at hf
    simp only [Sl.list] at hr
    simp only [Sl.lav, Loc.here, Bool.not_true, Bool.and_false, Bool.false_eq_true, if_false, con_at hcur, hf, hbt]
    rw [if_pos (by simpa using hr), hinto]
    refine ⟨⟨o.ver + 1, .arr false n ((l ++ xs).map c)⟩, ?_, ?_⟩
    · cases xs with
      | nil => simp [Heap.setObj, Sl.app, Sl.lav]
      | cons y ys => simp [Heap.setObj, Sl.app, Sl.lav, Sl.list]
    · cases xs with
      | nil => simp [Sl.app, LzF]
      | cons y ys => simp [Sl.app, LzF, Sl.list]
/-- An append. -/
theorem WO_lzapp [hc : ∀ x, Cs (c x)] (op : Oper) {cl : Call} {a b : Operand} {t e : TypeId} {info : TypeInfo} {z : List AV} {xs : List α} {y : AV} (ho : ops[i]? = some op) (hw : wanted ops op tm = some true) (hop : op.op = .call cl) (hbl : cl.callee = .builtin .append) (hargs : cl.args = #[a, b]) (ht : cl.argTypes[0]? = some t)
    (hd : drawn pol f rid ops draw i = false) (hmu : pol.mu f rid i = true) (hgl : pol.glob f rid i = false) (hsl : slotAt pol f rid i op = s) (hx : St.ev tm a = x.lav (.fr 0 s) o.ver) (hyv : St.ev tm b = y)
    (hu : P.underlying t = some (.slice e)) (hi : P.info? e = some info) (hz : zeroCells? P e = some z) (hn : info.size = n) (hzl : z.length = n) (h0 : n ≠ 0) (hcl : ∀ x, (c x).length = n) (hnoint : noInt P cl.argTypes[1]? = true)
    (hy : elemsOf ⟨cur, out, glob⟩ y = some (xs.map c)) (hcur : cur s = o) (hf : LzF n c o x) (hap : x.app? info.bytes xs = some x')
    (h : ∀ o', LzF n c o' x' → WO P pol f ro ops rid draw l ⟨putT tm op.dst (x'.lav (.fr 0 s) o'.ver), ⟨upd cur s o', out, glob⟩⟩ K) (hbt : (Loc.fr 0 s).bt = none := by rfl) : WO P pol f ro ops rid draw (i :: l) ⟨tm, ⟨cur, out, glob⟩⟩ K := by
  obtain ⟨o', h1, h2⟩ := lz_app (ro := ro) hu hi hz hn hzl h0 hcl hnoint hy hcur hf hap hbt
  refine WO_do op ho hw (op_append hop hbl hargs ht hd ?_) (h o' h2)
  rw [hmu, hgl, hsl, hx, hyv]
  exact h1
theorem ix_lz {t e : TypeId} {k : IntKind} {j : Int} {y : α} (hu : P.underlying t = some (.slice e)) (hz : size? P e = some n) (hcur : cur s = o) (hf : LzF n c o x) (h : x.get? j = some y) :
    indexAddr P ⟨cur, out, glob⟩ t (x.lav (.fr 0 s) o.ver) (.int k j) = some (.eptr (.fr 0 s) o.ver j.toNat 0) := by
  unfold Sl.get? at h
  obtain ⟨h0, h⟩ := ite_none h
  cases x with
  | nil => simp [Sl.list] at h
  | ez => simp [Sl.list] at h
  | full l =>
    simp only [LzF] at hf
    simp only [Sl.list] at h
    have hlt := (List.getElem?_eq_some_iff.1 h).1
    simp only [Sl.lav, indexAddr, aInt, hu, hz, Option.bind_some, con_at hcur, hf]
    rw [if_pos (by simp; omega)]
    simp
theorem ld_lz {t : TypeId} {j : Int} {y : α} {k m : Nat} {ag : Bool} (r : AV) (ha : isAgg? P t = some ag) (hs : size? P t = some m) (hcur : cur s = o) (hf : LzF n c o x) (h : x.get? j = some y) (hr : readAs ag m (c y) k = some r) [Pl r] :
    loadAt P ⟨cur, out, glob⟩ t (.eptr (.fr 0 s) o.ver j.toNat k) = some r := by
  unfold Sl.get? at h
  obtain ⟨h0, h⟩ := ite_none h
  cases x with
  | nil => simp [Sl.list] at h
  | ez => simp [Sl.list] at h
  | full l =>
    simp only [LzF] at hf
    simp only [Sl.list] at h
    simp [loadAt, ha, hs, con_at hcur, hf, h, hr, from_pl]
/-- An element is written. -/
theorem WO_lzset (op : Oper) {t : TypeId} {a b : Operand} {j : Int} {y y' : α} {k : Nat} {vs : List AV} {w : AV} [hv : Vl w vs] [hcv : Cs vs] (ho : ops[i]? = some op) (hw : wanted ops op tm = some true) (hop : op.op = .store t a b) (hd : drawn pol f rid ops draw i = false)
    (ha : St.ev tm a = .eptr (.fr 0 s) o.ver j.toNat k) (hb : St.ev tm b = w) (hs : size? P t = some vs.length) (hcur : cur s = o) (hf : LzF n c o x) (h : x.get? j = some y) (hl : k + vs.length ≤ (c y).length) (hwr : writeAll (c y) k vs = c y') (hset : x.set? j y' = some x')
    (hK : ∀ o', LzF n c o' x' → o'.ver = o.ver → WO P pol f ro ops rid draw l ⟨putT tm op.dst (.tup []), ⟨upd cur s o', out, glob⟩⟩ K) (hbt : (Loc.fr 0 s).bt = none := by rfl) : WO P pol f ro ops rid draw (i :: l) ⟨tm, ⟨cur, out, glob⟩⟩ K := by
  unfold Sl.get? at h
  unfold Sl.set? at hset
  obtain ⟨h0, h⟩ := ite_none h
  obtain ⟨_, hset⟩ := ite_none hset
  simp only [Option.some.injEq] at hset
  subst hset
  have h2 : writeOver (c y) k vs.length vs = some (c y') := by simp [writeOver, hl, hwr]; exact fun a ha => by have := hcv.one; rw [List.all_eq_true] at this; exact this a ha
  cases x with
  | nil => simp [Sl.list] at h
  | ez => simp [Sl.list] at h
  | full xs =>
    simp only [LzF] at hf
    simp only [Sl.list] at h
    refine WO_do op ho hw (op_store (hp' := ⟨upd cur s ⟨o.ver, .arr false n ((xs.set j.toNat y').map c)⟩, out, glob⟩) hop hd ?_) (hK ⟨o.ver, .arr false n ((xs.set j.toNat y').map c)⟩ rfl rfl)
    rw [ha, hb]
    simp [storeAt, hs, Loc.here, con_at hcur, hf, hbt, h, hv.cells, intoAll_cs, h2, Heap.setObj, List.map_set]
theorem lav_set {j : Int} {y : α} {d : Loc} {o' : AObj} (h : x.set? j y = some x') (hv : o'.ver = o.ver) : x.lav d o.ver = x'.lav d o'.ver := by
  unfold Sl.set? at h
  obtain ⟨⟨h0, h1⟩, h⟩ := ite_none h
  simp only [Option.some.injEq] at h
  subst h
  cases x with
  | nil => simp [Sl.list] at h1; omega
  | ez => simp [Sl.list] at h1; omega
  | full l => simp [Sl.lav, hv, Sl.list]
theorem get_set {j : Int} {y : α} (h : x.set? j y = some x') : x'.get? j = some y := by
  unfold Sl.set? at h
  obtain ⟨⟨h0, h1⟩, h⟩ := ite_none h
  simp only [Option.some.injEq] at h
  subst h
  have h2 : j.toNat < x.list.length := by omega
  show (if 0 ≤ j then (x.list.set j.toNat y)[j.toNat]? else none) = some y
  rw [if_pos h0, List.getElem?_set]; simp [h2]
/-- What it is to the caller. -/
theorem ret_lz [hc : ∀ x, Cs (c x)] {m : Nat} (hcur : cur s = o) (hf : LzF n c o x) : retV cur (m + 1) (x.lav (.fr 0 s) o.ver) = some (x.av n c) := by
  have hm : ∀ l : List α, mapO (mapO (retV cur m)) (l.map c) = some (l.map c) := mapO_cs _ (fun x => by
    cases m with
    | zero => exact (mapO_trav _ _).trans ((hc x).tr _)
    | succ m => exact (mapO_trav _ _).trans ((hc x).tr _))
  subst hcur
  cases x with
  | nil => simp [retV, AV.trav, retLeaf, Sl.lav, Sl.av, AV.travLL]
  | ez => simp [retV, AV.trav, retLeaf, Sl.lav, Sl.av]
  | full l => simp only [LzF] at hf; simp [retV, AV.trav, retLeaf, hf, Sl.lav, Sl.av, List.take_of_length_le, hm]
theorem ret_lf [hc : ∀ x, Cs (c x)] {m : Nat} (hcur : cur s = o) (hf : LfF n c o x) : retV cur (m + 1) (x.lav (.fr 0 s) o.ver) = some (x.av n c) := by
  have hm : ∀ l : List α, mapO (mapO (retV cur m)) (l.map c) = some (l.map c) := mapO_cs _ (fun x => by
    cases m with
    | zero => exact (mapO_trav _ _).trans ((hc x).tr _)
    | succ m => exact (mapO_trav _ _).trans ((hc x).tr _))
  subst hcur
  cases x with
  | nil => simp [retV, AV.trav, retLeaf, Sl.lav, Sl.av, AV.travLL]
  | ez => simp [retV, AV.trav, retLeaf, Sl.lav, Sl.av]
  | full l => simp only [LfF] at hf; simp [retV, AV.trav, retLeaf, hf, Sl.lav, Sl.av, List.take_of_length_le, hm]
/-- From here on by its content. -/
theorem WO_lzfrz [hc : ∀ x, Cs (c x)] (op : Oper) {a : Operand} (ho : ops[i]? = some op) (hw : wanted ops op tm = some true) (hop : op.op = .move a) (hfz : pol.frz f rid i = true) (hd : drawn pol f rid ops draw i = false) (ha : St.ev tm a = x.lav (.fr 0 s) o.ver) (hcur : cur s = o) (hf : LzF n c o x ∨ LfF n c o x)
    (h : ∀ o', LfF n c o' x → o'.ver = o.ver → WO P pol f ro ops rid draw l ⟨putT tm op.dst (x.av n c), ⟨upd cur s o', out, glob⟩⟩ K) : WO P pol f ro ops rid draw (i :: l) ⟨tm, ⟨cur, out, glob⟩⟩ K := by
  have hm : ∀ l : List α, mapO (mapO (Loc.fr 0 s).from) (l.map c) = some (l.map c) := mapO_cs _ (fun x => (mapO_trav _ _).trans ((hc x).tr _))
  cases x with
  | nil => refine WO_do op ho hw (h' := ⟨upd cur s o, out, glob⟩) ?_ (h o trivial rfl); simp [opF, hop, hfz, hd, ha, Sl.lav, Sl.av, upd_same hcur]
  | ez => refine WO_do op ho hw (h' := ⟨upd cur s o, out, glob⟩) ?_ (h o trivial rfl); simp [opF, hop, hfz, hd, ha, Sl.lav, Sl.av, upd_same hcur]
  | full xs =>
    refine WO_do op ho hw (h' := ⟨upd cur s ⟨o.ver, .frz false n (xs.map c)⟩, out, glob⟩) ?_ (h ⟨o.ver, .frz false n (xs.map c)⟩ rfl rfl)
    rcases hf with hf | hf
    · simp only [LzF] at hf
      simp [opF, hop, hfz, hd, ha, Sl.lav, Sl.av, Loc.here, con_at hcur, hf, elemsOf, hm, Heap.setObj, List.take_of_length_le]
    · simp only [LfF] at hf
      simp [opF, hop, hfz, hd, ha, Sl.lav, Sl.av, Loc.here, con_at hcur, hf, elemsOf, hm, Heap.setObj, List.take_of_length_le]

/-- A call that hands a slice over. -/
def RdZ (P : Program) (pol : Pol) (any : Bool) (g : FuncId) (args : List AV) (out : List Frame) (glob : List AObj) {α : Type} (n : Nat) (c : α → List AV) (x : Sl α) (rest : List AV) : Prop :=
  ∀ ro, (any || !ro) = true → ∃ cur s o, A P pol ro g args out glob = some (oneOf (x.lav (.fr 0 s) o.ver :: rest), ⟨cur, out, glob⟩) ∧ cur s = o ∧ LzF n c o x ∧ (Loc.fr 0 s).bt = none
theorem rdz_leaf {e : Ex} {st : St} {res : List ResultVar} {rest : List AV} (he : e = .normal ∨ e = .ret) (hv : resultsOf P st res = some (x.lav (.fr 0 s) o.ver :: rest)) (hcur : st.hp.cur s = o) (hf : LzF n c o x) (ho : st.hp.out = out) (hg : st.hp.glob = glob) (hbt : (Loc.fr 0 s).bt = none := by rfl) :
    (e = .normal ∨ e = .ret) ∧ ∃ vs, resultsOf P st res = some vs ∧ (∃ s o, oneOf vs = oneOf (x.lav (.fr 0 s) o.ver :: rest) ∧ st.hp.cur s = o ∧ LzF n c o x ∧ (Loc.fr 0 s).bt = none) ∧ st.hp.out = out ∧ st.hp.glob = glob := ⟨he, _, hv, ⟨s, o, rfl, hcur, hf, hbt⟩, ho, hg⟩
theorem rdz_walk {g : FuncId} {fn : Func} {cd : Code} {args : List AV} {rest : List AV} (hfn : P.funcs[g]? = some fn) (hcd : fn.body = some cd) (hn : ¬ fn.ntmps < args.length)
    (h : ∀ ro, W P pol g ro cd ⟨argTmps args fn.ntmps, ⟨fun _ => ⟨0, .gone⟩, out, glob⟩⟩ fun e st => (e = .normal ∨ e = .ret) ∧ ∃ vs, resultsOf P st fn.results.toList = some vs ∧ (∃ s o, oneOf vs = oneOf (x.lav (.fr 0 s) o.ver :: rest) ∧ st.hp.cur s = o ∧ LzF n c o x ∧ (Loc.fr 0 s).bt = none) ∧ st.hp.out = out ∧ st.hp.glob = glob) :
    RdZ P pol true g args out glob n c x rest := by
  intro ro _
  obtain ⟨r0, h', h1, ⟨s, o, h2, h3, h3'⟩, h4, h5⟩ := A_walk (R := fun r0 hp => (∃ s o, r0 = oneOf (x.lav (.fr 0 s) o.ver :: rest) ∧ hp.cur s = o ∧ LzF n c o x ∧ (Loc.fr 0 s).bt = none) ∧ hp.out = out ∧ hp.glob = glob) hfn hcd hn (h ro)
  cases h'
  simp only at h3 h4 h5
  subst h2 h4 h5
  exact ⟨_, s, o, h1, h3, h3'⟩
theorem rdz_walkF {g : FuncId} {fn : Func} {cd : Code} {args : List AV} {rest : List AV} (hfn : P.funcs[g]? = some fn) (hcd : fn.body = some cd) (hn : ¬ fn.ntmps < args.length)
    (h : W P pol g false cd ⟨argTmps args fn.ntmps, ⟨fun _ => ⟨0, .gone⟩, out, glob⟩⟩ fun e st => (e = .normal ∨ e = .ret) ∧ ∃ vs, resultsOf P st fn.results.toList = some vs ∧ (∃ s o, oneOf vs = oneOf (x.lav (.fr 0 s) o.ver :: rest) ∧ st.hp.cur s = o ∧ LzF n c o x ∧ (Loc.fr 0 s).bt = none) ∧ st.hp.out = out ∧ st.hp.glob = glob) :
    RdZ P pol false g args out glob n c x rest := by
  intro ro hro
  have : ro = false := by cases ro <;> simp_all
  subst this
  obtain ⟨r0, h', h1, ⟨s, o, h2, h3, h3'⟩, h4, h5⟩ := A_walk (R := fun r0 hp => (∃ s o, r0 = oneOf (x.lav (.fr 0 s) o.ver :: rest) ∧ hp.cur s = o ∧ LzF n c o x ∧ (Loc.fr 0 s).bt = none) ∧ hp.out = out ∧ hp.glob = glob) hfn hcd hn h
  cases h'
  simp only at h3 h4 h5
  subst h2 h4 h5
  exact ⟨_, s, o, h1, h3, h3'⟩
class NoRsl (a : AV) : Prop where
  no : ∀ d v off len, a ≠ .rsl d v off len
instance (k : IntKind) (m : Int) : NoRsl (.int k m) := ⟨nofun⟩
instance (m : Bool) : NoRsl (.bool m) := ⟨nofun⟩
instance (m : ByteArray) : NoRsl (.str m) := ⟨nofun⟩
instance (m : List AV) : NoRsl (.agg m) := ⟨nofun⟩
instance (x : Sl α) : NoRsl (x.av n c) := ⟨by cases x <;> nofun⟩
class RestOk (l : List AV) : Prop where
  mv : ∀ cur st slot, moveAll cur st slot l = some (l, st)
  pop : mapO (AV.trav (AV.mapLoc Loc.pop)) l = some l
instance : RestOk [] := ⟨fun _ _ _ => rfl, rfl⟩
instance (a : AV) (l : List AV) [h : Pl a] [k : NoRsl a] [m : RestOk l] : RestOk (a :: l) := ⟨fun cur st slot => by
  have ha : a.trav (AV.mapLoc Loc.pop) = some a := h.tr _
  have hr := m.mv cur st slot
  cases a with
  | rsl d v off len => exact absurd rfl (k.no d v off len)
  | _ => simp [moveAll, ha, hr], by simp [mapO, h.tr, m.pop]⟩
theorem moveAll_lz [hc : ∀ x, Cs (c x)] {rest : List AV} [hp : RestOk rest] {cur0 : Frame} {s0 : Nat} {o0 : AObj} (slot : Nat) (hcur : cur0 s0 = o0) (hf : LzF n c o0 x) (hbt : (Loc.fr 0 slot).bt = none) (hb0 : (Loc.fr 0 s0).bt = none) :
    ∃ o', moveAll cur0 ⟨cur, out, glob⟩ slot (x.lav (.fr 0 s0) o0.ver :: rest) = some (x.lav (.fr 0 slot) o'.ver :: rest, ⟨upd cur slot o', out, glob⟩) ∧ LzF n c o' x := by
  have hl : ∀ l : List α, mapO (mapO (AV.trav (AV.mapLoc Loc.pop))) (l.map c) = some (l.map c) := mapO_cs _ (fun x => (mapO_trav _ _).trans ((hc x).tr _))
  cases x with
  | nil => exact ⟨cur slot, by simp [Sl.lav, moveAll, AV.trav, AV.travLL, hp.mv, upd_same], trivial⟩
  | ez => exact ⟨cur slot, by simp [Sl.lav, moveAll, AV.trav, hp.mv, upd_same], trivial⟩
  | full xs =>
    simp only [LzF] at hf
    subst hcur
    refine ⟨⟨(cur slot).ver + 1, .arr false n (xs.map c)⟩, ?_, rfl⟩
    simp [Sl.lav, moveAll, hf, hl, hp.pop, Heap.alloc, hbt, hb0]
theorem WO_zR [hcs : ∀ x, Cs (c x)] (op : Oper) (cl : Call) {g : FuncId} {args args2 : List AV} {b : AV} {rest : List AV} (ho : ops[i]? = some op) (hw : wanted ops op tm = some true) (hop : op.op = .call cl)
    (hwho : whoOf P (St.ev tm) cl = some (.func g args)) (hi : plainCall pol f rid i g = true) (hmu : pol.mu f rid i = true) {any : Bool} (hr : (any || !(ro || drawn pol f rid ops draw i)) = true) (hd : drawn pol f rid ops draw i = false) (hsl : slotAt pol f rid i op + 1000 = s) [ha : PushL args args2] (hok : RdZ P pol any g args2 (cur :: out) glob n c x (b :: rest)) [hp : RestOk (b :: rest)]
    (h : ∀ o', LzF n c o' x → WO P pol f ro ops rid draw l ⟨putT tm op.dst (.tup (x.lav (.fr 0 s) o'.ver :: b :: rest)), ⟨upd cur s o', out, glob⟩⟩ K) (hbt : (Loc.fr 0 s).bt = none := by rfl) : WO P pol f ro ops rid draw (i :: l) ⟨tm, ⟨cur, out, glob⟩⟩ K := by
  obtain ⟨cur0, s0, o0, h1, h2, h3, hb0⟩ := hok (ro || drawn pol f rid ops draw i) hr
  obtain ⟨o', h4, h5⟩ := moveAll_lz (cur := cur) (out := out) (glob := glob) (rest := b :: rest) s h2 h3 hbt hb0
  refine WO_do op ho hw (opF_call (hp := ⟨cur, out, glob⟩) op cl hop hwho hi ha.tr h1 ?_) (h o' h5)
  simp only [landOf, hd, hmu, oneOf, hsl]
  simp [h4]
theorem WO_zR1 [hcs : ∀ x, Cs (c x)] (op : Oper) (cl : Call) {g : FuncId} {args args2 : List AV} (ho : ops[i]? = some op) (hw : wanted ops op tm = some true) (hop : op.op = .call cl)
    (hwho : whoOf P (St.ev tm) cl = some (.func g args)) (hi : plainCall pol f rid i g = true) (hmu : pol.mu f rid i = true) {any : Bool} (hr : (any || !(ro || drawn pol f rid ops draw i)) = true) (hd : drawn pol f rid ops draw i = false) (hsl : slotAt pol f rid i op + 1000 = s) [ha : PushL args args2] (hok : RdZ P pol any g args2 (cur :: out) glob n c x [])
    (h : ∀ o', LzF n c o' x → WO P pol f ro ops rid draw l ⟨putT tm op.dst (x.lav (.fr 0 s) o'.ver), ⟨upd cur s o', out, glob⟩⟩ K) (hbt : (Loc.fr 0 s).bt = none := by rfl) : WO P pol f ro ops rid draw (i :: l) ⟨tm, ⟨cur, out, glob⟩⟩ K := by
  obtain ⟨cur0, s0, o0, h1, h2, h3, hb0⟩ := hok (ro || drawn pol f rid ops draw i) hr
  obtain ⟨o', h4, h5⟩ := moveAll_lz (cur := cur) (out := out) (glob := glob) (rest := []) s h2 h3 hbt hb0
  refine WO_do op ho hw (opF_call (hp := ⟨cur, out, glob⟩) op cl hop hwho hi ha.tr h1 ?_) (h o' h5)
  simp only [landOf, hd, hmu, oneOf, hsl]
  cases x with
  | nil => simp only [Sl.lav] at h4 ⊢; simp [h4]
  | ez => simp only [Sl.lav] at h4 ⊢; simp [h4]
  | full xs => simp only [Sl.lav] at h4 ⊢; simp [h4]
theorem from_fr0 (s : Nat) (a : AV) : (Loc.fr 0 s).from a = some a := by
  have h : Loc.up 0 = some := by funext c; cases c <;> simp [Loc.up]
  simp only [Loc.from, h]; exact trav_id a
theorem into_fr0 (s : Nat) (a : AV) : (Loc.fr 0 s).into a = some a := by
  have h : Loc.down 0 = some := by funext c; cases c <;> simp [Loc.down]
  simp only [Loc.into, h]; exact trav_id a
theorem intoAll_fr0 (s : Nat) : ∀ l : List AV, intoAll (Loc.fr 0 s) l = some l
  | [] => rfl
  | a :: l => by have := intoAll_fr0 s l; unfold intoAll at this ⊢; simp [mapO, into_fr0, this]
/-- Own cells are read, whatever they hold. -/
theorem ld_fr {t : TypeId} {v off k : Nat} {ag : Bool} {cs : List AV} {y : AV} (ha : isAgg? P t = some ag) (hs : size? P t = some k) (hcur : cur s = ⟨v, .cells cs⟩) (hr : readAs ag k cs off = some y) : loadAt P ⟨cur, out, glob⟩ t (.ptr (.fr 0 s) v off) = some y := by
  simp [loadAt, ha, hs, con_fr hcur, hr, from_fr0]
/-- Own cells are written, whatever they hold. -/
theorem st_fr0 {t : TypeId} {v off : Nat} {cs vs : List AV} {w : AV} (cs' : List AV) (hx : w.cells = some vs) (h1 : vs.all AV.one = true) (hs : size? P t = some vs.length) (hcur : cur s = ⟨v, .cells cs⟩) (hl : off + vs.length ≤ cs.length)
    (hw : writeAll cs off vs = cs') : storeAt P ro ⟨cur, out, glob⟩ t (.ptr (.fr 0 s) v off) w = some ⟨upd cur s ⟨v, .cells cs'⟩, out, glob⟩ := by
  have h2 : writeOver cs off vs.length vs = some cs' := by simp only [writeOver, hl, hw, h1]; simp
  simp [storeAt, hs, Loc.here, con_fr hcur, hx, intoAll_fr0, h2, Heap.setObj]
theorem cells_lav (d : Loc) (v : Nat) (x : Sl α) : (x.lav d v).cells = some [x.lav d v] := by cases x <;> rfl
theorem one_lav (d : Loc) (v : Nat) (x : Sl α) : [x.lav d v].all AV.one = true := by cases x <;> rfl
theorem one_lav1 (d : Loc) (v : Nat) (x : Sl α) : (x.lav d v).one = true := by cases x <;> rfl
theorem one_av1 (n : Nat) (c : α → List AV) (x : Sl α) : (x.av n c).one = true := by cases x <;> rfl
/-- Results that hold cells. -/
theorem res_nil {st : St} : resultsOf P st [] = some [] := rfl
theorem res_tmp {st : St} {t : Tmp} {r : List ResultVar} {vs : List AV} (y : AV) (hy : st.tmps t = y) (h : resultsOf P st r = some vs) : resultsOf P st (.tmp t :: r) = some (y :: vs) := by subst hy; simp [resultsOf, h]
theorem res_cell {st : St} {a : Tmp} {t : TypeId} {r : List ResultVar} {y : AV} {vs : List AV} (hy : loadAt P st.hp t (st.tmps a) = some y) (h : resultsOf P st r = some vs) : resultsOf P st (.cell a t :: r) = some (y :: vs) := by simp [resultsOf, hy, h]
end lz
/-- A list of values, each as the caller sees it. -/
def RetL (cur : Frame) (m : Nat) : List AV → List AV → Prop
  | [], [] => True
  | a :: l, b :: r => retV cur (m + 1) a = some b ∧ RetL cur m l r
  | _, _ => False
theorem retL_trav {cur : Frame} {m : Nat} : ∀ {l r : List AV}, RetL cur m l r → AV.travL (retLeaf cur (retV cur m)) l = some r
  | [], [], _ => rfl
  | a :: l, b :: r, h => by
    have h1 := h.1
    simp only [retV] at h1
    simp [AV.travL, h1, retL_trav h.2]
  | [], _ :: _, h => h.elim
  | _ :: _, [], h => h.elim
theorem retL_nil {cur : Frame} {m : Nat} : RetL cur m [] [] := trivial
theorem retL_cons {cur : Frame} {m : Nat} {a b : AV} {l r : List AV} (h1 : retV cur (m + 1) a = some b) (h2 : RetL cur m l r) : RetL cur m (a :: l) (b :: r) := ⟨h1, h2⟩
theorem ret_agg {cur : Frame} {m : Nat} {l r cs : List AV} (h : RetL cur m l r) (he : cs = r) : retV cur (m + 1) (.agg l) = some (.agg cs) := by
  subst he; simp [retV, AV.trav, retL_trav h]
theorem bin_ageq {P : Program} {t : TypeId} {cs ds : List AV} {xc yc b : Bool} (h1 : P.eqGuardType P.depth t = false) (h2 : eqFields P 20 t (.agg cs) (.agg ds) = some b) : binOf P .eql t (.agg cs) (.agg ds) xc yc = some (bA b) := by
  simp [binOf, h1, h2, negIf, bA]
theorem bin_agne {P : Program} {t : TypeId} {cs ds : List AV} {xc yc b : Bool} (h1 : P.eqGuardType P.depth t = false) (h2 : eqFields P 20 t (.agg cs) (.agg ds) = some b) : binOf P .neq t (.agg cs) (.agg ds) xc yc = some (bA (!b)) := by
  simp [binOf, h1, h2, negIf, bA]
end Go.AE
