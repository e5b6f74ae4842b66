/- Slices over arrays that are lent to a call: rules for walking. -/
import Derived.Test.YtimnggioioeehabGreatDoorGxArr
namespace Go.AE
variable {P : Program} {pol : Pol} {f : FuncId} {ro : Bool} {rid i : Nat} {draw : Bool} {ops : Array Oper} {l : List Nat} {tm : Nat → AV} {K : St → Prop}
variable {α : Type} {n : Nat} {c : α → List AV} {x x' : Sl α} {d : Loc} {v s : Nat} {o : AObj} {cur : Frame} {out : List Frame} {glob : List AObj}

/-- What the array at d holds. -/
def LdF (out : List Frame) (glob : List AObj) (d : Loc) (v n : Nat) (c : α → List AV) : Sl α → Prop
  | .full xs => con2 out glob d v = .arr false n (xs.map c)
  | _ => True
theorem LdF.own (hcur : cur s = o) (hf : LzF n c o x) : LdF (cur :: out) glob (.fr 1 s) o.ver n c x := by
  cases x with
  | nil => trivial
  | ez => trivial
  | full xs => exact con2_own cur out glob (by subst hcur; simp only [LzF] at hf; rw [← hf])
theorem LdF.inn (hh : d.here = false) (hf : LdF out glob d v n c x) : LdF (cur :: out) glob d.inn v n c x := by
  cases x with
  | nil => trivial
  | ez => trivial
  | full xs => exact (con2_inn cur out glob d v).trans ((con_con2 _ _ _ _ _ hh).trans hf)
instance (x : Sl α) (d : Loc) (v : Nat) : Push (x.lav d v) (x.lav d.inn v) := ⟨by cases x <;> simp [Sl.lav, AV.trav, AV.travLL, AV.mapLoc, Loc.push_inn]⟩
theorem ix_ld {t e : TypeId} {k : IntKind} {j : Int} {y : α} (hu : P.underlying t = some (.slice e)) (hz : size? P e = some n) (hh : d.here = false) (hf : LdF out glob d v n c x) (h : x.get? j = some y) :
    indexAddr P ⟨cur, out, glob⟩ t (x.lav d v) (.int k j) = some (.eptr d v j.toNat 0) := by
  unfold Sl.get? at h
  obtain ⟨h0, h⟩ := ite_none h
  cases x with
  | nil => simp [Sl.list] at h
  | ez => simp [Sl.list] at h
  | full l =>
    simp only [LdF] at hf
    simp only [Sl.list] at h
    have hlt := (List.getElem?_eq_some_iff.1 h).1
    simp only [Sl.lav, indexAddr, aInt, hu, hz, Option.bind_some, con_con2 _ _ _ _ _ hh, hf]
    rw [if_pos (by simp; omega)]
    simp
theorem ld_ld {t : TypeId} {j : Int} {y : α} {k m : Nat} {ag : Bool} (r : AV) (ha : isAgg? P t = some ag) (hs : size? P t = some m) (hh : d.here = false) (hf : LdF out glob d v n c x) (h : x.get? j = some y) (hr : readAs ag m (c y) k = some r) [Pl r] :
    loadAt P ⟨cur, out, glob⟩ t (.eptr d v j.toNat k) = some r := by
  unfold Sl.get? at h
  obtain ⟨h0, h⟩ := ite_none h
  cases x with
  | nil => simp [Sl.list] at h
  | ez => simp [Sl.list] at h
  | full l =>
    simp only [LdF] at hf
    simp only [Sl.list] at h
    simp [loadAt, ha, hs, con_con2 _ _ _ _ _ hh, hf, h, hr, from_pl]
theorem ld_elems [hc : ∀ x, Cs (c x)] (hh : d.here = false) (hf : LdF out glob d v n c x) : elemsOf ⟨cur, out, glob⟩ (x.lav d v) = some (x.list.map c) := by
  have hm : ∀ l : List α, mapO (mapO d.from) (l.map c) = some (l.map c) := mapO_cs _ (fun x => by
    have := (hc x).tr
    cases d with
    | fr k t => exact (mapO_trav _ _).trans (this _)
    | gl j =>
      have : ∀ l : List AV, mapO (Loc.gl j).from l = some l := by
        intro l
        induction l with
        | nil => rfl
        | cons a l ih => simp [mapO, Loc.from, ih]
      exact this _)
  cases x with
  | nil => rfl
  | ez => rfl
  | full xs => simp only [LdF] at hf; simp [Sl.lav, elemsOf, con_con2 _ _ _ _ _ hh, hf, List.take_of_length_le, hm, Sl.list]
theorem lav_setD {j : Int} {y : α} (h : x.set? j y = some x') : x.lav d v = x'.lav d v := by
  unfold Sl.set? at h
  obtain ⟨⟨h0, h1⟩, h⟩ := ite_none h
  simp only [Option.some.injEq] at h
  subst h
  cases x with
  | nil => simp [Sl.list] at h1; omega
  | ez => simp [Sl.list] at h1; omega
  | full l => simp [Sl.lav, Sl.list]
/-- An element is written. -/
theorem WO_ldset (op : Oper) {t : TypeId} {a b : Operand} {j : Int} {y y' : α} {k : Nat} {vs : List AV} {w : AV} [hv : Vl w vs] [hcv : Cs vs] (ho : ops[i]? = some op) (hw : wanted ops op tm = some true) (hop : op.op = .store t a b) (hd : drawn pol f rid ops draw i = false) (hro : ro = false)
    (ha : St.ev tm a = .eptr d v j.toNat k) (hb : St.ev tm b = w) (hs : size? P t = some vs.length) (hh : d.here = false) (hbt : d.bt = none) (hf : LdF out glob d v n c x) (h : x.get? j = some y) (hl : k + vs.length ≤ (c y).length) (hwr : writeAll (c y) k vs = c y') (hset : x.set? j y' = some x')
    (hK : ∀ out' glob', LdF out' glob' d v n c x' → Same d out glob out' glob' → x.lav d v = x'.lav d v → WO P pol f ro ops rid draw l ⟨putT tm op.dst (.tup []), ⟨cur, out', glob'⟩⟩ K) : WO P pol f ro ops rid draw (i :: l) ⟨tm, ⟨cur, out, glob⟩⟩ K := by
  have hlav : x.lav d v = x'.lav d v := lav_setD hset
  unfold Sl.get? at h
  unfold Sl.set? at hset
  obtain ⟨h0, h⟩ := ite_none h
  obtain ⟨_, hset⟩ := ite_none hset
  simp only [Option.some.injEq] at hset
  subst hset
  have h2 : writeOver (c y) k vs.length vs = some (c y') := by simp [writeOver, hl, hwr]; exact fun a ha => by have := hcv.one; rw [List.all_eq_true] at this; exact this a ha
  cases x with
  | nil => simp [Sl.list] at h
  | ez => simp [Sl.list] at h
  | full xs =>
    simp only [LdF] at hf
    simp only [Sl.list] at h
    obtain ⟨out', glob', e1, e2, e3⟩ := set_out (k' := .arr false n ((xs.set j.toNat y').map c)) hh hf (by simp) v
    refine WO_do op ho hw (op_store hop hd ?_) (hK out' glob' e2 e3 hlav)
    rw [ha, hb]
    have hk : (⟨cur, out, glob⟩ : Heap).con d v = .arr false n (xs.map c) := (con_con2 _ _ _ _ _ hh).trans hf
    simp [storeAt, hs, hro, hk, hbt, h, hv.cells, intoAll_cs, h2, List.map_set] at e1 ⊢
    exact e1 cur

/-- A call that may change the elements of an array. -/
def MutR (P : Program) (pol : Pol) (g : FuncId) (args : AV → List AV) (n : Nat) (c : α → List AV) (x : Sl α) (r : AV) (x' : Sl α) : Prop :=
  ∀ out glob d v, d.here = false → d.bt = none → LdF out glob d v n c x → ∃ r0 cur out' glob', A P pol false g (args (x.lav d v)) out glob = some (r0, ⟨cur, out', glob'⟩) ∧ retV cur 3 r0 = some r ∧
    LdF out' glob' d v n c x' ∧ Same d out glob out' glob' ∧ ∀ d v, x.lav d v = x'.lav d v
theorem MutR.lavR {g : FuncId} {args : AV → List AV} {r : AV} (h : MutR P pol g args n c x r x') : ∀ d v, x.lav d v = x'.lav d v := by
  have hf : LdF [fun _ => ⟨0, match x with | .full xs => .arr false n (xs.map c) | _ => .gone⟩] [] (.fr 1 0) 0 n c x := by
    cases x <;> first | trivial | rfl
  obtain ⟨_, _, _, _, _, _, _, _, h5⟩ := h _ _ (.fr 1 0) 0 rfl rfl hf
  exact h5
theorem mutR_walk {g : FuncId} {fn : Func} {cd : Code} {args : AV → List AV} {r : AV} (hf : P.funcs[g]? = some fn) (hc : fn.body = some cd) (hn : ∀ a, ¬ fn.ntmps < (args a).length)
    (h : ∀ (out : List Frame) (glob : List AObj) (d : Loc) (w : Nat), d.here = false → d.bt = none → LdF out glob d w n c x → W P pol g false cd ⟨argTmps (args (x.lav d w)) fn.ntmps, ⟨fun _ => ⟨0, .gone⟩, out, glob⟩⟩ fun ex st => (ex = .normal ∨ ex = .ret) ∧
      ∃ vs, resultsOf P st fn.results.toList = some vs ∧ retV st.hp.cur 3 (oneOf vs) = some r ∧ LdF st.hp.out st.hp.glob d w n c x' ∧ Same d out glob st.hp.out st.hp.glob ∧ ∀ d v, x.lav d v = x'.lav d v) :
    MutR P pol g args n c x r x' := by
  intro out glob d w hd hb hk
  obtain ⟨r0, h', h1, h2, h3, h4, h5⟩ := A_walk (R := fun r0 hp => retV hp.cur 3 r0 = some r ∧ LdF hp.out hp.glob d w n c x' ∧ Same d out glob hp.out hp.glob ∧ ∀ d v, x.lav d v = x'.lav d v) hf hc (hn _) (by
    refine W_mono (h out glob d w hd hb hk) ?_
    rintro ex st ⟨he, vs, k1, k2, k3, k4, k5⟩
    exact ⟨he, vs, k1, k2, k3, k4, k5⟩)
  exact ⟨r0, h'.cur, h'.out, h'.glob, h1, h2, h3, h4, h5⟩
theorem mutR_leaf {ex : Ex} {st : St} {res : List ResultVar} {vs : List AV} {r : AV} {w : Nat} (he : ex = .normal ∨ ex = .ret) (hv : resultsOf P st res = some vs) (hr : retV st.hp.cur 3 (oneOf vs) = some r)
    (hk : LdF st.hp.out st.hp.glob d w n c x') (hs : Same d out glob st.hp.out st.hp.glob) (hq : ∀ d v, x.lav d v = x'.lav d v) :
    (ex = .normal ∨ ex = .ret) ∧ ∃ vs, resultsOf P st res = some vs ∧ retV st.hp.cur 3 (oneOf vs) = some r ∧ LdF st.hp.out st.hp.glob d w n c x' ∧ Same d out glob st.hp.out st.hp.glob ∧ ∀ d v, x.lav d v = x'.lav d v := ⟨he, vs, hv, hr, hk, hs, hq⟩
/-- Back in the frame that called. -/
theorem Same.backL {out' : List Frame} {glob' : List AObj} (hk : LdF out' glob' (.fr 1 s) o.ver n c x') (hs : Same (.fr 1 s) (cur :: out) glob out' glob') (hq : ∀ d v, x.lav d v = x'.lav d v) :
    ∃ o', out' = upd cur s o' :: out ∧ glob' = glob ∧ LzF n c o' x' ∧ x.lav (.fr 0 s) o.ver = x'.lav (.fr 0 s) o'.ver := by
  obtain ⟨h1, h2, h3⟩ := hs
  match out', h1 with
  | cur' :: out'', h1 =>
    have e1 : cur' = upd cur s (cur' s) := by
      funext t
      unfold upd
      split
      · rename_i e; rw [e]
      · rename_i e; exact h3 (.fr 1 t) (by simpa using e) rfl
    have e2 : out'' = out := frames_eq (by simpa using h1) (fun n t => h3 (.fr (n + 2) t) (by simp) rfl)
    refine ⟨cur' s, by rw [← e1, e2], glob_eq h2 (fun n => h3 (.gl n) (by simp) rfl), ?_⟩
    cases x' with
    | nil => exact ⟨trivial, by rw [hq]; rfl⟩
    | ez => exact ⟨trivial, by rw [hq]; rfl⟩
    | full xs =>
      simp only [LdF] at hk
      obtain ⟨k1, k2⟩ := con_eq hk (by simp)
      simp only [Heap.obj, List.getElem?_cons_zero] at k1 k2
      exact ⟨k2, by rw [hq, k1]⟩
/-- A call that may change the elements of an array of this frame. -/
theorem WO_mutRL (op : Oper) (cl : Call) {g : FuncId} {args : AV → List AV} {r : AV} (ho : ops[i]? = some op) (hw : wanted ops op tm = some true) (hop : op.op = .call cl)
    (hwho : whoOf P (St.ev tm) cl = some (.func g (args (x.lav (.fr 0 s) o.ver)))) (hi : plainCall pol f rid i g = true) (hmu : pol.mu f rid i = false) (hr : (ro || drawn pol f rid ops draw i) = false)
    (ha : ∀ d v, PushL (args (x.lav d v)) (args (x.lav d.inn v))) (hcur : cur s = o) (hf : LzF n c o x) (hok : MutR P pol g args n c x r x')
    (h : ∀ o', LzF n c o' x' → x.lav (.fr 0 s) o.ver = x'.lav (.fr 0 s) o'.ver → WO P pol f ro ops rid draw l ⟨putT tm op.dst r, ⟨upd cur s o', out, glob⟩⟩ K) (hbt : (Loc.fr 0 s).bt = none := by rfl) : WO P pol f ro ops rid draw (i :: l) ⟨tm, ⟨cur, out, glob⟩⟩ K := by
  obtain ⟨r0, cur0, out', glob', h1, h2, h3, h4, h5⟩ := hok (cur :: out) glob (.fr 1 s) o.ver rfl hbt (LdF.own hcur hf)
  obtain ⟨o', rfl, rfl, h6, h7⟩ := Same.backL h3 h4 h5
  refine WO_do op ho hw (opF_call (hp := ⟨cur, out, _⟩) op cl hop hwho hi (ha _ _).tr (by rw [hr]; exact h1) ?_) (h o' h6 h7)
  simp only [Bool.or_eq_false_iff] at hr
  simp [landOf, hr.2, hmu, h2]
/-- .. of an array further out. -/
theorem WO_mutRP (op : Oper) (cl : Call) {g : FuncId} {args : AV → List AV} {r : AV} (ho : ops[i]? = some op) (hw : wanted ops op tm = some true) (hop : op.op = .call cl)
    (hwho : whoOf P (St.ev tm) cl = some (.func g (args (x.lav d v)))) (hi : plainCall pol f rid i g = true) (hmu : pol.mu f rid i = false) (hr : (ro || drawn pol f rid ops draw i) = false)
    (ha : ∀ d v, PushL (args (x.lav d v)) (args (x.lav d.inn v))) (hd : d.here = false) (hb : d.bt = none) (hk : LdF out glob d v n c x) (hok : MutR P pol g args n c x r x')
    (h : ∀ out' glob', LdF out' glob' d v n c x' → Same d out glob out' glob' → x.lav d v = x'.lav d v → WO P pol f ro ops rid draw l ⟨putT tm op.dst r, ⟨cur, out', glob'⟩⟩ K) : WO P pol f ro ops rid draw (i :: l) ⟨tm, ⟨cur, out, glob⟩⟩ K := by
  obtain ⟨r0, cur0, out', glob', h1, h2, h3, h4, h5⟩ := hok (cur :: out) glob d.inn v (inn_here d) (by rw [bt_inn]; exact hb) (hk.inn hd)
  obtain ⟨out'', rfl, h6⟩ := Same.pop hd h4
  have h7 : LdF out'' glob' d v n c x' := by
    cases x' with
    | nil => trivial
    | ez => trivial
    | full xs => exact (con_con2 cur _ _ _ _ hd).symm.trans ((con2_inn cur out'' glob' d v).symm.trans h3)
  refine WO_do op ho hw (opF_call (hp := ⟨cur, out, glob⟩) op cl hop hwho hi (ha _ _).tr (by rw [hr]; exact h1) ?_) (h _ _ h7 h6 (h5 d v))
  simp only [Bool.or_eq_false_iff] at hr
  simp [landOf, hr.2, hmu, h2]
end Go.AE
