/- Objects that hold a slice in the making: rules for walking. -/
import Derived.Test.YtimnggioioeehabGreatDoorGxBld
namespace Go.AE
variable {P : Program} {pol : Pol} {f : FuncId} {ro : Bool} {rid i : Nat} {draw : Bool} {ops : Array Oper} {l : List Nat} {tm : Nat → AV} {K : St → Prop}

def c_byte (x : UInt8) : List AV := [.int .u8 x.toNat]
instance (x : UInt8) : Cs (c_byte x) := inferInstanceAs (Cs [.int .u8 _])
instance (t : TypeId) : Pl (.bmark t) := ⟨fun _ => rfl⟩
def rf (d : Loc) (u n : Nat) : AV := .rsl d u 0 n
theorem cells_rf (d : Loc) (u n : Nat) : (rf d u n).cells = some [rf d u n] := rfl
theorem one_rf (d : Loc) (u n : Nat) : [rf d u n].all AV.one = true := rfl
theorem one_rf1 (d : Loc) (u n : Nat) : (rf d u n).one = true := rfl
/-- A number as a byte. -/
def byte? (n : Int) : Option UInt8 := if 0 ≤ n ∧ n < 256 then some n.toNat.toUInt8 else none
theorem byte_eq {n : Int} {x : UInt8} (h : byte? n = some x) : [AV.int .u8 n] = c_byte x := by
  unfold byte? at h
  obtain ⟨h1, h⟩ := ite_none h
  simp only [Option.some.injEq] at h
  subst h
  have : n.toNat < 256 := by omega
  simp only [c_byte, Nat.toUInt8_eq, UInt8.toNat_ofNat', List.cons.injEq, AV.int.injEq, true_and, and_true]
  omega
theorem elems_byte {st : Heap} {n : Int} {x : UInt8} (h : byte? n = some x) : elemsOf st (.sl false 1 [[.int .u8 n]]) = some ([x].map c_byte) := by
  simp only [elemsOf, byte_eq h]; rfl
theorem bt_inn (e : Loc) : e.inn.bt = e.bt := by cases e <;> rfl
def fldTab (l : List ((Nat × Nat × Nat) × List (Nat × Option Nat))) : FuncId → Nat → Nat → List (Nat × Option Nat) := fun f r i => ((l.find? fun x => x.1 == (f, r, i)).map (·.2)).getD []
theorem elems_str (st : Heap) (s : Str) : elemsOf st (.str (B s)) = some (s.map c_byte) := by
  simp only [elemsOf, B, c_byte]; rfl

/-! ### an object at d, and the array that one of its fields lies over, at e; sl: how the field says so -/
structure Sub (d e sl : Loc) : Prop where
  fr : ∀ u n, d.from (rf sl u n) = some (rf e u n)
  into : ∀ u n, d.into (rf e u n) = some (rf sl u n)
  ne : d ≠ e
  eh : e.here = false
theorem Sub.own {s b : Nat} (h : s ≠ b) : Sub (.fr 1 s) (.fr 1 b) (.fr 0 b) := by
  refine ⟨fun u n => ?_, fun u n => ?_, by simpa using h, rfl⟩
  · simp [rf, Loc.from, AV.trav, AV.mapLoc, Loc.up]
  · simp [rf, Loc.into, AV.trav, AV.mapLoc, Loc.down]
theorem Sub.inn {d e sl : Loc} (h : Sub d e sl) : Sub d.inn e.inn sl := by
  refine ⟨fun u n => ?_, fun u n => ?_, ?_, inn_here e⟩
  · have h1 := h.fr u n
    cases d with
    | fr k t =>
      simp only [rf, Loc.from, AV.trav, AV.mapLoc, Option.map_eq_some_iff, AV.rsl.injEq, Loc.inn] at h1 ⊢
      obtain ⟨e', he, rfl, _⟩ := h1
      refine ⟨e'.inn, ?_, by cases e' <;> simp [Loc.inn]⟩
      cases sl with
      | fr k2 t2 => simp only [Loc.up, Option.some.injEq] at he ⊢; subst he; simp only [Loc.inn]; congr 1
      | gl j => simp only [Loc.up, Option.some.injEq] at he ⊢; subst he; rfl
    | gl j =>
      simp only [rf, Loc.from, Option.some.injEq, AV.rsl.injEq, Loc.inn] at h1 ⊢
      obtain ⟨rfl, _⟩ := h1
      have h2 := h.into u n
      simp only [rf, Loc.into, AV.trav, AV.mapLoc, Option.map_eq_some_iff] at h2
      obtain ⟨q, hq, _⟩ := h2
      cases sl with
      | fr k2 t2 => simp [Loc.free] at hq
      | gl j2 => simp
  · have h1 := h.into u n
    cases d with
    | fr k t =>
      simp only [rf, Loc.into, AV.trav, AV.mapLoc, Option.map_eq_some_iff, AV.rsl.injEq, Loc.inn] at h1 ⊢
      obtain ⟨e', he, rfl, _⟩ := h1
      refine ⟨e', ?_, by simp⟩
      cases e with
      | fr k2 t2 =>
        simp only [Loc.down] at he ⊢
        split at he
        · simp only [Option.some.injEq] at he
          subst he
          rw [if_pos (by omega)]
          congr 2; omega
        · cases he
      | gl j => simp only [Loc.down, Option.some.injEq] at he ⊢; subst he; rfl
    | gl j =>
      simp only [rf, Loc.into, AV.trav, AV.mapLoc, Option.map_eq_some_iff, AV.rsl.injEq, Loc.inn] at h1 ⊢
      obtain ⟨e', he, rfl, _⟩ := h1
      cases e with
      | fr k2 t2 => simp [Loc.free] at he
      | gl j2 => exact ⟨_, he, by simp⟩
  · intro e1; apply h.ne; cases d <;> cases e <;> simp_all [Loc.inn]

/-- The same but for the objects at d and e. -/
def Same2 (d e : Loc) (out : List Frame) (glob : List AObj) (out' : List Frame) (glob' : List AObj) : Prop :=
  out'.length = out.length ∧ glob'.length = glob.length ∧ ∀ x : Loc, x ≠ d → x ≠ e → x.here = false → Heap.obj ⟨fun _ => ⟨0, .gone⟩, out', glob'⟩ x = Heap.obj ⟨fun _ => ⟨0, .gone⟩, out, glob⟩ x
theorem Same2.refl (d e : Loc) (out : List Frame) (glob : List AObj) : Same2 d e out glob out glob := ⟨rfl, rfl, fun _ _ _ _ => rfl⟩
theorem Same2.trans {d e : Loc} {o1 o2 o3 : List Frame} {g1 g2 g3 : List AObj} (h : Same2 d e o1 g1 o2 g2) (k : Same2 d e o2 g2 o3 g3) : Same2 d e o1 g1 o3 g3 :=
  ⟨k.1.trans h.1, k.2.1.trans h.2.1, fun x h1 h2 h3 => (k.2.2 x h1 h2 h3).trans (h.2.2 x h1 h2 h3)⟩
theorem Same2.ofL {d e : Loc} {o1 o2 o3 : List Frame} {g1 g2 g3 : List AObj} (h : Same2 d e o1 g1 o2 g2) (k : Same d o2 g2 o3 g3) : Same2 d e o1 g1 o3 g3 := h.trans ⟨k.1, k.2.1, fun x h1 _ h3 => k.2.2 x h1 h3⟩
theorem Same2.ofR {d e : Loc} {o1 o2 o3 : List Frame} {g1 g2 g3 : List AObj} (h : Same2 d e o1 g1 o2 g2) (k : Same e o2 g2 o3 g3) : Same2 d e o1 g1 o3 g3 := h.trans ⟨k.1, k.2.1, fun x _ h2 h3 => k.2.2 x h2 h3⟩
theorem Same.con {d x : Loc} {o1 o2 : List Frame} {g1 g2 : List AObj} {v : Nat} {k : Con} (h : Same d o1 g1 o2 g2) (hx : x ≠ d) (hh : x.here = false) (hk : con2 o1 g1 x v = k) : con2 o2 g2 x v = k := by
  unfold con2 Heap.con at hk ⊢
  rw [h.2.2 x hx hh]; exact hk

/-- A call that changes an object and the array that one of its fields lies over. -/
def MutA (P : Program) (pol : Pol) (g : FuncId) (args : AV → List AV) (off : Nat) (bt : Option TypeId) (cs : Loc → Nat → List AV) (a : Con) (r : AV) (cs' : Loc → Nat → List AV) (a' : Con) : Prop :=
  ∀ out glob d w e sl u, d.here = false → Sub d e sl → e.bt = bt → con2 out glob d w = .cells (cs sl u) → con2 out glob e u = a → ∃ r0 cur out' glob' u', A P pol false g (args (.ptr d w off)) out glob = some (r0, ⟨cur, out', glob'⟩) ∧ retV cur 3 r0 = some r ∧
    con2 out' glob' d w = .cells (cs' sl u') ∧ con2 out' glob' e u' = a' ∧ Same2 d e out glob out' glob'
theorem mutA_walk {g : FuncId} {fn : Func} {c : Code} {args : AV → List AV} {off : Nat} {bt : Option TypeId} {cs cs' : Loc → Nat → List AV} {a a' : Con} {r : AV} (hf : P.funcs[g]? = some fn) (hc : fn.body = some c) (hn : ∀ a, ¬ fn.ntmps < (args a).length)
    (h : ∀ (out : List Frame) (glob : List AObj) (d : Loc) (w : Nat) (e sl : Loc) (u : Nat), d.here = false → Sub d e sl → e.bt = bt → con2 out glob d w = .cells (cs sl u) → con2 out glob e u = a → W P pol g false c ⟨argTmps (args (.ptr d w off)) fn.ntmps, ⟨fun _ => ⟨0, .gone⟩, out, glob⟩⟩ fun ex st => (ex = .normal ∨ ex = .ret) ∧
      ∃ vs u', resultsOf P st fn.results.toList = some vs ∧ retV st.hp.cur 3 (oneOf vs) = some r ∧ con2 st.hp.out st.hp.glob d w = .cells (cs' sl u') ∧ con2 st.hp.out st.hp.glob e u' = a' ∧ Same2 d e out glob st.hp.out st.hp.glob) :
    MutA P pol g args off bt cs a r cs' a' := by
  intro out glob d w e sl u hd hs hb hk hka
  obtain ⟨r0, h', h1, u', h2, h3, h4, h5⟩ := A_walk (R := fun r0 hp => ∃ u', retV hp.cur 3 r0 = some r ∧ con2 hp.out hp.glob d w = .cells (cs' sl u') ∧ con2 hp.out hp.glob e u' = a' ∧ Same2 d e out glob hp.out hp.glob) hf hc (hn _) (by
    refine W_mono (h out glob d w e sl u hd hs hb hk hka) ?_
    rintro ex st ⟨he, vs, u', k1, k2, k3, k4, k5⟩
    exact ⟨he, vs, k1, u', k2, k3, k4, k5⟩)
  exact ⟨r0, h'.cur, h'.out, h'.glob, u', h1, h2, h3, h4, h5⟩
theorem mutA_leaf {ex : Ex} {st : St} {res : List ResultVar} {vs : List AV} {r : AV} {out : List Frame} {glob : List AObj} {d e : Loc} {w u' : Nat} {cs' : Nat → List AV} {a' : Con} (he : ex = .normal ∨ ex = .ret) (hv : resultsOf P st res = some vs) (hr : retV st.hp.cur 3 (oneOf vs) = some r)
    (hk : con2 st.hp.out st.hp.glob d w = .cells (cs' u')) (hka : con2 st.hp.out st.hp.glob e u' = a') (hs : Same2 d e out glob st.hp.out st.hp.glob) :
    (ex = .normal ∨ ex = .ret) ∧ ∃ vs u', resultsOf P st res = some vs ∧ retV st.hp.cur 3 (oneOf vs) = some r ∧ con2 st.hp.out st.hp.glob d w = .cells (cs' u') ∧ con2 st.hp.out st.hp.glob e u' = a' ∧ Same2 d e out glob st.hp.out st.hp.glob := ⟨he, vs, u', hv, hr, hk, hka, hs⟩

/-- Back in the frame that called: both lie in this frame. -/
theorem Same2.back {cur : Frame} {out out' : List Frame} {glob glob' : List AObj} {s b v u : Nat} {cs : List AV} {a : Con} (ha : a ≠ .gone) (hk : con2 out' glob' (.fr 1 s) v = .cells cs) (hka : con2 out' glob' (.fr 1 b) u = a) (hs : Same2 (.fr 1 s) (.fr 1 b) (cur :: out) glob out' glob') (hne : s ≠ b) :
    out' = upd (upd cur b ⟨u, a⟩) s ⟨v, .cells cs⟩ :: out ∧ glob' = glob := by
  obtain ⟨h1, h2, h3⟩ := hs
  match out', h1 with
  | cur' :: out'', h1 =>
    have at_ : ∀ (t v : Nat) (k : Con), k ≠ .gone → con2 (cur' :: out'') glob' (.fr 1 t) v = k → cur' t = ⟨v, k⟩ := by
      intro t v k hk0 hk
      obtain ⟨k1, k2⟩ := con_eq hk hk0
      simp only [Heap.obj, List.getElem?_cons_zero] at k1 k2
      cases hx : cur' t with
      | mk a b => rw [hx] at k1 k2; simp at k1 k2; rw [k1, k2]
    have e1 : cur' = upd (upd cur b ⟨u, a⟩) s ⟨v, .cells cs⟩ := by
      funext t
      unfold upd
      split
      · rename_i e; subst e; exact at_ _ _ _ (by simp) hk
      · rename_i e
        split
        · rename_i e2; subst e2; exact at_ _ _ _ ha hka
        · rename_i e2; exact h3 (.fr 1 t) (by simpa using e) (by simpa using e2) rfl
    have e2 : out'' = out := frames_eq (by simpa using h1) (fun n t => h3 (.fr (n + 2) t) (by simp) (by simp) rfl)
    exact ⟨by rw [e1, e2], glob_eq h2 (fun n => h3 (.gl n) (by simp) (by simp) rfl)⟩
/-- They lie further out. -/
theorem Same2.pop {cur : Frame} {out out' : List Frame} {glob glob' : List AObj} {d e : Loc} (hd : d.here = false) (he : e.here = false) (hs : Same2 d.inn e.inn (cur :: out) glob out' glob') :
    ∃ out'', out' = cur :: out'' ∧ Same2 d e out glob out'' glob' := by
  obtain ⟨h1, h2, h3⟩ := hs
  match out', h1 with
  | cur' :: out'', h1 =>
    have ne1 : ∀ (c : Loc) (s : Nat), c.here = false → Loc.fr 1 s ≠ c.inn := by
      intro c s hc e
      cases c with
      | fr k t => cases k with
        | zero => cases hc
        | succ k => simp [Loc.inn] at e
      | gl i => simp [Loc.inn] at e
    have e1 : cur' = cur := by
      funext s
      exact h3 (.fr 1 s) (ne1 d s hd) (ne1 e s he) rfl
    refine ⟨out'', by rw [e1], by simpa using h1, h2, fun x hx1 hx2 hh => ?_⟩
    have inj : ∀ c : Loc, x ≠ c → x.inn ≠ c.inn := by intro c hc e; apply hc; cases x <;> cases c <;> simp_all [Loc.inn]
    have := h3 x.inn (inj d hx1) (inj e hx2) (inn_here x)
    cases x with
    | fr k t => cases k with
      | zero => cases hh
      | succ k => exact this
    | gl i => exact this
theorem con2_own (cur : Frame) (out : List Frame) (glob : List AObj) {t v : Nat} {k : Con} (h : cur t = ⟨v, k⟩) : con2 (cur :: out) glob (.fr 1 t) v = k := (con2_inn cur out glob (.fr 0 t) v).trans (con_fr h)

/-- A call that changes an object of this frame and its array. -/
theorem WO_mutAL {cur : Frame} {out : List Frame} {glob : List AObj} (o : Oper) (c : Call) {g : FuncId} {args : AV → List AV} {off : Nat} {bt : Option TypeId} {s b v u : Nat} {cs cs' : Loc → Nat → List AV} {a a' : Con} {r : AV} (ho : ops[i]? = some o) (hw : wanted ops o tm = some true) (hop : o.op = .call c)
    (hwho : whoOf P (St.ev tm) c = some (.func g (args (.ptr (.fr 0 s) v off)))) (hi : plainCall pol f rid i g = true) (hmu : pol.mu f rid i = false) (hr : (ro || drawn pol f rid ops draw i) = false)
    (ha : ∀ c v, PushL (args (.ptr c v off)) (args (.ptr c.inn v off))) (hcur : cur s = ⟨v, .cells (cs (.fr 0 b) u)⟩) (hb : cur b = ⟨u, a⟩) (hne : s ≠ b) (hbt : (Loc.fr 1 b).bt = bt) (ha' : a' ≠ .gone) (hok : MutA P pol g args off bt cs a r cs' a')
    (h : ∀ u', WO P pol f ro ops rid draw l ⟨putT tm o.dst r, ⟨upd (upd cur b ⟨u', a'⟩) s ⟨v, .cells (cs' (.fr 0 b) u')⟩, out, glob⟩⟩ K) : WO P pol f ro ops rid draw (i :: l) ⟨tm, ⟨cur, out, glob⟩⟩ K := by
  obtain ⟨r0, cur0, out', glob', u', h1, h2, h3, h4, h5⟩ := hok (cur :: out) glob (.fr 1 s) v (.fr 1 b) (.fr 0 b) u rfl (Sub.own hne) hbt (con2_own cur out glob hcur) (con2_own cur out glob hb)
  obtain ⟨rfl, rfl⟩ := Same2.back ha' h3 h4 h5 hne
  refine WO_do o ho hw (opF_call (hp := ⟨cur, out, _⟩) o c hop hwho hi (ha _ _).tr (by rw [hr]; exact h1) ?_) (h u')
  simp only [Bool.or_eq_false_iff] at hr
  simp [landOf, hr.2, hmu, h2]
/-- .. of an object further out. -/
theorem WO_mutAP {cur : Frame} {out : List Frame} {glob : List AObj} (o : Oper) (c : Call) {g : FuncId} {args : AV → List AV} {off : Nat} {bt : Option TypeId} {d e sl : Loc} {v u : Nat} {cs cs' : Loc → Nat → List AV} {a a' : Con} {r : AV} (ho : ops[i]? = some o) (hw : wanted ops o tm = some true) (hop : o.op = .call c)
    (hwho : whoOf P (St.ev tm) c = some (.func g (args (.ptr d v off)))) (hi : plainCall pol f rid i g = true) (hmu : pol.mu f rid i = false) (hr : (ro || drawn pol f rid ops draw i) = false)
    (ha : ∀ c v, PushL (args (.ptr c v off)) (args (.ptr c.inn v off))) (hd : d.here = false) (hsub : Sub d e sl) (hbt : e.bt = bt) (hk : con2 out glob d v = .cells (cs sl u)) (hka : con2 out glob e u = a) (hok : MutA P pol g args off bt cs a r cs' a')
    (h : ∀ out' glob' u', con2 out' glob' d v = .cells (cs' sl u') → con2 out' glob' e u' = a' → Same2 d e out glob out' glob' → WO P pol f ro ops rid draw l ⟨putT tm o.dst r, ⟨cur, out', glob'⟩⟩ K) : WO P pol f ro ops rid draw (i :: l) ⟨tm, ⟨cur, out, glob⟩⟩ K := by
  have hbi : e.inn.bt = bt := by rw [← hbt]; cases e <;> rfl
  obtain ⟨r0, cur0, out', glob', u', h1, h2, h3, h4, h5⟩ := hok (cur :: out) glob d.inn v e.inn sl u (inn_here d) hsub.inn hbi ((con2_inn cur out glob d v).trans ((con_con2 _ _ _ _ _ hd).trans hk)) ((con2_inn cur out glob e u).trans ((con_con2 _ _ _ _ _ hsub.eh).trans hka))
  obtain ⟨out'', rfl, h6⟩ := Same2.pop hd hsub.eh h5
  have h7 : con2 out'' glob' d v = .cells (cs' sl u') := (con_con2 cur _ _ _ _ hd).symm.trans ((con2_inn cur out'' glob' d v).symm.trans h3)
  have h8 : con2 out'' glob' e u' = a' := (con_con2 cur _ _ _ _ hsub.eh).symm.trans ((con2_inn cur out'' glob' e u').symm.trans h4)
  refine WO_do o ho hw (opF_call (hp := ⟨cur, out, glob⟩) o c hop hwho hi (ha _ _).tr (by rw [hr]; exact h1) ?_) (h _ _ u' h7 h8 h6)
  simp only [Bool.or_eq_false_iff] at hr
  simp [landOf, hr.2, hmu, h2]

section
variable {call : CallF} {d : Bool} {o : Oper} {ev : Operand → AV} {cur : Frame} {out : List Frame} {glob : List AObj}
/-! ### new objects -/
theorem fld_nil {t : TypeId} {c : Loc} {v : Nat} {h : Heap} : fldOf t c v [] h = some h := rfl
theorem fld_mark {t : TypeId} {s v off : Nat} {r : List (Nat × Option Nat)} {cs : List AV} {h' : Option Heap} (hx : cs[off]? = some .nilp) (h : fldOf t (.fr 0 s) v r ⟨upd cur s ⟨v, .cells (cs.set off (.bmark t))⟩, out, glob⟩ = h') :
    fldOf t (.fr 0 s) v ((off, none) :: r) ⟨upd cur s ⟨v, .cells cs⟩, out, glob⟩ = h' := by
  have e : ∀ (a b : AObj), upd (upd cur s a) s b = upd cur s b := by intro a b; funext u; simp [upd]; split <;> rfl
  rw [← h]
  simp only [fldOf]
  rw [con_fr (k := .cells cs) (by simp [upd])]
  simp only [hx, Heap.setObj, e]
theorem fld_arr {t : TypeId} {s v off b z : Nat} {r : List (Nat × Option Nat)} {cs : List AV} {h' : Option Heap} (hx : cs[off]? = some (.sl true z [])) (hne : s ≠ b) (h : fldOf t (.fr 0 s) v r ⟨upd (upd cur b ⟨(cur b).ver + 1, .arr true 0 []⟩) s ⟨v, .cells (cs.set off (rf (.fr 0 b) ((cur b).ver + 1) 0))⟩, out, glob⟩ = h') :
    fldOf t (.fr 0 s) v ((off, some b) :: r) ⟨upd cur s ⟨v, .cells cs⟩, out, glob⟩ = h' := by
  have e1 : ∀ a, upd (upd (upd cur s ⟨v, .cells cs⟩) b a) s = upd (upd cur b a) s := by
    intro a; funext o2 u; simp only [upd]; split
    · rfl
    · rfl
  have e2 : upd cur s ⟨v, .cells cs⟩ b = cur b := by simp [upd, Ne.symm hne]
  rw [← h]
  simp only [fldOf]
  rw [con_fr (k := .cells cs) (by simp [upd])]
  simp only [hx]
  rw [if_neg (by simpa using hne)]
  simp only [Heap.alloc, Bool.false_eq_true, if_false, Heap.setObj, e2, e1, rf]
theorem op_allocA {t : TypeId} (cs : List AV) {fl : List (Nat × Option Nat)} {h' : Heap} (hop : o.op = .alloc t) (hd : d = false) (hg : pol.glob f rid i = false) (hz : zeroCells? P t = some cs) (hfl : pol.fld f rid i = fl) (hne : fl ≠ [])
    (h : fldOf t (.fr 0 (slotOf o)) ((cur (slotOf o)).ver + 1) fl ⟨upd cur (slotOf o) ⟨(cur (slotOf o)).ver + 1, .cells cs⟩, out, glob⟩ = some h') :
    opF P pol call f ro rid i d o ev ⟨cur, out, glob⟩ = some (.ptr (.fr 0 (slotOf o)) ((cur (slotOf o)).ver + 1) 0, h') := by
  cases fl with
  | nil => exact absurd rfl hne
  | cons x r => simp [opF, hop, hd, hg, hz, Heap.alloc, hfl, fldsOf, h]
theorem op_boxA {t : TypeId} {x : Operand} {x' : AV} {vs : List AV} {fl : List (Nat × Option Nat)} {h' : Heap} (hop : o.op = .box t x) (hd : d = false) (hg : pol.glob f rid i = false) (hx : ev x = x') [hv : Vl x' vs] [hc : Cs vs] (hfl : pol.fld f rid i = fl) (hne : fl ≠ [])
    (h : fldOf t (.fr 0 (slotOf o)) ((cur (slotOf o)).ver + 1) fl ⟨upd cur (slotOf o) ⟨(cur (slotOf o)).ver + 1, .cells vs⟩, out, glob⟩ = some h') :
    opF P pol call f ro rid i d o ev ⟨cur, out, glob⟩ = some (.ptr (.fr 0 (slotOf o)) ((cur (slotOf o)).ver + 1) 0, h') := by
  have e : ∀ (s : Nat) (a b : AObj), upd (upd cur s a) s b = upd cur s b := by intro s a b; funext u; simp [upd]; split <;> rfl
  cases fl with
  | nil => exact absurd rfl hne
  | cons y r => simp only [opF, hop, hd, hg, hx, hv.cells, Heap.alloc, intoAll_cs, Heap.setObj, e, hfl, hc.one, Bool.false_and, Bool.false_eq_true, if_false, Option.bind_some, if_true, fldsOf, h, Option.map_some]

/-! ### appends -/
section
variable {α : Type} {n : Nat} {c : α → List AV}
theorem arr_app {t e : TypeId} {xt : Option TypeId} {mu gl : Bool} {slot v len : Nat} {cc : Loc} {info : TypeInfo} {z : List AV} {a a' : Ar α} {xs : List α} {y : AV} {h : Heap} [hc : ∀ x, Cs (c x)] (hu : P.underlying t = some (.slice e)) (hi : P.info? e = some info) (hz : zeroCells? P e = some z)
    (hn : info.size = n) (hzl : z.length = n) (h0 : n ≠ 0) (hcl : ∀ x, (c x).length = n) (hnoint : noInt P xt = true) (hbt : (cc.bt == none || cc.bt == some e) = true) (hro : (ro && !cc.here) = false) (hy : elemsOf h y = some (xs.map c)) (hk : h.con cc v = a.con n c) (hlen : len = a.list.length) (hap : a.app? info.bytes xs = some a') :
    appendOf P ro h mu gl slot t xt (rf cc v len) y = some (rf cc (v + 1) a'.list.length, h.setObj cc ⟨v + 1, a'.con n c⟩) := by
  unfold Ar.app? at hap
  obtain ⟨hr, hap⟩ := ite_none hap
  simp only [Option.some.injEq] at hap
  subst hap hlen
  have hall : (xs.map c).all (fun l => l.length == n && l.all AV.one) = true := by
    rw [List.all_eq_true]
    intro l hl
    obtain ⟨u, _, rfl⟩ := List.mem_map.1 hl
    simp only [hcl u, (hc u).one, beq_self_eq_true, Bool.and_true]
  have hinto : intoAllL cc (xs.map c) = some (xs.map c) := mapO_cs _ (fun x => intoAll_cs _ _) _
  have hz0 : ¬ (z.length ≠ n ∨ n = 0) := by omega
  unfold appendOf rf
  rw [if_neg (by simp [hnoint]), hu]
  simp only [hi, hz, Option.bind_some, hn, if_neg hz0, hy, hall, Bool.not_true, Bool.false_eq_true, if_false, hro, hk]
  cases a with
  | nil =>
    simp only [Ar.con, Ar.list, List.length_nil, Nat.zero_add] at hr ⊢
    rw [if_pos (by simp [hr]; simpa using hbt), hinto]
    cases xs with
    | nil => simp [Ar.app]
    | cons x xs => simp [Ar.app, Ar.list]
  | full l =>
    simp only [Ar.con, Ar.list] at hr ⊢
    rw [if_pos (by simp [hr]; simpa using hbt), hinto]
    cases xs with
    | nil => simp [Ar.app]
    | cons x xs => simp [Ar.app, Ar.list]
theorem Ar.con_live {a : Ar α} : a.con n c ≠ .gone := by cases a <;> simp [Ar.con]
/-- An append to an array of this frame. -/
theorem WO_arapp [hc : ∀ x, Cs (c x)] (op : Oper) {cl : Call} {p q : Operand} {t e : TypeId} {info : TypeInfo} {z : List AV} {xs : List α} {y : AV} {b u len : Nat} {a a' : Ar α} (ho : ops[i]? = some op) (hw : wanted ops op tm = some true) (hop : op.op = .call cl) (hbl : cl.callee = .builtin .append) (hargs : cl.args = #[p, q]) (ht : cl.argTypes[0]? = some t)
    (hd : drawn pol f rid ops draw i = false) (hx : St.ev tm p = rf (.fr 0 b) u len) (hyv : St.ev tm q = y)
    (hu : P.underlying t = some (.slice e)) (hi : P.info? e = some info) (hz : zeroCells? P e = some z) (hn : info.size = n) (hzl : z.length = n) (h0 : n ≠ 0) (hcl : ∀ x, (c x).length = n) (hnoint : noInt P cl.argTypes[1]? = true) (hbt : ((Loc.fr 0 b).bt == none || (Loc.fr 0 b).bt == some e) = true)
    (hy : elemsOf ⟨cur, out, glob⟩ y = some (xs.map c)) (hcur : cur b = ⟨u, a.con n c⟩) (hlen : len = a.list.length) (hap : a.app? info.bytes xs = some a')
    (h : WO P pol f ro ops rid draw l ⟨putT tm op.dst (rf (.fr 0 b) (u + 1) a'.list.length), ⟨upd cur b ⟨u + 1, a'.con n c⟩, out, glob⟩⟩ K) : WO P pol f ro ops rid draw (i :: l) ⟨tm, ⟨cur, out, glob⟩⟩ K := by
  refine WO_do op ho hw (op_append hop hbl hargs ht hd ?_) h
  rw [hx, hyv, arr_app (a := a) (a' := a') (xs := xs) hu hi hz hn hzl h0 hcl hnoint hbt (by simp [Loc.here]) hy (con_fr hcur) hlen hap]
  rfl
theorem set_out {cc : Loc} {v : Nat} {k k' : Con} (hh : cc.here = false) (hk : con2 out glob cc v = k) (hn : k ≠ .gone) (v' : Nat) : ∃ out' glob', (∀ cur : Frame, Heap.setObj ⟨cur, out, glob⟩ cc ⟨v', k'⟩ = ⟨cur, out', glob'⟩) ∧ con2 out' glob' cc v' = k' ∧ Same cc out glob out' glob' := by
  have hval : (⟨fun _ => ⟨0, .gone⟩, out, glob⟩ : Heap).valid cc := con_valid (v := v) (k := k) hk hn
  obtain ⟨out', glob', e⟩ : ∃ out' glob', ∀ cur : Frame, Heap.setObj ⟨cur, out, glob⟩ cc ⟨v', k'⟩ = ⟨cur, out', glob'⟩ := by
    cases cc with
    | fr l t => cases l with
      | zero => cases hh
      | succ l => exact ⟨out.modify l fun f => upd f t ⟨v', k'⟩, glob, fun _ => rfl⟩
    | gl i => exact ⟨out, glob.set i ⟨v', k'⟩, fun _ => rfl⟩
  have e0 := e fun _ => ⟨0, .gone⟩
  refine ⟨out', glob', e, ?_, ?_⟩
  · have := con_set (k := k') (v := v') hval
    rw [e0] at this
    exact this
  · refine ⟨?_, ?_, fun x hx hh' => ?_⟩
    · have := out_setObj (⟨fun _ => ⟨0, .gone⟩, out, glob⟩ : Heap) cc ⟨v', k'⟩; rw [e0] at this; exact this
    · have := glob_setObj (⟨fun _ => ⟨0, .gone⟩, out, glob⟩ : Heap) cc ⟨v', k'⟩; rw [e0] at this; exact this
    · have := obj_setObj ⟨fun _ => ⟨0, .gone⟩, out, glob⟩ cc ⟨v', k'⟩ hval x
      rw [e0, if_neg hx] at this
      exact this
/-- .. of one further out. -/
theorem WO_arappP [hc : ∀ x, Cs (c x)] (op : Oper) {cl : Call} {p q : Operand} {t e : TypeId} {info : TypeInfo} {z : List AV} {xs : List α} {y : AV} {cc : Loc} {u len : Nat} {a a' : Ar α} {bt : Option TypeId} (ho : ops[i]? = some op) (hw : wanted ops op tm = some true) (hop : op.op = .call cl) (hbl : cl.callee = .builtin .append) (hargs : cl.args = #[p, q]) (ht : cl.argTypes[0]? = some t)
    (hd : drawn pol f rid ops draw i = false) (hro : ro = false) (hx : St.ev tm p = rf cc u len) (hyv : St.ev tm q = y)
    (hu : P.underlying t = some (.slice e)) (hi : P.info? e = some info) (hz : zeroCells? P e = some z) (hn : info.size = n) (hzl : z.length = n) (h0 : n ≠ 0) (hcl : ∀ x, (c x).length = n) (hnoint : noInt P cl.argTypes[1]? = true) (hbt : cc.bt = bt) (hbt2 : (bt == none || bt == some e) = true) (hh : cc.here = false)
    (hy : elemsOf ⟨cur, out, glob⟩ y = some (xs.map c)) (hk : con2 out glob cc u = a.con n c) (hlen : len = a.list.length) (hap : a.app? info.bytes xs = some a')
    (h : ∀ out' glob', con2 out' glob' cc (u + 1) = a'.con n c → Same cc out glob out' glob' → WO P pol f ro ops rid draw l ⟨putT tm op.dst (rf cc (u + 1) a'.list.length), ⟨cur, out', glob'⟩⟩ K) : WO P pol f ro ops rid draw (i :: l) ⟨tm, ⟨cur, out, glob⟩⟩ K := by
  obtain ⟨out', glob', e1, e2, e3⟩ := set_out (k' := a'.con n c) hh hk Ar.con_live (u + 1)
  refine WO_do op ho hw (op_append hop hbl hargs ht hd ?_) (h out' glob' e2 e3)
  rw [hx, hyv, arr_app (a := a) (a' := a') (xs := xs) hu hi hz hn hzl h0 hcl hnoint (by rw [hbt]; exact hbt2) (by simp [hro]) hy ((con_con2 _ _ _ _ _ hh).trans hk) hlen hap, e1]
end

/-! ### a cell that holds such a slice, read whole: the array is written no more -/
theorem from_rf (b u n : Nat) (s : Nat) : (Loc.fr 0 s).from (rf (.fr 0 b) u n) = some (rf (.fr 0 b) u n) := rfl
theorem WO_ldfrz {α : Type} {n : Nat} {c : α → List AV} [hc : ∀ x, Cs (c x)] (op : Oper) {t : TypeId} {p : Operand} {s b v u len : Nat} {a : Ar α} (ho : ops[i]? = some op) (hw : wanted ops op tm = some true) (hop : op.op = .load t p) (hfz : pol.frz f rid i = true) (hd : drawn pol f rid ops draw i = false)
    (hp : St.ev tm p = .ptr (.fr 0 s) v 0) (hag : isAgg? P t = some false) (hz : size? P t = some 1) (hcur : cur s = ⟨v, .cells [rf (.fr 0 b) u len]⟩) (hb : cur b = ⟨u, a.con n c⟩) (hlen : len = a.list.length)
    (h : WO P pol f ro ops rid draw l ⟨putT tm op.dst (a.sl.av n c), ⟨upd cur b ⟨u, a.fcon n c⟩, out, glob⟩⟩ K) : WO P pol f ro ops rid draw (i :: l) ⟨tm, ⟨cur, out, glob⟩⟩ K := by
  have hm : ∀ l : List α, mapO (mapO (Loc.fr 0 b).from) (l.map c) = some (l.map c) := mapO_cs _ (fun x => (mapO_trav _ _).trans ((hc x).tr _))
  refine WO_do op ho hw (h' := ⟨upd cur b ⟨u, a.fcon n c⟩, out, glob⟩) ?_ h
  subst hlen
  have hk : (⟨cur, out, glob⟩ : Heap).con (.fr 0 s) v = .cells [rf (.fr 0 b) u a.list.length] := con_fr hcur
  have hk2 : (⟨cur, out, glob⟩ : Heap).con (.fr 0 b) u = a.con n c := con_fr hb
  have e1 : loadAt P ⟨cur, out, glob⟩ t (.ptr (.fr 0 s) v 0) = some (rf (.fr 0 b) u a.list.length) := by
    simp [loadAt, hag, hz, hk, readAs, from_rf]
  cases a with
  | nil => simp [opF, hop, hfz, hd, hp, e1, frzOf, rf, Loc.here, elemsOf, hk2, Ar.con, Ar.fcon, Ar.list, Ar.sl, Sl.av, mapO, Heap.setObj]
  | full xs => simp [opF, hop, hfz, hd, hp, e1, frzOf, rf, Loc.here, elemsOf, hk2, Ar.con, Ar.fcon, Ar.list, Ar.sl, Sl.av, Heap.setObj, List.take_of_length_le, hm]
theorem WO_ldfrz2 {α : Type} {n : Nat} {c : α → List AV} [hc : ∀ x, Cs (c x)] (op : Oper) {t : TypeId} {p : Operand} {s b v u len : Nat} {a : Ar α} (ho : ops[i]? = some op) (hw : wanted ops op tm = some true) (hop : op.op = .load t p) (hfz : pol.frz f rid i = true) (hd : drawn pol f rid ops draw i = false)
    (hp : St.ev tm p = .ptr (.fr 0 s) v 0) (hag : isAgg? P t = some false) (hz : size? P t = some 1) (hcur : cur s = ⟨v, .cells [rf (.fr 0 b) u len]⟩) (hb : cur b = ⟨u, a.fcon n c⟩) (hlen : len = a.list.length)
    (h : WO P pol f ro ops rid draw l ⟨putT tm op.dst (a.sl.av n c), ⟨upd cur b ⟨u, a.fcon n c⟩, out, glob⟩⟩ K) : WO P pol f ro ops rid draw (i :: l) ⟨tm, ⟨cur, out, glob⟩⟩ K := by
  have hm : ∀ l : List α, mapO (mapO (Loc.fr 0 b).from) (l.map c) = some (l.map c) := mapO_cs _ (fun x => (mapO_trav _ _).trans ((hc x).tr _))
  refine WO_do op ho hw (h' := ⟨upd cur b ⟨u, a.fcon n c⟩, out, glob⟩) ?_ h
  subst hlen
  have hk : (⟨cur, out, glob⟩ : Heap).con (.fr 0 s) v = .cells [rf (.fr 0 b) u a.list.length] := con_fr hcur
  have hk2 : (⟨cur, out, glob⟩ : Heap).con (.fr 0 b) u = a.fcon n c := con_fr hb
  have e1 : loadAt P ⟨cur, out, glob⟩ t (.ptr (.fr 0 s) v 0) = some (rf (.fr 0 b) u a.list.length) := by
    simp [loadAt, hag, hz, hk, readAs, from_rf]
  cases a with
  | nil => simp [opF, hop, hfz, hd, hp, e1, frzOf, rf, Loc.here, elemsOf, hk2, Ar.fcon, Ar.list, Ar.sl, Sl.av, mapO, Heap.setObj]
  | full xs => simp [opF, hop, hfz, hd, hp, e1, frzOf, rf, Loc.here, elemsOf, hk2, Ar.fcon, Ar.list, Ar.sl, Sl.av, Heap.setObj, List.take_of_length_le, hm]

/-! ### loads and stores of such fields further out -/
theorem ld_pa {hp : Heap} {t : TypeId} {c e sl : Loc} {v off u n : Nat} {cs : List AV} (hs : Sub c e sl) (ha : isAgg? P t = some false) (hz : size? P t = some 1) (hk : hp.con c v = .cells cs) (hr : cs[off]? = some (rf sl u n)) : loadAt P hp t (.ptr c v off) = some (rf e u n) := by
  simp [loadAt, ha, hz, hk, readAs, hr, hs.fr]
theorem WO_stPA (op : Oper) {t : TypeId} {p q : Operand} {dd e sl : Loc} {v u n off : Nat} {cs cs' : List AV} (ho : ops[i]? = some op) (hw : wanted ops op tm = some true) (hop : op.op = .store t p q) (hd : drawn pol f rid ops draw i = false) (hro : ro = false) (hp : St.ev tm p = .ptr dd v off) (hq : St.ev tm q = rf e u n)
    (hz : size? P t = some 1) (hh : dd.here = false) (hs : Sub dd e sl) (hk : con2 out glob dd v = .cells cs) (hl : off < cs.length) (hc : cs.set off (rf sl u n) = cs')
    (h : ∀ out' glob', con2 out' glob' dd v = .cells cs' → Same dd out glob out' glob' → WO P pol f ro ops rid draw l ⟨putT tm op.dst (.tup []), ⟨cur, out', glob'⟩⟩ K) : WO P pol f ro ops rid draw (i :: l) ⟨tm, ⟨cur, out, glob⟩⟩ K := by
  obtain ⟨out', glob', e1, e2, e3⟩ := set_out (k' := .cells cs') hh hk (by simp) v
  refine WO_do op ho hw (op_store hop hd ?_) (h out' glob' e2 e3)
  rw [hp, hq]
  have hw1 : writeOver cs off 1 [rf sl u n] = some cs' := by
    have : off + 1 ≤ cs.length := hl
    simp [writeOver, this, one_rf1, writeAll, hc]
  have h2 : (⟨cur, out, glob⟩ : Heap).con dd v = .cells cs := (con_con2 _ _ _ _ _ hh).trans hk
  simp [storeAt, hz, hro, h2, cells_rf, intoAll, mapO, hs.into, hw1, e1]

/-! ### Builder's own functions -/
theorem opF_H (cl : Call) {g : FuncId} {args : List AV} {fx : List AV → Heap → Option (AV × Heap)} {hp : Heap} {r : AV × Heap} (hop : o.op = .call cl) (hw : whoOf P ev cl = some (.func g args)) (hi : pol.intr g = none) (hih : pol.intrH g = some fx) (hd : d = false) (hro : ro = false) (haw : pol.away f rid i = false) (hx : fx args hp = some r) :
    opF P pol call f ro rid i d o ev hp = some r := by
  simp [opF, hop, hw, hi, hih, hd, hro, haw, hx]
theorem x_check_eq {hp : Heap} {tB t : TypeId} {c : Loc} {v off : Nat} {cs : List AV} (hk : hp.con c v = .cells cs) (hm : cs[off]? = some (.bmark t)) (hl : liesAt P P.depth t (cs.length / P.cellsOf t) off tB 1 = true) : x_check P tB [.ptr c v off] hp = some (.tup [], hp) := by
  simp [x_check, hk, hm, hl]
/-- What String gives. -/
def bstr? : Ar UInt8 → Option Str
  | .nil => some []
  | .full l => if l ≠ [] ∧ l.length ≤ 2 ^ 62 then some l else none
theorem bytes_of (s : Str) : mapO byteOf (s.map c_byte) = some s := by
  induction s with
  | nil => rfl
  | cons x s ih =>
    have : byteOf (c_byte x) = some x := by
      have := x.toNat_lt
      simp only [byteOf, c_byte]
      rw [if_pos (by omega)]
      simp
    simp [mapO, this, ih]
theorem x_string_eq {hp : Heap} {uB : TypeId} {c c2 : Loc} {v off u len : Nat} {cs : List AV} {x : AV} {a : Ar UInt8} {s : Str} (hk : hp.con c v = .cells cs) (hm : cs[off + 1]? = some x) (hf : c.from x = some (rf c2 u len)) (hk2 : hp.con c2 u = a.con 1 c_byte) (hlen : len = a.list.length) (hbt : c2.bt = some uB) (hs : bstr? a = some s) :
    x_string uB [.ptr c v off] hp = some (sA s, hp) := by
  subst hlen
  simp only [x_string, hk, hm, Option.bind_some, hf, rf, hk2]
  cases a with
  | nil =>
    simp only [bstr?, Option.some.injEq] at hs
    subst hs
    simp [Ar.con, Ar.list, mapO, B]
  | full l =>
    simp only [bstr?] at hs
    obtain ⟨h1, hs⟩ := ite_none hs
    simp only [Option.some.injEq] at hs
    subst hs
    simp only [Ar.con, Ar.list, List.length_map]
    rw [if_pos (by simp [hbt, h1.1]; exact h1.2), bytes_of]
    rfl
/-- What Grow does to a builder that has no room. -/
def bgrow? (a : Ar UInt8) (n : Int) : Option (Ar UInt8) := match a with
  | .nil => if 0 ≤ n ∧ n ≤ 281474976710656 then some (if n = 0 then .nil else .full []) else none
  | .full _ => none
theorem x_grow_eq {s b v off u len : Nat} {cs : List AV} {tB uB t : TypeId} {x : AV} {a a' : Ar UInt8} {n : Int} (hc : cur s = ⟨v, .cells cs⟩) (hm : cs[off]? = some (.bmark t)) (hl : liesAt P P.depth t (cs.length / P.cellsOf t) off tB 1 = true) (hx : cs[off + 1]? = some x) (hf : (Loc.fr 0 s).from x = some (rf (.fr 0 b) u len)) (hb : cur b = ⟨u, a.con 1 c_byte⟩) (hlen : len = a.list.length)
    (hbt : (Loc.fr 0 b).bt = some uB) (hg : bgrow? a n = some a') :
    x_grow P tB uB [.ptr (.fr 0 s) v off, .int .i64 n] ⟨cur, out, glob⟩ = some (.tup [], ⟨upd (upd cur b ⟨u + 1, a'.con 1 c_byte⟩) s ⟨v, .cells (cs.set (off + 1) (rf (.fr 0 b) (u + 1) a'.list.length))⟩, out, glob⟩) := by
  cases a with
  | full l => simp [bgrow?] at hg
  | nil =>
    simp only [bgrow?] at hg
    obtain ⟨h1, hg⟩ := ite_none hg
    simp only [Option.some.injEq] at hg
    subst hg hlen
    have hk : (⟨cur, out, glob⟩ : Heap).con (.fr 0 s) v = .cells cs := con_fr hc
    have hk2 : (⟨cur, out, glob⟩ : Heap).con (.fr 0 b) u = .arr true 0 [] := con_fr hb
    simp only [x_grow, if_pos h1, hk, hm, hl, if_true, hx, Option.bind_some, hf, rf, Ar.list, List.length_nil, hk2, hbt, true_or, into_fr0, Option.map_some, Heap.setObj]
    by_cases h0 : n = 0
    · simp [h0, Ar.con, Ar.list]
    · simp [h0, Ar.con, Ar.list]
end
end Go.AE
