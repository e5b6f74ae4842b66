/- Rules for walking with typed values: what operations give. -/
import Derived.Test.YtimnggioioeehabGreatDoorGxBase
namespace Go.AE

/-- Without pointers. -/
class Pl (a : AV) : Prop where
  tr : ∀ h, AV.trav h a = some a
class PlL (l : List AV) : Prop where
  tr : ∀ h, AV.travL h l = some l
/-- The cells of a value. -/
class Vl (a : AV) (vs : outParam (List AV)) : Prop where
  cells : a.cells = some vs
/-- Cells without pointers. -/
class Cs (l : List AV) : Prop where
  tr : ∀ h, AV.travL h l = some l
  one : l.all AV.one = true
class One (a : AV) : Prop where
  one : a.one = true
/-- How a value looks from the frame of a callee. -/
class Push (a : AV) (b : outParam AV) : Prop where
  tr : AV.trav (AV.mapLoc Loc.push) a = some b
class PushL (l : List AV) (m : outParam (List AV)) : Prop where
  tr : AV.travL (AV.mapLoc Loc.push) l = some m
def Loc.inn : Loc → Loc
  | .fr l t => .fr (l + 1) t
  | c => c
theorem Loc.push_inn (c : Loc) : c.push = some c.inn := by cases c <;> rfl

abbrev iA (n : Int) : AV := .int .i64 n
abbrev bA (b : Bool) : AV := .bool b
abbrev sA (s : Str) : AV := .str (B s)
section inst
variable {α : Type}
instance (k : IntKind) (n : Int) : Pl (.int k n) := ⟨fun _ => rfl⟩
instance (b : Bool) : Pl (.bool b) := ⟨fun _ => rfl⟩
instance (s : ByteArray) : Pl (.str s) := ⟨fun _ => rfl⟩
instance : Pl .nilp := ⟨fun _ => rfl⟩
instance : Pl .nilm := ⟨fun _ => rfl⟩
instance : Pl .nilf := ⟨fun _ => rfl⟩
instance : Pl .nili := ⟨fun _ => rfl⟩
instance (l : List AV) [h : Cs l] : Pl (.agg l) := ⟨fun g => by simp [AV.trav, h.tr g]⟩
instance (l : List AV) [h : PlL l] : Pl (.tup l) := ⟨fun g => by simp [AV.trav, h.tr g]⟩
theorem travLL_map (c : α → List AV) (h : ∀ x, Cs (c x)) (g : AV → Option AV) : ∀ l : List α, AV.travLL g (l.map c) = some (l.map c)
  | [] => rfl
  | x :: l => by simp [AV.travLL, (h x).tr g, travLL_map c h g l]
instance (n : Nat) (c : α → List AV) [h : ∀ x, Cs (c x)] (s : Sl α) : Pl (s.av n c) := ⟨fun g => by
  cases s with
  | nil => rfl
  | ez => rfl
  | full l => simp [Sl.av, AV.trav, travLL_map c h g l]⟩
instance : PlL [] := ⟨fun _ => rfl⟩
instance (a : AV) (l : List AV) [h : Pl a] [m : PlL l] : PlL (a :: l) := ⟨fun g => by simp [AV.travL, h.tr g, m.tr g]⟩
instance (k : IntKind) (n : Int) : Vl (.int k n) [.int k n] := ⟨rfl⟩
instance (b : Bool) : Vl (.bool b) [.bool b] := ⟨rfl⟩
instance (s : ByteArray) : Vl (.str s) [.str s] := ⟨rfl⟩
instance : Vl .nilp [.nilp] := ⟨rfl⟩
instance : Vl .nilm [.nilm] := ⟨rfl⟩
instance : Vl .nilf [.nilf] := ⟨rfl⟩
instance : Vl .nili [.nili] := ⟨rfl⟩
instance (c : Loc) (v off : Nat) : Vl (.ptr c v off) [.ptr c v off] := ⟨rfl⟩
instance (c : Loc) (v : Nat) : Vl (.mp c v) [.mp c v] := ⟨rfl⟩
instance (cs : List AV) : Vl (.agg cs) cs := ⟨rfl⟩
instance (n : Nat) (c : α → List AV) (s : Sl α) : Vl (s.av n c) [s.av n c] := ⟨by cases s <;> rfl⟩
instance (k : IntKind) (n : Int) : One (.int k n) := ⟨rfl⟩
instance (b : Bool) : One (.bool b) := ⟨rfl⟩
instance (s : ByteArray) : One (.str s) := ⟨rfl⟩
instance : One .nilp := ⟨rfl⟩
instance : One .nilm := ⟨rfl⟩
instance : One .nilf := ⟨rfl⟩
instance : One .nili := ⟨rfl⟩
instance (n : Nat) (c : α → List AV) (s : Sl α) : One (s.av n c) := ⟨by cases s <;> rfl⟩
instance : Cs [] := ⟨fun _ => rfl, rfl⟩
instance (a : AV) (l : List AV) [h : Pl a] [o : One a] [m : Cs l] : Cs (a :: l) := ⟨fun g => by simp [AV.travL, h.tr g, m.tr g], by simp only [List.all_cons, o.one, m.one, Bool.true_and]⟩
theorem travL_append (g : AV → Option AV) : ∀ (l m : List AV) {x y}, AV.travL g l = some x → AV.travL g m = some y → AV.travL g (l ++ m) = some (x ++ y)
  | [], m, x, y, h1, h2 => by simp [AV.travL] at h1; subst h1; simpa using h2
  | a :: l, m, x, y, h1, h2 => by
    simp only [AV.travL, Option.bind_eq_some_iff, Option.map_eq_some_iff] at h1
    obtain ⟨b, hb, z, hz, rfl⟩ := h1
    simp [AV.travL, hb, travL_append g l m hz h2]
instance (l m : List AV) [h : Cs l] [k : Cs m] : Cs (l ++ m) := ⟨fun g => travL_append g l m (h.tr g) (k.tr g), by simp only [List.all_append, h.one, k.one, Bool.true_and]⟩
instance (a : AV) [h : Pl a] : Push a a := ⟨h.tr _⟩
instance (c : Loc) (v off : Nat) : Push (.ptr c v off) (.ptr c.inn v off) := ⟨by simp [AV.trav, AV.mapLoc, Loc.push_inn]⟩
instance (c : Loc) (v off len : Nat) : Push (.rsl c v off len) (.rsl c.inn v off len) := ⟨by simp [AV.trav, AV.mapLoc, Loc.push_inn]⟩
instance (c : Loc) (v : Nat) : Push (.mp c v) (.mp c.inn v) := ⟨by simp [AV.trav, AV.mapLoc, Loc.push_inn]⟩
instance (f : Fn) (l m l2 m2 : List AV) [h : PushL l l2] [k : PushL m m2] : Push (.fn f l m) (.fn f l2 m2) := ⟨by simp [AV.trav, h.tr, k.tr]⟩
instance : PushL [] [] := ⟨rfl⟩
instance (a b : AV) (l m : List AV) [h : Push a b] [k : PushL l m] : PushL (a :: l) (b :: m) := ⟨by simp [AV.travL, h.tr, k.tr]⟩
theorem one_iA (n : Int) : (iA n).one = true := rfl
theorem one_bA (n : Bool) : (bA n).one = true := rfl
theorem one_sA (n : Str) : (sA n).one = true := rfl
theorem one_int (k : IntKind) (n : Int) : (AV.int k n).one = true := rfl
theorem travL_app (g : AV → Option AV) (l m : List AV) : AV.travL g (l ++ m) = (AV.travL g l).bind fun x => (AV.travL g m).map fun y => x ++ y := by
  induction l with
  | nil => simp [AV.travL]
  | cons a l ih =>
    simp only [List.cons_append, AV.travL, ih]
    cases AV.trav g a with
    | none => rfl
    | some b =>
      simp only [Option.bind_some]
      cases AV.travL g l with
      | none => rfl
      | some x =>
        simp only [Option.bind_some, Option.map_some]
        cases AV.travL g m with
        | none => rfl
        | some y => rfl
end inst

theorem mapO_trav (g : AV → Option AV) : ∀ l : List AV, mapO (AV.trav g) l = AV.travL g l
  | [] => rfl
  | a :: l => by simp [mapO, AV.travL, mapO_trav g l]
theorem from_pl (c : Loc) (a : AV) [h : Pl a] : c.from a = some a := by cases c <;> simp [Loc.from, h.tr]
theorem into_pl (c : Loc) (a : AV) [h : Pl a] : c.into a = some a := by cases c <;> simp [Loc.into, h.tr]
theorem intoAll_cs (c : Loc) (l : List AV) [h : Cs l] : intoAll c l = some l := by
  unfold intoAll
  cases c with
  | fr n t => exact (mapO_trav _ l).trans (h.tr _)
  | gl i => exact (mapO_trav _ l).trans (h.tr _)
theorem retV_pl (cur : Frame) (n : Nat) (a : AV) [h : Pl a] : retV cur n a = some a := by cases n <;> exact h.tr _

variable {P : Program} {pol : Pol} {f : FuncId} {ro : Bool} {rid i : Nat} {draw : Bool} {ops : Array Oper} {l : List Nat} {tm : Nat → AV} {K : St → Prop}

/-- An operation that is carried out. -/
theorem WO_do {hp h' : Heap} (o : Oper) {y : AV} (ho : ops[i]? = some o) (hw : wanted ops o tm = some true)
    (h1 : opF P pol (A P pol) f ro rid i (drawn pol f rid ops draw i) o (St.ev tm) hp = some (y, h')) (h : WO P pol f ro ops rid draw l ⟨putT tm o.dst y, h'⟩ K) : WO P pol f ro ops rid draw (i :: l) ⟨tm, hp⟩ K := by
  refine WO_cons ?_ h
  unfold stepOp
  rw [ho]
  simp only [hw, Option.bind_some, if_true, exOp, h1, Option.map_some]
/-- One that is not. -/
theorem WO_no {hp : Heap} (o : Oper) (ho : ops[i]? = some o) (hw : wanted ops o tm = some false)
    (h : WO P pol f ro ops rid draw l ⟨putT tm o.dst (.tup []), hp⟩ K) : WO P pol f ro ops rid draw (i :: l) ⟨tm, hp⟩ K := by
  refine WO_cons ?_ h
  unfold stepOp
  rw [ho]
  simp [hw]

/-- A call that changes nothing. 'any': it may be made where nothing outside may be written. -/
def RdOk (P : Program) (pol : Pol) (any : Bool) (g : FuncId) (args : List AV) (out : List Frame) (glob : List AObj) (r : AV) : Prop :=
  ∀ ro, (any || !ro) = true → ∃ r0 cur, A P pol ro g args out glob = some (r0, ⟨cur, out, glob⟩) ∧ retV cur 3 r0 = some r
instance (x : Int) : Cs (c_i8 x) := inferInstanceAs (Cs [.int .i8 x])
instance (x : Int) : Cs (c_i16 x) := inferInstanceAs (Cs [.int .i16 x])
instance (x : Int) : Cs (c_i32 x) := inferInstanceAs (Cs [.int .i32 x])
instance (x : Int) : Cs (c_i64 x) := inferInstanceAs (Cs [.int .i64 x])
instance (x : Int) : Cs (c_u8 x) := inferInstanceAs (Cs [.int .u8 x])
instance (x : Int) : Cs (c_u16 x) := inferInstanceAs (Cs [.int .u16 x])
instance (x : Int) : Cs (c_u32 x) := inferInstanceAs (Cs [.int .u32 x])
instance (x : Int) : Cs (c_u64 x) := inferInstanceAs (Cs [.int .u64 x])
instance (x : Bool) : Cs (c_bool x) := inferInstanceAs (Cs [.bool x])
instance (x : Str) : Cs (c_str x) := inferInstanceAs (Cs [.str (B x)])

def plainCall (pol : Pol) (f : FuncId) (rid i : Nat) (g : FuncId) : Bool := (pol.intr g).isNone && (pol.intrH g).isNone && !pol.away f rid i
theorem opF_call {hp st1 : Heap} {d : Bool} (o : Oper) (c : Call) {g : FuncId} {args args2 : List AV} {r0 v : AV} {h' : Heap} (hop : o.op = .call c) (hw : whoOf P (St.ev tm) c = some (.func g args)) (hi : plainCall pol f rid i g = true) (ha : AV.travL (AV.mapLoc Loc.push) args = some args2)
    (hA : A P pol (ro || d) g args2 (hp.cur :: hp.out) hp.glob = some (r0, h')) (hl : landOf hp (pol.mu f rid i) d (slotAt pol f rid i o) (r0, h') = some (v, st1)) :
    opF P pol (A P pol) f ro rid i d o (St.ev tm) hp = some (v, st1) := by
  simp only [plainCall, Bool.and_eq_true, Option.isNone_iff_eq_none, Bool.not_eq_true'] at hi
  simp only [opF, hop, hw, Option.bind_some, hi.1.1, hi.1.2, hi.2, Bool.false_and, Bool.false_eq_true, if_false, ha, hA, hl]

theorem WO_rd {hp : Heap} (o : Oper) (c : Call) {g : FuncId} {args args2 : List AV} {r : AV} (ho : ops[i]? = some o) (hw : wanted ops o tm = some true) (hop : o.op = .call c)
    (hwho : whoOf P (St.ev tm) c = some (.func g args)) (hi : plainCall pol f rid i g = true) (hmu : pol.mu f rid i = false) {any : Bool} (hr : (any || !(ro || drawn pol f rid ops draw i)) = true) [ha : PushL args args2] (hok : RdOk P pol any g args2 (hp.cur :: hp.out) hp.glob r)
    (h : WO P pol f ro ops rid draw l ⟨putT tm o.dst r, hp⟩ K) : WO P pol f ro ops rid draw (i :: l) ⟨tm, hp⟩ K := by
  obtain ⟨r0, cur, h1, h2⟩ := hok (ro || drawn pol f rid ops draw i) hr
  refine WO_do o ho hw (opF_call o c hop hwho hi ha.tr h1 ?_) h
  unfold landOf
  cases drawn pol f rid ops draw i with
  | true => simp [h2]
  | false => simp [h2, hmu]

/-- What stands in an object outside the frame. -/
def con2 (out : List Frame) (glob : List AObj) (c : Loc) (v : Nat) : Con := Heap.con ⟨fun _ => ⟨0, .gone⟩, out, glob⟩ c v
theorem con_con2 (cur : Frame) (out : List Frame) (glob : List AObj) (c : Loc) (v : Nat) (h : c.here = false) : Heap.con ⟨cur, out, glob⟩ c v = con2 out glob c v := by
  cases c with
  | fr l t => cases l with
    | zero => cases h
    | succ l => rfl
  | gl i => rfl
theorem con2_inn (cur : Frame) (out : List Frame) (glob : List AObj) (c : Loc) (v : Nat) : con2 (cur :: out) glob c.inn v = Heap.con ⟨cur, out, glob⟩ c v := by
  cases c with
  | fr l t => cases l <;> rfl
  | gl i => rfl
theorem inn_here (c : Loc) : c.inn.here = false := by cases c <;> rfl
theorem con_fr {cur : Frame} {out : List Frame} {glob : List AObj} {t v : Nat} {k : Con} (h : cur t = ⟨v, k⟩) : Heap.con ⟨cur, out, glob⟩ (.fr 0 t) v = k := by
  simp [Heap.con, Heap.obj, h]
/-- The same but for the object at c. -/
def Same (c : Loc) (out : List Frame) (glob : List AObj) (out' : List Frame) (glob' : List AObj) : Prop :=
  out'.length = out.length ∧ glob'.length = glob.length ∧ ∀ d : Loc, d ≠ c → d.here = false → Heap.obj ⟨fun _ => ⟨0, .gone⟩, out', glob'⟩ d = Heap.obj ⟨fun _ => ⟨0, .gone⟩, out, glob⟩ d
theorem Same.refl (c : Loc) (out : List Frame) (glob : List AObj) : Same c out glob out glob := ⟨rfl, rfl, fun _ _ _ => rfl⟩
theorem Same.trans {c : Loc} {o1 o2 o3 : List Frame} {g1 g2 g3 : List AObj} (h : Same c o1 g1 o2 g2) (k : Same c o2 g2 o3 g3) : Same c o1 g1 o3 g3 :=
  ⟨k.1.trans h.1, k.2.1.trans h.2.1, fun d h1 h2 => (k.2.2 d h1 h2).trans (h.2.2 d h1 h2)⟩

/-- A call that changes one object. -/
def MutOk (P : Program) (pol : Pol) (g : FuncId) (args : AV → List AV) (cs : List AV) (r : AV) (cs' : List AV) : Prop :=
  ∀ out glob c v, c.here = false → con2 out glob c v = .cells cs → ∃ r0 cur out' glob', A P pol false g (args (.ptr c v 0)) out glob = some (r0, ⟨cur, out', glob'⟩) ∧ retV cur 3 r0 = some r ∧
    con2 out' glob' c v = .cells cs' ∧ Same c out glob out' glob'

def atF (out : List Frame) (n t : Nat) : AObj := match out[n]? with
  | some fr => fr t
  | none => ⟨0, .gone⟩
def atG (glob : List AObj) (n : Nat) : AObj := (glob[n]?).getD ⟨0, .gone⟩
theorem frames_eq {out out' : List Frame} (h : out'.length = out.length) (k : ∀ n t, atF out' n t = atF out n t) : out' = out := by
  apply List.ext_getElem?
  intro n
  by_cases hn : n < out.length
  · have h1 : out[n]? = some out[n] := List.getElem?_eq_getElem hn
    have h2 : out'[n]? = some (out'[n]'(by omega)) := List.getElem?_eq_getElem (by omega)
    rw [h1, h2]
    congr 1
    funext t
    have := k n t
    unfold atF at this
    rw [h1, h2] at this
    exact this
  · rw [List.getElem?_eq_none (by omega), List.getElem?_eq_none (by omega)]
theorem glob_eq {glob glob' : List AObj} (h : glob'.length = glob.length) (k : ∀ n, atG glob' n = atG glob n) : glob' = glob := by
  apply List.ext_getElem?
  intro n
  by_cases hn : n < glob.length
  · have h1 : glob[n]? = some glob[n] := List.getElem?_eq_getElem hn
    have h2 : glob'[n]? = some (glob'[n]'(by omega)) := List.getElem?_eq_getElem (by omega)
    have := k n
    unfold atG at this
    rw [h1, h2] at this ⊢
    simpa using this
  · rw [List.getElem?_eq_none (by omega), List.getElem?_eq_none (by omega)]

/-- Back in the frame that called: the object lies in this frame. -/
theorem Same.back {cur : Frame} {out out' : List Frame} {glob glob' : List AObj} {t v : Nat} {cs : List AV} (hk : con2 out' glob' (.fr 1 t) v = .cells cs) (hs : Same (.fr 1 t) (cur :: out) glob out' glob') :
    out' = upd cur t ⟨v, .cells cs⟩ :: out ∧ glob' = glob := by
  obtain ⟨h1, h2, h3⟩ := hs
  match out', h1 with
  | cur' :: out'', h1 =>
    have e1 : cur' = upd cur t ⟨v, .cells cs⟩ := by
      funext s
      unfold upd
      split
      · rename_i e
        subst e
        obtain ⟨k1, k2⟩ := con_eq hk (by simp)
        simp only [Heap.obj, List.getElem?_cons_zero] at k1 k2
        cases hx : cur' s with
        | mk a b => rw [hx] at k1 k2; simp at k1 k2; rw [k1, k2]
      · rename_i e
        exact h3 (.fr 1 s) (by simpa using e) rfl
    have e2 : out'' = out := frames_eq (by simpa using h1) (fun n s => h3 (.fr (n + 2) s) (by simp) rfl)
    exact ⟨by rw [e1, e2], glob_eq h2 (fun n => h3 (.gl n) (by simp) rfl)⟩
/-- The object lies further out. -/
theorem Same.pop {cur : Frame} {out out' : List Frame} {glob glob' : List AObj} {c : Loc} (hc : c.here = false) (hs : Same c.inn (cur :: out) glob out' glob') :
    ∃ out'', out' = cur :: out'' ∧ Same c out glob out'' glob' := by
  obtain ⟨h1, h2, h3⟩ := hs
  match out', h1 with
  | cur' :: out'', h1 =>
    have e1 : cur' = cur := by
      funext s
      refine h3 (.fr 1 s) ?_ rfl
      cases c with
      | fr l t => cases l with
        | zero => cases hc
        | succ l => simp [Loc.inn]
      | gl i => simp [Loc.inn]
    refine ⟨out'', by rw [e1], by simpa using h1, h2, fun d hd hh => ?_⟩
    have := h3 d.inn (by cases d <;> cases c <;> simp_all [Loc.inn]) (inn_here d)
    cases d with
    | fr l t => cases l with
      | zero => cases hh
      | succ l => exact this
    | gl i => exact this

/-- A call that changes an object of this frame. -/
theorem WO_mutL {cur : Frame} {out : List Frame} {glob : List AObj} (o : Oper) (c : Call) {g : FuncId} {args : AV → List AV} {t v : Nat} {cs cs' : List AV} {r : AV} (ho : ops[i]? = some o) (hw : wanted ops o tm = some true) (hop : o.op = .call c)
    (hwho : whoOf P (St.ev tm) c = some (.func g (args (.ptr (.fr 0 t) v 0)))) (hi : plainCall pol f rid i g = true) (hmu : pol.mu f rid i = false) (hr : (ro || drawn pol f rid ops draw i) = false)
    (ha : ∀ c v, PushL (args (.ptr c v 0)) (args (.ptr c.inn v 0))) (hcur : cur t = ⟨v, .cells cs⟩) (hok : MutOk P pol g args cs r cs')
    (h : WO P pol f ro ops rid draw l ⟨putT tm o.dst r, ⟨upd cur t ⟨v, .cells cs'⟩, out, glob⟩⟩ K) : WO P pol f ro ops rid draw (i :: l) ⟨tm, ⟨cur, out, glob⟩⟩ K := by
  obtain ⟨r0, cur0, out', glob', h1, h2, h3, h4⟩ := hok (cur :: out) glob (Loc.fr 1 t) v rfl ((con2_inn cur out glob (.fr 0 t) v).trans (con_fr hcur))
  obtain ⟨rfl, rfl⟩ := Same.back h3 h4
  refine WO_do o ho hw (opF_call o c hop hwho hi (ha _ _).tr (by rw [hr]; exact h1) ?_) h
  simp only [Bool.or_eq_false_iff] at hr
  simp [landOf, hr.2, hmu, h2]
/-- A call that changes an object further out. -/
theorem WO_mutP {cur : Frame} {out : List Frame} {glob : List AObj} (o : Oper) (c : Call) {g : FuncId} {args : AV → List AV} {d : Loc} {v : Nat} {cs cs' : List AV} {r : AV} (ho : ops[i]? = some o) (hw : wanted ops o tm = some true) (hop : o.op = .call c)
    (hwho : whoOf P (St.ev tm) c = some (.func g (args (.ptr d v 0)))) (hi : plainCall pol f rid i g = true) (hmu : pol.mu f rid i = false) (hr : (ro || drawn pol f rid ops draw i) = false)
    (ha : ∀ c v, PushL (args (.ptr c v 0)) (args (.ptr c.inn v 0))) (hd : d.here = false) (hk : con2 out glob d v = .cells cs) (hok : MutOk P pol g args cs r cs')
    (h : ∀ out' glob', con2 out' glob' d v = .cells cs' → Same d out glob out' glob' → WO P pol f ro ops rid draw l ⟨putT tm o.dst r, ⟨cur, out', glob'⟩⟩ K) : WO P pol f ro ops rid draw (i :: l) ⟨tm, ⟨cur, out, glob⟩⟩ K := by
  obtain ⟨r0, cur0, out', glob', h1, h2, h3, h4⟩ := hok (cur :: out) glob d.inn v (inn_here d) ((con2_inn cur out glob d v).trans ((con_con2 _ _ _ _ _ hd).trans hk))
  obtain ⟨out'', rfl, h5⟩ := Same.pop hd h4
  have h6 : con2 out'' glob' d v = .cells cs' := (con_con2 cur _ _ _ _ hd).symm.trans ((con2_inn cur out'' glob' d v).symm.trans h3)
  refine WO_do o ho hw (opF_call o c hop hwho hi (ha _ _).tr (by rw [hr]; exact h1) ?_) (h _ _ h6 h5)
  simp only [Bool.or_eq_false_iff] at hr
  simp [landOf, hr.2, hmu, h2]
theorem far_nil : AV.travL (AV.mapLoc Loc.far) [] = some [] := rfl
theorem far_pl {a : AV} {l : List AV} [h : Pl a] (hl : AV.travL (AV.mapLoc Loc.far) l = some l) : AV.travL (AV.mapLoc Loc.far) (a :: l) = some (a :: l) := by simp [AV.travL, h.tr, hl]
theorem far_ptr {d : Loc} {v off : Nat} {l : List AV} (hd : d.here = false) (hl : AV.travL (AV.mapLoc Loc.far) l = some l) : AV.travL (AV.mapLoc Loc.far) (.ptr d v off :: l) = some (.ptr d v off :: l) := by
  have h : Loc.far d = some d := by
    cases d with
    | fr l t => cases l with
      | zero => cases hd
      | succ l => rfl
    | gl i => rfl
  simp [AV.travL, AV.trav, AV.mapLoc, h, hl]
/-- A call that changes an object further out, and is handed nothing of this frame. -/
theorem WO_mutA {cur : Frame} {out : List Frame} {glob : List AObj} (o : Oper) (c : Call) {g : FuncId} {args : AV → List AV} {d : Loc} {v : Nat} {cs cs' : List AV} {r : AV} [hp : Pl r] (ho : ops[i]? = some o) (hw : wanted ops o tm = some true) (hop : o.op = .call c)
    (hwho : whoOf P (St.ev tm) c = some (.func g (args (.ptr d v 0)))) (hi : ((pol.intr g).isNone && (pol.intrH g).isNone) = true) (haw : pol.away f rid i = true) (hmu : pol.mu f rid i = false) (hr : (ro || drawn pol f rid ops draw i) = false)
    (ha : ∀ c v, PushL (args (.ptr c v 0)) (args (.ptr c.inn v 0))) (hf : AV.travL (AV.mapLoc Loc.far) (args (.ptr d v 0)) = some (args (.ptr d v 0))) (hd : d.here = false) (hk : con2 out glob d v = .cells cs) (hok : MutOk P pol g args cs r cs')
    (h : ∀ out' glob', con2 out' glob' d v = .cells cs' → Same d out glob out' glob' → WO P pol f ro ops rid draw l ⟨putT tm o.dst r, ⟨cur, out', glob'⟩⟩ K) : WO P pol f ro ops rid draw (i :: l) ⟨tm, ⟨cur, out, glob⟩⟩ K := by
  obtain ⟨r0, cur0, out', glob', h1, h2, h3, h4⟩ := hok ((fun _ => ⟨0, .gone⟩) :: out) glob d.inn v (inn_here d) ((con2_inn _ out glob d v).trans ((con_con2 _ _ _ _ _ hd).trans hk))
  obtain ⟨out'', rfl, h5⟩ := Same.pop hd h4
  have h6 : con2 out'' glob' d v = .cells cs' := (con_con2 (fun _ => ⟨0, .gone⟩) _ _ _ _ hd).symm.trans ((con2_inn _ out'' glob' d v).symm.trans h3)
  simp only [Bool.or_eq_false_iff] at hr
  refine WO_do o ho hw (h' := ⟨cur, out'', glob'⟩) ?_ (h _ _ h6 h5)
  have hpush := (ha d v).tr
  simp only [Bool.and_eq_true, Option.isNone_iff_eq_none] at hi
  simp only [opF, hop, hwho, Option.bind_some, hi.1, hi.2, haw, hr.1, hr.2, hmu, Bool.or_false, Bool.not_false, Bool.and_true, if_true, awayOf, hf, hpush, hide]
  rw [h1]
  simp [landOf, h2, hp.tr]
/-- A call that changes nothing, and is handed nothing of this frame. -/
theorem WO_rdA {cur : Frame} {out : List Frame} {glob : List AObj} (o : Oper) (c : Call) {g : FuncId} {args args2 : List AV} {r : AV} [hp : Pl r] (ho : ops[i]? = some o) (hw : wanted ops o tm = some true) (hop : o.op = .call c)
    (hwho : whoOf P (St.ev tm) c = some (.func g args)) (hi : ((pol.intr g).isNone && (pol.intrH g).isNone) = true) (haw : pol.away f rid i = true) (hmu : pol.mu f rid i = false) (hr : (ro || drawn pol f rid ops draw i) = false) [ha : PushL args args2]
    (hf : AV.travL (AV.mapLoc Loc.far) args = some args) {any : Bool} (hok : RdOk P pol any g args2 ((fun _ => ⟨0, .gone⟩) :: out) glob r)
    (h : WO P pol f ro ops rid draw l ⟨putT tm o.dst r, ⟨cur, out, glob⟩⟩ K) : WO P pol f ro ops rid draw (i :: l) ⟨tm, ⟨cur, out, glob⟩⟩ K := by
  obtain ⟨r0, cur0, h1, h2⟩ := hok false (by simp)
  simp only [Bool.or_eq_false_iff] at hr
  refine WO_do o ho hw (h' := ⟨cur, out, glob⟩) ?_ h
  have hpush := ha.tr
  simp only [Bool.and_eq_true, Option.isNone_iff_eq_none] at hi
  simp only [opF, hop, hwho, Option.bind_some, hi.1, hi.2, haw, hr.1, hr.2, hmu, Bool.or_false, Bool.not_false, Bool.and_true, if_true, awayOf, hf, hpush, hide]
  rw [h1]
  simp [landOf, h2, hp.tr]
end Go.AE
