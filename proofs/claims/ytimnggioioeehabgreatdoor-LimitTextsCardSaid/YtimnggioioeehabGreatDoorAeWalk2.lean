/- Loads and stores at objects that are known by what they hold. -/
import Derived.Test.YtimnggioioeehabGreatDoorAeWalk
namespace Go.AE

variable {P : Program}

theorem from_int (c : Loc) (k : IntKind) (n : Int) : c.from (.int k n) = some (.int k n) := by cases c <;> rfl
theorem into_int (c : Loc) (k : IntKind) (n : Int) : c.into (.int k n) = some (.int k n) := by cases c <;> rfl
theorem from_bool (c : Loc) (b : Bool) : c.from (.bool b) = some (.bool b) := by cases c <;> rfl
theorem into_bool (c : Loc) (b : Bool) : c.into (.bool b) = some (.bool b) := by cases c <;> rfl
theorem from_str (c : Loc) (s : ByteArray) : c.from (.str s) = some (.str s) := by cases c <;> rfl
theorem into_str (c : Loc) (s : ByteArray) : c.into (.str s) = some (.str s) := by cases c <;> rfl
theorem trav_ints (h : AV → Option AV) (nl : Bool) (l : List Int) : (ints nl l).trav h = some (ints nl l) := by
  have : ∀ l : List Int, AV.travLL h (l.map fun n => [AV.int .i64 n]) = some (l.map fun n => [AV.int .i64 n]) := by
    intro l
    induction l with
    | nil => rfl
    | cons n l ih => simp [AV.travLL, AV.travL, AV.trav, ih]
  simp [ints, AV.trav, this]
theorem from_ints (c : Loc) (nl : Bool) (l : List Int) : c.from (ints nl l) = some (ints nl l) := by
  cases c with
  | fr l' t => exact trav_ints _ nl l
  | gl i => rfl
theorem into_ints (c : Loc) (nl : Bool) (l : List Int) : c.into (ints nl l) = some (ints nl l) := by
  cases c <;> exact trav_ints _ nl l

/-- One cell of an object. -/
theorem load_cell {st : Heap} {t : TypeId} {c : Loc} {v off : Nat} {cs : List AV} {x y : AV} (ha : isAgg? P t = some false) (hs : size? P t = some 1) (hk : st.con c v = .cells cs) (hx : cs[off]? = some x) (hy : c.from x = some y) :
    loadAt P st t (.ptr c v off) = some y := by
  simp [loadAt, ha, hs, hk, readAs, hx, hy]
theorem store_cell {st : Heap} {ro : Bool} {t : TypeId} {c : Loc} {v off : Nat} {cs : List AV} {x y : AV} (hs : size? P t = some 1) (hr : (ro && !c.here) = false) (hk : st.con c v = .cells cs) (hx : x.cells = some [x]) (hy : c.into x = some y) (h1 : y.one = true) (hl : off < cs.length) :
    storeAt P ro st t (.ptr c v off) x = some (st.setObj c ⟨v, .cells (cs.set off y)⟩) := by
  have hw : writeOver cs off 1 [y] = some (cs.set off y) := by
    simp [writeOver, h1, writeAll]; omega
  simp [storeAt, hs, hr, hk, hx, intoAll, mapO, hy, hw]

/-- An object that was written. -/
theorem con_set {st : Heap} {c : Loc} {v : Nat} {k : Con} (hv : st.valid c) : (st.setObj c ⟨v, k⟩).con c v = k := by
  simp [Heap.con, obj_setObj st c ⟨v, k⟩ hv c]
theorem con_set_ne {st : Heap} {c c' : Loc} {v v' : Nat} {k : Con} (hv : st.valid c) (hn : c' ≠ c) : (st.setObj c ⟨v, k⟩).con c' v' = st.con c' v' := by
  simp [Heap.con, obj_setObj st c ⟨v, k⟩ hv c', hn]
theorem con_valid {st : Heap} {c : Loc} {v : Nat} {k : Con} (hk : st.con c v = k) (hn : k ≠ .gone) : st.valid c := by
  obtain ⟨_, h2⟩ := con_eq hk hn
  exact valid_of_con (by rw [h2]; exact hn)

variable {pol : Pol} {f : FuncId} {ro : Bool} {rid : Nat} {draw : Bool}

/-- A guarded operation that is carried out. -/
theorem WO_on {ops : Array Oper} {i : Nat} {l : List Nat} {tm : Nat → AV} {hp : Heap} {K : St → Prop} (o : Oper) {j d : Nat} {want : Bool} {y : AV} {h' : Heap} (ho : ops[i]? = some o) (hg : o.guard = some (j, want)) (hd : (ops[j]?).bind (·.dst) = some d) (ht : tm d = .bool want)
    (h1 : opF P pol (A P pol) f ro rid i (drawn pol f rid ops draw i) o (St.ev tm) hp = some (y, h')) (h : WO P pol f ro ops rid draw l ⟨putT tm o.dst y, h'⟩ K) : WO P pol f ro ops rid draw (i :: l) ⟨tm, hp⟩ K := by
  refine WO_cons ?_ h
  unfold stepOp
  rw [ho]
  simp only [wanted, hg, hd, ht, beq_self_eq_true, Option.bind_some, if_true, exOp, h1, Option.map_some]
/-- A guarded operation that is not. -/
theorem WO_off {ops : Array Oper} {i : Nat} {l : List Nat} {tm : Nat → AV} {hp : Heap} {K : St → Prop} (o : Oper) {j d : Nat} {want : Bool} (ho : ops[i]? = some o) (hg : o.guard = some (j, want)) (hd : (ops[j]?).bind (·.dst) = some d) (ht : tm d = .bool (!want) ∨ tm d = .tup [])
    (h : WO P pol f ro ops rid draw l ⟨putT tm o.dst (.tup []), hp⟩ K) : WO P pol f ro ops rid draw (i :: l) ⟨tm, hp⟩ K := by
  refine WO_cons ?_ h
  unfold stepOp
  rw [ho]
  rcases ht with ht | ht
  · cases want <;> simp [wanted, hg, hd, ht]
  · simp [wanted, hg, hd, ht]
end Go.AE
