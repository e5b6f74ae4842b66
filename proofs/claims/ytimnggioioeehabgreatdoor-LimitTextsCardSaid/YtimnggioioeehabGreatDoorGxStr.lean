/- Library functions on strings that are answered for by contracts. -/
import Derived.Test.YtimnggioioeehabGreatDoorGxArr
import Derived.Lib.Split
import Derived.Lib.SplitLaws
import Derived.Lib.IndexMore
import Derived.Lib.Atoi
import Derived.Lib.RuneCount
import Derived.Lib.ConvBytes
import Derived.Lib.AtoiErrMem
namespace Go.AE
open Go.RowKit (Below)
variable {P : Program}

/-- A variable that holds an int. -/
def IntVar (g : Nat) (w : World) : Prop := ∃ m, w.cell? ⟨g, 0, none⟩ = some (.int .i64 m)
theorem intVar_below {g : Nat} {w w' : World} (hb : Below w.heap.size w w') (h : IntVar g w) : IntVar g w' := by
  obtain ⟨m, hm⟩ := h
  exact ⟨m, (World.cell?_of_block (hb.block g (World.block_lt_of_cell? w ⟨g, 0, none⟩ hm))).trans hm⟩
/-- A slice of strings in the place of its content. -/
@[irreducible] def fsl (l : List Str) : Sl Str := .full l
theorem fsl_eq (l : List Str) : fsl l = .full l := by unfold fsl; rfl

/-- strings.Index -/
def x_index : List AV → Option AV
  | [.str s, .str t] => if s.size < 4294967281 then some (.int .i64 (Go.Lib.index s.data.toList t.data.toList)) else none
  | _ => none
def index? (s t : Str) : Option Int := if s.length < 4294967281 then some (Go.Lib.index s t) else none
theorem x_index_eq {s t : Str} {n : Int} (h : index? s t = some n) : x_index [sA s, sA t] = some (iA n) := by
  unfold index? at h
  obtain ⟨h1, h⟩ := ite_none h
  simp only [Option.some.injEq] at h
  subst h
  simp only [x_index]
  exact if_pos h1
theorem law_strIndex {g gv : FuncId} {fn : Func} (hf : P.funcs[g]? = some fn) (hb : fn.body.isSome = true) (hn : fn.name ≠ "runtime.NumGoroutine") {tabs : World → Prop}
    (h : ∀ (s t : ByteArray) (m : Int) (w : World), s.size < 4294967281 → w.cell? ⟨gv, 0, none⟩ = some (.int .i64 m) → Calls P g #[.string s, .string t] w fun e w' => e = .returned (.int .i64 (Go.Lib.index s.data.toList t.data.toList)) ∧ w' = w) (hv : ∀ w, tabs w → IntVar gv w) : LawOk P tabs g x_index := by
  refine calls_law hf hb hn fun im ob vs args r w ht _ hvs hr => ?_
  unfold x_index at hr
  split at hr
  · rename_i s t
    obtain ⟨hc, hr⟩ := ite_none hr
    simp only [Option.some.injEq] at hr
    subst hr
    obtain ⟨v0, v1, rfl, g0, g1⟩ := list2 hvs
    cases g0
    cases g1
    obtain ⟨m, hm⟩ := hv w ht
    refine (h s t m w hc hm).mono fun e w' he => ?_
    obtain ⟨rfl, rfl⟩ := he
    exact ⟨_, rfl, gives_pl (.refl _ _) (.int _ _)⟩
  · cases hr
/-- strings.Cut -/
def x_cut : List AV → Option AV
  | [.str s, .str t] => if s.size < 4294967281 then some (.tup [.str ⟨(Go.Lib.cut s.data.toList t.data.toList).1.toArray⟩, .str ⟨(Go.Lib.cut s.data.toList t.data.toList).2.1.toArray⟩, .bool (Go.Lib.cut s.data.toList t.data.toList).2.2]) else none
  | _ => none
def cut? (s t : Str) : Option (Str × Str × Bool) := if s.length < 4294967281 then some (Go.Lib.cut s t) else none
theorem x_cut_eq {s t : Str} {n : Str × Str × Bool} (h : cut? s t = some n) : x_cut [sA s, sA t] = some (.tup [sA n.1, sA n.2.1, .bool n.2.2]) := by
  unfold cut? at h
  obtain ⟨h1, h⟩ := ite_none h
  simp only [Option.some.injEq] at h
  subst h
  simp only [x_cut]
  exact if_pos h1
theorem tup3 {im : Imm} {ob : Obm} {a b c : Value} {x y z : AV} (h1 : V0 im ob a x) (h2 : V0 im ob b y) (h3 : V0 im ob c z) : V0 im ob (.tuple #[a, b, c]) (.tup [x, y, z]) := by
  refine .tup _ _ rfl (fun j v q hv hq => ?_)
  match j, hv, hq with
  | 0, hv, hq => cases hv; cases hq; exact h1
  | 1, hv, hq => cases hv; cases hq; exact h2
  | 2, hv, hq => cases hv; cases hq; exact h3
  | j + 3, hv, hq => simp at hv
theorem tup2 {im : Imm} {ob : Obm} {a b : Value} {x y : AV} (h1 : V0 im ob a x) (h2 : V0 im ob b y) : V0 im ob (.tuple #[a, b]) (.tup [x, y]) := by
  refine .tup _ _ rfl (fun j v q hv hq => ?_)
  match j, hv, hq with
  | 0, hv, hq => cases hv; cases hq; exact h1
  | 1, hv, hq => cases hv; cases hq; exact h2
  | j + 2, hv, hq => simp at hv
theorem below_drewN {w : World} : ∀ n, Below w.heap.size w (w.drewN n)
  | _ => ⟨rfl, rfl, rfl, Nat.le_refl _, fun _ _ => rfl⟩
theorem law_cut {g gv : FuncId} {fn : Func} (hf : P.funcs[g]? = some fn) (hb : fn.body.isSome = true) (hn : fn.name ≠ "runtime.NumGoroutine") {tabs : World → Prop}
    (h : ∀ (s t : ByteArray) (m : Int) (w : World), s.size < 4294967281 → w.cell? ⟨gv, 0, none⟩ = some (.int .i64 m) → Calls P g #[.string s, .string t] w fun e w' => e = .returned (.tuple #[.string ⟨(Go.Lib.cut s.data.toList t.data.toList).1.toArray⟩, .string ⟨(Go.Lib.cut s.data.toList t.data.toList).2.1.toArray⟩, .bool (Go.Lib.cut s.data.toList t.data.toList).2.2]) ∧ ∃ n, w' = w.drewN n) (hv : ∀ w, tabs w → IntVar gv w) : LawOk P tabs g x_cut := by
  refine calls_law hf hb hn fun im ob vs args r w ht _ hvs hr => ?_
  unfold x_cut at hr
  split at hr
  · rename_i s t
    obtain ⟨hc, hr⟩ := ite_none hr
    simp only [Option.some.injEq] at hr
    subst hr
    obtain ⟨v0, v1, rfl, g0, g1⟩ := list2 hvs
    cases g0
    cases g1
    obtain ⟨m, hm⟩ := hv w ht
    refine (h s t m w hc hm).mono fun e w' he => ?_
    obtain ⟨rfl, n, rfl⟩ := he
    exact ⟨_, rfl, gives_pl (below_drewN n) (tup3 (.str _) (.str _) (.bool _))⟩
  · cases hr
/-- strconv.Atoi, of what is a number. -/
def x_atoi : List AV → Option AV
  | [.str s] => if s.size ≤ 18 then (Go.Lib.atoi s.data.toList).map fun n => .tup [.int .i64 n, .nili] else none
  | _ => none
def atoi? (s : Str) : Option Int := if s.length ≤ 18 then Go.Lib.atoi s else none
theorem x_atoi_eq {s : Str} {n : Int} (h : atoi? s = some n) : x_atoi [sA s] = some (.tup [iA n, .nili]) := by
  unfold atoi? at h
  obtain ⟨h1, h⟩ := ite_none h
  simp only [x_atoi]
  refine (if_pos h1).trans ?_
  show Option.map _ (Go.Lib.atoi s) = _
  rw [h]
  rfl
theorem law_atoi {u8 : TypeId} {g : FuncId} {fn : Func} (hf : P.funcs[g]? = some fn) (hb : fn.body.isSome = true) (hn : fn.name ≠ "runtime.NumGoroutine") {tabs : World → Prop}
    (h : ∀ (s : ByteArray) (n : Int), s.size ≤ 18 → Go.Lib.atoi s.data.toList = some n → ∀ w : World, Calls P g #[.string s] w fun e w' => e = .returned (.tuple #[.int .i64 n, .nilIface]) ∧ ∃ t, w' = Go.Lib.bytesWorld w u8 t) : LawOk P tabs g x_atoi := by
  refine calls_law hf hb hn fun im ob vs args r w _ _ hvs hr => ?_
  unfold x_atoi at hr
  split at hr
  · rename_i s
    obtain ⟨hc, hr⟩ := ite_none hr
    simp only [Option.map_eq_some_iff] at hr
    obtain ⟨n, hn2, rfl⟩ := hr
    obtain ⟨v0, rfl, g0⟩ := list1 hvs
    cases g0
    refine (h s n hc hn2 w).mono fun e w' he => ?_
    obtain ⟨rfl, t, rfl⟩ := he
    exact ⟨_, rfl, gives_pl (Go.Lib.bytesWorld_below w u8 t) (tup2 (.int _ _) .nili)⟩
  · cases hr
/-- strings.Split -/
def x_split : List AV → Option AV
  | [.str s, .str t] => if s.size < 4294967281 ∧ 1 ≤ t.size then some (.sl false 1 ((Go.Lib.splitB t 0 (Go.Lib.countB s t) s).map fun x => [.str x])) else none
  | _ => none
def splitL (s t : Str) : List Str := (Go.Lib.splitB (B t) 0 (Go.Lib.countB (B s) (B t)) (B s)).map (·.data.toList)
def split? (s t : Str) : Option (Sl Str) := if s.length < 4294967281 ∧ 1 ≤ t.length then some (fsl (splitL s t)) else none
theorem x_split_eq {s t : Str} {n : Sl Str} (h : split? s t = some n) : x_split [sA s, sA t] = some (n.av 1 c_str) := by
  unfold split? at h
  obtain ⟨h1, h⟩ := ite_none h
  simp only [Option.some.injEq] at h
  subst h
  simp only [x_split]
  refine (if_pos h1).trans ?_
  rw [fsl_eq]
  simp only [Sl.av, splitL, List.map_map]
  congr 3
theorem law_split {ty : TypeId} {g gv : FuncId} {fn : Func} (hf : P.funcs[g]? = some fn) (hb : fn.body.isSome = true) (hn : fn.name ≠ "runtime.NumGoroutine") {tabs : World → Prop}
    (hlen : ∀ (s t : ByteArray), 1 ≤ t.size → (Go.Lib.splitB t 0 (Go.Lib.countB s t) s).length = Go.Lib.countB s t + 1)
    (h : ∀ (s t : ByteArray) (m : Int) (w : World), s.size < 4294967281 → w.cell? ⟨gv, 0, none⟩ = some (.int .i64 m) → 1 ≤ t.size → Calls P g #[.string s, .string t] w fun e w' => e = .returned (.slice (some ⟨w.heap.size, 0, none⟩) (Go.Lib.countB s t + 1) (Go.Lib.countB s t + 1)) ∧ w' = w.alloc (.cells ((Go.Lib.splitB t 0 (Go.Lib.countB s t) s).map Value.string).toArray ty)) (hv : ∀ w, tabs w → IntVar gv w) : LawOk P tabs g x_split := by
  refine calls_law hf hb hn fun im ob vs args r w ht him hvs hr => ?_
  unfold x_split at hr
  split at hr
  · rename_i s t
    obtain ⟨hc, hr⟩ := ite_none hr
    simp only [Option.some.injEq] at hr
    subst hr
    obtain ⟨v0, v1, rfl, g0, g1⟩ := list2 hvs
    cases g0
    cases g1
    obtain ⟨m, hm⟩ := hv w ht
    refine (h s t m w hc.1 hm hc.2).mono fun e w' he => ?_
    obtain ⟨rfl, rfl⟩ := he
    have hl := hlen s t hc.2
    generalize Go.Lib.countB s t = n at hl ⊢
    generalize Go.Lib.splitB t 0 n s = l at hl ⊢
    have F : Fresh w (w.alloc (.cells (l.map Value.string).toArray ty)) (.cells (l.map Value.string).toArray ty) := Fresh.alloc _ _
    have hnone : ∀ off, im w.heap.size off = none := fun off => by
      cases hx : im w.heap.size off with
      | none => rfl
      | some v => have := World.block_lt_of_cell? w ⟨w.heap.size, off, none⟩ (him _ _ _ hx); simp at this
    refine ⟨_, rfl, fun b off => if b = w.heap.size then (l.map Value.string)[off]? else im b off, fun b off v hv => ?_, fun b off v hv => ?_, F.below, ?_⟩
    · have hne : b ≠ w.heap.size := fun e => by subst e; rw [hnone off] at hv; cases hv
      simp only [if_neg hne]; exact hv
    · by_cases hb2 : b = w.heap.size
      · subst hb2
        simp only [if_true] at hv
        exact .inr ⟨Nat.le_refl _, by simp only [World.cell?, F.at_]; simpa using hv⟩
      · simp only [if_neg hb2] at hv; exact .inl hv
    · refine .sl _ _ _ _ _ 1 (by simpa using hl) (Nat.le_refl _) (fun i e he => ?_) (fun i j hi hj => ?_) (fun i j e v x he hx hv => ?_)
      · simp only [List.getElem?_map, Option.map_eq_some_iff] at he
        obtain ⟨q, _, rfl⟩ := he
        rfl
      · obtain rfl : j = 0 := by omega
        have hi' : i < l.length := by simpa using hi
        exact ⟨.string l[i], by simp [hi']⟩
      · simp only [List.getElem?_map, Option.map_eq_some_iff] at he
        obtain ⟨q, hq, rfl⟩ := he
        cases j with
        | succ j => simp at hx
        | zero =>
          simp only [List.getElem?_cons_zero, Option.some.injEq] at hx
          subst hx
          simp only [if_true, Nat.zero_add, Nat.mul_one, Nat.add_zero, List.getElem?_map, hq, Option.map_some, Option.some.injEq] at hv
          subst hv
          exact .str _
  · cases hr
/-- utf8.RuneCountInString -/
def x_runes : List AV → Option AV
  | [.str s] => if s.size < 9223372036854775807 then some (.int .i64 (Go.Lib.runeCount s)) else none
  | _ => none
def runes? (s : Str) : Option Int := if s.length < 9223372036854775807 then some (Go.Lib.runeCount (B s)) else none
theorem x_runes_eq {s : Str} {n : Int} (h : runes? s = some n) : x_runes [sA s] = some (iA n) := by
  unfold runes? at h
  obtain ⟨h1, h⟩ := ite_none h
  simp only [Option.some.injEq] at h
  subst h
  simp only [x_runes]
  exact if_pos h1
theorem split_len (s t : ByteArray) (h : 1 ≤ t.size) : (Go.Lib.splitB t 0 (Go.Lib.countB s t) s).length = Go.Lib.countB s t + 1 := Go.Lib.splitB_all t h 0 _ s rfl
/-- strings.Split, where what it gives is to be written: an array of the frame's. -/
def x_splitH : List AV → Heap → Option (AV × Heap)
  | [.str s, .str t], h => if s.size < 4294967281 ∧ 1 ≤ t.size then newSlice h true false 900000 1 ((Go.Lib.splitB t 0 (Go.Lib.countB s t) s).map fun x => [.str x]) else none
  | _, _ => none
theorem law_splitH {ty : TypeId} {g gv : FuncId} {fn : Func} (hf : P.funcs[g]? = some fn) (hb : fn.body.isSome = true) (hn : fn.name ≠ "runtime.NumGoroutine") {tabs : World → Prop}
    (hlen : ∀ (s t : ByteArray), 1 ≤ t.size → (Go.Lib.splitB t 0 (Go.Lib.countB s t) s).length = Go.Lib.countB s t + 1)
    (h : ∀ (s t : ByteArray) (m : Int) (w : World), s.size < 4294967281 → w.cell? ⟨gv, 0, none⟩ = some (.int .i64 m) → 1 ≤ t.size → Calls P g #[.string s, .string t] w fun e w' => e = .returned (.slice (some ⟨w.heap.size, 0, none⟩) (Go.Lib.countB s t + 1) (Go.Lib.countB s t + 1)) ∧ w' = w.alloc (.cells ((Go.Lib.splitB t 0 (Go.Lib.countB s t) s).map Value.string).toArray ty)) (hv : ∀ w, tabs w → IntVar gv w) : LawHOk P tabs g x_splitH := by
  intro κ im ob hp w vs args r h' ht H hro hvs hr
  refine ⟨callFunc_run hf hb hn vs, ?_⟩
  unfold x_splitH at hr
  split at hr
  · rename_i s t
    obtain ⟨hc, hr⟩ := ite_none hr
    obtain ⟨v0, v1, rfl, g0, g1⟩ := list2 hvs
    cases g0
    cases g1
    obtain ⟨m, hm⟩ := hv w ht
    refine (h s t m w hc.1 hm hc.2).mono fun e w' he => ?_
    obtain ⟨rfl, rfl⟩ := he
    have hl := hlen s t hc.2
    generalize Go.Lib.countB s t = n at hl hr ⊢
    generalize Go.Lib.splitB t 0 n s = l at hl hr ⊢
    have hR : RowR im ob 1 (l.map Value.string).toArray (l.map fun x => [.str x]) := by
      refine ⟨fun i e he => ?_, by simp, fun i j e v x he hx hv => ?_⟩
      · simp only [List.getElem?_map, Option.map_eq_some_iff] at he
        obtain ⟨q, _, rfl⟩ := he
        rfl
      · simp only [List.getElem?_map, Option.map_eq_some_iff] at he
        obtain ⟨q, hq, rfl⟩ := he
        match j, hx with
        | 0, hx =>
          simp only [List.getElem?_cons_zero, Option.some.injEq] at hx
          subst hx
          have : v = .string q := by simpa [hq] using hv.symm
          subst this
          exact .str _
        | j + 1, hx => simp at hx
    obtain ⟨im', ob', k1, k2, k3, k4⟩ := newSlice_run H (fun _ => rfl) hr (Fresh.alloc w (.cells (l.map Value.string).toArray ty)) hR (cap := n + 1) (by simp [hl]) (by simp [hl])
    exact ⟨_, rfl, im', ob', k1, k2, k3, by simpa [hl] using k4⟩
  · cases hr
theorem WO_splitH {pol : Pol} {f : FuncId} {ro : Bool} {rid i : Nat} {draw : Bool} {ops : Array Oper} {l : List Nat} {tm : Nat → AV} {K : St → Prop} {cur : Frame} {out : List Frame} {glob : List AObj} {s t : Str} {y : Sl Str} (op : Oper) (cl : Call) {g : FuncId} (ho : ops[i]? = some op) (hw : wanted ops op tm = some true) (hop : op.op = .call cl)
    (hwho : whoOf P (St.ev tm) cl = some (.func g [sA s, sA t])) (hi : pol.intr g = none) (hih : pol.intrH g = some x_splitH) (hd : drawn pol f rid ops draw i = false) (hro : ro = false) (haw : pol.away f rid i = false) (h : split? s t = some y)
    (hK : ∀ o', LzF 1 c_str o' y → WO P pol f ro ops rid draw l ⟨putT tm op.dst (y.lav (.fr 0 900000) o'.ver), ⟨upd cur 900000 o', out, glob⟩⟩ K) : WO P pol f ro ops rid draw (i :: l) ⟨tm, ⟨cur, out, glob⟩⟩ K := by
  unfold split? at h
  obtain ⟨h1, h⟩ := ite_none h
  simp only [Option.some.injEq] at h
  subst h
  rw [fsl_eq] at hK
  refine WO_do op ho hw (opF_H cl hop hwho hi hih hd hro haw ?_) (hK ⟨(cur 900000).ver + 1, .arr false 1 ((splitL s t).map c_str)⟩ rfl)
  simp only [x_splitH]
  refine (if_pos h1).trans ?_
  have hm : ((Go.Lib.splitB (B t) 0 (Go.Lib.countB (B s) (B t)) (B s)).map fun x => [AV.str x]) = (splitL s t).map c_str := by
    simp only [splitL, List.map_map]
    rfl
  rw [hm]
  have hinto : intoAllL (Loc.fr 0 900000) ((splitL s t).map c_str) = some ((splitL s t).map c_str) := mapO_cs _ (fun x => intoAll_cs _ _) _
  simp [newSlice, Heap.alloc, Loc.bt, hinto, Heap.setObj, upd_upd, Sl.lav]
end Go.AE
