/- Library functions that are answered for by a contract. -/
import Derived.Test.YtpadcfhbcdchbaaDoorGxIntr
import Derived.Lib.AppendIntMem
import Derived.Lib.ItoaNum
import Derived.Lib.LaidTab
import Derived.Lib.Small
import Derived.Lib.Strings
import Derived.Lib.Bytealg
namespace Go.AE
open Go.RowKit (Below)
variable {P : Program}

/-- A function that is known by what its calls give. -/
theorem calls_law {g : FuncId} {fn : Func} {fx : List AV → Option AV} (hf : P.funcs[g]? = some fn) (hb : fn.body.isSome = true) (hn : fn.name ≠ "runtime.NumGoroutine") {tabs : World → Prop}
    (h : ∀ im ob vs args r w, tabs w → (∀ b off v, im b off = some v → w.cell? ⟨b, off, none⟩ = some v) → ListR im ob vs args → fx args = some r → Calls P g vs w fun e w' => ∃ v, e = .returned v ∧ Gives im ob w r v w') : LawOk P tabs g fx := by
  intro im ob w vs args r ht him hvs hr
  exact .inl ⟨callFunc_run hf hb hn vs, h im ob vs args r w ht him hvs hr⟩
theorem gives_pl {im : Imm} {ob : Obm} {w w' : World} {r : AV} {v : Value} (hb : Below w.heap.size w w') (h : V0 im ob v r) : Gives im ob w r v w' :=
  ⟨im, ImLe.refl _, fun _ _ _ h => .inl h, hb, h⟩
theorem list1 {im : Imm} {ob : Obm} {vs : Array Value} {a : AV} (h : ListR im ob vs [a]) : ∃ v, vs = #[v] ∧ V0 im ob v a := by
  obtain ⟨h1, h2⟩ := h
  obtain ⟨l⟩ := vs
  match l, h1 with
  | [v], _ => exact ⟨v, rfl, h2 0 v a rfl rfl⟩
theorem list2 {im : Imm} {ob : Obm} {vs : Array Value} {a b : AV} (h : ListR im ob vs [a, b]) : ∃ v w, vs = #[v, w] ∧ V0 im ob v a ∧ V0 im ob w b := by
  obtain ⟨h1, h2⟩ := h
  obtain ⟨l⟩ := vs
  match l, h1 with
  | [v, w], _ => exact ⟨v, w, rfl, h2 0 v a rfl rfl, h2 1 w b rfl rfl⟩
def lib_ss (R : ByteArray → ByteArray → AV) : List AV → Option AV
  | [.str a, .str b] => some (R a b)
  | _ => none
theorem law_ss {g : FuncId} {fn : Func} (hf : P.funcs[g]? = some fn) (hb : fn.body.isSome = true) (hn : fn.name ≠ "runtime.NumGoroutine") {tabs : World → Prop} {R : ByteArray → ByteArray → AV} {V : ByteArray → ByteArray → Value} (hV : ∀ im ob a b, V0 im ob (V a b) (R a b))
    (h : ∀ a b w, Calls P g #[.string a, .string b] w fun e w' => e = .returned (V a b) ∧ w' = w) : LawOk P tabs g (lib_ss R) := by
  refine calls_law hf hb hn fun im ob vs args r w _ _ hvs hr => ?_
  unfold lib_ss at hr
  split at hr
  · rename_i a b
    simp only [Option.some.injEq] at hr
    subst hr
    obtain ⟨v0, v1, rfl, g0, g1⟩ := list2 hvs
    cases g0
    cases g1
    refine (h a b w).mono fun e w' he => ?_
    obtain ⟨rfl, rfl⟩ := he
    exact ⟨_, rfl, gives_pl (.refl _ _) (hV _ _ _ _)⟩
  · cases hr
section
variable {pol : Pol} {call : CallF} {f : FuncId} {ro : Bool} {rid i : Nat} {d : Bool} {o : Oper} {ev : Operand → AV}
theorem op_lib {hp : Heap} (cl : Call) {g : FuncId} {args : List AV} {fx : List AV → Option AV} {y : AV} (hop : o.op = .call cl) (hw : whoOf P ev cl = some (.func g args)) (hi : pol.intr g = some fx) (hx : fx args = some y) : opF P pol call f ro rid i d o ev hp = some (y, hp) := by
  simp [opF, hop, hw, hi, hx]
end
/-- strconv.Itoa -/
def itoa? (n : Int) : Option Str := if -9223372036854775808 ≤ n ∧ n ≤ 9223372036854775807 then some (Go.Lib.itoa n) else none
def x_itoa : List AV → Option AV
  | [.int .i64 n] => (itoa? n).map fun s => .str (B s)
  | _ => none
theorem x_itoa_eq {n : Int} {s : Str} (h : itoa? n = some s) : x_itoa [iA n] = some (sA s) := by simp [x_itoa, h]
theorem law_itoa {g : FuncId} {fn : Func} (hf : P.funcs[g]? = some fn) (hb : fn.body.isSome = true) (hn : fn.name ≠ "runtime.NumGoroutine") {tabs : World → Prop}
    (h : ∀ n w, -9223372036854775808 ≤ n → n ≤ 9223372036854775807 → tabs w → Calls P g #[.int .i64 n] w fun e w' => e = .returned (.string ⟨(Go.Lib.itoa n).toArray⟩) ∧ ∃ k os, w' = Go.Sort.grow (w.drewN k) os) : LawOk P tabs g x_itoa := by
  refine calls_law hf hb hn fun im ob vs args r w ht _ hvs hr => ?_
  unfold x_itoa at hr
  split at hr
  · rename_i n
    unfold itoa? at hr
    split at hr
    · rename_i hr1
      simp only [Option.map_some, Option.some.injEq] at hr
      subst hr
      obtain ⟨v0, rfl, g0⟩ := list1 hvs
      cases g0
      refine (h n w hr1.1 hr1.2 ht).mono fun e w' he => ?_
      obtain ⟨rfl, k, os, rfl⟩ := he
      exact ⟨_, rfl, gives_pl (Go.Lib.below_grow _ w (Nat.le_refl _) k os) (.str _)⟩
    · cases hr
  · cases hr
/-- strings.Compare -/
def x_compare : List AV → Option AV := lib_ss fun a b => .int .i64 (Go.Lib.compareBytes a.data.toList b.data.toList)
theorem law_compare {g : FuncId} {fn : Func} (hf : P.funcs[g]? = some fn) (hb : fn.body.isSome = true) (hn : fn.name ≠ "runtime.NumGoroutine") {tabs : World → Prop}
    (h : ∀ a b w, Calls P g #[.string a, .string b] w fun e w' => e = .returned (.int .i64 (Go.Lib.compareBytes a.data.toList b.data.toList)) ∧ w' = w) : LawOk P tabs g x_compare :=
  law_ss hf hb hn (V := fun a b => .int .i64 (Go.Lib.compareBytes a.data.toList b.data.toList)) (fun _ _ _ _ => .int _ _) h
/-- strings.HasPrefix -/
def x_hasPrefix : List AV → Option AV := lib_ss fun a b => .bool (Go.Lib.hasPrefix a.data.toList b.data.toList)
theorem law_hasPrefix {g : FuncId} {fn : Func} (hf : P.funcs[g]? = some fn) (hb : fn.body.isSome = true) (hn : fn.name ≠ "runtime.NumGoroutine") {tabs : World → Prop}
    (h : ∀ a b w, Calls P g #[.string a, .string b] w fun e w' => e = .returned (.bool (Go.Lib.hasPrefix a.data.toList b.data.toList)) ∧ w' = w) : LawOk P tabs g x_hasPrefix :=
  law_ss hf hb hn (V := fun a b => .bool (Go.Lib.hasPrefix a.data.toList b.data.toList)) (fun _ _ _ _ => .bool _) h
/-- strconv.FormatBool -/
def x_formatBool : List AV → Option AV
  | [.bool b] => some (.str (B (Go.Lib.formatBool b)))
  | _ => none
theorem law_formatBool {g : FuncId} {fn : Func} (hf : P.funcs[g]? = some fn) (hb : fn.body.isSome = true) (hn : fn.name ≠ "runtime.NumGoroutine") {tabs : World → Prop}
    (h : ∀ b w, Calls P g #[.bool b] w fun e w' => e = .returned (.string ⟨(Go.Lib.formatBool b).toArray⟩) ∧ w' = w) : LawOk P tabs g x_formatBool := by
  refine calls_law hf hb hn fun im ob vs args r w ht _ hvs hr => ?_
  unfold x_formatBool at hr
  split at hr
  · rename_i b
    simp only [Option.some.injEq] at hr
    subst hr
    obtain ⟨v0, rfl, g0⟩ := list1 hvs
    cases g0
    refine (h b w).mono fun e w' he => ?_
    obtain ⟨rfl, rfl⟩ := he
    exact ⟨_, rfl, gives_pl (.refl _ _) (.str _)⟩
  · cases hr
/-- A table of the start lies in every later world. -/
theorem tab_below {w w' : World} (hb : Below w.heap.size w w') {name : String} {k : IntKind} {zs : List Int} (h : Go.Lib.TabIs P w name k zs) : Go.Lib.TabIs P w' name k zs := by
  unfold Go.Lib.TabIs World.var? at h ⊢
  cases hg : P.globalNamed name with
  | none => rw [hg] at h; cases h
  | some g =>
    rw [hg] at h
    simp only [Option.bind_some] at h ⊢
    have hlt : g < w.heap.size := by
      apply Decidable.byContradiction
      intro hn
      rw [Array.getElem?_eq_none (by omega)] at h
      cases h
    rw [hb.block g hlt]
    exact h
end Go.AE
