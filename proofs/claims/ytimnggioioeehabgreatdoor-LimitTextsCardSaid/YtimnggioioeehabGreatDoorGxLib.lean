/- Library functions that are answered for by a contract. -/
import Derived.Test.YtimnggioioeehabGreatDoorGxIntr
import Derived.Lib.AppendIntMem
import Derived.Lib.ItoaNum
import Derived.Lib.LaidTab
import Derived.Lib.Small
import Derived.Lib.Strings
import Derived.Lib.Bytealg
import Derived.Lib.ValidU
import Derived.Shelf.Strings.OnBuilder
import Derived.Shelf.Strings.Repeat
namespace Go.AE
open Go.RowKit (Below)
variable {P : Program}

/-- A function that is known by what its calls give. -/
theorem calls_law {g : FuncId} {fn : Func} {fx : List AV → Option AV} (hf : P.funcs[g]? = some fn) (hb : fn.body.isSome = true) (hn : fn.name ≠ "runtime.NumGoroutine") {tabs : World → Prop}
    (h : ∀ im ob vs args r w, tabs w → (∀ b off v, im b off = some v → w.cell? ⟨b, off, none⟩ = some v) → ListR im ob vs args → fx args = some r → Calls P g vs w fun e w' => ∃ v, e = .returned v ∧ Gives im ob w r v w') : LawOk P tabs g fx := by
  intro im ob w vs args r ht him hvs hr
  exact .inl ⟨callFunc_run hf hb hn vs, h im ob vs args r w ht him hvs hr⟩
theorem gives_pl {im : Imm} {ob : Obm} {w w' : World} {r : AV} {v : Value} (hb : Below w.heap.size w w') (h : V0 im ob v r) : Gives im ob w r v w' :=
  ⟨im, ImLe.refl _, fun _ _ _ h => .inl h, hb, h⟩
theorem list1 {im : Imm} {ob : Obm} {vs : Array Value} {a : AV} (h : ListR im ob vs [a]) : ∃ v, vs = #[v] ∧ V0 im ob v a := by
  obtain ⟨h1, h2⟩ := h
  obtain ⟨l⟩ := vs
  match l, h1 with
  | [v], _ => exact ⟨v, rfl, h2 0 v a rfl rfl⟩
theorem list2 {im : Imm} {ob : Obm} {vs : Array Value} {a b : AV} (h : ListR im ob vs [a, b]) : ∃ v w, vs = #[v, w] ∧ V0 im ob v a ∧ V0 im ob w b := by
  obtain ⟨h1, h2⟩ := h
  obtain ⟨l⟩ := vs
  match l, h1 with
  | [v, w], _ => exact ⟨v, w, rfl, h2 0 v a rfl rfl, h2 1 w b rfl rfl⟩
def lib_ss (R : ByteArray → ByteArray → AV) : List AV → Option AV
  | [.str a, .str b] => some (R a b)
  | _ => none
theorem law_ss {g : FuncId} {fn : Func} (hf : P.funcs[g]? = some fn) (hb : fn.body.isSome = true) (hn : fn.name ≠ "runtime.NumGoroutine") {tabs : World → Prop} {R : ByteArray → ByteArray → AV} {V : ByteArray → ByteArray → Value} (hV : ∀ im ob a b, V0 im ob (V a b) (R a b))
    (h : ∀ a b w, Calls P g #[.string a, .string b] w fun e w' => e = .returned (V a b) ∧ w' = w) : LawOk P tabs g (lib_ss R) := by
  refine calls_law hf hb hn fun im ob vs args r w _ _ hvs hr => ?_
  unfold lib_ss at hr
  split at hr
  · rename_i a b
    simp only [Option.some.injEq] at hr
    subst hr
    obtain ⟨v0, v1, rfl, g0, g1⟩ := list2 hvs
    cases g0
    cases g1
    refine (h a b w).mono fun e w' he => ?_
    obtain ⟨rfl, rfl⟩ := he
    exact ⟨_, rfl, gives_pl (.refl _ _) (hV _ _ _ _)⟩
  · cases hr
section
variable {pol : Pol} {call : CallF} {f : FuncId} {ro : Bool} {rid i : Nat} {d : Bool} {o : Oper} {ev : Operand → AV}
theorem op_lib {hp : Heap} (cl : Call) {g : FuncId} {args : List AV} {fx : List AV → Option AV} {y : AV} (hop : o.op = .call cl) (hw : whoOf P ev cl = some (.func g args)) (hi : pol.intr g = some fx) (hx : fx args = some y) : opF P pol call f ro rid i d o ev hp = some (y, hp) := by
  simp [opF, hop, hw, hi, hx]
end
/-- strconv.Itoa -/
def itoa? (n : Int) : Option Str := if -9223372036854775808 ≤ n ∧ n ≤ 9223372036854775807 then some (Go.Lib.itoa n) else none
def x_itoa : List AV → Option AV
  | [.int .i64 n] => (itoa? n).map fun s => .str (B s)
  | _ => none
theorem x_itoa_eq {n : Int} {s : Str} (h : itoa? n = some s) : x_itoa [iA n] = some (sA s) := by simp [x_itoa, h]
theorem law_itoa {g : FuncId} {fn : Func} (hf : P.funcs[g]? = some fn) (hb : fn.body.isSome = true) (hn : fn.name ≠ "runtime.NumGoroutine") {tabs : World → Prop}
    (h : ∀ n w, -9223372036854775808 ≤ n → n ≤ 9223372036854775807 → tabs w → Calls P g #[.int .i64 n] w fun e w' => e = .returned (.string ⟨(Go.Lib.itoa n).toArray⟩) ∧ ∃ k os, w' = Go.Sort.grow (w.drewN k) os) : LawOk P tabs g x_itoa := by
  refine calls_law hf hb hn fun im ob vs args r w ht _ hvs hr => ?_
  unfold x_itoa at hr
  split at hr
  · rename_i n
    unfold itoa? at hr
    split at hr
    · rename_i hr1
      simp only [Option.map_some, Option.some.injEq] at hr
      subst hr
      obtain ⟨v0, rfl, g0⟩ := list1 hvs
      cases g0
      refine (h n w hr1.1 hr1.2 ht).mono fun e w' he => ?_
      obtain ⟨rfl, k, os, rfl⟩ := he
      exact ⟨_, rfl, gives_pl (Go.Lib.below_grow _ w (Nat.le_refl _) k os) (.str _)⟩
    · cases hr
  · cases hr
/-- strings.Compare -/
def x_compare : List AV → Option AV := lib_ss fun a b => .int .i64 (Go.Lib.compareBytes a.data.toList b.data.toList)
theorem law_compare {g : FuncId} {fn : Func} (hf : P.funcs[g]? = some fn) (hb : fn.body.isSome = true) (hn : fn.name ≠ "runtime.NumGoroutine") {tabs : World → Prop}
    (h : ∀ a b w, Calls P g #[.string a, .string b] w fun e w' => e = .returned (.int .i64 (Go.Lib.compareBytes a.data.toList b.data.toList)) ∧ w' = w) : LawOk P tabs g x_compare :=
  law_ss hf hb hn (V := fun a b => .int .i64 (Go.Lib.compareBytes a.data.toList b.data.toList)) (fun _ _ _ _ => .int _ _) h
/-- strings.HasPrefix -/
def x_hasPrefix : List AV → Option AV := lib_ss fun a b => .bool (Go.Lib.hasPrefix a.data.toList b.data.toList)
theorem law_hasPrefix {g : FuncId} {fn : Func} (hf : P.funcs[g]? = some fn) (hb : fn.body.isSome = true) (hn : fn.name ≠ "runtime.NumGoroutine") {tabs : World → Prop}
    (h : ∀ a b w, Calls P g #[.string a, .string b] w fun e w' => e = .returned (.bool (Go.Lib.hasPrefix a.data.toList b.data.toList)) ∧ w' = w) : LawOk P tabs g x_hasPrefix :=
  law_ss hf hb hn (V := fun a b => .bool (Go.Lib.hasPrefix a.data.toList b.data.toList)) (fun _ _ _ _ => .bool _) h
/-- strconv.FormatBool -/
def x_formatBool : List AV → Option AV
  | [.bool b] => some (.str (B (Go.Lib.formatBool b)))
  | _ => none
theorem law_formatBool {g : FuncId} {fn : Func} (hf : P.funcs[g]? = some fn) (hb : fn.body.isSome = true) (hn : fn.name ≠ "runtime.NumGoroutine") {tabs : World → Prop}
    (h : ∀ b w, Calls P g #[.bool b] w fun e w' => e = .returned (.string ⟨(Go.Lib.formatBool b).toArray⟩) ∧ w' = w) : LawOk P tabs g x_formatBool := by
  refine calls_law hf hb hn fun im ob vs args r w ht _ hvs hr => ?_
  unfold x_formatBool at hr
  split at hr
  · rename_i b
    simp only [Option.some.injEq] at hr
    subst hr
    obtain ⟨v0, rfl, g0⟩ := list1 hvs
    cases g0
    refine (h b w).mono fun e w' he => ?_
    obtain ⟨rfl, rfl⟩ := he
    exact ⟨_, rfl, gives_pl (.refl _ _) (.str _)⟩
  · cases hr
/-- A table of the start lies in every later world. -/
theorem tab_below {w w' : World} (hb : Below w.heap.size w w') {name : String} {k : IntKind} {zs : List Int} (h : Go.Lib.TabIs P w name k zs) : Go.Lib.TabIs P w' name k zs := by
  unfold Go.Lib.TabIs World.var? at h ⊢
  cases hg : P.globalNamed name with
  | none => rw [hg] at h; cases h
  | some g =>
    rw [hg] at h
    simp only [Option.bind_some] at h ⊢
    have hlt : g < w.heap.size := by
      apply Decidable.byContradiction
      intro hn
      rw [Array.getElem?_eq_none (by omega)] at h
      cases h
    rw [hb.block g hlt]
    exact h
/-- strings.Join -/
def strOf : List AV → Option ByteArray
  | [.str s] => some s
  | _ => none
def x_join : List AV → Option AV
  | [.sl _ _ xs, .str sep] => (mapO strOf xs).bind fun l => if l.length ≤ 140737488355328 ∧ (Go.Lib.join (l.map (·.data.toList)) sep.data.toList).length ≤ 140737488355328 then some (.str ⟨(Go.Lib.join (l.map (·.data.toList)) sep.data.toList).toArray⟩) else none
  | [.ez, .str _] => some (.str ⟨#[]⟩)
  | _ => none
def join? (l : List Str) (sep : Str) : Option Str := if l.length ≤ 140737488355328 ∧ (Go.Lib.join l sep).length ≤ 140737488355328 then some (Go.Lib.join l sep) else none
theorem x_join_eq {x : Sl Str} {sep r : Str} (h : join? x.list sep = some r) : x_join [x.av 1 c_str, sA sep] = some (sA r) := by
  unfold join? at h
  split at h
  · rename_i hc
    simp only [Option.some.injEq] at h
    subst h
    have hm : ∀ l : List Str, mapO strOf (l.map c_str) = some (l.map B) := by
      intro l
      induction l with
      | nil => rfl
      | cons a l ih => simp [mapO, c_str, strOf, ih]
    have hb : ∀ l : List Str, l.map ((fun x => x.data.toList) ∘ B) = l := fun l => by
      have : ((fun x : ByteArray => x.data.toList) ∘ B) = id := rfl
      rw [this, List.map_id]
    cases x with
    | nil => rfl
    | ez => rfl
    | full l =>
      simp only [Sl.list] at hc
      simp only [Sl.av, x_join, hm, Option.bind_some, List.length_map, List.map_map, hb, sA]
      exact if_pos hc
  · cases h
theorem law_join {ρ : Go.Shelf.Ren} (L : Go.Proofs.Lays.n156 P ρ) (X : Go.Proofs.Builder.Extra P ρ) {g : FuncId} {fn : Func} (hf : P.funcs[g]? = some fn) (hb : fn.body.isSome = true) (hn : fn.name ≠ "runtime.NumGoroutine") (hg : ρ.f 156 = g) {tabs : World → Prop} : LawOk P tabs g x_join := by
  subst hg
  refine calls_law hf hb hn fun im ob vs args r w _ him hvs hr => ?_
  unfold x_join at hr
  split at hr
  · rename_i nl sz xs sep
    simp only [Option.bind_eq_some_iff] at hr
    obtain ⟨l, hl, hr⟩ := hr
    obtain ⟨hc, hr⟩ := ite_none hr
    simp only [Option.some.injEq] at hr
    subst hr
    obtain ⟨v0, v1, rfl, g0, g1⟩ := list2 hvs
    cases g1
    have hll := mapO_length hl
    have empty : ∀ (a : Option Addr) (c : Nat), xs = [] → v0 = .slice a 0 c → Calls P (ρ.f 156) #[v0, .string sep] w fun e w' => ∃ v, e = .returned v ∧ Gives im ob w (.str ⟨(Go.Lib.join (l.map (·.data.toList)) sep.data.toList).toArray⟩) v w' := by
      intro a c hx hv
      subst hx hv
      have : l = [] := List.length_eq_zero_iff.1 (by simpa using hll)
      subst this
      refine (Go.Proofs.Any.strings_Join_none L X a c sep w).mono fun e w' he => ?_
      obtain ⟨rfl, rfl⟩ := he
      exact ⟨_, rfl, gives_pl (.refl _ _) (.str _)⟩
    cases g0 with
    | snil => exact empty none 0 rfl rfl
    | slE a cap => exact empty (some a) cap rfl rfl
    | sl b off len cap _ _ hlen hcap hz h1 h2 =>
      subst hlen
      have hlen2 : xs.length = l.length := hll.symm
      rw [hlen2]
      have hcells : ∀ (j : Nat) x, l[j]? = some x → w.cell? ⟨b, off + j, none⟩ = some (.string x) := by
        intro j x hx
        obtain ⟨e, he, hs⟩ := mapO_get' hl j x hx
        unfold strOf at hs
        split at hs
        · rename_i s
          simp only [Option.some.injEq] at hs
          subst hs
          have hsz : sz = 1 := by simpa using (hz j _ he).symm
          subst hsz
          have hj : j < xs.length := (List.getElem?_eq_some_iff.1 he).1
          obtain ⟨v, hv⟩ := h1 j 0 hj (by omega)
          have hV := h2 j 0 _ v _ he rfl hv
          have hcl := him _ _ _ hv
          simp only [Nat.mul_one, Nat.add_zero] at hcl
          cases hV
          exact hcl
        · cases hs
      cases hl0 : l with
      | nil =>
        rw [← hl0]
        have hx0 : xs = [] := List.length_eq_zero_iff.1 (by rw [hlen2, hl0]; rfl)
        have := empty (some ⟨b, off, none⟩) cap hx0 (by rw [hx0]; rfl)
        rw [← hlen2]
        exact this
      | cons a l' =>
        rw [← hl0]
        have hbk : b < w.heap.size := World.block_lt_of_cell? w ⟨b, off, none⟩ (by have := hcells 0 a (by rw [hl0]; rfl); simpa using this)
        refine (Go.Proofs.Any.strings_Join L X b off cap l sep w hcells hbk hc.1 (by omega) hc.2).mono fun e w' he => ?_
        obtain ⟨rfl, hbl⟩ := he
        exact ⟨_, rfl, gives_pl hbl (.str _)⟩
  · rename_i sep
    simp only [Option.some.injEq] at hr
    subst hr
    obtain ⟨v0, v1, rfl, g0, g1⟩ := list2 hvs
    cases g1
    cases g0 with
    | ez a =>
      refine (Go.Proofs.Any.strings_Join_none L X (some a) 0 sep w).mono fun e w' he => ?_
      obtain ⟨rfl, rfl⟩ := he
      exact ⟨_, rfl, gives_pl (.refl _ _) (.str _)⟩
  · cases hr
/-- strings.Repeat -/
def x_repeat : List AV → Option AV
  | [.str s, .int .i64 n] => if 0 ≤ n ∧ n ≤ 9223372036854775807 ∧ s.size * n.toNat ≤ 140737488355328 then some (.str ⟨(Go.Lib.repeatL s.data.toList n.toNat).toArray⟩) else none
  | _ => none
def repeat? (s : Str) (n : Int) : Option Str := if 0 ≤ n ∧ n ≤ 9223372036854775807 ∧ s.length * n.toNat ≤ 140737488355328 then some (Go.Lib.repeatL s n.toNat) else none
theorem x_repeat_eq {s r : Str} {n : Int} (h : repeat? s n = some r) : x_repeat [sA s, iA n] = some (sA r) := by
  unfold repeat? at h
  obtain ⟨h1, h⟩ := ite_none h
  simp only [Option.some.injEq] at h
  subst h
  simp only [x_repeat, sA]
  exact if_pos h1
theorem law_repeat {g : FuncId} {fn : Func} (hf : P.funcs[g]? = some fn) (hb : fn.body.isSome = true) (hn : fn.name ≠ "runtime.NumGoroutine") {tabs : World → Prop}
    (h : ∀ (s : ByteArray) (c : Nat) (w : World), c ≤ 9223372036854775807 → s.size * c ≤ 140737488355328 → Calls P g #[.string s, .int .i64 c] w fun e w' => e = .returned (.string ⟨(Go.Lib.repeatL s.data.toList c).toArray⟩) ∧ Below w.heap.size w w') : LawOk P tabs g x_repeat := by
  refine calls_law hf hb hn fun im ob vs args r w _ _ hvs hr => ?_
  unfold x_repeat at hr
  split at hr
  · rename_i s n
    obtain ⟨hc, hr⟩ := ite_none hr
    simp only [Option.some.injEq] at hr
    subst hr
    obtain ⟨v0, v1, rfl, g0, g1⟩ := list2 hvs
    cases g0
    cases g1
    obtain ⟨m, rfl⟩ : ∃ m : Nat, n = m := ⟨n.toNat, by omega⟩
    refine (h s m w (by omega) (by simpa using hc.2.2)).mono fun e w' he => ?_
    obtain ⟨rfl, hbl⟩ := he
    exact ⟨_, rfl, gives_pl hbl (.str _)⟩
  · cases hr
/-- utf8.ValidString -/
def x_valid : List AV → Option AV
  | [.str s] => if s.size ≤ 9223372036854775807 then some (.bool (Go.Lib.validD s.data.toList)) else none
  | _ => none
def valid? (s : Str) : Option Bool := if s.length ≤ 9223372036854775807 then some (Go.Lib.validD s) else none
theorem x_valid_eq {s : Str} {b : Bool} (h : valid? s = some b) : x_valid [sA s] = some (.bool b) := by
  unfold valid? at h
  obtain ⟨h1, h⟩ := ite_none h
  simp only [Option.some.injEq] at h
  subst h
  simp only [x_valid]
  exact if_pos h1
theorem law_valid {g : FuncId} {fn : Func} (hf : P.funcs[g]? = some fn) (hb : fn.body.isSome = true) (hn : fn.name ≠ "runtime.NumGoroutine") {tabs : World → Prop}
    (h : ∀ (s : ByteArray) (w : World), s.size ≤ 9223372036854775807 → tabs w → Calls P g #[.string s] w fun e w' => e = .returned (.bool (Go.Lib.validD s.data.toList)) ∧ Below w.heap.size w w') : LawOk P tabs g x_valid := by
  refine calls_law hf hb hn fun im ob vs args r w ht _ hvs hr => ?_
  unfold x_valid at hr
  split at hr
  · rename_i s
    obtain ⟨hc, hr⟩ := ite_none hr
    simp only [Option.some.injEq] at hr
    subst hr
    obtain ⟨v0, rfl, g0⟩ := list1 hvs
    cases g0
    refine (h s w hc ht).mono fun e w' he => ?_
    obtain ⟨rfl, hbl⟩ := he
    exact ⟨_, rfl, gives_pl hbl (.bool _)⟩
  · cases hr
end Go.AE
