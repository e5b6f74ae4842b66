/- Typed values over the abstract evaluator: how they are written as abstract values, loops without fuel, and rules for walking. -/
import Derived.Test.YtimnggioioeehabGreatDoorAeWalk2
namespace Go.AE

/-- A slice: nil, empty without room, or its content. -/
inductive Sl (α : Type) where
  | nil
  | ez
  | full (l : List α)
  deriving Inhabited
namespace Sl
variable {α : Type}
def list : Sl α → List α
  | nil => []
  | ez => []
  | full l => l
def av (n : Nat) (c : α → List AV) : Sl α → AV
  | nil => .sl true 0 []
  | ez => .ez
  | full l => .sl false n (l.map c)
/-- As a slice over an array at l, if there is one. -/
def lav (l : Loc) (v : Nat) : Sl α → AV
  | nil => .sl true 0 []
  | ez => .ez
  | full xs => .rsl l v 0 xs.length
def app (s : Sl α) : List α → Sl α
  | [] => s
  | x :: r => full (s.list ++ x :: r)
def app? (bytes : Nat) (s : Sl α) (l : List α) : Option (Sl α) := if roomy (s.list.length + l.length) bytes then some (s.app l) else none
def set? (s : Sl α) (i : Int) (x : α) : Option (Sl α) := if 0 ≤ i ∧ i < s.list.length then some (.full (s.list.set i.toNat x)) else none
/-- Append to a slice without room. -/
def app0? (bytes : Nat) (s : Sl α) (l : List α) : Option (Sl α) := match s, l with
  | full _, _ => none
  | s, [] => some s
  | _, x :: r => if roomy (r.length + 1) bytes then some (full (x :: r)) else none
/-- s[0:0:0] -/
def cut0? : Sl α → Option (Sl α)
  | nil => some nil
  | ez => none
  | full _ => some ez
def isNil : Sl α → Bool
  | nil => true
  | ez => false
  | full _ => false
def get? (s : Sl α) (i : Int) : Option α := if 0 ≤ i then s.list[i.toNat]? else none
end Sl
/-- The object of a slice: what it must hold. -/
def LzF {α : Type} (n : Nat) (c : α → List AV) (o : AObj) : Sl α → Prop
  | .full xs => o.con = .arr false n (xs.map c)
  | _ => True
def LfF {α : Type} (n : Nat) (c : α → List AV) (o : AObj) : Sl α → Prop
  | .full xs => o.con = .frz false n (xs.map c)
  | _ => True
/-- A slice in the making. -/
inductive Ar (α : Type) where
  | nil
  | full (l : List α)
  deriving Inhabited
namespace Ar
variable {α : Type}
def list : Ar α → List α
  | nil => []
  | full l => l
def sl : Ar α → Sl α
  | nil => .nil
  | full l => .full l
def app (s : Ar α) : List α → Ar α
  | [] => s
  | x :: r => full (s.list ++ x :: r)
def con (n : Nat) (c : α → List AV) : Ar α → Con
  | nil => .arr true 0 []
  | full l => .arr false n (l.map c)
def fcon (n : Nat) (c : α → List AV) : Ar α → Con
  | nil => .frz true 0 []
  | full l => .frz false n (l.map c)
/-- Append, as far as there is memory for it. -/
def app? (bytes : Nat) (s : Ar α) (l : List α) : Option (Ar α) := if roomy (s.list.length + l.length) bytes then some (s.app l) else none
def get? (s : Ar α) (i : Int) : Option α := if 0 ≤ i then s.list[i.toNat]? else none
def set? (s : Ar α) (i : Int) (x : α) : Option (Ar α) := if 0 ≤ i ∧ i < s.list.length then some (.full (s.list.set i.toNat x)) else none
end Ar

abbrev w64 : Int → Int := IntKind.i64.wrap
/-- Strings as lists of bytes. -/
abbrev Str := List UInt8
def B (l : Str) : ByteArray := ⟨⟨l⟩⟩
def sget (s : Str) (i : Int) : Option Int := if 0 ≤ i then (s[i.toNat]?).map fun b => (b.toNat : Int) else none
def ssub (s : Str) (l h : Int) : Option Str := if 0 ≤ l ∧ l ≤ h ∧ h ≤ s.length then some ((s.drop l.toNat).take (h - l).toNat) else none
def sadd (a b : Str) : Option Str := if ((a.length + b.length : Nat) : Int) > IntKind.i64.max then none else some (a ++ b)
def ckquo (k : IntKind) (a b : Int) : Option Int := if b = 0 then none else some (k.wrap (a.tdiv b))
def ckrem (_k : IntKind) (a b : Int) : Option Int := if b = 0 then none else some (a.tmod b)

inductive Step (V B : Type) where
  | next (v : V)
  | done (b : B)
inductive Res (V R : Type) where
  | out (v : V)
  | ret (r : R)
def Res.elim {V R X : Type} (f : V → X) (g : R → X) : Res V R → X
  | out v => f v
  | ret r => g r

section loops
variable {V B : Type}
def loopN (f : V → Option (Step V B)) : Nat → V → Option B
  | 0, _ => none
  | n + 1, v => (f v).bind fun s => match s with | .next v' => loopN f n v' | .done b => some b
noncomputable def loopV (f : V → Option (Step V B)) (v : V) : Option B := lim fun n => loopN f n v
theorem loopN_up (f : V → Option (Step V B)) (v : V) : Up fun n => loopN f n v := by
  intro n
  induction n generalizing v with
  | zero => intro r h; simp [loopN] at h
  | succ n ih =>
    intro r h
    simp only [loopN, Option.bind_eq_some_iff] at h ⊢
    obtain ⟨s, h1, h2⟩ := h
    refine ⟨s, h1, ?_⟩
    cases s with
    | next v' => exact ih v' r h2
    | done b => exact h2
theorem loopV_some {f : V → Option (Step V B)} {v : V} {b : B} : loopV f v = some b ↔ ∃ n, loopN f n v = some b := lim_some (loopN_up f v)
theorem loopV_eq (f : V → Option (Step V B)) (v : V) : loopV f v = (f v).bind fun s => match s with | .next v' => loopV f v' | .done b => some b := by
  refine lim_eq (loopN_up f v) (fun r => ?_)
  simp only [Option.bind_eq_some_iff]
  constructor
  · rintro ⟨s, h1, h2⟩
    cases s with
    | next v' =>
      obtain ⟨n, hn⟩ := loopV_some.1 h2
      exact ⟨n + 1, by simp [loopN, h1, hn]⟩
    | done b => exact ⟨1, by simp [loopN, h1]; simpa using h2⟩
  · rintro ⟨n, hn⟩
    cases n with
    | zero => simp [loopN] at hn
    | succ n =>
      simp only [loopN, Option.bind_eq_some_iff] at hn
      obtain ⟨s, h1, h2⟩ := hn
      refine ⟨s, h1, ?_⟩
      cases s with
      | next v' => exact loopV_some.2 ⟨n, h2⟩
      | done b => exact h2
/-- A loop over a list: the number of the round, the element, what is kept. -/
def rangeL {α : Type} (f : Int → α → V → Option (Step V B)) (fin : V → B) : Nat → List α → V → Option B
  | _, [], v => some (fin v)
  | i, x :: l, v => (f i x v).bind fun s => match s with | .next v' => rangeL f fin (i + 1) l v' | .done b => some b
def rangeS {α : Type} (f : Int → α → V → Option (Step V B)) (fin : V → B) (s : Sl α) (v : V) : Option B := if s.list.length < 2 ^ 62 then rangeL f fin 0 s.list v else none
def rangeN (f : Int → V → Option (Step V B)) (fin : V → B) (n : Int) (v : V) : Option B := if n < 2 ^ 62 then rangeL (fun i _ v => f i v) fin 0 (List.range n.toNat) v else none
end loops

theorem wrap_id {n : Int} (h0 : -9223372036854775808 ≤ n) (h1 : n ≤ 9223372036854775807) : IntKind.i64.wrap n = n := by
  unfold IntKind.wrap
  simp only [IntKind.bits, IntKind.signed, Bool.true_and]
  rcases Int.lt_or_le n 0 with hn | hn
  · have e : n % (2 : Int) ^ 64 = n + 2 ^ 64 := by
      rw [← Int.add_emod_right]; exact Int.emod_eq_of_lt (by omega) (by omega)
    simp [e]; omega
  · have e : n % (2 : Int) ^ 64 = n := Int.emod_eq_of_lt (by omega) (by omega)
    simp [e]; omega
theorem bind_some {α β : Type} {x : Option α} {f : α → Option β} {r : β} (h : x.bind f = some r) : ∃ a, x = some a ∧ f a = some r := Option.bind_eq_some_iff.1 h
section ite
variable {α : Type} {a b : α} {x : α} {p : Prop} [Decidable p]
theorem ite_t (h : (if p then a else b) = x) (hc : p) : a = x := by rw [if_pos hc] at h; exact h
theorem ite_f (h : (if p then a else b) = x) (hc : ¬p) : b = x := by rw [if_neg hc] at h; exact h
theorem ite_none {y : α} {a : Option α} (h : (if p then a else none) = some y) : p ∧ a = some y := by
  by_cases hp : p
  · rw [if_pos hp] at h; exact ⟨hp, h⟩
  · rw [if_neg hp] at h; cases h
end ite
def Sl.ar? {α : Type} : Sl α → Option (Ar α)
  | .nil => some .nil
  | .ez => none
  | .full l => some (.full l)
theorem Ar.set_len {α : Type} {a a' : Ar α} {i : Int} {x : α} (h : a.set? i x = some a') : a'.list.length = a.list.length := by
  unfold Ar.set? at h
  split at h
  · simp only [Option.some.injEq] at h; subst h; simp [Ar.list]
  · cases h
theorem Ar.ar_sl {α : Type} (a : Ar α) : a.sl.ar? = some a := by cases a <;> rfl
theorem bool_cases (b : Bool) : b = true ∨ b = false := by cases b <;> simp
theorem res_out {V R X : Type} {f : V → X} {g : R → X} {v : V} {x : X} (h : Res.elim f g (.out v) = x) : f v = x := h
theorem res_ret {V R X : Type} {f : V → X} {g : R → X} {v : R} {x : X} (h : Res.elim f g (.ret v) = x) : g v = x := h
theorem not_t {b : Bool} (h : b = false) : ¬ b = true := by rw [h]; simp
theorem dec_t {p : Prop} [Decidable p] (h : decide p = true) : p := of_decide_eq_true h
theorem dec_f {p : Prop} [Decidable p] (h : decide p = false) : ¬ p := of_decide_eq_false h
theorem beq_t {a b : Int} (h : (a == b) = true) : a = b := by simpa using h
theorem beq_f {a b : Int} (h : (a == b) = false) : ¬ a = b := by simpa using h
theorem bne_t {a b : Int} (h : (a != b) = true) : ¬ a = b := by simpa using h
theorem bne_f {a b : Int} (h : (a != b) = false) : ¬ ¬ a = b := by simpa using h
theorem seq_t {a b : Str} (h : (a == b) = true) : a = b := by simpa using h
theorem seq_f {a b : Str} (h : (a == b) = false) : ¬ a = b := by simpa using h
theorem sne_t {a b : Str} (h : (a != b) = true) : ¬ a = b := by simpa using h
theorem sne_f {a b : Str} (h : (a != b) = false) : ¬ ¬ a = b := by simpa using h
def imin (a b : Int) : Int := if b < a then b else a
def imax (a b : Int) : Int := if b > a then b else a
def utf8 (n : Int) : Str := (Utf8.encode n).data.toList
def c_i8 (x : Int) : List AV := [.int .i8 x]
def c_i16 (x : Int) : List AV := [.int .i16 x]
def c_i32 (x : Int) : List AV := [.int .i32 x]
def c_i64 (x : Int) : List AV := [.int .i64 x]
def c_u8 (x : Int) : List AV := [.int .u8 x]
def c_u16 (x : Int) : List AV := [.int .u16 x]
def c_u32 (x : Int) : List AV := [.int .u32 x]
def c_u64 (x : Int) : List AV := [.int .u64 x]
def c_bool (x : Bool) : List AV := [.bool x]
def c_str (x : Str) : List AV := [.str (B x)]
def Sl.sub? {α : Type} (s : Sl α) (l h : Int) : Option (Sl α) := match s with
  | .nil => none
  | .ez => none
  | .full xs => if 0 ≤ l ∧ l ≤ h ∧ h ≤ xs.length then some (.full ((xs.drop l.toNat).take (h - l).toNat)) else none
theorem B_inj {a b : Str} : (B a == B b) = (a == b) := by
  rw [Bool.eq_iff_iff, MapKept.bytes_beq, beq_iff_eq]
  constructor
  · intro h; simpa [B] using h
  · intro h; rw [h]
end Go.AE
