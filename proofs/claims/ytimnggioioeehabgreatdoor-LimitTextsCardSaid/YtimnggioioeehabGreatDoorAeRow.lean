/- From the evaluator's answer at every list to a law's call. -/
import Derived.Test.YtimnggioioeehabGreatDoorAeCode2
namespace Go.AE
open Go.RowKit (Below)

variable {P : Program} {pol : Pol} {f : FuncId}

def noHeap : Heap := { cur := fun _ => ⟨0, .gone⟩, out := [], glob := [] }
theorem noHeap_gone (c : Loc) : (noHeap.obj c).con = .gone := by
  match c with
  | .fr 0 t => rfl
  | .fr (l + 1) t => simp [noHeap, Heap.obj]
  | .gl i => simp [noHeap, Heap.obj]

def startCtx (W : World) (im : Imm) (tabs : World → Prop) (ht : ∀ w, Below W.heap.size W w → tabs w) : Ctx := { B := W.heap.size, w0 := W, ro := false, wc := W, im0 := im, ob0 := fun _ _ => none, nout := 0, h0 := noHeap, tabs, tabsOk := ht }
theorem start_inv (W : World) (im : Imm) (tabs : World → Prop) (ht : ∀ w, Below W.heap.size W w → tabs w) (him : ∀ b off v, im b off = some v → W.cell? ⟨b, off, none⟩ = some v) : Inv (startCtx W im tabs ht) im (fun _ _ => none) noHeap W := by
  refine ⟨fun c => ?_, fun c c' b h1 _ => ?_, fun _ _ _ => rfl, fun _ _ _ => rfl, him, .refl _ _, Nat.le_refl _, Nat.le_refl _, rfl, nofun, nofun, nofun, nofun, nofun, fun _ h => False.elim h, fun _ _ _ h => False.elim h, fun _ _ h => False.elim h⟩
  · unfold ObjR; rw [noHeap_gone]; trivial
  · have := h1.1; rw [noHeap_gone] at this; exact this.elim

/-- A list of numbers, as the evaluator has it. -/
def ints (nl : Bool) (l : List Int) : AV := .sl nl 1 (l.map fun n => [.int .i64 n])

theorem row_V {W : World} {a : Option Addr} {len cap : Nat} {zs : List Int}
    (hrow : (a = none ∧ len = 0 ∧ cap = 0 ∧ zs = []) ∨ ∃ x, a = some x ∧ len ≤ cap ∧ zs.length = cap ∧ ∀ i, i < zs.length → W.cell? (x.add i) = some (.int .i64 (zs.getD i 0))) :
    ∃ im : Imm, (∀ b off v, im b off = some v → W.cell? ⟨b, off, none⟩ = some v) ∧ V0 im (fun _ _ => none) (.slice a len cap) (ints a.isNone (zs.take len)) := by
  rcases hrow with ⟨rfl, rfl, rfl, rfl⟩ | ⟨x, rfl, hlc, hz, hc⟩
  · exact ⟨fun _ _ => none, nofun, .snil 1⟩
  · by_cases h0 : len = 0
    · subst h0
      exact ⟨fun _ _ => none, nofun, by simpa [ints] using V0.slE x cap 1⟩
    · have hspot : x.spot = none := by
        have h1 := hc 0 (by omega)
        unfold Addr.add at h1
        rw [if_pos rfl] at h1
        unfold World.cell? at h1
        cases hs : x.spot with
        | none => rfl
        | some s => rw [hs] at h1; split at h1 <;> simp at h1
      obtain ⟨b, o, s⟩ := x
      simp only at hspot
      subst hspot
      have hcell : ∀ i, i < zs.length → W.cell? ⟨b, o + i, none⟩ = some (.int .i64 (zs.getD i 0)) := fun i hi => by
        have := hc i hi
        rwa [add_eq] at this
      refine ⟨fun b' o' => W.cell? ⟨b', o', none⟩, fun _ _ _ h => h, ?_⟩
      refine .sl b o len cap _ 1 (by simp; omega) hlc (fun i e he => ?_) (fun i j hi hj => ?_) (fun i j e v y he hy hv => ?_)
      · rw [List.getElem?_map, Option.map_eq_some_iff] at he
        obtain ⟨q, _, rfl⟩ := he
        rfl
      · have hj0 : j = 0 := by omega
        subst hj0
        simp at hi
        exact ⟨_, by rw [Nat.mul_one, Nat.add_zero]; exact hcell i (by omega)⟩
      · rw [List.getElem?_map, Option.map_eq_some_iff] at he
        obtain ⟨q, hq, rfl⟩ := he
        have hj0 : j = 0 := by have := (List.getElem?_eq_some_iff.1 hy).1; simp at this; omega
        subst hj0
        simp only [List.getElem?_cons_zero, Option.some.injEq] at hy
        subst hy
        have hi := (List.getElem?_eq_some_iff.1 hq).1
        simp at hi
        rw [Nat.mul_one, Nat.add_zero, hcell i (by omega)] at hv
        simp only [Option.some.injEq] at hv
        subst hv
        rw [List.getElem?_take, if_pos (by omega)] at hq
        have : zs.getD i 0 = q := by simp [List.getD, hq]
        rw [this]
        exact .int _ _

/-- What the evaluator answers at every list is what the function's call gives. -/
theorem law_run (hP : progOk P = true) (hm : P.follows .mixedOrders = true) {tabs : World → Prop} (hlaw : LawsOk P tabs pol) {W : World} (ht : ∀ w, Below W.heap.size W w → tabs w) {a : Option Addr} {len cap : Nat} {zs : List Int}
    (hrow : (a = none ∧ len = 0 ∧ cap = 0 ∧ zs = []) ∨ ∃ x, a = some x ∧ len ≤ cap ∧ zs.length = cap ∧ ∀ i, i < zs.length → W.cell? (x.add i) = some (.int .i64 (zs.getD i 0)))
    (hx : ∃ k h, aCall P pol k false f [ints a.isNone (zs.take len)] [] [] = some (.bool true, h)) :
    Calls P f #[.slice a len cap] W fun e w' => e = .returned (.bool true) ∧ Below W.heap.size W w' := by
  obtain ⟨im, him, hV⟩ := row_V hrow
  obtain ⟨k, h, hk⟩ := hx
  have hc := (aCall_ok hP hm hlaw k false f _ [] [] _ _ hk).2 (startCtx W im tabs ht) im (fun _ _ => none) W #[.slice a len cap] rfl rfl (start_inv W im tabs ht him) ⟨rfl, fun j v x hv hx => by
    match j with
    | 0 => simp at hv hx; subst hv hx; exact hV
    | j + 1 => simp at hx⟩
  refine hc.mono (fun e w' he => ?_)
  obtain ⟨v, im', ob', rfl, hb, H, _, _⟩ := he
  cases hb
  exact ⟨rfl, H.bel⟩

/-- A function that is known by its entry in the table of the functions without a body. -/
theorem entry_law {g : FuncId} {fn : Func} {fx : List AV → Option AV} (hf : P.funcs[g]? = some fn) (hn : (fn.name == "runtime.NumGoroutine") = false) (hb : fn.body = none) (hx : Extern.findNext fn = none) {e : Array Value → Sem Value} (he : Extern.find fn = some e)
    (hrun : ∀ im ob vs args r (w : World), ListR im ob vs args → fx args = some r → ∃ v, (e vs).run P w = .ok v w ∧ V0 im ob v r) {tabs : World → Prop} : LawOk P tabs g fx := by
  intro im ob w vs args r _ him hvs hr
  obtain ⟨v, hv, hV⟩ := hrun im ob vs args r w hvs hr
  refine .inr ⟨v, w, ?_, im, ImLe.refl _, fun _ _ _ h => .inl h, .refl _ _, hV⟩
  have hn' : ¬ fn.name = "runtime.NumGoroutine" := by simpa using hn
  simp [callFunc, hf, hn', hb, hx, he, hv]
end Go.AE
