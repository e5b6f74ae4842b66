/- Library functions that are answered for by themselves; a law's call from the evaluator's answer. -/
import Derived.Test.YtimnggioioeehabGreatDoorGxLoops
import Derived.KernelRfl
import Derived.Lib.Bytealg
namespace Go.AE
open Go.RowKit (Below)
variable {P : Program} {pol : Pol} {f : FuncId}
def tab (l : List (Nat × Nat × Nat)) : FuncId → Nat → Nat → Bool := fun f r i => l.contains (f, r, i)
def slTab (l : List ((Nat × Nat × Nat) × Nat)) : FuncId → Nat → Nat → Option Nat := fun f r i => (l.find? fun x => x.1 == (f, r, i)).map (·.2)
/-- Where the byte stands. -/
def idx : List AV → Option AV
  | [.str s, .int .u8 c] => some (.int .i64 (Go.Lib.indexByte s.data.toList c.toNat.toUInt8))
  | _ => none
theorem law_idx {g : FuncId} {fn : Func} (hf : P.funcs[g]? = some fn) (hn : (fn.name == "runtime.NumGoroutine") = false) (hb : fn.body = none) (hx : Extern.findNext fn = none) (he : Extern.find fn = some Extern.BytealgIndexByte.indexByte) {tabs : World → Prop} : LawOk P tabs g idx := by
  refine entry_law hf hn hb hx he ?_
  intro im ob vs args r w hvs hr
  unfold idx at hr
  split at hr
  · rename_i s c
    simp only [Option.some.injEq] at hr
    subst hr
    obtain ⟨h1, h2⟩ := hvs
    have hs : vs.size = 2 := h1
    obtain ⟨l⟩ := vs
    match l, hs with
    | [v0, v1], _ =>
      have g0 := h2 0 v0 _ rfl rfl
      have g1 := h2 1 v1 _ rfl rfl
      cases g0
      cases g1
      exact ⟨_, Go.Lib.run_indexByteString s c w, .int _ _⟩
  · cases hr

theorem row_VS {W : World} {a : Option Addr} {len cap : Nat} {zs : List Int}
    (hrow : (a = none ∧ len = 0 ∧ cap = 0 ∧ zs = []) ∨ ∃ x, a = some x ∧ len ≤ cap ∧ zs.length = cap ∧ ∀ i, i < zs.length → W.cell? (x.add i) = some (.int .i64 (zs.getD i 0))) :
    ∃ (s : Sl Int) (im : Imm), s.list = zs.take len ∧ (∀ b off v, im b off = some v → W.cell? ⟨b, off, none⟩ = some v) ∧ V0 im (fun _ _ => none) (.slice a len cap) (s.av 1 c_i64) := by
  rcases hrow with ⟨rfl, rfl, rfl, rfl⟩ | h
  · exact ⟨.nil, fun _ _ => none, rfl, nofun, .snil 0⟩
  · obtain ⟨im, h1, h2⟩ := row_V (.inr h)
    obtain ⟨x, rfl, _⟩ := h
    exact ⟨.full (zs.take len), im, rfl, h1, h2⟩
/-- What the evaluator answers is what the law's call gives. -/
theorem law_runS (hP : progOk P = true) (hm : P.follows .mixedOrders = true) {tabs : World → Prop} (hlaw : LawsOk P tabs pol) {W : World} (ht : ∀ w, Below W.heap.size W w → tabs w) {a : Option Addr} {len cap : Nat} {zs : List Int}
    (hrow : (a = none ∧ len = 0 ∧ cap = 0 ∧ zs = []) ∨ ∃ x, a = some x ∧ len ≤ cap ∧ zs.length = cap ∧ ∀ i, i < zs.length → W.cell? (x.add i) = some (.int .i64 (zs.getD i 0)))
    (hx : ∀ s : Sl Int, s.list = zs.take len → ∃ h, A P pol false f [s.av 1 c_i64] [] [] = some (.bool true, h)) :
    Calls P f #[.slice a len cap] W fun e w' => e = .returned (.bool true) ∧ Below W.heap.size W w' := by
  obtain ⟨s, im, hs, him, hV⟩ := row_VS hrow
  obtain ⟨h, hA⟩ := hx s hs
  obtain ⟨k, hk⟩ := A_some.1 hA
  have hc := (aCall_ok hP hm hlaw k false f _ [] [] _ _ hk).2 (startCtx W im tabs ht) im (fun _ _ => none) W #[.slice a len cap] rfl rfl (start_inv W im tabs ht him) ⟨rfl, fun j v x hv hx => by
    match j with
    | 0 => simp at hv hx; subst hv hx; exact hV
    | j + 1 => simp at hx⟩
  refine hc.mono (fun e w' he => ?_)
  obtain ⟨v, im', ob', rfl, hb, H, _, _⟩ := he
  cases hb
  exact ⟨rfl, H.bel⟩
/-- A closed function, from what the evaluator computes. -/
theorem lim_of {g : FuncId} {k : Nat} (h : ∀ out, ((aCall P pol k false g [] out []).map fun r => (r.1, r.2.out)) = some (.bool true, out)) (out : List Frame) : ∃ r h', A P pol false g [] out [] = some (r, h') ∧ (r = .bool true ∧ h'.out = out) := by
  have h := h out
  simp only [Option.map_eq_some_iff, Prod.mk.injEq] at h
  obtain ⟨⟨r, h'⟩, h1, h2, h3⟩ := h
  exact ⟨r, h', A_some.2 ⟨k, h1⟩, h2, h3⟩
end Go.AE
