/- The program: what the evaluator needs of it. Printed by gen.py. -/
import Derived.Test.YtpadcfhbcdchbaaDoorGxIntr
import Derived.Test.YtpadcfhbcdchbaaDoorGxLib
import Derived.Test.YtpadcfhbcdchbaaDoorGlShelf
import Derived.Test.YtpadcfhbcdchbaaDoorChecked
namespace Go.Proofs.YtpadcfhbcdchbaaDoor
open Go.AE
theorem hP : progOk Tryd.prog = true := by kernel_rfl
theorem hm : Tryd.prog.follows .mixedOrders = true := by kernel_rfl
def pol : Pol :=
  { intr := fun g => if g = 21 then some x_itoa else if g = 60 then some idx else none
    frz := tab []
    mu := tab [(4, 6, 5), (4, 18, 3), (8, 18, 7), (8, 24, 7), (11, 9, 7), (11, 23, 7)]
    glob := tab [(37, 1, 2), (37, 1, 4), (53, 3, 2), (53, 5, 2), (53, 7, 6), (53, 8, 2)]
    sl := slTab [((4, 6, 5), 5003), ((4, 18, 3), 5003), ((8, 18, 7), 5008), ((8, 24, 7), 5008), ((11, 9, 7), 5006), ((11, 23, 7), 5006)] }
def tabs (w : World) : Prop := Go.Lib.TabIs Tryd.prog w "internal/strconv.uint64pow10" .u64 Go.Lib.pow10Tab
theorem tabs_below {w w' : World} (hb : Go.RowKit.Below w.heap.size w w') (h : tabs w) : tabs w' := tab_below hb h
theorem law21 : LawOk Tryd.prog tabs 21 x_itoa := law_itoa Tryd.func21 (by kernel_rfl) (by decide) (fun n w h0 h1 ht => Tryd.strconv_Itoa n h0 h1 w ht)
theorem law60 : LawOk Tryd.prog tabs 60 idx := law_idx Tryd.func60 (by kernel_rfl) (by kernel_rfl) (by kernel_rfl) (by rfl)
theorem hlaw : LawsOk Tryd.prog tabs pol := by
  refine ⟨fun g fn hg => ?_, fun g fn hg => ?_⟩
  · simp only [pol] at hg
    split at hg
    · rename_i h; subst h; simp only [Option.some.injEq] at hg; subst hg; exact law21
    split at hg
    · rename_i h; subst h; simp only [Option.some.injEq] at hg; subst hg; exact law60
    cases hg
  · cases hg
theorem lim_limited (out : List AE.Frame) : ∃ r h', A Tryd.prog pol false 10 [] out [] = some (r, h') ∧ (r = .bool true ∧ h'.out = out) := lim_of (k := 60) (fun out => by kernel_rfl) out
end Go.Proofs.YtpadcfhbcdchbaaDoor
