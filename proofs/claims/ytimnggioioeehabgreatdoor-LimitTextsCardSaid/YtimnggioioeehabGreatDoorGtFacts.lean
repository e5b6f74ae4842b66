/- The program: what the evaluator needs of it. Printed by gen.py. -/
import Derived.Test.YtimnggioioeehabGreatDoorGxIntr
import Derived.Test.YtimnggioioeehabGreatDoorGxLoan
import Derived.Test.YtimnggioioeehabGreatDoorGxStr
import Derived.Test.YtimnggioioeehabGreatDoorGtShelf
import Derived.Test.YtimnggioioeehabGreatDoorChecked
import Derived.Test.YtimnggioioeehabGreatDoorGtBuild
namespace Go.Proofs.YtimnggioioeehabGreatDoor
open Go.AE
theorem hP : progOk Tryz.prog = true := by kernel_rfl
theorem hm : Tryz.prog.follows .mixedOrders = true := by kernel_rfl
noncomputable def pol : Pol :=
  { intr := fun g => if g = 21 then some x_itoa else if g = 25 then some x_join else if g = 33 then some x_split else if g = 49 then some x_cut else if g = 52 then some x_atoi else if g = 99 then some idx else none
    frz := tab [(9, 13, 0), (10, 7, 0), (10, 10, 0)]
    mu := tab [(4, 6, 5), (4, 18, 3), (9, 11, 3)]
    glob := tab [(54, 1, 2), (54, 1, 4), (92, 3, 2), (92, 5, 2), (92, 7, 6), (92, 8, 2)]
    sl := slTab [((4, 6, 5), 5003), ((4, 18, 3), 5003), ((9, 11, 3), 5007)]
    fld := fldTab [((5, 4, 0), [(0, none), (1, some 1050005)]), ((7, 1, 0), [(0, none), (1, some 1030005)]), ((10, 3, 0), [(0, some 1050038)])]
    intrH := fun g => if g = 41 then some (x_check Tryz.prog 50) else if g = 22 then some (x_string 5) else none }
def tabs (w : World) : Prop := Go.Lib.TabIs Tryz.prog w "internal/strconv.uint64pow10" .u64 Go.Lib.pow10Tab ∧ IntVar 1 w
theorem tabs_below {w w' : World} (hb : Go.RowKit.Below w.heap.size w w') (h : tabs w) : tabs w' := ⟨tab_below hb h.1, intVar_below hb h.2⟩
theorem law21 : LawOk Tryz.prog tabs 21 x_itoa := law_itoa Tryz.func21 (by kernel_rfl) (by decide) (fun n w h0 h1 ht => Tryz.strconv_Itoa n h0 h1 w ht.1)
theorem law25 : LawOk Tryz.prog tabs 25 x_join := law_join Tryz.lays156 Tryz.Builder_Extra_156 Tryz.func25 (by kernel_rfl) (by decide) rfl
theorem law33 : LawOk Tryz.prog tabs 33 x_split := law_split Tryz.func33 (by kernel_rfl) (by decide) split_len Tryz.strings_Split (fun w ht => ht.2)
theorem law49 : LawOk Tryz.prog tabs 49 x_cut := law_cut Tryz.func49 (by kernel_rfl) (by decide) Tryz.strings_Cut (fun w ht => ht.2)
theorem law52 : LawOk Tryz.prog tabs 52 x_atoi := law_atoi Tryz.func52 (by kernel_rfl) (by decide) Tryz.strconv_Atoi
theorem law99 : LawOk Tryz.prog tabs 99 idx := law_idx Tryz.func99 (by kernel_rfl) (by kernel_rfl) (by kernel_rfl) (by rfl)
theorem lawH41 : LawHOk Tryz.prog tabs 41 (x_check Tryz.prog 50) := law_check Tryz.func41 (by kernel_rfl) (by decide) check_used check_fresh
theorem lawH22 : LawHOk Tryz.prog tabs 22 (x_string 5) := law_string (ρ := Tryz.lays169_ren) Tryz.lays169 ⟨by kernel_rfl, fun _ => by kernel_rfl, fun _ => by kernel_rfl, fun _ => by kernel_rfl, by kernel_rfl⟩ Tryz.func22 (by kernel_rfl) (by decide) rfl rfl
theorem hlaw : LawsOk Tryz.prog tabs pol := by
  refine ⟨fun g fn hg => ?_, fun g fn hg => ?_⟩
  · simp only [pol] at hg
    split at hg
    · rename_i h; subst h; simp only [Option.some.injEq] at hg; subst hg; exact law21
    split at hg
    · rename_i h; subst h; simp only [Option.some.injEq] at hg; subst hg; exact law25
    split at hg
    · rename_i h; subst h; simp only [Option.some.injEq] at hg; subst hg; exact law33
    split at hg
    · rename_i h; subst h; simp only [Option.some.injEq] at hg; subst hg; exact law49
    split at hg
    · rename_i h; subst h; simp only [Option.some.injEq] at hg; subst hg; exact law52
    split at hg
    · rename_i h; subst h; simp only [Option.some.injEq] at hg; subst hg; exact law99
    cases hg
  · simp only [pol] at hg
    split at hg
    · rename_i h; subst h; simp only [Option.some.injEq] at hg; subst hg; exact lawH41
    split at hg
    · rename_i h; subst h; simp only [Option.some.injEq] at hg; subst hg; exact lawH22
    cases hg
theorem lim_limited (out : List AE.Frame) : ∃ r h', A Tryz.prog pol false 12 [] out [] = some (r, h') ∧ (r = .bool true ∧ h'.out = out) := lim_of (k := 60) (fun out => by kernel_rfl) out
end Go.Proofs.YtimnggioioeehabGreatDoor
