/- The program: what the evaluator needs of it. Printed by gen.py. -/
import Derived.Test.YtimnggioioeehaaGreatDoorGxIntr
import Derived.Test.YtimnggioioeehaaGreatDoorGxLoan
import Derived.Test.YtimnggioioeehaaGreatDoorGxStr
import Derived.Test.YtimnggioioeehaaGreatDoorGrShelf
import Derived.Test.YtimnggioioeehaaGreatDoorChecked
import Derived.Test.YtimnggioioeehaaGreatDoorGrBuild
namespace Go.Proofs.YtimnggioioeehaaGreatDoor
open Go.AE
theorem hP : progOk Tryz.prog = true := by kernel_rfl
theorem hm : Tryz.prog.follows .mixedOrders = true := by kernel_rfl
noncomputable def pol : Pol :=
  { intr := fun g => if g = 41 then some x_join else if g = 42 then some x_itoa else if g = 49 then some x_cut else if g = 53 then some x_atoi else if g = 83 then some idx else none
    frz := tab [(10, 13, 0), (11, 7, 0), (11, 10, 0), (29, 4, 0)]
    mu := tab [(4, 5, 22), (10, 11, 3), (30, 1, 1), (32, 1, 1)]
    glob := tab []
    sl := slTab [((4, 5, 22), 5005), ((10, 11, 3), 5007), ((30, 1, 1), 4004)]
    fld := fldTab [((6, 4, 0), [(0, none), (1, some 1050005)]), ((8, 1, 0), [(0, none), (1, some 1030005)]), ((11, 3, 0), [(0, some 1050039)])]
    intrH := fun g => if g = 40 then some (x_check Tryz.prog 50) else if g = 23 then some (x_string 5) else if g = 33 then some (x_splitH) else none }
def tabs (w : World) : Prop := Go.Lib.TabIs Tryz.prog w "internal/strconv.uint64pow10" .u64 Go.Lib.pow10Tab ∧ IntVar 0 w
theorem tabs_below {w w' : World} (hb : Go.RowKit.Below w.heap.size w w') (h : tabs w) : tabs w' := ⟨tab_below hb h.1, intVar_below hb h.2⟩
theorem law41 : LawOk Tryz.prog tabs 41 x_join := law_join Tryz.lays156 Tryz.Builder_Extra_156 Tryz.func41 (by kernel_rfl) (by decide) rfl
theorem law42 : LawOk Tryz.prog tabs 42 x_itoa := law_itoa Tryz.func42 (by kernel_rfl) (by decide) (fun n w h0 h1 ht => Tryz.strconv_Itoa n h0 h1 w ht.1)
theorem law49 : LawOk Tryz.prog tabs 49 x_cut := law_cut Tryz.func49 (by kernel_rfl) (by decide) Tryz.strings_Cut (fun w ht => ht.2)
theorem law53 : LawOk Tryz.prog tabs 53 x_atoi := law_atoi Tryz.func53 (by kernel_rfl) (by decide) Tryz.strconv_Atoi
theorem law83 : LawOk Tryz.prog tabs 83 idx := law_idx Tryz.func83 (by kernel_rfl) (by kernel_rfl) (by kernel_rfl) (by rfl)
theorem lawH40 : LawHOk Tryz.prog tabs 40 (x_check Tryz.prog 50) := law_check Tryz.func40 (by kernel_rfl) (by decide) check_used check_fresh
theorem lawH23 : LawHOk Tryz.prog tabs 23 (x_string 5) := law_string (ρ := Tryz.lays169_ren) Tryz.lays169 ⟨by kernel_rfl, fun _ => by kernel_rfl, fun _ => by kernel_rfl, fun _ => by kernel_rfl, by kernel_rfl⟩ Tryz.func23 (by kernel_rfl) (by decide) rfl rfl
theorem lawH33 : LawHOk Tryz.prog tabs 33 (x_splitH) := law_splitH Tryz.func33 (by kernel_rfl) (by decide) split_len Tryz.strings_Split (fun w ht => ht.2)
theorem hlaw : LawsOk Tryz.prog tabs pol := by
  refine ⟨fun g fn hg => ?_, fun g fn hg => ?_⟩
  · simp only [pol] at hg
    split at hg
    · rename_i h; subst h; simp only [Option.some.injEq] at hg; subst hg; exact law41
    split at hg
    · rename_i h; subst h; simp only [Option.some.injEq] at hg; subst hg; exact law42
    split at hg
    · rename_i h; subst h; simp only [Option.some.injEq] at hg; subst hg; exact law49
    split at hg
    · rename_i h; subst h; simp only [Option.some.injEq] at hg; subst hg; exact law53
    split at hg
    · rename_i h; subst h; simp only [Option.some.injEq] at hg; subst hg; exact law83
    cases hg
  · simp only [pol] at hg
    split at hg
    · rename_i h; subst h; simp only [Option.some.injEq] at hg; subst hg; exact lawH40
    split at hg
    · rename_i h; subst h; simp only [Option.some.injEq] at hg; subst hg; exact lawH23
    split at hg
    · rename_i h; subst h; simp only [Option.some.injEq] at hg; subst hg; exact lawH33
    cases hg
theorem lim_gated (out : List AE.Frame) : ∃ r h', A Tryz.prog pol false 13 [] out [] = some (r, h') ∧ (r = .bool true ∧ h'.out = out) := lim_of (k := 60) (fun out => by kernel_rfl) out
end Go.Proofs.YtimnggioioeehaaGreatDoor
