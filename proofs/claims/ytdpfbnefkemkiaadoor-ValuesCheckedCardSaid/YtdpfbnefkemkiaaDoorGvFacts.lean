/- The program: what the evaluator needs of it. Printed by gen.py. -/
import Derived.Test.YtdpfbnefkemkiaaDoorGxIntr
import Derived.Test.YtdpfbnefkemkiaaDoorGxArr
import Derived.Test.YtdpfbnefkemkiaaDoorGvShelf
import Derived.Test.YtdpfbnefkemkiaaDoorChecked
import Derived.Test.YtdpfbnefkemkiaaDoorGvBuild
namespace Go.Proofs.YtdpfbnefkemkiaaDoor
open Go.AE
theorem hP : progOk Tryd.prog = true := by kernel_rfl
theorem hm : Tryd.prog.follows .mixedOrders = true := by kernel_rfl
noncomputable def pol : Pol :=
  { intr := fun g => if g = 19 then some x_repeat else if g = 30 then some x_formatBool else if g = 31 then some x_itoa else if g = 33 then some x_join else if g = 36 then some x_compare else if g = 55 then some x_valid else none
    frz := tab [(6, 14, 0), (6, 15, 0), (6, 28, 0), (11, 15, 0), (11, 22, 0), (52, 22, 0)]
    mu := tab [(4, 15, 2), (4, 15, 9), (4, 17, 2), (4, 17, 5), (6, 4, 2), (6, 12, 4), (6, 24, 3), (6, 27, 5), (11, 13, 4), (11, 20, 10), (15, 15, 7), (15, 22, 9), (20, 3, 2), (21, 3, 2), (26, 1, 2), (26, 5, 4), (52, 20, 4)]
    glob := tab []
    sl := slTab [((4, 15, 2), 6105), ((4, 15, 9), 7105), ((4, 17, 2), 6104), ((4, 17, 5), 7104), ((6, 4, 2), 4005), ((6, 12, 4), 5005), ((6, 24, 3), 5007), ((6, 27, 5), 5007), ((11, 13, 4), 5003), ((11, 20, 10), 5003), ((15, 15, 7), 7104), ((15, 22, 9), 7105), ((20, 3, 2), 5002), ((21, 3, 2), 5002), ((26, 1, 2), 4004), ((26, 5, 4), 5004), ((52, 20, 4), 5006)]
    own := tab [(11, 20, 6), (15, 15, 1), (15, 22, 1)]
    away := tab [(11, 20, 3), (15, 15, 5), (15, 22, 6)]
    fld := fldTab [((25, 1, 1), [(0, none), (1, some 1060005)]), ((32, 1, 0), [(0, none), (1, some 1030005)]), ((67, 1, 0), [(0, none), (1, some 1030005)])]
    intrH := fun g => if g = 65 then some (x_check Tryd.prog 79) else if g = 47 then some (x_string 5) else none }
def tabs (w : World) : Prop := Go.Lib.TabIs Tryd.prog w "internal/strconv.uint64pow10" .u64 Go.Lib.pow10Tab ∧ Go.Lib.Utf8Tabs (Tryd.laysValid_ren.g 3) (Tryd.laysValid_ren.g 4) w
theorem tabs_below {w w' : World} (hb : Go.RowKit.Below w.heap.size w w') (h : tabs w) : tabs w' := ⟨tab_below hb h.1, Go.Proofs.Utf8Tabs_below h.2 hb⟩
theorem law19 : LawOk Tryd.prog tabs 19 x_repeat := law_repeat Tryd.func19 (by kernel_rfl) (by decide) Tryd.strings_Repeat
theorem law30 : LawOk Tryd.prog tabs 30 x_formatBool := law_formatBool Tryd.func30 (by kernel_rfl) (by decide) Tryd.strconv_FormatBool
theorem law31 : LawOk Tryd.prog tabs 31 x_itoa := law_itoa Tryd.func31 (by kernel_rfl) (by decide) (fun n w h0 h1 ht => Tryd.strconv_Itoa n h0 h1 w ht.1)
theorem law33 : LawOk Tryd.prog tabs 33 x_join := law_join Tryd.lays156 Tryd.Builder_Extra_156 Tryd.func33 (by kernel_rfl) (by decide) rfl
theorem law36 : LawOk Tryd.prog tabs 36 x_compare := law_compare Tryd.func36 (by kernel_rfl) (by decide) Tryd.strings_Compare
theorem law55 : LawOk Tryd.prog tabs 55 x_valid := law_valid Tryd.func55 (by kernel_rfl) (by decide) (fun s w h1 ht => Go.Proofs.Any.utf8_ValidString Tryd.laysValid s w h1 ht.2)
theorem lawH65 : LawHOk Tryd.prog 65 (x_check Tryd.prog 79) := law_check Tryd.func65 (by kernel_rfl) (by decide) check_used check_fresh
theorem lawH47 : LawHOk Tryd.prog 47 (x_string 5) := law_string (ρ := Tryd.lays169_ren) Tryd.lays169 ⟨by kernel_rfl, fun _ => by kernel_rfl, fun _ => by kernel_rfl, fun _ => by kernel_rfl, by kernel_rfl⟩ Tryd.func47 (by kernel_rfl) (by decide) rfl rfl
theorem hlaw : LawsOk Tryd.prog tabs pol := by
  refine ⟨fun g fn hg => ?_, fun g fn hg => ?_⟩
  · simp only [pol] at hg
    split at hg
    · rename_i h; subst h; simp only [Option.some.injEq] at hg; subst hg; exact law19
    split at hg
    · rename_i h; subst h; simp only [Option.some.injEq] at hg; subst hg; exact law30
    split at hg
    · rename_i h; subst h; simp only [Option.some.injEq] at hg; subst hg; exact law31
    split at hg
    · rename_i h; subst h; simp only [Option.some.injEq] at hg; subst hg; exact law33
    split at hg
    · rename_i h; subst h; simp only [Option.some.injEq] at hg; subst hg; exact law36
    split at hg
    · rename_i h; subst h; simp only [Option.some.injEq] at hg; subst hg; exact law55
    cases hg
  · simp only [pol] at hg
    split at hg
    · rename_i h; subst h; simp only [Option.some.injEq] at hg; subst hg; exact lawH65
    split at hg
    · rename_i h; subst h; simp only [Option.some.injEq] at hg; subst hg; exact lawH47
    cases hg
end Go.Proofs.YtdpfbnefkemkiaaDoor
