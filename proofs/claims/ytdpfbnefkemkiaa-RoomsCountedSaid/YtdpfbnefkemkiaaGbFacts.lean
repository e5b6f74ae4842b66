/- The program: what the evaluator needs of it. Printed by gen.py. -/
import Derived.Test.YtdpfbnefkemkiaaGxIntr
import Derived.Test.YtdpfbnefkemkiaaChecked
namespace Go.Proofs.Ytdpfbnefkemkiaa
open Go.AE
theorem hP : progOk Try.prog = true := by kernel_rfl
theorem hm : Try.prog.follows .mixedOrders = true := by kernel_rfl
def pol : Pol :=
  { intr := fun g => if g = 73 then some idx else none
    frz := tab [(3, 20, 1), (3, 20, 2), (3, 21, 1), (3, 21, 2), (3, 24, 5), (3, 24, 6)]
    mu := tab [(3, 11, 0), (3, 11, 1), (15, 4, 2), (15, 14, 3), (19, 12, 2), (39, 1, 0), (41, 8, 0), (43, 1, 0), (68, 4, 0)]
    glob := tab [(22, 1, 1), (22, 1, 3), (45, 1, 1), (45, 1, 3), (59, 1, 2), (59, 1, 4), (71, 3, 2), (71, 5, 2), (71, 7, 6), (71, 8, 2)] }
theorem law73 : LawOk Try.prog 73 idx := law_idx Try.func73 (by kernel_rfl) (by kernel_rfl) (by kernel_rfl) (by rfl)
theorem hlaw : LawsOk Try.prog pol := by
  intro g fn hg
  simp only [pol] at hg
  split at hg
  · rename_i h; subst h; simp only [Option.some.injEq] at hg; subst hg; exact law73
  cases hg
theorem lim_limited (out : List AE.Frame) : ∃ r h', A Try.prog pol false 17 [] out [] = some (r, h') ∧ (r = .bool true ∧ h'.out = out) := lim_of (k := 60) (fun out => by kernel_rfl) out
end Go.Proofs.Ytdpfbnefkemkiaa
