/- kit.Lines: the pieces between the ends of lines. -/
import Derived.Test.YtimnggioioeehaaGreatDoorGrDefs
import Derived.Test.YtimnggioioeehaaGreatDoorGrPieceRead
namespace Go.GW
open Go.AE

theorem lines_of {s : Str} (h : s.length ≤ 100000) : ∃ l b, kit_Lines s = some (Sl.full l, b) ∧ (b = true ∧ splitOn 10 s = l ++ [[]] ∨ b = false ∧ splitOn 10 s = l ∧ l ≠ [] ∧ l.getLast? ≠ some []) := by
  have hne := splitOn_ne 10 s
  have hlen := splitOn_len 10 s
  unfold kit_Lines
  rw [split_on 10 (by omega), Option.bind_some, fsl_eq]
  generalize splitOn 10 s = ws at hne hlen
  obtain ⟨pre, last, rfl⟩ : ∃ pre last, ws = pre ++ [last] := by
    rcases List.eq_nil_or_concat ws with h | ⟨m, b, h⟩
    · exact absurd h hne
    · exact ⟨m, b, by simpa using h⟩
  have hw : w64 (((Sl.full (pre ++ [last]) : Sl Str).list.length : Int) - 1) = (pre.length : Int) := by
    simp only [Sl.list, List.length_append, List.length_cons, List.length_nil] at hlen ⊢
    rw [w64_id (by omega) (by omega)]; omega
  rw [hw, get_ok (by simp [Sl.list]), Option.bind_some]
  have hl : (Sl.full (pre ++ [last]) : Sl Str).list[pre.length]'(by simp [Sl.list]) = last := by simp [Sl.list]
  rw [hl]
  by_cases he : last = []
  · rw [if_pos he]
    have hsub : (Sl.full (pre ++ [last]) : Sl Str).sub? 0 (pre.length : Int) = some (Sl.full pre) := by
      unfold Sl.sub?
      simp only
      rw [if_pos ⟨by omega, by omega, by simp only [List.length_append, List.length_cons, List.length_nil]; omega⟩]
      simp
    rw [hsub, Option.bind_some]
    exact ⟨pre, true, rfl, .inl ⟨rfl, by rw [he]⟩⟩
  · rw [if_neg he]
    exact ⟨pre ++ [last], false, rfl, .inr ⟨rfl, rfl, hne, by simpa using he⟩⟩
end Go.GW
