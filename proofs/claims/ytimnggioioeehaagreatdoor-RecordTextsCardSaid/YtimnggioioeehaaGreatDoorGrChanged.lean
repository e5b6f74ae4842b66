/- The texts that the stream changes at a byte. -/
import Derived.Test.YtimnggioioeehaaGreatDoorGrStream
namespace Go.GW
open Go.AE

theorem utf8_ok {n : Nat} (h : n < 128) : (utf8 (IntKind.i32.wrap (n : Int))).length ≤ 4 := by
  have e : IntKind.i32.wrap (n : Int) = (n : Int) := by
    unfold IntKind.wrap
    simp only [IntKind.bits, IntKind.signed, Bool.true_and]
    have e : (n : Int) % (2 : Int) ^ 32 = n := Int.emod_eq_of_lt (by omega) (by omega)
    simp [e]; omega
  rw [e]
  have : ∀ m : Fin 128, (utf8 ((m.val : Nat) : Int)).length ≤ 4 := by decide +kernel
  exact this ⟨n, h⟩
theorem changed_ok {s : gatemake_Stream} {k : Int} {t w : Str} (g : Good s k) (hw : w ≠ []) (hw1 : w.length ≤ 100) (hb : ∀ b ∈ w, b.toNat < 128) (ht : t.length ≤ 100000) (hk : k ≤ 100000) : ∃ r s', gatemake_Stream_Changed s t w = some (r, s') ∧ r.length ≤ t.length + w.length + 4 ∧ Good s' (k + 3) := by
  unfold gatemake_Stream_Changed
  by_cases h0 : t = []
  · rw [if_pos (by simp [h0])]
    exact ⟨w, s, rfl, by omega, g.up (by omega)⟩
  · have hwl : 0 < w.length := List.length_pos_iff.2 hw
    have htl : 0 < t.length := List.length_pos_iff.2 h0
    rw [if_neg (by simp [h0, hw])]
    obtain ⟨i, s1, e1, i0, i1, g1⟩ := next_ok (t.length : Int) g (by omega) (by omega) (by omega)
    rw [e1, Option.bind_some]
    simp only
    obtain ⟨j, s2, e2, j0, j1, g2⟩ := next_ok (w.length : Int) g1 (by omega) (by omega) (by omega)
    rw [e2, Option.bind_some]
    simp only
    obtain ⟨i, rfl⟩ : ∃ n : Nat, i = n := ⟨i.toNat, by omega⟩
    obtain ⟨j, rfl⟩ : ∃ n : Nat, j = n := ⟨j.toNat, by omega⟩
    have hj : j < w.length := by omega
    rw [sget_ok hj, Option.bind_some]
    obtain ⟨m, s3, e3, m0, m1, g3⟩ := next_ok 3 g2 (by omega) (by omega) (by omega)
    rw [e3, Option.bind_some]
    simp only
    have hu := utf8_ok (hb _ (List.getElem_mem hj))
    have hi : i < t.length := by omega
    have hi1 : w64 ((i : Int) + 1) = ((i + 1 : Nat) : Int) := by rw [w64_id (by omega) (by omega)]; omega
    have c0 : ssub t 0 (i : Int) = some (t.take i) := by
      have := ssub_ok (s := t) (l := 0) (h := i) (by omega) (by omega)
      simpa using this
    have c1 : ssub t (w64 ((i : Int) + 1)) (t.length : Int) = some (t.drop (i + 1)) := by
      rw [hi1, ssub_ok (by omega) (by omega), List.take_of_length_le (by simp)]
    have c2 : ssub t (i : Int) (t.length : Int) = some (t.drop i) := by
      rw [ssub_ok (by omega) (by omega), List.take_of_length_le (by simp)]
    have lt : (t.take i).length = i := by rw [List.length_take]; omega
    have ld : (t.drop i).length = t.length - i := List.length_drop
    have ld1 : (t.drop (i + 1)).length = t.length - (i + 1) := List.length_drop
    rw [c0, c1, c2]
    simp only [Option.bind_some]
    split
    · rw [sadd_ok (by omega), Option.bind_some, sadd_ok (by rw [List.length_append]; omega), Option.bind_some]
      exact ⟨_, _, rfl, by simp only [List.length_append]; omega, g3.up (by omega)⟩
    · split
      · rw [sadd_ok (by omega), Option.bind_some, sadd_ok (by rw [List.length_append]; omega), Option.bind_some]
        exact ⟨_, _, rfl, by simp only [List.length_append]; omega, g3.up (by omega)⟩
      · rw [sadd_ok (by omega), Option.bind_some]
        exact ⟨_, _, rfl, by simp only [List.length_append]; omega, g3.up (by omega)⟩
end Go.GW
