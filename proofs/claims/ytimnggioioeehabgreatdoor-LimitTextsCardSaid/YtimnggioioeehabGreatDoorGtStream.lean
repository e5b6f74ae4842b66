/- What the stream hands out. -/
import Derived.Test.YtimnggioioeehabGreatDoorGtDefs
import Derived.Test.YtimnggioioeehabGreatDoorGxPlain
namespace Go.GW
open Go.AE

theorem below_ok (x n : Int) (hn : 1 ≤ n) (hn2 : n ≤ 4611686018427387904) (hx : -9223372036854775808 ≤ x) (hx2 : x ≤ 9223372036854775807) : ∃ r, gatemake_Below x n = some r ∧ 0 ≤ r ∧ r < n := by
  unfold gatemake_Below
  rw [if_neg (by omega)]
  have e : ckrem .i64 x n = some (x.tmod n) := by unfold ckrem; rw [if_neg (by omega)]
  rw [e]
  simp only [Option.bind_some]
  have h1 := Int.tmod_lt_of_pos x (show (0 : Int) < n by omega)
  have h2 : -n < x.tmod n := by
    rcases Int.lt_or_le x 0 with hneg | hpos
    · have h3 := Int.tmod_lt_of_pos (-x) (show (0 : Int) < n by omega)
      rw [Int.neg_tmod] at h3
      omega
    · have := Int.tmod_nonneg n hpos
      omega
  split
  · exact ⟨_, rfl, by rw [w64_id (by omega) (by omega)]; omega, by rw [w64_id (by omega) (by omega)]; omega⟩
  · exact ⟨_, rfl, by omega, by omega⟩

/-- A stream of proper numbers of which at most k have been drawn. -/
structure Good (s : gatemake_Stream) (k : Int) : Prop where
  lo : 0 ≤ s.at_
  hi : s.at_ ≤ k
  len : s.L.list.length ≤ 9223372036854775807
  wf : ∀ n ∈ s.L.list, -9223372036854775808 ≤ n ∧ n ≤ 9223372036854775807

theorem Good.up {s : gatemake_Stream} {k k' : Int} (h : Good s k) (hk : k ≤ k') : Good s k' := ⟨h.lo, by have := h.hi; omega, h.len, h.wf⟩

theorem next_ok {s : gatemake_Stream} {k : Int} (n : Int) (g : Good s k) (hn : 1 ≤ n) (hn2 : n ≤ 4611686018427387904) (hk : k ≤ 1000000000) : ∃ r s', gatemake_Stream_Next s n = some (r, s') ∧ 0 ≤ r ∧ r < n ∧ Good s' (k + 1) := by
  obtain ⟨h0, h1, h2, h3⟩ := g
  have e1 : w64 (s.at_ + 1) = s.at_ + 1 := w64_id (by omega) (by omega)
  have e2 : w64 (s.at_ + 1 - 1) = s.at_ := by rw [Int.add_sub_cancel]; exact w64_id (by omega) (by omega)
  unfold gatemake_Stream_Next
  rw [e1, e2]
  by_cases hL : (s.L.list.length : Int) = 0
  · rw [if_pos hL]
    obtain ⟨r, hr, hr0, hr1⟩ := below_ok (w64 ((s.at_ + 1) * 7919)) n hn hn2 (by rw [w64_id (by omega) (by omega)]; omega) (by rw [w64_id (by omega) (by omega)]; omega)
    rw [hr]
    exact ⟨r, _, rfl, hr0, hr1, by simp only; omega, by simp only; omega, h2, h3⟩
  · rw [if_neg hL, ckrem_pos h0 (by omega), ckquo_pos h0 (by omega) (by omega)]
    simp only [Option.bind_some]
    have hi0 := Int.emod_nonneg s.at_ hL
    have hi1 := Int.emod_lt_of_pos s.at_ (show (0 : Int) < s.L.list.length by omega)
    have hq0 : 0 ≤ s.at_ / s.L.list.length := Int.ediv_nonneg h0 (by omega)
    have hq1 : s.at_ / s.L.list.length ≤ s.at_ := Int.ediv_le_self _ h0
    obtain ⟨i, hi⟩ : ∃ i : Nat, s.at_ % s.L.list.length = i := ⟨(s.at_ % s.L.list.length).toNat, by omega⟩
    have hil : i < s.L.list.length := by omega
    rw [hi, get_ok hil]
    simp only [Option.bind_some]
    have hw := h3 _ (List.getElem_mem hil)
    obtain ⟨y, hy, hy0, hy1⟩ := below_ok s.L.list[i] 1073741824 (by omega) (by omega) hw.1 hw.2
    rw [hy]
    simp only [Option.bind_some]
    have hi9 : (i : Int) ≤ 1000000000 := by
      rw [← hi]
      have h5 := Int.emod_add_mul_ediv s.at_ s.L.list.length
      have h6 : 0 ≤ (s.L.list.length : Int) * (s.at_ / s.L.list.length) := Int.mul_nonneg (by omega) hq0
      omega
    generalize s.at_ / s.L.list.length = q at hq0 hq1
    have e3 : w64 (7919 + (i : Int)) = 7919 + i := w64_id (by omega) (by omega)
    have hm0 : 0 ≤ q * (7919 + (i : Int)) := Int.mul_nonneg hq0 (by omega)
    have hm1 : q * (7919 + (i : Int)) ≤ 1000000000 * 2000000000 := Int.mul_le_mul (by omega) (by omega) (by omega) (by omega)
    rw [e3, w64_id (n := q * (7919 + (i : Int))) (by omega) (by omega), w64_id (n := y + q * (7919 + (i : Int))) (by omega) (by omega)]
    obtain ⟨r, hr, hr0, hr1⟩ := below_ok (y + q * (7919 + (i : Int))) n hn hn2 (by omega) (by omega)
    rw [hr]
    exact ⟨r, _, rfl, hr0, hr1, by simp only; omega, by simp only; omega, h2, h3⟩
theorem range_ok {s : gatemake_Stream} {k : Int} (lo hi : Int) (g : Good s k) (h0 : lo ≤ hi) (h1 : -1152921504606846976 ≤ lo) (h2 : hi ≤ 1152921504606846976) (hk : k ≤ 1000000000) : ∃ r s', gatemake_Stream_Range s lo hi = some (r, s') ∧ lo ≤ r ∧ r ≤ hi ∧ Good s' (k + 1) := by
  unfold gatemake_Stream_Range
  rw [if_neg (by omega), w64_id (n := hi - lo) (by omega) (by omega), w64_id (n := hi - lo + 1) (by omega) (by omega)]
  obtain ⟨r, s', h3, h4, h5, h6⟩ := next_ok (hi - lo + 1) g (by omega) (by omega) hk
  rw [h3]
  simp only [Option.bind_some]
  rw [w64_id (n := lo + r) (by omega) (by omega)]
  exact ⟨_, _, rfl, by omega, by omega, h6⟩
theorem flip_ok {s : gatemake_Stream} {k : Int} (n : Int) (g : Good s k) (hn : 1 ≤ n) (hn2 : n ≤ 4611686018427387904) (hk : k ≤ 1000000000) : ∃ r s', gatemake_Stream_Flip s n = some (r, s') ∧ Good s' (k + 1) := by
  unfold gatemake_Stream_Flip
  obtain ⟨r, s', h3, h4, h5, h6⟩ := next_ok n g hn hn2 hk
  rw [h3]
  exact ⟨_, _, rfl, h6⟩
theorem pick_ok {s : gatemake_Stream} {k : Int} (l : List Int) (g : Good s k) (hl : 0 < l.length) (hl2 : l.length ≤ 1000) (hk : k ≤ 1000000000) : ∃ r s', gatemake_Stream_Pick s (.full l) = some (r, s') ∧ r ∈ l ∧ Good s' (k + 1) := by
  unfold gatemake_Stream_Pick
  simp only [Sl.list]
  obtain ⟨r, s', h3, h4, h5, h6⟩ := next_ok (l.length : Int) g (by omega) (by omega) hk
  rw [h3]
  simp only [Option.bind_some]
  obtain ⟨i, rfl⟩ : ∃ i : Nat, r = i := ⟨r.toNat, by omega⟩
  have hi : i < (Sl.full l).list.length := by simp [Sl.list]; omega
  rw [get_ok hi]
  exact ⟨_, _, rfl, List.getElem_mem _, h6⟩
end Go.GW
