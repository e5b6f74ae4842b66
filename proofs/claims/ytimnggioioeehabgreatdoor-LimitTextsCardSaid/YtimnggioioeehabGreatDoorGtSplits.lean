/- Split and Cut at a byte. -/
import Derived.Test.YtimnggioioeehabGreatDoorGxStr
import Derived.Test.YtimnggioioeehabGreatDoorGxPlain
namespace Go.GW
open Go.AE Go.Lib

/-- The pieces of a string between the bytes c. -/
def splitOn (c : UInt8) : Str → List Str
  | [] => [[]]
  | b :: r => if b = c then [] :: splitOn c r else match splitOn c r with
    | x :: l => (b :: x) :: l
    | [] => [[b]]
theorem splitOn_ne (c : UInt8) : ∀ s, splitOn c s ≠ []
  | [] => by simp [splitOn]
  | b :: r => by
    simp only [splitOn]
    split
    · simp
    · split <;> simp
theorem idx_miss {c : UInt8} : ∀ {s : Str}, indexByte s c = -1 → splitOn c s = [s] ∧ s.count c = 0
  | [], _ => ⟨rfl, rfl⟩
  | b :: r, h => by
    simp only [indexByte] at h
    by_cases hb : b = c
    · subst hb; simp at h
    · have hb' : (b == c) = false := beq_eq_false_iff_ne.2 hb
      rw [hb'] at h
      simp only [Bool.false_eq_true, if_false] at h
      have hr : indexByte r c = -1 := by
        by_cases hr : indexByte r c = -1
        · exact hr
        · have hr' : (indexByte r c == -1) = false := beq_eq_false_iff_ne.2 hr
          rw [hr'] at h
          simp only [Bool.false_eq_true, if_false] at h
          have := indexByte_ge r c
          omega
      obtain ⟨i1, i2⟩ := idx_miss hr
      refine ⟨by simp [splitOn, hb, i1], ?_⟩
      rw [List.count_cons_of_ne hb]
      exact i2
theorem idx_hit {c : UInt8} : ∀ {s : Str} {i : Nat}, indexByte s c = i → splitOn c s = s.take i :: splitOn c (s.drop (i + 1)) ∧ s.count c = 1 + (s.drop (i + 1)).count c ∧ i < s.length
  | [], i, h => by simp [indexByte] at h
  | b :: r, i, h => by
    simp only [indexByte] at h
    by_cases hb : b = c
    · subst hb
      simp only [beq_self_eq_true, if_true] at h
      have : i = 0 := by omega
      subst this
      exact ⟨by simp [splitOn], by simp; omega, by simp⟩
    · have hb' : (b == c) = false := beq_eq_false_iff_ne.2 hb
      rw [hb'] at h
      simp only [Bool.false_eq_true, if_false] at h
      by_cases hr : indexByte r c = -1
      · rw [hr] at h; simp at h
      · have hr' : (indexByte r c == -1) = false := beq_eq_false_iff_ne.2 hr
        rw [hr'] at h
        simp only [Bool.false_eq_true, if_false] at h
        obtain ⟨j, hj⟩ : ∃ j : Nat, i = j + 1 := ⟨i - 1, by have := indexByte_ge r c; omega⟩
        subst hj
        obtain ⟨i1, i2, i3⟩ := idx_hit (c := c) (s := r) (i := j) (by omega)
        refine ⟨?_, ?_, by simp; omega⟩
        · simp only [splitOn, if_neg hb, i1, List.take_succ_cons, List.drop_succ_cons]
        · rw [List.count_cons_of_ne hb, List.drop_succ_cons]
          exact i2
theorem splitK_on (c : UInt8) : ∀ (k : Nat) (s : Str), s.count c = k → splitK [c] 0 k s = splitOn c s
  | 0, s, h => by
    have : indexByte s c = -1 := by
      have hge := indexByte_ge s c
      apply Decidable.byContradiction
      intro hne
      obtain ⟨i, hi⟩ : ∃ i : Nat, indexByte s c = i := ⟨(indexByte s c).toNat, by omega⟩
      have := (idx_hit hi).2.1
      omega
    rw [(idx_miss this).1]
    rfl
  | k + 1, s, h => by
    have hne : indexByte s c ≠ -1 := fun h1 => by have := (idx_miss h1).2; omega
    obtain ⟨i, hi⟩ : ∃ i : Nat, indexByte s c = i := ⟨(indexByte s c).toNat, by have := indexByte_ge s c; omega⟩
    obtain ⟨h1, h2, -⟩ := idx_hit hi
    have ih := splitK_on c k (s.drop (i + 1)) (by omega)
    rw [h1, ← ih]
    simp only [splitK, index_one, hi]
    rw [if_neg (by simp)]
    simp
theorem split_on (c : UInt8) {s : Str} (h : s.length < 4294967281) : split? s [c] = some (fsl (splitOn c s)) := by
  unfold split?
  rw [if_pos ⟨h, by simp⟩]
  congr 2
  unfold splitL
  rw [splitB_data]
  have e : Go.Lib.countB (B s) (B [c]) = s.count c := count_one c s
  rw [e]
  exact splitK_on c _ s rfl
/-- Cut at a byte, by the pieces. -/
theorem cut_on (c : UInt8) {s : Str} (h : s.length < 4294967281) : ∃ x l, splitOn c s = x :: l ∧ ((l = [] ∧ cut? s [c] = some (s, [], false) ∧ x = s) ∨ ∃ r, cut? s [c] = some (x, r, true) ∧ l = splitOn c r ∧ r.length < s.length) := by
  unfold cut?
  rw [if_pos h]
  unfold Go.Lib.cut
  rw [index_one]
  by_cases hm : indexByte s c = -1
  · refine ⟨s, [], (idx_miss hm).1, .inl ⟨rfl, ?_, rfl⟩⟩
    rw [hm, if_neg (by decide)]
  · obtain ⟨i, hi⟩ : ∃ i : Nat, indexByte s c = i := ⟨(indexByte s c).toNat, by have := indexByte_ge s c; omega⟩
    obtain ⟨h1, h2, h3⟩ := idx_hit hi
    refine ⟨_, _, h1, .inr ⟨s.drop (i + 1), ?_, rfl, by simp; omega⟩⟩
    rw [hi, if_pos (by omega)]
    simp
end Go.GW
