/- Numbers written in digits, and read. -/
import Derived.Test.YtimnggioioeehabGreatDoorGxStr
import Derived.Test.YtimnggioioeehabGreatDoorGxPlain
namespace Go.GW
open Go.AE Go.Lib

def isDig (b : UInt8) : Prop := 48 ≤ b.toNat ∧ b.toNat ≤ 57
theorem digit_val {b : UInt8} (h : isDig b) : digitVal b = some (b.toNat - 48) := by
  unfold isDig at h
  unfold digitVal
  rw [if_pos (by simpa [UInt8.le_iff_toNat_le] using h)]
theorem decFrom_snoc (b : UInt8) : ∀ (l : List UInt8) (acc : Nat), decFrom acc (l ++ [b]) = (decFrom acc l).bind fun n => (digitVal b).map fun d => n * 10 + d
  | [], acc => by simp only [List.nil_append, decFrom]; cases digitVal b <;> rfl
  | x :: l, acc => by
    simp only [List.cons_append, decFrom]
    cases digitVal x with
    | none => rfl
    | some d => exact decFrom_snoc b l _
theorem decFrom_digs : ∀ (l : List UInt8) (acc : Nat), (∀ b ∈ l, isDig b) → ∃ n, decFrom acc l = some n
  | [], acc, _ => ⟨acc, rfl⟩
  | b :: l, acc, h => by
    simp only [decFrom, digit_val (h b (by simp))]
    exact decFrom_digs l _ (fun x hx => h x (by simp [hx]))
theorem digit_of {b : UInt8} (h : isDig b) : UInt8.ofNat (48 + (b.toNat - 48)) = b := by
  unfold isDig at h
  rw [show 48 + (b.toNat - 48) = b.toNat by omega]
  simp
/-- What has no leading 0 is written again as it was. -/
theorem dec_round : ∀ (k : Nat) (l : List UInt8) (n : Nat), l.length = k → (∀ b ∈ l, isDig b) → l ≠ [] → (l = [48] ∨ l.head? ≠ some 48) → decFrom 0 l = some n → decDigits n = l ∧ (l ≠ [48] → 0 < n) := by
  intro k
  induction k with
  | zero => intro l n hk _ hne; exact absurd (List.length_eq_zero_iff.1 hk) hne
  | succ k ih =>
    intro l n hk hd hne hl hn
    obtain ⟨m, b, rfl⟩ : ∃ m b, l = m ++ [b] := by
      rcases List.eq_nil_or_concat l with h | ⟨m, b, h⟩
      · exact absurd h hne
      · exact ⟨m, b, by simpa using h⟩
    have hb := hd b (by simp)
    rw [decFrom_snoc, digit_val hb] at hn
    have hb' := hb
    unfold isDig at hb'
    by_cases hm : m = []
    · subst hm
      simp only [decFrom, Option.bind_some, Option.map_some, Option.some.injEq, Nat.zero_mul, Nat.zero_add] at hn
      subst hn
      refine ⟨?_, fun h => ?_⟩
      · unfold decDigits
        rw [dif_pos (by omega), digit_of hb]
        rfl
      · apply Nat.pos_of_ne_zero
        intro h0
        apply h
        have : b.toNat = 48 := by omega
        have : b = 48 := UInt8.toNat_inj.1 this
        rw [this]; rfl
    · obtain ⟨q, hq⟩ := decFrom_digs m 0 (fun x hx => hd x (by simp [hx]))
      rw [hq] at hn
      simp only [Option.bind_some, Option.map_some, Option.some.injEq] at hn
      have hhead : (m ++ [b]).head? = m.head? := by
        cases m with
        | nil => exact absurd rfl hm
        | cons x m => rfl
      have hlead : m.head? ≠ some 48 := by
        rcases hl with h | h
        · have := congrArg List.length h
          simp at this
          exact absurd this hm
        · rwa [hhead] at h
      have hm48 : m ≠ [48] := fun h => by rw [h] at hlead; exact hlead rfl
      obtain ⟨i1, i2⟩ := ih m q (by simpa using hk) (fun x hx => hd x (by simp [hx])) hm (.inr hlead) hq
      have hq0 := i2 hm48
      refine ⟨?_, fun _ => by omega⟩
      unfold decDigits
      rw [dif_neg (by omega), show n / 10 = q by omega, show n % 10 = b.toNat - 48 by omega, i1, digit_of hb]
theorem dec_head : ∀ (n : Nat), decDigits n ≠ [] ∧ (n ≠ 0 → (decDigits n).head? ≠ some 48) := by
  intro n
  induction n using Nat.strongRecOn with
  | _ n ih =>
    unfold decDigits
    split
    · rename_i h
      refine ⟨by simp, fun h0 => ?_⟩
      simp only [List.head?_cons, ne_eq, Option.some.injEq]
      intro he
      have := congrArg UInt8.toNat he
      simp only [UInt8.toNat_ofNat'] at this
      have e : (48 : UInt8).toNat = 48 := rfl
      omega
    · rename_i h
      obtain ⟨i1, i2⟩ := ih (n / 10) (by omega)
      refine ⟨by simp, fun h0 => ?_⟩
      have hh : (decDigits (n / 10) ++ [UInt8.ofNat (48 + n % 10)]).head? = (decDigits (n / 10)).head? := by
        cases hd : decDigits (n / 10) with
        | nil => exact absurd hd i1
        | cons x l => rfl
      rw [hh]
      exact i2 (by omega)
theorem decFrom_lt : ∀ (l : List UInt8) (acc n : Nat), (∀ b ∈ l, isDig b) → decFrom acc l = some n → n < (acc + 1) * 10 ^ l.length
  | [], acc, n, _, h => by simp only [decFrom, Option.some.injEq] at h; subst h; simp
  | b :: l, acc, n, hd, h => by
    have hb := hd b (by simp)
    simp only [decFrom, digit_val hb] at h
    have := decFrom_lt l _ n (fun x hx => hd x (by simp [hx])) h
    unfold isDig at hb
    have h2 : (acc * 10 + (b.toNat - 48) + 1) * 10 ^ l.length ≤ (acc + 1) * 10 * 10 ^ l.length := Nat.mul_le_mul_right _ (by omega)
    rw [List.length_cons, Nat.pow_succ, Nat.mul_comm (10 ^ l.length) 10, ← Nat.mul_assoc]
    omega
/-- Digits with or without a '-': what they spell is written again as it was just where there is no leading 0. -/
theorem num_same {s d : List UInt8} (hs : s = d ∨ s = 45 :: d) (hd : ∀ b ∈ d, isDig b) (hne : d ≠ []) : ∃ z, atoi s = some z ∧ (itoa z = s ↔ ¬ (d.head? = some 48 ∧ s ≠ [48])) ∧ z < ((10 ^ d.length : Nat) : Int) ∧ -((10 ^ d.length : Nat) : Int) < z := by
  obtain ⟨n, hn⟩ := decFrom_digs d 0 hd
  have hlt := decFrom_lt d 0 n hd hn
  rw [Nat.zero_add, Nat.one_mul] at hlt
  have hnat : decNat d = some n := by
    unfold decNat
    rw [if_neg (by simpa using hne)]
    exact hn
  obtain ⟨x, r, rfl⟩ : ∃ x r, d = x :: r := by
    cases d with
    | nil => exact absurd rfl hne
    | cons x r => exact ⟨x, r, rfl⟩
  have hx := hd x (by simp)
  unfold isDig at hx
  have x45 : (x == 45) = false := by
    rw [beq_eq_false_iff_ne]; intro e; subst e; revert hx; decide
  have x43 : (x == 43) = false := by
    rw [beq_eq_false_iff_ne]; intro e; subst e; revert hx; decide
  have h0d : decDigits 0 = [48] := by unfold decDigits; rfl
  rcases hs with rfl | rfl
  · refine ⟨(n : Int), by simp [atoi, x45, x43, hnat], ?_, by omega, by omega⟩
    have hi : itoa (n : Int) = decDigits n := by unfold itoa; rw [if_neg (by omega)]; rfl
    rw [hi]
    constructor
    · rintro he ⟨h1, h2⟩
      by_cases h0 : n = 0
      · subst h0; rw [h0d] at he; exact h2 he.symm
      · have := (dec_head n).2 h0; rw [he] at this; exact this h1
    · intro h
      refine (dec_round _ _ n rfl hd hne ?_ hn).1
      by_cases h1 : (x :: r).head? = some 48
      · exact .inl (Decidable.byContradiction fun h2 => h ⟨h1, h2⟩)
      · exact .inr h1
  · refine ⟨-(n : Int), by simp [atoi, hnat], ?_, by omega, by omega⟩
    have s48 : (45 :: x :: r) ≠ [(48 : UInt8)] := by simp
    by_cases h0 : n = 0
    · subst h0
      have hi : itoa (-((0 : Nat) : Int)) = [48] := by unfold itoa; rw [if_neg (by omega)]; exact h0d
      rw [hi]
      constructor
      · intro he; exact absurd he.symm s48
      · intro h
        have h1 : (x :: r).head? ≠ some 48 := fun h1 => h ⟨h1, s48⟩
        have := (dec_round _ _ 0 rfl hd hne (.inr h1) hn).2 (by intro e; rw [e] at h1; exact h1 rfl)
        omega
    · have hi : itoa (-(n : Int)) = 45 :: decDigits n := by
        unfold itoa
        rw [if_pos (by omega)]
        congr 2
        omega
      rw [hi]
      constructor
      · rintro he ⟨h1, _⟩
        have he' : decDigits n = x :: r := by simpa using he
        have := (dec_head n).2 h0
        rw [he'] at this
        exact this h1
      · intro h
        have h1 : (x :: r).head? ≠ some 48 := fun h1 => h ⟨h1, s48⟩
        rw [(dec_round _ _ n rfl hd hne (.inr h1) hn).1]
end Go.GW
