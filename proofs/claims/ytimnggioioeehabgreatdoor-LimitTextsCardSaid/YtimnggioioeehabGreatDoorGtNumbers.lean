/- Both texts read the same numbers. -/
import Derived.Test.YtimnggioioeehabGreatDoorGtDefs
import Derived.Test.YtimnggioioeehabGreatDoorGtDigits
namespace Go.GW
open Go.AE

def trim45 : Str → Str
  | [] => []
  | b :: r => if b = 45 then r else b :: r
theorem trim_ok (s : Str) : strings_TrimPrefix s [45] = some (trim45 s) := by
  unfold strings_TrimPrefix stringslite_TrimPrefix stringslite_HasPrefix
  cases s with
  | nil => rfl
  | cons b r =>
    have e1 : ssub (b :: r) 0 (([45] : Str).length : Int) = some [b] := by
      unfold ssub; rw [if_pos ⟨by omega, by simp, by simp; omega⟩]; simp
    have e2 : ssub (b :: r) (([45] : Str).length : Int) ((b :: r).length : Int) = some r := by
      unfold ssub; rw [if_pos ⟨by simp, by simp; omega, by omega⟩]; simp
    rw [if_pos (by simp only [List.length_cons, List.length_nil]; omega), e1, e2]
    simp only [Option.bind_some, trim45]
    by_cases hb : b = 45
    · subst hb; simp
    · simp [hb]
theorem trim_cases {s : Str} (h : trim45 s ≠ []) : s = trim45 s ∨ s = 45 :: trim45 s := by
  cases s with
  | nil => exact absurd rfl h
  | cons b r =>
    simp only [trim45]
    by_cases hb : b = 45
    · subst hb; simp
    · simp [hb]
theorem trim_len (s : Str) : (trim45 s).length ≤ s.length ∧ s.length ≤ (trim45 s).length + 1 := by
  cases s with
  | nil => simp [trim45]
  | cons b r => simp only [trim45]; split <;> simp <;> omega
theorem kit_loop {d : Str} (h : d.length ≤ 1000) : ∃ b, loopV (kit_Number_l0 d) 0 = some b ∧ ((b = Res.out () ∧ ∀ x ∈ d, isDig x) ∨ (b = Res.ret (0, false) ∧ ¬ ∀ x ∈ d, isDig x)) := by
  refine loopV_inv (f := kit_Number_l0 d) (fun i => 0 ≤ i ∧ i ≤ d.length ∧ ∀ (j : Nat) x, (j : Int) < i → d[j]? = some x → isDig x) (fun i => d.length - i.toNat) _ ?_ 0 ⟨by omega, by omega, fun j x hj => by omega⟩
  rintro i ⟨h0, h1, h2⟩
  obtain ⟨n, rfl⟩ : ∃ n : Nat, i = n := ⟨i.toNat, by omega⟩
  simp only [kit_Number_l0]
  by_cases hi : (n : Int) < d.length
  · have hn : n < d.length := by omega
    rw [if_pos hi, sget_ok hn, Option.bind_some, Option.bind_some]
    have hc := (d[n]).toNat_lt
    by_cases hd : isDig d[n]
    · unfold isDig at hd
      refine .inl ⟨_, by rw [if_neg (by omega), Option.bind_some, if_neg (by simp only [decide_eq_true_eq]; omega)], ⟨?_, ?_, fun j x hj hx => ?_⟩, ?_⟩
      · rw [w64_id (by omega) (by omega)]; omega
      · rw [w64_id (by omega) (by omega)]; omega
      · rw [w64_id (by omega) (by omega)] at hj
        by_cases hjn : j = n
        · subst hjn
          rw [List.getElem?_eq_getElem hn] at hx
          cases hx
          exact hd
        · exact h2 j x (by omega) hx
      · rw [w64_id (by omega) (by omega)]; omega
    · refine .inr ⟨Res.ret (0, false), ?_, .inr ⟨rfl, fun h => hd (h _ (List.getElem_mem hn))⟩⟩
      unfold isDig at hd
      by_cases h48 : ((d[n]).toNat : Int) < 48
      · rw [if_pos h48, Option.bind_some, if_pos rfl]
      · rw [if_neg h48, Option.bind_some, if_pos (by simp only [decide_eq_true_eq]; omega)]
  · refine .inr ⟨Res.out (), by rw [if_neg hi], .inl ⟨rfl, fun x hx => ?_⟩⟩
    obtain ⟨j, hj, rfl⟩ := List.getElem_of_mem hx
    exact h2 j _ (by omega) (List.getElem?_eq_getElem hj)
theorem dig_idx : ∀ x : Fin 256, (Go.Lib.indexByte [48, 49, 50, 51, 52, 53, 54, 55, 56, 57] x.val.toUInt8 < 0) = ¬ (48 ≤ x.val ∧ x.val ≤ 57) := by
  have : ∀ x : Fin 256, decide (Go.Lib.indexByte [48, 49, 50, 51, 52, 53, 54, 55, 56, 57] x.val.toUInt8 < 0) = decide (¬ (48 ≤ x.val ∧ x.val ≤ 57)) := by decide +kernel
  intro x
  have h := this x
  rw [decide_eq_decide] at h
  exact propext h
theorem only_dig {d : Str} (h : d.length ≤ 1000) : ∃ b, gateref2_only d [48, 49, 50, 51, 52, 53, 54, 55, 56, 57] = some b ∧ (b = true ↔ ∀ x ∈ d, isDig x) := by
  unfold gateref2_only
  rw [rangeN_eq (by omega)]
  obtain ⟨b, e, hb⟩ := rangeL_inv2 (f := fun i _ v => gateref2_only_l0 d [48, 49, 50, 51, 52, 53, 54, 55, 56, 57] i v) (fin := fun () => (Res.out () : Res Unit Bool)) (l := List.range (d.length : Int).toNat) (v0 := ())
    (fun i _ => ∀ (j : Nat) x, j < i → d[j]? = some x → isDig x) (fun b => b = Res.ret false ∧ ¬ ∀ x ∈ d, isDig x) (fun j x hj => by omega) (by
    intro i v hi hv
    have hn : i < d.length := by simpa using hi
    have hc := (d[i]).toNat_lt
    have hix := dig_idx ⟨(d[i]).toNat, hc⟩
    simp only at hix
    have hu : ((d[i]).toNat).toUInt8 = d[i] := by simp
    rw [hu] at hix
    simp only [gateref2_only_l0, strings_IndexByte, stringslite_IndexByte]
    rw [sget_ok hn]
    simp only [Option.bind_some, Int.toNat_natCast, hu]
    by_cases hd : isDig d[i]
    · refine .inl ⟨(), by rw [if_neg (by rw [hix]; exact fun hx => hx hd)], fun j x hj hx => ?_⟩
      by_cases hjn : j = i
      · subst hjn
        rw [List.getElem?_eq_getElem hn] at hx
        cases hx
        exact hd
      · exact hv j x (by omega) hx
    · exact .inr ⟨_, by rw [if_pos (by rw [hix]; exact hd)], rfl, fun hall => hd (hall _ (List.getElem_mem hn))⟩)
  rw [e, Option.bind_some]
  rcases hb with ⟨v, rfl, hv⟩ | ⟨rfl, hv⟩
  · refine ⟨true, rfl, by simp only [true_iff]; intro x hx; obtain ⟨j, hj, rfl⟩ := List.getElem_of_mem hx; exact hv j _ (by simpa using hj) (List.getElem?_eq_getElem hj)⟩
  · exact ⟨false, rfl, by simp only [Bool.false_eq_true, false_iff]; exact hv⟩
theorem numbers_ok {s : Str} {most : Int} (hl : s.length ≤ 1000) (hm : most ≤ 15) : ∃ z g q, kit_Number s most = some (if g = true then z else 0, g) ∧ gateref2_Number s most = some (q, g) ∧ (g = true → q = z ∧ -1000000000000000 < z ∧ z < 1000000000000000) := by
  have htl := trim_len s
  have htc := trim_cases (s := s)
  unfold kit_Number gateref2_Number
  rw [trim_ok, Option.bind_some, Option.bind_some]
  generalize trim45 s = d at htl htc
  by_cases h1 : d = [] ∨ (d.length : Int) > most
  · have hc : ((d == []) || decide ((d.length : Int) > most)) = true := by
      simp only [Bool.or_eq_true, beq_iff_eq, decide_eq_true_eq]; exact h1
    refine ⟨0, false, 0, ?_, ?_, by simp⟩
    · rw [if_pos hc, Option.bind_some, if_pos rfl]; rfl
    · rw [if_pos hc, Option.bind_some, if_pos rfl]
  · have hc : ¬ ((d == []) || decide ((d.length : Int) > most)) = true := by
      simp only [Bool.or_eq_true, beq_iff_eq, decide_eq_true_eq]; exact h1
    have hne : d ≠ [] := fun e => h1 (.inl e)
    rw [if_neg hc, if_neg hc]
    obtain ⟨o, o1, o2⟩ := only_dig (d := d) (by omega)
    obtain ⟨lb, l1, l2⟩ := kit_loop (d := d) (by omega)
    have hs0 : sget d 0 = some ((d.head?.getD 0).toNat : Int) := by
      cases d with
      | nil => exact absurd rfl hne
      | cons x r => rfl
    rw [o1, hs0]
    simp only [Option.bind_some]
    by_cases hd : ∀ x ∈ d, isDig x
    · have ho : o = true := o2.2 hd
      subst ho
      rw [if_neg (show ¬ (!true) = true by simp)]
      obtain ⟨z, z1, z2, z3, z4⟩ := num_same (htc hne) hd hne
      have hp : 10 ^ d.length ≤ 10 ^ 15 := Nat.pow_le_pow_right (by omega) (by omega)
      have hz : atoi? s = some z := by unfold atoi?; rw [if_pos (by omega)]; exact z1
      have e10 : (10 : Nat) ^ 15 = 1000000000000000 := by decide
      rw [hz]
      simp only [Option.bind_some, if_true]
      rw [itoa_ok (by omega) (by omega)]
      simp only [Option.bind_some]
      have hhead : ((((d.head?.getD 0).toNat : Int) == 48) && (s != [48])) = decide (d.head? = some 48 ∧ s ≠ [48]) := by
        cases d with
        | nil => exact absurd rfl hne
        | cons x r =>
          simp only [List.head?_cons, Option.getD_some, Option.some.injEq]
          rw [Bool.eq_iff_iff]
          simp only [Bool.and_eq_true, beq_iff_eq, bne_iff_ne, ne_eq, decide_eq_true_eq]
          constructor
          · rintro ⟨h1, h2⟩; exact ⟨UInt8.toNat_inj.1 (by have e : (48 : UInt8).toNat = 48 := rfl; omega), h2⟩
          · rintro ⟨h1, h2⟩; subst h1; exact ⟨rfl, h2⟩
      rw [hhead]
      by_cases hh : d.head? = some 48 ∧ s ≠ [48]
      · refine ⟨0, false, z, ?_, ?_, by simp⟩
        · rw [if_pos (by simpa using hh)]; rfl
        · have : (Go.Lib.itoa z == s) = false := beq_eq_false_iff_ne.2 (fun e => (z2.1 e) hh)
          rw [this]
      · refine ⟨z, true, z, ?_, ?_, fun _ => ⟨rfl, by omega, by omega⟩⟩
        · rw [if_neg (by simpa using hh), l1, Option.bind_some]
          rcases l2 with ⟨rfl, _⟩ | ⟨_, h⟩
          · simp [Res.elim]
          · exact absurd hd h
        · have : (Go.Lib.itoa z == s) = true := beq_iff_eq.2 (z2.2 hh)
          rw [this]
    · have ho : o = false := by
        cases o with
        | true => exact absurd (o2.1 rfl) hd
        | false => rfl
      subst ho
      refine ⟨0, false, 0, ?_, by rw [if_pos (by simp)], by simp⟩
      rw [l1, Option.bind_some]
      rcases l2 with ⟨_, h⟩ | ⟨rfl, _⟩
      · exact absurd h hd
      · split <;> rfl
end Go.GW
