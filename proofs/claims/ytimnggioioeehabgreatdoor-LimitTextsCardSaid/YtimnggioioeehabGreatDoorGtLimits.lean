/- Limits: what is wrong with them, by both texts; the limits that the stream hands out. -/
import Derived.Test.YtimnggioioeehabGreatDoorGtKeys
namespace Go.GW
open Go.AE

def inB (n lo hi : Int) : Bool := decide (lo ≤ n) && decide (n ≤ hi)
theorem outside_eq (n lo hi : Int) : kit_Outside n lo hi = some (!inB n lo hi) := by
  unfold kit_Outside inB
  congr 1
  rw [Bool.eq_iff_iff]; simp
theorem in_eq (n lo hi : Int) : gateref1_in n lo hi = some (inB n lo hi) := rfl
theorem in_true {n lo hi : Int} : inB n lo hi = true ↔ lo ≤ n ∧ n ≤ hi := by unfold inB; simp
theorem in_false {n lo hi : Int} : inB n lo hi = false ↔ n < lo ∨ hi < n := by unfold inB; simp; omega

/-- What is wrong with a limit's numbers. -/
def numFault (x : api_Limit) : Int :=
  if inB x.Kind 1 4 = false then 4 else
  if inB x.Most 1 1000000000 = false then 1 else
  if (x.Kind = 4 ∧ x.Per ≠ 0) ∨ (x.Kind ≠ 4 ∧ inB x.Per 1 8640000000 = false) then 1 else
  if (x.Kind ≠ 3 ∧ x.Burst ≠ 0) ∨ (x.Kind = 3 ∧ inB x.Burst 1 1000000000 = false) then 1 else 0
def limFault (x : api_Limit) : Int := if keyB x.Key = false then 5 else numFault x
theorem LimitFault_eq (x : api_Limit) (hk : x.Key.length < 1000000000000) : gateref1_LimitFault x = some (limFault x) := by
  unfold gateref1_LimitFault limFault numFault
  simp only [Key_eq _ hk, in_eq, Option.bind_some]
  by_cases h4 : x.Kind = 4 <;> by_cases h3 : x.Kind = 3 <;> by_cases hp : x.Per = 0 <;> by_cases hb : x.Burst = 0 <;>
  cases keyB x.Key <;> cases inB x.Kind 1 4 <;> cases inB x.Most 1 1000000000 <;> cases inB x.Per 1 8640000000 <;> cases inB x.Burst 1 1000000000 <;> simp [h4, h3, hp, hb]
/-- Is the limit at i not above the one ahead of it? -/
def ordB (l : List api_Limit) (i : Nat) (x : api_Limit) : Bool := match i with
  | 0 => false
  | j + 1 => match l[j]? with
    | some y => sle x.Key y.Key
    | none => false
def ithFault (l : List api_Limit) (i : Nat) (x : api_Limit) : Int := if keyB x.Key = false then 5 else if ordB l i x = true then 7 else numFault x
theorem ord_eq (l : Sl api_Limit) (i : Nat) (hi : i < l.list.length) (hl : l.list.length < 1000000) : (if (i : Int) > 0 then (l.get? (w64 ((i : Int) - 1))).bind fun x2 => some (sle l.list[i].Key x2.Key) else some false) = some (ordB l.list i l.list[i]) := by
  cases i with
  | zero => rfl
  | succ j =>
    have hj : j < l.list.length := by omega
    rw [if_pos (by omega), show w64 (((j + 1 : Nat) : Int) - 1) = (j : Int) by rw [w64_id (by omega) (by omega)]; omega, get_ok hj]
    simp [ordB, hj]
theorem limitFault_eq (l : Sl api_Limit) (i : Nat) (hi : i < l.list.length) (hl : l.list.length < 1000000) (hk : l.list[i].Key.length < 1000000000000) : limit_limitFault l (i : Int) = some (ithFault l.list i l.list[i]) := by
  unfold limit_limitFault ithFault numFault
  rw [get_ok hi]
  simp only [Option.bind_some, IsKey_eq _ hk]
  rw [ord_eq l i hi hl]
  simp only [outside_eq, Option.bind_some]
  generalize l.list[i] = x
  generalize ordB l.list i x = o
  by_cases h4 : x.Kind = 4 <;> by_cases h3 : x.Kind = 3 <;> by_cases hp : x.Per = 0 <;> by_cases hb : x.Burst = 0 <;>
  cases keyB x.Key <;> cases o <;> cases inB x.Kind 1 4 <;> cases inB x.Most 1 1000000000 <;> cases inB x.Per 1 8640000000 <;> cases inB x.Burst 1 1000000000 <;> simp [h4, h3, hp, hb]
/-- What is wrong with limits. -/
def limsFault (l : List api_Limit) : Int := if l.length > 20 then 2 else (firstSome (fun i x => if ithFault l i x = 0 then none else some (ithFault l i x)) 0 l).getD 0
theorem firstSome_map {α β γ : Type} (g : β → γ) (t : Nat → α → Option β) : ∀ (k : Nat) (l : List α), firstSome (fun i x => (t i x).map g) k l = (firstSome t k l).map g
  | _, [] => rfl
  | k, x :: l => by
    simp only [firstSome]
    cases t k x with
    | some b => rfl
    | none => exact firstSome_map g t (k + 1) l
theorem CheckLimits_eq (l : Sl api_Limit) (hk : ∀ x ∈ l.list, x.Key.length < 1000000000000) : limit_CheckLimits l = some (limsFault l.list) := by
  unfold limit_CheckLimits limsFault
  by_cases hl : l.list.length > 20
  · rw [if_pos (by omega), if_pos hl]
  · rw [if_neg (by omega), if_neg hl, rangeS_eq (by omega)]
    rw [rangeL_find (fun i x => (if ithFault l.list i x = 0 then none else some (ithFault l.list i x)).map Res.ret) (by
      intro i hi
      rw [Nat.zero_add]
      simp only [limit_CheckLimits_l0, limitFault_eq l i hi (by omega) (hk _ (List.getElem_mem hi)), Option.bind_some]
      by_cases h0 : ithFault l.list i l.list[i] = 0
      · simp [h0]
      · simp [h0])]
    rw [firstSome_map]
    simp only [Option.bind_some]
    cases firstSome (fun i x => if ithFault l.list i x = 0 then none else some (ithFault l.list i x)) 0 l.list with
    | none => rfl
    | some b => rfl
theorem LimitsFault_eq (l : Sl api_Limit) (hk : ∀ x ∈ l.list, x.Key.length < 1000000000000) : gateref1_LimitsFault l = some (limsFault l.list) := by
  unfold gateref1_LimitsFault limsFault
  by_cases hl : l.list.length > 20
  · rw [if_pos (by omega), if_pos hl]
  · rw [if_neg (by omega), if_neg hl, rangeS_eq (by omega)]
    rw [rangeL_find (fun i x => (if ithFault l.list i x = 0 then none else some (ithFault l.list i x)).map Res.ret) (by
      intro i hi
      rw [Nat.zero_add]
      have hki := hk _ (List.getElem_mem hi)
      simp only [gateref1_LimitsFault_l0, Key_eq _ hki, Option.bind_some]
      rw [ord_eq l i hi (by omega)]
      simp only [LimitFault_eq _ hki, Option.bind_some, ithFault, limFault]
      rcases bool_cases (keyB l.list[i].Key) with h1 | h1
      · rcases bool_cases (ordB l.list i l.list[i]) with h2 | h2
        · simp [h1, h2]
        · by_cases h0 : numFault l.list[i] = 0
          · simp [h0, h1, h2]
          · simp [h0, h1, h2]
      · simp [h1])]
    rw [firstSome_map]
    simp only [Option.bind_some]
    cases firstSome (fun i x => if ithFault l.list i x = 0 then none else some (ithFault l.list i x)) 0 l.list with
    | none => rfl
    | some b => rfl
theorem limsFault_one (x : api_Limit) : limsFault [x] = limFault x := by
  unfold limsFault limFault ithFault
  simp only [firstSome, ordB]
  cases keyB x.Key with
  | false => simp
  | true =>
    by_cases h0 : numFault x = 0
    · simp [h0]
    · simp [h0]

/-- A limit whose numbers are numbers. -/
structure LimNum (x : api_Limit) : Prop where
  kind : -1152921504606846976 ≤ x.Kind ∧ x.Kind ≤ 1152921504606846976
  most : -1152921504606846976 ≤ x.Most ∧ x.Most ≤ 1152921504606846976
  per : -1152921504606846976 ≤ x.Per ∧ x.Per ≤ 1152921504606846976
  burst : -1152921504606846976 ≤ x.Burst ∧ x.Burst ≤ 1152921504606846976
theorem odd_ok {s : gatemake_Stream} {k : Int} (lo hi : Int) (g : Good s k) (h0 : lo ≤ hi) (h1 : -576460752303423488 ≤ lo) (h2 : hi ≤ 576460752303423488) (hk : k ≤ 9000) : ∃ r s', gatemake_Stream_Odd s lo hi = some (r, s') ∧ -1152921504606846976 ≤ r ∧ r ≤ 1152921504606846976 ∧ Good s' (k + 2) := by
  unfold gatemake_Stream_Odd
  obtain ⟨b, s1, e1, g1⟩ := flip_ok 12 g (by omega) (by omega) (by omega)
  rw [e1]
  simp only [Option.bind_some]
  cases b with
  | true =>
    rw [if_pos rfl, w64_id (n := lo - 1) (by omega) (by omega), w64_id (n := hi + 1) (by omega) (by omega)]
    obtain ⟨r, s2, e2, hr, g2⟩ := pick_ok [lo - 1, hi + 1, lo, hi, -1099511627776, 1099511627776] g1 (by simp) (by simp) (by omega)
    rw [e2]
    refine ⟨r, s2, rfl, ?_, ?_, g2.up (by omega)⟩
    all_goals (simp only [List.mem_cons, List.not_mem_nil, or_false] at hr; omega)
  | false =>
    rw [if_neg (by simp)]
    obtain ⟨r, s2, e2, h3, h4, g2⟩ := range_ok lo hi g1 h0 (by omega) (by omega) (by omega)
    rw [e2]
    exact ⟨r, s2, rfl, by omega, by omega, g2.up (by omega)⟩
theorem rightLimit_ok {s : gatemake_Stream} {k : Int} (key : Str) (g : Good s k) (hk : k ≤ 9000) : ∃ x s', gatemake_Stream_RightLimit s key = some (x, s') ∧ x.Key = key ∧ LimNum x ∧ Good s' (k + 4) := by
  unfold gatemake_Stream_RightLimit
  obtain ⟨kd, s1, e1, h1, h2, g1⟩ := range_ok 1 4 g (by omega) (by omega) (by omega) (by omega)
  obtain ⟨m, s2, e2, h3, g2⟩ := pick_ok [1, 2, 3, 5] g1 (by simp) (by simp) (by omega)
  obtain ⟨p, s3, e3, h4, g3⟩ := pick_ok [1, 7, 10, 50, 100] g2 (by simp) (by simp) (by omega)
  simp only [List.mem_cons, List.not_mem_nil, or_false] at h3 h4
  rw [e1]; simp only [Option.bind_some]
  rw [e2]; simp only [Option.bind_some]
  rw [e3]; simp only [Option.bind_some]
  by_cases c3 : kd = 3
  · rw [if_pos c3]
    obtain ⟨b, s4, e4, h5, g4⟩ := pick_ok [1, 2, 5] g3 (by simp) (by simp) (by omega)
    simp only [List.mem_cons, List.not_mem_nil, or_false] at h5
    rw [e4]
    exact ⟨_, s4, rfl, rfl, ⟨by simp only; omega, by simp only; omega, by simp only; omega, by simp only; omega⟩, g4.up (by omega)⟩
  · rw [if_neg c3]
    by_cases c4 : kd = 4
    · rw [if_pos c4]
      exact ⟨_, s3, rfl, rfl, ⟨by simp only; omega, by simp only; omega, by simp only; omega, by simp only; omega⟩, g3.up (by omega)⟩
    · rw [if_neg c4]
      exact ⟨_, s3, rfl, rfl, ⟨by simp only; omega, by simp only; omega, by simp only; omega, by simp only; omega⟩, g3.up (by omega)⟩
end Go.GW
