/- Keys: both texts tell them alike. -/
import Derived.Test.YtimnggioioeehabGreatDoorGtStream
namespace Go.GW
open Go.AE

def lowB (c : UInt8) : Bool := decide (97 ≤ c.toNat) && decide (c.toNat ≤ 122)
def moreB (c : UInt8) : Bool := lowB c || (decide (48 ≤ c.toNat) && decide (c.toNat ≤ 57)) || decide (c.toNat = 45) || decide (c.toNat = 95)
/-- Is it a key? -/
def keyB : Str → Bool
  | [] => false
  | c :: r => lowB c && r.all moreB && decide (r.length < 40)

theorem indexByte_neg (l : Str) (c : UInt8) : Go.Lib.indexByte l c < 0 ↔ c ∉ l := by
  induction l with
  | nil => simp [Go.Lib.indexByte]
  | cons b l ih =>
    have hge := Go.Lib.indexByte_ge l c
    simp only [Go.Lib.indexByte, List.mem_cons, not_or, beq_iff_eq]
    by_cases hb : b = c
    · subst hb; simp
    · rw [if_neg hb]
      by_cases h1 : Go.Lib.indexByte l c = -1
      · rw [if_pos h1]; simp only [h1] at ih; exact ⟨fun _ => ⟨fun e => hb e.symm, ih.1 (by omega)⟩, fun _ => by omega⟩
      · rw [if_neg h1]
        constructor
        · intro h; omega
        · intro h; have := ih.2 h.2; omega
theorem toNat_back (c : UInt8) : ((c.toNat : Int)).toNat.toUInt8 = c := by simp
theorem only_eq (s t : Str) (hs : s.length < 1000000000000) : gateref2_only s t = some (s.all fun c => t.contains c) := by
  unfold gateref2_only
  rw [rangeN_eq (by omega)]
  simp only [Int.toNat_natCast]
  obtain ⟨b, h1, h2⟩ := rangeL_inv2 (f := fun i _ v => gateref2_only_l0 s t i v) (fin := fun () => (Res.out () : Res Unit Bool)) (l := List.range s.length) (v0 := ()) (fun i _ => (s.take i).all (fun c => t.contains c) = true) (fun b => b = Res.ret false ∧ s.all (fun c => t.contains c) = false) (by simp) (by
    intro i v hi hv
    simp only [List.length_range] at hi
    simp only [gateref2_only_l0, sget_ok hi, Option.bind_some, strings_IndexByte, stringslite_IndexByte, toNat_back]
    by_cases hm : s[i] ∈ t
    · left
      rw [if_neg (by rw [indexByte_neg]; simpa using hm)]
      refine ⟨(), rfl, ?_⟩
      rw [List.take_succ_eq_append_getElem hi, List.all_append, hv]
      simpa using hm
    · right
      rw [if_pos (by rw [indexByte_neg]; exact hm)]
      refine ⟨_, rfl, rfl, ?_⟩
      rw [List.all_eq_false]
      exact ⟨s[i], List.getElem_mem hi, by simpa using hm⟩)
  rw [h1]
  rcases h2 with ⟨_, rfl, h2⟩ | ⟨rfl, h2⟩
  · simp only [List.length_range, List.take_length] at h2
    simp only [Option.bind_some, Res.elim, h2]
  · simp only [Option.bind_some, Res.elim, h2]
theorem u8_all (p : UInt8 → Bool) (h : (List.range 256).all (fun n => p n.toUInt8) = true) (c : UInt8) : p c = true := by
  rw [List.all_eq_true] at h
  have := h c.toNat (by rw [List.mem_range]; exact c.toNat_lt)
  simpa using this
theorem low_mem (c : UInt8) : ([97, 98, 99, 100, 101, 102, 103, 104, 105, 106, 107, 108, 109, 110, 111, 112, 113, 114, 115, 116, 117, 118, 119, 120, 121, 122] : Str).contains c = lowB c := by
  have := u8_all (fun c => ([97, 98, 99, 100, 101, 102, 103, 104, 105, 106, 107, 108, 109, 110, 111, 112, 113, 114, 115, 116, 117, 118, 119, 120, 121, 122] : Str).contains c == lowB c) (by decide +kernel) c
  exact eq_of_beq this
theorem more_mem (c : UInt8) : ([97, 98, 99, 100, 101, 102, 103, 104, 105, 106, 107, 108, 109, 110, 111, 112, 113, 114, 115, 116, 117, 118, 119, 120, 121, 122, 48, 49, 50, 51, 52, 53, 54, 55, 56, 57, 45, 95] : Str).contains c = moreB c := by
  have := u8_all (fun c => ([97, 98, 99, 100, 101, 102, 103, 104, 105, 106, 107, 108, 109, 110, 111, 112, 113, 114, 115, 116, 117, 118, 119, 120, 121, 122, 48, 49, 50, 51, 52, 53, 54, 55, 56, 57, 45, 95] : Str).contains c == moreB c) (by decide +kernel) c
  exact eq_of_beq this
theorem Key_eq (s : Str) (hs : s.length < 1000000000000) : gateref2_Key s = some (keyB s) := by
  unfold gateref2_Key
  simp only [gateref2_in, Option.bind_some]
  cases s with
  | nil => simp [keyB]
  | cons c r =>
    simp only [List.length_cons] at hs ⊢
    by_cases hl : r.length < 40
    · have e : (decide ((1 : Int) ≤ ((r.length + 1 : Nat) : Int)) && decide (((r.length + 1 : Nat) : Int) ≤ 40)) = true := by simp; omega
      rw [if_pos e]
      have e1 : ssub (c :: r) 0 1 = some [c] := by
        unfold ssub
        rw [if_pos (by simp; omega)]
        simp
      simp only [if_true, e1, Option.bind_some, only_eq [c] _ (by simp), only_eq (c :: r) _ (by simp; omega), low_mem, more_mem]
      cases hc : lowB c with
      | false => simp [keyB, hc]
      | true => simp [keyB, hc, hl, show moreB c = true by unfold moreB; rw [hc]; simp]
    · have e : (decide ((1 : Int) ≤ ((r.length + 1 : Nat) : Int)) && decide (((r.length + 1 : Nat) : Int) ≤ 40)) = false := by simp; omega
      rw [if_neg (not_t e)]
      simp [keyB, hl]
theorem u8_dec (c : UInt8) : ((decide ((c.toNat : Int) ≥ 97)) && (decide ((c.toNat : Int) ≤ 122))) = lowB c := by
  unfold lowB
  rw [Bool.eq_iff_iff]; simp only [Bool.and_eq_true, decide_eq_true_eq]; omega
theorem IsKey_step (s : Str) (i : Nat) (hi : i < s.length) (hs : s.length < 1000000000000) : kit_IsKey_l0 s (i : Int) = some (if (lowB s[i] || (decide (0 < i) && moreB s[i])) = true then Step.next ((i + 1 : Nat) : Int) else Step.done (Res.ret false)) := by
  simp only [kit_IsKey_l0]
  rw [if_pos (by omega), sget_ok hi]
  simp only [Option.bind_some]
  have e : (((decide ((s[i].toNat : Int) ≥ 97)) && (decide ((s[i].toNat : Int) ≤ 122))) || ((decide ((i : Int) > 0)) && ((((decide ((s[i].toNat : Int) ≥ 48)) && (decide ((s[i].toNat : Int) ≤ 57))) || ((s[i].toNat : Int) == 45)) || ((s[i].toNat : Int) == 95)))) = (lowB s[i] || (decide (0 < i) && moreB s[i])) := by
    rw [u8_dec]
    generalize s[i] = c
    unfold moreB
    rw [Bool.eq_iff_iff]
    simp only [Bool.or_eq_true, Bool.and_eq_true, decide_eq_true_eq, beq_iff_eq]
    constructor
    · rintro (h | h)
      · exact .inl h
      · refine .inr ⟨by omega, ?_⟩; omega
    · rintro (h | ⟨h1, ((h | h) | h) | h⟩)
      · exact .inl h
      · exact .inl h
      all_goals (refine .inr ⟨by omega, ?_⟩; omega)
  rw [e]
  cases hb : (lowB s[i] || (decide (0 < i) && moreB s[i])) with
  | true => simp; exact w64_id (by omega) (by omega)
  | false => simp
theorem IsKey_eq (s : Str) (hs : s.length < 1000000000000) : kit_IsKey s = some (keyB s) := by
  let okAt (j : Nat) (hj : j < s.length) : Bool := lowB s[j] || (decide (0 < j) && moreB s[j])
  obtain ⟨b, h1, h2⟩ := loopV_inv (f := kit_IsKey_l0 s) (fun i => 0 ≤ i ∧ i ≤ s.length ∧ ∀ j (hj : j < s.length), (j : Int) < i → okAt j hj = true) (fun i => (s.length - i).toNat)
    (fun b => (b = Res.out () ∧ ∀ j (hj : j < s.length), okAt j hj = true) ∨ (b = Res.ret false ∧ ∃ j, ∃ hj : j < s.length, okAt j hj = false)) (by
      rintro i ⟨h0, h1, h2⟩
      obtain ⟨n, rfl⟩ : ∃ n : Nat, i = n := ⟨i.toNat, by omega⟩
      by_cases hn : n < s.length
      · rw [IsKey_step s n hn hs]
        cases hb : okAt n hn with
        | true =>
          left
          rw [if_pos hb]
          refine ⟨_, rfl, ⟨by omega, by omega, fun j hj hlt => ?_⟩, by omega⟩
          by_cases e : j = n
          · subst e; exact hb
          · exact h2 j hj (by omega)
        | false =>
          right
          rw [if_neg (not_t hb)]
          exact ⟨_, rfl, .inr ⟨rfl, n, hn, hb⟩⟩
      · right
        simp only [kit_IsKey_l0]
        rw [if_neg (by omega)]
        exact ⟨_, rfl, .inl ⟨rfl, fun j hj => h2 j hj (by omega)⟩⟩) 0 ⟨by omega, by omega, fun j _ h => by omega⟩
  unfold kit_IsKey
  rw [h1]
  simp only [Option.bind_some]
  rcases h2 with ⟨rfl, h2⟩ | ⟨rfl, j, hj, h2⟩
  · simp only [Res.elim]
    congr 1
    cases s with
    | nil => rfl
    | cons c r =>
      have h3 := h2 0 (by simp)
      have h3 : lowB c = true := by simpa [okAt] using h3
      have h4 : r.all moreB = true := by
        rw [List.all_eq_true]
        intro x hx
        obtain ⟨j, hj, rfl⟩ := List.getElem_of_mem hx
        have := h2 (j + 1) (by simp; omega)
        simp only [okAt, List.getElem_cons_succ, Bool.or_eq_true, Bool.and_eq_true] at this
        rcases this with h | h
        · unfold moreB; rw [h]; simp
        · exact h.2
      simp only [keyB, h3, h4, List.length_cons]
      rw [Bool.eq_iff_iff]; simp; omega
  · simp only [Res.elim]
    congr 1
    cases s with
    | nil => simp at hj
    | cons c r =>
      simp only [okAt, Bool.or_eq_false_iff, Bool.and_eq_false_iff] at h2
      cases j with
      | zero => simp only [keyB, show lowB c = false from h2.1]; rfl
      | succ j =>
        have hjr : j < r.length := by simpa using hj
        have h5 : moreB r[j] = false := by
          rcases h2.2 with h | h
          · simp at h
          · exact h
        have : r.all moreB = false := by
          rw [List.all_eq_false]
          exact ⟨r[j], List.getElem_mem _, by simp [h5]⟩
        simp [keyB, this]
end Go.GW
