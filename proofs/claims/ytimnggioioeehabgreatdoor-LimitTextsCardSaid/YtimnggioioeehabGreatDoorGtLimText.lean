/- Limits as text: both texts write the same. -/
import Derived.Test.YtimnggioioeehabGreatDoorGtLimBase
namespace Go.GW
open Go.AE

/-- The line of a limit. -/
def limLine (x : api_Limit) : Str := x.Key ++ ([32] ++ (kindW x.Kind ++ ([32] ++ (Go.Lib.itoa x.Most ++ ([32] ++ (Go.Lib.itoa x.Per ++ ([32] ++ (Go.Lib.itoa x.Burst ++ [10]))))))))
theorem burst_of {x : api_Limit} (h : numFault x = 0) : 0 ≤ x.Burst ∧ x.Burst ≤ 1000000000 := by
  unfold numFault at h
  split at h
  · cases h
  split at h
  · cases h
  split at h
  · cases h
  split at h
  · cases h
  rename_i h4
  by_cases h3 : x.Kind = 3
  · cases hb : inB x.Burst 1 1000000000 with
    | true => have := in_true.1 hb; omega
    | false => exact absurd (.inr ⟨h3, hb⟩) h4
  · by_cases hp : x.Burst = 0
    · omega
    · exact absurd (.inl ⟨h3, hp⟩) h4
theorem ws_ok {b : Ar UInt8} {s : Str} (h : b.list.length + s.length ≤ 1000000000) : strings_Builder_WriteString b s = some ((s.length : Int), (), b.app s) := by
  unfold strings_Builder_WriteString
  rw [app_ok h (by omega)]
  rfl
theorem limLine_len {x : api_Limit} (hx : numFault x = 0) : (limLine x).length ≤ x.Key.length + 42 := by
  obtain ⟨h1, h2, h3, h4⟩ := num_of hx
  have h5 := burst_of hx
  obtain ⟨_, hwl⟩ := kindW_ok (n := x.Kind) (by omega) (by omega)
  have l1 := itoa_len10 (n := x.Most) 10 (by omega) (by omega) (by omega)
  have l2 := itoa_len10 (n := x.Per) 10 (by omega) (by omega) (by omega)
  have l3 := itoa_len10 (n := x.Burst) 10 (by omega) (by omega) (by omega)
  simp only [limLine, List.length_append, List.length_cons, List.length_nil]
  omega
theorem text_step (x : api_Limit) (b : Ar UInt8) (i : Int) (hx : numFault x = 0) (hk : x.Key.length ≤ 100) (hb : b.list.length ≤ 100000) : limit_Text_l0 i x b = some (Step.next (b.app (limLine x))) := by
  obtain ⟨h1, h2, h3, h4⟩ := num_of hx
  have h5 := burst_of hx
  obtain ⟨hw, hwl⟩ := kindW_ok (n := x.Kind) (by omega) (by omega)
  have l1 := itoa_len10 (n := x.Most) 10 (by omega) (by omega) (by omega)
  have l2 := itoa_len10 (n := x.Per) 10 (by omega) (by omega) (by omega)
  have l3 := itoa_len10 (n := x.Burst) 10 (by omega) (by omega) (by omega)
  simp only [limit_Text_l0, limit_kindWords, Option.bind_some, hw, itoa_ok (n := x.Most) (by omega) (by omega), itoa_ok (n := x.Per) (by omega) (by omega), itoa_ok (n := x.Burst) (by omega) (by omega)]
  rw [sadd_ok (by simp only [List.length_append, List.length_cons, List.length_nil]; omega), Option.bind_some, sadd_ok (by simp only [List.length_append, List.length_cons, List.length_nil]; omega), Option.bind_some, sadd_ok (by simp only [List.length_append, List.length_cons, List.length_nil]; omega), Option.bind_some, sadd_ok (by simp only [List.length_append, List.length_cons, List.length_nil]; omega), Option.bind_some,
    sadd_ok (by simp only [List.length_append, List.length_cons, List.length_nil]; omega), Option.bind_some, sadd_ok (by simp only [List.length_append, List.length_cons, List.length_nil]; omega), Option.bind_some, sadd_ok (by simp only [List.length_append, List.length_cons, List.length_nil]; omega), Option.bind_some, sadd_ok (by simp only [List.length_append, List.length_cons, List.length_nil]; omega), Option.bind_some, sadd_ok (by simp only [List.length_append, List.length_cons, List.length_nil]; omega), Option.bind_some]
  rw [ws_ok (by simp only [List.length_append, List.length_cons, List.length_nil]; omega)]
  simp only [Option.bind_some, limLine, List.append_assoc]
theorem lines_step (x : api_Limit) (b : Ar UInt8) (i : Int) (hx : numFault x = 0) (hk : x.Key.length ≤ 100) (hb : b.list.length ≤ 100000) : gateref1_LimitLines_l0 i x b = some (Step.next (b.app (limLine x))) := by
  obtain ⟨h1, h2, h3, h4⟩ := num_of hx
  have h5 := burst_of hx
  obtain ⟨hw, hwl⟩ := kindW_ok (n := x.Kind) (by omega) (by omega)
  have l1 := itoa_len10 (n := x.Most) 10 (by omega) (by omega) (by omega)
  have l2 := itoa_len10 (n := x.Per) 10 (by omega) (by omega) (by omega)
  have l3 := itoa_len10 (n := x.Burst) 10 (by omega) (by omega) (by omega)
  simp only [gateref1_LimitLines_l0, gateref1_KindWord, Option.bind_some, hw, itoa_ok (n := x.Most) (by omega) (by omega), itoa_ok (n := x.Per) (by omega) (by omega), itoa_ok (n := x.Burst) (by omega) (by omega), Sl.list]
  have hj : Go.Lib.join [x.Key, kindW x.Kind, Go.Lib.itoa x.Most, Go.Lib.itoa x.Per, Go.Lib.itoa x.Burst] [32] = x.Key ++ ([32] ++ (kindW x.Kind ++ ([32] ++ (Go.Lib.itoa x.Most ++ ([32] ++ (Go.Lib.itoa x.Per ++ ([32] ++ Go.Lib.itoa x.Burst))))))) := by
    rw [Go.Lib.join_cons]; simp [Go.Lib.joinTail]
  have hjl : (Go.Lib.join [x.Key, kindW x.Kind, Go.Lib.itoa x.Most, Go.Lib.itoa x.Per, Go.Lib.itoa x.Burst] [32]).length ≤ 200 := by
    rw [hj]; simp only [List.length_append, List.length_cons, List.length_nil]; omega
  have hjo : join? [x.Key, kindW x.Kind, Go.Lib.itoa x.Most, Go.Lib.itoa x.Per, Go.Lib.itoa x.Burst] [32] = some (Go.Lib.join [x.Key, kindW x.Kind, Go.Lib.itoa x.Most, Go.Lib.itoa x.Per, Go.Lib.itoa x.Burst] [32]) := by
    unfold join?; rw [if_pos ⟨by simp, by omega⟩]
  rw [hjo, Option.bind_some, sadd_ok (by simp only [List.length_cons, List.length_nil]; omega), Option.bind_some, ws_ok (by simp only [List.length_append, List.length_cons, List.length_nil]; omega), hj]
  simp only [Option.bind_some, limLine, List.append_assoc]
/-- The text of limits. -/
def limText (l : List api_Limit) : Str := (l.map limLine).flatten
/-- Limits that may be written. -/
def Small (l : Sl api_Limit) : Prop := l.list.length ≤ 20 ∧ ∀ x ∈ l.list, numFault x = 0 ∧ x.Key.length ≤ 100
theorem limText_len : ∀ (l : List api_Limit), (∀ x ∈ l, numFault x = 0 ∧ x.Key.length ≤ 100) → (limText l).length ≤ 142 * l.length
  | [], _ => by simp [limText]
  | x :: l, h => by
    have h1 := limLine_len (h x (by simp)).1
    have h2 := (h x (by simp)).2
    have h3 := limText_len l (fun y hy => h y (by simp [hy]))
    simp only [limText, List.map_cons, List.flatten_cons, List.length_append, List.length_cons] at h3 ⊢
    omega
theorem limText_take (l : List api_Limit) {i : Nat} (hi : i < l.length) : limText (l.take (i + 1)) = limText (l.take i) ++ limLine l[i] := by
  rw [List.take_succ_eq_append_getElem hi]
  simp only [limText, List.map_append, List.flatten_append, List.map_cons, List.map_nil, List.flatten_cons, List.flatten_nil, List.append_nil]
theorem take_small {l : Sl api_Limit} (h : Small l) (i : Nat) : (limText (l.list.take i)).length ≤ 2840 := by
  have := limText_len (l.list.take i) (fun x hx => h.2 x (List.mem_of_mem_take hx))
  have h1 := h.1
  have : (l.list.take i).length ≤ 20 := by rw [List.length_take]; omega
  omega
theorem text_loop (l : Sl api_Limit) (h : Small l) : rangeS limit_Text_l0 (fun b3 => b3) l (Ar.nil : Ar UInt8) = some (Ar.nil.app (limText l.list)) := by
  rw [rangeS_eq (by have := h.1; omega)]
  obtain ⟨v, h1, h2⟩ := rangeL_inv (f := limit_Text_l0) (fin := fun b3 => b3) (l := l.list) (v0 := (Ar.nil : Ar UInt8)) (fun i v => v = Ar.nil.app (limText (l.list.take i))) (by simp [limText, Ar.app]) (by
    rintro i v hi rfl
    have hx := h.2 _ (List.getElem_mem hi)
    have := take_small h i
    rw [text_step _ _ _ hx.1 hx.2 (by rw [app_list]; simp only [Ar.list, List.nil_append]; omega)]
    exact ⟨_, rfl, by rw [app_app, limText_take _ hi]⟩)
  rw [h1, h2, List.take_length]
theorem lines_loop (l : Sl api_Limit) (h : Small l) : rangeS gateref1_LimitLines_l0 (fun b3 => b3) l (Ar.nil : Ar UInt8) = some (Ar.nil.app (limText l.list)) := by
  rw [rangeS_eq (by have := h.1; omega)]
  obtain ⟨v, h1, h2⟩ := rangeL_inv (f := gateref1_LimitLines_l0) (fin := fun b3 => b3) (l := l.list) (v0 := (Ar.nil : Ar UInt8)) (fun i v => v = Ar.nil.app (limText (l.list.take i))) (by simp [limText, Ar.app]) (by
    rintro i v hi rfl
    have hx := h.2 _ (List.getElem_mem hi)
    have := take_small h i
    rw [lines_step _ _ _ hx.1 hx.2 (by rw [app_list]; simp only [Ar.list, List.nil_append]; omega)]
    exact ⟨_, rfl, by rw [app_app, limText_take _ hi]⟩)
  rw [h1, h2, List.take_length]
theorem all_len {l : Sl api_Limit} (h : Small l) : (limText l.list).length ≤ 2840 := by
  have := take_small h l.list.length
  rwa [List.take_length] at this
theorem text_eq (l : Sl api_Limit) (hk : ∀ x ∈ l.list, x.Key.length < 1000000000000) (h : limsFault l.list = 0 → Small l) : limit_Text l = some (if limsFault l.list = 0 then (limText l.list, 0) else ([], limsFault l.list)) := by
  unfold limit_Text
  rw [CheckLimits_eq l hk]
  simp only [Option.bind_some]
  by_cases h0 : limsFault l.list = 0
  · rw [if_neg (by simp [h0]), text_loop l (h h0), Option.bind_some, bstr_ok (by have := all_len (h h0); omega), if_pos h0]
    rfl
  · rw [if_pos h0, if_neg h0]
theorem limitLines_eq (l : Sl api_Limit) (h : Small l) : gateref1_LimitLines l = some (limText l.list) := by
  unfold gateref1_LimitLines
  rw [lines_loop l h, Option.bind_some, bstr_ok (by have := all_len h; omega)]
  rfl
end Go.GW
