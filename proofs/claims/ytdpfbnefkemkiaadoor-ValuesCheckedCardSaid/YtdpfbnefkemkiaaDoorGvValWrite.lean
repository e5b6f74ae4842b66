/- Written, and what the writer writes. -/
import Derived.Test.YtdpfbnefkemkiaaDoorGvValText
namespace Go.GW
open Go.AE

theorem digits_len : ∀ (n u : Nat), u < 10 ^ (n + 1) → (Go.Lib.decDigits u).length ≤ n + 1
  | 0, u, h => by
    unfold Go.Lib.decDigits
    rw [dif_pos (by simpa using h)]
    simp
  | n + 1, u, h => by
    unfold Go.Lib.decDigits
    split
    · simp
    · rw [List.length_append]
      have := digits_len n (u / 10) (by rw [Nat.pow_succ] at h; omega)
      simp only [List.length_singleton]
      omega
theorem itoa_len17 {n : Int} (h0 : -1000000000000000 ≤ n) (h1 : n ≤ 1000000000000000) : (Go.Lib.itoa n).length ≤ 17 := by
  unfold Go.Lib.itoa
  split
  · have := digits_len 15 n.natAbs (by omega)
    simp only [List.length_cons]; omega
  · have := digits_len 15 n.toNat (by omega)
    omega
theorem join_snoc (l : List Str) (x : Str) (h : l ≠ []) : Go.Lib.join (l ++ [x]) [44] = Go.Lib.join l [44] ++ ([44] ++ x) := by
  cases l with
  | nil => exact absurd rfl h
  | cons a r =>
    rw [List.cons_append, Go.Lib.join_cons, Go.Lib.join_cons]
    simp [Go.Lib.joinTail, List.append_assoc]
theorem join_len (l : List Str) : (Go.Lib.join l [44]).length ≤ (l.map fun s => s.length + 1).sum := by
  cases l with
  | nil => simp [Go.Lib.join_nil]
  | cons a r =>
    rw [Go.Lib.join_cons, List.length_append, List.map_cons, List.sum_cons]
    have : (Go.Lib.joinTail [44] r).length = (r.map fun s => s.length + 1).sum := by
      induction r with
      | nil => rfl
      | cons b r ih => simp only [Go.Lib.joinTail, List.map_cons, List.flatten_cons, List.length_append, List.sum_cons] at ih ⊢; rw [ih]; simp only [List.length_cons, List.length_nil]; omega
    omega
def written : Nat → api_Value → Str
  | 0, _ => []
  | k + 1, v =>
    if v.Kind = 1 then Go.Lib.formatBool v.Flag else if v.Kind = 2 then Go.Lib.itoa v.Number else if v.Kind = 3 then quoted v.Words else
    if v.Kind = 4 then 91 :: (Go.Lib.join (v.List.list.map fun x => written k x) [44] ++ [93]) else
    if v.Kind = 5 then 123 :: (Go.Lib.join (v.Members.list.map fun m => quoted m.Name ++ (58 :: written k m.Value)) [44] ++ [125]) else [110, 117, 108, 108]
theorem fb_len (b : Bool) : (Go.Lib.formatBool b).length ≤ 5 := by cases b <;> decide
theorem written_len : ∀ (k : Nat) (v : api_Value), Rt k v → (written k v).length ≤ wt k v
  | 0, _, h => h.elim
  | k + 1, v, h => by
    obtain ⟨⟨h1, h2, h3, h4⟩, h5⟩ := h
    simp only [written, wt]
    split
    · have := fb_len v.Flag; omega
    · split
      · have := itoa_len17 h3 h4; omega
      · split
        · have := quoted_len v.Words; omega
        · split
          · have a1 := join_len (v.List.list.map fun x => written k x)
            rw [List.map_map] at a1
            have a2 := sum_le (l := v.List.list) (f := (fun s : Str => s.length + 1) ∘ fun x => written k x) (g := fun x => wt k x + 1) (fun x hx => by have := written_len k x (h5 x (kids_l hx)); simp only [Function.comp]; omega)
            simp only [List.length_cons, List.length_append, List.length_nil]
            omega
          · split
            · have a1 := join_len (v.Members.list.map fun m => quoted m.Name ++ (58 :: written k m.Value))
              rw [List.map_map] at a1
              have a2 := sum_le (l := v.Members.list) (f := (fun s : Str => s.length + 1) ∘ fun m : api_Member => quoted m.Name ++ (58 :: written k m.Value)) (g := fun m => 6 * m.Name.length + 4 + wt k m.Value) (fun m hm => by
                have := written_len k m.Value (h5 _ (kids_m hm))
                have := quoted_len m.Name
                simp only [Function.comp, List.length_append, List.length_cons]; omega)
              simp only [List.length_cons, List.length_append, List.length_nil]
              omega
            · simp only [List.length_cons, List.length_nil]; omega
theorem written_ok : ∀ (k : Nat) (v : api_Value), Rt k v → wt k v ≤ 10000000 → gateref1_Written k v = some (written k v)
  | 0, _, h, _ => h.elim
  | k + 1, v, h, hw => by
    have hlen := written_len (k + 1) v h
    obtain ⟨⟨h1, h2, h3, h4⟩, h5⟩ := h
    have hl := wt_ll (k := k) (v := v)
    have hml := wt_ml (k := k) (v := v)
    have hww := wt_w (k := k) (v := v)
    rw [gateref1_Written]
    simp only [written] at hlen ⊢
    by_cases k1 : v.Kind = 1
    · rw [if_pos k1, if_pos k1]
    rw [if_neg k1, if_neg k1]
    rw [if_neg k1] at hlen
    by_cases k2 : v.Kind = 2
    · rw [if_pos k2, if_pos k2, itoa_ok (by omega) (by omega)]; rfl
    rw [if_neg k2, if_neg k2]
    rw [if_neg k2] at hlen
    by_cases k3 : v.Kind = 3
    · rw [if_pos k3, if_pos k3, quotedR_ok (by omega)]; rfl
    rw [if_neg k3, if_neg k3]
    rw [if_neg k3] at hlen
    by_cases k4 : v.Kind = 4
    · rw [if_pos k4, if_pos k4, rangeS_eq (by omega)]
      rw [if_pos k4] at hlen
      obtain ⟨x, e, hx⟩ := rangeL_inv (f := gateref1_Written_l0 (gateref1_Written k)) (fin := fun l => l) (l := v.List.list) (v0 := (Sl.nil : Sl Str)) (fun i x => x.list = (v.List.list.take i).map fun x => written k x) (by simp [Sl.list]) (by
        intro i x hi hx
        have hm : v.List.list[i] ∈ v.List.list := List.getElem_mem _
        have hwx := wt_l (k := k) hm
        simp only [gateref1_Written_l0]
        rw [written_ok k _ (h5 _ (kids_l hm)) (by omega), Option.bind_some, slapp_ok (by rw [hx]; simp; omega) (by omega)]
        exact ⟨_, rfl, by rw [slapp_list, hx, List.take_succ_eq_append_getElem hi, List.map_append]; rfl⟩)
      rw [List.take_length] at hx
      simp only [List.length_cons, List.length_append, List.length_nil] at hlen
      have hj : join? x.list [44] = some (Go.Lib.join (v.List.list.map fun x => written k x) [44]) := by
        unfold join?
        rw [hx, if_pos ⟨by simp; omega, by omega⟩]
      rw [e, Option.bind_some, hj, Option.bind_some, sadd_ok (by simp only [List.length_cons, List.length_nil]; omega), Option.bind_some, sadd_ok (by simp only [List.length_cons, List.length_append, List.length_nil]; omega)]
      rfl
    rw [if_neg k4, if_neg k4]
    rw [if_neg k4] at hlen
    by_cases k5 : v.Kind = 5
    · rw [if_pos k5, if_pos k5, rangeS_eq (by omega)]
      rw [if_pos k5] at hlen
      obtain ⟨x, e, hx⟩ := rangeL_inv (f := gateref1_Written_l1 (gateref1_Written k)) (fin := fun l => l) (l := v.Members.list) (v0 := (Sl.nil : Sl Str)) (fun i x => x.list = (v.Members.list.take i).map fun m => quoted m.Name ++ (58 :: written k m.Value)) (by simp [Sl.list]) (by
        intro i x hi hx
        have hm : v.Members.list[i] ∈ v.Members.list := List.getElem_mem _
        have hwx := wt_m (k := k) hm
        have hq := quoted_len v.Members.list[i].Name
        have hwl := written_len k _ (h5 _ (kids_m hm))
        simp only [gateref1_Written_l1]
        rw [quotedR_ok (by omega), Option.bind_some, sadd_ok (by simp only [List.length_cons, List.length_nil]; omega), Option.bind_some, written_ok k _ (h5 _ (kids_m hm)) (by omega), Option.bind_some,
          sadd_ok (by simp only [List.length_cons, List.length_append, List.length_nil]; omega), Option.bind_some, slapp_ok (by rw [hx]; simp; omega) (by omega)]
        exact ⟨_, rfl, by rw [slapp_list, hx, List.take_succ_eq_append_getElem hi, List.map_append]; simp⟩)
      rw [List.take_length] at hx
      simp only [List.length_cons, List.length_append, List.length_nil] at hlen
      have hj : join? x.list [44] = some (Go.Lib.join (v.Members.list.map fun m => quoted m.Name ++ (58 :: written k m.Value)) [44]) := by
        unfold join?
        rw [hx, if_pos ⟨by simp; omega, by omega⟩]
      rw [e, Option.bind_some, hj, Option.bind_some, sadd_ok (by simp only [List.length_cons, List.length_nil]; omega), Option.bind_some, sadd_ok (by simp only [List.length_cons, List.length_append, List.length_nil]; omega)]
      rfl
    · rw [if_neg k5, if_neg k5]
theorem vb_ok {b : Ar UInt8} {c : UInt8} {n : Int} (hn : n = c.toNat) (h : b.list.length + 1 ≤ 1000000000) : strings_Builder_WriteByte__value_writer_0 ⟨b⟩ n = some ((), ⟨b.app [c]⟩) := by
  subst hn
  unfold strings_Builder_WriteByte__value_writer_0
  rw [byte_nat, Option.bind_some, app_ok (by simpa using h) (by omega)]
  rfl
theorem vs_ok {b : Ar UInt8} {s : Str} (h : b.list.length + s.length ≤ 1000000000) : strings_Builder_WriteString__value_writer_0 ⟨b⟩ s = some ((s.length : Int), (), ⟨b.app s⟩) := by
  unfold strings_Builder_WriteString__value_writer_0
  rw [app_ok h (by omega)]
  rfl
/-- The list's texts, as far as they are written. -/
theorem join_take {α : Type} (f : α → Str) (l : List α) {i : Nat} (hi : i < l.length) :
    Go.Lib.join ((l.take (i + 1)).map f) [44] = Go.Lib.join ((l.take i).map f) [44] ++ ((if i > 0 then [44] else []) ++ f l[i]) := by
  rw [List.take_succ_eq_append_getElem hi, List.map_append]
  cases i with
  | zero => simp [Go.Lib.join_nil, Go.Lib.join_one]
  | succ i =>
    rw [List.map_singleton, join_snoc _ _ (by
      intro h
      have := congrArg List.length h
      rw [List.length_map, List.length_take, List.length_nil] at this
      omega), if_pos (by omega)]
theorem writer_ok : ∀ (k : Nat) (v : api_Value) (b : Ar UInt8), Rt k v → b.list.length + wt k v ≤ 200000 → value_writer_value k ⟨b⟩ v = some ⟨b.app (written k v)⟩
  | 0, _, _, h, _ => h.elim
  | k + 1, v, b, h, hw => by
    have hlen := written_len (k + 1) v h
    obtain ⟨⟨h1, h2, h3, h4⟩, h5⟩ := h
    have hl := wt_ll (k := k) (v := v)
    have hml := wt_ml (k := k) (v := v)
    have hww := wt_w (k := k) (v := v)
    have hfull : value_writer_full ⟨b⟩ = some false := by
      unfold value_writer_full strings_Builder_Len__value_writer_0
      simp only [Option.bind_some, Option.some.injEq, decide_eq_false_iff_not]
      omega
    rw [value_writer_value, hfull, Option.bind_some, if_neg (by simp)]
    simp only [written] at hlen ⊢
    by_cases k0 : v.Kind = 0
    · rw [if_pos k0, if_neg (by omega), if_neg (by omega), if_neg (by omega), if_neg (by omega), if_neg (by omega), vs_ok (by simp; omega)]; rfl
    rw [if_neg k0]
    by_cases k1 : v.Kind = 1
    · rw [if_pos k1] at hlen
      rw [if_pos k1, if_pos k1, vs_ok (by omega)]; rfl
    rw [if_neg k1, if_neg k1]
    rw [if_neg k1] at hlen
    by_cases k2 : v.Kind = 2
    · rw [if_pos k2] at hlen
      rw [if_pos k2, if_pos k2, itoa_ok (by omega) (by omega), Option.bind_some, vs_ok (by omega)]; rfl
    rw [if_neg k2, if_neg k2]
    rw [if_neg k2] at hlen
    by_cases k3 : v.Kind = 3
    · rw [if_pos k3] at hlen
      rw [if_pos k3, if_pos k3, quote_ok (by omega), Option.bind_some, vs_ok (by omega)]; rfl
    rw [if_neg k3, if_neg k3]
    rw [if_neg k3] at hlen
    by_cases k4 : v.Kind = 4
    · rw [if_pos k4] at hlen
      rw [if_pos k4, if_pos k4, vb_ok (n := 91) (c := 91) rfl (by omega), Option.bind_some]
      simp only
      rw [rangeS_eq (by omega)]
      have hsum : 30 + (v.List.list.map fun x => wt k x + 1).sum ≤ wt (k + 1) v := by simp only [wt]; omega
      obtain ⟨w, e, hx⟩ := rangeL_inv (f := value_writer_value_l0 (value_writer_value k)) (fin := fun w => w) (l := v.List.list) (v0 := (⟨b.app [91]⟩ : value_writer)) (fun i w => w = ⟨b.app ([91] ++ Go.Lib.join ((v.List.list.take i).map fun x => written k x) [44])⟩) (by simp [Go.Lib.join_nil]) (by
        intro i w hi hx
        subst hx
        have hm : v.List.list[i] ∈ v.List.list := List.getElem_mem _
        have a1 := join_len ((v.List.list.take i).map fun x => written k x)
        rw [List.map_map] at a1
        have a2 := sum_le (l := v.List.list.take i) (f := (fun s : Str => s.length + 1) ∘ fun x => written k x) (g := fun x => wt k x + 1) (fun x hx => by have := written_len k x (h5 x (kids_l (List.mem_of_mem_take hx))); simp only [Function.comp]; omega)
        have a3 := take_sum (fun x => wt k x + 1) v.List.list hi
        have a4 := take_le (fun x => wt k x + 1) v.List.list (i + 1)
        simp only [value_writer_value_l0]
        by_cases h0 : (i : Int) > 0
        · rw [if_pos h0, vb_ok (n := 44) (c := 44) rfl (by rw [app_list]; simp only [List.length_append, List.length_cons, List.length_nil]; omega), Option.bind_some]
          simp only
          rw [writer_ok k _ _ (h5 _ (kids_l hm)) (by rw [app_list, app_list]; simp only [List.length_append, List.length_cons, List.length_nil]; omega), Option.bind_some]
          refine ⟨_, rfl, ?_⟩
          rw [join_take _ _ hi, if_pos (by omega), app_app, app_app]
          simp only [List.append_assoc]
        · rw [if_neg h0, writer_ok k _ _ (h5 _ (kids_l hm)) (by rw [app_list]; simp only [List.length_append, List.length_cons, List.length_nil]; omega), Option.bind_some]
          refine ⟨_, rfl, ?_⟩
          rw [join_take _ _ hi, if_neg (by omega), app_app]
          simp only [List.append_assoc, List.nil_append])
      rw [List.take_length] at hx
      simp only [List.length_cons, List.length_append, List.length_nil] at hlen
      rw [e, Option.bind_some, hx, vb_ok (n := 93) (c := 93) rfl (by rw [app_list]; simp only [List.length_append, List.length_cons, List.length_nil]; omega), Option.bind_some, app_app]
      rfl
    rw [if_neg k4, if_neg k4]
    rw [if_neg k4] at hlen
    have k5 : v.Kind = 5 := by omega
    rw [if_pos k5] at hlen
    rw [if_pos k5, vb_ok (n := 123) (c := 123) rfl (by omega), Option.bind_some]
    simp only
    rw [rangeS_eq (by omega)]
    have hsum : 30 + (v.Members.list.map fun m => 6 * m.Name.length + 4 + wt k m.Value).sum ≤ wt (k + 1) v := by simp only [wt]; omega
    obtain ⟨w, e, hx⟩ := rangeL_inv (f := value_writer_value_l1 (value_writer_value k)) (fin := fun w => w) (l := v.Members.list) (v0 := (⟨b.app [123]⟩ : value_writer)) (fun i w => w = ⟨b.app ([123] ++ Go.Lib.join ((v.Members.list.take i).map fun m => quoted m.Name ++ (58 :: written k m.Value)) [44])⟩) (by simp [Go.Lib.join_nil]) (by
      intro i w hi hx
      subst hx
      have hm : v.Members.list[i] ∈ v.Members.list := List.getElem_mem _
      have hq := quoted_len v.Members.list[i].Name
      have a1 := join_len ((v.Members.list.take i).map fun m => quoted m.Name ++ (58 :: written k m.Value))
      rw [List.map_map] at a1
      have a2 := sum_le (l := v.Members.list.take i) (f := (fun s : Str => s.length + 1) ∘ fun m : api_Member => quoted m.Name ++ (58 :: written k m.Value)) (g := fun m => 6 * m.Name.length + 4 + wt k m.Value) (fun m hm => by
        have := written_len k m.Value (h5 _ (kids_m (List.mem_of_mem_take hm)))
        have := quoted_len m.Name
        simp only [Function.comp, List.length_append, List.length_cons]; omega)
      have a3 := take_sum (fun m : api_Member => 6 * m.Name.length + 4 + wt k m.Value) v.Members.list hi
      have a4 := take_le (fun m : api_Member => 6 * m.Name.length + 4 + wt k m.Value) v.Members.list (i + 1)
      simp only [value_writer_value_l1]
      have hc : ((if (i : Int) > 0 then (strings_Builder_WriteByte__value_writer_0 ⟨b.app ([123] ++ Go.Lib.join ((v.Members.list.take i).map fun m => quoted m.Name ++ (58 :: written k m.Value)) [44])⟩ 44).bind fun (r295, w37) => some w37
          else some ⟨b.app ([123] ++ Go.Lib.join ((v.Members.list.take i).map fun m => quoted m.Name ++ (58 :: written k m.Value)) [44])⟩ : Option (value_writer))) = some ⟨b.app (([123] ++ Go.Lib.join ((v.Members.list.take i).map fun m => quoted m.Name ++ (58 :: written k m.Value)) [44]) ++ (if i > 0 then [44] else []))⟩ := by
        by_cases h0 : (i : Int) > 0
        · rw [if_pos h0, if_pos (by omega), vb_ok (n := 44) (c := 44) rfl (by rw [app_list]; simp only [List.length_append, List.length_cons, List.length_nil]; omega), Option.bind_some, app_app]
        · rw [if_neg h0, if_neg (by omega), List.append_nil]
      have hcl : (if i > 0 then [44] else [] : Str).length ≤ 1 := by split <;> simp
      rw [hc, Option.bind_some, quote_ok (by omega), Option.bind_some, vs_ok (by rw [app_list]; simp only [List.length_append, List.length_cons, List.length_nil]; omega), Option.bind_some]
      simp only
      rw [vb_ok (n := 58) (c := 58) rfl (by rw [app_list, app_list]; simp only [List.length_append, List.length_cons, List.length_nil]; omega), Option.bind_some]
      simp only
      rw [writer_ok k _ _ (h5 _ (kids_m hm)) (by rw [app_list, app_list, app_list]; simp only [List.length_append, List.length_cons, List.length_nil]; omega), Option.bind_some]
      refine ⟨_, rfl, ?_⟩
      rw [join_take _ _ hi, app_app, app_app, app_app]
      simp only [List.append_assoc, List.cons_append, List.nil_append])
    rw [List.take_length] at hx
    simp only [List.length_cons, List.length_append, List.length_nil] at hlen
    rw [e, Option.bind_some, hx, vb_ok (n := 125) (c := 125) rfl (by rw [app_list]; simp only [List.length_append, List.length_cons, List.length_nil]; omega), Option.bind_some, app_app]
    rfl
theorem textOf_ok {k : Nat} {v : api_Value} (h : Rt k v) (hw : wt k v ≤ 200000) : value_textOf k v = some (written k v, true) := by
  have hlen := written_len k v h
  unfold value_textOf
  rw [writer_ok k v _ h (by simp only [Ar.list, List.length_nil]; omega), Option.bind_some]
  have hfull : value_writer_full ⟨(Ar.nil : Ar UInt8).app (written k v)⟩ = some false := by
    unfold value_writer_full strings_Builder_Len__value_writer_0
    simp only [Option.bind_some, Option.some.injEq, decide_eq_false_iff_not, app_list]
    simp only [Ar.list, List.nil_append]
    omega
  rw [hfull, Option.bind_some, if_neg (by simp), bstr_ok (by omega)]
  rfl
end Go.GW
