/- Limits as text: the law. -/
import Derived.Test.YtimnggioioeehabGreatDoorGtLimRead
namespace Go.GW
open Go.AE

/-- What reading the pieces of a text gives: the limits, or the place of the first line that is wrong. -/
noncomputable def readP : Nat → List Str → Sl api_Limit → Res (Sl api_Limit) Nat
  | _, [], acc => .out acc
  | i, [x], acc => if x = [] then .out acc else .ret i
  | i, x :: y :: r, acc => match rdLine x with
    | none => .ret i
    | some z => readP (i + 1) (y :: r) (acc.app [z])
theorem readP_cons {i : Nat} {x : Str} {l : List Str} {acc : Sl api_Limit} (h : l ≠ []) : readP i (x :: l) acc = match rdLine x with
    | none => .ret i
    | some z => readP (i + 1) l (acc.app [z]) := by
  cases l with
  | nil => exact absurd rfl h
  | cons y r => rfl
theorem readP_key : ∀ (l : List Str) (i : Nat) (acc a : Sl api_Limit), (∀ x ∈ l, x.length ≤ 900) → (∀ x ∈ acc.list, x.Key.length ≤ 900) → readP i l acc = .out a → (∀ x ∈ a.list, x.Key.length ≤ 900) ∧ a.list.length ≤ acc.list.length + l.length
  | [], i, acc, a, _, hk, h => by simp only [readP, Res.out.injEq] at h; subst h; exact ⟨hk, by simp⟩
  | [x], i, acc, a, _, hk, h => by
    simp only [readP] at h
    split at h
    · simp only [Res.out.injEq] at h; subst h; exact ⟨hk, by simp⟩
    · cases h
  | x :: y :: r, i, acc, a, hl, hk, h => by
    rw [readP_cons (by simp)] at h
    cases hz : rdLine x with
    | none => rw [hz] at h; cases h
    | some z =>
      rw [hz] at h
      obtain ⟨⟨w, _, hw⟩, _⟩ := read_both (hl x (by simp))
      obtain ⟨h1, h2⟩ := readP_key (y :: r) (i + 1) _ a (fun u hu => hl u (by simp at hu ⊢; exact .inr hu)) (fun u hu => by
        rw [slapp_list] at hu
        rcases List.mem_append.1 hu with hu | hu
        · exact hk u hu
        · simp only [List.mem_singleton] at hu; subst hu; exact (hw u hz).2) h
      refine ⟨h1, ?_⟩
      rw [slapp_list] at h2
      simp only [List.length_append, List.length_cons, List.length_nil] at h2 ⊢
      omega
/-- The reference's loop. -/
theorem ref_loop : ∀ (n : Nat) (text : Str) (cap : Ar api_Limit) (i : Nat), text.length = n → n ≤ 900 → cap.list.length + n ≤ 10000 → i + n ≤ 10000 →
    ∃ b, loopV gateref1_Lines__gateref1_LimitsRead_1_l0 (cap, text, (i : Int)) = some b ∧ ((∃ cap', b = Res.out cap' ∧ readP i (splitOn 10 text) cap.sl = .out cap'.sl) ∨ ∃ j cap', b = Res.ret (((j : Nat) : Int), false, cap') ∧ readP i (splitOn 10 text) cap.sl = .ret j) := by
  intro n
  induction n using Nat.strongRecOn with
  | _ n ih =>
    intro text cap i hn hn2 hc hi
    by_cases ht : text = []
    · subst ht
      exact ⟨Res.out cap, loopV_done (by simp only [gateref1_Lines__gateref1_LimitsRead_1_l0]; rw [if_neg (by simp)]), .inl ⟨cap, rfl, rfl⟩⟩
    · obtain ⟨x, l, hx, hcut⟩ := cut_on 10 (s := text) (by omega)
      have hxl : x.length ≤ 900 := by have := splitOn_mem 10 text x (by rw [hx]; simp); omega
      rcases hcut with ⟨rfl, hcut, rfl⟩ | ⟨rest, hcut, rfl, hr⟩
      · refine ⟨Res.ret ((i : Int), false, cap), loopV_done ?_, .inr ⟨i, cap, rfl, ?_⟩⟩
        · simp only [gateref1_Lines__gateref1_LimitsRead_1_l0]
          rw [if_pos ht, hcut, Option.bind_some, if_pos (by rfl), Option.bind_some]
          simp only
          rw [if_pos trivial]
        · rw [hx]; simp only [readP]; rw [if_neg ht]
      · obtain ⟨cap', h1, h2⟩ := (read_both hxl).2 cap (by omega)
        have hstep : gateref1_Lines__gateref1_LimitsRead_1_l0 (cap, text, (i : Int)) = some (if (rdLine x).isSome = true then Step.next (cap', rest, w64 ((i : Int) + 1)) else Step.done (Res.ret ((i : Int), false, cap'))) := by
          simp only [gateref1_Lines__gateref1_LimitsRead_1_l0]
          rw [if_pos ht, hcut, Option.bind_some, if_neg (by simp), h1, Option.bind_some]
          simp only [Option.bind_some]
          cases (rdLine x).isSome <;> rfl
        rw [hx, readP_cons (splitOn_ne 10 rest)]
        cases hz : rdLine x with
        | none =>
          rw [hz] at hstep
          exact ⟨_, loopV_done hstep, .inr ⟨i, cap', rfl, rfl⟩⟩
        | some z =>
          rw [hz] at hstep
          have e := h2 z hz
          subst e
          rw [loopV_next hstep, w64_id (by omega) (by omega), show ((i : Int) + 1) = ((i + 1 : Nat) : Int) by omega]
          obtain ⟨b, k1, k2⟩ := ih rest.length (by omega) rest (cap.app [z]) (i + 1) rfl (by omega) (by rw [app_list]; simp; omega) (by omega)
          refine ⟨b, k1, ?_⟩
          rw [ar_app_sl] at k2
          exact k2
/-- The program's loop, over lines of which the last is ended. -/
theorem prog_ended (lines : Sl Str) : ∀ (l : List Str) (k : Nat) (acc : Sl api_Limit), (∀ x ∈ l, x.length ≤ 900) → acc.list.length + l.length ≤ 10000 →
    rangeL (limit_Read_l0 lines true) (fun out_5 => Res.out out_5) k l acc = some (match readP k (l ++ [[]]) acc with | .out a => Res.out a | .ret j => Res.ret (Sl.nil, (j : Int), 9))
  | [], k, acc, _, _ => by simp [rangeL, readP]
  | x :: l, k, acc, hl, hc => by
    obtain ⟨⟨y, h1, h2⟩, _⟩ := read_both (hl x (by simp))
    rw [List.cons_append, readP_cons (by simp)]
    simp only [rangeL, limit_Read_l0, h1, Option.bind_some]
    simp only [List.length_cons] at hc
    cases hz : rdLine x with
    | none => simp
    | some z =>
      have := (h2 z hz).1
      subst this
      rw [if_neg (by simp), slapp_ok (by simp; omega) (by omega), Option.bind_some]
      simp only [Option.bind_some]
      exact prog_ended lines l (k + 1) _ (fun u hu => hl u (by simp [hu])) (by rw [slapp_list]; simp; omega)
/-- .. is not ended. -/
theorem prog_open (lines : Sl Str) (hlen : lines.list.length ≤ 10000) : ∀ (l : List Str) (k : Nat) (acc : Sl api_Limit), l ≠ [] → l.getLast? ≠ some [] → k + l.length = lines.list.length → (∀ x ∈ l, x.length ≤ 900) → acc.list.length + l.length ≤ 10000 →
    rangeL (limit_Read_l0 lines false) (fun out_5 => Res.out out_5) k l acc = some (match readP k l acc with | .out a => Res.out a | .ret j => Res.ret (Sl.nil, (j : Int), 9))
  | [], _, _, h, _, _, _, _ => absurd rfl h
  | [x], k, acc, _, hx, hk, hl, hc => by
    obtain ⟨⟨y, h1, h2⟩, _⟩ := read_both (hl x (by simp))
    have hx' : x ≠ [] := by simpa using hx
    simp only [List.length_cons, List.length_nil] at hk
    simp only [rangeL, limit_Read_l0, h1, Option.bind_some, readP, if_neg hx']
    rw [if_pos (by rw [w64_id (by omega) (by omega)]; simp only [Bool.or_eq_true, Bool.and_eq_true, Bool.not_false, beq_iff_eq, true_and]; exact .inr (by omega))]
    rfl
  | x :: y' :: r, k, acc, _, hx, hk, hl, hc => by
    obtain ⟨⟨y, h1, h2⟩, _⟩ := read_both (hl x (by simp))
    rw [readP_cons (by simp)]
    simp only [List.length_cons] at hk hc
    have hne : ((k : Int) == w64 ((lines.list.length : Int) - 1)) = false := by
      rw [w64_id (by omega) (by omega), beq_eq_false_iff_ne]; omega
    rw [rangeL]
    simp only [limit_Read_l0, h1, Option.bind_some, hne]
    cases hz : rdLine x with
    | none => simp
    | some z =>
      have := (h2 z hz).1
      subst this
      rw [if_neg (by simp), slapp_ok (by simp; omega) (by omega), Option.bind_some]
      simp only [Option.bind_some]
      exact prog_open lines hlen (y' :: r) (k + 1) _ (by simp) (by simpa using hx) (by simp only [List.length_cons]; omega) (fun u hu => hl u (by simp at hu ⊢; exact .inr hu)) (by rw [slapp_list]; simp; omega)
theorem lines_of {s : Str} (h : s.length ≤ 900) : ∃ l b, kit_Lines s = some (Sl.full l, b) ∧ (b = true ∧ splitOn 10 s = l ++ [[]] ∨ b = false ∧ splitOn 10 s = l ∧ l ≠ [] ∧ l.getLast? ≠ some []) := by
  have hne := splitOn_ne 10 s
  have hlen := splitOn_len 10 s
  unfold kit_Lines
  rw [split_on 10 (by omega), Option.bind_some, fsl_eq]
  generalize splitOn 10 s = ws at hne hlen
  obtain ⟨pre, last, rfl⟩ : ∃ pre last, ws = pre ++ [last] := by
    rcases List.eq_nil_or_concat ws with h | ⟨m, b, h⟩
    · exact absurd h hne
    · exact ⟨m, b, by simpa using h⟩
  have hw : w64 (((Sl.full (pre ++ [last]) : Sl Str).list.length : Int) - 1) = (pre.length : Int) := by
    simp only [Sl.list, List.length_append, List.length_cons, List.length_nil] at hlen ⊢
    rw [w64_id (by omega) (by omega)]; omega
  rw [hw, get_ok (by simp [Sl.list]), Option.bind_some]
  have hl : (Sl.full (pre ++ [last]) : Sl Str).list[pre.length]'(by simp [Sl.list]) = last := by simp [Sl.list]
  rw [hl]
  by_cases he : last = []
  · rw [if_pos he]
    have hsub : (Sl.full (pre ++ [last]) : Sl Str).sub? 0 (pre.length : Int) = some (Sl.full pre) := by
      unfold Sl.sub?
      simp only
      rw [if_pos ⟨by omega, by omega, by simp only [List.length_append, List.length_cons, List.length_nil]; omega⟩]
      simp
    rw [hsub, Option.bind_some]
    exact ⟨pre, true, rfl, .inl ⟨rfl, by rw [he]⟩⟩
  · rw [if_neg he]
    exact ⟨pre ++ [last], false, rfl, .inr ⟨rfl, rfl, hne, by simpa using he⟩⟩
/-- What reading a text gives. -/
noncomputable def readSpec (text : Str) : Sl api_Limit × Int × Int := match readP 0 (splitOn 10 text) Sl.nil with
  | .ret j => (Sl.nil, (j : Int), 9)
  | .out a => if limsFault a.list = 0 then (a, 0, 0) else (Sl.nil, 0, limsFault a.list)
theorem spec_small {text : Str} (h : text.length ≤ 900) {a : Sl api_Limit} (ha : readP 0 (splitOn 10 text) Sl.nil = .out a) : (∀ x ∈ a.list, x.Key.length < 1000000000000) ∧ a.list.length ≤ 901 := by
  obtain ⟨h1, h2⟩ := readP_key (splitOn 10 text) 0 Sl.nil a (fun x hx => by have := splitOn_mem 10 text x hx; omega) (by simp [Sl.list]) ha
  have := splitOn_len 10 text
  have hz : (Sl.nil : Sl api_Limit).list.length = 0 := rfl
  rw [hz] at h2
  exact ⟨fun x hx => by have := h1 x hx; omega, by omega⟩
theorem read_prog {text : Str} (h : text.length ≤ 900) : limit_Read text = some (readSpec text) := by
  unfold limit_Read
  rw [if_neg (by omega)]
  obtain ⟨l, b, e, hl⟩ := lines_of h
  have hmem := splitOn_mem 10 text
  have hlen := splitOn_len 10 text
  rw [e, Option.bind_some]
  have hloop : rangeS (limit_Read_l0 (Sl.full l) b) (fun out_5 => (Res.out out_5 : Res (Sl api_Limit) (Sl api_Limit × Int × Int))) (Sl.full l) (Sl.nil : Sl api_Limit) = some (match readP 0 (splitOn 10 text) Sl.nil with | .out a => Res.out a | .ret j => Res.ret (Sl.nil, (j : Int), 9)) := by
    rcases hl with ⟨rfl, hs⟩ | ⟨rfl, hs, hne, hlast⟩
    · rw [hs] at hmem hlen ⊢
      simp only [List.length_append, List.length_cons, List.length_nil] at hlen
      rw [rangeS_eq (by simp only [Sl.list]; omega)]
      exact prog_ended _ l 0 Sl.nil (fun x hx => by have := hmem x (by simp [hx]); omega) (by simp only [Sl.list, List.length_nil]; omega)
    · rw [hs] at hmem hlen ⊢
      rw [rangeS_eq (by simp only [Sl.list]; omega)]
      exact prog_open _ (by simp only [Sl.list]; omega) l 0 Sl.nil hne hlast (by simp [Sl.list]) (fun x hx => by have := hmem x hx; omega) (by simp only [Sl.list, List.length_nil]; omega)
  simp only
  rw [hloop, Option.bind_some]
  unfold readSpec
  cases hr : readP 0 (splitOn 10 text) Sl.nil with
  | ret j => rfl
  | out a =>
    obtain ⟨hk, -⟩ := spec_small h hr
    simp only [Res.elim]
    rw [CheckLimits_eq a hk, Option.bind_some]
    by_cases h0 : limsFault a.list = 0
    · rw [if_neg (by simp [h0]), if_pos h0]
    · rw [if_pos h0, if_neg h0]
theorem read_ref {text : Str} (h : text.length ≤ 900) : gateref1_LimitsRead text = some (readSpec text) := by
  unfold gateref1_LimitsRead gateref1_Lines__gateref1_LimitsRead_1
  rw [if_neg (by omega)]
  obtain ⟨b, e, hb⟩ := ref_loop text.length text (Ar.nil : Ar api_Limit) 0 rfl h (by simp only [Ar.list, List.length_nil]; omega) (by omega)
  rw [show ((0 : Nat) : Int) = 0 from rfl] at e
  rw [e, Option.bind_some]
  unfold readSpec
  rw [show (Sl.nil : Sl api_Limit) = (Ar.nil : Ar api_Limit).sl from rfl]
  rcases hb with ⟨cap', rfl, hr⟩ | ⟨j, cap', rfl, hr⟩
  · rw [hr]
    obtain ⟨hk, -⟩ := spec_small h hr
    simp only [Res.elim, Option.bind_some]
    rw [if_neg (by simp), LimitsFault_eq _ hk, Option.bind_some]
    by_cases h0 : limsFault cap'.sl.list = 0
    · rw [if_neg (by simp [h0]), if_pos h0]
    · rw [if_pos h0, if_neg h0]
  · rw [hr]
    simp only [Res.elim, Option.bind_some]
    rw [if_pos (by simp)]
theorem equal_lims (a : Sl api_Limit) (hl : a.list.length ≤ 1000) : slices_Equal_api_Limit_api_Limit a a = some true := by
  unfold slices_Equal_api_Limit_api_Limit
  rw [if_neg (by simp), rangeS_eq (by omega)]
  obtain ⟨v, h1, _⟩ := rangeL_inv (f := slices_Equal_api_Limit_api_Limit_l0 a) (fin := fun () => (Res.out () : Res Unit Bool)) (l := a.list) (v0 := ()) (fun _ _ => True) trivial (by
    intro i v hi _
    simp only [slices_Equal_api_Limit_api_Limit_l0, get_ok hi, Option.bind_some, (eq_api_Limit_iff a.list[i] a.list[i]).2 rfl]
    exact ⟨(), rfl, trivial⟩)
  rw [h1]; rfl
theorem spec_len {text : Str} (h : text.length ≤ 900) : (readSpec text).1.list.length ≤ 1000 := by
  unfold readSpec
  cases hr : readP 0 (splitOn 10 text) Sl.nil with
  | ret j => simp [Sl.list]
  | out a =>
    obtain ⟨-, hk⟩ := spec_small h hr
    simp only
    split
    · simp only; omega
    · simp [Sl.list]
/-! ### the texts that the stream hands out -/
theorem utf8_ok {n : Nat} (h : n < 128) : (utf8 (IntKind.i32.wrap (n : Int))).length ≤ 4 := by
  have e : IntKind.i32.wrap (n : Int) = (n : Int) := by
    unfold IntKind.wrap
    simp only [IntKind.bits, IntKind.signed, Bool.true_and]
    have e : (n : Int) % (2 : Int) ^ 32 = n := Int.emod_eq_of_lt (by omega) (by omega)
    simp [e]; omega
  rw [e]
  have : ∀ m : Fin 128, (utf8 ((m.val : Nat) : Int)).length ≤ 4 := by decide +kernel
  exact this ⟨n, h⟩
theorem changed_ok {s : gatemake_Stream} {k : Int} {t w : Str} (g : Good s k) (hw : w ≠ []) (hw1 : w.length ≤ 100) (hb : ∀ b ∈ w, b.toNat < 128) (ht : t.length ≤ 100000) (hk : k ≤ 100000) : ∃ r s', gatemake_Stream_Changed s t w = some (r, s') ∧ r.length ≤ t.length + w.length + 4 ∧ Good s' (k + 3) := by
  unfold gatemake_Stream_Changed
  by_cases h0 : t = []
  · rw [if_pos (by simp [h0])]
    exact ⟨w, s, rfl, by omega, g.up (by omega)⟩
  · have hwl : 0 < w.length := List.length_pos_iff.2 hw
    have htl : 0 < t.length := List.length_pos_iff.2 h0
    rw [if_neg (by simp [h0, hw])]
    obtain ⟨i, s1, e1, i0, i1, g1⟩ := next_ok (t.length : Int) g (by omega) (by omega) (by omega)
    rw [e1, Option.bind_some]
    simp only
    obtain ⟨j, s2, e2, j0, j1, g2⟩ := next_ok (w.length : Int) g1 (by omega) (by omega) (by omega)
    rw [e2, Option.bind_some]
    simp only
    obtain ⟨i, rfl⟩ : ∃ n : Nat, i = n := ⟨i.toNat, by omega⟩
    obtain ⟨j, rfl⟩ : ∃ n : Nat, j = n := ⟨j.toNat, by omega⟩
    have hj : j < w.length := by omega
    rw [sget_ok hj, Option.bind_some]
    obtain ⟨m, s3, e3, m0, m1, g3⟩ := next_ok 3 g2 (by omega) (by omega) (by omega)
    rw [e3, Option.bind_some]
    simp only
    have hu := utf8_ok (hb _ (List.getElem_mem hj))
    have hi : i < t.length := by omega
    have hi1 : w64 ((i : Int) + 1) = ((i + 1 : Nat) : Int) := by rw [w64_id (by omega) (by omega)]; omega
    have c0 : ssub t 0 (i : Int) = some (t.take i) := by
      have := ssub_ok (s := t) (l := 0) (h := i) (by omega) (by omega)
      simpa using this
    have c1 : ssub t (w64 ((i : Int) + 1)) (t.length : Int) = some (t.drop (i + 1)) := by
      rw [hi1, ssub_ok (by omega) (by omega), List.take_of_length_le (by simp)]
    have c2 : ssub t (i : Int) (t.length : Int) = some (t.drop i) := by
      rw [ssub_ok (by omega) (by omega), List.take_of_length_le (by simp)]
    have lt : (t.take i).length = i := by rw [List.length_take]; omega
    have ld : (t.drop i).length = t.length - i := List.length_drop
    have ld1 : (t.drop (i + 1)).length = t.length - (i + 1) := List.length_drop
    rw [c0, c1, c2]
    simp only [Option.bind_some]
    split
    · rw [sadd_ok (by omega), Option.bind_some, sadd_ok (by rw [List.length_append]; omega), Option.bind_some]
      exact ⟨_, _, rfl, by simp only [List.length_append]; omega, g3.up (by omega)⟩
    · split
      · rw [sadd_ok (by omega), Option.bind_some, sadd_ok (by rw [List.length_append]; omega), Option.bind_some]
        exact ⟨_, _, rfl, by simp only [List.length_append]; omega, g3.up (by omega)⟩
      · rw [sadd_ok (by omega), Option.bind_some]
        exact ⟨_, _, rfl, by simp only [List.length_append]; omega, g3.up (by omega)⟩
theorem small_of {x : Sl api_Limit} (hx : ∀ y ∈ x.list, LimOk y) (h0 : limsFault x.list = 0) : Small x := by
  obtain ⟨h1, h2⟩ := right_of h0
  exact ⟨h1, fun y hy => ⟨h2 y hy, by have := (hx y hy).1; omega⟩⟩
theorem limText_short {x : Sl api_Limit} (hx : ∀ y ∈ x.list, LimOk y) (hl : x.list.length ≤ 4) (h0 : limsFault x.list = 0) : (limText x.list).length ≤ 568 := by
  have := limText_len x.list (small_of hx h0).2
  omega
theorem string_ok {s : gatemake_Stream} {k : Int} (g : Good s k) (hk : k ≤ 5000) : ∃ r s', gatemake_Stream_LimitString s = some (r, s') ∧ r.length ≤ 900 := by
  unfold gatemake_Stream_LimitString
  obtain ⟨x, s1, e1, hx, hxl, g1⟩ := limits_ok g (by omega)
  rw [e1, Option.bind_some]
  simp only
  have hkey : ∀ y ∈ x.list, y.Key.length < 1000000000000 := fun y hy => by have := (hx y hy).1; omega
  rw [LimitsFault_eq x hkey, Option.bind_some]
  obtain ⟨t, ht, htl⟩ : ∃ t, (if limsFault x.list = 0 then (gateref1_LimitLines x).bind fun t2 => some t2 else some [119, 32, 119, 105, 110, 100, 111, 119, 32, 51, 32, 49, 48, 48, 32, 48, 10]) = some t ∧ t.length ≤ 568 := by
    by_cases h0 : limsFault x.list = 0
    · rw [if_pos h0, limitLines_eq x (small_of hx h0)]
      exact ⟨_, rfl, limText_short hx hxl h0⟩
    · rw [if_neg h0]
      exact ⟨_, rfl, by simp⟩
  rw [ht, Option.bind_some]
  obtain ⟨m, s2, e2, hm, g2⟩ := pick_ok [0, 0, 1, 2] g1 (by simp) (by simp) (by omega)
  rw [e2, Option.bind_some]
  simp only
  have hm2 : 0 ≤ m ∧ m ≤ 2 := by
    simp only [List.mem_cons, List.not_mem_nil, or_false] at hm
    omega
  rw [rangeN_eq (by omega)]
  obtain ⟨⟨s3, t3⟩, e3, h3⟩ := rangeL_inv (f := fun i _ v => gatemake_Stream_LimitString_l0 i v) (fin := fun (s_6, t7) => (s_6, t7)) (l := List.range m.toNat) (v0 := (s2, t)) (fun i v => v.2.length ≤ 568 + 12 * i ∧ Good v.1 (k + 100 + 3 * i)) ⟨by simp only; omega, g2.up (by omega)⟩ (by
    rintro i ⟨s, t⟩ hi ⟨h1, h2⟩
    simp only [List.length_range] at hi
    simp only at h1 h2
    simp only [gatemake_Stream_LimitString_l0]
    obtain ⟨r, s', e, hr, g'⟩ := changed_ok (w := [32, 10, 48, 49, 57, 119, 97, 45]) (t := t) h2 (by simp) (by simp) (by decide) (by omega) (by omega)
    rw [e, Option.bind_some]
    simp only [List.length_cons, List.length_nil] at hr
    exact ⟨(s', r), rfl, by simp only; omega, g'.up (by omega)⟩)
  rw [e3, Option.bind_some]
  simp only at h3 ⊢
  refine ⟨t3, s3, rfl, ?_⟩
  have := h3.1
  simp only [List.length_range] at this
  omega
/-- The law. -/
theorem limitTexts_true (l : Sl Int) (h0 : l.list.length ≤ 9223372036854775807) (h1 : ∀ n ∈ l.list, -9223372036854775808 ≤ n ∧ n ≤ 9223372036854775807) : gatelaw1_LimitTexts l = some true := by
  unfold gatelaw1_LimitTexts
  obtain ⟨x, s1, e1, hx, hxl, g1⟩ := limits_ok (s := ⟨l, 0⟩) (k := 0) ⟨by simp, by simp, h0, h1⟩ (by omega)
  rw [e1, Option.bind_some]
  simp only
  have hk : ∀ y ∈ x.list, y.Key.length < 1000000000000 := fun y hy => by have := (hx y hy).1; omega
  rw [text_eq x hk (small_of hx), Option.bind_some, LimitsFault_eq x hk]
  obtain ⟨text, s2, e2, hl⟩ := string_ok g1 (by omega)
  have he := equal_lims _ (spec_len hl)
  have hfin : ((gatemake_Stream_LimitString s1).bind fun (text, t171) =>
      (limit_Read text).bind fun (a, i, f) =>
      (gateref1_LimitsRead text).bind fun (b, k1, g) =>
      ((
        if ((f == g) && (i == k1)) = true then
          (slices_Equal_api_Limit_api_Limit a b).bind fun r731 =>
          some r731
        else
          some false : Option (Bool))).bind fun t74 =>
      ((
        if t74 = true then
          some true
        else
          some false : Option (Bool))).bind fun t77 =>
      some t77) = some true := by
    rw [e2, Option.bind_some]
    simp only
    rw [read_prog hl, read_ref hl]
    simp only [Option.bind_some]
    rw [if_pos (by simp), he]
    rfl
  by_cases hf : limsFault x.list = 0
  · rw [if_pos hf]
    simp only [Option.bind_some]
    rw [if_neg (by simp [hf]), if_pos hf, limitLines_eq x (small_of hx hf), Option.bind_some]
    simp only [Option.bind_some]
    rw [if_neg (by simp [hf])]
    exact hfin
  · rw [if_neg hf]
    simp only [Option.bind_some]
    rw [if_neg (by simp), if_neg hf]
    simp only [Option.bind_some]
    rw [if_neg (by simp)]
    exact hfin
end Go.GW
