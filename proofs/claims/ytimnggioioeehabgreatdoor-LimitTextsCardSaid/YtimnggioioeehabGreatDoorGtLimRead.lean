/- Limits read: both texts read the same. -/
import Derived.Test.YtimnggioioeehabGreatDoorGtLimText
import Derived.Test.YtimnggioioeehabGreatDoorGtNumbers
import Derived.Test.YtimnggioioeehabGreatDoorGtSplits
namespace Go.GW
open Go.AE

theorem splitOn_mem (c : UInt8) : ∀ (s x : Str), x ∈ splitOn c s → x.length ≤ s.length
  | [], x, h => by simp [splitOn] at h; subst h; simp
  | b :: r, x, h => by
    have ih := splitOn_mem c r
    simp only [splitOn] at h
    split at h
    · rcases List.mem_cons.1 h with rfl | h
      · simp
      · have := ih x h; simp only [List.length_cons]; omega
    · split at h
      · rename_i y l e
        rcases List.mem_cons.1 h with rfl | h
        · have := ih y (by rw [e]; simp); simp only [List.length_cons]; omega
        · have := ih x (by rw [e]; simp [h]); simp only [List.length_cons]; omega
      · simp only [List.mem_singleton] at h; subst h; simp
theorem splitOn_len (c : UInt8) : ∀ s : Str, (splitOn c s).length ≤ s.length + 1
  | [] => by simp [splitOn]
  | b :: r => by
    have ih := splitOn_len c r
    simp only [splitOn]
    split
    · simp only [List.length_cons]; omega
    · split
      · rename_i y l e; rw [e] at ih; simp only [List.length_cons] at ih ⊢; omega
      · simp
/-- The first place of a string. -/
def idxI (v : Str) : Nat → List Str → Int
  | _, [] => -1
  | i, x :: l => if v = x then (i : Int) else idxI v (i + 1) l
theorem idxI_find (v : Str) : ∀ (l : List Str) (i : Nat), Res.elim (fun () => some (-1)) some ((firstSome (fun i x => if v = x then some (Res.ret (i : Int) : Res Unit Int) else none) i l).getD (Res.out ())) = some (idxI v i l)
  | [], i => rfl
  | x :: l, i => by
    simp only [firstSome, idxI]
    by_cases hv : v = x
    · rw [if_pos hv, if_pos hv]; rfl
    · rw [if_neg hv, if_neg hv]; exact idxI_find v l (i + 1)
theorem index_eq (s : Sl Str) (v : Str) (h : s.list.length < 2 ^ 62) : slices_Index_string_string s v = some (idxI v 0 s.list) := by
  unfold slices_Index_string_string
  rw [rangeS_eq h, rangeL_find (k := 0) (fun i x => if v = x then some (Res.ret (i : Int)) else none) (by
    intro i hi
    simp only [slices_Index_string_string_l0]
    by_cases hv : v = s.list[i] <;> simp [hv])]
  rw [Option.bind_some]
  exact idxI_find v s.list 0
theorem idxI_range (v : Str) : ∀ (l : List Str) (i : Nat), idxI v i l = -1 ∧ v ∉ l ∨ (i : Int) ≤ idxI v i l ∧ v ∈ l
  | [], i => by simp [idxI]
  | x :: l, i => by
    simp only [idxI]
    by_cases hv : v = x
    · rw [if_pos hv]; exact .inr ⟨by omega, by simp [hv]⟩
    · rw [if_neg hv]
      rcases idxI_range v l (i + 1) with ⟨h1, h2⟩ | ⟨h1, h2⟩
      · exact .inl ⟨h1, by simp [hv, h2]⟩
      · exact .inr ⟨by omega, by simp [h2]⟩
theorem idxI_pos {v x : Str} (l : List Str) (i : Nat) (h : v = x) : idxI v i (x :: l) = i := by rw [idxI, if_pos h]
theorem idxI_neg {v x : Str} (l : List Str) (i : Nat) (h : ¬ v = x) : idxI v i (x :: l) = idxI v (i + 1) l := by rw [idxI, if_neg h]
theorem idxI_up (v : Str) : ∀ (l : List Str) (i : Nat), idxI v (i + 1) l = if idxI v i l < 0 then -1 else idxI v i l + 1
  | [], i => by simp [idxI]
  | x :: l, i => by
    by_cases hv : v = x
    · rw [idxI_pos l (i + 1) hv, idxI_pos l i hv, if_neg (by omega)]; omega
    · rw [idxI_neg l (i + 1) hv, idxI_neg l i hv]; exact idxI_up v l (i + 1)
theorem idxI_lt (v : Str) : ∀ (l : List Str) (i : Nat), idxI v i l < (i + l.length : Nat)
  | [], i => by simp only [idxI]; omega
  | x :: l, i => by
    simp only [idxI, List.length_cons]
    have := idxI_lt v l (i + 1)
    split <;> omega
theorem contains_eq (s : Sl Str) (v : Str) (h : s.list.length < 2 ^ 62) : slices_Contains_string_string s v = some (decide (v ∈ s.list)) := by
  unfold slices_Contains_string_string
  rw [index_eq s v h, Option.bind_some]
  rcases idxI_range v s.list 0 with ⟨h1, h2⟩ | ⟨h1, h2⟩
  · rw [h1]; simp [h2]
  · rw [decide_eq_true (by omega), decide_eq_true h2]
theorem words_eq {s : Str} (h : s.length ≤ 100000) : kit_Words s = some (.full (splitOn 32 s), !decide ([] ∈ splitOn 32 s)) := by
  unfold kit_Words
  have := splitOn_len 32 s
  rw [split_on 32 (by omega), Option.bind_some, fsl_eq, contains_eq _ _ (by simp only [Sl.list]; omega)]
  rfl
theorem number_nil (most : Int) : kit_Number [] most = some (0, false) := by
  unfold kit_Number
  rw [trim_ok, Option.bind_some]
  rfl
abbrev kinds4 : List Str := [[119, 105, 110, 100, 111, 119], [115, 108, 105, 100, 105, 110, 103], [98, 117, 99, 107, 101, 116], [111, 110, 99, 101]]
theorem three_loop (cap : Ar api_Limit) {a b c d e : Str} {qc qd qe : Int} {gc gd ge : Bool} (rc : gateref2_Number c 10 = some (qc, gc)) (rd : gateref2_Number d 10 = some (qd, gd)) (re : gateref2_Number e 10 = some (qe, ge)) :
    rangeN (gateref1_LimitsRead_1_l0 cap (Sl.full [a, b, c, d, e])) (fun n3 => Res.out n3) 3 [0, 0, 0] = some (if gc = true ∧ gd = true ∧ ge = true then Res.out [qc, qd, qe] else Res.ret (false, cap)) := by
  have e0 : gateref1_LimitsRead_1_l0 cap (Sl.full [a, b, c, d, e]) ((0 : Nat) : Int) [0, 0, 0] = some (if gc = true then Step.next [qc, 0, 0] else Step.done (Res.ret (false, cap))) := by
    simp only [gateref1_LimitsRead_1_l0]
    rw [show (Sl.full [a, b, c, d, e] : Sl Str).get? (w64 (((0 : Nat) : Int) + 2)) = some c from rfl, Option.bind_some, rc, Option.bind_some]
    show ((inr? 3 ((0 : Nat) : Int)).bind _) = _
    rw [show inr? 3 ((0 : Nat) : Int) = some 0 from rfl, Option.bind_some, show ary? [0, 0, 0] 0 qc = some [qc, 0, 0] from rfl, Option.bind_some]
    cases gc <;> rfl
  have e1 : gateref1_LimitsRead_1_l0 cap (Sl.full [a, b, c, d, e]) ((1 : Nat) : Int) [qc, 0, 0] = some (if gd = true then Step.next [qc, qd, 0] else Step.done (Res.ret (false, cap))) := by
    simp only [gateref1_LimitsRead_1_l0]
    rw [show (Sl.full [a, b, c, d, e] : Sl Str).get? (w64 (((1 : Nat) : Int) + 2)) = some d from rfl, Option.bind_some, rd, Option.bind_some]
    show ((inr? 3 ((1 : Nat) : Int)).bind _) = _
    rw [show inr? 3 ((1 : Nat) : Int) = some 1 from rfl, Option.bind_some, show ary? [qc, 0, 0] 1 qd = some [qc, qd, 0] from rfl, Option.bind_some]
    cases gd <;> rfl
  have e2 : gateref1_LimitsRead_1_l0 cap (Sl.full [a, b, c, d, e]) ((2 : Nat) : Int) [qc, qd, 0] = some (if ge = true then Step.next [qc, qd, qe] else Step.done (Res.ret (false, cap))) := by
    simp only [gateref1_LimitsRead_1_l0]
    rw [show (Sl.full [a, b, c, d, e] : Sl Str).get? (w64 (((2 : Nat) : Int) + 2)) = some e from rfl, Option.bind_some, re, Option.bind_some]
    show ((inr? 3 ((2 : Nat) : Int)).bind _) = _
    rw [show inr? 3 ((2 : Nat) : Int) = some 2 from rfl, Option.bind_some, show ary? [qc, qd, 0] 2 qe = some [qc, qd, qe] from rfl, Option.bind_some]
    cases ge <;> rfl
  rw [rangeN_eq (by omega), show List.range (3 : Int).toNat = [0, 1, 2] from rfl]
  simp only [rangeL]
  rw [e0]
  cases gc with
  | false => simp
  | true =>
    simp only [if_true, Option.bind_some]
    rw [e1]
    cases gd with
    | false => simp
    | true =>
      simp only [if_true, Option.bind_some]
      rw [e2]
      cases ge <;> simp
/-- A line read. -/
noncomputable def rdLine (line : Str) : Option api_Limit := match limit_readLimit line with
  | some (y, true) => some y
  | _ => none
theorem read_both {line : Str} (h : line.length ≤ 900) : (∃ y, limit_readLimit line = some (y, (rdLine line).isSome) ∧ ∀ x, rdLine line = some x → x = y ∧ x.Key.length ≤ 900) ∧
    ∀ cap : Ar api_Limit, cap.list.length ≤ 100000 → ∃ cap', gateref1_LimitsRead_1 line cap = some ((rdLine line).isSome, cap') ∧ ∀ x, rdLine line = some x → cap' = cap.app [x] := by
  have hs := split_on 32 (s := line) (by omega)
  have hw := words_eq (s := line) (by omega)
  have hm := splitOn_mem 32 line
  have hn := splitOn_len 32 line
  rw [fsl_eq] at hs
  generalize splitOn 32 line = ws at hs hw hm hn
  -- what the program answers
  suffices H : ∃ y b, limit_readLimit line = some (y, b) ∧ (b = true → y.Key.length ≤ 900) ∧ ∀ cap : Ar api_Limit, cap.list.length ≤ 100000 → ∃ cap', gateref1_LimitsRead_1 line cap = some (b, cap') ∧ (b = true → cap' = cap.app [y]) by
    obtain ⟨y, b, h1, h2, h3⟩ := H
    have hr : rdLine line = if b = true then some y else none := by
      unfold rdLine; rw [h1]; cases b <;> rfl
    have hb : (rdLine line).isSome = b := by rw [hr]; cases b <;> rfl
    rw [hb]
    refine ⟨⟨y, h1, fun x hx => ?_⟩, fun cap hc => ?_⟩
    · rw [hr] at hx
      cases b with
      | false => simp at hx
      | true => simp only [if_true, Option.some.injEq] at hx; subst hx; exact ⟨rfl, h2 rfl⟩
    · obtain ⟨cap', k1, k2⟩ := h3 cap hc
      refine ⟨cap', k1, fun x hx => ?_⟩
      rw [hr] at hx
      cases b with
      | false => simp at hx
      | true => simp only [if_true, Option.some.injEq] at hx; subst hx; exact k2 rfl
  by_cases h5 : ws.length = 5
  · obtain ⟨a, b, c, d, e, rfl⟩ : ∃ a b c d e, ws = [a, b, c, d, e] := by
      match ws, h5 with
      | [a, b, c, d, e], _ => exact ⟨a, b, c, d, e, rfl⟩
    have la := hm a (by simp)
    have lb := hm b (by simp)
    have lc := hm c (by simp)
    have ld := hm d (by simp)
    have le := hm e (by simp)
    obtain ⟨zc, gc, qc, kc, rc, ec⟩ := numbers_ok (s := c) (most := 10) (by omega) (by omega)
    obtain ⟨zd, gd, qd, kd, rd, ed⟩ := numbers_ok (s := d) (most := 10) (by omega) (by omega)
    obtain ⟨ze, ge, qe, ke, re, ee⟩ := numbers_ok (s := e) (most := 10) (by omega) (by omega)
    have nc : c = [] → gc = false := by rintro rfl; rw [number_nil] at kc; simp only [Option.some.injEq, Prod.mk.injEq] at kc; exact kc.2.symm
    have nd : d = [] → gd = false := by rintro rfl; rw [number_nil] at kd; simp only [Option.some.injEq, Prod.mk.injEq] at kd; exact kd.2.symm
    have ne : e = [] → ge = false := by rintro rfl; rw [number_nil] at ke; simp only [Option.some.injEq, Prod.mk.injEq] at ke; exact ke.2.symm
    have prog : limit_readLimit line = some (if [] ∈ [a, b, c, d, e] then (api_Limit.mk [] 0 0 0 0, false) else (api_Limit.mk a (idxI b 0 ([] :: kinds4)) (if gc = true then zc else 0) (if gd = true then zd else 0) (if ge = true then ze else 0), ((decide (idxI b 0 ([] :: kinds4) > 0) && gc) && gd) && ge)) := by
      unfold limit_readLimit
      rw [hw, Option.bind_some]
      by_cases hE : [] ∈ [a, b, c, d, e]
      · rw [if_pos hE]
        simp only [hE, decide_true]
        rfl
      · rw [if_neg hE]
        simp only [hE, decide_false, limit_kindWords]
        rw [if_neg (by simp [Sl.list]), Option.bind_some, show (Sl.full [a, b, c, d, e] : Sl Str).get? 1 = some b from rfl, Option.bind_some, index_eq _ _ (by simp [Sl.list]), Option.bind_some, show (Sl.full [a, b, c, d, e] : Sl Str).get? 2 = some c from rfl, Option.bind_some, kc, Option.bind_some]
        simp only
        rw [show (Sl.full [a, b, c, d, e] : Sl Str).get? 3 = some d from rfl, Option.bind_some, kd, Option.bind_some]
        simp only
        rw [show (Sl.full [a, b, c, d, e] : Sl Str).get? 4 = some e from rfl, Option.bind_some, ke, Option.bind_some]
        simp only
        rw [show (Sl.full [a, b, c, d, e] : Sl Str).get? 0 = some a from rfl, Option.bind_some]
        rfl
    have refe : ∀ cap : Ar api_Limit, cap.list.length ≤ 100000 → gateref1_LimitsRead_1 line cap = some (if a = [] then (false, cap) else if gc = true ∧ gd = true ∧ ge = true then (decide (idxI b 0 kinds4 ≥ 0), cap.app [api_Limit.mk a (w64 (idxI b 0 kinds4 + 1)) qc qd qe]) else (false, cap)) := by
      intro cap hc
      unfold gateref1_LimitsRead_1
      rw [hs, Option.bind_some, if_neg (by simp [Sl.list]), show (Sl.full [a, b, c, d, e] : Sl Str).get? 0 = some a from rfl, Option.bind_some, Option.bind_some]
      by_cases ha : a = []
      · rw [if_pos (by simp [ha]), if_pos ha]
      · rw [if_neg (by simp [ha]), if_neg ha, show (Sl.full [a, b, c, d, e] : Sl Str).get? 1 = some b from rfl, Option.bind_some, index_eq _ _ (by simp [Sl.list]), Option.bind_some, three_loop cap rc rd re, Option.bind_some]
        by_cases hg : gc = true ∧ gd = true ∧ ge = true
        · rw [if_pos hg, if_pos hg]
          simp only [Res.elim]
          rw [Option.bind_some, show inr? 3 0 = some 0 from rfl, Option.bind_some, show ([qc, qd, qe] : List Int)[0]? = some qc from rfl, Option.bind_some, show inr? 3 1 = some 1 from rfl, Option.bind_some, show ([qc, qd, qe] : List Int)[1]? = some qd from rfl, Option.bind_some, show inr? 3 2 = some 2 from rfl, Option.bind_some, show ([qc, qd, qe] : List Int)[2]? = some qe from rfl, Option.bind_some, app_ok (by simp; omega) (by omega), Option.bind_some]
          rfl
        · rw [if_neg hg, if_neg hg]
          rfl
    have hk5 : idxI b 0 ([] :: kinds4) = if b = [] then 0 else if idxI b 0 kinds4 < 0 then -1 else idxI b 0 kinds4 + 1 := by
      by_cases hb : b = []
      · rw [idxI_pos _ _ hb, if_pos hb]; rfl
      · rw [idxI_neg _ _ hb, if_neg hb]; exact idxI_up b kinds4 0
    have hk4 := idxI_lt b kinds4 0
    have hk4' := idxI_range b kinds4 0
    by_cases hP : a ≠ [] ∧ (gc = true ∧ gd = true ∧ ge = true) ∧ 0 ≤ idxI b 0 kinds4
    · obtain ⟨ha, hg, hk⟩ := hP
      have hb : b ≠ [] := by
        rintro rfl
        rcases hk4' with ⟨h1, _⟩ | ⟨_, h2⟩
        · omega
        · revert h2; decide
      have hE : [] ∉ [a, b, c, d, e] := by
        intro hE
        simp only [List.mem_cons, List.not_mem_nil, or_false] at hE
        rcases hE with h | h | h | h | h
        · exact ha h.symm
        · exact hb h.symm
        · have := nc h.symm; rw [hg.1] at this; cases this
        · have := nd h.symm; rw [hg.2.1] at this; cases this
        · have := ne h.symm; rw [hg.2.2] at this; cases this
      rw [if_neg hb, if_neg (by omega)] at hk5
      rw [if_neg hE, hk5, decide_eq_true (by omega), hg.1, hg.2.1, hg.2.2] at prog
      refine ⟨_, true, prog, fun _ => by simp only; omega, fun cap hc => ⟨cap.app [api_Limit.mk a (w64 (idxI b 0 kinds4 + 1)) qc qd qe], ?_, fun _ => ?_⟩⟩
      · rw [refe cap hc, if_neg ha, if_pos hg, decide_eq_true (by omega)]
      · have h4 : kinds4.length = 4 := rfl
        rw [h4] at hk4
        rw [w64_id (by omega) (by omega), (ec hg.1).1, (ed hg.2.1).1, (ee hg.2.2).1]
        rfl
    · have hpf : ∃ y, limit_readLimit line = some (y, false) := by
        rw [prog]
        by_cases hE : [] ∈ [a, b, c, d, e]
        · exact ⟨_, by rw [if_pos hE]⟩
        · rw [if_neg hE]
          refine ⟨_, congrArg some (Prod.ext rfl ?_)⟩
          simp only
          rw [Bool.eq_false_iff]
          intro ht
          simp only [Bool.and_eq_true, decide_eq_true_eq] at ht
          simp only [List.mem_cons, List.not_mem_nil, or_false, not_or] at hE
          refine hP ⟨fun h => hE.1 h.symm, ⟨ht.1.1.2, ht.1.2, ht.2⟩, ?_⟩
          have h1 := ht.1.1.1
          rw [hk5, if_neg (fun h => hE.2.1 h.symm)] at h1
          split at h1 <;> omega
      obtain ⟨y, hy⟩ := hpf
      refine ⟨y, false, hy, nofun, fun cap hc => ?_⟩
      rw [refe cap hc]
      by_cases ha : a = []
      · exact ⟨_, by rw [if_pos ha], nofun⟩
      · rw [if_neg ha]
        by_cases hg : gc = true ∧ gd = true ∧ ge = true
        · rw [if_pos hg]
          exact ⟨_, congrArg some (Prod.ext (decide_eq_false (fun hk => hP ⟨ha, hg, hk⟩)) rfl), nofun⟩
        · rw [if_neg hg]; exact ⟨_, rfl, nofun⟩
  · refine ⟨api_Limit.mk [] 0 0 0 0, false, ?_, nofun, fun cap hc => ⟨cap, ?_, nofun⟩⟩
    · unfold limit_readLimit
      rw [hw, Option.bind_some]
      simp only
      rw [if_pos (by simp only [Sl.list, Bool.or_eq_true, bne_iff_ne, ne_eq]; exact .inr (by omega))]
    · unfold gateref1_LimitsRead_1
      rw [hs, Option.bind_some, if_pos (by simp only [Sl.list]; omega), Option.bind_some, if_pos rfl]
end Go.GW
