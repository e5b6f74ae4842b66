/- Records read: both texts read the same. -/
import Derived.Test.YtimnggioioeehaaGreatDoorGrRecBase
import Derived.Test.YtimnggioioeehaaGreatDoorGrNumbers
namespace Go.GW
open Go.AE

theorem contains_eq (s : Sl Str) (v : Str) (h : s.list.length < 2 ^ 62) : slices_Contains_string_string__r0 s v = some (decide (v ∈ s.list)) := by
  unfold slices_Contains_string_string__r0 slices_Index_string_string__r0
  rw [rangeN_eq (by omega)]
  obtain ⟨b, e, hb⟩ := rangeL_inv2 (f := fun i _ u => slices_Index_string_string__r0_l0 s v i u) (fin := fun () => (Res.out () : Res Unit Int)) (l := List.range (s.list.length : Int).toNat) (v0 := ())
    (fun i _ => ∀ (j : Nat) x, j < i → s.list[j]? = some x → v ≠ x) (fun b => (∃ n : Nat, b = Res.ret (n : Int)) ∧ v ∈ s.list) (fun j x hj => by omega) (by
    intro i u hi hv
    have hn : i < s.list.length := by simpa using hi
    simp only [slices_Index_string_string__r0_l0]
    rw [get_ok hn, Option.bind_some]
    by_cases hx : v = s.list[i]
    · exact .inr ⟨_, by rw [if_pos hx], ⟨i, rfl⟩, by rw [hx]; exact List.getElem_mem hn⟩
    · refine .inl ⟨(), by rw [if_neg hx], fun j x hj he => ?_⟩
      by_cases hji : j = i
      · subst hji
        rw [List.getElem?_eq_getElem hn] at he
        cases he
        exact hx
      · exact hv j x (by omega) he)
  rw [e]
  simp only [Option.bind_some]
  rcases hb with ⟨u, rfl, hv⟩ | ⟨⟨n, rfl⟩, hv⟩
  · simp only [Res.elim, Option.bind_some]
    have hnm : v ∉ s.list := by
      intro hm
      obtain ⟨j, hj, he⟩ := List.getElem_of_mem hm
      exact hv j _ (by simpa using hj) (List.getElem?_eq_getElem hj) he.symm
    simp [hnm]
  · simp only [Res.elim, Option.bind_some]
    rw [decide_eq_true (by omega), decide_eq_true hv]
theorem words_eq {s : Str} (h : s.length ≤ 100000) : kit_Words s = some (.full (splitOn 32 s), !decide ([] ∈ splitOn 32 s)) := by
  unfold kit_Words
  have := splitOn_len 32 s
  rw [split_on 32 (by omega), Option.bind_some, fsl_eq, contains_eq _ _ (by simp only [Sl.list]; omega)]
  rfl
/-- A word, where "-" is for none. -/
def undash (s : Str) : Str := if s = [45] then [] else s
theorem rd_step {l l' : List Str} {i : Nat} {x : Str} (h1 : 1 ≤ i) (h4 : i ≤ 4) (hx : l[i]? = some x) (h' : l.set i (undash x) = l') : gate_readRecord_l0 (.full l, (i : Int)) = some (Step.next (.full l', ((i + 1 : Nat) : Int))) := by
  obtain ⟨hi, hx'⟩ := List.getElem?_eq_some_iff.1 hx
  have hg : (Sl.full l).get? (i : Int) = some x := by rw [get_ok (s := Sl.full l) hi]; exact congrArg some hx'
  have hw : w64 ((i : Int) + 1) = ((i + 1 : Nat) : Int) := by rw [w64_id (by omega) (by omega)]; omega
  simp only [gate_readRecord_l0]
  rw [if_pos (by omega), hg, Option.bind_some, hw]
  unfold undash at h'
  by_cases hd : x = [45]
  · rw [if_pos hd] at h'
    rw [if_pos hd, Option.bind_some]
    have hs : (Sl.full l).set? (i : Int) [] = some (.full l') := by
      unfold Sl.set?
      rw [if_pos ⟨by omega, by simp only [Sl.list]; omega⟩]
      simp only [Sl.list, Int.toNat_natCast]
      rw [h']
    rw [hs]
    rfl
  · rw [if_neg hd] at h'
    rw [if_neg hd]
    have : l' = l := by rw [← h', ← hx']; simp
    rw [this]
theorem rd_loop (a b c d e f g : Str) : loopV gate_readRecord_l0 (.full [a, b, c, d, e, f, g], 1) = some (.full [a, undash b, undash c, undash d, undash e, f, g]) := by
  have s1 := rd_step (l := [a, b, c, d, e, f, g]) (i := 1) (by omega) (by omega) rfl rfl
  have s2 := rd_step (l := [a, undash b, c, d, e, f, g]) (i := 2) (by omega) (by omega) rfl rfl
  have s3 := rd_step (l := [a, undash b, undash c, d, e, f, g]) (i := 3) (by omega) (by omega) rfl rfl
  have s4 := rd_step (l := [a, undash b, undash c, undash d, e, f, g]) (i := 4) (by omega) (by omega) rfl rfl
  rw [show (1 : Int) = ((1 : Nat) : Int) from rfl, loopV_next s1]
  refine (loopV_next s2).trans ?_
  refine (loopV_next s3).trans ?_
  refine (loopV_next s4).trans ?_
  refine loopV_done ?_
  simp only [gate_readRecord_l0]
  rw [if_neg (by omega)]
  rfl
theorem un_step {l l' : List Str} {i : Nat} {x : Str} (hx : l[i]? = some x) (h' : l.set i (undash x) = l') : gateref1_RecordsRead_1_l1 (i : Int) (.full l) = some (Step.next (.full l')) := by
  obtain ⟨hi, hx'⟩ := List.getElem?_eq_some_iff.1 hx
  have hg : (Sl.full l).get? (i : Int) = some x := by rw [get_ok (s := Sl.full l) hi]; exact congrArg some hx'
  simp only [gateref1_RecordsRead_1_l1]
  rw [hg, Option.bind_some]
  unfold undash at h'
  by_cases hd : x = [45]
  · rw [if_pos hd] at h'
    rw [if_pos hd, Option.bind_some]
    have hs : (Sl.full l).set? (i : Int) [] = some (.full l') := by
      unfold Sl.set?
      rw [if_pos ⟨by omega, by simp only [Sl.list]; omega⟩]
      simp only [Sl.list, Int.toNat_natCast]
      rw [h']
    rw [hs]
    rfl
  · rw [if_neg hd] at h'
    rw [if_neg hd]
    have : l' = l := by rw [← h', ← hx']; simp
    rw [this]
theorem un_loop (a b c d e f g : Str) : rangeN gateref1_RecordsRead_1_l1 (fun w4 => w4) (((Sl.full [a, b, c, d, e, f, g] : Sl Str).list.length : Nat) : Int) (Sl.full [a, b, c, d, e, f, g]) = some (.full [undash a, undash b, undash c, undash d, undash e, undash f, undash g]) := by
  have s0 := un_step (l := [a, b, c, d, e, f, g]) (i := 0) rfl rfl
  have s1 := un_step (l := [undash a, b, c, d, e, f, g]) (i := 1) rfl rfl
  have s2 := un_step (l := [undash a, undash b, c, d, e, f, g]) (i := 2) rfl rfl
  have s3 := un_step (l := [undash a, undash b, undash c, d, e, f, g]) (i := 3) rfl rfl
  have s4 := un_step (l := [undash a, undash b, undash c, undash d, e, f, g]) (i := 4) rfl rfl
  have s5 := un_step (l := [undash a, undash b, undash c, undash d, undash e, f, g]) (i := 5) rfl rfl
  have s6 := un_step (l := [undash a, undash b, undash c, undash d, undash e, undash f, g]) (i := 6) rfl rfl
  simp only [List.set_cons_zero, List.set_cons_succ] at s0 s1 s2 s3 s4 s5 s6
  rw [rangeN_eq (by simp [Sl.list]), show List.range (((Sl.full [a, b, c, d, e, f, g] : Sl Str).list.length : Nat) : Int).toNat = [0, 1, 2, 3, 4, 5, 6] from rfl]
  simp only [rangeL]
  rw [s0]
  simp only [Option.bind_some]
  rw [s1]
  simp only [Option.bind_some]
  rw [s2]
  simp only [Option.bind_some]
  rw [s3]
  simp only [Option.bind_some]
  rw [s4]
  simp only [Option.bind_some]
  rw [s5]
  simp only [Option.bind_some]
  rw [s6]
  rfl
theorem num_loop (cap : Ar api_Record) {a b c d e f g : Str} {qa qf qg : Int} {ga gf gg : Bool} (ra : gateref2_Number a 15 = some (qa, ga)) (rf : gateref2_Number f 15 = some (qf, gf)) (rg : gateref2_Number g 15 = some (qg, gg)) :
    rangeS (gateref1_RecordsRead_1_l0 cap (Sl.full [a, b, c, d, e, f, g])) (fun n3 => Res.out n3) (Sl.full [0, 5, 6] : Sl Int) [0, 0, 0] = some (if ga = true ∧ gf = true ∧ gg = true then Res.out [qa, qf, qg] else Res.ret (false, cap)) := by
  have e0 : gateref1_RecordsRead_1_l0 cap (Sl.full [a, b, c, d, e, f, g]) ((0 : Nat) : Int) 0 [0, 0, 0] = some (if ga = true then Step.next [qa, 0, 0] else Step.done (Res.ret (false, cap))) := by
    simp only [gateref1_RecordsRead_1_l0]
    rw [show (Sl.full [a, b, c, d, e, f, g] : Sl Str).get? 0 = some a from rfl, Option.bind_some, ra, Option.bind_some]
    show ((inr? 3 ((0 : Nat) : Int)).bind _) = _
    rw [show inr? 3 ((0 : Nat) : Int) = some 0 from rfl, Option.bind_some, show ary? [0, 0, 0] 0 qa = some [qa, 0, 0] from rfl, Option.bind_some]
    cases ga <;> rfl
  have e1 : gateref1_RecordsRead_1_l0 cap (Sl.full [a, b, c, d, e, f, g]) ((1 : Nat) : Int) 5 [qa, 0, 0] = some (if gf = true then Step.next [qa, qf, 0] else Step.done (Res.ret (false, cap))) := by
    simp only [gateref1_RecordsRead_1_l0]
    rw [show (Sl.full [a, b, c, d, e, f, g] : Sl Str).get? 5 = some f from rfl, Option.bind_some, rf, Option.bind_some]
    show ((inr? 3 ((1 : Nat) : Int)).bind _) = _
    rw [show inr? 3 ((1 : Nat) : Int) = some 1 from rfl, Option.bind_some, show ary? [qa, 0, 0] 1 qf = some [qa, qf, 0] from rfl, Option.bind_some]
    cases gf <;> rfl
  have e2 : gateref1_RecordsRead_1_l0 cap (Sl.full [a, b, c, d, e, f, g]) ((2 : Nat) : Int) 6 [qa, qf, 0] = some (if gg = true then Step.next [qa, qf, qg] else Step.done (Res.ret (false, cap))) := by
    simp only [gateref1_RecordsRead_1_l0]
    rw [show (Sl.full [a, b, c, d, e, f, g] : Sl Str).get? 6 = some g from rfl, Option.bind_some, rg, Option.bind_some]
    show ((inr? 3 ((2 : Nat) : Int)).bind _) = _
    rw [show inr? 3 ((2 : Nat) : Int) = some 2 from rfl, Option.bind_some, show ary? [qa, qf, 0] 2 qg = some [qa, qf, qg] from rfl, Option.bind_some]
    cases gg <;> rfl
  rw [rangeS_eq (by simp [Sl.list])]
  simp only [Sl.list, rangeL]
  rw [e0]
  cases ga with
  | false => simp
  | true =>
    simp only [if_true, Option.bind_some]
    rw [e1]
    cases gf with
    | false => simp
    | true =>
      simp only [if_true, Option.bind_some]
      rw [e2]
      cases gg <;> simp
/-- A line read. -/
noncomputable def rdLine (line : Str) : Option api_Record := match gate_readRecord line with
  | some (y, true) => some y
  | _ => none
theorem read_both {line : Str} (h : line.length ≤ 900) : (∃ y, gate_readRecord line = some (y, (rdLine line).isSome) ∧ ∀ x, rdLine line = some x → x = y ∧ Short x) ∧
    ∀ cap : Ar api_Record, cap.list.length ≤ 1000000 → ∃ cap', gateref1_RecordsRead_1 line cap = some ((rdLine line).isSome, cap') ∧ ∀ x, rdLine line = some x → cap' = cap.app [x] := by
  have hs := split_on 32 (s := line) (by omega)
  have hw := words_eq (s := line) (by omega)
  have hm := splitOn_mem 32 line
  have hn := splitOn_len 32 line
  rw [fsl_eq] at hs
  generalize splitOn 32 line = ws at hs hw hm hn
  suffices H : ∃ y b, gate_readRecord line = some (y, b) ∧ (b = true → Short y) ∧ ∀ cap : Ar api_Record, cap.list.length ≤ 1000000 → ∃ cap', gateref1_RecordsRead_1 line cap = some (b, cap') ∧ (b = true → cap' = cap.app [y]) by
    obtain ⟨y, b, h1, h2, h3⟩ := H
    have hr : rdLine line = if b = true then some y else none := by
      unfold rdLine; rw [h1]; cases b <;> rfl
    have hb : (rdLine line).isSome = b := by rw [hr]; cases b <;> rfl
    rw [hb]
    refine ⟨⟨y, h1, fun x hx => ?_⟩, fun cap hc => ?_⟩
    · rw [hr] at hx
      cases b with
      | false => simp at hx
      | true => simp only [if_true, Option.some.injEq] at hx; subst hx; exact ⟨rfl, h2 rfl⟩
    · obtain ⟨cap', k1, k2⟩ := h3 cap hc
      refine ⟨cap', k1, fun x hx => ?_⟩
      rw [hr] at hx
      cases b with
      | false => simp at hx
      | true => simp only [if_true, Option.some.injEq] at hx; subst hx; exact k2 rfl
  by_cases h7 : ws.length = 7 ∧ [] ∉ ws
  · obtain ⟨h7, hE⟩ := h7
    obtain ⟨a, b, c, d, e, f, g, rfl⟩ : ∃ a b c d e f g, ws = [a, b, c, d, e, f, g] := by
      match ws, h7 with
      | [a, b, c, d, e, f, g], _ => exact ⟨a, b, c, d, e, f, g, rfl⟩
    have hu : ∀ s : Str, (undash s).length ≤ s.length := by intro s; unfold undash; split <;> simp
    obtain ⟨za, ga, qa, ka, ra, ea⟩ := numbers_ok (s := a) (most := 15) (by have := hm a (by simp); omega) (by omega)
    obtain ⟨zf, gf, qf, kf, rf, ef⟩ := numbers_ok (s := f) (most := 15) (by have := hm f (by simp); omega) (by omega)
    obtain ⟨zg, gg, qg, kg, rg, eg⟩ := numbers_ok (s := g) (most := 15) (by have := hm g (by simp); omega) (by omega)
    refine ⟨api_Record.mk (if ga = true then za else 0) (undash b) (undash c) (undash d) (undash e) (if gf = true then zf else 0) (if gg = true then zg else 0), (ga && gf) && gg, ?_, fun _ => ⟨?_, ?_, ?_, ?_⟩, fun cap hc => ?_⟩
    · unfold gate_readRecord
      rw [hw, Option.bind_some]
      simp only [hE, decide_false]
      rw [if_neg (by simp [Sl.list]), rd_loop, Option.bind_some]
      simp only [show (Sl.full [a, undash b, undash c, undash d, undash e, f, g] : Sl Str).get? 0 = some a from rfl, show (Sl.full [a, undash b, undash c, undash d, undash e, f, g] : Sl Str).get? 5 = some f from rfl, show (Sl.full [a, undash b, undash c, undash d, undash e, f, g] : Sl Str).get? 6 = some g from rfl,
        show (Sl.full [a, undash b, undash c, undash d, undash e, f, g] : Sl Str).get? 1 = some (undash b) from rfl, show (Sl.full [a, undash b, undash c, undash d, undash e, f, g] : Sl Str).get? 2 = some (undash c) from rfl, show (Sl.full [a, undash b, undash c, undash d, undash e, f, g] : Sl Str).get? 3 = some (undash d) from rfl, show (Sl.full [a, undash b, undash c, undash d, undash e, f, g] : Sl Str).get? 4 = some (undash e) from rfl, Option.bind_some, ka, kf, kg]
    · have := hm b (by simp); have := hu b; simp only; omega
    · have := hm c (by simp); have := hu c; simp only; omega
    · have := hm d (by simp); have := hu d; simp only; omega
    · have := hm e (by simp); have := hu e; simp only; omega
    · unfold gateref1_RecordsRead_1
      rw [hs, Option.bind_some, if_neg (by simp [Sl.list]), contains_eq _ _ (by simp [Sl.list]), Option.bind_some, Option.bind_some]
      rw [if_neg (by simpa [Sl.list] using hE), num_loop cap ra rf rg, Option.bind_some]
      by_cases hg : ga = true ∧ gf = true ∧ gg = true
      · rw [if_pos hg]
        simp only [Res.elim]
        rw [un_loop, Option.bind_some]
        simp only [show inr? 3 0 = some 0 from rfl, show ([qa, qf, qg] : List Int)[0]? = some qa from rfl, show inr? 3 1 = some 1 from rfl, show ([qa, qf, qg] : List Int)[1]? = some qf from rfl, show inr? 3 2 = some 2 from rfl, show ([qa, qf, qg] : List Int)[2]? = some qg from rfl,
          show (Sl.full [undash a, undash b, undash c, undash d, undash e, undash f, undash g] : Sl Str).get? 1 = some (undash b) from rfl, show (Sl.full [undash a, undash b, undash c, undash d, undash e, undash f, undash g] : Sl Str).get? 2 = some (undash c) from rfl, show (Sl.full [undash a, undash b, undash c, undash d, undash e, undash f, undash g] : Sl Str).get? 3 = some (undash d) from rfl, show (Sl.full [undash a, undash b, undash c, undash d, undash e, undash f, undash g] : Sl Str).get? 4 = some (undash e) from rfl, Option.bind_some]
        rw [app_ok (by simp; omega) (by omega), Option.bind_some, hg.1, hg.2.1, hg.2.2]
        exact ⟨_, rfl, fun _ => by rw [(ea hg.1).1, (ef hg.2.1).1, (eg hg.2.2).1]; rfl⟩
      · rw [if_neg hg]
        have hf : ((ga && gf) && gg) = false := by
          rw [Bool.eq_false_iff]; intro ht; simp only [Bool.and_eq_true] at ht; exact hg ⟨ht.1.1, ht.1.2, ht.2⟩
        rw [hf]
        exact ⟨cap, rfl, nofun⟩
  · refine ⟨api_Record.mk 0 [] [] [] [] 0 0, false, ?_, nofun, fun cap hc => ⟨cap, ?_, nofun⟩⟩
    · unfold gate_readRecord
      rw [hw, Option.bind_some]
      simp only
      rw [if_pos (by
        simp only [Sl.list, Bool.or_eq_true, bne_iff_ne, ne_eq, Bool.not_not, decide_eq_true_eq]
        by_cases hl : ws.length = 7
        · left; exact Decidable.byContradiction fun hc => h7 ⟨hl, hc⟩
        · right; omega)]
    · unfold gateref1_RecordsRead_1
      rw [hs, Option.bind_some]
      by_cases hl : ws.length = 7
      · have hE : [] ∈ ws := Decidable.byContradiction fun hc => h7 ⟨hl, hc⟩
        rw [if_neg (by simp only [Sl.list]; omega), contains_eq _ _ (by simp only [Sl.list]; omega), Option.bind_some, Option.bind_some, if_pos (decide_eq_true (show [] ∈ (Sl.full ws : Sl Str).list from hE))]
      · rw [if_pos (by simp only [Sl.list]; omega), Option.bind_some, if_pos rfl]
end Go.GW
