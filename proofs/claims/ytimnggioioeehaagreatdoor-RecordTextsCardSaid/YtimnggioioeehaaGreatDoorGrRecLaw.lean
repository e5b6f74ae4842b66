/- Records as text: the law. -/
import Derived.Test.YtimnggioioeehaaGreatDoorGrRecRead
import Derived.Test.YtimnggioioeehaaGreatDoorGrKitLines
import Derived.Test.YtimnggioioeehaaGreatDoorGrChanged
namespace Go.GW
open Go.AE

/-- What reading a text gives. -/
noncomputable def readSpec (text : Str) : Sl api_Record × Int × Int := match readP rdLine 0 (splitOn 10 text) Sl.nil with
  | .ret j => (Sl.nil, (j : Int), 9)
  | .out a => if recsFault a.list = 0 then (a, 0, 0) else (Sl.nil, 0, recsFault a.list)
theorem spec_small {text : Str} (h : text.length ≤ 900) {a : Sl api_Record} (ha : readP rdLine 0 (splitOn 10 text) Sl.nil = .out a) : (∀ x ∈ a.list, Short x) ∧ a.list.length ≤ 901 := by
  obtain ⟨h1, h2⟩ := readP_all (p := Short) (q := fun x => x.length ≤ 900) (fun x z hx hz => by
    obtain ⟨⟨y, _, hy⟩, _⟩ := read_both hx
    exact (hy z hz).2) (splitOn 10 text) 0 Sl.nil a (fun x hx => by have := splitOn_mem 10 text x hx; omega) (by simp [Sl.list]) ha
  have := splitOn_len 10 text
  have hz : (Sl.nil : Sl api_Record).list.length = 0 := rfl
  rw [hz] at h2
  exact ⟨h1, by omega⟩
theorem read_prog {text : Str} (h : text.length ≤ 900) : gate_Read text = some (readSpec text) := by
  unfold gate_Read
  rw [if_neg (by omega)]
  obtain ⟨l, b, e, hl⟩ := lines_of (s := text) (by omega)
  have hmem := splitOn_mem 10 text
  have hlen := splitOn_len 10 text
  rw [e, Option.bind_some]
  have hloop : rangeS (gate_Read_l0 (Sl.full l) b) (fun out_5 => (Res.out out_5 : Res (Sl api_Record) (Sl api_Record × Int × Int))) (Sl.full l) (Sl.nil : Sl api_Record) = some (fin9 (readP rdLine 0 (splitOn 10 text) Sl.nil)) := by
    rcases hl with ⟨rfl, hs⟩ | ⟨rfl, hs, hne, hlast⟩
    · rw [hs] at hmem hlen ⊢
      simp only [List.length_append, List.length_cons, List.length_nil] at hlen
      rw [rangeS_eq (by simp only [Sl.list]; omega)]
      refine ended_loop (rd := rdLine) (m := 900) (f := gate_Read_l0 (Sl.full l) true) (fun i x acc hx hacc => ?_) l 0 Sl.nil (fun x hx => by have := hmem x (by simp [hx]); omega) (by simp only [Sl.list, List.length_nil]; omega)
      obtain ⟨⟨y, h1, h2⟩, _⟩ := read_both hx
      simp only [gate_Read_l0, h1, Option.bind_some]
      cases hz : rdLine x with
      | none => simp
      | some z =>
        have := (h2 z hz).1
        subst this
        rw [if_neg (by simp), slapp_ok (by simp; omega) (by omega), Option.bind_some]
    · rw [hs] at hmem hlen ⊢
      rw [rangeS_eq (by simp only [Sl.list]; omega)]
      refine open_loop (rd := rdLine) (m := 900) (n := l.length) (f := gate_Read_l0 (Sl.full l) false) (fun i x acc hx hacc => ?_) l 0 Sl.nil hne hlast (by simp) (fun x hx => by have := hmem x hx; omega) (by simp only [Sl.list, List.length_nil]; omega)
      obtain ⟨⟨y, h1, h2⟩, _⟩ := read_both hx
      simp only [gate_Read_l0, h1, Option.bind_some]
      have hw : w64 (((Sl.full l : Sl Str).list.length : Int) - 1) = (l.length : Int) - 1 := w64_id (by simp only [Sl.list]; omega) (by simp only [Sl.list]; omega)
      rw [hw]
      by_cases hi : i + 1 = l.length
      · rw [if_pos hi, if_pos (by simp only [Bool.or_eq_true, Bool.and_eq_true, Bool.not_false, beq_iff_eq, true_and]; exact .inr (by omega))]
      · have hne : ((i : Int) == (l.length : Int) - 1) = false := by rw [beq_eq_false_iff_ne]; omega
        rw [if_neg hi, hne]
        cases hz : rdLine x with
        | none => simp
        | some z =>
          have := (h2 z hz).1
          subst this
          rw [if_neg (by simp), slapp_ok (by simp; omega) (by omega), Option.bind_some]
  simp only
  rw [hloop, Option.bind_some]
  unfold readSpec
  cases hr : readP rdLine 0 (splitOn 10 text) Sl.nil with
  | ret j => rfl
  | out a =>
    obtain ⟨hk, -⟩ := spec_small h hr
    simp only [Res.elim, fin9]
    rw [check_eq a hk, Option.bind_some]
    by_cases h0 : recsFault a.list = 0
    · rw [if_neg (by simp [h0]), if_pos h0]
    · rw [if_pos h0, if_neg h0]
theorem read_ref {text : Str} (h : text.length ≤ 900) : gateref1_RecordsRead text = some (readSpec text) := by
  unfold gateref1_RecordsRead gateref1_Lines__gateref1_RecordsRead_1
  rw [if_neg (by omega)]
  obtain ⟨b, e, hb⟩ := cut_loop (rd := rdLine) (m := 900) (by omega) (g := gateref1_Lines__gateref1_RecordsRead_1_l0)
    (fun cap i => by simp only [gateref1_Lines__gateref1_RecordsRead_1_l0]; rw [if_neg (by simp)])
    (fun cap text i x ht hcut => by
      simp only [gateref1_Lines__gateref1_RecordsRead_1_l0]
      rw [if_pos ht, hcut, Option.bind_some, if_pos (by rfl), Option.bind_some]
      simp only
      rw [if_pos trivial])
    (fun cap text i x r ht hcut hxl hc => by
      obtain ⟨cap', h1, h2⟩ := (read_both hxl).2 cap (by omega)
      refine ⟨cap', ?_, h2⟩
      simp only [gateref1_Lines__gateref1_RecordsRead_1_l0]
      rw [if_pos ht, hcut, Option.bind_some, if_neg (by simp), h1, Option.bind_some]
      simp only [Option.bind_some]
      cases (rdLine x).isSome <;> rfl)
    text.length text (Ar.nil : Ar api_Record) 0 rfl h (by simp only [Ar.list, List.length_nil]; omega) (by omega)
  rw [show ((0 : Nat) : Int) = 0 from rfl] at e
  rw [e, Option.bind_some]
  unfold readSpec
  rw [show (Sl.nil : Sl api_Record) = (Ar.nil : Ar api_Record).sl from rfl]
  rcases hb with ⟨cap', rfl, hr⟩ | ⟨j, cap', rfl, hr⟩
  · rw [hr]
    obtain ⟨hk, -⟩ := spec_small h hr
    simp only [Res.elim, Option.bind_some]
    rw [if_neg (by simp), fault_eq _ hk, Option.bind_some]
    by_cases h0 : recsFault cap'.sl.list = 0
    · rw [if_neg (by simp [h0]), if_pos h0]
    · rw [if_pos h0, if_neg h0]
  · rw [hr]
    simp only [Res.elim, Option.bind_some]
    rw [if_pos (by simp)]
theorem equal_recs (a : Sl api_Record) (hl : a.list.length ≤ 1000) : slices_Equal_api_Record_api_Record a a = some true := by
  unfold slices_Equal_api_Record_api_Record
  rw [if_neg (by simp), rangeS_eq (by omega)]
  obtain ⟨v, h1, _⟩ := rangeL_inv (f := slices_Equal_api_Record_api_Record_l0 a) (fin := fun () => (Res.out () : Res Unit Bool)) (l := a.list) (v0 := ()) (fun _ _ => True) trivial (by
    intro i v hi _
    simp only [slices_Equal_api_Record_api_Record_l0, get_ok hi, Option.bind_some, (eq_api_Record_iff a.list[i] a.list[i]).2 rfl]
    exact ⟨(), rfl, trivial⟩)
  rw [h1]; rfl
theorem spec_len {text : Str} (h : text.length ≤ 900) : (readSpec text).1.list.length ≤ 1000 := by
  unfold readSpec
  cases hr : readP rdLine 0 (splitOn 10 text) Sl.nil with
  | ret j => simp [Sl.list]
  | out a =>
    obtain ⟨-, hk⟩ := spec_small h hr
    simp only
    split
    · simp only; omega
    · simp [Sl.list]
/-! ### what the stream hands out -/
theorem some_ok {s : gatemake_Stream} {k : Int} (l : List Str) (g : Good s k) (hl : 0 < l.length) (hl2 : l.length ≤ 1000) (hk : k ≤ 10000) : ∃ r s', gatemake_Stream_Some s (.full l) = some (r, s') ∧ r ∈ l ∧ Good s' (k + 1) := by
  unfold gatemake_Stream_Some
  simp only [Sl.list]
  obtain ⟨r, s', h3, h4, h5, h6⟩ := next_ok (l.length : Int) g (by omega) (by omega) (by omega)
  rw [h3]
  simp only [Option.bind_some]
  obtain ⟨i, rfl⟩ : ∃ i : Nat, r = i := ⟨r.toNat, by omega⟩
  have hi : i < (Sl.full l).list.length := by simp [Sl.list]; omega
  rw [get_ok hi]
  exact ⟨_, _, rfl, List.getElem_mem _, h6⟩
theorem some_len {s : gatemake_Stream} {k : Int} {n : Nat} (l : List Str) (g : Good s k) (hl : 0 < l.length) (hl2 : l.length ≤ 1000) (hn : ∀ x ∈ l, x.length ≤ n) (hk : k ≤ 10000) : ∃ r s', gatemake_Stream_Some s (.full l) = some (r, s') ∧ r.length ≤ n ∧ Good s' (k + 1) := by
  obtain ⟨r, s', h1, h2, h3⟩ := some_ok l g hl hl2 hk
  exact ⟨r, s', h1, hn r h2, h3⟩
theorem pick_in {s : gatemake_Stream} {k : Int} {lo hi : Int} (l : List Int) (g : Good s k) (hl : 0 < l.length) (hl2 : l.length ≤ 1000) (hn : ∀ x ∈ l, lo ≤ x ∧ x ≤ hi) (hk : k ≤ 10000) : ∃ r s', gatemake_Stream_Pick s (.full l) = some (r, s') ∧ (lo ≤ r ∧ r ≤ hi) ∧ Good s' (k + 1) := by
  obtain ⟨r, s', h1, h2, h3⟩ := pick_ok l g hl hl2 (by omega)
  exact ⟨r, s', h1, hn r h2, h3⟩
theorem odd_in {s : gatemake_Stream} {k : Int} (lo hi : Int) (g : Good s k) (h0 : lo ≤ hi) (h1 : -1000 ≤ lo) (h2 : hi ≤ 1000) (hk : k ≤ 9000) : ∃ r s', gatemake_Stream_Odd s lo hi = some (r, s') ∧ (-10000000000000 < r ∧ r < 10000000000000) ∧ Good s' (k + 2) := by
  unfold gatemake_Stream_Odd
  obtain ⟨b, s1, e1, g1⟩ := flip_ok 12 g (by omega) (by omega) (by omega)
  rw [e1, Option.bind_some]
  simp only
  cases b with
  | true =>
    rw [if_pos rfl, w64_id (n := lo - 1) (by omega) (by omega), w64_id (n := hi + 1) (by omega) (by omega)]
    obtain ⟨r, s2, e2, hr, g2⟩ := pick_in (lo := -1099511627776) (hi := 1099511627776) [lo - 1, hi + 1, lo, hi, (-1099511627776), 1099511627776] g1 (by simp) (by simp) (by
      intro x hx
      simp only [List.mem_cons, List.not_mem_nil, or_false] at hx
      rcases hx with rfl | rfl | rfl | rfl | rfl | rfl <;> omega) (by omega)
    rw [e2]
    exact ⟨_, _, rfl, by omega, g2.up (by omega)⟩
  | false =>
    rw [if_neg (by simp)]
    obtain ⟨r, s2, e2, hr1, hr2, g2⟩ := range_ok lo hi g1 h0 (by omega) (by omega) (by omega)
    rw [e2]
    exact ⟨_, _, rfl, by omega, g2.up (by omega)⟩
theorem gen_step {s : gatemake_Stream} {k : Int} {out : Sl api_Record} {at_ i : Int} (g : Good s k) (hk : k ≤ 5000) (ho : out.list.length ≤ 100) (ha : 0 ≤ at_ ∧ at_ ≤ 100000000000) (hx : ∀ x ∈ out.list, RecOk x) :
    ∃ s' x d, gatemake_Stream_GateRecords_l0 i (s, out, at_) = some (Step.next (s', out.app [x], at_ + d)) ∧ RecOk x ∧ (0 ≤ d ∧ d ≤ 2592000000) ∧ Good s' (k + 7) := by
  simp only [gatemake_Stream_GateRecords_l0]
  obtain ⟨r1, s1, e1, h1, g1⟩ := some_len (n := 4) [[114, 97], [114, 98], [], [122, 122]] g (by simp) (by simp) (by decide) (by omega)
  rw [e1, Option.bind_some]; simp only
  obtain ⟨r2, s2, e2, h2, g2⟩ := some_len (n := 4) [[97, 112, 112, 49], [97, 112, 112, 50], []] g1 (by simp) (by simp) (by decide) (by omega)
  rw [e2, Option.bind_some]; simp only
  obtain ⟨r3, s3, e3, h3, g3⟩ := some_len (n := 4) [[], [111, 110, 101]] g2 (by simp) (by simp) (by decide) (by omega)
  rw [e3, Option.bind_some]; simp only
  obtain ⟨r4, s4, e4, h4, g4⟩ := some_len (n := 4) [[105, 97], []] g3 (by simp) (by simp) (by decide) (by omega)
  rw [e4, Option.bind_some]; simp only
  obtain ⟨r5, s5, e5, h5, g5⟩ := pick_in (lo := 0) (hi := 1000) [200, 200, 304, 404, 429] g4 (by simp) (by simp) (by decide) (by omega)
  rw [e5, Option.bind_some]; simp only
  obtain ⟨r6, s6, e6, h6, g6⟩ := pick_in (lo := 0) (hi := 1000) [0, 0, 1] g5 (by simp) (by simp) (by decide) (by omega)
  rw [e6, Option.bind_some]; simp only
  rw [slapp_ok (by simp; omega) (by omega), Option.bind_some]
  obtain ⟨r7, s7, e7, h7, g7⟩ := pick_in (lo := 0) (hi := 2592000000) [0, 1, 1296000000, 2592000000] g6 (by simp) (by simp) (by decide) (by omega)
  rw [e7, Option.bind_some]; simp only
  rw [w64_id (by omega) (by omega)]
  exact ⟨s7, _, r7, rfl, ⟨h1, h2, h3, h4, by simp only; omega, by simp only; omega, by simp only; omega⟩, h7, g7.up (by omega)⟩
theorem recs_ok {s : gatemake_Stream} {k : Int} {many : Int} (g : Good s k) (hk : k ≤ 4000) (h0 : 0 ≤ many) (h4 : many ≤ 4) : ∃ x s', gatemake_Stream_GateRecords s many = some (x, s') ∧ (∀ y ∈ x.list, RecOk y) ∧ x.list.length ≤ 4 ∧ Good s' (k + 50) := by
  unfold gatemake_Stream_GateRecords
  obtain ⟨a, s1, e1, a0, a1, g1⟩ := next_ok 20 g (by omega) (by omega) (by omega)
  rw [e1, Option.bind_some]; simp only
  rw [rangeN_eq (by omega)]
  obtain ⟨⟨s2, x, at_⟩, e2, g2, hl, hx, ha⟩ := rangeL_inv (f := fun i _ v => gatemake_Stream_GateRecords_l0 i v) (fin := fun (s_25, out_5, at_4) => (s_25, out_5)) (l := List.range many.toNat) (v0 := (s1, (Sl.nil : Sl api_Record), a))
    (fun i v => Good v.1 (k + 1 + 7 * i) ∧ v.2.1.list.length ≤ i ∧ (∀ y ∈ v.2.1.list, RecOk y) ∧ (0 ≤ v.2.2 ∧ v.2.2 ≤ 20 + 2592000000 * (i : Int))) ⟨by simpa using g1, by simp [Sl.list], by simp [Sl.list], by simp only; omega⟩ (by
    rintro i ⟨s, out, at_⟩ hi ⟨hg, hl, hx, ha⟩
    rw [List.length_range] at hi
    simp only at hg hl hx ha
    obtain ⟨s', y, d, e, hy, hd, g'⟩ := gen_step (i := (i : Int)) (at_ := at_) (out := out) hg (by omega) (by omega) (by omega) hx
    refine ⟨(s', out.app [y], at_ + d), e, g'.up (by omega), by rw [slapp_list]; simp; omega, ?_, by simp only; omega⟩
    rw [slapp_list]
    intro z hz
    rcases List.mem_append.1 hz with hz | hz
    · exact hx z hz
    · simp only [List.mem_singleton] at hz; subst hz; exact hy)
  rw [e2, Option.bind_some]
  simp only [List.length_range] at g2 hl hx ha ⊢
  obtain ⟨s3, b, hb, g3, hnz⟩ : ∃ s3 b, (if (x.list.length : Int) > 0 then (gatemake_Stream_Flip s2 15).bind fun (r471, s_41) => some (s_41, r471) else some (s2, false)) = some (s3, b) ∧ Good s3 (k + 40) ∧ (b = true → 0 < x.list.length) := by
    by_cases hp : (x.list.length : Int) > 0
    · obtain ⟨b, s3, e3, g3⟩ := flip_ok 15 g2 (by omega) (by omega) (by omega)
      rw [if_pos hp, e3]
      exact ⟨s3, b, rfl, g3.up (by omega), fun _ => by omega⟩
    · rw [if_neg hp]
      exact ⟨s2, false, rfl, g2.up (by omega), nofun⟩
  rw [hb, Option.bind_some]
  simp only
  cases b with
  | false => rw [if_neg (by simp)]; exact ⟨_, _, rfl, hx, by omega, g3.up (by omega)⟩
  | true =>
    have hpos := hnz rfl
    rw [if_pos rfl]
    obtain ⟨j, s4, e4, j0, j1, g4⟩ := next_ok (x.list.length : Int) g3 (by omega) (by omega) (by omega)
    rw [e4, Option.bind_some]; simp only
    obtain ⟨j, rfl⟩ : ∃ n : Nat, j = n := ⟨j.toNat, by omega⟩
    have hj : j < x.list.length := by omega
    rw [get_ok hj, Option.bind_some]
    have hy := hx _ (List.getElem_mem hj)
    have hyat := hy.at0
    generalize x.list[j] = y at hy hyat
    obtain ⟨r1, s5, e5, h5, g5⟩ := pick_in (lo := -9999999999999) (hi := 9999999999999) [y.At, (-1), 0, 345686400000] g4 (by simp) (by simp) (by
      intro z hz
      simp only [List.mem_cons, List.not_mem_nil, or_false] at hz
      rcases hz with rfl | rfl | rfl | rfl <;> omega) (by omega)
    rw [e5, Option.bind_some]; simp only
    obtain ⟨r2, s6, e6, h6, g6⟩ := some_len (n := 4) [[114, 97], [65], [45]] g5 (by simp) (by simp) (by decide) (by omega)
    rw [e6, Option.bind_some]; simp only
    obtain ⟨r3, s7, e7, h7, g7⟩ := odd_in 100 599 g6 (by omega) (by omega) (by omega) (by omega)
    rw [e7, Option.bind_some]; simp only
    obtain ⟨r4, s8, e8, h8, g8⟩ := odd_in 0 4 g7 (by omega) (by omega) (by omega) (by omega)
    rw [e8, Option.bind_some]; simp only
    have hset : ∀ (z : Sl api_Record) (w : api_Record), z.list.length = x.list.length → z.set? (j : Int) w = some (.full (z.list.set j w)) := by
      intro z w hz
      unfold Sl.set?
      rw [if_pos ⟨by omega, by omega⟩]
      simp
    rw [hset x _ rfl, Option.bind_some, hset _ _ (by simp [Sl.list]), Option.bind_some, hset _ _ (by simp [Sl.list]), Option.bind_some, hset _ _ (by simp [Sl.list]), Option.bind_some]
    have e : ∀ m : List api_Record, (Sl.full m).list = m := fun _ => rfl
    refine ⟨_, _, rfl, ?_, by simp only [e, List.length_set]; omega, g8.up (by omega)⟩
    simp only [e, List.set_set]
    intro z hz
    rcases List.mem_or_eq_of_mem_set hz with hz | rfl
    · exact hx z hz
    · exact ⟨h6, hy.caller, hy.act, hy.inst, by simp only; omega, h7, h8⟩
theorem string_ok {s : gatemake_Stream} {k : Int} (g : Good s k) (hk : k ≤ 3000) : ∃ r s', gatemake_Stream_RecordString s = some (r, s') ∧ r.length ≤ 900 := by
  unfold gatemake_Stream_RecordString
  obtain ⟨n, s0, e0, n0, n1, g0⟩ := range_ok 0 3 g (by omega) (by omega) (by omega) (by omega)
  rw [e0, Option.bind_some]; simp only
  obtain ⟨x, s1, e1, hx, hxl, g1⟩ := recs_ok g0 (by omega) n0 (by omega)
  rw [e1, Option.bind_some]; simp only
  rw [recLines_eq x hxl hx, Option.bind_some]
  have htl := all_short hxl hx
  obtain ⟨m, s2, e2, hm, g2⟩ := pick_in (lo := 0) (hi := 2) [0, 0, 1, 2] g1 (by simp) (by simp) (by decide) (by omega)
  rw [e2, Option.bind_some]; simp only
  rw [rangeN_eq (by omega)]
  obtain ⟨⟨s3, t3⟩, e3, h3⟩ := rangeL_inv (f := fun i _ v => gatemake_Stream_RecordString_l0 i v) (fin := fun (s_7, t5) => (s_7, t5)) (l := List.range m.toNat) (v0 := (s2, recText x.list)) (fun i v => v.2.length ≤ 284 + 12 * i ∧ Good v.1 (k + 100 + 3 * i)) ⟨by simp only; omega, g2.up (by omega)⟩ (by
    rintro i ⟨s, t⟩ hi ⟨h1, h2⟩
    simp only [List.length_range] at hi
    simp only at h1 h2
    simp only [gatemake_Stream_RecordString_l0]
    obtain ⟨r, s', e, hr, g'⟩ := changed_ok (w := [32, 10, 45, 48, 49, 57, 97]) (t := t) h2 (by simp) (by simp) (by decide) (by omega) (by omega)
    rw [e, Option.bind_some]
    simp only [List.length_cons, List.length_nil] at hr
    exact ⟨(s', r), rfl, by simp only; omega, g'.up (by omega)⟩)
  rw [e3, Option.bind_some]
  simp only at h3 ⊢
  refine ⟨t3, s3, rfl, ?_⟩
  have := h3.1
  simp only [List.length_range] at this
  omega
/-- The law. -/
theorem recordTexts_true (l : Sl Int) (h0 : l.list.length ≤ 9223372036854775807) (h1 : ∀ n ∈ l.list, -9223372036854775808 ≤ n ∧ n ≤ 9223372036854775807) : gatelaw1_RecordTexts l = some true := by
  unfold gatelaw1_RecordTexts
  obtain ⟨n, s0, e0, n0, n1, g0⟩ := range_ok (s := ⟨l, 0⟩) (k := 0) 0 4 ⟨by simp, by simp, h0, h1⟩ (by omega) (by omega) (by omega) (by omega)
  rw [e0, Option.bind_some]; simp only
  obtain ⟨x, s1, e1, hx, hxl, g1⟩ := recs_ok g0 (by omega) n0 (by omega)
  rw [e1, Option.bind_some]; simp only
  rw [text_eq x hxl hx, Option.bind_some, fault_eq x (fun y hy => (hx y hy).short)]
  obtain ⟨text, s2, e2, hl⟩ := string_ok g1 (by omega)
  have he := equal_recs _ (spec_len hl)
  have hfin : ((gatemake_Stream_RecordString s1).bind fun (text, t172) =>
      (gate_Read text).bind fun (a, i, f) =>
      (gateref1_RecordsRead text).bind fun (b, k1, g) =>
      ((
        if ((f == g) && (i == k1)) = true then
          (slices_Equal_api_Record_api_Record a b).bind fun r751 =>
          some r751
        else
          some false : Option (Bool))).bind fun t76 =>
      ((
        if t76 = true then
          some true
        else
          some false : Option (Bool))).bind fun t79 =>
      some t79) = some true := by
    rw [e2, Option.bind_some]
    simp only
    rw [read_prog hl, read_ref hl]
    simp only [Option.bind_some]
    rw [if_pos (by simp), he]
    rfl
  by_cases hf : recsFault x.list = 0
  · rw [if_pos hf]
    simp only [Option.bind_some]
    rw [if_neg (by simp [hf]), if_pos hf, recLines_eq x hxl hx, Option.bind_some]
    simp only [Option.bind_some]
    rw [if_neg (by simp [hf])]
    exact hfin
  · rw [if_neg hf]
    simp only [Option.bind_some]
    rw [if_neg (by simp), if_neg hf]
    simp only [Option.bind_some]
    rw [if_neg (by simp)]
    exact hfin
end Go.GW
