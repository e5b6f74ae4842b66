/- ValuesChecked. -/
import Derived.Test.YtdpfbnefkemkiaaDoorGvValNear2
namespace Go.GW
open Go.AE

theorem valued_ok : gatelaw1_valued 200 = some true := by decide +kernel
theorem checks_ok {k : Nat} {a b : api_Value} {fa fb : Int} (ha : value_Check k a = some fa) (hb : value_Check k b = some fb) : value_checks k (Sl.full [a, b]) = some (if fa ≠ 0 then fa else fb) := by
  unfold value_checks
  rw [rangeS_eq (by simp [Sl.list])]
  show (rangeL (value_checks_l0 k) (fun () => Res.out ()) 0 [a, b] ()).bind _ = _
  simp only [rangeL, value_checks_l0, ha, hb, Option.bind_some]
  by_cases h1 : fa = 0
  · by_cases h2 : fb = 0
    · simp [h1, h2, Res.elim]
    · simp [h1, h2, Res.elim]
  · simp [h1, Res.elim]
theorem valuesChecked_true (l : Sl Int) (hl : l.list.length ≤ 9223372036854775807) (hw : ∀ n ∈ l.list, -9223372036854775808 ≤ n ∧ n ≤ 9223372036854775807) : gatelaw1_ValuesChecked 200 l = some true := by
  have g : Good (gatemake_Stream.mk l 0) 0 := ⟨Int.le_refl _, Int.le_refl _, hl, hw⟩
  obtain ⟨a, s1, e1, hFa, hwa, g1⟩ := value_ok (n := 3) (j := 200) (by omega) (by omega) g (by omega)
  obtain ⟨b0, s2, e2, hFb0, hwb0, g2⟩ := value_ok (n := 2) (j := 200) (by omega) (by omega) g1 (by omega)
  obtain ⟨r, s3, e3, g3⟩ := flip_ok 2 g2 (by omega) (by omega) (by omega)
  have e1' : gatemake_Stream_Value 200 (gatemake_Stream.mk l 0) 3 = some (a, s1) := e1
  have e2' : gatemake_Stream_Value 200 s1 2 = some (b0, s2) := e2
  obtain ⟨b, e4, hFb, hwb⟩ : ∃ b, (if r = true then (gatemake_Stream_Near 200 s3 a).bind fun (r221, t134) => some r221 else some b0 : Option (api_Value)) = some b ∧ Fits 200 b ∧ wt 200 b ≤ 100000000 := by
    cases r with
    | true =>
      obtain ⟨b, s4, e4, h1, h2, -⟩ := near_ok 60 200 a s3 _ (by omega) hFa (by omega) g3 (by omega)
      rw [if_pos rfl, e4]
      exact ⟨b, rfl, h1.up (by omega), by rw [wt_up h1 (by omega)]; omega⟩
    | false =>
      rw [if_neg (by simp)]
      exact ⟨b0, rfl, hFb0.up (by omega), by rw [wt_up hFb0 (by omega)]; omega⟩
  have hFa2 : Fits 200 a := hFa.up (by omega)
  have hwa2 : wt 200 a ≤ 100000 := by rw [wt_up hFa (by omega)]; exact hwa
  obtain ⟨fa, a1, a2, a3⟩ := check_ok hFa2 (by omega)
  obtain ⟨fb, b1, b2, -⟩ := check_ok hFb hwb
  obtain ⟨n, o1, o2⟩ := order_ok 60 a b hFa (by omega) 200 (by omega)
  have hcmp : value_Compare 200 a b = some (if (if fa ≠ 0 then fa else fb) = 0 then (n, 0) else (0, if fa ≠ 0 then fa else fb)) := by
    unfold value_Compare
    rw [checks_ok a1 b1, Option.bind_some, o2]
    by_cases h0 : (if fa ≠ 0 then fa else fb) = 0
    · rw [if_neg (fun hx => hx h0), if_pos h0]; rfl
    · rw [if_pos h0, if_neg h0]
  have htext : ∃ t, value_Text 200 a = some (t, fa) ∧ (fa = 0 → gateref1_Written 200 a = some t) := by
    unfold value_Text
    rw [a1, Option.bind_some]
    by_cases h0 : fa = 0
    · rw [if_neg (fun hx => hx h0), textOf_ok (a3 h0) (by omega), Option.bind_some]
      exact ⟨_, by rw [h0]; rfl, fun _ => written_ok 200 a (a3 h0) (by omega)⟩
    · rw [if_pos h0]
      exact ⟨_, rfl, fun h => absurd h h0⟩
  obtain ⟨t, t1, t2⟩ := htext
  unfold gatelaw1_ValuesChecked
  rw [e1', Option.bind_some]
  simp only
  rw [e2', Option.bind_some]
  simp only
  rw [e3, Option.bind_some]
  refine bind_of e4 ?_
  try simp only
  rw [hcmp, Option.bind_some, t1, Option.bind_some]
  simp only
  rw [a2, Option.bind_some, a1, Option.bind_some]
  have hno : ((if ((fa != fa) || (fa != fa)) = true then some true else ((if fa = 0 then (gateref1_Written 200 a).bind fun r513 => some (t != r513) else some false : Option (Bool))).bind fun t531 => some t531 : Option (Bool))) = some false := by
    rw [if_neg (by simp)]
    by_cases h0 : fa = 0
    · rw [if_pos h0, t2 h0]; simp
    · rw [if_neg h0]; rfl
  refine bind_of hno ?_
  rw [if_neg (by simp), b2, Option.bind_some, or2, Option.bind_some]
  by_cases h0 : (if fa ≠ 0 then fa else fb) = 0
  · rw [if_neg (fun hx => hx h0), if_pos h0]
    simp only
    rw [if_pos trivial, o1, Option.bind_some]
    simp only [Option.bind_some]
    rw [if_pos (by simp), valued_ok]
    rfl
  · rw [if_pos h0, if_neg h0]
    simp only
    rw [if_pos (by simp), valued_ok]
    rfl
end Go.GW
