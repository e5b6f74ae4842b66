/- Text and Written. -/
import Derived.Test.YtdpfbnefkemkiaaDoorGvValOrder
namespace Go.GW
open Go.AE

theorem app_app {α : Type} (a : Ar α) (l m : List α) : (a.app l).app m = a.app (l ++ m) := by
  cases l with
  | nil => rfl
  | cons x l =>
    cases m with
    | nil => simp [Ar.app]
    | cons y m => simp [Ar.app, Ar.list]
theorem byte_nat (x : UInt8) : byte? (x.toNat : Int) = some x := by
  have := x.toNat_lt
  unfold byte?
  rw [if_pos (by omega)]
  simp
theorem wb_ok {b : Ar UInt8} {c : UInt8} {n : Int} (hn : n = c.toNat) (h : b.list.length + 1 ≤ 1000000000) : strings_Builder_WriteByte b n = some ((), b.app [c]) := by
  subst hn
  unfold strings_Builder_WriteByte
  rw [byte_nat, Option.bind_some, app_ok (by simpa using h) (by omega)]
  rfl
theorem ws_ok {b : Ar UInt8} {s : Str} (h : b.list.length + s.length ≤ 1000000000) : strings_Builder_WriteString b s = some ((s.length : Int), (), b.app s) := by
  unfold strings_Builder_WriteString
  rw [app_ok h (by omega)]
  rfl
def hexS : Str := [48, 49, 50, 51, 52, 53, 54, 55, 56, 57, 97, 98, 99, 100, 101, 102]
def hexD (n : Nat) : UInt8 := hexS.getD n 0
theorem hex1 : ∀ x : Fin 256, sget hexS (Int.fdiv (x.val : Int) (2 ^ 4)) = some ((hexD (x.val / 16)).toNat : Int) := by decide +kernel
theorem hex2 : ∀ x : Fin 256, sget hexS (IntKind.u8.wrap ((BitVec.ofInt (IntKind.u8).bits (x.val : Int) &&& BitVec.ofInt (IntKind.u8).bits 15).toNat)) = some ((hexD (x.val % 16)).toNat : Int) := by decide +kernel
theorem hex3 : ∀ x : Fin 256, sget hexS (IntKind.u8.wrap (Int.tdiv (x.val : Int) 16)) = some ((hexD (x.val / 16)).toNat : Int) := by decide +kernel
theorem hex4 : ∀ x : Fin 256, sget hexS (Int.tmod (x.val : Int) 16) = some ((hexD (x.val % 16)).toNat : Int) := by decide +kernel
theorem utf8_small : ∀ x : Fin 128, utf8 (x.val : Int) = [x.val.toUInt8] := by decide +kernel
theorem hexD_small : ∀ x : Fin 16, (hexD x.val).toNat < 128 := by decide +kernel
theorem wrap32 {x : Nat} (h : x < 256) : IntKind.i32.wrap (x : Int) = x := by
  have : ∀ y : Fin 256, IntKind.i32.wrap (y.val : Int) = y.val := by decide +kernel
  exact this ⟨x, h⟩
theorem utf8_u8 {x : UInt8} (h : x.toNat < 128) : utf8 (x.toNat : Int) = [x] := by
  have := utf8_small ⟨x.toNat, h⟩
  simp only at this
  rw [this]
  simp
def esc (c : UInt8) : Str :=
  if c.toNat = 34 ∨ c.toNat = 92 then [92, c] else if c.toNat = 10 then [92, 110] else if c.toNat = 13 then [92, 114] else if c.toNat = 9 then [92, 116] else
  if c.toNat < 32 ∨ c.toNat = 127 then [92, 117, 48, 48, hexD (c.toNat / 16), hexD (c.toNat % 16)] else [c]
theorem esc_len (c : UInt8) : (esc c).length ≤ 6 := by
  unfold esc
  split
  · simp
  · split
    · simp
    · split
      · simp
      · split
        · simp
        · split <;> simp
theorem quote_step {s : Str} {i : Nat} (hi : i < s.length) {b : Ar UInt8} (h : b.list.length + 6 ≤ 1000000000) : value_quote_l0 s i b = some (.next (b.app (esc s[i]))) := by
  simp only [value_quote_l0]
  rw [sget_ok hi, Option.bind_some]
  generalize s[i] = c
  have hc := c.toNat_lt
  unfold esc
  by_cases h1 : c.toNat = 34 ∨ c.toNat = 92
  · rw [if_pos h1, if_pos (by simp only [Bool.or_eq_true, beq_iff_eq]; omega), wb_ok (n := 92) (c := 92) rfl (by omega), Option.bind_some, wb_ok (c := c) rfl (by rw [app_list]; simp; omega), app_app]
    rfl
  rw [if_neg h1, if_neg (by simp only [Bool.or_eq_true, beq_iff_eq]; omega)]
  by_cases h2 : c.toNat = 10
  · rw [if_pos h2, if_pos (by omega), ws_ok (by simp; omega)]; rfl
  rw [if_neg h2, if_neg (by omega)]
  by_cases h3 : c.toNat = 13
  · rw [if_pos h3, if_pos (by omega), ws_ok (by simp; omega)]; rfl
  rw [if_neg h3, if_neg (by omega)]
  by_cases h4 : c.toNat = 9
  · rw [if_pos h4, if_pos (by omega), ws_ok (by simp; omega)]; rfl
  rw [if_neg h4, if_neg (by omega)]
  by_cases h5 : c.toNat < 32 ∨ c.toNat = 127
  · have e1 := hex1 ⟨c.toNat, hc⟩
    have e2 := hex2 ⟨c.toNat, hc⟩
    simp only [hexS] at e1 e2
    rw [if_pos h5, if_pos (by simp only [Bool.or_eq_true, decide_eq_true_eq, beq_iff_eq]; omega), ws_ok (by simp; omega), Option.bind_some, e1, Option.bind_some, wb_ok rfl (by rw [app_list]; simp; omega), Option.bind_some, e2, Option.bind_some,
      wb_ok rfl (by rw [app_list, app_list]; simp; omega), app_app, app_app]
    rfl
  · rw [if_neg h5, if_neg (by simp only [Bool.or_eq_true, decide_eq_true_eq, beq_iff_eq]; omega), wb_ok (c := c) rfl (by omega)]; rfl
theorem quoted_step (i : Int) (c : UInt8) {b : Ar UInt8} (h : b.list.length + 6 ≤ 1000000000) : gateref1_Quoted_l0 i (c.toNat : Int) b = some (.next (b.app (esc c))) := by
  simp only [gateref1_Quoted_l0]
  have hc := c.toNat_lt
  unfold esc
  by_cases h1 : c.toNat = 34 ∨ c.toNat = 92
  · rw [if_pos h1, if_pos (by simp only [Bool.or_eq_true, beq_iff_eq]; omega), wrap32 hc, utf8_u8 (by omega), sadd_ok (by simp), Option.bind_some, ws_ok (by simp; omega)]
    rfl
  rw [if_neg h1, if_neg (by simp only [Bool.or_eq_true, beq_iff_eq]; omega)]
  by_cases h2 : c.toNat = 10
  · rw [if_pos h2, if_pos (by omega), ws_ok (by simp; omega)]; rfl
  rw [if_neg h2, if_neg (by omega)]
  by_cases h3 : c.toNat = 13
  · rw [if_pos h3, if_pos (by omega), ws_ok (by simp; omega)]; rfl
  rw [if_neg h3, if_neg (by omega)]
  by_cases h4 : c.toNat = 9
  · rw [if_pos h4, if_pos (by omega), ws_ok (by simp; omega)]; rfl
  rw [if_neg h4, if_neg (by omega)]
  by_cases h5 : c.toNat < 32 ∨ c.toNat = 127
  · have e1 := hex3 ⟨c.toNat, hc⟩
    have e2 := hex4 ⟨c.toNat, hc⟩
    simp only [hexS] at e1 e2
    have d1 := hexD_small ⟨c.toNat / 16, by omega⟩
    have d2 := hexD_small ⟨c.toNat % 16, by omega⟩
    simp only at d1 d2
    rw [if_pos h5, if_pos (by simp only [Bool.or_eq_true, decide_eq_true_eq, beq_iff_eq]; omega), e1, Option.bind_some, utf8_u8 d1, sadd_ok (by simp), Option.bind_some, e2, Option.bind_some, utf8_u8 d2, sadd_ok (by simp), Option.bind_some, ws_ok (by simp; omega)]
    rfl
  · rw [if_neg h5, if_neg (by simp only [Bool.or_eq_true, decide_eq_true_eq, beq_iff_eq]; omega), wb_ok (c := c) rfl (by omega)]; rfl
def quoted (s : Str) : Str := 34 :: (s.flatMap esc ++ [34])
theorem flat_len (s : Str) : (s.flatMap esc).length ≤ 6 * s.length := by
  induction s with
  | nil => simp
  | cons c s ih => simp only [List.flatMap_cons, List.length_append, List.length_cons]; have := esc_len c; omega
theorem quoted_len (s : Str) : (quoted s).length ≤ 6 * s.length + 2 := by
  unfold quoted
  have := flat_len s
  simp only [List.length_cons, List.length_append, List.length_nil]; omega
theorem flat_take {s : Str} {i : Nat} (hi : i < s.length) : (s.take (i + 1)).flatMap esc = (s.take i).flatMap esc ++ esc s[i] := by
  rw [List.take_succ_eq_append_getElem hi, List.flatMap_append]; simp
theorem bstr_ok {t : Str} (h : t.length ≤ 1000000000) : bstr? ((Ar.nil : Ar UInt8).app t) = some t := by
  cases t with
  | nil => rfl
  | cons x t => simp only [Ar.app, Ar.list, bstr?, List.nil_append]; rw [if_pos ⟨by simp, by simp at h ⊢; omega⟩]
theorem flat_take_len (s : Str) (i : Nat) : ((s.take i).flatMap esc).length ≤ 6 * s.length := by
  have := flat_len (s.take i)
  have h2 : (s.take i).length ≤ s.length := by simp; omega
  omega
theorem quote_ok {s : Str} (h : s.length ≤ 100000000) : value_quote s = some (quoted s) := by
  unfold value_quote
  rw [wb_ok (n := 34) (c := 34) rfl (by simp [Ar.list]), Option.bind_some]
  simp only
  rw [rangeN_eq (by omega)]
  obtain ⟨b, e, hb⟩ := rangeL_inv (f := fun i _ v => value_quote_l0 s i v) (fin := fun b => b) (l := List.range (s.length : Int).toNat) (v0 := (Ar.nil : Ar UInt8).app [34]) (fun i b => b = (Ar.nil : Ar UInt8).app ([34] ++ (s.take i).flatMap esc)) (by simp) (by
    intro i b hi hb
    have hi' : i < s.length := by simpa using hi
    subst hb
    have := flat_take_len s i
    rw [quote_step hi' (by rw [app_list]; simp only [Ar.list, List.length_append, List.length_cons, List.length_nil]; omega), app_app]
    exact ⟨_, rfl, by rw [flat_take hi', List.append_assoc]⟩)
  have hlen : (List.range (s.length : Int).toNat).length = s.length := by simp
  rw [hlen, List.take_length] at hb
  have := flat_len s
  rw [e, Option.bind_some, hb, wb_ok (n := 34) (c := 34) rfl (by rw [app_list]; simp only [Ar.list, List.length_append, List.length_cons, List.length_nil]; omega), Option.bind_some]
  simp only
  rw [app_app, bstr_ok (by simp only [List.length_append, List.length_cons, List.length_nil]; omega)]
  rfl
theorem quotedR_ok {s : Str} (h : s.length ≤ 100000000) : gateref1_Quoted s = some (quoted s) := by
  unfold gateref1_Quoted
  rw [wb_ok (n := 34) (c := 34) rfl (by simp [Ar.list]), Option.bind_some]
  simp only
  rw [bsl_eq, rangeS_eq (by simp [Sl.list, nums]; omega)]
  obtain ⟨b, e, hb⟩ := rangeL_inv (f := gateref1_Quoted_l0) (fin := fun b => b) (l := (Sl.full (nums s)).list) (v0 := (Ar.nil : Ar UInt8).app [34]) (fun i b => b = (Ar.nil : Ar UInt8).app ([34] ++ (s.take i).flatMap esc)) (by simp) (by
    intro i b hi hb
    have hi' : i < s.length := by simpa [Sl.list, nums] using hi
    subst hb
    have := flat_take_len s i
    have hx : (Sl.full (nums s)).list[i] = (s[i].toNat : Int) := by simp [Sl.list, nums]
    rw [hx, quoted_step _ _ (by rw [app_list]; simp only [Ar.list, List.length_append, List.length_cons, List.length_nil]; omega), app_app]
    exact ⟨_, rfl, by rw [flat_take hi', List.append_assoc]⟩)
  have hlen : (Sl.full (nums s)).list.length = s.length := by simp [Sl.list, nums]
  rw [hlen, List.take_length] at hb
  have := flat_len s
  rw [e, Option.bind_some, hb, wb_ok (n := 34) (c := 34) rfl (by rw [app_list]; simp only [Ar.list, List.length_append, List.length_cons, List.length_nil]; omega), Option.bind_some]
  simp only
  rw [app_app, bstr_ok (by simp only [List.length_append, List.length_cons, List.length_nil]; omega)]
  rfl
end Go.GW
