/- Records: what is wrong with them, by both texts; their lines. -/
import Derived.Test.YtimnggioioeehaaGreatDoorGrKeys
import Derived.Test.YtimnggioioeehaaGreatDoorGrPieceRead
namespace Go.GW
open Go.AE

def okName (s : Str) : Bool := s == [] || keyB s
def namesB (x : api_Record) : Bool := okName x.Route && okName x.Caller && okName x.Act && okName x.Instance
def momB (n : Int) : Bool := decide (0 ≤ n) && decide (n < 345686400000)
def rngB (lo hi n : Int) : Bool := decide (lo ≤ n) && decide (n ≤ hi)
def numsB (x : api_Record) : Bool := rngB 100 599 x.Status && rngB 0 4 x.Found
def lateB (l : List api_Record) (i : Nat) (x : api_Record) : Bool := match i with
  | 0 => false
  | j + 1 => match l[j]? with
    | some y => decide (x.At < y.At)
    | none => false
def recFault (l : List api_Record) (i : Nat) (x : api_Record) : Int := if momB x.At = false then 1 else if namesB x = false then 5 else if numsB x = false then 1 else if lateB l i x = true then 7 else 0
theorem mom_eq1 (n : Int) : kit_IsMoment n = some (momB n) := by
  unfold kit_IsMoment momB
  congr 1
theorem mom_eq2 (n : Int) : gateref2_Moment n = some (momB n) := by
  unfold gateref2_Moment gateref2_in momB
  rw [Option.bind_some]
  congr 1
  rw [Bool.eq_iff_iff]
  simp only [Bool.and_eq_true, decide_eq_true_eq]
  omega
theorem out_eq (n lo hi : Int) : kit_Outside n lo hi = some (!rngB lo hi n) := by
  unfold kit_Outside rngB
  congr 1
  rw [Bool.eq_iff_iff]; simp
theorem in_eq (n lo hi : Int) : gateref1_in n lo hi = some (rngB lo hi n) := rfl
/-- Names are short. -/
def Short (x : api_Record) : Prop := x.Route.length < 1000000000000 ∧ x.Caller.length < 1000000000000 ∧ x.Act.length < 1000000000000 ∧ x.Instance.length < 1000000000000
theorem inner1 (s : Str) (i : Int) (h : s.length < 1000000000000) : gate_CheckRecords_l1 i s () = some (if okName s = true then Step.next () else Step.done (Res.ret (Step.done (Res.ret 5)))) := by
  simp only [gate_CheckRecords_l1]
  by_cases hs : s = []
  · subst hs; rfl
  · rw [if_pos hs, IsKey_eq _ h, Option.bind_some, Option.bind_some]
    cases hk : keyB s <;> simp [okName, hs, hk]
theorem inner2 (s : Str) (i : Int) (h : s.length < 1000000000000) : gateref1_RecordsFault_l1 i s () = some (if okName s = true then Step.next () else Step.done (Res.ret (Step.done (Res.ret 5)))) := by
  simp only [gateref1_RecordsFault_l1]
  by_cases hs : s = []
  · subst hs; rfl
  · rw [if_pos hs, Key_eq _ h, Option.bind_some, Option.bind_some]
    cases hk : keyB s <;> simp [okName, hs, hk]
theorem four (f : Int → Str → Unit → Option (Step Unit (Res Unit (Step Unit (Res Unit Int))))) (x : api_Record) (hx : Short x) (hf : ∀ s i, s.length < 1000000000000 → f i s () = some (if okName s = true then Step.next () else Step.done (Res.ret (Step.done (Res.ret 5))))) :
    rangeS f (fun () => Res.out ()) (Sl.full [x.Route, x.Caller, x.Act, x.Instance]) () = some (if namesB x = true then Res.out () else Res.ret (Step.done (Res.ret 5))) := by
  obtain ⟨h1, h2, h3, h4⟩ := hx
  rw [rangeS_eq (by simp [Sl.list])]
  simp only [Sl.list, rangeL, namesB, hf _ _ h1, hf _ _ h2, hf _ _ h3, hf _ _ h4, Option.bind_some]
  rcases bool_cases (okName x.Route) with e1 | e1 <;> rcases bool_cases (okName x.Caller) with e2 | e2 <;> rcases bool_cases (okName x.Act) with e3 | e3 <;> rcases bool_cases (okName x.Instance) with e4 | e4 <;> simp [e1, e2, e3, e4]
theorem late_eq (l : Sl api_Record) (i : Nat) (hi : i < l.list.length) (hl : l.list.length < 1000000) : (if (i : Int) > 0 then (l.get? (w64 ((i : Int) - 1))).bind fun x7 => some (decide (l.list[i].At < x7.At)) else some false) = some (lateB l.list i l.list[i]) := by
  cases i with
  | zero => rfl
  | succ j =>
    have hj : j < l.list.length := by omega
    rw [if_pos (by omega), show w64 (((j + 1 : Nat) : Int) - 1) = (j : Int) by rw [w64_id (by omega) (by omega)]; omega, get_ok hj]
    simp [lateB, hj]
theorem rec_step1 (l : Sl api_Record) (i : Nat) (hi : i < l.list.length) (hl : l.list.length < 1000000) (hs : Short l.list[i]) : gate_CheckRecords_l0 l (i : Int) l.list[i] () = some (if recFault l.list i l.list[i] = 0 then Step.next () else Step.done (Res.ret (recFault l.list i l.list[i]))) := by
  obtain ⟨r, hr⟩ : ∃ r, r = recFault l.list i l.list[i] := ⟨_, rfl⟩
  rw [← hr]
  simp only [recFault, numsB] at hr
  simp only [gate_CheckRecords_l0, mom_eq1, Option.bind_some]
  rw [four _ _ hs inner1, late_eq l i hi hl]
  simp only [out_eq, Option.bind_some]
  rcases bool_cases (momB l.list[i].At) with e1 | e1 <;> rcases bool_cases (namesB l.list[i]) with e2 | e2 <;> rcases bool_cases (rngB 100 599 l.list[i].Status) with e3 | e3 <;> rcases bool_cases (rngB 0 4 l.list[i].Found) with e4 | e4 <;> rcases bool_cases (lateB l.list i l.list[i]) with e5 | e5 <;> simp only [e1, e2, e3, e4, e5] at hr <;> subst hr <;> simp [Res.elim, e1, e2, e3, e4, e5]
theorem rec_step2 (l : Sl api_Record) (i : Nat) (hi : i < l.list.length) (hl : l.list.length < 1000000) (hs : Short l.list[i]) : gateref1_RecordsFault_l0 l (i : Int) l.list[i] () = some (if recFault l.list i l.list[i] = 0 then Step.next () else Step.done (Res.ret (recFault l.list i l.list[i]))) := by
  obtain ⟨r, hr⟩ : ∃ r, r = recFault l.list i l.list[i] := ⟨_, rfl⟩
  rw [← hr]
  simp only [recFault, numsB] at hr
  simp only [gateref1_RecordsFault_l0, mom_eq2, Option.bind_some]
  rw [four _ _ hs inner2, late_eq l i hi hl]
  simp only [in_eq, Option.bind_some]
  rcases bool_cases (momB l.list[i].At) with e1 | e1 <;> rcases bool_cases (namesB l.list[i]) with e2 | e2 <;> rcases bool_cases (rngB 100 599 l.list[i].Status) with e3 | e3 <;> rcases bool_cases (rngB 0 4 l.list[i].Found) with e4 | e4 <;> rcases bool_cases (lateB l.list i l.list[i]) with e5 | e5 <;> simp only [e1, e2, e3, e4, e5] at hr <;> subst hr <;> simp [Res.elim, e1, e2, e3, e4, e5]
def recsFault (l : List api_Record) : Int := if l.length > 3000 then 2 else (firstSome (fun i x => if recFault l i x = 0 then none else some (recFault l i x)) 0 l).getD 0
theorem firstSome_map {α β γ : Type} (g : β → γ) (t : Nat → α → Option β) : ∀ (k : Nat) (l : List α), firstSome (fun i x => (t i x).map g) k l = (firstSome t k l).map g
  | _, [] => rfl
  | k, x :: l => by
    simp only [firstSome]
    cases t k x with
    | some b => rfl
    | none => exact firstSome_map g t (k + 1) l
theorem loop_of (l : Sl api_Record) (f : Int → api_Record → Unit → Option (Step Unit (Res Unit Int))) (hl : l.list.length ≤ 3000) (hf : ∀ (i : Nat) (hi : i < l.list.length), f (i : Int) l.list[i] () = some (if recFault l.list i l.list[i] = 0 then Step.next () else Step.done (Res.ret (recFault l.list i l.list[i])))) :
    (rangeS f (fun () => Res.out ()) l ()).bind (Res.elim (fun () => (some 0 : Option Int)) some) = some ((firstSome (fun i x => if recFault l.list i x = 0 then none else some (recFault l.list i x)) 0 l.list).getD 0) := by
  rw [rangeS_eq (by omega), rangeL_find (k := 0) (fun i x => (if recFault l.list i x = 0 then none else some (recFault l.list i x)).map (Res.ret : Int → Res Unit Int)) (by
    intro i hi
    rw [show 0 + i = i by omega, hf i hi]
    by_cases h0 : recFault l.list i l.list[i] = 0 <;> simp [h0]), firstSome_map, Option.bind_some]
  cases firstSome (fun i x => if recFault l.list i x = 0 then none else some (recFault l.list i x)) 0 l.list with
  | none => rfl
  | some b => rfl
theorem check_eq (l : Sl api_Record) (hs : ∀ x ∈ l.list, Short x) : gate_CheckRecords l = some (recsFault l.list) := by
  unfold gate_CheckRecords recsFault
  by_cases hl : l.list.length > 3000
  · rw [if_pos (by omega), if_pos hl]
  · rw [if_neg (by omega), if_neg hl]
    exact loop_of l _ (by omega) (fun i hi => rec_step1 l i hi (by omega) (hs _ (List.getElem_mem hi)))
theorem fault_eq (l : Sl api_Record) (hs : ∀ x ∈ l.list, Short x) : gateref1_RecordsFault l = some (recsFault l.list) := by
  unfold gateref1_RecordsFault recsFault
  by_cases hl : l.list.length > 3000
  · rw [if_pos (by omega), if_pos hl]
  · rw [if_neg (by omega), if_neg hl]
    exact loop_of l _ (by omega) (fun i hi => rec_step2 l i hi (by omega) (hs _ (List.getElem_mem hi)))
theorem right_of {l : List api_Record} (h : recsFault l = 0) : ∀ x ∈ l, namesB x = true := by
  unfold recsFault at h
  split at h
  · cases h
  · have key : ∀ (m : List api_Record) (k : Nat), (firstSome (fun i x => if recFault l i x = 0 then none else some (recFault l i x)) k m).getD 0 = 0 → ∀ x ∈ m, namesB x = true := by
      intro m
      induction m with
      | nil => intro k _ x hx; cases hx
      | cons y m ih =>
        intro k hk x hx
        simp only [firstSome] at hk
        by_cases h0 : recFault l k y = 0
        · rw [if_pos h0] at hk
          rcases List.mem_cons.1 hx with rfl | hx
          · cases hn : namesB x with
            | true => rfl
            | false =>
              unfold recFault at h0
              rw [hn] at h0
              split at h0
              · cases h0
              · simp at h0
          · exact ih (k + 1) hk x hx
        · rw [if_neg h0] at hk
          simp only [Option.getD_some] at hk
          exact absurd hk h0
    exact key l 0 h

/-! ### lines -/
def dashW (s : Str) : Str := if s = [] then [45] else s
/-- The line of a record. -/
def recLine (x : api_Record) : Str := Go.Lib.join [Go.Lib.itoa x.At, dashW x.Route, dashW x.Caller, dashW x.Act, dashW x.Instance, Go.Lib.itoa x.Status, Go.Lib.itoa x.Found] [32] ++ [10]
/-- A record that the stream hands out. -/
structure RecOk (x : api_Record) : Prop where
  route : x.Route.length ≤ 4
  caller : x.Caller.length ≤ 4
  act : x.Act.length ≤ 4
  inst : x.Instance.length ≤ 4
  at0 : -10000000000000 < x.At ∧ x.At < 10000000000000
  status : -10000000000000 < x.Status ∧ x.Status < 10000000000000
  found : -10000000000000 < x.Found ∧ x.Found < 10000000000000
theorem RecOk.short {x : api_Record} (h : RecOk x) : Short x := ⟨by have := h.route; omega, by have := h.caller; omega, by have := h.act; omega, by have := h.inst; omega⟩
theorem dashW_len {s : Str} (h : s.length ≤ 4) : (dashW s).length ≤ 4 := by
  unfold dashW; split
  · simp
  · exact h
theorem recJoin_len {x : api_Record} (h : RecOk x) : (Go.Lib.join [Go.Lib.itoa x.At, dashW x.Route, dashW x.Caller, dashW x.Act, dashW x.Instance, Go.Lib.itoa x.Status, Go.Lib.itoa x.Found] [32]).length ≤ 70 := by
  have l1 := itoa_lenS (n := x.At) 13 (by omega) (by have := h.at0; omega) (by have := h.at0; omega)
  have l2 := itoa_lenS (n := x.Status) 13 (by omega) (by have := h.status; omega) (by have := h.status; omega)
  have l3 := itoa_lenS (n := x.Found) 13 (by omega) (by have := h.found; omega) (by have := h.found; omega)
  have d1 := dashW_len h.route
  have d2 := dashW_len h.caller
  have d3 := dashW_len h.act
  have d4 := dashW_len h.inst
  rw [Go.Lib.join_cons]
  simp only [Go.Lib.joinTail, List.map_cons, List.map_nil, List.flatten_cons, List.flatten_nil, List.length_append, List.length_cons, List.length_nil]
  omega
theorem recLine_len {x : api_Record} (h : RecOk x) : (recLine x).length ≤ 71 := by
  have := recJoin_len h
  unfold recLine
  simp only [List.length_append, List.length_cons, List.length_nil]
  omega
theorem line_eq2 {x : api_Record} (h : RecOk x) : gateref1_RecordLine x = some (recLine x) := by
  have hd : ∀ s, gateref1_dash s = some (dashW s) := by
    intro s; unfold gateref1_dash dashW; split <;> rfl
  have hj := recJoin_len h
  unfold gateref1_RecordLine recLine
  simp only [itoa_ok (n := x.At) (by have := h.at0; omega) (by have := h.at0; omega), itoa_ok (n := x.Status) (by have := h.status; omega) (by have := h.status; omega), itoa_ok (n := x.Found) (by have := h.found; omega) (by have := h.found; omega), hd, Option.bind_some, Sl.list]
  unfold join?
  rw [if_pos ⟨by simp, by omega⟩, Option.bind_some, sadd_ok (by simp only [List.length_cons, List.length_nil]; omega)]
  rfl
theorem dash_eq1 {s : Str} (hl : s.length ≤ 4) (h : okName s = true) : gate_dash s = some (dashW s) := by
  unfold gate_dash dashW
  rw [IsKey_eq _ (by omega), Option.bind_some]
  unfold okName at h
  by_cases hs : s = []
  · subst hs; rfl
  · have hk : keyB s = true := by simpa [hs] using h
    rw [hk, if_neg (by simp), if_neg hs]
theorem line_eq1 {x : api_Record} (h : RecOk x) (hn : namesB x = true) : gate_recordText x = some (recLine x) := by
  have hj := recJoin_len h
  unfold namesB at hn
  simp only [Bool.and_eq_true] at hn
  unfold gate_recordText recLine
  simp only [itoa_ok (n := x.At) (by have := h.at0; omega) (by have := h.at0; omega), itoa_ok (n := x.Status) (by have := h.status; omega) (by have := h.status; omega), itoa_ok (n := x.Found) (by have := h.found; omega) (by have := h.found; omega), dash_eq1 h.route hn.1.1.1, dash_eq1 h.caller hn.1.1.2, dash_eq1 h.act hn.1.2, dash_eq1 h.inst hn.2, Option.bind_some, Sl.list]
  unfold join?
  rw [if_pos ⟨by simp, by omega⟩, Option.bind_some, sadd_ok (by simp only [List.length_cons, List.length_nil]; omega)]
  rfl
theorem ws_ok {b : Ar UInt8} {s : Str} (h : b.list.length + s.length ≤ 1000000000) : strings_Builder_WriteString b s = some ((s.length : Int), (), b.app s) := by
  unfold strings_Builder_WriteString
  rw [app_ok h (by omega)]
  rfl
def recText (l : List api_Record) : Str := (l.map recLine).flatten
theorem recText_len : ∀ (l : List api_Record), (∀ x ∈ l, RecOk x) → (recText l).length ≤ 71 * l.length
  | [], _ => by simp [recText]
  | x :: l, h => by
    have h1 := recLine_len (h x (by simp))
    have h3 := recText_len l (fun y hy => h y (by simp [hy]))
    simp only [recText, List.map_cons, List.flatten_cons, List.length_append, List.length_cons] at h3 ⊢
    omega
theorem recText_take (l : List api_Record) {i : Nat} (hi : i < l.length) : recText (l.take (i + 1)) = recText (l.take i) ++ recLine l[i] := by
  rw [List.take_succ_eq_append_getElem hi]
  simp only [recText, List.map_append, List.flatten_append, List.map_cons, List.map_nil, List.flatten_cons, List.flatten_nil, List.append_nil]
theorem take_short {l : Sl api_Record} (hl : l.list.length ≤ 4) (h : ∀ x ∈ l.list, RecOk x) (i : Nat) : (recText (l.list.take i)).length ≤ 284 := by
  have := recText_len (l.list.take i) (fun x hx => h x (List.mem_of_mem_take hx))
  have : (l.list.take i).length ≤ 4 := by rw [List.length_take]; omega
  omega
theorem write_loop (f : Int → api_Record → Ar UInt8 → Option (Step (Ar UInt8) (Ar UInt8))) (l : Sl api_Record) (hl : l.list.length ≤ 4) (h : ∀ x ∈ l.list, RecOk x) (hf : ∀ i x b, x ∈ l.list → b.list.length ≤ 1000 → f i x b = some (Step.next (b.app (recLine x)))) : rangeS f (fun b3 => b3) l (Ar.nil : Ar UInt8) = some (Ar.nil.app (recText l.list)) := by
  rw [rangeS_eq (by omega)]
  obtain ⟨v, h1, h2⟩ := rangeL_inv (f := f) (fin := fun b3 => b3) (l := l.list) (v0 := (Ar.nil : Ar UInt8)) (fun i v => v = Ar.nil.app (recText (l.list.take i))) (by simp [recText, Ar.app]) (by
    rintro i v hi rfl
    have := take_short hl h i
    rw [hf _ _ _ (List.getElem_mem hi) (by rw [app_list]; simp only [Ar.list, List.nil_append]; omega)]
    exact ⟨_, rfl, by rw [app_app, recText_take _ hi]⟩)
  rw [h1, h2, List.take_length]
theorem all_short {l : Sl api_Record} (hl : l.list.length ≤ 4) (h : ∀ x ∈ l.list, RecOk x) : (recText l.list).length ≤ 284 := by
  have := take_short hl h l.list.length
  rwa [List.take_length] at this
theorem recLines_eq (l : Sl api_Record) (hl : l.list.length ≤ 4) (h : ∀ x ∈ l.list, RecOk x) : gateref1_RecordLines l = some (recText l.list) := by
  unfold gateref1_RecordLines
  rw [write_loop _ l hl h (fun i x b hx hb => by
    have := recLine_len (h x hx)
    simp only [gateref1_RecordLines_l0]
    rw [line_eq2 (h x hx), Option.bind_some, ws_ok (by omega)]
    rfl), Option.bind_some, bstr_ok (by have := all_short hl h; omega)]
  rfl
theorem text_eq (l : Sl api_Record) (hl : l.list.length ≤ 4) (h : ∀ x ∈ l.list, RecOk x) : gate_Text l = some (if recsFault l.list = 0 then (recText l.list, 0) else ([], recsFault l.list)) := by
  unfold gate_Text
  rw [check_eq l (fun x hx => (h x hx).short)]
  simp only [Option.bind_some]
  by_cases h0 : recsFault l.list = 0
  · have hr := right_of h0
    have := all_short hl h
    rw [if_neg (by simp [h0]), write_loop _ l hl h (fun i x b hx hb => by
      have := recLine_len (h x hx)
      simp only [gate_Text_l0]
      rw [line_eq1 (h x hx) (hr x hx), Option.bind_some, ws_ok (by omega)]
      rfl), Option.bind_some]
    unfold strings_Builder_Len
    rw [Option.bind_some, if_neg (by rw [app_list]; simp only [Ar.list, List.nil_append]; omega), bstr_ok (by omega), if_pos h0]
    rfl
  · rw [if_pos h0, if_neg h0]
end Go.GW
