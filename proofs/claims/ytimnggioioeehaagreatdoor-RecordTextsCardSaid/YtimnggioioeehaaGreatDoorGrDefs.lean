/- Typed functions. Printed by gen.py. -/
import Derived.Test.YtimnggioioeehaaGreatDoorGxLoan
import Derived.Test.YtimnggioioeehaaGreatDoorGxStr
import Derived.Lib.Bytealg
noncomputable section
namespace Go.GW
open Go.AE
set_option linter.unusedVariables false
set_option linter.unusedSimpArgs false
structure gatemake_Stream where
  L : (Sl Int)
  at_ : Int
  deriving Inhabited
def c_gatemake_Stream (x : gatemake_Stream) : List AV := [(Sl.av 1 c_i64 x.L), (iA x.at_)]
instance (x : gatemake_Stream) : Cs (c_gatemake_Stream x) := inferInstanceAs (Cs ([(Sl.av 1 c_i64 x.L), (iA x.at_)]))
structure api_Record where
  At : Int
  Route : Str
  Caller : Str
  Act : Str
  Instance : Str
  Status : Int
  Found : Int
  deriving Inhabited
def c_api_Record (x : api_Record) : List AV := [(iA x.At), (sA x.Route), (sA x.Caller), (sA x.Act), (sA x.Instance), (iA x.Status), (iA x.Found)]
instance (x : api_Record) : Cs (c_api_Record x) := inferInstanceAs (Cs ([(iA x.At), (sA x.Route), (sA x.Caller), (sA x.Act), (sA x.Instance), (iA x.Status), (iA x.Found)]))
def eq_api_Record (x y : api_Record) : Bool := (x.At == y.At) && ((B x.Route == B y.Route) && ((B x.Caller == B y.Caller) && ((B x.Act == B y.Act) && ((B x.Instance == B y.Instance) && ((x.Status == y.Status) && ((x.Found == y.Found) && true))))))
theorem eq_api_Record_iff (x y : api_Record) : eq_api_Record x y = true ↔ x = y := by
  cases x; cases y; simp [eq_api_Record, B_inj]

def gatemake_Below (x : Int) (n : Int) : Option (Int) :=
  if n < 1 then
    some 0
  else
    (ckrem .i64 x n).bind fun x1 =>
    if x1 < 0 then
      some (w64 (x1 + n))
    else
      some x1

def gatemake_Stream_Next (s_ : gatemake_Stream) (n : Int) : Option (Int × gatemake_Stream) :=
  if (s_.L.list.length : Int) = 0 then
    (gatemake_Below (w64 ((w64 (s_.at_ + 1)) * 7919)) n).bind fun r4 =>
    some (r4, { s_ with at_ := w64 (s_.at_ + 1) })
  else
    (ckrem .i64 (w64 ((w64 (s_.at_ + 1)) - 1)) (s_.L.list.length : Int)).bind fun i =>
    (ckquo .i64 (w64 ((w64 (s_.at_ + 1)) - 1)) (s_.L.list.length : Int)).bind fun round =>
    (s_.L.get? i).bind fun x =>
    (gatemake_Below x 1073741824).bind fun r56 =>
    (gatemake_Below (w64 (r56 + (w64 (round * (w64 (7919 + i)))))) n).bind fun r41 =>
    some (r41, { s_ with at_ := w64 (s_.at_ + 1) })

def gatemake_Stream_Range (s_ : gatemake_Stream) (low : Int) (high : Int) : Option (Int × gatemake_Stream) :=
  if high < low then
    some (low, s_)
  else
    (gatemake_Stream_Next s_ (w64 ((w64 (high - low)) + 1))).bind fun (r17, s_1) =>
    some (w64 (low + r17), s_1)

def gatemake_Stream_Some (s_ : gatemake_Stream) (l : (Sl Str)) : Option (Str × gatemake_Stream) :=
  (gatemake_Stream_Next s_ (l.list.length : Int)).bind fun (r9, s_1) =>
  (l.get? r9).bind fun x =>
  some (x, s_1)

def gatemake_Stream_Pick (s_ : gatemake_Stream) (l : (Sl Int)) : Option (Int × gatemake_Stream) :=
  (gatemake_Stream_Next s_ (l.list.length : Int)).bind fun (r9, s_1) =>
  (l.get? r9).bind fun x =>
  some (x, s_1)

def gatemake_Stream_Flip (s_ : gatemake_Stream) (n : Int) : Option (Bool × gatemake_Stream) :=
  (gatemake_Stream_Next s_ n).bind fun (r7, s_1) =>
  some (r7 == 0, s_1)

def gatemake_Stream_Odd (s_ : gatemake_Stream) (low : Int) (high : Int) : Option (Int × gatemake_Stream) :=
  (gatemake_Stream_Flip s_ 12).bind fun (r8, s_1) =>
  if r8 = true then
    (gatemake_Stream_Pick s_1 (Sl.full [w64 (low - 1), w64 (high + 1), low, high, (-1099511627776), 1099511627776] : Sl Int)).bind fun (r6, s_2) =>
    some (r6, s_2)
  else
    (gatemake_Stream_Range s_1 low high).bind fun (r61, s_3) =>
    some (r61, s_3)

def gatemake_Stream_GateRecords_l0 (i : Int) : (gatemake_Stream × (Sl api_Record) × Int) → Option (Step (gatemake_Stream × (Sl api_Record) × Int) (gatemake_Stream × (Sl api_Record)))
  | (s_25, out_5, at_4) =>
    (gatemake_Stream_Some s_25 (Sl.full [[114, 97], [114, 98], [], [122, 122]] : Sl Str)).bind fun (r173, s_27) =>
    (gatemake_Stream_Some s_27 (Sl.full [[97, 112, 112, 49], [97, 112, 112, 50], []] : Sl Str)).bind fun (r203, s_28) =>
    (gatemake_Stream_Some s_28 (Sl.full [[], [111, 110, 101]] : Sl Str)).bind fun (r233, s_29) =>
    (gatemake_Stream_Some s_29 (Sl.full [[105, 97], []] : Sl Str)).bind fun (r263, s_30) =>
    (gatemake_Stream_Pick s_30 (Sl.full [200, 200, 304, 404, 429] : Sl Int)).bind fun (r293, s_31) =>
    (gatemake_Stream_Pick s_31 (Sl.full [0, 0, 1] : Sl Int)).bind fun (r323, s_32) =>
    (out_5.app? 88 [(api_Record.mk at_4 r173 r203 r233 r263 r293 r323)]).bind fun out_7 =>
    (gatemake_Stream_Pick s_32 (Sl.full [0, 1, 1296000000, 2592000000] : Sl Int)).bind fun (r393, s_33) =>
    some (Step.next (s_33, out_7, w64 (at_4 + r393)))
def gatemake_Stream_GateRecords (s_ : gatemake_Stream) (many : Int) : Option ((Sl api_Record) × gatemake_Stream) :=
  (gatemake_Stream_Next s_ 20).bind fun (at_, s_1) =>
  (rangeN (gatemake_Stream_GateRecords_l0) (fun (s_25, out_5, at_4) => (s_25, out_5)) many (s_1, (Sl.nil : Sl api_Record), at_) : Option (gatemake_Stream × (Sl api_Record))).bind fun (s_26, out_6) =>
  ((
    if (out_6.list.length : Int) > 0 then
      (gatemake_Stream_Flip s_26 15).bind fun (r471, s_41) =>
      some (s_41, r471)
    else
      some (s_26, false) : Option (gatemake_Stream × Bool))).bind fun (s_35, t48) =>
  if t48 = true then
    (gatemake_Stream_Next s_35 (out_6.list.length : Int)).bind fun (r53, s_36) =>
    (out_6.get? r53).bind fun x =>
    (gatemake_Stream_Pick s_36 (Sl.full [x.At, (-1), 0, 345686400000] : Sl Int)).bind fun (r65, s_37) =>
    (gatemake_Stream_Some s_37 (Sl.full [[114, 97], [65], [45]] : Sl Str)).bind fun (r68, s_38) =>
    (gatemake_Stream_Odd s_38 100 599).bind fun (r70, s_39) =>
    (gatemake_Stream_Odd s_39 0 4).bind fun (r72, s_40) =>
    (out_6.set? r53 ({ x with At := r65 })).bind fun out_8 =>
    (out_8.set? r53 ({ x with At := r65, Route := r68 })).bind fun out_9 =>
    (out_9.set? r53 ({ x with At := r65, Route := r68, Status := r70 })).bind fun out_10 =>
    (out_10.set? r53 ({ x with At := r65, Route := r68, Status := r70, Found := r72 })).bind fun out_11 =>
    some (out_11, s_40)
  else
    some (out_6, s_35)

def kit_IsMoment (n : Int) : Option (Bool) :=
  some ((decide (n ≥ 0)) && (decide (n < 345686400000)))

def kit_IsKey_l0 (s_ : Str) : (Int) → Option (Step (Int) (Res (Unit) (Bool)))
  | i1 =>
    if i1 < (s_.length : Int) then
      (sget s_ i1).bind fun c1 =>
      if (!(((decide (c1 ≥ 97)) && (decide (c1 ≤ 122))) || ((decide (i1 > 0)) && ((((decide (c1 ≥ 48)) && (decide (c1 ≤ 57))) || (c1 == 45)) || (c1 == 95))))) = true then
        some (Step.done (Res.ret false))
      else
        some (Step.next (w64 (i1 + 1)))
    else
      some (Step.done (Res.out ()))
def kit_IsKey (s_ : Str) : Option (Bool) :=
  (loopV (kit_IsKey_l0 s_) 0 : Option (Res (Unit) (Bool))).bind (Res.elim (fun () =>
    some ((s_ != []) && (decide ((s_.length : Int) ≤ 40)))) some)

def kit_Outside (n : Int) (low : Int) (high : Int) : Option (Bool) :=
  some ((decide (n < low)) || (decide (n > high)))

def gate_CheckRecords_l1 (i2 : Int) (s_1 : Str) : (Unit) → Option (Step (Unit) (Res (Unit) (Step (Unit) (Res (Unit) (Int)))))
  | () =>
    ((
      if ¬ s_1 = [] then
        (kit_IsKey s_1).bind fun r397 =>
        some (!r397)
      else
        some false : Option (Bool))).bind fun t413 =>
    if t413 = true then
      some (Step.done (Res.ret (Step.done (Res.ret 5))))
    else
      some (Step.next ())
def gate_CheckRecords_l0 (l : (Sl api_Record)) (i1 : Int) (x4 : api_Record) : (Unit) → Option (Step (Unit) (Res (Unit) (Int)))
  | () =>
    (kit_IsMoment x4.At).bind fun r191 =>
    if (!r191) = true then
      some (Step.done (Res.ret 1))
    else
      (rangeS (gate_CheckRecords_l1) (fun () => Res.out ()) (Sl.full [x4.Route, x4.Caller, x4.Act, x4.Instance] : Sl Str) () : Option (Res (Unit) (Step (Unit) (Res (Unit) (Int))))).bind (Res.elim (fun () =>
        (kit_Outside x4.Status 100 599).bind fun r451 =>
        ((
          if r451 = true then
            some true
          else
            (kit_Outside x4.Found 0 4).bind fun r493 =>
            some r493 : Option (Bool))).bind fun t501 =>
        if t501 = true then
          some (Step.done (Res.ret 1))
        else
          ((
            if i1 > 0 then
              (l.get? (w64 (i1 - 1))).bind fun x7 =>
              some (decide (x4.At < x7.At))
            else
              some false : Option (Bool))).bind fun t631 =>
          if t631 = true then
            some (Step.done (Res.ret 7))
          else
            some (Step.next ())) some)
def gate_CheckRecords (l : (Sl api_Record)) : Option (Int) :=
  if (l.list.length : Int) > 3000 then
    some 2
  else
    (rangeS (gate_CheckRecords_l0 l) (fun () => Res.out ()) l () : Option (Res (Unit) (Int))).bind (Res.elim (fun () =>
      some 0) some)

def gate_dash (s_ : Str) : Option (Str) :=
  (kit_IsKey s_).bind fun r4 =>
  if (!r4) = true then
    some [45]
  else
    some s_

def gate_recordText (r_ : api_Record) : Option (Str) :=
  (itoa? r_.At).bind fun r5 =>
  (gate_dash r_.Route).bind fun r8 =>
  (gate_dash r_.Caller).bind fun r11 =>
  (gate_dash r_.Act).bind fun r14 =>
  (gate_dash r_.Instance).bind fun r17 =>
  (itoa? r_.Status).bind fun r20 =>
  (itoa? r_.Found).bind fun r23 =>
  (join? (Sl.full [r5, r8, r11, r14, r17, r20, r23] : Sl Str).list [32]).bind fun r25 =>
  (sadd r25 [10]).bind fun r2 =>
  some r2

def strings_Builder_WriteString (b : (Ar UInt8)) (s_ : Str) : Option (Int × Unit × (Ar UInt8)) :=
  (b.app? 1 s_).bind fun buf =>
  some ((s_.length : Int), (), buf)

def strings_Builder_Len (b : (Ar UInt8)) : Option (Int) :=
  some (b.list.length : Int)

def gate_Text_l0 (i : Int) (x2 : api_Record) : ((Ar UInt8)) → Option (Step ((Ar UInt8)) ((Ar UInt8)))
  | b3 =>
    (gate_recordText x2).bind fun r202 =>
    (strings_Builder_WriteString b3 r202).bind fun (q02, q12, b5) =>
    some (Step.next b5)
def gate_Text (l : (Sl api_Record)) : Option (Str × Int) :=
  (gate_CheckRecords l).bind fun e =>
  if ¬ e = 0 then
    some ([], e)
  else
    (rangeS (gate_Text_l0) (fun b3 => b3) l (Ar.nil : Ar UInt8) : Option ((Ar UInt8))).bind fun b4 =>
    (strings_Builder_Len b4).bind fun r23 =>
    if r23 > 200000 then
      some ([], 2)
    else
      (bstr? b4).bind fun r2 =>
      some (r2, 0)

def gateref2_in (n : Int) (low : Int) (high : Int) : Option (Bool) :=
  some ((decide (low ≤ n)) && (decide (n ≤ high)))

def gateref2_Moment (at_ : Int) : Option (Bool) :=
  (gateref2_in at_ 0 345686399999).bind fun r2 =>
  some r2

def stringslite_IndexByte (s_ : Str) (c : Int) : Option (Int) :=
  some (Go.Lib.indexByte s_ c.toNat.toUInt8)

def strings_IndexByte (s_ : Str) (c : Int) : Option (Int) :=
  (stringslite_IndexByte s_ c).bind fun r4 =>
  some r4

def gateref2_only_l0 (s_ : Str) (some_ : Str) (i : Int) : (Unit) → Option (Step (Unit) (Res (Unit) (Bool)))
  | () =>
    (sget s_ i).bind fun r141 =>
    (strings_IndexByte some_ r141).bind fun r151 =>
    if r151 < 0 then
      some (Step.done (Res.ret false))
    else
      some (Step.next ())
def gateref2_only (s_ : Str) (some_ : Str) : Option (Bool) :=
  (rangeN (gateref2_only_l0 s_ some_) (fun () => Res.out ()) (s_.length : Int) () : Option (Res (Unit) (Bool))).bind (Res.elim (fun () =>
    some true) some)

def gateref2_Key (s_ : Str) : Option (Bool) :=
  (gateref2_in (s_.length : Int) 1 40).bind fun r5 =>
  ((
    if r5 = true then
      (ssub s_ 0 1).bind fun r81 =>
      (gateref2_only r81 [97, 98, 99, 100, 101, 102, 103, 104, 105, 106, 107, 108, 109, 110, 111, 112, 113, 114, 115, 116, 117, 118, 119, 120, 121, 122]).bind fun r91 =>
      some r91
    else
      some false : Option (Bool))).bind fun t10 =>
  ((
    if t10 = true then
      (gateref2_only s_ [97, 98, 99, 100, 101, 102, 103, 104, 105, 106, 107, 108, 109, 110, 111, 112, 113, 114, 115, 116, 117, 118, 119, 120, 121, 122, 48, 49, 50, 51, 52, 53, 54, 55, 56, 57, 45, 95]).bind fun r131 =>
      some r131
    else
      some false : Option (Bool))).bind fun t14 =>
  some t14

def gateref1_in (n : Int) (low : Int) (high : Int) : Option (Bool) :=
  some ((decide (low ≤ n)) && (decide (n ≤ high)))

def gateref1_RecordsFault_l1 (i2 : Int) (s_1 : Str) : (Unit) → Option (Step (Unit) (Res (Unit) (Step (Unit) (Res (Unit) (Int)))))
  | () =>
    ((
      if ¬ s_1 = [] then
        (gateref2_Key s_1).bind fun r397 =>
        some (!r397)
      else
        some false : Option (Bool))).bind fun t413 =>
    if t413 = true then
      some (Step.done (Res.ret (Step.done (Res.ret 5))))
    else
      some (Step.next ())
def gateref1_RecordsFault_l0 (l : (Sl api_Record)) (i1 : Int) (x4 : api_Record) : (Unit) → Option (Step (Unit) (Res (Unit) (Int)))
  | () =>
    (gateref2_Moment x4.At).bind fun r191 =>
    if (!r191) = true then
      some (Step.done (Res.ret 1))
    else
      (rangeS (gateref1_RecordsFault_l1) (fun () => Res.out ()) (Sl.full [x4.Route, x4.Caller, x4.Act, x4.Instance] : Sl Str) () : Option (Res (Unit) (Step (Unit) (Res (Unit) (Int))))).bind (Res.elim (fun () =>
        (gateref1_in x4.Status 100 599).bind fun r451 =>
        ((
          if (!r451) = true then
            some true
          else
            (gateref1_in x4.Found 0 4).bind fun r503 =>
            some (!r503) : Option (Bool))).bind fun t521 =>
        if t521 = true then
          some (Step.done (Res.ret 1))
        else
          ((
            if i1 > 0 then
              (l.get? (w64 (i1 - 1))).bind fun x7 =>
              some (decide (x4.At < x7.At))
            else
              some false : Option (Bool))).bind fun t651 =>
          if t651 = true then
            some (Step.done (Res.ret 7))
          else
            some (Step.next ())) some)
def gateref1_RecordsFault (l : (Sl api_Record)) : Option (Int) :=
  if (l.list.length : Int) > 3000 then
    some 2
  else
    (rangeS (gateref1_RecordsFault_l0 l) (fun () => Res.out ()) l () : Option (Res (Unit) (Int))).bind (Res.elim (fun () =>
      some 0) some)

def gateref1_dash (s_ : Str) : Option (Str) :=
  if s_ = [] then
    some [45]
  else
    some s_

def gateref1_RecordLine (r_ : api_Record) : Option (Str) :=
  (itoa? r_.At).bind fun r7 =>
  (gateref1_dash r_.Route).bind fun r10 =>
  (gateref1_dash r_.Caller).bind fun r13 =>
  (gateref1_dash r_.Act).bind fun r16 =>
  (gateref1_dash r_.Instance).bind fun r19 =>
  (itoa? r_.Status).bind fun r23 =>
  (itoa? r_.Found).bind fun r27 =>
  (join? (Sl.full [r7, r10, r13, r16, r19, r23, r27] : Sl Str).list [32]).bind fun r29 =>
  (sadd r29 [10]).bind fun r2 =>
  some r2

def gateref1_RecordLines_l0 (i : Int) (x2 : api_Record) : ((Ar UInt8)) → Option (Step ((Ar UInt8)) ((Ar UInt8)))
  | b3 =>
    (gateref1_RecordLine x2).bind fun r132 =>
    (strings_Builder_WriteString b3 r132).bind fun (q02, q12, b5) =>
    some (Step.next b5)
def gateref1_RecordLines (l : (Sl api_Record)) : Option (Str) :=
  (rangeS (gateref1_RecordLines_l0) (fun b3 => b3) l (Ar.nil : Ar UInt8) : Option ((Ar UInt8))).bind fun b4 =>
  (bstr? b4).bind fun r2 =>
  some r2

def gatemake_Stream_Changed (s_ : gatemake_Stream) (t : Str) (with_ : Str) : Option (Str × gatemake_Stream) :=
  if ((t == []) || (with_ == [])) = true then
    some (with_, s_)
  else
    (gatemake_Stream_Next s_ (t.length : Int)).bind fun (i, s_1) =>
    (gatemake_Stream_Next s_1 (with_.length : Int)).bind fun (r24, s_2) =>
    (sget with_ r24).bind fun c =>
    (gatemake_Stream_Next s_2 3).bind fun (r27, s_3) =>
    if r27 = 0 then
      (ssub t 0 i).bind fun r32 =>
      (sadd r32 (utf8 (IntKind.i32.wrap (c)))).bind fun r36 =>
      (ssub t (w64 (i + 1)) (t.length : Int)).bind fun r40 =>
      (sadd r36 r40).bind fun r6 =>
      some (r6, s_3)
    else
      if r27 = 1 then
        (ssub t 0 i).bind fun r46 =>
        (sadd r46 (utf8 (IntKind.i32.wrap (c)))).bind fun r50 =>
        (ssub t i (t.length : Int)).bind fun r53 =>
        (sadd r50 r53).bind fun r61 =>
        some (r61, s_3)
      else
        (ssub t 0 i).bind fun r57 =>
        (ssub t (w64 (i + 1)) (t.length : Int)).bind fun r611 =>
        (sadd r57 r611).bind fun r62 =>
        some (r62, s_3)

def gatemake_Stream_RecordString_l0 (i : Int) : (gatemake_Stream × Str) → Option (Step (gatemake_Stream × Str) (gatemake_Stream × Str))
  | (s_7, t5) =>
    (gatemake_Stream_Changed s_7 t5 [32, 10, 45, 48, 49, 57, 97]).bind fun (t7, s_9) =>
    some (Step.next (s_9, t7))
def gatemake_Stream_RecordString (s_ : gatemake_Stream) : Option (Str × gatemake_Stream) :=
  (gatemake_Stream_Range s_ 0 3).bind fun (r6, s_1) =>
  (gatemake_Stream_GateRecords s_1 r6).bind fun (r7, s_2) =>
  (gateref1_RecordLines r7).bind fun t =>
  (gatemake_Stream_Pick s_2 (Sl.full [0, 0, 1, 2] : Sl Int)).bind fun (r11, s_3) =>
  (rangeN (gatemake_Stream_RecordString_l0) (fun (s_7, t5) => (s_7, t5)) r11 (s_3, t) : Option (gatemake_Stream × Str)).bind fun (s_8, t6) =>
  some (t6, s_8)

def kit_Lines (s_ : Str) : Option ((Sl Str) × Bool) :=
  (split? s_ [10]).bind fun l =>
  (l.get? (w64 ((l.list.length : Int) - 1))).bind fun x =>
  if x = [] then
    (l.sub? 0 (w64 ((l.list.length : Int) - 1))).bind fun l1 =>
    some (l1, true)
  else
    some (l, false)

def slices_Index_string_string__r0_l0 (s_ : (Sl Str)) (v_ : Str) (i : Int) : (Unit) → Option (Step (Unit) (Res (Unit) (Int)))
  | () =>
    (s_.get? i).bind fun x1 =>
    if v_ = x1 then
      some (Step.done (Res.ret i))
    else
      some (Step.next ())
def slices_Index_string_string__r0 (s_ : (Sl Str)) (v_ : Str) : Option (Int) :=
  (rangeN (slices_Index_string_string__r0_l0 s_ v_) (fun () => Res.out ()) (s_.list.length : Int) () : Option (Res (Unit) (Int))).bind (Res.elim (fun () =>
    some (-1)) some)

def slices_Contains_string_string__r0 (s_ : (Sl Str)) (v_ : Str) : Option (Bool) :=
  (slices_Index_string_string__r0 s_ v_).bind fun r7 =>
  some (decide (r7 ≥ 0))

def kit_Words (s_ : Str) : Option ((Sl Str) × Bool) :=
  (split? s_ [32]).bind fun l =>
  (slices_Contains_string_string__r0 l []).bind fun r9 =>
  some (l, !r9)

def stringslite_HasPrefix (s_ : Str) (prefix_ : Str) : Option (Bool) :=
  ((
    if (s_.length : Int) ≥ (prefix_.length : Int) then
      (ssub s_ 0 (prefix_.length : Int)).bind fun r141 =>
      some (r141 == prefix_)
    else
      some false : Option (Bool))).bind fun t17 =>
  some t17

def stringslite_TrimPrefix (s_ : Str) (prefix_ : Str) : Option (Str) :=
  (stringslite_HasPrefix s_ prefix_).bind fun r7 =>
  if r7 = true then
    (ssub s_ (prefix_.length : Int) (s_.length : Int)).bind fun r4 =>
    some r4
  else
    some s_

def strings_TrimPrefix (s_ : Str) (prefix_ : Str) : Option (Str) :=
  (stringslite_TrimPrefix s_ prefix_).bind fun r4 =>
  some r4

def kit_Number_l0 (digits : Str) : (Int) → Option (Step (Int) (Res (Unit) (Int × Bool)))
  | i1 =>
    if i1 < (digits.length : Int) then
      (sget digits i1).bind fun r371 =>
      ((
        if r371 < 48 then
          some true
        else
          (sget digits i1).bind fun r423 =>
          some (decide (r423 > 57)) : Option (Bool))).bind fun t441 =>
      if t441 = true then
        some (Step.done (Res.ret (0, false)))
      else
        some (Step.next (w64 (i1 + 1)))
    else
      some (Step.done (Res.out ()))
def kit_Number (s_ : Str) (most : Int) : Option (Int × Bool) :=
  (strings_TrimPrefix s_ [45]).bind fun digits =>
  ((
    if ((digits == []) || (decide ((digits.length : Int) > most))) = true then
      some true
    else
      (sget digits 0).bind fun r221 =>
      some ((r221 == 48) && (s_ != [48])) : Option (Bool))).bind fun t28 =>
  if t28 = true then
    some (0, false)
  else
    (loopV (kit_Number_l0 digits) 0 : Option (Res (Unit) (Int × Bool))).bind (Res.elim (fun () =>
      (atoi? s_).bind fun r47 =>
      some (r47, true)) some)

def gate_readRecord_l0 : ((Sl Str) × Int) → Option (Step ((Sl Str) × Int) ((Sl Str)))
  | (w4, i2) =>
    if i2 ≤ 4 then
      (w4.get? i2).bind fun x4 =>
      if x4 = [45] then
        (w4.get? i2).bind fun x5 =>
        (w4.set? i2 []).bind fun w6 =>
        some (Step.next (w6, w64 (i2 + 1)))
      else
        some (Step.next (w4, w64 (i2 + 1)))
    else
      some (Step.done w4)
def gate_readRecord (line : Str) : Option (api_Record × Bool) :=
  (kit_Words line).bind fun (w, ok_) =>
  if ((!ok_) || ((w.list.length : Int) != 7)) = true then
    some ((api_Record.mk 0 [] [] [] [] 0 0), false)
  else
    (loopV (gate_readRecord_l0) (w, 1) : Option ((Sl Str))).bind fun w5 =>
    (w5.get? 0).bind fun x6 =>
    (kit_Number x6 15).bind fun (at_, one) =>
    (w5.get? 5).bind fun x7 =>
    (kit_Number x7 15).bind fun (status, two) =>
    (w5.get? 6).bind fun x8 =>
    (kit_Number x8 15).bind fun (found, three) =>
    (w5.get? 1).bind fun x9 =>
    (w5.get? 2).bind fun x10 =>
    (w5.get? 3).bind fun x11 =>
    (w5.get? 4).bind fun x12 =>
    some ((api_Record.mk at_ x9 x10 x11 x12 status found), ((one && two) && three))

def gate_Read_l0 (lines : (Sl Str)) (ended : Bool) (i : Int) (line : Str) : ((Sl api_Record)) → Option (Step ((Sl api_Record)) (Res ((Sl api_Record)) ((Sl api_Record) × Int × Int)))
  | out_5 =>
    (gate_readRecord line).bind fun (q03, ok_3) =>
    if ((!ok_3) || ((!ended) && (i == (w64 ((lines.list.length : Int) - 1))))) = true then
      some (Step.done (Res.ret (Sl.nil, i, 9)))
    else
      (out_5.app? 88 [q03]).bind fun out_7 =>
      some (Step.next out_7)
def gate_Read (text : Str) : Option ((Sl api_Record) × Int × Int) :=
  if (text.length : Int) > 200000 then
    some (Sl.nil, 0, 2)
  else
    (kit_Lines text).bind fun (lines, ended) =>
    (rangeS (gate_Read_l0 lines ended) (fun out_5 => Res.out out_5) lines (Sl.nil : Sl api_Record) : Option (Res ((Sl api_Record)) ((Sl api_Record) × Int × Int))).bind (Res.elim (fun out_6 =>
      (gate_CheckRecords out_6).bind fun e =>
      if ¬ e = 0 then
        some (Sl.nil, 0, e)
      else
        some (out_6, 0, 0)) some)

def gateref2_Number (s_ : Str) (most : Int) : Option (Int × Bool) :=
  (strings_TrimPrefix s_ [45]).bind fun t =>
  ((
    if ((t == []) || (decide ((t.length : Int) > most))) = true then
      some true
    else
      (gateref2_only t [48, 49, 50, 51, 52, 53, 54, 55, 56, 57]).bind fun r211 =>
      some (!r211) : Option (Bool))).bind fun t23 =>
  if t23 = true then
    some (0, false)
  else
    (atoi? s_).bind fun r26 =>
    ((
      if true = true then
        (itoa? r26).bind fun r341 =>
        some (r341 == s_)
      else
        some false : Option (Bool))).bind fun t37 =>
    some (r26, t37)

def gateref1_RecordsRead_1_l0 (cap1 : (Ar api_Record)) (w : (Sl Str)) (i : Int) (k1 : Int) : ((List Int)) → Option (Step ((List Int)) (Res ((List Int)) (Bool × (Ar api_Record))))
  | n3 =>
    (w.get? k1).bind fun x4 =>
    (gateref2_Number x4 15).bind fun (q02, good2) =>
    (inr? 3 i).bind fun j2 =>
    (ary? n3 j2 q02).bind fun n5 =>
    if (!good2) = true then
      some (Step.done (Res.ret (false, cap1)))
    else
      some (Step.next n5)
def gateref1_RecordsRead_1_l1 (i1 : Int) : ((Sl Str)) → Option (Step ((Sl Str)) ((Sl Str)))
  | w4 =>
    (w4.get? i1).bind fun x9 =>
    if x9 = [45] then
      (w4.get? i1).bind fun x10 =>
      (w4.set? i1 []).bind fun w6 =>
      some (Step.next w6)
    else
      some (Step.next w4)
def gateref1_RecordsRead_1 (line : Str) (cap1 : (Ar api_Record)) : Option (Bool × (Ar api_Record)) :=
  (split? line [32]).bind fun w =>
  ((
    if ¬ (w.list.length : Int) = 7 then
      some true
    else
      (slices_Contains_string_string__r0 w []).bind fun r171 =>
      some r171 : Option (Bool))).bind fun t18 =>
  if t18 = true then
    some (false, cap1)
  else
    (rangeS (gateref1_RecordsRead_1_l0 cap1 w) (fun n3 => Res.out n3) (Sl.full [0, 5, 6] : Sl Int) [0, 0, 0] : Option (Res ((List Int)) (Bool × (Ar api_Record)))).bind (Res.elim (fun n4 =>
      (rangeN (gateref1_RecordsRead_1_l1) (fun w4 => w4) (w.list.length : Int) w : Option ((Sl Str))).bind fun w5 =>
      (inr? 3 0).bind fun j3 =>
      (n4[j3]?).bind fun r55 =>
      (w5.get? 1).bind fun x11 =>
      (w5.get? 2).bind fun x12 =>
      (w5.get? 3).bind fun x13 =>
      (w5.get? 4).bind fun x14 =>
      (inr? 3 1).bind fun j4 =>
      (n4[j4]?).bind fun r69 =>
      (inr? 3 2).bind fun j5 =>
      (n4[j5]?).bind fun r71 =>
      (cap1.app? 88 [(api_Record.mk r55 x11 x12 x13 x14 r69 r71)]).bind fun buf =>
      some (true, buf)) some)

def gateref1_Lines__gateref1_RecordsRead_1_l0 : ((Ar api_Record) × Str × Int) → Option (Step ((Ar api_Record) × Str × Int) (Res ((Ar api_Record)) (Int × Bool × (Ar api_Record))))
  | (cap17, text3, i2) =>
    if ¬ text3 = [] then
      (cut? text3 [10]).bind fun r162 =>
      ((
        if (!r162.2.2) = true then
          some (cap17, true)
        else
          (gateref1_RecordsRead_1 r162.1 cap17).bind fun (r255, cap111) =>
          some (cap111, !r255) : Option ((Ar api_Record) × Bool))).bind fun (cap110, t272) =>
      if t272 = true then
        some (Step.done (Res.ret (i2, false, cap110)))
      else
        some (Step.next (cap110, r162.2.1, w64 (i2 + 1)))
    else
      some (Step.done (Res.out cap17))
def gateref1_Lines__gateref1_RecordsRead_1 (text : Str) (cap1_0 : (Ar api_Record)) : Option (Int × Bool × (Ar api_Record)) :=
  (loopV (gateref1_Lines__gateref1_RecordsRead_1_l0) (cap1_0, text, 0) : Option (Res ((Ar api_Record)) (Int × Bool × (Ar api_Record)))).bind (Res.elim (fun cap18 =>
    some (0, true, cap18)) some)

def gateref1_RecordsRead (text : Str) : Option ((Sl api_Record) × Int × Int) :=
  if (text.length : Int) > 200000 then
    some (Sl.nil, 0, 2)
  else
    (gateref1_Lines__gateref1_RecordsRead_1 text (Ar.nil : Ar api_Record)).bind fun (i, ok_, out_) =>
    if (!ok_) = true then
      some (Sl.nil, i, 9)
    else
      (gateref1_RecordsFault out_.sl).bind fun f =>
      if ¬ f = 0 then
        some (Sl.nil, 0, f)
      else
        some (out_.sl, 0, 0)

def slices_Equal_api_Record_api_Record_l0 (s2 : (Sl api_Record)) (i : Int) (x2 : api_Record) : (Unit) → Option (Step (Unit) (Res (Unit) (Bool)))
  | () =>
    (s2.get? i).bind fun x3 =>
    if (!(eq_api_Record x2 x3)) = true then
      some (Step.done (Res.ret false))
    else
      some (Step.next ())
def slices_Equal_api_Record_api_Record (s1 : (Sl api_Record)) (s2 : (Sl api_Record)) : Option (Bool) :=
  if ¬ (s1.list.length : Int) = (s2.list.length : Int) then
    some false
  else
    (rangeS (slices_Equal_api_Record_api_Record_l0 s2) (fun () => Res.out ()) s1 () : Option (Res (Unit) (Bool))).bind (Res.elim (fun () =>
      some true) some)

def gatelaw1_RecordTexts (l : (Sl Int)) : Option (Bool) :=
  (gatemake_Stream_Range (gatemake_Stream.mk l 0) 0 4).bind fun (r20, t17) =>
  (gatemake_Stream_GateRecords t17 r20).bind fun (r_, t171) =>
  (gate_Text r_).bind fun (t, e) =>
  (gateref1_RecordsFault r_).bind fun fault =>
  ((
    if ¬ e = fault then
      some true
    else
      ((
        if fault = 0 then
          (gateref1_RecordLines r_).bind fun r383 =>
          some (t != r383)
        else
          some false : Option (Bool))).bind fun t401 =>
      some t401 : Option (Bool))).bind fun t41 =>
  if (t41 || ((fault != 0) && (t != []))) = true then
    some false
  else
    (gatemake_Stream_RecordString t171).bind fun (text, t172) =>
    (gate_Read text).bind fun (a, i, f) =>
    (gateref1_RecordsRead text).bind fun (b, k1, g) =>
    ((
      if ((f == g) && (i == k1)) = true then
        (slices_Equal_api_Record_api_Record a b).bind fun r751 =>
        some r751
      else
        some false : Option (Bool))).bind fun t76 =>
    ((
      if t76 = true then
        some true
      else
        some false : Option (Bool))).bind fun t79 =>
    some t79
end Go.GW
