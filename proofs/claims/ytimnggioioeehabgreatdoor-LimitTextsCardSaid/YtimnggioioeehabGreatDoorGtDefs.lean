/- Typed functions. Printed by gen.py. -/
import Derived.Test.YtimnggioioeehabGreatDoorGxLoan
import Derived.Test.YtimnggioioeehabGreatDoorGxStr
import Derived.Lib.Bytealg
noncomputable section
namespace Go.GW
open Go.AE
set_option linter.unusedVariables false
set_option linter.unusedSimpArgs false
structure gatemake_Stream where
  L : (Sl Int)
  at_ : Int
  deriving Inhabited
def c_gatemake_Stream (x : gatemake_Stream) : List AV := [(Sl.av 1 c_i64 x.L), (iA x.at_)]
instance (x : gatemake_Stream) : Cs (c_gatemake_Stream x) := inferInstanceAs (Cs ([(Sl.av 1 c_i64 x.L), (iA x.at_)]))
structure api_Limit where
  Key : Str
  Kind : Int
  Most : Int
  Per : Int
  Burst : Int
  deriving Inhabited
def c_api_Limit (x : api_Limit) : List AV := [(sA x.Key), (iA x.Kind), (iA x.Most), (iA x.Per), (iA x.Burst)]
instance (x : api_Limit) : Cs (c_api_Limit x) := inferInstanceAs (Cs ([(sA x.Key), (iA x.Kind), (iA x.Most), (iA x.Per), (iA x.Burst)]))
def eq_api_Limit (x y : api_Limit) : Bool := (B x.Key == B y.Key) && ((x.Kind == y.Kind) && ((x.Most == y.Most) && ((x.Per == y.Per) && ((x.Burst == y.Burst) && true))))
theorem eq_api_Limit_iff (x y : api_Limit) : eq_api_Limit x y = true ↔ x = y := by
  cases x; cases y; simp [eq_api_Limit, B_inj]

def gatemake_Below (x : Int) (n : Int) : Option (Int) :=
  if n < 1 then
    some 0
  else
    (ckrem .i64 x n).bind fun x1 =>
    if x1 < 0 then
      some (w64 (x1 + n))
    else
      some x1

def gatemake_Stream_Next (s_ : gatemake_Stream) (n : Int) : Option (Int × gatemake_Stream) :=
  if (s_.L.list.length : Int) = 0 then
    (gatemake_Below (w64 ((w64 (s_.at_ + 1)) * 7919)) n).bind fun r4 =>
    some (r4, { s_ with at_ := w64 (s_.at_ + 1) })
  else
    (ckrem .i64 (w64 ((w64 (s_.at_ + 1)) - 1)) (s_.L.list.length : Int)).bind fun i =>
    (ckquo .i64 (w64 ((w64 (s_.at_ + 1)) - 1)) (s_.L.list.length : Int)).bind fun round =>
    (s_.L.get? i).bind fun x =>
    (gatemake_Below x 1073741824).bind fun r56 =>
    (gatemake_Below (w64 (r56 + (w64 (round * (w64 (7919 + i)))))) n).bind fun r41 =>
    some (r41, { s_ with at_ := w64 (s_.at_ + 1) })

def gatemake_Stream_Flip (s_ : gatemake_Stream) (n : Int) : Option (Bool × gatemake_Stream) :=
  (gatemake_Stream_Next s_ n).bind fun (r7, s_1) =>
  some (r7 == 0, s_1)

def gatemake_Stream_Range (s_ : gatemake_Stream) (low : Int) (high : Int) : Option (Int × gatemake_Stream) :=
  if high < low then
    some (low, s_)
  else
    (gatemake_Stream_Next s_ (w64 ((w64 (high - low)) + 1))).bind fun (r17, s_1) =>
    some (w64 (low + r17), s_1)

def gatemake_Stream_Pick (s_ : gatemake_Stream) (l : (Sl Int)) : Option (Int × gatemake_Stream) :=
  (gatemake_Stream_Next s_ (l.list.length : Int)).bind fun (r9, s_1) =>
  (l.get? r9).bind fun x =>
  some (x, s_1)

def gatemake_Stream_RightLimit (s_ : gatemake_Stream) (key : Str) : Option (api_Limit × gatemake_Stream) :=
  (gatemake_Stream_Range s_ 1 4).bind fun (r8, s_1) =>
  (gatemake_Stream_Pick s_1 (Sl.full [1, 2, 3, 5] : Sl Int)).bind fun (r11, s_2) =>
  (gatemake_Stream_Pick s_2 (Sl.full [1, 7, 10, 50, 100] : Sl Int)).bind fun (r14, s_3) =>
  if r8 = 3 then
    (gatemake_Stream_Pick s_3 (Sl.full [1, 2, 5] : Sl Int)).bind fun (r22, s_4) =>
    some ((api_Limit.mk key r8 r11 r14 r22), s_4)
  else
    if r8 = 4 then
      some ((api_Limit.mk key r8 r11 0 0), s_3)
    else
      some ((api_Limit.mk key r8 r11 r14 0), s_3)

def gatemake_Stream_Some (s_ : gatemake_Stream) (l : (Sl Str)) : Option (Str × gatemake_Stream) :=
  (gatemake_Stream_Next s_ (l.list.length : Int)).bind fun (r9, s_1) =>
  (l.get? r9).bind fun x =>
  some (x, s_1)

def gatemake_Stream_Odd (s_ : gatemake_Stream) (low : Int) (high : Int) : Option (Int × gatemake_Stream) :=
  (gatemake_Stream_Flip s_ 12).bind fun (r8, s_1) =>
  if r8 = true then
    (gatemake_Stream_Pick s_1 (Sl.full [w64 (low - 1), w64 (high + 1), low, high, (-1099511627776), 1099511627776] : Sl Int)).bind fun (r6, s_2) =>
    some (r6, s_2)
  else
    (gatemake_Stream_Range s_1 low high).bind fun (r61, s_3) =>
    some (r61, s_3)

def gatemake_Stream_Limits_l0 (i : Int) (key : Str) : (gatemake_Stream × (Sl api_Limit)) → Option (Step (gatemake_Stream × (Sl api_Limit)) (gatemake_Stream × (Sl api_Limit)))
  | (s_9, out_5) =>
    (gatemake_Stream_Flip s_9 2).bind fun (r143, s_11) =>
    if r143 = true then
      (gatemake_Stream_RightLimit s_11 key).bind fun (r183, s_12) =>
      (out_5.app? 48 [r183]).bind fun out_7 =>
      some (Step.next (s_12, out_7))
    else
      some (Step.next (s_11, out_5))
def gatemake_Stream_Limits (s_ : gatemake_Stream) : Option ((Sl api_Limit) × gatemake_Stream) :=
  (rangeS (gatemake_Stream_Limits_l0) (fun (s_9, out_5) => (s_9, out_5)) (Sl.full [[108, 97], [108, 98], [108, 99]] : Sl Str) (s_, (Sl.nil : Sl api_Limit)) : Option (gatemake_Stream × (Sl api_Limit))).bind fun (s_10, out_6) =>
  (gatemake_Stream_Flip s_10 15).bind fun (r23, s_13) =>
  if r23 = true then
    (gatemake_Stream_Some s_13 (Sl.full [[], [108, 97], [122, 122]] : Sl Str)).bind fun (r27, s_14) =>
    (gatemake_Stream_RightLimit s_14 r27).bind fun (r28, s_15) =>
    (gatemake_Stream_Next s_15 4).bind fun (r30, s_16) =>
    if r30 = 0 then
      (gatemake_Stream_Odd s_16 1 4).bind fun (r37, s_17) =>
      (out_6.app? 48 [{ r28 with Kind := r37 }]).bind fun out_8 =>
      some (out_8, s_17)
    else
      if r30 = 1 then
        (gatemake_Stream_Odd s_16 1 1000000000).bind fun (r42, s_18) =>
        (out_6.app? 48 [{ r28 with Most := r42 }]).bind fun out_9 =>
        some (out_9, s_18)
      else
        if r30 = 2 then
          (gatemake_Stream_Odd s_16 0 8640000000).bind fun (r47, s_19) =>
          (out_6.app? 48 [{ r28 with Per := r47 }]).bind fun out_10 =>
          some (out_10, s_19)
        else
          (gatemake_Stream_Odd s_16 0 1000000000).bind fun (r32, s_20) =>
          (out_6.app? 48 [{ r28 with Burst := r32 }]).bind fun out_11 =>
          some (out_11, s_20)
  else
    some (out_6, s_13)

def kit_IsKey_l0 (s_ : Str) : (Int) → Option (Step (Int) (Res (Unit) (Bool)))
  | i1 =>
    if i1 < (s_.length : Int) then
      (sget s_ i1).bind fun c1 =>
      if (!(((decide (c1 ≥ 97)) && (decide (c1 ≤ 122))) || ((decide (i1 > 0)) && ((((decide (c1 ≥ 48)) && (decide (c1 ≤ 57))) || (c1 == 45)) || (c1 == 95))))) = true then
        some (Step.done (Res.ret false))
      else
        some (Step.next (w64 (i1 + 1)))
    else
      some (Step.done (Res.out ()))
def kit_IsKey (s_ : Str) : Option (Bool) :=
  (loopV (kit_IsKey_l0 s_) 0 : Option (Res (Unit) (Bool))).bind (Res.elim (fun () =>
    some ((s_ != []) && (decide ((s_.length : Int) ≤ 40)))) some)

def kit_Outside (n : Int) (low : Int) (high : Int) : Option (Bool) :=
  some ((decide (n < low)) || (decide (n > high)))

def limit_limitFault (l : (Sl api_Limit)) (i : Int) : Option (Int) :=
  (l.get? i).bind fun x =>
  (kit_IsKey x.Key).bind fun r21 =>
  if (!r21) = true then
    some 5
  else
    ((
      if i > 0 then
        (l.get? (w64 (i - 1))).bind fun x2 =>
        some (sle x.Key x2.Key)
      else
        some false : Option (Bool))).bind fun t36 =>
    if t36 = true then
      some 7
    else
      (kit_Outside x.Kind 1 4).bind fun r37 =>
      if r37 = true then
        some 4
      else
        (kit_Outside x.Most 1 1000000000).bind fun r41 =>
        if r41 = true then
          some 1
        else
          ((
            if ((x.Kind == 4) && (x.Per != 0)) = true then
              some true
            else
              ((
                if (!(x.Kind == 4)) = true then
                  (kit_Outside x.Per 1 8640000000).bind fun r583 =>
                  some r583
                else
                  some false : Option (Bool))).bind fun t591 =>
              some t591 : Option (Bool))).bind fun t60 =>
          if t60 = true then
            some 1
          else
            ((
              if ((!(x.Kind == 3)) && (x.Burst != 0)) = true then
                some true
              else
                ((
                  if x.Kind = 3 then
                    (kit_Outside x.Burst 1 1000000000).bind fun r743 =>
                    some r743
                  else
                    some false : Option (Bool))).bind fun t751 =>
                some t751 : Option (Bool))).bind fun t76 =>
            if t76 = true then
              some 1
            else
              some 0

def limit_CheckLimits_l0 (l : (Sl api_Limit)) (i : Int) (x : api_Limit) : (Unit) → Option (Step (Unit) (Res (Unit) (Int)))
  | () =>
    (limit_limitFault l i).bind fun e1 =>
    if ¬ e1 = 0 then
      some (Step.done (Res.ret e1))
    else
      some (Step.next ())
def limit_CheckLimits (l : (Sl api_Limit)) : Option (Int) :=
  if (l.list.length : Int) > 20 then
    some 2
  else
    (rangeS (limit_CheckLimits_l0 l) (fun () => Res.out ()) l () : Option (Res (Unit) (Int))).bind (Res.elim (fun () =>
      some 0) some)

def limit_kindWords  : Option ((Sl Str)) :=
  some (Sl.full [[], [119, 105, 110, 100, 111, 119], [115, 108, 105, 100, 105, 110, 103], [98, 117, 99, 107, 101, 116], [111, 110, 99, 101]] : Sl Str)

def strings_Builder_WriteString (b : (Ar UInt8)) (s_ : Str) : Option (Int × Unit × (Ar UInt8)) :=
  (b.app? 1 s_).bind fun buf =>
  some ((s_.length : Int), (), buf)

def limit_Text_l0 (i : Int) (x4 : api_Limit) : ((Ar UInt8)) → Option (Step ((Ar UInt8)) ((Ar UInt8)))
  | b3 =>
    (sadd x4.Key [32]).bind fun r212 =>
    (limit_kindWords).bind fun r222 =>
    (r222.get? x4.Kind).bind fun x5 =>
    (sadd r212 x5).bind fun r272 =>
    (sadd r272 [32]).bind fun r282 =>
    (itoa? x4.Most).bind fun r312 =>
    (sadd r282 r312).bind fun r322 =>
    (sadd r322 [32]).bind fun r332 =>
    (itoa? x4.Per).bind fun r362 =>
    (sadd r332 r362).bind fun r372 =>
    (sadd r372 [32]).bind fun r382 =>
    (itoa? x4.Burst).bind fun r412 =>
    (sadd r382 r412).bind fun r422 =>
    (sadd r422 [10]).bind fun r432 =>
    (strings_Builder_WriteString b3 r432).bind fun (q02, q12, b5) =>
    some (Step.next b5)
def limit_Text (l : (Sl api_Limit)) : Option (Str × Int) :=
  (limit_CheckLimits l).bind fun e =>
  if ¬ e = 0 then
    some ([], e)
  else
    (rangeS (limit_Text_l0) (fun b3 => b3) l (Ar.nil : Ar UInt8) : Option ((Ar UInt8))).bind fun b4 =>
    (bstr? b4).bind fun r2 =>
    some (r2, 0)

def gateref2_in (n : Int) (low : Int) (high : Int) : Option (Bool) :=
  some ((decide (low ≤ n)) && (decide (n ≤ high)))

def stringslite_IndexByte (s_ : Str) (c : Int) : Option (Int) :=
  some (Go.Lib.indexByte s_ c.toNat.toUInt8)

def strings_IndexByte (s_ : Str) (c : Int) : Option (Int) :=
  (stringslite_IndexByte s_ c).bind fun r4 =>
  some r4

def gateref2_only_l0 (s_ : Str) (some_ : Str) (i : Int) : (Unit) → Option (Step (Unit) (Res (Unit) (Bool)))
  | () =>
    (sget s_ i).bind fun r141 =>
    (strings_IndexByte some_ r141).bind fun r151 =>
    if r151 < 0 then
      some (Step.done (Res.ret false))
    else
      some (Step.next ())
def gateref2_only (s_ : Str) (some_ : Str) : Option (Bool) :=
  (rangeN (gateref2_only_l0 s_ some_) (fun () => Res.out ()) (s_.length : Int) () : Option (Res (Unit) (Bool))).bind (Res.elim (fun () =>
    some true) some)

def gateref2_Key (s_ : Str) : Option (Bool) :=
  (gateref2_in (s_.length : Int) 1 40).bind fun r5 =>
  ((
    if r5 = true then
      (ssub s_ 0 1).bind fun r81 =>
      (gateref2_only r81 [97, 98, 99, 100, 101, 102, 103, 104, 105, 106, 107, 108, 109, 110, 111, 112, 113, 114, 115, 116, 117, 118, 119, 120, 121, 122]).bind fun r91 =>
      some r91
    else
      some false : Option (Bool))).bind fun t10 =>
  ((
    if t10 = true then
      (gateref2_only s_ [97, 98, 99, 100, 101, 102, 103, 104, 105, 106, 107, 108, 109, 110, 111, 112, 113, 114, 115, 116, 117, 118, 119, 120, 121, 122, 48, 49, 50, 51, 52, 53, 54, 55, 56, 57, 45, 95]).bind fun r131 =>
      some r131
    else
      some false : Option (Bool))).bind fun t14 =>
  some t14

def gateref1_in (n : Int) (low : Int) (high : Int) : Option (Bool) :=
  some ((decide (low ≤ n)) && (decide (n ≤ high)))

def gateref1_LimitFault (l : api_Limit) : Option (Int) :=
  (gateref2_Key l.Key).bind fun r14 =>
  if (!r14) = true then
    some 5
  else
    (gateref1_in l.Kind 1 4).bind fun r19 =>
    if (!r19) = true then
      some 4
    else
      (gateref1_in l.Most 1 1000000000).bind fun r24 =>
      if (!r24) = true then
        some 1
      else
        ((
          if ((l.Kind == 4) && (l.Per != 0)) = true then
            some true
          else
            ((
              if (!(l.Kind == 4)) = true then
                (gateref1_in l.Per 1 8640000000).bind fun r393 =>
                some (!r393)
              else
                some false : Option (Bool))).bind fun t411 =>
            some t411 : Option (Bool))).bind fun t42 =>
        if t42 = true then
          some 1
        else
          ((
            if ((!(l.Kind == 3)) && (l.Burst != 0)) = true then
              some true
            else
              ((
                if l.Kind = 3 then
                  (gateref1_in l.Burst 1 1000000000).bind fun r563 =>
                  some (!r563)
                else
                  some false : Option (Bool))).bind fun t581 =>
              some t581 : Option (Bool))).bind fun t59 =>
          if t59 = true then
            some 1
          else
            some 0

def gateref1_LimitsFault_l0 (l : (Sl api_Limit)) (i : Int) (x3 : api_Limit) : (Unit) → Option (Step (Unit) (Res (Unit) (Int)))
  | () =>
    (gateref2_Key x3.Key).bind fun r181 =>
    if (!r181) = true then
      some (Step.done (Res.ret 5))
    else
      ((
        if i > 0 then
          (l.get? (w64 (i - 1))).bind fun x5 =>
          some (sle x3.Key x5.Key)
        else
          some false : Option (Bool))).bind fun t321 =>
      if t321 = true then
        some (Step.done (Res.ret 7))
      else
        (gateref1_LimitFault x3).bind fun f1 =>
        if ¬ f1 = 0 then
          some (Step.done (Res.ret f1))
        else
          some (Step.next ())
def gateref1_LimitsFault (l : (Sl api_Limit)) : Option (Int) :=
  if (l.list.length : Int) > 20 then
    some 2
  else
    (rangeS (gateref1_LimitsFault_l0 l) (fun () => Res.out ()) l () : Option (Res (Unit) (Int))).bind (Res.elim (fun () =>
      some 0) some)

def gateref1_KindWord (kind : Int) : Option (Str) :=
  ((Sl.full [[], [119, 105, 110, 100, 111, 119], [115, 108, 105, 100, 105, 110, 103], [98, 117, 99, 107, 101, 116], [111, 110, 99, 101]] : Sl Str).get? kind).bind fun x =>
  some x

def gateref1_LimitLines_l0 (i : Int) (x2 : api_Limit) : ((Ar UInt8)) → Option (Step ((Ar UInt8)) ((Ar UInt8)))
  | b3 =>
    (gateref1_KindWord x2.Kind).bind fun r162 =>
    (itoa? x2.Most).bind fun r192 =>
    (itoa? x2.Per).bind fun r222 =>
    (itoa? x2.Burst).bind fun r252 =>
    (join? (Sl.full [x2.Key, r162, r192, r222, r252] : Sl Str).list [32]).bind fun r272 =>
    (sadd r272 [10]).bind fun r282 =>
    (strings_Builder_WriteString b3 r282).bind fun (q02, q12, b5) =>
    some (Step.next b5)
def gateref1_LimitLines (l : (Sl api_Limit)) : Option (Str) :=
  (rangeS (gateref1_LimitLines_l0) (fun b3 => b3) l (Ar.nil : Ar UInt8) : Option ((Ar UInt8))).bind fun b4 =>
  (bstr? b4).bind fun r2 =>
  some r2

def gatemake_Stream_Changed (s_ : gatemake_Stream) (t : Str) (with_ : Str) : Option (Str × gatemake_Stream) :=
  if ((t == []) || (with_ == [])) = true then
    some (with_, s_)
  else
    (gatemake_Stream_Next s_ (t.length : Int)).bind fun (i, s_1) =>
    (gatemake_Stream_Next s_1 (with_.length : Int)).bind fun (r24, s_2) =>
    (sget with_ r24).bind fun c =>
    (gatemake_Stream_Next s_2 3).bind fun (r27, s_3) =>
    if r27 = 0 then
      (ssub t 0 i).bind fun r32 =>
      (sadd r32 (utf8 (IntKind.i32.wrap (c)))).bind fun r36 =>
      (ssub t (w64 (i + 1)) (t.length : Int)).bind fun r40 =>
      (sadd r36 r40).bind fun r6 =>
      some (r6, s_3)
    else
      if r27 = 1 then
        (ssub t 0 i).bind fun r46 =>
        (sadd r46 (utf8 (IntKind.i32.wrap (c)))).bind fun r50 =>
        (ssub t i (t.length : Int)).bind fun r53 =>
        (sadd r50 r53).bind fun r61 =>
        some (r61, s_3)
      else
        (ssub t 0 i).bind fun r57 =>
        (ssub t (w64 (i + 1)) (t.length : Int)).bind fun r611 =>
        (sadd r57 r611).bind fun r62 =>
        some (r62, s_3)

def gatemake_Stream_LimitString_l0 (i : Int) : (gatemake_Stream × Str) → Option (Step (gatemake_Stream × Str) (gatemake_Stream × Str))
  | (s_6, t7) =>
    (gatemake_Stream_Changed s_6 t7 [32, 10, 48, 49, 57, 119, 97, 45]).bind fun (t9, s_8) =>
    some (Step.next (s_8, t9))
def gatemake_Stream_LimitString (s_ : gatemake_Stream) : Option (Str × gatemake_Stream) :=
  (gatemake_Stream_Limits s_).bind fun (l, s_1) =>
  (gateref1_LimitsFault l).bind fun r8 =>
  ((
    if r8 = 0 then
      (gateref1_LimitLines l).bind fun t2 =>
      some t2
    else
      some [119, 32, 119, 105, 110, 100, 111, 119, 32, 51, 32, 49, 48, 48, 32, 48, 10] : Option (Str))).bind fun t1 =>
  (gatemake_Stream_Pick s_1 (Sl.full [0, 0, 1, 2] : Sl Int)).bind fun (r14, s_2) =>
  (rangeN (gatemake_Stream_LimitString_l0) (fun (s_6, t7) => (s_6, t7)) r14 (s_2, t1) : Option (gatemake_Stream × Str)).bind fun (s_7, t8) =>
  some (t8, s_7)

def kit_Lines (s_ : Str) : Option ((Sl Str) × Bool) :=
  (split? s_ [10]).bind fun l =>
  (l.get? (w64 ((l.list.length : Int) - 1))).bind fun x =>
  if x = [] then
    (l.sub? 0 (w64 ((l.list.length : Int) - 1))).bind fun l1 =>
    some (l1, true)
  else
    some (l, false)

def slices_Index_string_string_l0 (v_ : Str) (i : Int) (x1 : Str) : (Unit) → Option (Step (Unit) (Res (Unit) (Int)))
  | () =>
    if v_ = x1 then
      some (Step.done (Res.ret i))
    else
      some (Step.next ())
def slices_Index_string_string (s_ : (Sl Str)) (v_ : Str) : Option (Int) :=
  (rangeS (slices_Index_string_string_l0 v_) (fun () => Res.out ()) s_ () : Option (Res (Unit) (Int))).bind (Res.elim (fun () =>
    some (-1)) some)

def slices_Contains_string_string (s_ : (Sl Str)) (v_ : Str) : Option (Bool) :=
  (slices_Index_string_string s_ v_).bind fun r7 =>
  some (decide (r7 ≥ 0))

def kit_Words (s_ : Str) : Option ((Sl Str) × Bool) :=
  (split? s_ [32]).bind fun l =>
  (slices_Contains_string_string l []).bind fun r9 =>
  some (l, !r9)

def stringslite_HasPrefix (s_ : Str) (prefix_ : Str) : Option (Bool) :=
  ((
    if (s_.length : Int) ≥ (prefix_.length : Int) then
      (ssub s_ 0 (prefix_.length : Int)).bind fun r141 =>
      some (r141 == prefix_)
    else
      some false : Option (Bool))).bind fun t17 =>
  some t17

def stringslite_TrimPrefix (s_ : Str) (prefix_ : Str) : Option (Str) :=
  (stringslite_HasPrefix s_ prefix_).bind fun r7 =>
  if r7 = true then
    (ssub s_ (prefix_.length : Int) (s_.length : Int)).bind fun r4 =>
    some r4
  else
    some s_

def strings_TrimPrefix (s_ : Str) (prefix_ : Str) : Option (Str) :=
  (stringslite_TrimPrefix s_ prefix_).bind fun r4 =>
  some r4

def kit_Number_l0 (digits : Str) : (Int) → Option (Step (Int) (Res (Unit) (Int × Bool)))
  | i1 =>
    if i1 < (digits.length : Int) then
      (sget digits i1).bind fun r371 =>
      ((
        if r371 < 48 then
          some true
        else
          (sget digits i1).bind fun r423 =>
          some (decide (r423 > 57)) : Option (Bool))).bind fun t441 =>
      if t441 = true then
        some (Step.done (Res.ret (0, false)))
      else
        some (Step.next (w64 (i1 + 1)))
    else
      some (Step.done (Res.out ()))
def kit_Number (s_ : Str) (most : Int) : Option (Int × Bool) :=
  (strings_TrimPrefix s_ [45]).bind fun digits =>
  ((
    if ((digits == []) || (decide ((digits.length : Int) > most))) = true then
      some true
    else
      (sget digits 0).bind fun r221 =>
      some ((r221 == 48) && (s_ != [48])) : Option (Bool))).bind fun t28 =>
  if t28 = true then
    some (0, false)
  else
    (loopV (kit_Number_l0 digits) 0 : Option (Res (Unit) (Int × Bool))).bind (Res.elim (fun () =>
      (atoi? s_).bind fun r47 =>
      some (r47, true)) some)

def limit_readLimit (line : Str) : Option (api_Limit × Bool) :=
  (kit_Words line).bind fun (w, ok_) =>
  if ((!ok_) || ((w.list.length : Int) != 5)) = true then
    some ((api_Limit.mk [] 0 0 0 0), false)
  else
    (limit_kindWords).bind fun r26 =>
    (w.get? 1).bind fun x =>
    (slices_Index_string_string r26 x).bind fun kind =>
    (w.get? 2).bind fun x1 =>
    (kit_Number x1 10).bind fun (most, one) =>
    (w.get? 3).bind fun x2 =>
    (kit_Number x2 10).bind fun (per, two) =>
    (w.get? 4).bind fun x3 =>
    (kit_Number x3 10).bind fun (burst, three) =>
    (w.get? 0).bind fun x4 =>
    some ((api_Limit.mk x4 kind most per burst), ((((decide (kind > 0)) && one) && two) && three))

def limit_Read_l0 (lines : (Sl Str)) (ended : Bool) (i : Int) (line : Str) : ((Sl api_Limit)) → Option (Step ((Sl api_Limit)) (Res ((Sl api_Limit)) ((Sl api_Limit) × Int × Int)))
  | out_5 =>
    (limit_readLimit line).bind fun (q03, ok_3) =>
    if ((!ok_3) || ((!ended) && (i == (w64 ((lines.list.length : Int) - 1))))) = true then
      some (Step.done (Res.ret (Sl.nil, i, 9)))
    else
      (out_5.app? 48 [q03]).bind fun out_7 =>
      some (Step.next out_7)
def limit_Read (text : Str) : Option ((Sl api_Limit) × Int × Int) :=
  if (text.length : Int) > 200000 then
    some (Sl.nil, 0, 2)
  else
    (kit_Lines text).bind fun (lines, ended) =>
    (rangeS (limit_Read_l0 lines ended) (fun out_5 => Res.out out_5) lines (Sl.nil : Sl api_Limit) : Option (Res ((Sl api_Limit)) ((Sl api_Limit) × Int × Int))).bind (Res.elim (fun out_6 =>
      (limit_CheckLimits out_6).bind fun e =>
      if ¬ e = 0 then
        some (Sl.nil, 0, e)
      else
        some (out_6, 0, 0)) some)

def gateref2_Number (s_ : Str) (most : Int) : Option (Int × Bool) :=
  (strings_TrimPrefix s_ [45]).bind fun t =>
  ((
    if ((t == []) || (decide ((t.length : Int) > most))) = true then
      some true
    else
      (gateref2_only t [48, 49, 50, 51, 52, 53, 54, 55, 56, 57]).bind fun r211 =>
      some (!r211) : Option (Bool))).bind fun t23 =>
  if t23 = true then
    some (0, false)
  else
    (atoi? s_).bind fun r26 =>
    ((
      if true = true then
        (itoa? r26).bind fun r341 =>
        some (r341 == s_)
      else
        some false : Option (Bool))).bind fun t37 =>
    some (r26, t37)

def gateref1_LimitsRead_1_l0 (cap1 : (Ar api_Limit)) (w : (Sl Str)) (i : Int) : ((List Int)) → Option (Step ((List Int)) (Res ((List Int)) (Bool × (Ar api_Limit))))
  | n3 =>
    (w.get? (w64 (i + 2))).bind fun x4 =>
    (gateref2_Number x4 10).bind fun (q02, good2) =>
    (inr? 3 i).bind fun j2 =>
    (ary? n3 j2 q02).bind fun n5 =>
    if (!good2) = true then
      some (Step.done (Res.ret (false, cap1)))
    else
      some (Step.next n5)
def gateref1_LimitsRead_1 (line : Str) (cap1 : (Ar api_Limit)) : Option (Bool × (Ar api_Limit)) :=
  (split? line [32]).bind fun w =>
  ((
    if ¬ (w.list.length : Int) = 5 then
      some true
    else
      (w.get? 0).bind fun x6 =>
      some (x6 == []) : Option (Bool))).bind fun t19 =>
  if t19 = true then
    some (false, cap1)
  else
    (w.get? 1).bind fun x1 =>
    (slices_Index_string_string (Sl.full [[119, 105, 110, 100, 111, 119], [115, 108, 105, 100, 105, 110, 103], [98, 117, 99, 107, 101, 116], [111, 110, 99, 101]] : Sl Str) x1).bind fun k1 =>
    (rangeN (gateref1_LimitsRead_1_l0 cap1 w) (fun n3 => Res.out n3) 3 [0, 0, 0] : Option (Res ((List Int)) (Bool × (Ar api_Limit)))).bind (Res.elim (fun n4 =>
      (w.get? 0).bind fun x5 =>
      (inr? 3 0).bind fun j3 =>
      (n4[j3]?).bind fun r49 =>
      (inr? 3 1).bind fun j4 =>
      (n4[j4]?).bind fun r51 =>
      (inr? 3 2).bind fun j5 =>
      (n4[j5]?).bind fun r53 =>
      (cap1.app? 48 [(api_Limit.mk x5 (w64 (k1 + 1)) r49 r51 r53)]).bind fun buf =>
      some (decide (k1 ≥ 0), buf)) some)

def gateref1_Lines__gateref1_LimitsRead_1_l0 : ((Ar api_Limit) × Str × Int) → Option (Step ((Ar api_Limit) × Str × Int) (Res ((Ar api_Limit)) (Int × Bool × (Ar api_Limit))))
  | (cap17, text3, i2) =>
    if ¬ text3 = [] then
      (cut? text3 [10]).bind fun r162 =>
      ((
        if (!r162.2.2) = true then
          some (cap17, true)
        else
          (gateref1_LimitsRead_1 r162.1 cap17).bind fun (r255, cap111) =>
          some (cap111, !r255) : Option ((Ar api_Limit) × Bool))).bind fun (cap110, t272) =>
      if t272 = true then
        some (Step.done (Res.ret (i2, false, cap110)))
      else
        some (Step.next (cap110, r162.2.1, w64 (i2 + 1)))
    else
      some (Step.done (Res.out cap17))
def gateref1_Lines__gateref1_LimitsRead_1 (text : Str) (cap1_0 : (Ar api_Limit)) : Option (Int × Bool × (Ar api_Limit)) :=
  (loopV (gateref1_Lines__gateref1_LimitsRead_1_l0) (cap1_0, text, 0) : Option (Res ((Ar api_Limit)) (Int × Bool × (Ar api_Limit)))).bind (Res.elim (fun cap18 =>
    some (0, true, cap18)) some)

def gateref1_LimitsRead (text : Str) : Option ((Sl api_Limit) × Int × Int) :=
  if (text.length : Int) > 200000 then
    some (Sl.nil, 0, 2)
  else
    (gateref1_Lines__gateref1_LimitsRead_1 text (Ar.nil : Ar api_Limit)).bind fun (i, ok_, out_) =>
    if (!ok_) = true then
      some (Sl.nil, i, 9)
    else
      (gateref1_LimitsFault out_.sl).bind fun f =>
      if ¬ f = 0 then
        some (Sl.nil, 0, f)
      else
        some (out_.sl, 0, 0)

def slices_Equal_api_Limit_api_Limit_l0 (s2 : (Sl api_Limit)) (i : Int) (x2 : api_Limit) : (Unit) → Option (Step (Unit) (Res (Unit) (Bool)))
  | () =>
    (s2.get? i).bind fun x3 =>
    if (!(eq_api_Limit x2 x3)) = true then
      some (Step.done (Res.ret false))
    else
      some (Step.next ())
def slices_Equal_api_Limit_api_Limit (s1 : (Sl api_Limit)) (s2 : (Sl api_Limit)) : Option (Bool) :=
  if ¬ (s1.list.length : Int) = (s2.list.length : Int) then
    some false
  else
    (rangeS (slices_Equal_api_Limit_api_Limit_l0 s2) (fun () => Res.out ()) s1 () : Option (Res (Unit) (Bool))).bind (Res.elim (fun () =>
      some true) some)

def gatelaw1_LimitTexts (l : (Sl Int)) : Option (Bool) :=
  (gatemake_Stream_Limits (gatemake_Stream.mk l 0)).bind fun (x, t17) =>
  (limit_Text x).bind fun (t, e) =>
  (gateref1_LimitsFault x).bind fun fault =>
  ((
    if ¬ e = fault then
      some true
    else
      ((
        if fault = 0 then
          (gateref1_LimitLines x).bind fun r363 =>
          some (t != r363)
        else
          some false : Option (Bool))).bind fun t381 =>
      some t381 : Option (Bool))).bind fun t39 =>
  if (t39 || ((fault != 0) && (t != []))) = true then
    some false
  else
    (gatemake_Stream_LimitString t17).bind fun (text, t171) =>
    (limit_Read text).bind fun (a, i, f) =>
    (gateref1_LimitsRead text).bind fun (b, k1, g) =>
    ((
      if ((f == g) && (i == k1)) = true then
        (slices_Equal_api_Limit_api_Limit a b).bind fun r731 =>
        some r731
      else
        some false : Option (Bool))).bind fun t74 =>
    ((
      if t74 = true then
        some true
      else
        some false : Option (Bool))).bind fun t77 =>
    some t77
end Go.GW
