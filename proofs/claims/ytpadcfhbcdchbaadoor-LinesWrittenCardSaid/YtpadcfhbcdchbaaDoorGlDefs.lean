/- Typed functions. Printed by gen.py. -/
import Derived.Test.YtpadcfhbcdchbaaDoorGxLib
import Derived.Lib.Bytealg
noncomputable section
namespace Go.GW
open Go.AE
set_option linter.unusedVariables false
set_option linter.unusedSimpArgs false
structure gatemake_Stream where
  L : (Sl Int)
  at_ : Int
  deriving Inhabited
def c_gatemake_Stream (x : gatemake_Stream) : List AV := [(Sl.av 1 c_i64 x.L), (iA x.at_)]
instance (x : gatemake_Stream) : Cs (c_gatemake_Stream x) := inferInstanceAs (Cs ([(Sl.av 1 c_i64 x.L), (iA x.at_)]))
structure api_Limit where
  Key : Str
  Kind : Int
  Most : Int
  Per : Int
  Burst : Int
  deriving Inhabited
def c_api_Limit (x : api_Limit) : List AV := [(sA x.Key), (iA x.Kind), (iA x.Most), (iA x.Per), (iA x.Burst)]
instance (x : api_Limit) : Cs (c_api_Limit x) := inferInstanceAs (Cs ([(sA x.Key), (iA x.Kind), (iA x.Most), (iA x.Per), (iA x.Burst)]))
structure api_Verdict where
  Ok : Bool
  By : Str
  Wait : Int
  deriving Inhabited
def c_api_Verdict (x : api_Verdict) : List AV := [(bA x.Ok), (sA x.By), (iA x.Wait)]
instance (x : api_Verdict) : Cs (c_api_Verdict x) := inferInstanceAs (Cs ([(bA x.Ok), (sA x.By), (iA x.Wait)]))
structure api_Header where
  Name : Str
  Value : Str
  deriving Inhabited
def c_api_Header (x : api_Header) : List AV := [(sA x.Name), (sA x.Value)]
instance (x : api_Header) : Cs (c_api_Header x) := inferInstanceAs (Cs ([(sA x.Name), (sA x.Value)]))
def eq_api_Verdict (x y : api_Verdict) : Bool := (x.Ok == y.Ok) && ((B x.By == B y.By) && ((x.Wait == y.Wait) && true))
theorem eq_api_Verdict_iff (x y : api_Verdict) : eq_api_Verdict x y = true ↔ x = y := by
  cases x; cases y; simp [eq_api_Verdict, B_inj]
def eq_api_Header (x y : api_Header) : Bool := (B x.Name == B y.Name) && ((B x.Value == B y.Value) && true)
theorem eq_api_Header_iff (x y : api_Header) : eq_api_Header x y = true ↔ x = y := by
  cases x; cases y; simp [eq_api_Header, B_inj]

def gatemake_Below (x : Int) (n : Int) : Option (Int) :=
  if n < 1 then
    some 0
  else
    (ckrem .i64 x n).bind fun x1 =>
    if x1 < 0 then
      some (w64 (x1 + n))
    else
      some x1

def gatemake_Stream_Next (s_ : gatemake_Stream) (n : Int) : Option (Int × gatemake_Stream) :=
  if (s_.L.list.length : Int) = 0 then
    (gatemake_Below (w64 ((w64 (s_.at_ + 1)) * 7919)) n).bind fun r4 =>
    some (r4, { s_ with at_ := w64 (s_.at_ + 1) })
  else
    (ckrem .i64 (w64 ((w64 (s_.at_ + 1)) - 1)) (s_.L.list.length : Int)).bind fun i =>
    (ckquo .i64 (w64 ((w64 (s_.at_ + 1)) - 1)) (s_.L.list.length : Int)).bind fun round =>
    (s_.L.get? i).bind fun x =>
    (gatemake_Below x 1073741824).bind fun r56 =>
    (gatemake_Below (w64 (r56 + (w64 (round * (w64 (7919 + i)))))) n).bind fun r41 =>
    some (r41, { s_ with at_ := w64 (s_.at_ + 1) })

def gatemake_Stream_Flip (s_ : gatemake_Stream) (n : Int) : Option (Bool × gatemake_Stream) :=
  (gatemake_Stream_Next s_ n).bind fun (r7, s_1) =>
  some (r7 == 0, s_1)

def gatemake_Stream_Range (s_ : gatemake_Stream) (low : Int) (high : Int) : Option (Int × gatemake_Stream) :=
  if high < low then
    some (low, s_)
  else
    (gatemake_Stream_Next s_ (w64 ((w64 (high - low)) + 1))).bind fun (r17, s_1) =>
    some (w64 (low + r17), s_1)

def gatemake_Stream_Pick (s_ : gatemake_Stream) (l : (Sl Int)) : Option (Int × gatemake_Stream) :=
  (gatemake_Stream_Next s_ (l.list.length : Int)).bind fun (r9, s_1) =>
  (l.get? r9).bind fun x =>
  some (x, s_1)

def gatemake_Stream_RightLimit (s_ : gatemake_Stream) (key : Str) : Option (api_Limit × gatemake_Stream) :=
  (gatemake_Stream_Range s_ 1 4).bind fun (r8, s_1) =>
  (gatemake_Stream_Pick s_1 (Sl.full [1, 2, 3, 5] : Sl Int)).bind fun (r11, s_2) =>
  (gatemake_Stream_Pick s_2 (Sl.full [1, 7, 10, 50, 100] : Sl Int)).bind fun (r14, s_3) =>
  if r8 = 3 then
    (gatemake_Stream_Pick s_3 (Sl.full [1, 2, 5] : Sl Int)).bind fun (r22, s_4) =>
    some ((api_Limit.mk key r8 r11 r14 r22), s_4)
  else
    if r8 = 4 then
      some ((api_Limit.mk key r8 r11 0 0), s_3)
    else
      some ((api_Limit.mk key r8 r11 r14 0), s_3)

def gatemake_Stream_Some (s_ : gatemake_Stream) (l : (Sl Str)) : Option (Str × gatemake_Stream) :=
  (gatemake_Stream_Next s_ (l.list.length : Int)).bind fun (r9, s_1) =>
  (l.get? r9).bind fun x =>
  some (x, s_1)

def gatemake_Stream_Odd (s_ : gatemake_Stream) (low : Int) (high : Int) : Option (Int × gatemake_Stream) :=
  (gatemake_Stream_Flip s_ 12).bind fun (r8, s_1) =>
  if r8 = true then
    (gatemake_Stream_Pick s_1 (Sl.full [w64 (low - 1), w64 (high + 1), low, high, (-1099511627776), 1099511627776] : Sl Int)).bind fun (r6, s_2) =>
    some (r6, s_2)
  else
    (gatemake_Stream_Range s_1 low high).bind fun (r61, s_3) =>
    some (r61, s_3)

def gatemake_Stream_Limits_l0 (i : Int) (key : Str) : (gatemake_Stream × (Sl api_Limit)) → Option (Step (gatemake_Stream × (Sl api_Limit)) (gatemake_Stream × (Sl api_Limit)))
  | (s_9, out_5) =>
    (gatemake_Stream_Flip s_9 2).bind fun (r143, s_11) =>
    if r143 = true then
      (gatemake_Stream_RightLimit s_11 key).bind fun (r183, s_12) =>
      (out_5.app? 48 [r183]).bind fun out_7 =>
      some (Step.next (s_12, out_7))
    else
      some (Step.next (s_11, out_5))
def gatemake_Stream_Limits (s_ : gatemake_Stream) : Option ((Sl api_Limit) × gatemake_Stream) :=
  (rangeS (gatemake_Stream_Limits_l0) (fun (s_9, out_5) => (s_9, out_5)) (Sl.full [[108, 97], [108, 98], [108, 99]] : Sl Str) (s_, (Sl.nil : Sl api_Limit)) : Option (gatemake_Stream × (Sl api_Limit))).bind fun (s_10, out_6) =>
  (gatemake_Stream_Flip s_10 15).bind fun (r23, s_13) =>
  if r23 = true then
    (gatemake_Stream_Some s_13 (Sl.full [[], [108, 97], [122, 122]] : Sl Str)).bind fun (r27, s_14) =>
    (gatemake_Stream_RightLimit s_14 r27).bind fun (r28, s_15) =>
    (gatemake_Stream_Next s_15 4).bind fun (r30, s_16) =>
    if r30 = 0 then
      (gatemake_Stream_Odd s_16 1 4).bind fun (r37, s_17) =>
      (out_6.app? 48 [{ r28 with Kind := r37 }]).bind fun out_8 =>
      some (out_8, s_17)
    else
      if r30 = 1 then
        (gatemake_Stream_Odd s_16 1 1000000000).bind fun (r42, s_18) =>
        (out_6.app? 48 [{ r28 with Most := r42 }]).bind fun out_9 =>
        some (out_9, s_18)
      else
        if r30 = 2 then
          (gatemake_Stream_Odd s_16 0 8640000000).bind fun (r47, s_19) =>
          (out_6.app? 48 [{ r28 with Per := r47 }]).bind fun out_10 =>
          some (out_10, s_19)
        else
          (gatemake_Stream_Odd s_16 0 1000000000).bind fun (r32, s_20) =>
          (out_6.app? 48 [{ r28 with Burst := r32 }]).bind fun out_11 =>
          some (out_11, s_20)
  else
    some (out_6, s_13)

def kit_IsKey_l0 (s_ : Str) : (Int) → Option (Step (Int) (Res (Unit) (Bool)))
  | i1 =>
    if i1 < (s_.length : Int) then
      (sget s_ i1).bind fun c1 =>
      if (!(((decide (c1 ≥ 97)) && (decide (c1 ≤ 122))) || ((decide (i1 > 0)) && ((((decide (c1 ≥ 48)) && (decide (c1 ≤ 57))) || (c1 == 45)) || (c1 == 95))))) = true then
        some (Step.done (Res.ret false))
      else
        some (Step.next (w64 (i1 + 1)))
    else
      some (Step.done (Res.out ()))
def kit_IsKey (s_ : Str) : Option (Bool) :=
  (loopV (kit_IsKey_l0 s_) 0 : Option (Res (Unit) (Bool))).bind (Res.elim (fun () =>
    some ((s_ != []) && (decide ((s_.length : Int) ≤ 40)))) some)

def kit_Outside (n : Int) (low : Int) (high : Int) : Option (Bool) :=
  some ((decide (n < low)) || (decide (n > high)))

def limit_limitFault (l : (Sl api_Limit)) (i : Int) : Option (Int) :=
  (l.get? i).bind fun x =>
  (kit_IsKey x.Key).bind fun r21 =>
  if (!r21) = true then
    some 5
  else
    ((
      if i > 0 then
        (l.get? (w64 (i - 1))).bind fun x2 =>
        some (sle x.Key x2.Key)
      else
        some false : Option (Bool))).bind fun t36 =>
    if t36 = true then
      some 7
    else
      (kit_Outside x.Kind 1 4).bind fun r37 =>
      if r37 = true then
        some 4
      else
        (kit_Outside x.Most 1 1000000000).bind fun r41 =>
        if r41 = true then
          some 1
        else
          ((
            if ((x.Kind == 4) && (x.Per != 0)) = true then
              some true
            else
              ((
                if (!(x.Kind == 4)) = true then
                  (kit_Outside x.Per 1 8640000000).bind fun r583 =>
                  some r583
                else
                  some false : Option (Bool))).bind fun t591 =>
              some t591 : Option (Bool))).bind fun t60 =>
          if t60 = true then
            some 1
          else
            ((
              if ((!(x.Kind == 3)) && (x.Burst != 0)) = true then
                some true
              else
                ((
                  if x.Kind = 3 then
                    (kit_Outside x.Burst 1 1000000000).bind fun r743 =>
                    some r743
                  else
                    some false : Option (Bool))).bind fun t751 =>
                some t751 : Option (Bool))).bind fun t76 =>
            if t76 = true then
              some 1
            else
              some 0

def limit_CheckLimits_l0 (l : (Sl api_Limit)) (i : Int) (x : api_Limit) : (Unit) → Option (Step (Unit) (Res (Unit) (Int)))
  | () =>
    (limit_limitFault l i).bind fun e1 =>
    if ¬ e1 = 0 then
      some (Step.done (Res.ret e1))
    else
      some (Step.next ())
def limit_CheckLimits (l : (Sl api_Limit)) : Option (Int) :=
  if (l.list.length : Int) > 20 then
    some 2
  else
    (rangeS (limit_CheckLimits_l0 l) (fun () => Res.out ()) l () : Option (Res (Unit) (Int))).bind (Res.elim (fun () =>
      some 0) some)

def limit_Lines_1 (x : api_Limit) (cap1 : api_Verdict) : Option (Bool) :=
  some (x.Key == cap1.By)

def slices_IndexFunc_api_Limit_api_Limit__limit_Lines_1_l0 (cap1_0 : api_Verdict) (i : Int) (x1 : api_Limit) : (Unit) → Option (Step (Unit) (Res (Unit) (Int)))
  | () =>
    (limit_Lines_1 x1 cap1_0).bind fun r161 =>
    if r161 = true then
      some (Step.done (Res.ret i))
    else
      some (Step.next ())
def slices_IndexFunc_api_Limit_api_Limit__limit_Lines_1 (s_ : (Sl api_Limit)) (cap1_0 : api_Verdict) : Option (Int) :=
  (rangeS (slices_IndexFunc_api_Limit_api_Limit__limit_Lines_1_l0 cap1_0) (fun () => Res.out ()) s_ () : Option (Res (Unit) (Int))).bind (Res.elim (fun () =>
    some (-1)) some)

def slices_ContainsFunc_api_Limit_api_Limit__limit_Lines_1 (s_ : (Sl api_Limit)) (cap1_0 : api_Verdict) : Option (Bool) :=
  (slices_IndexFunc_api_Limit_api_Limit__limit_Lines_1 s_ cap1_0).bind fun r7 =>
  some (decide (r7 ≥ 0))

def limit_kindWords  : Option ((Sl Str)) :=
  some (Sl.full [[], [119, 105, 110, 100, 111, 119], [115, 108, 105, 100, 105, 110, 103], [98, 117, 99, 107, 101, 116], [111, 110, 99, 101]] : Sl Str)

def limit_up (a : Int) (b : Int) : Option (Int) :=
  (ckquo .i64 a b).bind fun n =>
  (ckrem .i64 a b).bind fun r11 =>
  if ¬ r11 = 0 then
    some (w64 (n + 1))
  else
    some n

def limit_Lines_l0 (i : Int) (x6 : api_Limit) : ((Sl api_Header)) → Option (Step ((Sl api_Header)) ((Sl api_Header)))
  | out_5 =>
    (limit_kindWords).bind fun r473 =>
    (r473.get? x6.Kind).bind fun x7 =>
    (sadd x7 [32]).bind fun r523 =>
    (itoa? x6.Most).bind fun r553 =>
    (sadd r523 r553).bind fun s_12 =>
    ((
      if ¬ x6.Per = 0 then
        (itoa? x6.Per).bind fun r637 =>
        (sadd [47] r637).bind fun r647 =>
        (sadd s_12 r647).bind fun s_15 =>
        some s_15
      else
        some s_12 : Option (Str))).bind fun s_14 =>
    (sadd [120, 45, 108, 105, 109, 105, 116, 45] x6.Key).bind fun r693 =>
    (out_5.app? 32 [(api_Header.mk r693 s_14)]).bind fun out_7 =>
    some (Step.next out_7)
def limit_Lines (l : (Sl api_Limit)) (v_ : api_Verdict) : Option ((Sl api_Header) × Int) :=
  (limit_CheckLimits l).bind fun e =>
  if ¬ e = 0 then
    some (Sl.nil, e)
  else
    (slices_ContainsFunc_api_Limit_api_Limit__limit_Lines_1 l v_).bind fun there =>
    if (v_.Ok && (!(eq_api_Verdict v_ (api_Verdict.mk true [] 0)))) = true then
      some (Sl.nil, 3)
    else
      if ((!v_.Ok) && (!there)) = true then
        some (Sl.nil, 8)
      else
        (kit_Outside v_.Wait (-1) 345686400000).bind fun r37 =>
        if r37 = true then
          some (Sl.nil, 1)
        else
          (rangeS (limit_Lines_l0) (fun out_5 => out_5) l (Sl.nil : Sl api_Header) : Option ((Sl api_Header))).bind fun out_6 =>
          ((
            if (!v_.Ok) = true then
              ((
                if ¬ v_.Wait = (-1) then
                  (limit_up v_.Wait 1000).bind fun r833 =>
                  (itoa? r833).bind fun wait5 =>
                  some wait5
                else
                  some [110, 101, 118, 101, 114] : Option (Str))).bind fun wait4 =>
              (out_6.app? 32 [(api_Header.mk [114, 101, 116, 114, 121, 45, 97, 102, 116, 101, 114] wait4), (api_Header.mk [120, 45, 108, 105, 109, 105, 116, 101, 100, 45, 98, 121] v_.By)]).bind fun out_10 =>
              some out_10
            else
              some out_6 : Option ((Sl api_Header)))).bind fun out_9 =>
          if (out_9.list.length : Int) > 50 then
            some (Sl.nil, 2)
          else
            some (out_9, 0)

def gateref2_in (n : Int) (low : Int) (high : Int) : Option (Bool) :=
  some ((decide (low ≤ n)) && (decide (n ≤ high)))

def stringslite_IndexByte (s_ : Str) (c : Int) : Option (Int) :=
  some (Go.Lib.indexByte s_ c.toNat.toUInt8)

def strings_IndexByte (s_ : Str) (c : Int) : Option (Int) :=
  (stringslite_IndexByte s_ c).bind fun r4 =>
  some r4

def gateref2_only_l0 (s_ : Str) (some_ : Str) (i : Int) : (Unit) → Option (Step (Unit) (Res (Unit) (Bool)))
  | () =>
    (sget s_ i).bind fun r141 =>
    (strings_IndexByte some_ r141).bind fun r151 =>
    if r151 < 0 then
      some (Step.done (Res.ret false))
    else
      some (Step.next ())
def gateref2_only (s_ : Str) (some_ : Str) : Option (Bool) :=
  (rangeN (gateref2_only_l0 s_ some_) (fun () => Res.out ()) (s_.length : Int) () : Option (Res (Unit) (Bool))).bind (Res.elim (fun () =>
    some true) some)

def gateref2_Key (s_ : Str) : Option (Bool) :=
  (gateref2_in (s_.length : Int) 1 40).bind fun r5 =>
  ((
    if r5 = true then
      (ssub s_ 0 1).bind fun r81 =>
      (gateref2_only r81 [97, 98, 99, 100, 101, 102, 103, 104, 105, 106, 107, 108, 109, 110, 111, 112, 113, 114, 115, 116, 117, 118, 119, 120, 121, 122]).bind fun r91 =>
      some r91
    else
      some false : Option (Bool))).bind fun t10 =>
  ((
    if t10 = true then
      (gateref2_only s_ [97, 98, 99, 100, 101, 102, 103, 104, 105, 106, 107, 108, 109, 110, 111, 112, 113, 114, 115, 116, 117, 118, 119, 120, 121, 122, 48, 49, 50, 51, 52, 53, 54, 55, 56, 57, 45, 95]).bind fun r131 =>
      some r131
    else
      some false : Option (Bool))).bind fun t14 =>
  some t14

def gateref1_in (n : Int) (low : Int) (high : Int) : Option (Bool) :=
  some ((decide (low ≤ n)) && (decide (n ≤ high)))

def gateref1_LimitFault (l : api_Limit) : Option (Int) :=
  (gateref2_Key l.Key).bind fun r14 =>
  if (!r14) = true then
    some 5
  else
    (gateref1_in l.Kind 1 4).bind fun r19 =>
    if (!r19) = true then
      some 4
    else
      (gateref1_in l.Most 1 1000000000).bind fun r24 =>
      if (!r24) = true then
        some 1
      else
        ((
          if ((l.Kind == 4) && (l.Per != 0)) = true then
            some true
          else
            ((
              if (!(l.Kind == 4)) = true then
                (gateref1_in l.Per 1 8640000000).bind fun r393 =>
                some (!r393)
              else
                some false : Option (Bool))).bind fun t411 =>
            some t411 : Option (Bool))).bind fun t42 =>
        if t42 = true then
          some 1
        else
          ((
            if ((!(l.Kind == 3)) && (l.Burst != 0)) = true then
              some true
            else
              ((
                if l.Kind = 3 then
                  (gateref1_in l.Burst 1 1000000000).bind fun r563 =>
                  some (!r563)
                else
                  some false : Option (Bool))).bind fun t581 =>
              some t581 : Option (Bool))).bind fun t59 =>
          if t59 = true then
            some 1
          else
            some 0

def gateref1_LimitsFault_l0 (l : (Sl api_Limit)) (i : Int) (x3 : api_Limit) : (Unit) → Option (Step (Unit) (Res (Unit) (Int)))
  | () =>
    (gateref2_Key x3.Key).bind fun r181 =>
    if (!r181) = true then
      some (Step.done (Res.ret 5))
    else
      ((
        if i > 0 then
          (l.get? (w64 (i - 1))).bind fun x5 =>
          some (sle x3.Key x5.Key)
        else
          some false : Option (Bool))).bind fun t321 =>
      if t321 = true then
        some (Step.done (Res.ret 7))
      else
        (gateref1_LimitFault x3).bind fun f1 =>
        if ¬ f1 = 0 then
          some (Step.done (Res.ret f1))
        else
          some (Step.next ())
def gateref1_LimitsFault (l : (Sl api_Limit)) : Option (Int) :=
  if (l.list.length : Int) > 20 then
    some 2
  else
    (rangeS (gateref1_LimitsFault_l0 l) (fun () => Res.out ()) l () : Option (Res (Unit) (Int))).bind (Res.elim (fun () =>
      some 0) some)

def gateref1_KindWord (kind : Int) : Option (Str) :=
  ((Sl.full [[], [119, 105, 110, 100, 111, 119], [115, 108, 105, 100, 105, 110, 103], [98, 117, 99, 107, 101, 116], [111, 110, 99, 101]] : Sl Str).get? kind).bind fun x =>
  some x

def gateref1_LinesOf_l0 (v_ : api_Verdict) (i : Int) (x3 : api_Limit) : ((Sl api_Header) × Bool) → Option (Step ((Sl api_Header) × Bool) ((Sl api_Header) × Bool))
  | (out_5, has3) =>
    (gateref1_KindWord x3.Kind).bind fun r203 =>
    (sadd r203 [32]).bind fun r213 =>
    (itoa? x3.Most).bind fun r243 =>
    (sadd r213 r243).bind fun s_12 =>
    ((
      if x3.Per > 0 then
        (itoa? x3.Per).bind fun r327 =>
        (sadd [47] r327).bind fun r337 =>
        (sadd s_12 r337).bind fun s_15 =>
        some s_15
      else
        some s_12 : Option (Str))).bind fun s_14 =>
    (sadd [120, 45, 108, 105, 109, 105, 116, 45] x3.Key).bind fun r383 =>
    (out_5.app? 32 [(api_Header.mk r383 s_14)]).bind fun out_7 =>
    some (Step.next (out_7, (has3 || (x3.Key == v_.By))))
def gateref1_LinesOf (l : (Sl api_Limit)) (v_ : api_Verdict) : Option ((Sl api_Header) × Int) :=
  (rangeS (gateref1_LinesOf_l0 v_) (fun (out_5, has3) => (out_5, has3)) l ((Sl.nil : Sl api_Header), false) : Option ((Sl api_Header) × Bool)).bind fun (out_6, has4) =>
  if (v_.Ok && ((v_.By != []) || (v_.Wait != 0))) = true then
    some (Sl.nil, 3)
  else
    if v_.Ok = true then
      some (out_6, 0)
    else
      if (!has4) = true then
        some (Sl.nil, 8)
      else
        (gateref1_in v_.Wait (-1) 345686400000).bind fun r75 =>
        if (!r75) = true then
          some (Sl.nil, 1)
        else
          ((
            if v_.Wait ≥ 0 then
              (itoa? (w64 (Int.tdiv (w64 (v_.Wait + 999)) 1000))).bind fun wait2 =>
              some wait2
            else
              some [110, 101, 118, 101, 114] : Option (Str))).bind fun wait1 =>
          (out_6.app? 32 [(api_Header.mk [114, 101, 116, 114, 121, 45, 97, 102, 116, 101, 114] wait1), (api_Header.mk [120, 45, 108, 105, 109, 105, 116, 101, 100, 45, 98, 121] v_.By)]).bind fun out_8 =>
          some (out_8, 0)

def slices_Equal_api_Header_api_Header_l0 (s2 : (Sl api_Header)) (i : Int) (x2 : api_Header) : (Unit) → Option (Step (Unit) (Res (Unit) (Bool)))
  | () =>
    (s2.get? i).bind fun x3 =>
    if (!(eq_api_Header x2 x3)) = true then
      some (Step.done (Res.ret false))
    else
      some (Step.next ())
def slices_Equal_api_Header_api_Header (s1 : (Sl api_Header)) (s2 : (Sl api_Header)) : Option (Bool) :=
  if ¬ (s1.list.length : Int) = (s2.list.length : Int) then
    some false
  else
    (rangeS (slices_Equal_api_Header_api_Header_l0 s2) (fun () => Res.out ()) s1 () : Option (Res (Unit) (Bool))).bind (Res.elim (fun () =>
      some true) some)

def gatelaw1_LinesWritten (l : (Sl Int)) : Option (Bool) :=
  (gatemake_Stream_Limits (gatemake_Stream.mk l 0)).bind fun (x, t13) =>
  (gatemake_Stream_Some t13 (Sl.full [[108, 97], [108, 98], [108, 99], [122, 122], []] : Sl Str)).bind fun (r18, t131) =>
  (gatemake_Stream_Pick t131 (Sl.full [(-1), 0, 1, 999, 1000, 1001, (-2), 345686400000, 345686400001] : Sl Int)).bind fun (r21, t132) =>
  (gatemake_Stream_Flip t132 3).bind fun (r24, t133) =>
  ((
    if r24 = true then
      (gatemake_Stream_Some t133 (Sl.full [[], [], [108, 97]] : Sl Str)).bind fun (r271, t136) =>
      (gatemake_Stream_Pick t136 (Sl.full [0, 0, 1] : Sl Int)).bind fun (r301, t137) =>
      some (api_Verdict.mk true r271 r301)
    else
      some (api_Verdict.mk false r18 r21) : Option (api_Verdict))).bind fun v_ =>
  (limit_Lines x v_).bind fun (h, e) =>
  (gateref1_LimitsFault x).bind fun fault =>
  if ¬ fault = 0 then
    ((
      if ((e == fault) && ((h.list.length : Int) == 0)) = true then
        some true
      else
        some false : Option (Bool))).bind fun t52 =>
    some t52
  else
    (gateref1_LinesOf x v_).bind fun (y, f) =>
    ((
      if e = f then
        (slices_Equal_api_Header_api_Header h y).bind fun r651 =>
        some r651
      else
        some false : Option (Bool))).bind fun t66 =>
    ((
      if t66 = true then
        some true
      else
        some false : Option (Bool))).bind fun t69 =>
    some t69
end Go.GW
