/- Typed functions. Printed by gen.py. -/
import Derived.Test.YtdpfbnefkemkiaaGxLoops
import Derived.Lib.Bytealg
noncomputable section
namespace Go.GW
open Go.AE
structure gatemake_Stream where
  L : (Sl Int)
  at_ : Int
  deriving Inhabited
def c_gatemake_Stream (x : gatemake_Stream) : List AV := [(Sl.av 1 c_i64 x.L), (iA x.at_)]
instance (x : gatemake_Stream) : Cs (c_gatemake_Stream x) := inferInstanceAs (Cs ([(Sl.av 1 c_i64 x.L), (iA x.at_)]))
structure api_Limit where
  Key : Str
  Kind : Int
  Most : Int
  Per : Int
  Burst : Int
  deriving Inhabited
def c_api_Limit (x : api_Limit) : List AV := [(sA x.Key), (iA x.Kind), (iA x.Most), (iA x.Per), (iA x.Burst)]
instance (x : api_Limit) : Cs (c_api_Limit x) := inferInstanceAs (Cs ([(sA x.Key), (iA x.Kind), (iA x.Most), (iA x.Per), (iA x.Burst)]))
structure limit_bucket where
  l : api_Limit
  at_ : Int
  level : Int
  deriving Inhabited
def c_limit_bucket (x : limit_bucket) : List AV := c_api_Limit x.l ++ [(iA x.at_), (iA x.level)]
instance (x : limit_bucket) : Cs (c_limit_bucket x) := inferInstanceAs (Cs (c_api_Limit x.l ++ [(iA x.at_), (iA x.level)]))

def gatemake_Below (x : Int) (n : Int) : Option (Int) :=
  if n < 1 then
    some 0
  else
    (ckrem .i64 x n).bind fun x1 =>
    if x1 < 0 then
      some (w64 (x1 + n))
    else
      some x1

def gatemake_Stream_Next (s_ : gatemake_Stream) (n : Int) : Option (Int × gatemake_Stream) :=
  if (s_.L.list.length : Int) = 0 then
    (gatemake_Below (w64 ((w64 (s_.at_ + 1)) * 7919)) n).bind fun r4 =>
    some (r4, { s_ with at_ := w64 (s_.at_ + 1) })
  else
    (ckrem .i64 (w64 ((w64 (s_.at_ + 1)) - 1)) (s_.L.list.length : Int)).bind fun i =>
    (ckquo .i64 (w64 ((w64 (s_.at_ + 1)) - 1)) (s_.L.list.length : Int)).bind fun round =>
    (s_.L.get? i).bind fun x =>
    (gatemake_Below x 1073741824).bind fun r56 =>
    (gatemake_Below (w64 (r56 + (w64 (round * (w64 (7919 + i)))))) n).bind fun r41 =>
    some (r41, { s_ with at_ := w64 (s_.at_ + 1) })

def gatemake_Stream_Range (s_ : gatemake_Stream) (low : Int) (high : Int) : Option (Int × gatemake_Stream) :=
  if high < low then
    some (low, s_)
  else
    (gatemake_Stream_Next s_ (w64 ((w64 (high - low)) + 1))).bind fun (r17, s_1) =>
    some (w64 (low + r17), s_1)

def gatemake_Stream_Pick (s_ : gatemake_Stream) (l : (Sl Int)) : Option (Int × gatemake_Stream) :=
  (gatemake_Stream_Next s_ (l.list.length : Int)).bind fun (r9, s_1) =>
  (l.get? r9).bind fun x =>
  some (x, s_1)

def gatemake_Stream_RightLimit (s_ : gatemake_Stream) (key : Str) : Option (api_Limit × gatemake_Stream) :=
  (gatemake_Stream_Range s_ 1 4).bind fun (r8, s_1) =>
  (gatemake_Stream_Pick s_1 (Sl.full [1, 2, 3, 5])).bind fun (r11, s_2) =>
  (gatemake_Stream_Pick s_2 (Sl.full [1, 7, 10, 50, 100])).bind fun (r14, s_3) =>
  if r8 = 3 then
    (gatemake_Stream_Pick s_3 (Sl.full [1, 2, 5])).bind fun (r22, s_4) =>
    some ((api_Limit.mk key r8 r11 r14 r22), s_4)
  else
    if r8 = 4 then
      some ((api_Limit.mk key r8 r11 0 0), s_3)
    else
      some ((api_Limit.mk key r8 r11 r14 0), s_3)

def gatemake_Stream_Flip (s_ : gatemake_Stream) (n : Int) : Option (Bool × gatemake_Stream) :=
  (gatemake_Stream_Next s_ n).bind fun (r7, s_1) =>
  some (r7 == 0, s_1)

def gatemake_Stream_Odd (s_ : gatemake_Stream) (low : Int) (high : Int) : Option (Int × gatemake_Stream) :=
  (gatemake_Stream_Flip s_ 12).bind fun (r8, s_1) =>
  if r8 = true then
    (gatemake_Stream_Pick s_1 (Sl.full [w64 (low - 1), w64 (high + 1), low, high, (-1099511627776), 1099511627776])).bind fun (r6, s_2) =>
    some (r6, s_2)
  else
    (gatemake_Stream_Range s_1 low high).bind fun (r61, s_3) =>
    some (r61, s_3)

def kit_IsKey_l0 (s_ : Str) : (Int) → Option (Step (Int) (Res (Unit) (Bool)))
  | i1 =>
    if i1 < (s_.length : Int) then
      (sget s_ i1).bind fun c1 =>
      if (!(((decide (c1 ≥ 97)) && (decide (c1 ≤ 122))) || ((decide (i1 > 0)) && ((((decide (c1 ≥ 48)) && (decide (c1 ≤ 57))) || (c1 == 45)) || (c1 == 95))))) = true then
        some (Step.done (Res.ret false))
      else
        some (Step.next (w64 (i1 + 1)))
    else
      some (Step.done (Res.out ()))
def kit_IsKey (s_ : Str) : Option (Bool) :=
  (loopV (kit_IsKey_l0 s_) 0 : Option (Res (Unit) (Bool))).bind (Res.elim (fun () =>
    some ((s_ != []) && (decide ((s_.length : Int) ≤ 40)))) some)

def kit_Outside (n : Int) (low : Int) (high : Int) : Option (Bool) :=
  some ((decide (n < low)) || (decide (n > high)))

def limit_limitFault (l : (Sl api_Limit)) (i : Int) : Option (Int) :=
  (l.get? i).bind fun x =>
  (kit_IsKey x.Key).bind fun r21 =>
  if (!r21) = true then
    some 5
  else
    ((
      if i > 0 then
        (l.get? (w64 (i - 1))).bind fun x2 =>
        some (sle x.Key x2.Key)
      else
        some false : Option (Bool))).bind fun t36 =>
    if t36 = true then
      some 7
    else
      (kit_Outside x.Kind 1 4).bind fun r37 =>
      if r37 = true then
        some 4
      else
        (kit_Outside x.Most 1 1000000000).bind fun r41 =>
        if r41 = true then
          some 1
        else
          ((
            if ((x.Kind == 4) && (x.Per != 0)) = true then
              some true
            else
              ((
                if (!(x.Kind == 4)) = true then
                  (kit_Outside x.Per 1 8640000000).bind fun r583 =>
                  some r583
                else
                  some false : Option (Bool))).bind fun t591 =>
              some t591 : Option (Bool))).bind fun t60 =>
          if t60 = true then
            some 1
          else
            ((
              if ((!(x.Kind == 3)) && (x.Burst != 0)) = true then
                some true
              else
                ((
                  if x.Kind = 3 then
                    (kit_Outside x.Burst 1 1000000000).bind fun r743 =>
                    some r743
                  else
                    some false : Option (Bool))).bind fun t751 =>
                some t751 : Option (Bool))).bind fun t76 =>
            if t76 = true then
              some 1
            else
              some 0

def limit_CheckLimits_l0 (l : (Sl api_Limit)) (i : Int) (x : api_Limit) : (Unit) → Option (Step (Unit) (Res (Unit) (Int)))
  | () =>
    (limit_limitFault l i).bind fun e1 =>
    if ¬ e1 = 0 then
      some (Step.done (Res.ret e1))
    else
      some (Step.next ())
def limit_CheckLimits (l : (Sl api_Limit)) : Option (Int) :=
  if (l.list.length : Int) > 20 then
    some 2
  else
    (rangeS (limit_CheckLimits_l0 l) (fun () => Res.out ()) l () : Option (Res (Unit) (Int))).bind (Res.elim (fun () =>
      some 0) some)

def limit_up (a : Int) (b : Int) : Option (Int) :=
  (ckquo .i64 a b).bind fun n =>
  (ckrem .i64 a b).bind fun r11 =>
  if ¬ r11 = 0 then
    some (w64 (n + 1))
  else
    some n

def limit_bucket_now (b : limit_bucket) (at_ : Int) : Option (Int) :=
  (limit_up (w64 ((w64 (b.l.Burst * b.l.Per)) - b.level)) b.l.Most).bind fun r34 =>
  if (w64 (at_ - b.at_)) ≥ r34 then
    some (w64 (b.l.Burst * b.l.Per))
  else
    some (w64 (b.level + (w64 (b.l.Most * (w64 (at_ - b.at_))))))

def limit_bucket_most (b : limit_bucket) (at_ : Int) : Option (Int) :=
  (limit_bucket_now b at_).bind fun r7 =>
  (ckquo .i64 r7 b.l.Per).bind fun r4 =>
  some r4

def limit_bucket_add (b : limit_bucket) (at_ : Int) (cost : Int) (a3 : Int) : Option (limit_bucket) :=
  (limit_bucket_now b at_).bind fun r12 =>
  some ({ b with at_ := at_, level := w64 (r12 - (w64 (cost * b.l.Per))) })

def limit_Room_l0 (at_ : Int) : (limit_bucket × Int) → Option (Step (limit_bucket × Int) (Int))
  | (t513, sum2) =>
    (limit_bucket_most t513 at_).bind fun n2 =>
    (limit_bucket_add t513 at_ n2 0).bind fun t514 =>
    some (Step.next (t514, w64 (sum2 + n2)))
def limit_Room (l : api_Limit) (long : Int) : Option (Int × Int) :=
  (limit_CheckLimits (Sl.full [l])).bind fun e =>
  if ¬ e = 0 then
    some (0, e)
  else
    if l.Kind = 4 then
      some (0, 10)
    else
      (kit_Outside long 1 100000).bind fun r21 =>
      if r21 = true then
        some (0, 1)
      else
        if l.Kind = 1 then
          (limit_up (w64 (long - 1)) l.Per).bind fun r32 =>
          some (w64 (l.Most * (w64 (1 + r32))), 0)
        else
          if l.Kind = 2 then
            (limit_up long l.Per).bind fun r42 =>
            some (w64 (l.Most * r42), 0)
          else
            (rangeN (limit_Room_l0) (fun (t513, sum2) => sum2) long ((limit_bucket.mk l 0 (w64 (l.Burst * l.Per))), 0) : Option (Int)).bind fun sum3 =>
            some (sum3, 0)

def gateref2_in (n : Int) (low : Int) (high : Int) : Option (Bool) :=
  some ((decide (low ≤ n)) && (decide (n ≤ high)))

def stringslite_IndexByte (s_ : Str) (c : Int) : Option (Int) :=
  some (Go.Lib.indexByte s_ c.toNat.toUInt8)

def strings_IndexByte (s_ : Str) (c : Int) : Option (Int) :=
  (stringslite_IndexByte s_ c).bind fun r4 =>
  some r4

def gateref2_only_l0 (s_ : Str) (some_ : Str) (i : Int) : (Unit) → Option (Step (Unit) (Res (Unit) (Bool)))
  | () =>
    (sget s_ i).bind fun r141 =>
    (strings_IndexByte some_ r141).bind fun r151 =>
    if r151 < 0 then
      some (Step.done (Res.ret false))
    else
      some (Step.next ())
def gateref2_only (s_ : Str) (some_ : Str) : Option (Bool) :=
  (rangeN (gateref2_only_l0 s_ some_) (fun () => Res.out ()) (s_.length : Int) () : Option (Res (Unit) (Bool))).bind (Res.elim (fun () =>
    some true) some)

def gateref2_Key (s_ : Str) : Option (Bool) :=
  (gateref2_in (s_.length : Int) 1 40).bind fun r5 =>
  ((
    if r5 = true then
      (ssub s_ 0 1).bind fun r81 =>
      (gateref2_only r81 [97, 98, 99, 100, 101, 102, 103, 104, 105, 106, 107, 108, 109, 110, 111, 112, 113, 114, 115, 116, 117, 118, 119, 120, 121, 122]).bind fun r91 =>
      some r91
    else
      some false : Option (Bool))).bind fun t10 =>
  ((
    if t10 = true then
      (gateref2_only s_ [97, 98, 99, 100, 101, 102, 103, 104, 105, 106, 107, 108, 109, 110, 111, 112, 113, 114, 115, 116, 117, 118, 119, 120, 121, 122, 48, 49, 50, 51, 52, 53, 54, 55, 56, 57, 45, 95]).bind fun r131 =>
      some r131
    else
      some false : Option (Bool))).bind fun t14 =>
  some t14

def gateref1_in (n : Int) (low : Int) (high : Int) : Option (Bool) :=
  some ((decide (low ≤ n)) && (decide (n ≤ high)))

def gateref1_LimitFault (l : api_Limit) : Option (Int) :=
  (gateref2_Key l.Key).bind fun r14 =>
  if (!r14) = true then
    some 5
  else
    (gateref1_in l.Kind 1 4).bind fun r19 =>
    if (!r19) = true then
      some 4
    else
      (gateref1_in l.Most 1 1000000000).bind fun r24 =>
      if (!r24) = true then
        some 1
      else
        ((
          if ((l.Kind == 4) && (l.Per != 0)) = true then
            some true
          else
            ((
              if (!(l.Kind == 4)) = true then
                (gateref1_in l.Per 1 8640000000).bind fun r393 =>
                some (!r393)
              else
                some false : Option (Bool))).bind fun t411 =>
            some t411 : Option (Bool))).bind fun t42 =>
        if t42 = true then
          some 1
        else
          ((
            if ((!(l.Kind == 3)) && (l.Burst != 0)) = true then
              some true
            else
              ((
                if l.Kind = 3 then
                  (gateref1_in l.Burst 1 1000000000).bind fun r563 =>
                  some (!r563)
                else
                  some false : Option (Bool))).bind fun t581 =>
              some t581 : Option (Bool))).bind fun t59 =>
          if t59 = true then
            some 1
          else
            some 0

def gateref1_LimitsFault_l0 (l : (Sl api_Limit)) (i : Int) (x3 : api_Limit) : (Unit) → Option (Step (Unit) (Res (Unit) (Int)))
  | () =>
    (gateref2_Key x3.Key).bind fun r181 =>
    if (!r181) = true then
      some (Step.done (Res.ret 5))
    else
      ((
        if i > 0 then
          (l.get? (w64 (i - 1))).bind fun x5 =>
          some (sle x3.Key x5.Key)
        else
          some false : Option (Bool))).bind fun t321 =>
      if t321 = true then
        some (Step.done (Res.ret 7))
      else
        (gateref1_LimitFault x3).bind fun f1 =>
        if ¬ f1 = 0 then
          some (Step.done (Res.ret f1))
        else
          some (Step.next ())
def gateref1_LimitsFault (l : (Sl api_Limit)) : Option (Int) :=
  if (l.list.length : Int) > 20 then
    some 2
  else
    (rangeS (gateref1_LimitsFault_l0 l) (fun () => Res.out ()) l () : Option (Res (Unit) (Int))).bind (Res.elim (fun () =>
      some 0) some)

def gatelaw1_when (is : Bool) (e : Int) : Option (Int) :=
  if is = true then
    some e
  else
    some 0

def cmp_Or_api_Errno_l0 (i : Int) (val : Int) : (Unit) → Option (Step (Unit) (Res (Unit) (Int)))
  | () =>
    if ¬ val = 0 then
      some (Step.done (Res.ret val))
    else
      some (Step.next ())
def cmp_Or_api_Errno (vals : (Sl Int)) : Option (Int) :=
  (rangeS (cmp_Or_api_Errno_l0) (fun () => Res.out ()) vals () : Option (Res (Unit) (Int))).bind (Res.elim (fun () =>
    some 0) some)

def gateref1_RoomOf_l0 (l : api_Limit) : (Int × Int) → Option (Step (Int × Int) (Int))
  | (windows1, n1) =>
    if n1 ≥ 0 then
      some (Step.next (w64 (windows1 + 1), w64 (n1 - l.Per)))
    else
      some (Step.done windows1)
def gateref1_RoomOf_l1 (l : api_Limit) (i : Int) : (Int × Int) → Option (Step (Int × Int) (Int))
  | (n3, sum1) =>
    (ckquo .i64 n3 l.Per).bind fun r521 =>
    (ckrem .i64 n3 l.Per).bind fun r621 =>
    some (Step.next (imin (w64 (l.Burst * l.Per)) (w64 (r621 + l.Most)), w64 (sum1 + r521)))
def gateref1_RoomOf (l : api_Limit) (long : Int) : Option (Int) :=
  if l.Kind = 1 then
    (loopV (gateref1_RoomOf_l0 l) (1, w64 (long - 2)) : Option (Int)).bind fun windows2 =>
    some (w64 (windows2 * l.Most))
  else
    if l.Kind = 2 then
      (ckquo .i64 (w64 ((w64 (long + l.Per)) - 1)) l.Per).bind fun r36 =>
      some (w64 (r36 * l.Most))
    else
      (rangeN (gateref1_RoomOf_l1 l) (fun (n3, sum1) => sum1) long (w64 (l.Burst * l.Per), 0) : Option (Int)).bind fun sum2 =>
      some sum2

def limit_shareFault_l0 (weights : (Sl Int)) (i : Int) (n : Int) : (Unit) → Option (Step (Unit) (Res (Unit) (Int)))
  | () =>
    (kit_Outside n 0 1000000000).bind fun r271 =>
    ((
      if r271 = true then
        some true
      else
        (weights.get? i).bind fun x4 =>
        (kit_Outside x4 1 1000).bind fun r333 =>
        some r333 : Option (Bool))).bind fun t341 =>
    if t341 = true then
      some (Step.done (Res.ret 1))
    else
      some (Step.next ())
def limit_shareFault (most : Int) (wants : (Sl Int)) (weights : (Sl Int)) : Option (Int) :=
  (kit_Outside most 0 1000000000).bind fun r10 =>
  if r10 = true then
    some 1
  else
    if (wants.list.length : Int) > 500 then
      some 2
    else
      if ¬ (weights.list.length : Int) = (wants.list.length : Int) then
        some 3
      else
        (rangeS (limit_shareFault_l0 weights) (fun () => Res.out ()) wants () : Option (Res (Unit) (Int))).bind (Res.elim (fun () =>
          some 0) some)

def limit_shares_l0 (weights : (Sl Int)) (level : Int) (i : Int) (n : Int) : ((Ar Int) × Int) → Option (Step ((Ar Int) × Int) ((Ar Int) × Int))
  | (out_3, sum2) =>
    (weights.get? i).bind fun x4 =>
    (out_3.app? 8 [imin n (w64 (x4 * level))]).bind fun out_5 =>
    some (Step.next (out_5, w64 (sum2 + (imin n (w64 (x4 * level))))))
def limit_shares (wants : (Sl Int)) (weights : (Sl Int)) (level : Int) : Option ((Sl Int) × Int) :=
  (rangeS (limit_shares_l0 weights level) (fun (out_3, sum2) => (out_3, sum2)) wants ((Ar.nil : Ar Int), 0) : Option ((Ar Int) × Int)).bind fun (out_4, sum3) =>
  some (out_4.sl, sum3)

def limit_Fair_l0 (most : Int) (wants : (Sl Int)) (weights : (Sl Int)) : (Int × Int) → Option (Step (Int × Int) (Int))
  | (low1, high1) =>
    if (w64 (high1 - low1)) > 1 then
      (limit_shares wants weights (w64 (Int.tdiv (w64 (low1 + high1)) 2))).bind fun (t141, sum2) =>
      if sum2 ≤ most then
        some (Step.next (w64 (Int.tdiv (w64 (low1 + high1)) 2), high1))
      else
        some (Step.next (low1, w64 (Int.tdiv (w64 (low1 + high1)) 2)))
    else
      some (Step.done low1)
def limit_Fair_l1 (most : Int) (weights : (Sl Int)) (i : Int) (n : Int) : ((Ar Int) × Int) → Option (Step ((Ar Int) × Int) ((Ar Int)))
  | (out_36, sum6) =>
    (out_36.get? i).bind fun x10 =>
    (weights.get? i).bind fun x11 =>
    (out_36.get? i).bind fun x12 =>
    (out_36.get? i).bind fun x13 =>
    (out_36.set? i (w64 (x12 + (imin (imin (w64 (n - x10)) x11) (w64 (most - sum6)))))).bind fun out_38 =>
    some (Step.next (out_38, w64 (sum6 + (imin (imin (w64 (n - x10)) x11) (w64 (most - sum6))))))
def limit_Fair (most : Int) (wants : (Sl Int)) (weights : (Sl Int)) : Option ((Sl Int) × Int) :=
  (limit_shareFault most wants weights).bind fun e =>
  if ¬ e = 0 then
    some (Sl.nil, e)
  else
    (limit_shares wants weights 1000000000).bind fun (out_1, sum) =>
    (out_1.ar?).bind fun out_2 =>
    if sum ≤ most then
      some (out_2.sl, 0)
    else
      (loopV (limit_Fair_l0 most wants weights) (0, 1000000000) : Option (Int)).bind fun low2 =>
      (limit_shares wants weights low2).bind fun (out_31, sum3) =>
      (out_31.ar?).bind fun out_32 =>
      (rangeS (limit_Fair_l1 most weights) (fun (out_36, sum6) => out_36) wants (out_32, sum3) : Option ((Ar Int))).bind fun out_37 =>
      some (out_37.sl, 0)

def gateref1_FairFault_l0 (weights : (Sl Int)) (i : Int) (w : Int) : (Unit) → Option (Step (Unit) (Res (Unit) (Int)))
  | () =>
    (gateref1_in w 0 1000000000).bind fun r311 =>
    ((
      if (!r311) = true then
        some true
      else
        (weights.get? i).bind fun x4 =>
        (gateref1_in x4 1 1000).bind fun r383 =>
        some (!r383) : Option (Bool))).bind fun t401 =>
    if t401 = true then
      some (Step.done (Res.ret 1))
    else
      some (Step.next ())
def gateref1_FairFault (most : Int) (wants : (Sl Int)) (weights : (Sl Int)) : Option (Int) :=
  (gateref1_in most 0 1000000000).bind fun r11 =>
  if (!r11) = true then
    some 1
  else
    if (wants.list.length : Int) > 500 then
      some 2
    else
      if ¬ (wants.list.length : Int) = (weights.list.length : Int) then
        some 3
      else
        (rangeS (gateref1_FairFault_l0 weights) (fun () => Res.out ()) wants () : Option (Res (Unit) (Int))).bind (Res.elim (fun () =>
          some 0) some)

def gateref1_FairOf_1_l0 (t : Int) (cap2 : (Sl Int)) (i : Int) (w : Int) : ((Ar Int) × Int) → Option (Step ((Ar Int) × Int) ((Ar Int) × Int))
  | (out_3, sum2) =>
    (cap2.get? i).bind fun x6 =>
    (out_3.app? 8 [imin w (w64 (x6 * t))]).bind fun out_5 =>
    (out_5.get? i).bind fun x7 =>
    some (Step.next (out_5, w64 (sum2 + x7)))
def gateref1_FairOf_1 (t : Int) (cap1 : (Sl Int)) (cap2 : (Sl Int)) : Option ((Sl Int) × Int) :=
  (rangeS (gateref1_FairOf_1_l0 t cap2) (fun (out_3, sum2) => (out_3, sum2)) cap1 ((Ar.nil : Ar Int), 0) : Option ((Ar Int) × Int)).bind fun (out_4, sum3) =>
  some (out_4.sl, sum3)

def gateref1_FairOf_l0 (most : Int) (wants : (Sl Int)) (weights : (Sl Int)) : (Int × Int) → Option (Step (Int × Int) (Int))
  | (low1, high1) =>
    if (w64 (high1 - low1)) > 1 then
      (gateref1_FairOf_1 (w64 (Int.tdiv (w64 (low1 + high1)) 2)) wants weights).bind fun (t131, sum2) =>
      if sum2 ≤ most then
        some (Step.next (w64 (Int.tdiv (w64 (low1 + high1)) 2), high1))
      else
        some (Step.next (low1, w64 (Int.tdiv (w64 (low1 + high1)) 2)))
    else
      some (Step.done low1)
def gateref1_FairOf_l1 (most : Int) (weights : (Sl Int)) (i : Int) (w : Int) : ((Ar Int) × Int) → Option (Step ((Ar Int) × Int) ((Ar Int)))
  | (out_6, sum6) =>
    (out_6.get? i).bind fun x10 =>
    (weights.get? i).bind fun x11 =>
    (out_6.get? i).bind fun x12 =>
    (out_6.get? i).bind fun x13 =>
    (out_6.set? i (w64 (x12 + (imin (imin (w64 (w - x10)) x11) (w64 (most - sum6)))))).bind fun out_8 =>
    some (Step.next (out_8, w64 (sum6 + (imin (imin (w64 (w - x10)) x11) (w64 (most - sum6))))))
def gateref1_FairOf (most : Int) (wants : (Sl Int)) (weights : (Sl Int)) : Option ((Sl Int)) :=
  (gateref1_FairOf_1 1000000000 wants weights).bind fun (all, sum) =>
  if sum ≤ most then
    some all
  else
    (loopV (gateref1_FairOf_l0 most wants weights) (0, 1000000000) : Option (Int)).bind fun low2 =>
    (gateref1_FairOf_1 low2 wants weights).bind fun (out_1, sum3) =>
    (out_1.ar?).bind fun out_2 =>
    (rangeS (gateref1_FairOf_l1 most weights) (fun (out_6, sum6) => out_6) wants (out_2, sum3) : Option ((Ar Int))).bind fun out_7 =>
    some out_7.sl

def slices_Equal_int_int_l0 (s2 : (Sl Int)) (i : Int) (x2 : Int) : (Unit) → Option (Step (Unit) (Res (Unit) (Bool)))
  | () =>
    (s2.get? i).bind fun x3 =>
    if ¬ x2 = x3 then
      some (Step.done (Res.ret false))
    else
      some (Step.next ())
def slices_Equal_int_int (s1 : (Sl Int)) (s2 : (Sl Int)) : Option (Bool) :=
  if ¬ (s1.list.length : Int) = (s2.list.length : Int) then
    some false
  else
    (rangeS (slices_Equal_int_int_l0 s2) (fun () => Res.out ()) s1 () : Option (Res (Unit) (Bool))).bind (Res.elim (fun () =>
      some true) some)

def gatelaw1_RoomsCounted_l0 (i : Int) : (gatemake_Stream × (Ar Int) × (Ar Int)) → Option (Step (gatemake_Stream × (Ar Int) × (Ar Int)) (gatemake_Stream × (Ar Int) × (Ar Int)))
  | (t1615, wants3, weights3) =>
    (gatemake_Stream_Pick t1615 (Sl.full [0, 1, 3, 9, 20, 1000000000])).bind fun (r762, t1617) =>
    (wants3.app? 8 [r762]).bind fun wants5 =>
    (gatemake_Stream_Pick t1617 (Sl.full [1, 1, 2, 5, 1000])).bind fun (r822, t1618) =>
    (weights3.app? 8 [r822]).bind fun weights5 =>
    some (Step.next (t1618, wants5, weights5))
def gatelaw1_RoomsCounted (l : (Sl Int)) : Option (Bool) :=
  (gatemake_Stream_RightLimit (gatemake_Stream.mk l 0) [108, 97]).bind fun (r18, t16) =>
  (gatemake_Stream_Flip t16 12).bind fun (r20, t161) =>
  ((
    if r20 = true then
      (gatemake_Stream_Odd t161 1 1000000000).bind fun (r221, t165) =>
      (gatemake_Stream_Odd t165 1 8640000000).bind fun (r241, t166) =>
      some (t166, { r18 with Most := r221, Per := r241 })
    else
      some (t161, r18) : Option (gatemake_Stream × api_Limit))).bind fun (t164, x) =>
  (gatemake_Stream_Pick t164 (Sl.full [1, 2, 3, 7, 8, 11, 100, 101, 0, 100000, 100001])).bind fun (long, t167) =>
  (limit_Room x long).bind fun (n, e) =>
  (gateref1_LimitsFault (Sl.full [x])).bind fun r38 =>
  (gatelaw1_when (x.Kind == 4) 10).bind fun r42 =>
  (gatelaw1_when ((decide (long < 1)) || (decide (long > 100000))) 1).bind fun r49 =>
  (cmp_Or_api_Errno (Sl.full [r38, r42, r49])).bind fun fault =>
  ((
    if ¬ e = fault then
      some true
    else
      ((
        if fault = 0 then
          (gateref1_RoomOf x long).bind fun r623 =>
          some (n != r623)
        else
          some false : Option (Bool))).bind fun t641 =>
      some t641 : Option (Bool))).bind fun t65 =>
  if t65 = true then
    some false
  else
    (gatemake_Stream_Pick t167 (Sl.full [0, 1, 7, 10, 30, 100, 1000000000, (-1)])).bind fun (most, t168) =>
    (gatemake_Stream_Next t168 6).bind fun (r70, t169) =>
    (rangeN (gatelaw1_RoomsCounted_l0) (fun (t1615, wants3, weights3) => (t1615, wants3, weights3)) r70 (t169, (Ar.nil : Ar Int), (Ar.nil : Ar Int)) : Option (gatemake_Stream × (Ar Int) × (Ar Int))).bind fun (t1616, wants4, weights4) =>
    ((
      if (wants4.list.length : Int) > 0 then
        (gatemake_Stream_Flip t1616 20).bind fun (r911, t1627) =>
        some (t1627, r911)
      else
        some (t1616, false) : Option (gatemake_Stream × Bool))).bind fun (t1620, t92) =>
    ((
      if t92 = true then
        (gatemake_Stream_Odd t1620 0 1000000000).bind fun (r961, t1624) =>
        (gatemake_Stream_Odd t1624 1 1000).bind fun (r981, t1625) =>
        (wants4.get? 0).bind fun x3 =>
        (wants4.set? 0 r961).bind fun wants8 =>
        (weights4.get? 0).bind fun x4 =>
        (weights4.set? 0 r981).bind fun weights8 =>
        some (t1625, wants8, weights8)
      else
        some (t1620, wants4, weights4) : Option (gatemake_Stream × (Ar Int) × (Ar Int)))).bind fun (t1623, wants7, weights7) =>
    (gatemake_Stream_Flip t1623 20).bind fun (r102, t1626) =>
    ((
      if r102 = true then
        (wants7.app? 8 [1]).bind fun wants11 =>
        some wants11
      else
        some wants7 : Option ((Ar Int)))).bind fun wants10 =>
    (limit_Fair most wants10.sl weights7.sl).bind fun (y, f) =>
    (gateref1_FairFault most wants10.sl weights7.sl).bind fun fault1 =>
    if ¬ fault1 = 0 then
      ((
        if ((f == fault1) && ((y.list.length : Int) == 0)) = true then
          some true
        else
          some false : Option (Bool))).bind fun t129 =>
      some t129
    else
      ((
        if f = 0 then
          (gateref1_FairOf most wants10.sl weights7.sl).bind fun r1371 =>
          (slices_Equal_int_int y r1371).bind fun r1381 =>
          some r1381
        else
          some false : Option (Bool))).bind fun t139 =>
      ((
        if t139 = true then
          some true
        else
          some false : Option (Bool))).bind fun t142 =>
      some t142
end Go.GW
