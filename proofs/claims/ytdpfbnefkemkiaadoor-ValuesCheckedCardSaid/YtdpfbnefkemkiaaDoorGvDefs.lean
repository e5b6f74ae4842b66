/- Typed functions. Printed by gen.py. -/
import Derived.Test.YtdpfbnefkemkiaaDoorGxArr
import Derived.Lib.Bytealg
noncomputable section
namespace Go.GW
open Go.AE
set_option linter.unusedVariables false
set_option linter.unusedSimpArgs false
structure gatemake_Stream where
  L : (Sl Int)
  at_ : Int
  deriving Inhabited
def c_gatemake_Stream (x : gatemake_Stream) : List AV := [(Sl.av 1 c_i64 x.L), (iA x.at_)]
instance (x : gatemake_Stream) : Cs (c_gatemake_Stream x) := inferInstanceAs (Cs ([(Sl.av 1 c_i64 x.L), (iA x.at_)]))
mutual
inductive api_Member where
  | mk (Name : Str) (Value : api_Value)
inductive api_Value where
  | mk (Kind : Int) (Flag : Bool) (Number : Int) (Words : Str) (List : (Sl api_Value)) (Members : (Sl api_Member))
end
def api_Member.Name : api_Member → Str | .mk a _ => a
def api_Member.Value : api_Member → api_Value | .mk _ a => a
def api_Value.Kind : api_Value → Int | .mk a _ _ _ _ _ => a
def api_Value.Flag : api_Value → Bool | .mk _ a _ _ _ _ => a
def api_Value.Number : api_Value → Int | .mk _ _ a _ _ _ => a
def api_Value.Words : api_Value → Str | .mk _ _ _ a _ _ => a
def api_Value.List : api_Value → (Sl api_Value) | .mk _ _ _ _ a _ => a
def api_Value.Members : api_Value → (Sl api_Member) | .mk _ _ _ _ _ a => a
mutual
def c_api_Member : api_Member → List AV
  | .mk x0 x1 => [(sA x0)] ++ c_api_Value x1
def c_api_Value : api_Value → List AV
  | .mk x0 x1 x2 x3 x4 x5 => [(iA x0), (bA x1), (iA x2), (sA x3), s_api_Value x4, s_api_Member x5]
def s_api_Member : Sl api_Member → AV
  | .nil => .sl true 0 []
  | .ez => .ez
  | .full l => .sl false 7 (l_api_Member l)
def l_api_Member : List api_Member → List (List AV)
  | [] => []
  | x :: r => c_api_Member x :: l_api_Member r
def s_api_Value : Sl api_Value → AV
  | .nil => .sl true 0 []
  | .ez => .ez
  | .full l => .sl false 6 (l_api_Value l)
def l_api_Value : List api_Value → List (List AV)
  | [] => []
  | x :: r => c_api_Value x :: l_api_Value r
end
theorem l_api_Member_eq : ∀ l, l_api_Member l = l.map c_api_Member
  | [] => by rw [l_api_Member]; rfl
  | x :: r => by rw [l_api_Member, l_api_Member_eq r]; rfl
theorem s_api_Member_eq (s : Sl api_Member) : s_api_Member s = s.av 7 c_api_Member := by
  cases s <;> simp [s_api_Member, Sl.av, l_api_Member_eq]
theorem l_api_Value_eq : ∀ l, l_api_Value l = l.map c_api_Value
  | [] => by rw [l_api_Value]; rfl
  | x :: r => by rw [l_api_Value, l_api_Value_eq r]; rfl
theorem s_api_Value_eq (s : Sl api_Value) : s_api_Value s = s.av 6 c_api_Value := by
  cases s <;> simp [s_api_Value, Sl.av, l_api_Value_eq]
theorem e_api_Member (x : api_Member) : c_api_Member x = [(sA x.Name)] ++ c_api_Value x.Value := by
  cases x; rw [c_api_Member]; rfl
theorem e_api_Value (x : api_Value) : c_api_Value x = [(iA x.Kind), (bA x.Flag), (iA x.Number), (sA x.Words), (Sl.av 6 c_api_Value x.List), (Sl.av 7 c_api_Member x.Members)] := by
  cases x; rw [c_api_Value]; simp only [s_api_Member_eq, s_api_Value_eq]; rfl
mutual
theorem p_api_Member : ∀ (h : AV → Option AV) (x : api_Member), AV.travL h (c_api_Member x) = some (c_api_Member x)
  | h, .mk x0 x1 => by rw [c_api_Member]; simp [AV.travL, AV.trav, travL_app, p_api_Value h x1]
theorem p_api_Value : ∀ (h : AV → Option AV) (x : api_Value), AV.travL h (c_api_Value x) = some (c_api_Value x)
  | h, .mk x0 x1 x2 x3 x4 x5 => by rw [c_api_Value]; simp [AV.travL, AV.trav, travL_app, ps_api_Value h x4, ps_api_Member h x5]
theorem ps_api_Member : ∀ (h : AV → Option AV) (x : Sl api_Member), AV.trav h (s_api_Member x) = some (s_api_Member x)
  | h, .nil => by rw [s_api_Member]; rfl
  | h, .ez => by rw [s_api_Member]; rfl
  | h, .full l => by rw [s_api_Member]; simp [AV.trav, pl_api_Member h l]
theorem pl_api_Member : ∀ (h : AV → Option AV) (x : List api_Member), AV.travLL h (l_api_Member x) = some (l_api_Member x)
  | h, [] => by rw [l_api_Member]; rfl
  | h, x :: r => by rw [l_api_Member]; simp [AV.travLL, p_api_Member h x, pl_api_Member h r]
theorem ps_api_Value : ∀ (h : AV → Option AV) (x : Sl api_Value), AV.trav h (s_api_Value x) = some (s_api_Value x)
  | h, .nil => by rw [s_api_Value]; rfl
  | h, .ez => by rw [s_api_Value]; rfl
  | h, .full l => by rw [s_api_Value]; simp [AV.trav, pl_api_Value h l]
theorem pl_api_Value : ∀ (h : AV → Option AV) (x : List api_Value), AV.travLL h (l_api_Value x) = some (l_api_Value x)
  | h, [] => by rw [l_api_Value]; rfl
  | h, x :: r => by rw [l_api_Value]; simp [AV.travLL, p_api_Value h x, pl_api_Value h r]
end
mutual
theorem o_api_Member : ∀ x : api_Member, (c_api_Member x).all AV.one = true
  | .mk x0 x1 => by rw [e_api_Member]; simp only [api_Member.Name, api_Member.Value, List.all_cons, List.all_append, List.all_nil, one_iA, one_bA, one_sA, one_int, o_api_Value x1, Bool.and_true, Bool.true_and]
theorem o_api_Value : ∀ x : api_Value, (c_api_Value x).all AV.one = true
  | .mk x0 x1 x2 x3 x4 x5 => by rw [e_api_Value]; simp only [api_Value.Kind, api_Value.Flag, api_Value.Number, api_Value.Words, api_Value.List, api_Value.Members, List.all_cons, List.all_append, List.all_nil, one_iA, one_bA, one_sA, one_int, (inferInstance : One (Sl.av 6 c_api_Value x4)).one, (inferInstance : One (Sl.av 7 c_api_Member x5)).one, Bool.and_true, Bool.true_and]
end
instance (x : api_Member) : Cs (c_api_Member x) := ⟨fun h => p_api_Member h x, o_api_Member x⟩
instance : Inhabited api_Member := ⟨(api_Member.mk [] (api_Value.mk 0 false 0 [] Sl.nil Sl.nil))⟩
theorem n_api_Member (x : api_Member) : (c_api_Member x).length = 7 := by simp only [e_api_Member, e_api_Value]; rfl
instance (x : api_Value) : Cs (c_api_Value x) := ⟨fun h => p_api_Value h x, o_api_Value x⟩
instance : Inhabited api_Value := ⟨(api_Value.mk 0 false 0 [] Sl.nil Sl.nil)⟩
theorem n_api_Value (x : api_Value) : (c_api_Value x).length = 6 := by simp only [e_api_Value]; rfl
structure value_counter where
  many : Int
  deriving Inhabited
def c_value_counter (x : value_counter) : List AV := [(iA x.many)]
instance (x : value_counter) : Cs (c_value_counter x) := inferInstanceAs (Cs ([(iA x.many)]))
structure value_writer where
  b : (Ar UInt8)

def gatemake_Below (x : Int) (n : Int) : Option (Int) :=
  if n < 1 then
    some 0
  else
    (ckrem .i64 x n).bind fun x1 =>
    if x1 < 0 then
      some (w64 (x1 + n))
    else
      some x1

def gatemake_Stream_Next (s_ : gatemake_Stream) (n : Int) : Option (Int × gatemake_Stream) :=
  if (s_.L.list.length : Int) = 0 then
    (gatemake_Below (w64 ((w64 (s_.at_ + 1)) * 7919)) n).bind fun r4 =>
    some (r4, { s_ with at_ := w64 (s_.at_ + 1) })
  else
    (ckrem .i64 (w64 ((w64 (s_.at_ + 1)) - 1)) (s_.L.list.length : Int)).bind fun i =>
    (ckquo .i64 (w64 ((w64 (s_.at_ + 1)) - 1)) (s_.L.list.length : Int)).bind fun round =>
    (s_.L.get? i).bind fun x =>
    (gatemake_Below x 1073741824).bind fun r56 =>
    (gatemake_Below (w64 (r56 + (w64 (round * (w64 (7919 + i)))))) n).bind fun r41 =>
    some (r41, { s_ with at_ := w64 (s_.at_ + 1) })

def gatemake_Stream_Pick (s_ : gatemake_Stream) (l : (Sl Int)) : Option (Int × gatemake_Stream) :=
  (gatemake_Stream_Next s_ (l.list.length : Int)).bind fun (r9, s_1) =>
  (l.get? r9).bind fun x =>
  some (x, s_1)

def gatemake_Stream_Flip (s_ : gatemake_Stream) (n : Int) : Option (Bool × gatemake_Stream) :=
  (gatemake_Stream_Next s_ n).bind fun (r7, s_1) =>
  some (r7 == 0, s_1)

def gatemake_Stream_Some (s_ : gatemake_Stream) (l : (Sl Str)) : Option (Str × gatemake_Stream) :=
  (gatemake_Stream_Next s_ (l.list.length : Int)).bind fun (r9, s_1) =>
  (l.get? r9).bind fun x =>
  some (x, s_1)

def gatemake_Stream_RightValue_l0 (rc_gatemake_Stream_RightValue : gatemake_Stream → Int → Option (api_Value × gatemake_Stream)) (deep : Int) (i : Int) : (gatemake_Stream × api_Value) → Option (Step (gatemake_Stream × api_Value) (gatemake_Stream × api_Value))
  | (s_17, v_3) =>
    if deep > 0 then
      (rc_gatemake_Stream_RightValue s_17 (w64 (deep - 1))).bind fun (r563, s_19) =>
      (v_3.List.app? 88 [r563]).bind fun ls3 =>
      some (Step.next (s_19, (api_Value.mk v_3.Kind v_3.Flag v_3.Number v_3.Words ls3 Sl.nil)))
    else
      some (Step.next (s_17, (api_Value.mk v_3.Kind v_3.Flag v_3.Number v_3.Words v_3.List Sl.nil)))
def gatemake_Stream_RightValue_l1 (rc_gatemake_Stream_RightValue : gatemake_Stream → Int → Option (api_Value × gatemake_Stream)) (deep : Int) (i1 : Int) (n : Str) : (gatemake_Stream × api_Value) → Option (Step (gatemake_Stream × api_Value) (gatemake_Stream × api_Value))
  | (s_34, v_7) =>
    ((
      if deep > 0 then
        (gatemake_Stream_Flip s_34 3).bind fun (r737, s_39) =>
        some (s_39, r737)
      else
        some (s_34, false) : Option (gatemake_Stream × Bool))).bind fun (s_37, t743) =>
    if t743 = true then
      (rc_gatemake_Stream_RightValue s_37 (w64 (deep - 1))).bind fun (r813, s_38) =>
      (v_7.Members.app? 104 [(api_Member.mk n r813)]).bind fun ls7 =>
      some (Step.next (s_38, (api_Value.mk v_7.Kind v_7.Flag v_7.Number v_7.Words Sl.nil ls7)))
    else
      some (Step.next (s_37, (api_Value.mk v_7.Kind v_7.Flag v_7.Number v_7.Words Sl.nil v_7.Members)))
def gatemake_Stream_RightValue : Nat → gatemake_Stream → Int → Option (api_Value × gatemake_Stream)
  | 0, _, _ => none
  | k + 1, s_, deep =>
    (gatemake_Stream_Pick s_ (Sl.full [0, 1, 2, 2, 3, 3, 4, 5] : Sl Int)).bind fun (r10, s_1) =>
    ((
      if deep > 0 then
        (gatemake_Stream_Flip s_1 2).bind fun (r161, s_40) =>
        some (s_40, r161)
      else
        some (s_1, false) : Option (gatemake_Stream × Bool))).bind fun (s_3, t17) =>
    ((
      if t17 = true then
        (gatemake_Stream_Pick s_3 (Sl.full [4, 5, 5] : Sl Int)).bind fun (r201, s_6) =>
        some (s_6, (api_Value.mk r201 false 0 [] Sl.nil Sl.nil))
      else
        some (s_3, (api_Value.mk r10 false 0 [] Sl.nil Sl.nil)) : Option (gatemake_Stream × api_Value))).bind fun (s_5, v_) =>
    if v_.Kind = 1 then
      (gatemake_Stream_Flip s_5 2).bind fun (r27, s_7) =>
      some ((api_Value.mk v_.Kind r27 v_.Number v_.Words Sl.nil Sl.nil), s_7)
    else
      if v_.Kind = 2 then
        (gatemake_Stream_Next s_5 100).bind fun (r33, s_8) =>
        (gatemake_Stream_Pick s_8 (Sl.full [0, 1, (-1), 5, 12, 1000000000000000, (-1000000000000000), r33] : Sl Int)).bind fun (r35, s_9) =>
        some ((api_Value.mk v_.Kind v_.Flag r35 v_.Words Sl.nil Sl.nil), s_9)
      else
        if v_.Kind = 3 then
          (gatemake_Stream_Some s_5 (Sl.full [[], [97], [98], [97, 32, 98], [120, 34, 121, 92, 122], [195, 169, 10, 9], [1, 127], [49, 50], [45, 51], [65, 98, 44, 99, 68]] : Sl Str)).bind fun (r41, s_10) =>
          some ((api_Value.mk v_.Kind v_.Flag v_.Number r41 Sl.nil Sl.nil), s_10)
        else
          if v_.Kind = 4 then
            (gatemake_Stream_Next s_5 4).bind fun (r46, s_11) =>
            (rangeN (gatemake_Stream_RightValue_l0 (gatemake_Stream_RightValue k) deep) (fun (s_17, v_3) => (s_17, (api_Value.mk v_3.Kind v_3.Flag v_3.Number v_3.Words v_3.List Sl.nil))) r46 (s_11, (api_Value.mk v_.Kind v_.Flag v_.Number v_.Words Sl.nil Sl.nil)) : Option (gatemake_Stream × api_Value)).bind fun (s_18, v_4) =>
            some ((api_Value.mk v_4.Kind v_4.Flag v_4.Number v_4.Words v_4.List Sl.nil), s_18)
          else
            if v_.Kind = 5 then
              (rangeS (gatemake_Stream_RightValue_l1 (gatemake_Stream_RightValue k) deep) (fun (s_34, v_7) => (s_34, (api_Value.mk v_7.Kind v_7.Flag v_7.Number v_7.Words Sl.nil v_7.Members))) (Sl.full [[], [97], [98], [99, 32, 100], [110], [115]] : Sl Str) (s_5, (api_Value.mk v_.Kind v_.Flag v_.Number v_.Words Sl.nil Sl.nil)) : Option (gatemake_Stream × api_Value)).bind fun (s_35, v_8) =>
              some ((api_Value.mk v_8.Kind v_8.Flag v_8.Number v_8.Words Sl.nil v_8.Members), s_35)
            else
              some ((api_Value.mk v_.Kind v_.Flag v_.Number v_.Words Sl.nil Sl.nil), s_5)

def gatemake_Stream_Range (s_ : gatemake_Stream) (low : Int) (high : Int) : Option (Int × gatemake_Stream) :=
  if high < low then
    some (low, s_)
  else
    (gatemake_Stream_Next s_ (w64 ((w64 (high - low)) + 1))).bind fun (r17, s_1) =>
    some (w64 (low + r17), s_1)

def gatemake_Stream_Odd (s_ : gatemake_Stream) (low : Int) (high : Int) : Option (Int × gatemake_Stream) :=
  (gatemake_Stream_Flip s_ 12).bind fun (r8, s_1) =>
  if r8 = true then
    (gatemake_Stream_Pick s_1 (Sl.full [w64 (low - 1), w64 (high + 1), low, high, (-1099511627776), 1099511627776] : Sl Int)).bind fun (r6, s_2) =>
    some (r6, s_2)
  else
    (gatemake_Stream_Range s_1 low high).bind fun (r61, s_3) =>
    some (r61, s_3)

def slices_Clone_api_Member_api_Member (s_ : (Sl api_Member)) : Option ((Sl api_Member)) :=
  if (s_.isNil) = true then
    some Sl.nil
  else
    ((Sl.ez : Sl api_Member).app? 104 s_.list).bind fun t2 =>
    some t2

def slices_Clone_api_Value_api_Value (s_ : (Sl api_Value)) : Option ((Sl api_Value)) :=
  if (s_.isNil) = true then
    some Sl.nil
  else
    ((Sl.ez : Sl api_Value).app? 88 s_.list).bind fun t2 =>
    some t2

def gatemake_Stream_Value_l0 (i : Int) : (api_Value) → Option (Step (api_Value) (api_Value))
  | v_1 =>
    some (Step.next (api_Value.mk 4 false 0 [] (Sl.full [v_1] : Sl api_Value) Sl.nil))
def gatemake_Stream_Value (k : Nat) (s_ : gatemake_Stream) (deep : Int) : Option (api_Value × gatemake_Stream) :=
  (gatemake_Stream_RightValue k s_ deep).bind fun (r8, s_1) =>
  (gatemake_Stream_Flip s_1 25).bind fun (r10, s_2) =>
  if r10 = true then
    (gatemake_Stream_Next s_2 6).bind fun (r12, s_3) =>
    if r12 = 0 then
      (gatemake_Stream_Odd s_3 0 5).bind fun (r25, s_4) =>
      some ((api_Value.mk r25 r8.Flag r8.Number r8.Words r8.List r8.Members), s_4)
    else
      if r12 = 1 then
        (gatemake_Stream_Odd s_3 0 1000000000000000).bind fun (r30, s_5) =>
        some ((api_Value.mk r8.Kind r8.Flag r30 r8.Words r8.List r8.Members), s_5)
      else
        if r12 = 2 then
          (repeat? [119] 5000).bind fun r35 =>
          (repeat? [119] 5001).bind fun r36 =>
          (gatemake_Stream_Some s_3 (Sl.full [[255], r35, r36, [120]] : Sl Str)).bind fun (r38, s_6) =>
          some ((api_Value.mk r8.Kind r8.Flag r8.Number r38 r8.List r8.Members), s_6)
        else
          if r12 = 3 then
            (slices_Clone_api_Member_api_Member r8.Members).bind fun r44 =>
            (repeat? [110] 101).bind fun r46 =>
            (gatemake_Stream_Some s_3 (Sl.full [[97], [255], r46] : Sl Str)).bind fun (r48, s_7) =>
            (r44.app? 104 [(api_Member.mk r48 (api_Value.mk 0 false 0 [] Sl.nil Sl.nil))]).bind fun ls =>
            some ((api_Value.mk r8.Kind r8.Flag r8.Number r8.Words r8.List ls), s_7)
          else
            if r12 = 4 then
              (slices_Clone_api_Value_api_Value r8.List).bind fun r57 =>
              (r57.app? 88 [(api_Value.mk 9 false 0 [] Sl.nil Sl.nil)]).bind fun ls1 =>
              some ((api_Value.mk r8.Kind r8.Flag r8.Number r8.Words ls1 r8.Members), s_3)
            else
              (gatemake_Stream_Pick s_3 (Sl.full [48, 49, 50] : Sl Int)).bind fun (r15, s_8) =>
              (rangeN (gatemake_Stream_Value_l0) (fun v_1 => v_1) r15 r8 : Option (api_Value)).bind fun v_2 =>
              some (v_2, s_8)
  else
    some (r8, s_2)

def gatemake_Stream_Near_l0 (rc_gatemake_Stream_Near : gatemake_Stream → api_Value → Option (api_Value × gatemake_Stream)) (i : Int) : (gatemake_Stream × (Sl api_Value)) → Option (Step (gatemake_Stream × (Sl api_Value)) (gatemake_Stream × (Sl api_Value)))
  | (s_8, l4) =>
    (gatemake_Stream_Flip s_8 2).bind fun (r282, s_10) =>
    if r282 = true then
      (l4.get? i).bind fun x4 =>
      (rc_gatemake_Stream_Near s_10 x4).bind fun (r362, s_11) =>
      (l4.get? i).bind fun x5 =>
      (l4.set? i r362).bind fun l6 =>
      some (Step.next (s_11, l6))
    else
      some (Step.next (s_10, l4))
def gatemake_Stream_Near_l1 (rc_gatemake_Stream_Near : gatemake_Stream → api_Value → Option (api_Value × gatemake_Stream)) (i1 : Int) (x9 : api_Member) : (gatemake_Stream × (Sl api_Member)) → Option (Step (gatemake_Stream × (Sl api_Member)) (gatemake_Stream × (Sl api_Member)))
  | (s_26, l17) =>
    (gatemake_Stream_Flip s_26 4).bind fun (r743, s_28) =>
    if r743 = true then
      some (Step.next (s_28, l17))
    else
      (gatemake_Stream_Flip s_28 2).bind fun (r763, s_29) =>
      if r763 = true then
        (rc_gatemake_Stream_Near s_29 x9.Value).bind fun (r803, s_30) =>
        (l17.app? 104 [(api_Member.mk x9.Name r803)]).bind fun l19 =>
        some (Step.next (s_30, l19))
      else
        (l17.app? 104 [x9]).bind fun l20 =>
        some (Step.next (s_29, l20))
def gatemake_Stream_Near : Nat → gatemake_Stream → api_Value → Option (api_Value × gatemake_Stream)
  | 0, _, _ => none
  | k + 1, s_, v_ =>
    (gatemake_Stream_Flip s_ 3).bind fun (r10, s_1) =>
    if r10 = true then
      (gatemake_Stream_RightValue k s_1 2).bind fun (r14, s_2) =>
      some (r14, s_2)
    else
      if v_.Kind = 4 then
        (slices_Clone_api_Value_api_Value v_.List).bind fun l =>
        (rangeN (gatemake_Stream_Near_l0 (gatemake_Stream_Near k)) (fun (s_8, l4) => (s_8, l4)) (l.list.length : Int) (s_1, l) : Option (gatemake_Stream × (Sl api_Value))).bind fun (s_9, l5) =>
        (gatemake_Stream_Flip s_9 3).bind fun (r39, s_12) =>
        if r39 = true then
          (gatemake_Stream_RightValue k s_12 1).bind fun (r44, s_13) =>
          (l5.app? 88 [r44]).bind fun l7 =>
          some ((api_Value.mk v_.Kind v_.Flag v_.Number v_.Words l7 v_.Members), s_13)
        else
          (gatemake_Stream_Flip s_12 3).bind fun (r49, s_14) =>
          if (r49 && (decide ((l5.list.length : Int) > 0))) = true then
            (l5.sub? 0 (w64 ((l5.list.length : Int) - 1))).bind fun l8 =>
            some ((api_Value.mk v_.Kind v_.Flag v_.Number v_.Words l8 v_.Members), s_14)
          else
            some ((api_Value.mk v_.Kind v_.Flag v_.Number v_.Words l5 v_.Members), s_14)
      else
        if v_.Kind = 5 then
          (rangeS (gatemake_Stream_Near_l1 (gatemake_Stream_Near k)) (fun (s_26, l17) => (s_26, l17)) v_.Members (s_1, (Sl.nil : Sl api_Member)) : Option (gatemake_Stream × (Sl api_Member))).bind fun (s_27, l18) =>
          ((
            if (l18.list.length : Int) = 0 then
              some (s_27, true)
            else
              (l18.get? (w64 ((l18.list.length : Int) - 1))).bind fun x11 =>
              ((
                if (slt x11.Name [122]) = true then
                  (gatemake_Stream_Flip s_27 3).bind fun (r1013, s_38) =>
                  some (s_38, r1013)
                else
                  some (s_27, false) : Option (gatemake_Stream × Bool))).bind fun (s_37, t1021) =>
              some (s_37, t1021) : Option (gatemake_Stream × Bool))).bind fun (s_34, t103) =>
          if t103 = true then
            (gatemake_Stream_RightValue k s_34 1).bind fun (r106, s_35) =>
            (l18.app? 104 [(api_Member.mk [122] r106)]).bind fun l21 =>
            some ((api_Value.mk v_.Kind v_.Flag v_.Number v_.Words v_.List l21), s_35)
          else
            some ((api_Value.mk v_.Kind v_.Flag v_.Number v_.Words v_.List l18), s_34)
        else
          some (v_, s_1)

def value_counter_large_l0 (rc_value_counter_large : value_counter → api_Value → Int → Option (Bool × value_counter)) (deep : Int) (i : Int) (x2 : api_Value) : (value_counter) → Option (Step (value_counter) (Res (value_counter) (Bool × value_counter)))
  | c4 =>
    (rc_value_counter_large c4 x2 (w64 (deep + 1))).bind fun (r382, c6) =>
    if r382 = true then
      some (Step.done (Res.ret (true, c6)))
    else
      some (Step.next c6)
def value_counter_large_l1 (rc_value_counter_large : value_counter → api_Value → Int → Option (Bool × value_counter)) (deep : Int) (i1 : Int) (x5 : api_Member) : (value_counter) → Option (Step (value_counter) (Res (value_counter) (Bool × value_counter)))
  | c10 =>
    (rc_value_counter_large c10 x5.Value (w64 (deep + 1))).bind fun (r522, c12) =>
    if r522 = true then
      some (Step.done (Res.ret (true, c12)))
    else
      some (Step.next c12)
def value_counter_large : Nat → value_counter → api_Value → Int → Option (Bool × value_counter)
  | 0, _, _, _ => none
  | k + 1, c, v_, deep =>
    if ((decide ((w64 (c.many + 1)) > 5000)) || (decide (deep > 50))) = true then
      some (true, (value_counter.mk (w64 (c.many + 1))))
    else
      (rangeS (value_counter_large_l0 (value_counter_large k) deep) (fun c4 => Res.out c4) v_.List (value_counter.mk (w64 (c.many + 1))) : Option (Res (value_counter) (Bool × value_counter))).bind (Res.elim (fun c5 =>
        (rangeS (value_counter_large_l1 (value_counter_large k) deep) (fun c10 => Res.out c10) v_.Members c5 : Option (Res (value_counter) (Bool × value_counter))).bind (Res.elim (fun c11 =>
          some (false, c11)) some)) some)

def kit_Outside (n : Int) (low : Int) (high : Int) : Option (Bool) :=
  some ((decide (n < low)) || (decide (n > high)))

def value_idle (v_ : api_Value) : Option (Bool) :=
  some ((((((v_.Kind == 1) || (!v_.Flag)) && ((v_.Kind == 2) || (v_.Number == 0))) && ((v_.Kind == 3) || (v_.Words == []))) && ((v_.Kind == 4) || ((v_.List.list.length : Int) == 0))) && ((v_.Kind == 5) || ((v_.Members.list.length : Int) == 0)))

def value_nameFault (s_ : Str) : Option (Int) :=
  if (s_.length : Int) > 100 then
    some 2
  else
    (valid? s_).bind fun r7 =>
    if (!r7) = true then
      some 3
    else
      some 0

def value_fault_l0 (v_ : api_Value) (i : Int) (x3 : api_Member) : (Unit) → Option (Step (Unit) (Res (Unit) (Int)))
  | () =>
    (value_nameFault x3.Name).bind fun e1 =>
    if ¬ e1 = 0 then
      some (Step.done (Res.ret e1))
    else
      ((
        if i > 0 then
          (v_.Members.get? (w64 (i - 1))).bind fun x5 =>
          some (sle x3.Name x5.Name)
        else
          some false : Option (Bool))).bind fun t611 =>
      if t611 = true then
        some (Step.done (Res.ret 7))
      else
        some (Step.next ())
def value_fault_l1 (rc_value_fault : api_Value → Option (Int)) (i1 : Int) (x7 : api_Value) : (Unit) → Option (Step (Unit) (Res (Unit) (Int)))
  | () =>
    (rc_value_fault x7).bind fun e3 =>
    if ¬ e3 = 0 then
      some (Step.done (Res.ret e3))
    else
      some (Step.next ())
def value_fault_l2 (rc_value_fault : api_Value → Option (Int)) (i2 : Int) (x9 : api_Member) : (Unit) → Option (Step (Unit) (Res (Unit) (Int)))
  | () =>
    (rc_value_fault x9.Value).bind fun e5 =>
    if ¬ e5 = 0 then
      some (Step.done (Res.ret e5))
    else
      some (Step.next ())
def value_fault : Nat → api_Value → Option (Int)
  | 0, _ => none
  | k + 1, v_ =>
    (kit_Outside v_.Kind 0 5).bind fun r12 =>
    if r12 = true then
      some 4
    else
      (value_idle v_).bind fun r18 =>
      if (!r18) = true then
        some 3
      else
        (kit_Outside v_.Number (-1000000000000000) 1000000000000000).bind fun r20 =>
        if r20 = true then
          some 1
        else
          if (v_.Words.length : Int) > 5000 then
            some 2
          else
            (valid? v_.Words).bind fun r32 =>
            if (!r32) = true then
              some 3
            else
              (rangeS (value_fault_l0 v_) (fun () => Res.out ()) v_.Members () : Option (Res (Unit) (Int))).bind (Res.elim (fun () =>
                (rangeS (value_fault_l1 (value_fault k)) (fun () => Res.out ()) v_.List () : Option (Res (Unit) (Int))).bind (Res.elim (fun () =>
                  (rangeS (value_fault_l2 (value_fault k)) (fun () => Res.out ()) v_.Members () : Option (Res (Unit) (Int))).bind (Res.elim (fun () =>
                    some 0) some)) some)) some)

def value_Check (k : Nat) (v_ : api_Value) : Option (Int) :=
  (value_counter_large k (value_counter.mk 0) v_ 1).bind fun (r6, c) =>
  if r6 = true then
    some 2
  else
    (value_fault k v_).bind fun r2 =>
    some r2

def value_checks_l0 (k : Nat) (i : Int) (x1 : api_Value) : (Unit) → Option (Step (Unit) (Res (Unit) (Int)))
  | () =>
    (value_Check k x1).bind fun e1 =>
    if ¬ e1 = 0 then
      some (Step.done (Res.ret e1))
    else
      some (Step.next ())
def value_checks (k : Nat) (l : (Sl api_Value)) : Option (Int) :=
  (rangeS (value_checks_l0 k) (fun () => Res.out ()) l () : Option (Res (Unit) (Int))).bind (Res.elim (fun () =>
    some 0) some)

def cmp_isNaN_int (x : Int) : Option (Bool) :=
  some (x != x)

def cmp_Compare_int (x : Int) (y : Int) : Option (Int) :=
  (cmp_isNaN_int x).bind fun xNaN =>
  (cmp_isNaN_int y).bind fun yNaN =>
  if xNaN = true then
    if yNaN = true then
      some 0
    else
      some (-1)
  else
    if yNaN = true then
      some 1
    else
      if x < y then
        some (-1)
      else
        if x > y then
          some 1
        else
          some 0

def value_flagNumber (b : Bool) : Option (Int) :=
  if b = true then
    some 1
  else
    some 0

def cmp_Or_int_l0 (i : Int) (val : Int) : (Unit) → Option (Step (Unit) (Res (Unit) (Int)))
  | () =>
    if ¬ val = 0 then
      some (Step.done (Res.ret val))
    else
      some (Step.next ())
def cmp_Or_int (vals : (Sl Int)) : Option (Int) :=
  (rangeS (cmp_Or_int_l0) (fun () => Res.out ()) vals () : Option (Res (Unit) (Int))).bind (Res.elim (fun () =>
    some 0) some)

def slices_CompareFunc_api_Value_api_Value_api_Value_api_Value__value_compare_l0 (rc_value_compare : api_Value → api_Value → Option (Int)) (s2 : (Sl api_Value)) (i : Int) (x2 : api_Value) : (Unit) → Option (Step (Unit) (Res (Unit) (Int)))
  | () =>
    if i ≥ (s2.list.length : Int) then
      some (Step.done (Res.ret 1))
    else
      (s2.get? i).bind fun x3 =>
      (rc_value_compare x2 x3).bind fun c1 =>
      if ¬ c1 = 0 then
        some (Step.done (Res.ret c1))
      else
        some (Step.next ())
def slices_CompareFunc_api_Member_api_Member_api_Member_api_Member__value_compare_1_l0 (rc_value_compare_1 : api_Member → api_Member → Option (Int)) (s2 : (Sl api_Member)) (i : Int) (x2 : api_Member) : (Unit) → Option (Step (Unit) (Res (Unit) (Int)))
  | () =>
    if i ≥ (s2.list.length : Int) then
      some (Step.done (Res.ret 1))
    else
      (s2.get? i).bind fun x3 =>
      (rc_value_compare_1 x2 x3).bind fun c1 =>
      if ¬ c1 = 0 then
        some (Step.done (Res.ret c1))
      else
        some (Step.next ())
mutual
def value_compare : Nat → api_Value → api_Value → Option (Int)
  | 0, _, _ => none
  | k + 1, a, b =>
    (cmp_Compare_int a.Kind b.Kind).bind fun r11 =>
    (value_flagNumber a.Flag).bind fun r14 =>
    (value_flagNumber b.Flag).bind fun r17 =>
    (cmp_Compare_int a.Number b.Number).bind fun r23 =>
    (cmp_Or_int (Sl.full [r11, w64 (r14 - r17), r23, Go.Lib.compareBytes a.Words b.Words] : Sl Int)).bind fun c =>
    if ¬ c = 0 then
      some c
    else
      (slices_CompareFunc_api_Value_api_Value_api_Value_api_Value__value_compare k a.List b.List).bind fun c1 =>
      if ¬ c1 = 0 then
        some c1
      else
        (slices_CompareFunc_api_Member_api_Member_api_Member_api_Member__value_compare_1 k a.Members b.Members).bind fun r4 =>
        some r4
def slices_CompareFunc_api_Value_api_Value_api_Value_api_Value__value_compare : Nat → (Sl api_Value) → (Sl api_Value) → Option (Int)
  | 0, _, _ => none
  | k + 1, s1, s2 =>
    (rangeS (slices_CompareFunc_api_Value_api_Value_api_Value_api_Value__value_compare_l0 (value_compare k) s2) (fun () => Res.out ()) s1 () : Option (Res (Unit) (Int))).bind (Res.elim (fun () =>
      if (s1.list.length : Int) < (s2.list.length : Int) then
        some (-1)
      else
        some 0) some)
def value_compare_1 : Nat → api_Member → api_Member → Option (Int)
  | 0, _, _ => none
  | k + 1, x, y =>
    (value_compare k x.Value y.Value).bind fun r14 =>
    (cmp_Or_int (Sl.full [Go.Lib.compareBytes x.Name y.Name, r14] : Sl Int)).bind fun r4 =>
    some r4
def slices_CompareFunc_api_Member_api_Member_api_Member_api_Member__value_compare_1 : Nat → (Sl api_Member) → (Sl api_Member) → Option (Int)
  | 0, _, _ => none
  | k + 1, s1, s2 =>
    (rangeS (slices_CompareFunc_api_Member_api_Member_api_Member_api_Member__value_compare_1_l0 (value_compare_1 k) s2) (fun () => Res.out ()) s1 () : Option (Res (Unit) (Int))).bind (Res.elim (fun () =>
      if (s1.list.length : Int) < (s2.list.length : Int) then
        some (-1)
      else
        some 0) some)
end

def value_Compare (k : Nat) (a : api_Value) (b : api_Value) : Option (Int × Int) :=
  (value_checks k (Sl.full [a, b] : Sl api_Value)).bind fun e =>
  if ¬ e = 0 then
    some (0, e)
  else
    (value_compare k a b).bind fun r4 =>
    some (r4, 0)

def strings_Builder_Len__value_writer_0 (b : value_writer) : Option (Int) :=
  some (b.b.list.length : Int)

def value_writer_full (w : value_writer) : Option (Bool) :=
  (strings_Builder_Len__value_writer_0 w).bind fun r6 =>
  some (decide (r6 > 200000))

def strings_Builder_WriteString__value_writer_0 (b : value_writer) (s_ : Str) : Option (Int × Unit × value_writer) :=
  (b.b.app? 1 s_).bind fun buf =>
  some ((s_.length : Int), (), (value_writer.mk buf))

def strings_Builder_WriteByte (b : (Ar UInt8)) (c : Int) : Option (Unit × (Ar UInt8)) :=
  (byte? c).bind fun c1 =>
  (b.app? 1 [c1]).bind fun buf =>
  some ((), buf)

def strings_Builder_WriteString (b : (Ar UInt8)) (s_ : Str) : Option (Int × Unit × (Ar UInt8)) :=
  (b.app? 1 s_).bind fun buf =>
  some ((s_.length : Int), (), buf)

def value_quote_l0 (s_ : Str) (i : Int) : ((Ar UInt8)) → Option (Step ((Ar UInt8)) ((Ar UInt8)))
  | b20 =>
    (sget s_ i).bind fun c2 =>
    if ((c2 == 34) || (c2 == 92)) = true then
      (strings_Builder_WriteByte b20 92).bind fun (r242, b22) =>
      (strings_Builder_WriteByte b22 c2).bind fun (r262, b23) =>
      some (Step.next b23)
    else
      if c2 = 10 then
        (strings_Builder_WriteString b20 [92, 110]).bind fun (q08, q18, b24) =>
        some (Step.next b24)
      else
        if c2 = 13 then
          (strings_Builder_WriteString b20 [92, 114]).bind fun (q09, q19, b25) =>
          some (Step.next b25)
        else
          if c2 = 9 then
            (strings_Builder_WriteString b20 [92, 116]).bind fun (q010, q110, b26) =>
            some (Step.next b26)
          else
            if ((decide (c2 < 32)) || (c2 == 127)) = true then
              (strings_Builder_WriteString b20 [92, 117, 48, 48]).bind fun (q011, q111, b27) =>
              (sget [48, 49, 50, 51, 52, 53, 54, 55, 56, 57, 97, 98, 99, 100, 101, 102] (Int.fdiv c2 (2 ^ 4))).bind fun r492 =>
              (strings_Builder_WriteByte b27 r492).bind fun (r502, b28) =>
              (sget [48, 49, 50, 51, 52, 53, 54, 55, 56, 57, 97, 98, 99, 100, 101, 102] (IntKind.u8.wrap ((BitVec.ofInt (IntKind.u8).bits c2 &&& BitVec.ofInt (IntKind.u8).bits 15).toNat))).bind fun r532 =>
              (strings_Builder_WriteByte b28 r532).bind fun (r542, b29) =>
              some (Step.next b29)
            else
              (strings_Builder_WriteByte b20 c2).bind fun (r162, b30) =>
              some (Step.next b30)
def value_quote (s_ : Str) : Option (Str) :=
  (strings_Builder_WriteByte (Ar.nil : Ar UInt8) 34).bind fun (r6, b) =>
  (rangeN (value_quote_l0 s_) (fun b20 => b20) (s_.length : Int) b : Option ((Ar UInt8))).bind fun b21 =>
  (strings_Builder_WriteByte b21 34).bind fun (r56, b31) =>
  (bstr? b31).bind fun r2 =>
  some r2

def strings_Builder_WriteByte__value_writer_0 (b : value_writer) (c : Int) : Option (Unit × value_writer) :=
  (byte? c).bind fun c1 =>
  (b.b.app? 1 [c1]).bind fun buf =>
  some ((), (value_writer.mk buf))

def value_writer_value_l0 (rc_value_writer_value : value_writer → api_Value → Option (value_writer)) (i : Int) (x2 : api_Value) : (value_writer) → Option (Step (value_writer) (value_writer))
  | w13 =>
    if i > 0 then
      (strings_Builder_WriteByte__value_writer_0 w13 44).bind fun (r1022, w15) =>
      (rc_value_writer_value w15 x2).bind fun w16 =>
      some (Step.next w16)
    else
      (rc_value_writer_value w13 x2).bind fun w17 =>
      some (Step.next w17)
def value_writer_value_l1 (rc_value_writer_value : value_writer → api_Value → Option (value_writer)) (i1 : Int) (x5 : api_Member) : (value_writer) → Option (Step (value_writer) (value_writer))
  | w33 =>
    ((
      if i1 > 0 then
        (strings_Builder_WriteByte__value_writer_0 w33 44).bind fun (r295, w37) =>
        some w37
      else
        some w33 : Option (value_writer))).bind fun w36 =>
    (value_quote x5.Name).bind fun r352 =>
    (strings_Builder_WriteString__value_writer_0 w36 r352).bind fun (q06, q16, w38) =>
    (strings_Builder_WriteByte__value_writer_0 w38 58).bind fun (r402, w39) =>
    (rc_value_writer_value w39 x5.Value).bind fun w40 =>
    some (Step.next w40)
def value_writer_value : Nat → value_writer → api_Value → Option (value_writer)
  | 0, _, _ => none
  | k + 1, w, v_ =>
    (value_writer_full w).bind fun r9 =>
    if r9 = true then
      some w
    else
      if v_.Kind = 0 then
        (strings_Builder_WriteString__value_writer_0 w [110, 117, 108, 108]).bind fun (q0, q1, w1) =>
        some w1
      else
        if v_.Kind = 1 then
          (strings_Builder_WriteString__value_writer_0 w (Go.Lib.formatBool v_.Flag)).bind fun (q01, q11, w2) =>
          some w2
        else
          if v_.Kind = 2 then
            (itoa? v_.Number).bind fun r72 =>
            (strings_Builder_WriteString__value_writer_0 w r72).bind fun (q02, q12, w3) =>
            some w3
          else
            if v_.Kind = 3 then
              (value_quote v_.Words).bind fun r81 =>
              (strings_Builder_WriteString__value_writer_0 w r81).bind fun (q03, q13, w4) =>
              some w4
            else
              if v_.Kind = 4 then
                (strings_Builder_WriteByte__value_writer_0 w 91).bind fun (r88, w5) =>
                (rangeS (value_writer_value_l0 (value_writer_value k)) (fun w13 => w13) v_.List w5 : Option (value_writer)).bind fun w14 =>
                (strings_Builder_WriteByte__value_writer_0 w14 93).bind fun (r110, w18) =>
                some w18
              else
                (strings_Builder_WriteByte__value_writer_0 w 123).bind fun (r15, w19) =>
                (rangeS (value_writer_value_l1 (value_writer_value k)) (fun w33 => w33) v_.Members w19 : Option (value_writer)).bind fun w34 =>
                (strings_Builder_WriteByte__value_writer_0 w34 125).bind fun (r49, w41) =>
                some w41

def value_textOf (k : Nat) (v_ : api_Value) : Option (Str × Bool) :=
  (value_writer_value k (value_writer.mk (Ar.nil : Ar UInt8)) v_).bind fun b =>
  (value_writer_full b).bind fun r11 =>
  if r11 = true then
    some ([], false)
  else
    (bstr? b.b).bind fun r2 =>
    some (r2, true)

def value_Text (k : Nat) (v_ : api_Value) : Option (Str × Int) :=
  (value_Check k v_).bind fun e =>
  if ¬ e = 0 then
    some ([], e)
  else
    (value_textOf k v_).bind fun (s_, ok_) =>
    if (!ok_) = true then
      some ([], 2)
    else
      some (s_, 0)

def gateref1_sizeOf_l0 (i : Int) (x2 : api_Member) : ((Sl api_Value)) → Option (Step ((Sl api_Value)) ((Sl api_Value)))
  | kids4 =>
    (kids4.app? 88 [x2.Value]).bind fun kids6 =>
    some (Step.next kids6)
def gateref1_sizeOf_l1 (rc_gateref1_sizeOf : api_Value → Option (Int × Int)) (kids5 : (Sl api_Value)) (i1 : Int) : (Int × Int) → Option (Step (Int × Int) (Int × Int))
  | (many1, deep1) =>
    (kids5.get? i1).bind fun x4 =>
    (rc_gateref1_sizeOf x4).bind fun (n1, d1) =>
    some (Step.next (w64 (many1 + n1), imax deep1 d1))
def gateref1_sizeOf : Nat → api_Value → Option (Int × Int)
  | 0, _ => none
  | k + 1, v_ =>
    (slices_Clone_api_Value_api_Value v_.List).bind fun kids =>
    (rangeS (gateref1_sizeOf_l0) (fun kids4 => kids4) v_.Members kids : Option ((Sl api_Value))).bind fun kids5 =>
    (rangeN (gateref1_sizeOf_l1 (gateref1_sizeOf k) kids5) (fun (many1, deep1) => (many1, deep1)) (kids5.list.length : Int) (1, 0) : Option (Int × Int)).bind fun (many2, deep2) =>
    some (many2, w64 (deep2 + 1))

def gateref1_in (n : Int) (low : Int) (high : Int) : Option (Bool) :=
  some ((decide (low ≤ n)) && (decide (n ≤ high)))

def gateref1_nameFault (s_ : Str) : Option (Int) :=
  if (s_.length : Int) > 100 then
    some 2
  else
    (valid? s_).bind fun r9 =>
    if (!r9) = true then
      some 3
    else
      some 0

def gateref1_namesFault_l0 (l : (Sl Str)) (i : Int) (s_ : Str) : (Unit) → Option (Step (Unit) (Res (Unit) (Int)))
  | () =>
    (gateref1_nameFault s_).bind fun f1 =>
    if ¬ f1 = 0 then
      some (Step.done (Res.ret f1))
    else
      ((
        if i > 0 then
          (l.get? (w64 (i - 1))).bind fun x4 =>
          some (sle s_ x4)
        else
          some false : Option (Bool))).bind fun t281 =>
      if t281 = true then
        some (Step.done (Res.ret 7))
      else
        some (Step.next ())
def gateref1_namesFault (l : (Sl Str)) : Option (Int) :=
  (rangeS (gateref1_namesFault_l0 l) (fun () => Res.out ()) l () : Option (Res (Unit) (Int))).bind (Res.elim (fun () =>
    some 0) some)

def gateref1_ownFault_l0 (v_ : api_Value) (i : Int) (is : Bool) : (Unit) → Option (Step (Unit) (Res (Unit) (Int)))
  | () =>
    if (is && (v_.Kind != (w64 (i + 1)))) = true then
      some (Step.done (Res.ret 3))
    else
      some (Step.next ())
def gateref1_ownFault_l1 (i1 : Int) (x4 : api_Member) : ((Sl Str)) → Option (Step ((Sl Str)) ((Sl Str)))
  | names5 =>
    (names5.app? 16 [x4.Name]).bind fun names7 =>
    some (Step.next names7)
def gateref1_ownFault (v_ : api_Value) : Option (Int) :=
  (gateref1_in v_.Kind 0 5).bind fun r11 =>
  if (!r11) = true then
    some 4
  else
    (rangeS (gateref1_ownFault_l0 v_) (fun () => Res.out ()) (Sl.full [v_.Flag, v_.Number != 0, v_.Words != [], decide ((v_.List.list.length : Int) > 0), decide ((v_.Members.list.length : Int) > 0)] : Sl Bool) () : Option (Res (Unit) (Int))).bind (Res.elim (fun () =>
      (gateref1_in v_.Number (-1000000000000000) 1000000000000000).bind fun r49 =>
      if (!r49) = true then
        some 1
      else
        if (v_.Words.length : Int) > 5000 then
          some 2
        else
          (valid? v_.Words).bind fun r59 =>
          if (!r59) = true then
            some 3
          else
            (rangeS (gateref1_ownFault_l1) (fun names5 => names5) v_.Members (Sl.nil : Sl Str) : Option ((Sl Str))).bind fun names6 =>
            (gateref1_namesFault names6).bind fun r2 =>
            some r2) some)

def cmp_Or_api_Errno_l0 (i : Int) (val : Int) : (Unit) → Option (Step (Unit) (Res (Unit) (Int)))
  | () =>
    if ¬ val = 0 then
      some (Step.done (Res.ret val))
    else
      some (Step.next ())
def cmp_Or_api_Errno (vals : (Sl Int)) : Option (Int) :=
  (rangeS (cmp_Or_api_Errno_l0) (fun () => Res.out ()) vals () : Option (Res (Unit) (Int))).bind (Res.elim (fun () =>
    some 0) some)

def gateref1_partsFault_l0 (rc_gateref1_partsFault : api_Value → Option (Int)) (i : Int) (x1 : api_Value) : (Int) → Option (Step (Int) (Int))
  | f3 =>
    (rc_gateref1_partsFault x1).bind fun r191 =>
    (cmp_Or_api_Errno (Sl.full [f3, r191] : Sl Int)).bind fun f5 =>
    some (Step.next f5)
def gateref1_partsFault_l1 (rc_gateref1_partsFault : api_Value → Option (Int)) (i1 : Int) (x3 : api_Member) : (Int) → Option (Step (Int) (Int))
  | f8 =>
    (rc_gateref1_partsFault x3.Value).bind fun r331 =>
    (cmp_Or_api_Errno (Sl.full [f8, r331] : Sl Int)).bind fun f10 =>
    some (Step.next f10)
def gateref1_partsFault : Nat → api_Value → Option (Int)
  | 0, _ => none
  | k + 1, v_ =>
    (gateref1_ownFault v_).bind fun f =>
    (rangeS (gateref1_partsFault_l0 (gateref1_partsFault k)) (fun f3 => f3) v_.List f : Option (Int)).bind fun f4 =>
    (rangeS (gateref1_partsFault_l1 (gateref1_partsFault k)) (fun f8 => f8) v_.Members f4 : Option (Int)).bind fun f9 =>
    some f9

def gateref1_ValueFault (k : Nat) (v_ : api_Value) : Option (Int) :=
  (gateref1_sizeOf k v_).bind fun (many, deep) =>
  if ((decide (many > 5000)) || (decide (deep > 50))) = true then
    some 2
  else
    (gateref1_partsFault k v_).bind fun r2 =>
    some r2

def gateref1_Quoted_l0 (i : Int) (c : Int) : ((Ar UInt8)) → Option (Step ((Ar UInt8)) ((Ar UInt8)))
  | b14 =>
    if ((c == 34) || (c == 92)) = true then
      (sadd [92] (utf8 (IntKind.i32.wrap (c)))).bind fun r262 =>
      (strings_Builder_WriteString b14 r262).bind fun (q010, q110, b16) =>
      some (Step.next b16)
    else
      if c = 10 then
        (strings_Builder_WriteString b14 [92, 110]).bind fun (q011, q111, b17) =>
        some (Step.next b17)
      else
        if c = 13 then
          (strings_Builder_WriteString b14 [92, 114]).bind fun (q012, q112, b18) =>
          some (Step.next b18)
        else
          if c = 9 then
            (strings_Builder_WriteString b14 [92, 116]).bind fun (q013, q113, b19) =>
            some (Step.next b19)
          else
            if ((decide (c < 32)) || (c == 127)) = true then
              (sget [48, 49, 50, 51, 52, 53, 54, 55, 56, 57, 97, 98, 99, 100, 101, 102] (IntKind.u8.wrap (Int.tdiv c 16))).bind fun r492 =>
              (sadd [92, 117, 48, 48] (utf8 r492)).bind fun r512 =>
              (sget [48, 49, 50, 51, 52, 53, 54, 55, 56, 57, 97, 98, 99, 100, 101, 102] (Int.tmod c 16)).bind fun r542 =>
              (sadd r512 (utf8 r542)).bind fun r562 =>
              (strings_Builder_WriteString b14 r562).bind fun (q014, q114, b20) =>
              some (Step.next b20)
            else
              (strings_Builder_WriteByte b14 c).bind fun (r152, b21) =>
              some (Step.next b21)
def gateref1_Quoted (s_ : Str) : Option (Str) :=
  (strings_Builder_WriteByte (Ar.nil : Ar UInt8) 34).bind fun (r6, b) =>
  (rangeS (gateref1_Quoted_l0) (fun b14 => b14) (bsl s_) b : Option ((Ar UInt8))).bind fun b15 =>
  (strings_Builder_WriteByte b15 34).bind fun (r59, b22) =>
  (bstr? b22).bind fun r2 =>
  some r2

def gateref1_Written_l0 (rc_gateref1_Written : api_Value → Option (Str)) (i : Int) (x3 : api_Value) : ((Sl Str)) → Option (Step ((Sl Str)) ((Sl Str)))
  | l5 =>
    (rc_gateref1_Written x3).bind fun r363 =>
    (l5.app? 16 [r363]).bind fun l7 =>
    some (Step.next l7)
def gateref1_Written_l1 (rc_gateref1_Written : api_Value → Option (Str)) (i1 : Int) (x7 : api_Member) : ((Sl Str)) → Option (Step ((Sl Str)) ((Sl Str)))
  | l13 =>
    (gateref1_Quoted x7.Name).bind fun r563 =>
    (sadd r563 [58]).bind fun r573 =>
    (rc_gateref1_Written x7.Value).bind fun r603 =>
    (sadd r573 r603).bind fun r613 =>
    (l13.app? 16 [r613]).bind fun l15 =>
    some (Step.next l15)
def gateref1_Written : Nat → api_Value → Option (Str)
  | 0, _ => none
  | k + 1, v_ =>
    if v_.Kind = 1 then
      some (Go.Lib.formatBool v_.Flag)
    else
      if v_.Kind = 2 then
        (itoa? v_.Number).bind fun r2 =>
        some r2
      else
        if v_.Kind = 3 then
          (gateref1_Quoted v_.Words).bind fun r21 =>
          some r21
        else
          if v_.Kind = 4 then
            (rangeS (gateref1_Written_l0 (gateref1_Written k)) (fun l5 => l5) v_.List (Sl.nil : Sl Str) : Option ((Sl Str))).bind fun l6 =>
            (join? l6.list [44]).bind fun r41 =>
            (sadd [91] r41).bind fun r42 =>
            (sadd r42 [93]).bind fun r22 =>
            some r22
          else
            if v_.Kind = 5 then
              (rangeS (gateref1_Written_l1 (gateref1_Written k)) (fun l13 => l13) v_.Members (Sl.nil : Sl Str) : Option ((Sl Str))).bind fun l14 =>
              (join? l14.list [44]).bind fun r66 =>
              (sadd [123] r66).bind fun r67 =>
              (sadd r67 [125]).bind fun r23 =>
              some r23
            else
              some [110, 117, 108, 108]

def gatelaw1_valued (k : Nat)  : Option (Bool) :=
  (value_Text k (api_Value.mk 4 false 0 [] (Sl.full [(api_Value.mk 0 false 0 [] Sl.nil Sl.nil)] : Sl api_Value) Sl.nil)).bind fun (s_, e) =>
  some ((e == 0) && (s_ == [91, 110, 117, 108, 108, 93]))

def slices_CompareFunc_api_Value_api_Value_api_Value_api_Value__gateref1_Order_l0 (rc_gateref1_Order : api_Value → api_Value → Option (Int)) (s2 : (Sl api_Value)) (i : Int) (x2 : api_Value) : (Unit) → Option (Step (Unit) (Res (Unit) (Int)))
  | () =>
    if i ≥ (s2.list.length : Int) then
      some (Step.done (Res.ret 1))
    else
      (s2.get? i).bind fun x3 =>
      (rc_gateref1_Order x2 x3).bind fun c1 =>
      if ¬ c1 = 0 then
        some (Step.done (Res.ret c1))
      else
        some (Step.next ())
def slices_CompareFunc_api_Member_api_Member_api_Member_api_Member__gateref1_Order_1_l0 (rc_gateref1_Order_1 : api_Member → api_Member → Option (Int)) (s2 : (Sl api_Member)) (i : Int) (x2 : api_Member) : (Unit) → Option (Step (Unit) (Res (Unit) (Int)))
  | () =>
    if i ≥ (s2.list.length : Int) then
      some (Step.done (Res.ret 1))
    else
      (s2.get? i).bind fun x3 =>
      (rc_gateref1_Order_1 x2 x3).bind fun c1 =>
      if ¬ c1 = 0 then
        some (Step.done (Res.ret c1))
      else
        some (Step.next ())
mutual
def gateref1_Order : Nat → api_Value → api_Value → Option (Int)
  | 0, _, _ => none
  | k + 1, a, b =>
    if ¬ a.Kind = b.Kind then
      (cmp_Compare_int a.Kind b.Kind).bind fun r4 =>
      some r4
    else
      (cmp_Compare_int (if a.Flag then 1 else 0) (if b.Flag then 1 else 0)).bind fun r26 =>
      (cmp_Compare_int a.Number b.Number).bind fun r31 =>
      (slices_CompareFunc_api_Value_api_Value_api_Value_api_Value__gateref1_Order k a.List b.List).bind fun r41 =>
      (slices_CompareFunc_api_Member_api_Member_api_Member_api_Member__gateref1_Order_1 k a.Members b.Members).bind fun r46 =>
      (cmp_Or_int (Sl.full [r26, r31, Go.Lib.compareBytes a.Words b.Words, r41, r46] : Sl Int)).bind fun r42 =>
      some r42
def slices_CompareFunc_api_Value_api_Value_api_Value_api_Value__gateref1_Order : Nat → (Sl api_Value) → (Sl api_Value) → Option (Int)
  | 0, _, _ => none
  | k + 1, s1, s2 =>
    (rangeS (slices_CompareFunc_api_Value_api_Value_api_Value_api_Value__gateref1_Order_l0 (gateref1_Order k) s2) (fun () => Res.out ()) s1 () : Option (Res (Unit) (Int))).bind (Res.elim (fun () =>
      if (s1.list.length : Int) < (s2.list.length : Int) then
        some (-1)
      else
        some 0) some)
def gateref1_Order_1 : Nat → api_Member → api_Member → Option (Int)
  | 0, _, _ => none
  | k + 1, x, y =>
    (gateref1_Order k x.Value y.Value).bind fun r14 =>
    (cmp_Or_int (Sl.full [Go.Lib.compareBytes x.Name y.Name, r14] : Sl Int)).bind fun r4 =>
    some r4
def slices_CompareFunc_api_Member_api_Member_api_Member_api_Member__gateref1_Order_1 : Nat → (Sl api_Member) → (Sl api_Member) → Option (Int)
  | 0, _, _ => none
  | k + 1, s1, s2 =>
    (rangeS (slices_CompareFunc_api_Member_api_Member_api_Member_api_Member__gateref1_Order_1_l0 (gateref1_Order_1 k) s2) (fun () => Res.out ()) s1 () : Option (Res (Unit) (Int))).bind (Res.elim (fun () =>
      if (s1.list.length : Int) < (s2.list.length : Int) then
        some (-1)
      else
        some 0) some)
end

def gatelaw1_ValuesChecked (k : Nat) (l : (Sl Int)) : Option (Bool) :=
  (gatemake_Stream_Value k (gatemake_Stream.mk l 0) 3).bind fun (r15, t13) =>
  (gatemake_Stream_Value k t13 2).bind fun (r17, t131) =>
  (gatemake_Stream_Flip t131 2).bind fun (r19, t132) =>
  ((
    if r19 = true then
      (gatemake_Stream_Near k t132 r15).bind fun (r221, t134) =>
      some r221
    else
      some r17 : Option (api_Value))).bind fun b =>
  (value_Compare k r15 b).bind fun (n, e) =>
  (value_Text k r15).bind fun (t, f) =>
  (gateref1_ValueFault k r15).bind fun fault =>
  (value_Check k r15).bind fun r37 =>
  ((
    if ((r37 != fault) || (f != fault)) = true then
      some true
    else
      ((
        if fault = 0 then
          (gateref1_Written k r15).bind fun r513 =>
          some (t != r513)
        else
          some false : Option (Bool))).bind fun t531 =>
      some t531 : Option (Bool))).bind fun t54 =>
  if t54 = true then
    some false
  else
    (gateref1_ValueFault k b).bind fun r57 =>
    (cmp_Or_api_Errno (Sl.full [fault, r57] : Sl Int)).bind fun fault1 =>
    if ¬ fault1 = 0 then
      ((
        if ((e == fault1) && (n == 0)) = true then
          (gatelaw1_valued k).bind fun r701 =>
          some r701
        else
          some false : Option (Bool))).bind fun t71 =>
      some t71
    else
      ((
        if e = 0 then
          (gateref1_Order k r15 b).bind fun r781 =>
          some (n == r781)
        else
          some false : Option (Bool))).bind fun t80 =>
      ((
        if t80 = true then
          (gatelaw1_valued k).bind fun r821 =>
          some r821
        else
          some false : Option (Bool))).bind fun t83 =>
      some t83
end Go.GW
