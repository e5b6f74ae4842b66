/- The evaluator answers as the typed functions. Printed by gen.py. -/
import Derived.Test.YtdpfbnefkemkiaaDoorGvThms1
namespace Go.Proofs.YtdpfbnefkemkiaaDoor
open Go.AE Go.GW
set_option maxRecDepth 100000
set_option linter.unusedVariables false
theorem okg_value_compare (k : Nat) : (∀ (a : api_Value) (b : api_Value) {r : (Int)} (hF0 : value_compare k a b = some r) (out : List AE.Frame) (glob : List AObj), RdOk Tryd.prog pol true 24 [(.agg (c_api_Value a)), (.agg (c_api_Value b))] out glob (iA r)) ∧ (∀ (s1 : (Sl api_Value)) (s2 : (Sl api_Value)) {r : (Int)} (hF0 : slices_CompareFunc_api_Value_api_Value_api_Value_api_Value__value_compare k s1 s2 = some r) (out : List AE.Frame) (glob : List AObj), RdOk Tryd.prog pol true 37 [(Sl.av 6 c_api_Value s1), (Sl.av 6 c_api_Value s2), (.fn (.func 24) [] [])] out glob (iA r)) ∧ (∀ (x : api_Member) (y : api_Member) {r : (Int)} (hF0 : value_compare_1 k x y = some r) (out : List AE.Frame) (glob : List AObj), RdOk Tryd.prog pol true 49 [(.agg (c_api_Member x)), (.agg (c_api_Member y))] out glob (iA r)) ∧ (∀ (s1 : (Sl api_Member)) (s2 : (Sl api_Member)) {r : (Int)} (hF0 : slices_CompareFunc_api_Member_api_Member_api_Member_api_Member__value_compare_1 k s1 s2 = some r) (out : List AE.Frame) (glob : List AObj), RdOk Tryd.prog pol true 38 [(Sl.av 7 c_api_Member s1), (Sl.av 7 c_api_Member s2), (.fn (.func 49) [] [])] out glob (iA r)) := by
 induction k with
 | zero => exact ⟨(by intro a b r hF0 out glob; rw [value_compare] at hF0; cases hF0), (by intro s1 s2 r hF0 out glob; rw [slices_CompareFunc_api_Value_api_Value_api_Value_api_Value__value_compare] at hF0; cases hF0), (by intro x y r hF0 out glob; rw [value_compare_1] at hF0; cases hF0), (by intro s1 s2 r hF0 out glob; rw [slices_CompareFunc_api_Member_api_Member_api_Member_api_Member__value_compare_1] at hF0; cases hF0)⟩
 | succ k ih =>
  obtain ⟨ih_value_compare, ih_slices_CompareFunc_api_Value_api_Value_api_Value_api_Value__value_compare, ih_value_compare_1, ih_slices_CompareFunc_api_Member_api_Member_api_Member_api_Member__value_compare_1⟩ := ih
  refine ⟨?_, ?_, ?_, ?_⟩
  · intro a b r hF0 out glob
    rw [value_compare] at hF0
    refine rd_walk Tryd.func24 rfl (Nat.not_lt.2 (Nat.le_of_ble_eq_true rfl)) ?_
    intro ro
    refine sq <| rg <| L (.ptr (.fr 0 2) 1 0) (h' := ⟨upd _ 2 ⟨1, .cells (c_api_Value a)⟩, _, _⟩) rfl rfl (op_box (x' := (.agg (c_api_Value a))) rfl rfl rfl rfl) <| L (.ptr (.fr 0 3) 1 0) (h' := ⟨upd _ 3 ⟨1, .cells (c_api_Value b)⟩, _, _⟩) rfl rfl (op_box (x' := (.agg (c_api_Value b))) rfl rfl rfl rfl) <| L (iA 0) rfl rfl rfl <| nl <| sq <| sq <| dw (by kernel_rfl) <| L (.ptr (.fr 0 2) 1 0) rfl rfl rfl <| L (iA a.Kind) rfl rfl (op_load rfl (ld_con (iA a.Kind) rfl rfl (cs := (c_api_Value a)) (con_fr rfl) (by simp only [e_api_Value]; rfl))) <| L (.ptr (.fr 0 3) 1 0) rfl rfl rfl <| L (iA b.Kind) rfl rfl (op_load rfl (ld_con (iA b.Kind) rfl rfl (cs := (c_api_Value b)) (con_fr rfl) (by simp only [e_api_Value]; rfl))) ?_
    obtain ⟨r11, h1, hF0⟩ := bind_some hF0
    refine WO_rd (g := 34) (args := [(iA a.Kind), (iA b.Kind)]) (r := (iA r11)) _ _ rfl rfl rfl rfl rfl rfl rfl (ok_cmp_Compare_int _ _ h1 _ _ ) <| L (.ptr (.fr 0 2) 1 1) rfl rfl rfl <| L (bA a.Flag) rfl rfl (op_load rfl (ld_con (bA a.Flag) rfl rfl (cs := (c_api_Value a)) (con_fr rfl) (by simp only [e_api_Value]; rfl))) ?_
    obtain ⟨r14, h2, hF0⟩ := bind_some hF0
    refine WO_rd (g := 48) (args := [(bA a.Flag)]) (r := (iA r14)) _ _ rfl rfl rfl rfl rfl rfl rfl (ok_value_flagNumber _ h2 _ _ ) <| L (.ptr (.fr 0 3) 1 1) rfl rfl rfl <| L (bA b.Flag) rfl rfl (op_load rfl (ld_con (bA b.Flag) rfl rfl (cs := (c_api_Value b)) (con_fr rfl) (by simp only [e_api_Value]; rfl))) ?_
    obtain ⟨r17, h3, hF0⟩ := bind_some hF0
    refine WO_rd (g := 48) (args := [(bA b.Flag)]) (r := (iA r17)) _ _ rfl rfl rfl rfl rfl rfl rfl (ok_value_flagNumber _ h3 _ _ ) <| L (iA (w64 (r14 - r17))) rfl rfl rfl <| L (.ptr (.fr 0 2) 1 2) rfl rfl rfl <| L (iA a.Number) rfl rfl (op_load rfl (ld_con (iA a.Number) rfl rfl (cs := (c_api_Value a)) (con_fr rfl) (by simp only [e_api_Value]; rfl))) <| L (.ptr (.fr 0 3) 1 2) rfl rfl rfl <| L (iA b.Number) rfl rfl (op_load rfl (ld_con (iA b.Number) rfl rfl (cs := (c_api_Value b)) (con_fr rfl) (by simp only [e_api_Value]; rfl))) ?_
    obtain ⟨r23, h4, hF0⟩ := bind_some hF0
    refine WO_rd (g := 34) (args := [(iA a.Number), (iA b.Number)]) (r := (iA r23)) _ _ rfl rfl rfl rfl rfl rfl rfl (ok_cmp_Compare_int _ _ h4 _ _ ) <| L (.ptr (.fr 0 2) 1 3) rfl rfl rfl <| L (sA a.Words) rfl rfl (op_load rfl (ld_con (sA a.Words) rfl rfl (cs := (c_api_Value a)) (con_fr rfl) (by simp only [e_api_Value]; rfl))) <| L (.ptr (.fr 0 3) 1 3) rfl rfl rfl <| L (sA b.Words) rfl rfl (op_load rfl (ld_con (sA b.Words) rfl rfl (cs := (c_api_Value b)) (con_fr rfl) (by simp only [e_api_Value]; rfl))) <| L (iA (Go.Lib.compareBytes a.Words b.Words)) rfl rfl (op_lib _ rfl rfl rfl rfl) <| L (Sl.av 1 c_i64 (Sl.full [r11, w64 (r14 - r17), r23, Go.Lib.compareBytes a.Words b.Words] : Sl Int)) rfl rfl (op_sliceN rfl rfl rfl) ?_
    obtain ⟨c, h5, hF0⟩ := bind_some hF0
    refine WO_rd (g := 35) (args := [(Sl.av 1 c_i64 (Sl.full [r11, w64 (r14 - r17), r23, Go.Lib.compareBytes a.Words b.Words] : Sl Int))]) (r := (iA c)) _ _ rfl rfl rfl rfl rfl rfl rfl (ok_cmp_Or_int _ h5 _ _ ) <| L (iA c) rfl rfl rfl <| nl <| sq <| rg <| L (iA c) rfl rfl rfl <| L (bA (c != 0)) rfl rfl rfl <| nl <| cd (c != 0) rfl (fun hc9 => ?_) (fun hc9 => ?_)
    · replace hF0 := ite_t hF0 (bne_t hc9)
      refine sq <| rg <| L (iA c) rfl rfl rfl <| L (iA c) rfl rfl rfl <| nl <| rt ?_
      obtain rfl := Option.some.inj hF0
      exact rd_leaf (.inr rfl) rfl (retV_pl _ _ (iA c)) rfl rfl
    · replace hF0 := ite_f hF0 (bne_f hc9)
      refine sk <| sq <| sq <| rg <| L (.ptr (.fr 0 2) 1 4) rfl rfl rfl <| L (Sl.av 6 c_api_Value a.List) rfl rfl (op_load rfl (ld_con (Sl.av 6 c_api_Value a.List) rfl rfl (cs := (c_api_Value a)) (con_fr rfl) (by simp only [e_api_Value]; rfl))) <| L (.ptr (.fr 0 3) 1 4) rfl rfl rfl <| L (Sl.av 6 c_api_Value b.List) rfl rfl (op_load rfl (ld_con (Sl.av 6 c_api_Value b.List) rfl rfl (cs := (c_api_Value b)) (con_fr rfl) (by simp only [e_api_Value]; rfl))) ?_
      obtain ⟨c1, h6, hF0⟩ := bind_some hF0
      refine WO_rd (g := 37) (args := [(Sl.av 6 c_api_Value a.List), (Sl.av 6 c_api_Value b.List), (.fn (.func 24) [] [])]) (r := (iA c1)) _ _ rfl rfl rfl rfl rfl rfl rfl (ih_slices_CompareFunc_api_Value_api_Value_api_Value_api_Value__value_compare _ _ h6 _ _ ) <| L (iA c1) rfl rfl rfl <| nl <| sq <| rg <| L (iA c1) rfl rfl rfl <| L (bA (c1 != 0)) rfl rfl rfl <| nl <| cd (c1 != 0) rfl (fun hc8 => ?_) (fun hc8 => ?_)
      · replace hF0 := ite_t hF0 (bne_t hc8)
        refine sq <| rg <| L (iA c1) rfl rfl rfl <| L (iA c1) rfl rfl rfl <| nl <| rt ?_
        obtain rfl := Option.some.inj hF0
        exact rd_leaf (.inr rfl) rfl (retV_pl _ _ (iA c1)) rfl rfl
      · replace hF0 := ite_f hF0 (bne_f hc8)
        refine sk <| sq <| rg <| L (.ptr (.fr 0 2) 1 5) rfl rfl rfl <| L (Sl.av 7 c_api_Member a.Members) rfl rfl (op_load rfl (ld_con (Sl.av 7 c_api_Member a.Members) rfl rfl (cs := (c_api_Value a)) (con_fr rfl) (by simp only [e_api_Value]; rfl))) <| L (.ptr (.fr 0 3) 1 5) rfl rfl rfl <| L (Sl.av 7 c_api_Member b.Members) rfl rfl (op_load rfl (ld_con (Sl.av 7 c_api_Member b.Members) rfl rfl (cs := (c_api_Value b)) (con_fr rfl) (by simp only [e_api_Value]; rfl))) ?_
        obtain ⟨r4, h7, hF0⟩ := bind_some hF0
        refine WO_rd (g := 38) (args := [(Sl.av 7 c_api_Member a.Members), (Sl.av 7 c_api_Member b.Members), (.fn (.func 49) [] [])]) (r := (iA r4)) _ _ rfl rfl rfl rfl rfl rfl rfl (ih_slices_CompareFunc_api_Member_api_Member_api_Member_api_Member__value_compare_1 _ _ h7 _ _ ) <| L (iA r4) rfl rfl rfl <| nl <| rt ?_
        obtain rfl := Option.some.inj hF0
        exact rd_leaf (.inr rfl) rfl (retV_pl _ _ (iA r4)) rfl rfl
  · intro s1 s2 r hF0 out glob
    rw [slices_CompareFunc_api_Value_api_Value_api_Value_api_Value__value_compare] at hF0
    refine rd_walk Tryd.func37 rfl (Nat.not_lt.2 (Nat.le_of_ble_eq_true rfl)) ?_
    intro ro
    refine sq <| rg <| L (iA 0) rfl rfl rfl <| nl <| sq <| sq <| rg <| L (Sl.av 6 c_api_Value s1) rfl rfl rfl <| L (iA (s1.list.length : Int)) rfl rfl (op_len rfl rfl rfl rfl rfl (len_sl _)) <| L (iA 0) rfl rfl rfl <| nl <| bk ?_
    obtain ⟨b1, hb6, hF0⟩ := bind_some hF0
    obtain ⟨hn6, hb6⟩ := ite_none hb6
    obtain ⟨J6, hJ6⟩ : ∃ J : St → Prop, ∀ st, J st ↔ (∃ (tm8 : Nat → AV) (cb8 : AE.Frame), st = ⟨tm8, ⟨cb8, out, glob⟩⟩ ∧ AllEq tm8 [(0, (Sl.av 6 c_api_Value s1)), (1, (Sl.av 6 c_api_Value s2))] ∧ AllEq cb8 [] ∧ Res.out () = b1) := ⟨_, fun _ => Iff.rfl⟩
    obtain ⟨R6, hR6⟩ : ∃ R : Nat → (Unit) → St → Prop, ∀ i v st, R i v st ↔ (match v with | () => ∃ (tm7 : Nat → AV) (cb7 : AE.Frame), st = ⟨tm7, ⟨cb7, out, glob⟩⟩ ∧ AllEq tm7 [(0, (Sl.av 6 c_api_Value s1)), (1, (Sl.av 6 c_api_Value s2)), (2, (.fn (.func 24) [] [])), (11, (Sl.av 6 c_api_Value s1)), (12, (iA (s1.list.length : Int))), (13, (iA ((i : Nat) : Int)))] ∧ AllEq cb7 []) := ⟨_, fun _ _ _ => Iff.rfl⟩
    refine W_loopcut J6 (fun st hst => ?_) ?_
    · obtain ⟨tm8, cb8, rfl, hT8, hC8, rfl⟩ := (hJ6 st).1 hst
      obtain ⟨tm8, rfl⟩ := allEq hT8
      obtain ⟨cb8, rfl⟩ := allEq hC8
      replace hF0 := res_out hF0
      refine sq <| sq <| rg <| L (Sl.av 6 c_api_Value s1) rfl rfl rfl <| L (iA (s1.list.length : Int)) rfl rfl (op_len rfl rfl rfl rfl rfl (len_sl _)) <| L (Sl.av 6 c_api_Value s2) rfl rfl rfl <| L (iA (s2.list.length : Int)) rfl rfl (op_len rfl rfl rfl rfl rfl (len_sl _)) <| L (bA (decide ((s1.list.length : Int) < (s2.list.length : Int)))) rfl rfl rfl <| nl <| cd (decide ((s1.list.length : Int) < (s2.list.length : Int))) rfl (fun hc13 => ?_) (fun hc13 => ?_)
      · replace hF0 := ite_t hF0 (dec_t hc13)
        refine sq <| rg <| L (iA (-1)) rfl rfl rfl <| nl <| rt ?_
        obtain rfl := Option.some.inj hF0
        exact rd_leaf (.inr rfl) rfl (retV_pl _ _ (iA (-1))) rfl rfl
      · replace hF0 := ite_f hF0 (dec_f hc13)
        refine sk <| sq <| rg <| L (iA 0) rfl rfl rfl <| nl <| rt ?_
        obtain rfl := Option.some.inj hF0
        exact rd_leaf (.inr rfl) rfl (retV_pl _ _ (iA 0)) rfl rfl
    · refine W_rangeL hb6 R6 ((hR6 _ _ _).2 ⟨_, _, rfl, (And.intro rfl (And.intro rfl (And.intro rfl (And.intro rfl (And.intro rfl (And.intro rfl True.intro)))))), True.intro⟩) ?_ ?_
      · intro i hi6 v st s hr hF1 hD1
        obtain ⟨⟩ := v
        obtain ⟨tm7, cb7, rfl, hT7, hC7⟩ := (hR6 _ _ _).1 hr
        obtain ⟨tm7, rfl⟩ := allEq hT7
        obtain ⟨cb7, rfl⟩ := allEq hC7
        obtain ⟨x2, hx6⟩ : ∃ x, x = s1.list[i] := ⟨_, rfl⟩
        rw [← hx6] at hF1
        dsimp only [slices_CompareFunc_api_Value_api_Value_api_Value_api_Value__value_compare_l0] at hF1
        refine sq (rg ?_)
        refine WO_do (y := (bA (decide (((i : Nat) : Int) < (s1.list.length : Int))))) _ rfl rfl rfl (nl ?_)
        refine sq <| cd true (congrArg some (range_lt hi6)) (fun _ => ?_) (fun h => absurd h (by decide))
        refine sk <| sq <| bk <| sq <| rg <| L (iA ((i : Nat) : Int)) rfl rfl rfl <| L (.cptr (c_api_Value x2)) rfl rfl (op_ix rfl ((ix_at (c := c_api_Value) rfl rfl hi6).trans (congrArg (fun x => some (AV.cptr (c_api_Value x))) hx6.symm))) <| L (.agg (c_api_Value x2)) rfl rfl (op_load rfl (ld_cel rfl rfl (by simp only [e_api_Value]; rfl))) <| L (.ptr (.fr 0 8) ((cb7 8).ver + 1) 0) (h' := ⟨upd _ 8 ⟨(cb7 8).ver + 1, .cells (c_api_Value (api_Value.mk 0 false 0 [] Sl.nil Sl.nil))⟩, _, _⟩) rfl rfl (op_alloc (c_api_Value (api_Value.mk 0 false 0 [] Sl.nil Sl.nil)) rfl rfl rfl (by simp only [e_api_Value]; rfl)) <| L (iA ((i : Nat) : Int)) rfl rfl rfl <| L (.tup []) (h' := ⟨upd _ 8 ⟨(cb7 8).ver + 1, .cells (c_api_Value x2)⟩, _, _⟩) rfl rfl (op_store rfl rfl (st_fr (x := (.agg (c_api_Value x2))) (cs := (c_api_Value (api_Value.mk 0 false 0 [] Sl.nil Sl.nil))) (c_api_Value x2) (by simp only [e_api_Value]; rfl) rfl (by simp only [e_api_Value]; exact Nat.le_of_ble_eq_true rfl) (by simp only [e_api_Value]; rfl))) <| nl <| sq <| sq <| rg <| L (iA ((i : Nat) : Int)) rfl rfl rfl <| L (Sl.av 6 c_api_Value s2) rfl rfl rfl <| L (iA (s2.list.length : Int)) rfl rfl (op_len rfl rfl rfl rfl rfl (len_sl _)) <| L (bA (decide (((i : Nat) : Int) ≥ (s2.list.length : Int)))) rfl rfl rfl <| nl <| cd (decide (((i : Nat) : Int) ≥ (s2.list.length : Int))) rfl (fun hc12 => ?_) (fun hc12 => ?_)
        · replace hF1 := ite_t hF1 (dec_t hc12)
          refine sq <| rg <| L (iA 1) rfl rfl rfl <| nl <| rt ?_
          obtain rfl := hD1 _ (Option.some.inj hF1).symm
          replace hF0 := res_ret hF0
          obtain rfl := Option.some.inj hF0
          exact rd_leaf (.inr rfl) rfl (retV_pl _ _ (iA 1)) rfl rfl
        · replace hF1 := ite_f hF1 (dec_f hc12)
          refine sk <| sq <| rg <| L (Sl.av 6 c_api_Value s2) rfl rfl rfl <| L (iA ((i : Nat) : Int)) rfl rfl rfl ?_
          obtain ⟨x3, h_x3, hF1⟩ := bind_some hF1
          refine L (.cptr (c_api_Value x3)) rfl rfl (op_ix rfl (ix_sl (c := c_api_Value) rfl rfl h_x3)) <| L (.agg (c_api_Value x3)) rfl rfl (op_load rfl (ld_cel rfl rfl (by simp only [e_api_Value]; rfl))) <| L (.ptr (.fr 0 9) ((cb7 9).ver + 1) 0) (h' := ⟨upd _ 9 ⟨(cb7 9).ver + 1, .cells (c_api_Value (api_Value.mk 0 false 0 [] Sl.nil Sl.nil))⟩, _, _⟩) rfl rfl (op_alloc (c_api_Value (api_Value.mk 0 false 0 [] Sl.nil Sl.nil)) rfl rfl rfl (by simp only [e_api_Value]; rfl)) <| L (.tup []) (h' := ⟨upd _ 9 ⟨(cb7 9).ver + 1, .cells (c_api_Value x3)⟩, _, _⟩) rfl rfl (op_store rfl rfl (st_fr (x := (.agg (c_api_Value x3))) (cs := (c_api_Value (api_Value.mk 0 false 0 [] Sl.nil Sl.nil))) (c_api_Value x3) (by simp only [e_api_Value]; rfl) rfl (by simp only [e_api_Value]; exact Nat.le_of_ble_eq_true rfl) (by simp only [e_api_Value]; rfl))) <| nl <| sq <| rg <| L (.fn (.func 24) [] []) rfl rfl rfl <| L (.agg (c_api_Value x2)) rfl rfl (op_load rfl (ld_con (.agg (c_api_Value x2)) rfl rfl (cs := (c_api_Value x2)) (con_fr rfl) (by simp only [e_api_Value]; rfl))) <| L (.agg (c_api_Value x3)) rfl rfl (op_load rfl (ld_con (.agg (c_api_Value x3)) rfl rfl (cs := (c_api_Value x3)) (con_fr rfl) (by simp only [e_api_Value]; rfl))) ?_
          obtain ⟨c1, h10, hF1⟩ := bind_some hF1
          refine WO_rd (g := 24) (args := [(.agg (c_api_Value x2)), (.agg (c_api_Value x3))]) (r := (iA c1)) _ _ rfl rfl rfl rfl rfl rfl rfl (ih_value_compare _ _ h10 _ _ ) <| L (iA c1) rfl rfl rfl <| nl <| sq <| rg <| L (iA c1) rfl rfl rfl <| L (bA (c1 != 0)) rfl rfl rfl <| nl <| cd (c1 != 0) rfl (fun hc11 => ?_) (fun hc11 => ?_)
          · replace hF1 := ite_t hF1 (bne_t hc11)
            refine sq <| rg <| L (iA c1) rfl rfl rfl <| L (iA c1) rfl rfl rfl <| nl <| rt ?_
            obtain rfl := hD1 _ (Option.some.inj hF1).symm
            replace hF0 := res_ret hF0
            obtain rfl := Option.some.inj hF0
            exact rd_leaf (.inr rfl) rfl (retV_pl _ _ (iA c1)) rfl rfl
          · replace hF1 := ite_f hF1 (bne_f hc11)
            exact sk <| rg <| WO_do (y := (iA ((i + 1 : Nat) : Int))) _ rfl rfl (congrArg (fun n => some (AV.int .i64 n, _)) (range_len hi6 hn6)) <| WO_do (y := (iA ((i + 1 : Nat) : Int))) _ rfl rfl rfl <| nl <| Exists.intro _ (And.intro (Option.some.inj hF1).symm ((hR6 _ _ _).2 ⟨_, _, rfl, (And.intro rfl (And.intro rfl (And.intro rfl (And.intro rfl (And.intro rfl (And.intro rfl True.intro)))))), True.intro⟩))
      · intro v st hr hD1
        obtain ⟨⟩ := v
        obtain ⟨tm7, cb7, rfl, hT7, hC7⟩ := (hR6 _ _ _).1 hr
        obtain ⟨tm7, rfl⟩ := allEq hT7
        obtain ⟨cb7, rfl⟩ := allEq hC7
        refine sq (rg ?_)
        refine WO_do (y := .bool false) _ rfl rfl (congrArg (fun b => some (AV.bool b, _)) (range_ge _)) (nl ?_)
        refine sq <| cd false rfl (fun h => absurd h (by decide)) (fun _ => ?_)
        exact xt <| (hJ6 _).2 ⟨_, _, rfl, (And.intro rfl (And.intro rfl True.intro)), True.intro, hD1⟩
  · intro x y r hF0 out glob
    rw [value_compare_1] at hF0
    refine rd_walk Tryd.func49 rfl (Nat.not_lt.2 (Nat.le_of_ble_eq_true rfl)) ?_
    intro ro
    refine sq <| rg <| L (.ptr (.fr 0 2) 1 0) (h' := ⟨upd _ 2 ⟨1, .cells (c_api_Member x)⟩, _, _⟩) rfl rfl (op_box (x' := (.agg (c_api_Member x))) rfl rfl rfl rfl) <| L (.ptr (.fr 0 3) 1 0) (h' := ⟨upd _ 3 ⟨1, .cells (c_api_Member y)⟩, _, _⟩) rfl rfl (op_box (x' := (.agg (c_api_Member y))) rfl rfl rfl rfl) <| L (iA 0) rfl rfl rfl <| nl <| sq <| dw (by kernel_rfl) <| L (.ptr (.fr 0 2) 1 0) rfl rfl rfl <| L (sA x.Name) rfl rfl (op_load rfl (ld_con (sA x.Name) rfl rfl (cs := (c_api_Member x)) (con_fr rfl) (by simp only [e_api_Member, e_api_Value]; rfl))) <| L (.ptr (.fr 0 3) 1 0) rfl rfl rfl <| L (sA y.Name) rfl rfl (op_load rfl (ld_con (sA y.Name) rfl rfl (cs := (c_api_Member y)) (con_fr rfl) (by simp only [e_api_Member, e_api_Value]; rfl))) <| L (iA (Go.Lib.compareBytes x.Name y.Name)) rfl rfl (op_lib _ rfl rfl rfl rfl) <| L (.ptr (.fr 0 2) 1 1) rfl rfl rfl <| L (.agg (c_api_Value x.Value)) rfl rfl (op_load rfl (ld_con (.agg (c_api_Value x.Value)) rfl rfl (cs := (c_api_Member x)) (con_fr rfl) (by simp only [e_api_Member, e_api_Value]; rfl))) <| L (.ptr (.fr 0 3) 1 1) rfl rfl rfl <| L (.agg (c_api_Value y.Value)) rfl rfl (op_load rfl (ld_con (.agg (c_api_Value y.Value)) rfl rfl (cs := (c_api_Member y)) (con_fr rfl) (by simp only [e_api_Member, e_api_Value]; rfl))) ?_
    obtain ⟨r14, h1, hF0⟩ := bind_some hF0
    refine WO_rd (g := 24) (args := [(.agg (c_api_Value x.Value)), (.agg (c_api_Value y.Value))]) (r := (iA r14)) _ _ rfl rfl rfl rfl rfl rfl rfl (ih_value_compare _ _ h1 _ _ ) <| L (Sl.av 1 c_i64 (Sl.full [Go.Lib.compareBytes x.Name y.Name, r14] : Sl Int)) rfl rfl (op_sliceN rfl rfl rfl) ?_
    obtain ⟨r4, h2, hF0⟩ := bind_some hF0
    refine WO_rd (g := 35) (args := [(Sl.av 1 c_i64 (Sl.full [Go.Lib.compareBytes x.Name y.Name, r14] : Sl Int))]) (r := (iA r4)) _ _ rfl rfl rfl rfl rfl rfl rfl (ok_cmp_Or_int _ h2 _ _ ) <| L (iA r4) rfl rfl rfl <| nl <| rt ?_
    obtain rfl := Option.some.inj hF0
    exact rd_leaf (.inr rfl) rfl (retV_pl _ _ (iA r4)) rfl rfl
  · intro s1 s2 r hF0 out glob
    rw [slices_CompareFunc_api_Member_api_Member_api_Member_api_Member__value_compare_1] at hF0
    refine rd_walk Tryd.func38 rfl (Nat.not_lt.2 (Nat.le_of_ble_eq_true rfl)) ?_
    intro ro
    refine sq <| rg <| L (iA 0) rfl rfl rfl <| nl <| sq <| sq <| rg <| L (Sl.av 7 c_api_Member s1) rfl rfl rfl <| L (iA (s1.list.length : Int)) rfl rfl (op_len rfl rfl rfl rfl rfl (len_sl _)) <| L (iA 0) rfl rfl rfl <| nl <| bk ?_
    obtain ⟨b1, hb6, hF0⟩ := bind_some hF0
    obtain ⟨hn6, hb6⟩ := ite_none hb6
    obtain ⟨J6, hJ6⟩ : ∃ J : St → Prop, ∀ st, J st ↔ (∃ (tm8 : Nat → AV) (cb8 : AE.Frame), st = ⟨tm8, ⟨cb8, out, glob⟩⟩ ∧ AllEq tm8 [(0, (Sl.av 7 c_api_Member s1)), (1, (Sl.av 7 c_api_Member s2))] ∧ AllEq cb8 [] ∧ Res.out () = b1) := ⟨_, fun _ => Iff.rfl⟩
    obtain ⟨R6, hR6⟩ : ∃ R : Nat → (Unit) → St → Prop, ∀ i v st, R i v st ↔ (match v with | () => ∃ (tm7 : Nat → AV) (cb7 : AE.Frame), st = ⟨tm7, ⟨cb7, out, glob⟩⟩ ∧ AllEq tm7 [(0, (Sl.av 7 c_api_Member s1)), (1, (Sl.av 7 c_api_Member s2)), (2, (.fn (.func 49) [] [])), (11, (Sl.av 7 c_api_Member s1)), (12, (iA (s1.list.length : Int))), (13, (iA ((i : Nat) : Int)))] ∧ AllEq cb7 []) := ⟨_, fun _ _ _ => Iff.rfl⟩
    refine W_loopcut J6 (fun st hst => ?_) ?_
    · obtain ⟨tm8, cb8, rfl, hT8, hC8, rfl⟩ := (hJ6 st).1 hst
      obtain ⟨tm8, rfl⟩ := allEq hT8
      obtain ⟨cb8, rfl⟩ := allEq hC8
      replace hF0 := res_out hF0
      refine sq <| sq <| rg <| L (Sl.av 7 c_api_Member s1) rfl rfl rfl <| L (iA (s1.list.length : Int)) rfl rfl (op_len rfl rfl rfl rfl rfl (len_sl _)) <| L (Sl.av 7 c_api_Member s2) rfl rfl rfl <| L (iA (s2.list.length : Int)) rfl rfl (op_len rfl rfl rfl rfl rfl (len_sl _)) <| L (bA (decide ((s1.list.length : Int) < (s2.list.length : Int)))) rfl rfl rfl <| nl <| cd (decide ((s1.list.length : Int) < (s2.list.length : Int))) rfl (fun hc13 => ?_) (fun hc13 => ?_)
      · replace hF0 := ite_t hF0 (dec_t hc13)
        refine sq <| rg <| L (iA (-1)) rfl rfl rfl <| nl <| rt ?_
        obtain rfl := Option.some.inj hF0
        exact rd_leaf (.inr rfl) rfl (retV_pl _ _ (iA (-1))) rfl rfl
      · replace hF0 := ite_f hF0 (dec_f hc13)
        refine sk <| sq <| rg <| L (iA 0) rfl rfl rfl <| nl <| rt ?_
        obtain rfl := Option.some.inj hF0
        exact rd_leaf (.inr rfl) rfl (retV_pl _ _ (iA 0)) rfl rfl
    · refine W_rangeL hb6 R6 ((hR6 _ _ _).2 ⟨_, _, rfl, (And.intro rfl (And.intro rfl (And.intro rfl (And.intro rfl (And.intro rfl (And.intro rfl True.intro)))))), True.intro⟩) ?_ ?_
      · intro i hi6 v st s hr hF1 hD1
        obtain ⟨⟩ := v
        obtain ⟨tm7, cb7, rfl, hT7, hC7⟩ := (hR6 _ _ _).1 hr
        obtain ⟨tm7, rfl⟩ := allEq hT7
        obtain ⟨cb7, rfl⟩ := allEq hC7
        obtain ⟨x2, hx6⟩ : ∃ x, x = s1.list[i] := ⟨_, rfl⟩
        rw [← hx6] at hF1
        dsimp only [slices_CompareFunc_api_Member_api_Member_api_Member_api_Member__value_compare_1_l0] at hF1
        refine sq (rg ?_)
        refine WO_do (y := (bA (decide (((i : Nat) : Int) < (s1.list.length : Int))))) _ rfl rfl rfl (nl ?_)
        refine sq <| cd true (congrArg some (range_lt hi6)) (fun _ => ?_) (fun h => absurd h (by decide))
        refine sk <| sq <| bk <| sq <| rg <| L (iA ((i : Nat) : Int)) rfl rfl rfl <| L (.cptr (c_api_Member x2)) rfl rfl (op_ix rfl ((ix_at (c := c_api_Member) rfl rfl hi6).trans (congrArg (fun x => some (AV.cptr (c_api_Member x))) hx6.symm))) <| L (.agg (c_api_Member x2)) rfl rfl (op_load rfl (ld_cel rfl rfl (by simp only [e_api_Member, e_api_Value]; rfl))) <| L (.ptr (.fr 0 8) ((cb7 8).ver + 1) 0) (h' := ⟨upd _ 8 ⟨(cb7 8).ver + 1, .cells (c_api_Member (api_Member.mk [] (api_Value.mk 0 false 0 [] Sl.nil Sl.nil)))⟩, _, _⟩) rfl rfl (op_alloc (c_api_Member (api_Member.mk [] (api_Value.mk 0 false 0 [] Sl.nil Sl.nil))) rfl rfl rfl (by simp only [e_api_Member, e_api_Value]; rfl)) <| L (iA ((i : Nat) : Int)) rfl rfl rfl <| L (.tup []) (h' := ⟨upd _ 8 ⟨(cb7 8).ver + 1, .cells (c_api_Member x2)⟩, _, _⟩) rfl rfl (op_store rfl rfl (st_fr (x := (.agg (c_api_Member x2))) (cs := (c_api_Member (api_Member.mk [] (api_Value.mk 0 false 0 [] Sl.nil Sl.nil)))) (c_api_Member x2) (by simp only [e_api_Member, e_api_Value]; rfl) rfl (by simp only [e_api_Member, e_api_Value]; exact Nat.le_of_ble_eq_true rfl) (by simp only [e_api_Member, e_api_Value]; rfl))) <| nl <| sq <| sq <| rg <| L (iA ((i : Nat) : Int)) rfl rfl rfl <| L (Sl.av 7 c_api_Member s2) rfl rfl rfl <| L (iA (s2.list.length : Int)) rfl rfl (op_len rfl rfl rfl rfl rfl (len_sl _)) <| L (bA (decide (((i : Nat) : Int) ≥ (s2.list.length : Int)))) rfl rfl rfl <| nl <| cd (decide (((i : Nat) : Int) ≥ (s2.list.length : Int))) rfl (fun hc12 => ?_) (fun hc12 => ?_)
        · replace hF1 := ite_t hF1 (dec_t hc12)
          refine sq <| rg <| L (iA 1) rfl rfl rfl <| nl <| rt ?_
          obtain rfl := hD1 _ (Option.some.inj hF1).symm
          replace hF0 := res_ret hF0
          obtain rfl := Option.some.inj hF0
          exact rd_leaf (.inr rfl) rfl (retV_pl _ _ (iA 1)) rfl rfl
        · replace hF1 := ite_f hF1 (dec_f hc12)
          refine sk <| sq <| rg <| L (Sl.av 7 c_api_Member s2) rfl rfl rfl <| L (iA ((i : Nat) : Int)) rfl rfl rfl ?_
          obtain ⟨x3, h_x3, hF1⟩ := bind_some hF1
          refine L (.cptr (c_api_Member x3)) rfl rfl (op_ix rfl (ix_sl (c := c_api_Member) rfl rfl h_x3)) <| L (.agg (c_api_Member x3)) rfl rfl (op_load rfl (ld_cel rfl rfl (by simp only [e_api_Member, e_api_Value]; rfl))) <| L (.ptr (.fr 0 9) ((cb7 9).ver + 1) 0) (h' := ⟨upd _ 9 ⟨(cb7 9).ver + 1, .cells (c_api_Member (api_Member.mk [] (api_Value.mk 0 false 0 [] Sl.nil Sl.nil)))⟩, _, _⟩) rfl rfl (op_alloc (c_api_Member (api_Member.mk [] (api_Value.mk 0 false 0 [] Sl.nil Sl.nil))) rfl rfl rfl (by simp only [e_api_Member, e_api_Value]; rfl)) <| L (.tup []) (h' := ⟨upd _ 9 ⟨(cb7 9).ver + 1, .cells (c_api_Member x3)⟩, _, _⟩) rfl rfl (op_store rfl rfl (st_fr (x := (.agg (c_api_Member x3))) (cs := (c_api_Member (api_Member.mk [] (api_Value.mk 0 false 0 [] Sl.nil Sl.nil)))) (c_api_Member x3) (by simp only [e_api_Member, e_api_Value]; rfl) rfl (by simp only [e_api_Member, e_api_Value]; exact Nat.le_of_ble_eq_true rfl) (by simp only [e_api_Member, e_api_Value]; rfl))) <| nl <| sq <| rg <| L (.fn (.func 49) [] []) rfl rfl rfl <| L (.agg (c_api_Member x2)) rfl rfl (op_load rfl (ld_con (.agg (c_api_Member x2)) rfl rfl (cs := (c_api_Member x2)) (con_fr rfl) (by simp only [e_api_Member, e_api_Value]; rfl))) <| L (.agg (c_api_Member x3)) rfl rfl (op_load rfl (ld_con (.agg (c_api_Member x3)) rfl rfl (cs := (c_api_Member x3)) (con_fr rfl) (by simp only [e_api_Member, e_api_Value]; rfl))) ?_
          obtain ⟨c1, h10, hF1⟩ := bind_some hF1
          refine WO_rd (g := 49) (args := [(.agg (c_api_Member x2)), (.agg (c_api_Member x3))]) (r := (iA c1)) _ _ rfl rfl rfl rfl rfl rfl rfl (ih_value_compare_1 _ _ h10 _ _ ) <| L (iA c1) rfl rfl rfl <| nl <| sq <| rg <| L (iA c1) rfl rfl rfl <| L (bA (c1 != 0)) rfl rfl rfl <| nl <| cd (c1 != 0) rfl (fun hc11 => ?_) (fun hc11 => ?_)
          · replace hF1 := ite_t hF1 (bne_t hc11)
            refine sq <| rg <| L (iA c1) rfl rfl rfl <| L (iA c1) rfl rfl rfl <| nl <| rt ?_
            obtain rfl := hD1 _ (Option.some.inj hF1).symm
            replace hF0 := res_ret hF0
            obtain rfl := Option.some.inj hF0
            exact rd_leaf (.inr rfl) rfl (retV_pl _ _ (iA c1)) rfl rfl
          · replace hF1 := ite_f hF1 (bne_f hc11)
            exact sk <| rg <| WO_do (y := (iA ((i + 1 : Nat) : Int))) _ rfl rfl (congrArg (fun n => some (AV.int .i64 n, _)) (range_len hi6 hn6)) <| WO_do (y := (iA ((i + 1 : Nat) : Int))) _ rfl rfl rfl <| nl <| Exists.intro _ (And.intro (Option.some.inj hF1).symm ((hR6 _ _ _).2 ⟨_, _, rfl, (And.intro rfl (And.intro rfl (And.intro rfl (And.intro rfl (And.intro rfl (And.intro rfl True.intro)))))), True.intro⟩))
      · intro v st hr hD1
        obtain ⟨⟩ := v
        obtain ⟨tm7, cb7, rfl, hT7, hC7⟩ := (hR6 _ _ _).1 hr
        obtain ⟨tm7, rfl⟩ := allEq hT7
        obtain ⟨cb7, rfl⟩ := allEq hC7
        refine sq (rg ?_)
        refine WO_do (y := .bool false) _ rfl rfl (congrArg (fun b => some (AV.bool b, _)) (range_ge _)) (nl ?_)
        refine sq <| cd false rfl (fun h => absurd h (by decide)) (fun _ => ?_)
        exact xt <| (hJ6 _).2 ⟨_, _, rfl, (And.intro rfl (And.intro rfl True.intro)), True.intro, hD1⟩
theorem ok_value_compare (k : Nat) : (∀ (a : api_Value) (b : api_Value) {r : (Int)} (hF0 : value_compare k a b = some r) (out : List AE.Frame) (glob : List AObj), RdOk Tryd.prog pol true 24 [(.agg (c_api_Value a)), (.agg (c_api_Value b))] out glob (iA r)) := (okg_value_compare k).1
theorem ok_slices_CompareFunc_api_Value_api_Value_api_Value_api_Value__value_compare (k : Nat) : (∀ (s1 : (Sl api_Value)) (s2 : (Sl api_Value)) {r : (Int)} (hF0 : slices_CompareFunc_api_Value_api_Value_api_Value_api_Value__value_compare k s1 s2 = some r) (out : List AE.Frame) (glob : List AObj), RdOk Tryd.prog pol true 37 [(Sl.av 6 c_api_Value s1), (Sl.av 6 c_api_Value s2), (.fn (.func 24) [] [])] out glob (iA r)) := (okg_value_compare k).2.1
theorem ok_value_compare_1 (k : Nat) : (∀ (x : api_Member) (y : api_Member) {r : (Int)} (hF0 : value_compare_1 k x y = some r) (out : List AE.Frame) (glob : List AObj), RdOk Tryd.prog pol true 49 [(.agg (c_api_Member x)), (.agg (c_api_Member y))] out glob (iA r)) := (okg_value_compare k).2.2.1
theorem ok_slices_CompareFunc_api_Member_api_Member_api_Member_api_Member__value_compare_1 (k : Nat) : (∀ (s1 : (Sl api_Member)) (s2 : (Sl api_Member)) {r : (Int)} (hF0 : slices_CompareFunc_api_Member_api_Member_api_Member_api_Member__value_compare_1 k s1 s2 = some r) (out : List AE.Frame) (glob : List AObj), RdOk Tryd.prog pol true 38 [(Sl.av 7 c_api_Member s1), (Sl.av 7 c_api_Member s2), (.fn (.func 49) [] [])] out glob (iA r)) := (okg_value_compare k).2.2.2

theorem ok_value_Compare (k : Nat) (a : api_Value) (b : api_Value) {r : (Int × Int)} (hF0 : value_Compare k a b = some r) (out : List AE.Frame) (glob : List AObj) : RdOk Tryd.prog pol false 7 [(.agg (c_api_Value a)), (.agg (c_api_Value b))] out glob (.tup [(iA r.1), (iA r.2)]) := by
 unfold value_Compare at hF0
 refine rd_walkF Tryd.func7 rfl (Nat.not_lt.2 (Nat.le_of_ble_eq_true rfl)) <| sq <| rg <| L (.ptr (.fr 0 2) 1 0) (h' := ⟨upd _ 2 ⟨1, .cells (c_api_Value a)⟩, _, _⟩) rfl rfl (op_box (x' := (.agg (c_api_Value a))) rfl rfl rfl rfl) <| L (.ptr (.fr 0 3) 1 0) (h' := ⟨upd _ 3 ⟨1, .cells (c_api_Value b)⟩, _, _⟩) rfl rfl (op_box (x' := (.agg (c_api_Value b))) rfl rfl rfl rfl) <| L (iA 0) rfl rfl rfl <| L (iA 0) rfl rfl rfl <| nl <| sq <| sq <| rg <| L (.agg (c_api_Value a)) rfl rfl (op_load rfl (ld_con (.agg (c_api_Value a)) rfl rfl (cs := (c_api_Value a)) (con_fr rfl) (by simp only [e_api_Value]; rfl))) <| L (.agg (c_api_Value b)) rfl rfl (op_load rfl (ld_con (.agg (c_api_Value b)) rfl rfl (cs := (c_api_Value b)) (con_fr rfl) (by simp only [e_api_Value]; rfl))) <| L (Sl.av 6 c_api_Value (Sl.full [a, b] : Sl api_Value)) rfl rfl (op_sliceN rfl rfl (slice_of rfl rfl rfl (by decide) (fillS_cons (x := (.agg (c_api_Value a))) (by simp only [e_api_Value]; rfl) (Nat.le_of_ble_eq_true rfl) (fillS_cons (x := (.agg (c_api_Value b))) (by simp only [e_api_Value]; rfl) (Nat.le_of_ble_eq_true rfl) (fillS_nil))))) ?_
 obtain ⟨e, h1, hF0⟩ := bind_some hF0
 refine WO_rd (g := 23) (args := [(Sl.av 6 c_api_Value (Sl.full [a, b] : Sl api_Value))]) (r := (iA e)) _ _ rfl rfl rfl rfl rfl rfl rfl (ok_value_checks _ _ h1 _ _ ) <| L (iA e) rfl rfl rfl <| nl <| sq <| rg <| L (iA e) rfl rfl rfl <| L (bA (e != 0)) rfl rfl rfl <| nl <| cd (e != 0) rfl (fun hc3 => ?_) (fun hc3 => ?_)
 · replace hF0 := ite_t hF0 (bne_t hc3)
   refine sq <| rg <| L (iA e) rfl rfl rfl <| L (iA 0) rfl rfl rfl <| L (iA e) rfl rfl rfl <| nl <| rt ?_
   obtain rfl := Option.some.inj hF0
   exact rd_leaf (.inr rfl) rfl (ret_tup2 (retV_pl _ _ (iA 0)) (retV_pl _ _ (iA e))) rfl rfl
 · replace hF0 := ite_f hF0 (bne_f hc3)
   refine sk <| sq <| rg <| L (.agg (c_api_Value a)) rfl rfl (op_load rfl (ld_con (.agg (c_api_Value a)) rfl rfl (cs := (c_api_Value a)) (con_fr rfl) (by simp only [e_api_Value]; rfl))) <| L (.agg (c_api_Value b)) rfl rfl (op_load rfl (ld_con (.agg (c_api_Value b)) rfl rfl (cs := (c_api_Value b)) (con_fr rfl) (by simp only [e_api_Value]; rfl))) ?_
   obtain ⟨r4, h2, hF0⟩ := bind_some hF0
   refine WO_rd (g := 24) (args := [(.agg (c_api_Value a)), (.agg (c_api_Value b))]) (r := (iA r4)) _ _ rfl rfl rfl rfl rfl rfl rfl (ok_value_compare _ _ _ h2 _ _ ) <| L (iA r4) rfl rfl rfl <| L (iA 0) rfl rfl rfl <| nl <| rt ?_
   obtain rfl := Option.some.inj hF0
   exact rd_leaf (.inr rfl) rfl (ret_tup2 (retV_pl _ _ (iA r4)) (retV_pl _ _ (iA 0))) rfl rfl

theorem ok_strings_Builder_Len__value_writer_0 (b : value_writer) {r : (Int)} (hF0 : strings_Builder_Len__value_writer_0 b = some r) (out : List AE.Frame) (glob : List AObj) (d0 : AE.Loc) (w0 : Nat) (e0 sl0 : AE.Loc) (u0 : Nat) (hh0 : d0.here = false) (hsub0 : Sub d0 e0 sl0) (hbt0 : e0.bt = some 5) (hk_0 : con2 out glob d0 w0 = .cells [(.bmark 90), (rf sl0 u0 b.b.list.length)]) (hka_0 : con2 out glob e0 u0 = (Ar.con 1 c_byte b.b)) : RdOk Tryd.prog pol true 46 [(.ptr d0 w0 0)] out glob (iA r) := by
 unfold strings_Builder_Len__value_writer_0 at hF0
 refine rd_walk Tryd.func46 rfl (Nat.not_lt.2 (Nat.le_of_ble_eq_true rfl)) ?_
 intro ro
 refine sq <| rg <| L (iA 0) rfl rfl rfl <| nl <| sq <| rg <| L (.ptr d0 w0 0) rfl rfl rfl <| L (.ptr d0 w0 0) rfl rfl rfl <| L (.ptr d0 w0 1) rfl rfl rfl <| L (rf e0 u0 b.b.list.length) rfl rfl (op_load rfl (ld_pa (cs := [(.bmark 90), (rf sl0 u0 b.b.list.length)]) hsub0 rfl rfl ((con_con2 _ _ _ _ _ hh0).trans hk_0) rfl)) <| L (iA (b.b.list.length : Int)) rfl rfl (op_len rfl rfl rfl rfl rfl rfl) <| L (iA (b.b.list.length : Int)) rfl rfl rfl <| nl <| rt ?_
 obtain rfl := Option.some.inj hF0
 exact rd_leaf (.inr rfl) rfl (retV_pl _ _ (iA (b.b.list.length : Int))) rfl rfl

theorem ok_value_writer_full (w : value_writer) {r : (Bool)} (hF0 : value_writer_full w = some r) (out : List AE.Frame) (glob : List AObj) (d0 : AE.Loc) (w0 : Nat) (e0 sl0 : AE.Loc) (u0 : Nat) (hh0 : d0.here = false) (hsub0 : Sub d0 e0 sl0) (hbt0 : e0.bt = some 5) (hk_0 : con2 out glob d0 w0 = .cells [(.bmark 90), (rf sl0 u0 w.b.list.length)]) (hka_0 : con2 out glob e0 u0 = (Ar.con 1 c_byte w.b)) : RdOk Tryd.prog pol true 51 [(.ptr d0 w0 0)] out glob (bA r) := by
 unfold value_writer_full at hF0
 refine rd_walk Tryd.func51 rfl (Nat.not_lt.2 (Nat.le_of_ble_eq_true rfl)) ?_
 intro ro
 refine sq <| rg <| L (bA false) rfl rfl rfl <| nl <| sq <| rg <| L (.ptr d0 w0 0) rfl rfl rfl <| L (.ptr d0 w0 0) rfl rfl rfl <| L (.ptr d0 w0 0) rfl rfl rfl ?_
 obtain ⟨r6, h1, hF0⟩ := bind_some hF0
 refine WO_rd (g := 46) (args := [(.ptr d0 w0 0)]) (r := (iA r6)) _ _ rfl rfl rfl rfl rfl rfl rfl (ok_strings_Builder_Len__value_writer_0 _ h1 _ _ d0.inn w0 e0.inn sl0 u0 (inn_here _) hsub0.inn ((bt_inn _).trans hbt0) ((con2_inn _ _ _ _ _).trans ((con_con2 _ _ _ _ _ hh0).trans hk_0)) ((con2_inn _ _ _ _ _).trans ((con_con2 _ _ _ _ _ hsub0.eh).trans hka_0))) <| L (bA (decide (r6 > 200000))) rfl rfl rfl <| L (bA (decide (r6 > 200000))) rfl rfl rfl <| nl <| rt ?_
 obtain rfl := Option.some.inj hF0
 exact rd_leaf (.inr rfl) rfl (retV_pl _ _ (bA (decide (r6 > 200000)))) rfl rfl

theorem ok_strings_Builder_WriteString__value_writer_0 (b : value_writer) (s_ : Str) {r : (Int × Unit × value_writer)} (hF0 : strings_Builder_WriteString__value_writer_0 b s_ = some r) : MutA Tryd.prog pol 45 (fun p => [p, (sA s_)]) 0 (some 5) (fun sl u => [(.bmark 90), (rf sl u b.b.list.length)]) (Ar.con 1 c_byte b.b) (.tup [(iA r.1), .nili]) (fun sl u => [(.bmark 90), (rf sl u r.2.2.b.list.length)]) (Ar.con 1 c_byte r.2.2.b) := by
 unfold strings_Builder_WriteString__value_writer_0 at hF0
 refine mutA_walk Tryd.func45 rfl (fun _ => Nat.not_lt.2 (Nat.le_of_ble_eq_true rfl)) ?_
 intro out glob d0 w0 e0 sl0 u0 hh0 hsub0 hbt0 hk_0 hka_0
 refine sq <| rg <| L (iA 0) rfl rfl rfl <| L .nili rfl rfl rfl <| nl <| sq <| rg <| L (.ptr d0 w0 0) rfl rfl rfl <| L (.tup []) rfl rfl (opF_H _ rfl rfl rfl rfl rfl rfl rfl (x_check_eq (cs := [(.bmark 90), (rf sl0 u0 b.b.list.length)]) ((con_con2 _ _ _ _ _ hh0).trans hk_0) rfl (by kernel_rfl))) <| nl <| sq <| rg <| L (.ptr d0 w0 0) rfl rfl rfl <| L (.ptr d0 w0 0) rfl rfl rfl <| L (.ptr d0 w0 0) rfl rfl rfl <| L (.ptr d0 w0 1) rfl rfl rfl <| L (rf e0 u0 b.b.list.length) rfl rfl (op_load rfl (ld_pa (cs := [(.bmark 90), (rf sl0 u0 b.b.list.length)]) hsub0 rfl rfl ((con_con2 _ _ _ _ _ hh0).trans hk_0) rfl)) <| L (sA s_) rfl rfl rfl ?_
 obtain ⟨buf, h_buf, hF0⟩ := bind_some hF0
 refine WO_arappP (cc := e0) (u := u0) (a := b.b) (a' := buf) (n := 1) (c := c_byte) (xs := s_) (y := (sA s_)) _ rfl rfl rfl rfl rfl rfl rfl rfl rfl rfl (z := [.int .u8 0]) rfl rfl rfl rfl rfl (by decide) (fun _ => rfl) rfl hbt0 rfl hsub0.eh (elems_str _ _) hka_0 rfl h_buf (fun out1 glob1 hka1 hq1 => ?_)
 have hk1 := hq1.con hsub0.ne hh0 hk_0
 have hs1 := (Same2.refl d0 e0 _ _).ofR hq1
 refine L (.ptr d0 w0 0) rfl rfl rfl <| L (.ptr d0 w0 1) rfl rfl rfl <| WO_stPA (cs := [(.bmark 90), (rf sl0 u0 b.b.list.length)]) (cs' := [(.bmark 90), (rf sl0 (u0 + 1) buf.list.length)]) (off := 1) (dd := d0) (v := w0) _ rfl rfl rfl rfl rfl rfl rfl rfl hh0 hsub0 hk1 (Nat.le_of_ble_eq_true rfl) rfl (fun out2 glob2 hk2 hq2 => ?_)
 have hka2 := hq2.con hsub0.ne.symm hsub0.eh hka1
 have hs2 := hs1.ofL hq2
 refine nl <| sq <| rg <| L (sA s_) rfl rfl rfl <| L (iA (s_.length : Int)) rfl rfl rfl <| L (iA (s_.length : Int)) rfl rfl rfl <| L .nili rfl rfl rfl <| nl <| rt ?_
 obtain rfl := Option.some.inj hF0
 exact mutA_leaf (.inr rfl) rfl (ret_tup2 (retV_pl _ _ (iA (s_.length : Int))) (retV_pl _ _ .nili)) hk2 hka2 hs2

theorem ok_strings_Builder_WriteByte (b : (Ar UInt8)) (c : Int) {r : (Unit × (Ar UInt8))} (hF0 : strings_Builder_WriteByte b c = some r) : MutA Tryd.prog pol 59 (fun p => [p, (.int .u8 c)]) 0 (some 5) (fun sl u => [(.bmark 79), (rf sl u b.list.length)]) (Ar.con 1 c_byte b) .nili (fun sl u => [(.bmark 79), (rf sl u r.2.list.length)]) (Ar.con 1 c_byte r.2) := by
 unfold strings_Builder_WriteByte at hF0
 refine mutA_walk Tryd.func59 rfl (fun _ => Nat.not_lt.2 (Nat.le_of_ble_eq_true rfl)) ?_
 intro out glob d0 w0 e0 sl0 u0 hh0 hsub0 hbt0 hk_0 hka_0
 refine sq <| rg <| L .nili rfl rfl rfl <| nl <| sq <| rg <| L (.ptr d0 w0 0) rfl rfl rfl <| L (.tup []) rfl rfl (opF_H _ rfl rfl rfl rfl rfl rfl rfl (x_check_eq (cs := [(.bmark 79), (rf sl0 u0 b.list.length)]) ((con_con2 _ _ _ _ _ hh0).trans hk_0) rfl (by kernel_rfl))) <| nl <| sq <| rg <| L (.ptr d0 w0 0) rfl rfl rfl <| L (.ptr d0 w0 0) rfl rfl rfl <| L (.ptr d0 w0 0) rfl rfl rfl <| L (.ptr d0 w0 1) rfl rfl rfl <| L (rf e0 u0 b.list.length) rfl rfl (op_load rfl (ld_pa (cs := [(.bmark 79), (rf sl0 u0 b.list.length)]) hsub0 rfl rfl ((con_con2 _ _ _ _ _ hh0).trans hk_0) rfl)) <| L (.int .u8 c) rfl rfl rfl <| L (Sl.av 1 c_u8 (Sl.full [c] : Sl Int)) rfl rfl (op_sliceN rfl rfl rfl) ?_
 obtain ⟨c1, h_c1, hF0⟩ := bind_some hF0
 obtain ⟨buf, h_buf, hF0⟩ := bind_some hF0
 refine WO_arappP (cc := e0) (u := u0) (a := b) (a' := buf) (n := 1) (c := c_byte) (xs := [c1]) (y := (Sl.av 1 c_u8 (Sl.full [c] : Sl Int))) _ rfl rfl rfl rfl rfl rfl rfl rfl rfl rfl (z := [.int .u8 0]) rfl rfl rfl rfl rfl (by decide) (fun _ => rfl) rfl hbt0 rfl hsub0.eh (elems_byte h_c1) hka_0 rfl h_buf (fun out1 glob1 hka1 hq1 => ?_)
 have hk1 := hq1.con hsub0.ne hh0 hk_0
 have hs1 := (Same2.refl d0 e0 _ _).ofR hq1
 refine L (.ptr d0 w0 0) rfl rfl rfl <| L (.ptr d0 w0 1) rfl rfl rfl <| WO_stPA (cs := [(.bmark 79), (rf sl0 u0 b.list.length)]) (cs' := [(.bmark 79), (rf sl0 (u0 + 1) buf.list.length)]) (off := 1) (dd := d0) (v := w0) _ rfl rfl rfl rfl rfl rfl rfl rfl hh0 hsub0 hk1 (Nat.le_of_ble_eq_true rfl) rfl (fun out2 glob2 hk2 hq2 => ?_)
 have hka2 := hq2.con hsub0.ne.symm hsub0.eh hka1
 have hs2 := hs1.ofL hq2
 refine nl <| sq <| rg <| L .nili rfl rfl rfl <| nl <| rt ?_
 obtain rfl := Option.some.inj hF0
 exact mutA_leaf (.inr rfl) rfl (retV_pl _ _ .nili) hk2 hka2 hs2

theorem ok_strings_Builder_WriteString (b : (Ar UInt8)) (s_ : Str) {r : (Int × Unit × (Ar UInt8))} (hF0 : strings_Builder_WriteString b s_ = some r) : MutA Tryd.prog pol 45 (fun p => [p, (sA s_)]) 0 (some 5) (fun sl u => [(.bmark 79), (rf sl u b.list.length)]) (Ar.con 1 c_byte b) (.tup [(iA r.1), .nili]) (fun sl u => [(.bmark 79), (rf sl u r.2.2.list.length)]) (Ar.con 1 c_byte r.2.2) := by
 unfold strings_Builder_WriteString at hF0
 refine mutA_walk Tryd.func45 rfl (fun _ => Nat.not_lt.2 (Nat.le_of_ble_eq_true rfl)) ?_
 intro out glob d0 w0 e0 sl0 u0 hh0 hsub0 hbt0 hk_0 hka_0
 refine sq <| rg <| L (iA 0) rfl rfl rfl <| L .nili rfl rfl rfl <| nl <| sq <| rg <| L (.ptr d0 w0 0) rfl rfl rfl <| L (.tup []) rfl rfl (opF_H _ rfl rfl rfl rfl rfl rfl rfl (x_check_eq (cs := [(.bmark 79), (rf sl0 u0 b.list.length)]) ((con_con2 _ _ _ _ _ hh0).trans hk_0) rfl (by kernel_rfl))) <| nl <| sq <| rg <| L (.ptr d0 w0 0) rfl rfl rfl <| L (.ptr d0 w0 0) rfl rfl rfl <| L (.ptr d0 w0 0) rfl rfl rfl <| L (.ptr d0 w0 1) rfl rfl rfl <| L (rf e0 u0 b.list.length) rfl rfl (op_load rfl (ld_pa (cs := [(.bmark 79), (rf sl0 u0 b.list.length)]) hsub0 rfl rfl ((con_con2 _ _ _ _ _ hh0).trans hk_0) rfl)) <| L (sA s_) rfl rfl rfl ?_
 obtain ⟨buf, h_buf, hF0⟩ := bind_some hF0
 refine WO_arappP (cc := e0) (u := u0) (a := b) (a' := buf) (n := 1) (c := c_byte) (xs := s_) (y := (sA s_)) _ rfl rfl rfl rfl rfl rfl rfl rfl rfl rfl (z := [.int .u8 0]) rfl rfl rfl rfl rfl (by decide) (fun _ => rfl) rfl hbt0 rfl hsub0.eh (elems_str _ _) hka_0 rfl h_buf (fun out1 glob1 hka1 hq1 => ?_)
 have hk1 := hq1.con hsub0.ne hh0 hk_0
 have hs1 := (Same2.refl d0 e0 _ _).ofR hq1
 refine L (.ptr d0 w0 0) rfl rfl rfl <| L (.ptr d0 w0 1) rfl rfl rfl <| WO_stPA (cs := [(.bmark 79), (rf sl0 u0 b.list.length)]) (cs' := [(.bmark 79), (rf sl0 (u0 + 1) buf.list.length)]) (off := 1) (dd := d0) (v := w0) _ rfl rfl rfl rfl rfl rfl rfl rfl hh0 hsub0 hk1 (Nat.le_of_ble_eq_true rfl) rfl (fun out2 glob2 hk2 hq2 => ?_)
 have hka2 := hq2.con hsub0.ne.symm hsub0.eh hka1
 have hs2 := hs1.ofL hq2
 refine nl <| sq <| rg <| L (sA s_) rfl rfl rfl <| L (iA (s_.length : Int)) rfl rfl rfl <| L (iA (s_.length : Int)) rfl rfl rfl <| L .nili rfl rfl rfl <| nl <| rt ?_
 obtain rfl := Option.some.inj hF0
 exact mutA_leaf (.inr rfl) rfl (ret_tup2 (retV_pl _ _ (iA (s_.length : Int))) (retV_pl _ _ .nili)) hk2 hka2 hs2

theorem ok_value_quote (s_ : Str) {r : (Str)} (hF0 : value_quote s_ = some r) (out : List AE.Frame) (glob : List AObj) : RdOk Tryd.prog pol false 67 [(sA s_)] out glob (sA r) := by
 unfold value_quote at hF0
 refine rd_walkF Tryd.func67 rfl (Nat.not_lt.2 (Nat.le_of_ble_eq_true rfl)) <| sq <| rg <| L (sA []) rfl rfl rfl <| nl <| sq <| rg <| L (.ptr (.fr 0 3) 1 0) (h' := ⟨upd (upd _ 1030005 ⟨1, (Ar.con 1 c_byte (Ar.nil : Ar UInt8))⟩) 3 ⟨1, .cells [(.bmark 79), (rf (.fr 0 1030005) 1 (Ar.nil : Ar UInt8).list.length)]⟩, _, _⟩) rfl rfl (op_allocA [.nilp, (Sl.av 1 c_u8 Sl.nil)] rfl rfl rfl rfl rfl (List.cons_ne_nil _ _) (fld_mark rfl (fld_arr rfl (by decide) fld_nil))) <| nl <| sq <| rg ?_
 obtain ⟨⟨r6, b⟩, h1, hF0⟩ := bind_some hF0
 refine WO_mutAL (g := 59) (args := fun p => [p, (.int .u8 34)]) (off := 0) (s := 3) (b := 1030005) (v := 1) (u := 1) (cs := fun sl u => [(.bmark 79), (rf sl u (Ar.nil : Ar UInt8).list.length)]) (a := (Ar.con 1 c_byte (Ar.nil : Ar UInt8))) (r := .nili) _ _ rfl rfl rfl rfl rfl rfl rfl (fun _ _ => inferInstance) rfl rfl (by decide) rfl Ar.con_live (ok_strings_Builder_WriteByte _ _ h1) (fun u1 => ?_)
 refine nl <| sq <| sq <| rg <| L (sA s_) rfl rfl rfl <| L (iA (s_.length : Int)) rfl rfl rfl <| L (iA 0) rfl rfl rfl <| nl <| bk ?_
 obtain ⟨b1, hb42, hF0⟩ := bind_some hF0
 obtain ⟨hn42, hb42⟩ := ite_none hb42
 obtain ⟨J42, hJ42⟩ : ∃ J : St → Prop, ∀ st, J st ↔ (∃ (b21 : (Ar UInt8)) (u3 : Nat) (tm44 : Nat → AV) (cb44 : AE.Frame), st = ⟨tm44, ⟨cb44, out, glob⟩⟩ ∧ AllEq tm44 [(3, (.ptr (.fr 0 3) 1 0))] ∧ AllEq cb44 [(3, ⟨1, .cells [(.bmark 79), (rf (.fr 0 1030005) u3 b21.list.length)]⟩), (1030005, ⟨u3, (Ar.con 1 c_byte b21)⟩)] ∧ b21 = b1) := ⟨_, fun _ => Iff.rfl⟩
 obtain ⟨R42, hR42⟩ : ∃ R : Nat → ((Ar UInt8)) → St → Prop, ∀ i v st, R i v st ↔ (match v with | b20 => ∃ (u2 : Nat) (tm43 : Nat → AV) (cb43 : AE.Frame), st = ⟨tm43, ⟨cb43, out, glob⟩⟩ ∧ AllEq tm43 [(0, (sA s_)), (3, (.ptr (.fr 0 3) 1 0)), (8, (iA (s_.length : Int))), (9, (iA ((i : Nat) : Int)))] ∧ AllEq cb43 [(3, ⟨1, .cells [(.bmark 79), (rf (.fr 0 1030005) u2 b20.list.length)]⟩), (1030005, ⟨u2, (Ar.con 1 c_byte b20)⟩)]) := ⟨_, fun _ _ _ => Iff.rfl⟩
 refine W_loopcut J42 (fun st hst => ?_) ?_
 · obtain ⟨b21, u3, tm44, cb44, rfl, hT44, hC44, rfl⟩ := (hJ42 st).1 hst
   obtain ⟨tm44, rfl⟩ := allEq hT44
   obtain ⟨cb44, rfl⟩ := allEq hC44
   refine sq <| rg ?_
   obtain ⟨⟨r56, b31⟩, h64, hF0⟩ := bind_some hF0
   refine WO_mutAL (g := 59) (args := fun p => [p, (.int .u8 34)]) (off := 0) (s := 3) (b := 1030005) (v := 1) (u := u3) (cs := fun sl u => [(.bmark 79), (rf sl u b21.list.length)]) (a := (Ar.con 1 c_byte b21)) (r := .nili) _ _ rfl rfl rfl rfl rfl rfl rfl (fun _ _ => inferInstance) rfl rfl (by decide) rfl Ar.con_live (ok_strings_Builder_WriteByte _ _ h64) (fun u64 => ?_)
   refine nl <| sq <| rg ?_
   obtain ⟨r2, h_r2, hF0⟩ := bind_some hF0
   refine L (sA r2) rfl rfl (opF_H _ rfl rfl rfl rfl rfl rfl rfl (x_string_eq (cs := [(.bmark 79), (rf (.fr 0 1030005) u64 b31.list.length)]) (a := b31) (con_fr rfl) rfl (from_fr0 _ _) (con_fr rfl) rfl rfl h_r2)) <| L (sA r2) rfl rfl rfl <| nl <| rt ?_
   obtain rfl := Option.some.inj hF0
   exact rd_leaf (.inr rfl) rfl (retV_pl _ _ (sA r2)) rfl rfl
 · refine W_rangeL hb42 R42 ((hR42 _ _ _).2 ⟨u1, _, _, rfl, (And.intro rfl (And.intro rfl (And.intro rfl (And.intro rfl True.intro)))), (And.intro rfl (And.intro rfl True.intro))⟩) ?_ ?_
   · intro i hi42 v st s hr hF1 hD1
     obtain ⟨b20, hv_⟩ : ∃ z, z = v := ⟨_, rfl⟩; subst hv_
     obtain ⟨u2, tm43, cb43, rfl, hT43, hC43⟩ := (hR42 _ _ _).1 hr
     obtain ⟨tm43, rfl⟩ := allEq hT43
     obtain ⟨cb43, rfl⟩ := allEq hC43
     dsimp only [value_quote_l0] at hF1
     refine sq (rg ?_)
     refine WO_do (y := (bA (decide (((i : Nat) : Int) < (s_.length : Int))))) _ rfl rfl rfl (nl ?_)
     refine sq <| cd true (congrArg some (rangeN_lt hi42)) (fun _ => ?_) (fun h => absurd h (by decide))
     refine sk <| sq <| bk <| sq <| rg <| L (iA ((i : Nat) : Int)) rfl rfl rfl <| L (iA ((i : Nat) : Int)) rfl rfl rfl <| nl <| sq <| rg <| L (sA s_) rfl rfl rfl <| L (iA ((i : Nat) : Int)) rfl rfl rfl ?_
     obtain ⟨c2, h_c2, hF1⟩ := bind_some hF1
     refine L (.int .u8 c2) rfl rfl (op_index rfl (ix_str rfl h_c2)) <| L (.int .u8 c2) rfl rfl rfl <| nl <| bk <| sq <| rg <| L (.int .u8 c2) rfl rfl rfl <| L (bA (c2 == 34)) rfl rfl rfl ?_
     obtain ⟨J46, hJ46⟩ : ∃ J : St → Prop, ∀ st, J st ↔ (∃ (tm47 : Nat → AV) (cb47 : AE.Frame), st = ⟨tm47, ⟨cb47, out, glob⟩⟩ ∧ AllEq tm47 [(0, (sA s_)), (3, (.ptr (.fr 0 3) 1 0)), (5, (.int .u8 c2)), (8, (iA (s_.length : Int))), (9, (iA ((i : Nat) : Int))), (23, (bA ((c2 == 34) || (c2 == 92))))] ∧ AllEq cb47 [(3, ⟨1, .cells [(.bmark 79), (rf (.fr 0 1030005) u2 b20.list.length)]⟩), (1030005, ⟨u2, (Ar.con 1 c_byte b20)⟩)]) := ⟨_, fun _ => Iff.rfl⟩
     refine WO_cut 4 J46 (fun st hst => ?_) ?_
     · obtain ⟨tm47, cb47, rfl, hT47, hC47⟩ := (hJ46 st).1 hst
       obtain ⟨tm47, rfl⟩ := allEq hT47
       obtain ⟨cb47, rfl⟩ := allEq hC47
       refine L (bA ((c2 == 34) || (c2 == 92))) rfl rfl rfl <| nl <| cd ((c2 == 34) || (c2 == 92)) rfl (fun hc63 => ?_) (fun hc63 => ?_)
       · replace hF1 := ite_t hF1 (hc63)
         refine sq <| rg ?_
         obtain ⟨⟨r242, b22⟩, h48, hF1⟩ := bind_some hF1
         refine WO_mutAL (g := 59) (args := fun p => [p, (.int .u8 92)]) (off := 0) (s := 3) (b := 1030005) (v := 1) (u := u2) (cs := fun sl u => [(.bmark 79), (rf sl u b20.list.length)]) (a := (Ar.con 1 c_byte b20)) (r := .nili) _ _ rfl rfl rfl rfl rfl rfl rfl (fun _ _ => inferInstance) rfl rfl (by decide) rfl Ar.con_live (ok_strings_Builder_WriteByte _ _ h48) (fun u48 => ?_)
         refine nl <| rg <| L (.int .u8 c2) rfl rfl rfl ?_
         obtain ⟨⟨r262, b23⟩, h49, hF1⟩ := bind_some hF1
         refine WO_mutAL (g := 59) (args := fun p => [p, (.int .u8 c2)]) (off := 0) (s := 3) (b := 1030005) (v := 1) (u := u48) (cs := fun sl u => [(.bmark 79), (rf sl u b22.list.length)]) (a := (Ar.con 1 c_byte b22)) (r := .nili) _ _ rfl rfl rfl rfl rfl rfl rfl (fun _ _ => inferInstance) rfl rfl (by decide) rfl Ar.con_live (ok_strings_Builder_WriteByte _ _ h49) (fun u49 => ?_)
         exact nl <| rg <| WO_do (y := (iA ((i + 1 : Nat) : Int))) _ rfl rfl (congrArg (fun n => some (AV.int .i64 n, _)) (rangeN_len hi42 hn42)) <| WO_do (y := (iA ((i + 1 : Nat) : Int))) _ rfl rfl rfl <| nl <| Exists.intro _ (And.intro (Option.some.inj hF1).symm ((hR42 _ _ _).2 ⟨u49, _, _, rfl, (And.intro rfl (And.intro rfl (And.intro rfl (And.intro rfl True.intro)))), (And.intro rfl (And.intro rfl True.intro))⟩))
       · replace hF1 := ite_f hF1 (not_t hc63)
         refine sq <| rg <| L (.int .u8 c2) rfl rfl rfl <| L (bA (c2 == 10)) rfl rfl rfl <| L (bA (c2 == 10)) rfl rfl rfl <| nl <| cd (c2 == 10) rfl (fun hc62 => ?_) (fun hc62 => ?_)
         · replace hF1 := ite_t hF1 (beq_t hc62)
           refine rg ?_
           obtain ⟨⟨q08, q18, b24⟩, h50, hF1⟩ := bind_some hF1
           refine WO_mutAL (g := 45) (args := fun p => [p, (sA [92, 110])]) (off := 0) (s := 3) (b := 1030005) (v := 1) (u := u2) (cs := fun sl u => [(.bmark 79), (rf sl u b20.list.length)]) (a := (Ar.con 1 c_byte b20)) (r := (.tup [(iA q08), .nili])) _ _ rfl rfl rfl rfl rfl rfl rfl (fun _ _ => inferInstance) rfl rfl (by decide) rfl Ar.con_live (ok_strings_Builder_WriteString _ _ h50) (fun u50 => ?_)
           exact nl <| rg <| WO_do (y := (iA ((i + 1 : Nat) : Int))) _ rfl rfl (congrArg (fun n => some (AV.int .i64 n, _)) (rangeN_len hi42 hn42)) <| WO_do (y := (iA ((i + 1 : Nat) : Int))) _ rfl rfl rfl <| nl <| Exists.intro _ (And.intro (Option.some.inj hF1).symm ((hR42 _ _ _).2 ⟨u50, _, _, rfl, (And.intro rfl (And.intro rfl (And.intro rfl (And.intro rfl True.intro)))), (And.intro rfl (And.intro rfl True.intro))⟩))
         · replace hF1 := ite_f hF1 (beq_f hc62)
           refine sq <| rg <| L (.int .u8 c2) rfl rfl rfl <| L (bA (c2 == 13)) rfl rfl rfl <| L (bA (c2 == 13)) rfl rfl rfl <| nl <| cd (c2 == 13) rfl (fun hc61 => ?_) (fun hc61 => ?_)
           · replace hF1 := ite_t hF1 (beq_t hc61)
             refine rg ?_
             obtain ⟨⟨q09, q19, b25⟩, h51, hF1⟩ := bind_some hF1
             refine WO_mutAL (g := 45) (args := fun p => [p, (sA [92, 114])]) (off := 0) (s := 3) (b := 1030005) (v := 1) (u := u2) (cs := fun sl u => [(.bmark 79), (rf sl u b20.list.length)]) (a := (Ar.con 1 c_byte b20)) (r := (.tup [(iA q09), .nili])) _ _ rfl rfl rfl rfl rfl rfl rfl (fun _ _ => inferInstance) rfl rfl (by decide) rfl Ar.con_live (ok_strings_Builder_WriteString _ _ h51) (fun u51 => ?_)
             exact nl <| rg <| WO_do (y := (iA ((i + 1 : Nat) : Int))) _ rfl rfl (congrArg (fun n => some (AV.int .i64 n, _)) (rangeN_len hi42 hn42)) <| WO_do (y := (iA ((i + 1 : Nat) : Int))) _ rfl rfl rfl <| nl <| Exists.intro _ (And.intro (Option.some.inj hF1).symm ((hR42 _ _ _).2 ⟨u51, _, _, rfl, (And.intro rfl (And.intro rfl (And.intro rfl (And.intro rfl True.intro)))), (And.intro rfl (And.intro rfl True.intro))⟩))
           · replace hF1 := ite_f hF1 (beq_f hc61)
             refine sq <| rg <| L (.int .u8 c2) rfl rfl rfl <| L (bA (c2 == 9)) rfl rfl rfl <| L (bA (c2 == 9)) rfl rfl rfl <| nl <| cd (c2 == 9) rfl (fun hc60 => ?_) (fun hc60 => ?_)
             · replace hF1 := ite_t hF1 (beq_t hc60)
               refine rg ?_
               obtain ⟨⟨q010, q110, b26⟩, h52, hF1⟩ := bind_some hF1
               refine WO_mutAL (g := 45) (args := fun p => [p, (sA [92, 116])]) (off := 0) (s := 3) (b := 1030005) (v := 1) (u := u2) (cs := fun sl u => [(.bmark 79), (rf sl u b20.list.length)]) (a := (Ar.con 1 c_byte b20)) (r := (.tup [(iA q010), .nili])) _ _ rfl rfl rfl rfl rfl rfl rfl (fun _ _ => inferInstance) rfl rfl (by decide) rfl Ar.con_live (ok_strings_Builder_WriteString _ _ h52) (fun u52 => ?_)
               exact nl <| rg <| WO_do (y := (iA ((i + 1 : Nat) : Int))) _ rfl rfl (congrArg (fun n => some (AV.int .i64 n, _)) (rangeN_len hi42 hn42)) <| WO_do (y := (iA ((i + 1 : Nat) : Int))) _ rfl rfl rfl <| nl <| Exists.intro _ (And.intro (Option.some.inj hF1).symm ((hR42 _ _ _).2 ⟨u52, _, _, rfl, (And.intro rfl (And.intro rfl (And.intro rfl (And.intro rfl True.intro)))), (And.intro rfl (And.intro rfl True.intro))⟩))
             · replace hF1 := ite_f hF1 (beq_f hc60)
               refine sq <| rg <| L (.int .u8 c2) rfl rfl rfl <| L (bA (decide (c2 < 32))) rfl rfl rfl ?_
               obtain ⟨J53, hJ53⟩ : ∃ J : St → Prop, ∀ st, J st ↔ (∃ (tm54 : Nat → AV) (cb54 : AE.Frame), st = ⟨tm54, ⟨cb54, out, glob⟩⟩ ∧ AllEq tm54 [(0, (sA s_)), (3, (.ptr (.fr 0 3) 1 0)), (5, (.int .u8 c2)), (8, (iA (s_.length : Int))), (9, (iA ((i : Nat) : Int))), (45, (bA ((decide (c2 < 32)) || (c2 == 127))))] ∧ AllEq cb54 [(3, ⟨1, .cells [(.bmark 79), (rf (.fr 0 1030005) u2 b20.list.length)]⟩), (1030005, ⟨u2, (Ar.con 1 c_byte b20)⟩)]) := ⟨_, fun _ => Iff.rfl⟩
               refine WO_cut 4 J53 (fun st hst => ?_) ?_
               · obtain ⟨tm54, cb54, rfl, hT54, hC54⟩ := (hJ53 st).1 hst
                 obtain ⟨tm54, rfl⟩ := allEq hT54
                 obtain ⟨cb54, rfl⟩ := allEq hC54
                 refine L (bA ((decide (c2 < 32)) || (c2 == 127))) rfl rfl rfl <| nl <| cd ((decide (c2 < 32)) || (c2 == 127)) rfl (fun hc59 => ?_) (fun hc59 => ?_)
                 · replace hF1 := ite_t hF1 (hc59)
                   refine sq <| rg ?_
                   obtain ⟨⟨q011, q111, b27⟩, h55, hF1⟩ := bind_some hF1
                   refine WO_mutAL (g := 45) (args := fun p => [p, (sA [92, 117, 48, 48])]) (off := 0) (s := 3) (b := 1030005) (v := 1) (u := u2) (cs := fun sl u => [(.bmark 79), (rf sl u b20.list.length)]) (a := (Ar.con 1 c_byte b20)) (r := (.tup [(iA q011), .nili])) _ _ rfl rfl rfl rfl rfl rfl rfl (fun _ _ => inferInstance) rfl rfl (by decide) rfl Ar.con_live (ok_strings_Builder_WriteString _ _ h55) (fun u55 => ?_)
                   refine nl <| sq <| rg <| L (.int .u8 c2) rfl rfl rfl <| L (.int .u8 (Int.fdiv c2 (2 ^ 4))) rfl rfl rfl ?_
                   obtain ⟨r492, h_r492, hF1⟩ := bind_some hF1
                   refine L (.int .u8 r492) rfl rfl (op_index rfl (ix_str rfl h_r492)) ?_
                   obtain ⟨⟨r502, b28⟩, h56, hF1⟩ := bind_some hF1
                   refine WO_mutAL (g := 59) (args := fun p => [p, (.int .u8 r492)]) (off := 0) (s := 3) (b := 1030005) (v := 1) (u := u55) (cs := fun sl u => [(.bmark 79), (rf sl u b27.list.length)]) (a := (Ar.con 1 c_byte b27)) (r := .nili) _ _ rfl rfl rfl rfl rfl rfl rfl (fun _ _ => inferInstance) rfl rfl (by decide) rfl Ar.con_live (ok_strings_Builder_WriteByte _ _ h56) (fun u56 => ?_)
                   refine nl <| rg <| L (.int .u8 c2) rfl rfl rfl <| L (.int .u8 (IntKind.u8.wrap ((BitVec.ofInt (IntKind.u8).bits c2 &&& BitVec.ofInt (IntKind.u8).bits 15).toNat))) rfl rfl rfl ?_
                   obtain ⟨r532, h_r532, hF1⟩ := bind_some hF1
                   refine L (.int .u8 r532) rfl rfl (op_index rfl (ix_str rfl h_r532)) ?_
                   obtain ⟨⟨r542, b29⟩, h57, hF1⟩ := bind_some hF1
                   refine WO_mutAL (g := 59) (args := fun p => [p, (.int .u8 r532)]) (off := 0) (s := 3) (b := 1030005) (v := 1) (u := u56) (cs := fun sl u => [(.bmark 79), (rf sl u b28.list.length)]) (a := (Ar.con 1 c_byte b28)) (r := .nili) _ _ rfl rfl rfl rfl rfl rfl rfl (fun _ _ => inferInstance) rfl rfl (by decide) rfl Ar.con_live (ok_strings_Builder_WriteByte _ _ h57) (fun u57 => ?_)
                   exact nl <| rg <| WO_do (y := (iA ((i + 1 : Nat) : Int))) _ rfl rfl (congrArg (fun n => some (AV.int .i64 n, _)) (rangeN_len hi42 hn42)) <| WO_do (y := (iA ((i + 1 : Nat) : Int))) _ rfl rfl rfl <| nl <| Exists.intro _ (And.intro (Option.some.inj hF1).symm ((hR42 _ _ _).2 ⟨u57, _, _, rfl, (And.intro rfl (And.intro rfl (And.intro rfl (And.intro rfl True.intro)))), (And.intro rfl (And.intro rfl True.intro))⟩))
                 · replace hF1 := ite_f hF1 (not_t hc59)
                   refine rg <| L (.int .u8 c2) rfl rfl rfl ?_
                   obtain ⟨⟨r162, b30⟩, h58, hF1⟩ := bind_some hF1
                   refine WO_mutAL (g := 59) (args := fun p => [p, (.int .u8 c2)]) (off := 0) (s := 3) (b := 1030005) (v := 1) (u := u2) (cs := fun sl u => [(.bmark 79), (rf sl u b20.list.length)]) (a := (Ar.con 1 c_byte b20)) (r := .nili) _ _ rfl rfl rfl rfl rfl rfl rfl (fun _ _ => inferInstance) rfl rfl (by decide) rfl Ar.con_live (ok_strings_Builder_WriteByte _ _ h58) (fun u58 => ?_)
                   exact nl <| rg <| WO_do (y := (iA ((i + 1 : Nat) : Int))) _ rfl rfl (congrArg (fun n => some (AV.int .i64 n, _)) (rangeN_len hi42 hn42)) <| WO_do (y := (iA ((i + 1 : Nat) : Int))) _ rfl rfl rfl <| nl <| Exists.intro _ (And.intro (Option.some.inj hF1).symm ((hR42 _ _ _).2 ⟨u58, _, _, rfl, (And.intro rfl (And.intro rfl (And.intro rfl (And.intro rfl True.intro)))), (And.intro rfl (And.intro rfl True.intro))⟩))
               · rcases bool_cases (decide (c2 < 32)) with hc53 | hc53
                 · exact L (.bool true) rfl rfl (congrArg (fun b => some (AV.bool b, _)) hc53) <| WO_no _ rfl rfl <| WO_no _ rfl rfl <| L (bA ((decide (c2 < 32)) || (c2 == 127))) rfl rfl (congrArg (fun b => some (AV.bool b, _)) (by rw [hc53]; rfl)) <| nl ((hJ53 _).2 ⟨_, _, rfl, (And.intro rfl (And.intro rfl (And.intro rfl (And.intro rfl (And.intro rfl (And.intro rfl True.intro)))))), (And.intro rfl (And.intro rfl True.intro))⟩)
                 · exact L (.bool false) rfl rfl (congrArg (fun b => some (AV.bool b, _)) hc53) <| L (.int .u8 c2) rfl rfl rfl <| L (bA (c2 == 127)) rfl rfl rfl <| L (bA ((decide (c2 < 32)) || (c2 == 127))) rfl rfl (congrArg (fun b => some (AV.bool b, _)) (by rw [hc53]; rfl)) <| nl ((hJ53 _).2 ⟨_, _, rfl, (And.intro rfl (And.intro rfl (And.intro rfl (And.intro rfl (And.intro rfl (And.intro rfl True.intro)))))), (And.intro rfl (And.intro rfl True.intro))⟩)
     · rcases bool_cases (c2 == 34) with hc46 | hc46
       · exact L (.bool true) rfl rfl (congrArg (fun b => some (AV.bool b, _)) hc46) <| WO_no _ rfl rfl <| WO_no _ rfl rfl <| L (bA ((c2 == 34) || (c2 == 92))) rfl rfl (congrArg (fun b => some (AV.bool b, _)) (by rw [hc46]; rfl)) <| nl ((hJ46 _).2 ⟨_, _, rfl, (And.intro rfl (And.intro rfl (And.intro rfl (And.intro rfl (And.intro rfl (And.intro rfl True.intro)))))), (And.intro rfl (And.intro rfl True.intro))⟩)
       · exact L (.bool false) rfl rfl (congrArg (fun b => some (AV.bool b, _)) hc46) <| L (.int .u8 c2) rfl rfl rfl <| L (bA (c2 == 92)) rfl rfl rfl <| L (bA ((c2 == 34) || (c2 == 92))) rfl rfl (congrArg (fun b => some (AV.bool b, _)) (by rw [hc46]; rfl)) <| nl ((hJ46 _).2 ⟨_, _, rfl, (And.intro rfl (And.intro rfl (And.intro rfl (And.intro rfl (And.intro rfl (And.intro rfl True.intro)))))), (And.intro rfl (And.intro rfl True.intro))⟩)
   · intro v st hr hD1
     obtain ⟨b20, hv_⟩ : ∃ z, z = v := ⟨_, rfl⟩; subst hv_
     obtain ⟨u2, tm43, cb43, rfl, hT43, hC43⟩ := (hR42 _ _ _).1 hr
     obtain ⟨tm43, rfl⟩ := allEq hT43
     obtain ⟨cb43, rfl⟩ := allEq hC43
     refine sq (rg ?_)
     refine WO_do (y := .bool false) _ rfl rfl (congrArg (fun b => some (AV.bool b, _)) (rangeN_ge _)) (nl ?_)
     refine sq <| cd false rfl (fun h => absurd h (by decide)) (fun _ => ?_)
     exact xt <| (hJ42 _).2 ⟨b20, u2, _, _, rfl, (And.intro rfl True.intro), (And.intro rfl (And.intro rfl True.intro)), hD1⟩

theorem ok_strings_Builder_WriteByte__value_writer_0 (b : value_writer) (c : Int) {r : (Unit × value_writer)} (hF0 : strings_Builder_WriteByte__value_writer_0 b c = some r) : MutA Tryd.prog pol 59 (fun p => [p, (.int .u8 c)]) 0 (some 5) (fun sl u => [(.bmark 90), (rf sl u b.b.list.length)]) (Ar.con 1 c_byte b.b) .nili (fun sl u => [(.bmark 90), (rf sl u r.2.b.list.length)]) (Ar.con 1 c_byte r.2.b) := by
 unfold strings_Builder_WriteByte__value_writer_0 at hF0
 refine mutA_walk Tryd.func59 rfl (fun _ => Nat.not_lt.2 (Nat.le_of_ble_eq_true rfl)) ?_
 intro out glob d0 w0 e0 sl0 u0 hh0 hsub0 hbt0 hk_0 hka_0
 refine sq <| rg <| L .nili rfl rfl rfl <| nl <| sq <| rg <| L (.ptr d0 w0 0) rfl rfl rfl <| L (.tup []) rfl rfl (opF_H _ rfl rfl rfl rfl rfl rfl rfl (x_check_eq (cs := [(.bmark 90), (rf sl0 u0 b.b.list.length)]) ((con_con2 _ _ _ _ _ hh0).trans hk_0) rfl (by kernel_rfl))) <| nl <| sq <| rg <| L (.ptr d0 w0 0) rfl rfl rfl <| L (.ptr d0 w0 0) rfl rfl rfl <| L (.ptr d0 w0 0) rfl rfl rfl <| L (.ptr d0 w0 1) rfl rfl rfl <| L (rf e0 u0 b.b.list.length) rfl rfl (op_load rfl (ld_pa (cs := [(.bmark 90), (rf sl0 u0 b.b.list.length)]) hsub0 rfl rfl ((con_con2 _ _ _ _ _ hh0).trans hk_0) rfl)) <| L (.int .u8 c) rfl rfl rfl <| L (Sl.av 1 c_u8 (Sl.full [c] : Sl Int)) rfl rfl (op_sliceN rfl rfl rfl) ?_
 obtain ⟨c1, h_c1, hF0⟩ := bind_some hF0
 obtain ⟨buf, h_buf, hF0⟩ := bind_some hF0
 refine WO_arappP (cc := e0) (u := u0) (a := b.b) (a' := buf) (n := 1) (c := c_byte) (xs := [c1]) (y := (Sl.av 1 c_u8 (Sl.full [c] : Sl Int))) _ rfl rfl rfl rfl rfl rfl rfl rfl rfl rfl (z := [.int .u8 0]) rfl rfl rfl rfl rfl (by decide) (fun _ => rfl) rfl hbt0 rfl hsub0.eh (elems_byte h_c1) hka_0 rfl h_buf (fun out1 glob1 hka1 hq1 => ?_)
 have hk1 := hq1.con hsub0.ne hh0 hk_0
 have hs1 := (Same2.refl d0 e0 _ _).ofR hq1
 refine L (.ptr d0 w0 0) rfl rfl rfl <| L (.ptr d0 w0 1) rfl rfl rfl <| WO_stPA (cs := [(.bmark 90), (rf sl0 u0 b.b.list.length)]) (cs' := [(.bmark 90), (rf sl0 (u0 + 1) buf.list.length)]) (off := 1) (dd := d0) (v := w0) _ rfl rfl rfl rfl rfl rfl rfl rfl hh0 hsub0 hk1 (Nat.le_of_ble_eq_true rfl) rfl (fun out2 glob2 hk2 hq2 => ?_)
 have hka2 := hq2.con hsub0.ne.symm hsub0.eh hka1
 have hs2 := hs1.ofL hq2
 refine nl <| sq <| rg <| L .nili rfl rfl rfl <| nl <| rt ?_
 obtain rfl := Option.some.inj hF0
 exact mutA_leaf (.inr rfl) rfl (retV_pl _ _ .nili) hk2 hka2 hs2

theorem okg_value_writer_value (k : Nat) : (∀ (w : value_writer) (v_ : api_Value) {r : (value_writer)} (hF0 : value_writer_value k w v_ = some r), MutA Tryd.prog pol 50 (fun p => [p, (.agg (c_api_Value v_))]) 0 (some 5) (fun sl u => [(.bmark 90), (rf sl u w.b.list.length)]) (Ar.con 1 c_byte w.b) (.tup []) (fun sl u => [(.bmark 90), (rf sl u r.b.list.length)]) (Ar.con 1 c_byte r.b)) := by
 induction k with
 | zero => exact (by intro w v_ r hF0; rw [value_writer_value] at hF0; cases hF0)
 | succ k ih =>
  have ih_value_writer_value := ih
  intro w v_ r hF0
  rw [value_writer_value] at hF0
  refine mutA_walk Tryd.func50 rfl (fun _ => Nat.not_lt.2 (Nat.le_of_ble_eq_true rfl)) ?_
  intro out glob d0 w0 e0 sl0 u0 hh0 hsub0 hbt0 hk_0 hka_0
  refine sq <| rg <| L (.ptr (.fr 0 3) 1 0) (h' := ⟨upd _ 3 ⟨1, .cells (c_api_Value v_)⟩, _, _⟩) rfl rfl (op_box (x' := (.agg (c_api_Value v_))) rfl rfl rfl rfl) <| nl <| sq <| sq <| rg <| L (.ptr d0 w0 0) rfl rfl rfl ?_
  obtain ⟨r9, h1, hF0⟩ := bind_some hF0
  refine WO_rd (g := 51) (args := [(.ptr d0 w0 0)]) (r := (bA r9)) _ _ rfl rfl rfl rfl rfl rfl rfl (ok_value_writer_full _ h1 _ _ d0.inn w0 e0.inn sl0 u0 (inn_here _) hsub0.inn ((bt_inn _).trans hbt0) ((con2_inn _ _ _ _ _).trans ((con_con2 _ _ _ _ _ hh0).trans hk_0)) ((con2_inn _ _ _ _ _).trans ((con_con2 _ _ _ _ _ hsub0.eh).trans hka_0))) <| nl <| cd r9 rfl (fun hc74 => ?_) (fun hc74 => ?_)
  · replace hF0 := ite_t hF0 (hc74)
    refine rt ?_
    obtain rfl := Option.some.inj hF0
    exact mutA_leaf (.inr rfl) rfl (rfl) hk_0 hka_0 (Same2.refl d0 e0 _ _)
  · replace hF0 := ite_f hF0 (not_t hc74)
    refine sk <| sq <| rg <| L (.ptr (.fr 0 3) 1 0) rfl rfl rfl <| L (iA v_.Kind) rfl rfl (op_load rfl (ld_con (iA v_.Kind) rfl rfl (cs := (c_api_Value v_)) (con_fr rfl) (by simp only [e_api_Value]; rfl))) <| nl <| bk <| sq <| rg <| L (bA (v_.Kind == 0)) rfl rfl rfl <| L (bA (v_.Kind == 0)) rfl rfl rfl <| nl <| cd (v_.Kind == 0) rfl (fun hc73 => ?_) (fun hc73 => ?_)
    · replace hF0 := ite_t hF0 (beq_t hc73)
      refine rg <| L (.ptr d0 w0 0) rfl rfl rfl <| L (.ptr d0 w0 0) rfl rfl rfl <| L (.ptr d0 w0 0) rfl rfl rfl ?_
      obtain ⟨⟨q0, q1, w1⟩, h2, hF0⟩ := bind_some hF0
      refine WO_mutAP (g := 45) (args := fun p => [p, (sA [110, 117, 108, 108])]) (off := 0) (d := d0) (v := w0) (u := u0) (cs := fun sl u => [(.bmark 90), (rf sl u w.b.list.length)]) (a := (Ar.con 1 c_byte w.b)) (r := (.tup [(iA q0), .nili])) _ _ rfl rfl rfl rfl rfl rfl rfl (fun _ _ => inferInstance) hh0 hsub0 hbt0 hk_0 hka_0 (ok_strings_Builder_WriteString__value_writer_0 _ _ h2) (fun out2 glob2 u2 hk2 hka2 hq2 => ?_)
      have hs2 := (Same2.refl d0 e0 _ _).trans hq2
      refine nl ?_
      obtain rfl := Option.some.inj hF0
      exact mutA_leaf (.inl rfl) rfl (rfl) hk2 hka2 hs2
    · replace hF0 := ite_f hF0 (beq_f hc73)
      refine sq <| rg <| L (bA (v_.Kind == 1)) rfl rfl rfl <| L (bA (v_.Kind == 1)) rfl rfl rfl <| nl <| cd (v_.Kind == 1) rfl (fun hc72 => ?_) (fun hc72 => ?_)
      · replace hF0 := ite_t hF0 (beq_t hc72)
        refine dw (by kernel_rfl) <| L (.ptr d0 w0 0) rfl rfl rfl <| L (.ptr d0 w0 0) rfl rfl rfl <| L (.ptr d0 w0 0) rfl rfl rfl <| L (.ptr (.fr 0 3) 1 1) rfl rfl rfl <| L (bA v_.Flag) rfl rfl (op_load rfl (ld_con (bA v_.Flag) rfl rfl (cs := (c_api_Value v_)) (con_fr rfl) (by simp only [e_api_Value]; rfl))) <| L (sA (Go.Lib.formatBool v_.Flag)) rfl rfl (op_lib _ rfl rfl rfl rfl) ?_
        obtain ⟨⟨q01, q11, w2⟩, h3, hF0⟩ := bind_some hF0
        refine WO_mutAP (g := 45) (args := fun p => [p, (sA (Go.Lib.formatBool v_.Flag))]) (off := 0) (d := d0) (v := w0) (u := u0) (cs := fun sl u => [(.bmark 90), (rf sl u w.b.list.length)]) (a := (Ar.con 1 c_byte w.b)) (r := (.tup [(iA q01), .nili])) _ _ rfl rfl rfl rfl rfl rfl (by kernel_rfl) (fun _ _ => inferInstance) hh0 hsub0 hbt0 hk_0 hka_0 (ok_strings_Builder_WriteString__value_writer_0 _ _ h3) (fun out3 glob3 u3 hk3 hka3 hq3 => ?_)
        have hs3 := (Same2.refl d0 e0 _ _).trans hq3
        refine nl ?_
        obtain rfl := Option.some.inj hF0
        exact mutA_leaf (.inl rfl) rfl (rfl) hk3 hka3 hs3
      · replace hF0 := ite_f hF0 (beq_f hc72)
        refine sq <| rg <| L (bA (v_.Kind == 2)) rfl rfl rfl <| L (bA (v_.Kind == 2)) rfl rfl rfl <| nl <| cd (v_.Kind == 2) rfl (fun hc71 => ?_) (fun hc71 => ?_)
        · replace hF0 := ite_t hF0 (beq_t hc71)
          refine dw (by kernel_rfl) <| L (.ptr d0 w0 0) rfl rfl rfl <| L (.ptr d0 w0 0) rfl rfl rfl <| L (.ptr d0 w0 0) rfl rfl rfl <| L (.ptr (.fr 0 3) 1 2) rfl rfl rfl <| L (iA v_.Number) rfl rfl (op_load rfl (ld_con (iA v_.Number) rfl rfl (cs := (c_api_Value v_)) (con_fr rfl) (by simp only [e_api_Value]; rfl))) ?_
          obtain ⟨r72, h_r72, hF0⟩ := bind_some hF0
          refine L (sA r72) rfl rfl (op_lib _ rfl rfl rfl (x_itoa_eq h_r72)) ?_
          obtain ⟨⟨q02, q12, w3⟩, h4, hF0⟩ := bind_some hF0
          refine WO_mutAP (g := 45) (args := fun p => [p, (sA r72)]) (off := 0) (d := d0) (v := w0) (u := u0) (cs := fun sl u => [(.bmark 90), (rf sl u w.b.list.length)]) (a := (Ar.con 1 c_byte w.b)) (r := (.tup [(iA q02), .nili])) _ _ rfl rfl rfl rfl rfl rfl (by kernel_rfl) (fun _ _ => inferInstance) hh0 hsub0 hbt0 hk_0 hka_0 (ok_strings_Builder_WriteString__value_writer_0 _ _ h4) (fun out4 glob4 u4 hk4 hka4 hq4 => ?_)
          have hs4 := (Same2.refl d0 e0 _ _).trans hq4
          refine nl ?_
          obtain rfl := Option.some.inj hF0
          exact mutA_leaf (.inl rfl) rfl (rfl) hk4 hka4 hs4
        · replace hF0 := ite_f hF0 (beq_f hc71)
          refine sq <| rg <| L (bA (v_.Kind == 3)) rfl rfl rfl <| L (bA (v_.Kind == 3)) rfl rfl rfl <| nl <| cd (v_.Kind == 3) rfl (fun hc70 => ?_) (fun hc70 => ?_)
          · replace hF0 := ite_t hF0 (beq_t hc70)
            refine dw (by kernel_rfl) <| L (.ptr d0 w0 0) rfl rfl rfl <| L (.ptr d0 w0 0) rfl rfl rfl <| L (.ptr d0 w0 0) rfl rfl rfl <| L (.ptr (.fr 0 3) 1 3) rfl rfl rfl <| L (sA v_.Words) rfl rfl (op_load rfl (ld_con (sA v_.Words) rfl rfl (cs := (c_api_Value v_)) (con_fr rfl) (by simp only [e_api_Value]; rfl))) ?_
            obtain ⟨r81, h5, hF0⟩ := bind_some hF0
            refine WO_rd (g := 67) (args := [(sA v_.Words)]) (r := (sA r81)) _ _ rfl rfl rfl rfl rfl rfl (by kernel_rfl) (ok_value_quote _ h5 _ _ ) ?_
            obtain ⟨⟨q03, q13, w4⟩, h6, hF0⟩ := bind_some hF0
            refine WO_mutAP (g := 45) (args := fun p => [p, (sA r81)]) (off := 0) (d := d0) (v := w0) (u := u0) (cs := fun sl u => [(.bmark 90), (rf sl u w.b.list.length)]) (a := (Ar.con 1 c_byte w.b)) (r := (.tup [(iA q03), .nili])) _ _ rfl rfl rfl rfl rfl rfl (by kernel_rfl) (fun _ _ => inferInstance) hh0 hsub0 hbt0 hk_0 hka_0 (ok_strings_Builder_WriteString__value_writer_0 _ _ h6) (fun out6 glob6 u6 hk6 hka6 hq6 => ?_)
            have hs6 := (Same2.refl d0 e0 _ _).trans hq6
            refine nl ?_
            obtain rfl := Option.some.inj hF0
            exact mutA_leaf (.inl rfl) rfl (rfl) hk6 hka6 hs6
          · replace hF0 := ite_f hF0 (beq_f hc70)
            refine sq <| rg <| L (bA (v_.Kind == 4)) rfl rfl rfl <| L (bA (v_.Kind == 4)) rfl rfl rfl <| nl <| cd (v_.Kind == 4) rfl (fun hc69 => ?_) (fun hc69 => ?_)
            · replace hF0 := ite_t hF0 (beq_t hc69)
              refine sq <| rg <| L (.ptr d0 w0 0) rfl rfl rfl <| L (.ptr d0 w0 0) rfl rfl rfl <| L (.ptr d0 w0 0) rfl rfl rfl ?_
              obtain ⟨⟨r88, w5⟩, h7, hF0⟩ := bind_some hF0
              refine WO_mutAP (g := 59) (args := fun p => [p, (.int .u8 91)]) (off := 0) (d := d0) (v := w0) (u := u0) (cs := fun sl u => [(.bmark 90), (rf sl u w.b.list.length)]) (a := (Ar.con 1 c_byte w.b)) (r := .nili) _ _ rfl rfl rfl rfl rfl rfl rfl (fun _ _ => inferInstance) hh0 hsub0 hbt0 hk_0 hka_0 (ok_strings_Builder_WriteByte__value_writer_0 _ _ h7) (fun out7 glob7 u7 hk7 hka7 hq7 => ?_)
              have hs7 := (Same2.refl d0 e0 _ _).trans hq7
              refine nl <| sq <| sq <| rg <| L (.ptr (.fr 0 3) 1 4) rfl rfl rfl <| L (Sl.av 6 c_api_Value v_.List) rfl rfl (op_load rfl (ld_con (Sl.av 6 c_api_Value v_.List) rfl rfl (cs := (c_api_Value v_)) (con_fr rfl) (by simp only [e_api_Value]; rfl))) <| L (iA (v_.List.list.length : Int)) rfl rfl (op_len rfl rfl rfl rfl rfl (len_sl _)) <| L (iA 0) rfl rfl rfl <| nl <| bk ?_
              obtain ⟨b1, hb20, hF0⟩ := bind_some hF0
              obtain ⟨hn20, hb20⟩ := ite_none hb20
              obtain ⟨J20, hJ20⟩ : ∃ J : St → Prop, ∀ st, J st ↔ (∃ (w14 : value_writer) (u5 : Nat) (tm22 : Nat → AV) (cb22 : AE.Frame) (out22 : List AE.Frame) (glob22 : List AObj), st = ⟨tm22, ⟨cb22, out22, glob22⟩⟩ ∧ AllEq tm22 [(0, (.ptr d0 w0 0))] ∧ AllEq cb22 [] ∧ con2 out22 glob22 d0 w0 = .cells [(.bmark 90), (rf sl0 u5 w14.b.list.length)] ∧ con2 out22 glob22 e0 u5 = (Ar.con 1 c_byte w14.b) ∧ Same2 d0 e0 out glob out22 glob22 ∧ w14 = b1) := ⟨_, fun _ => Iff.rfl⟩
              obtain ⟨R20, hR20⟩ : ∃ R : Nat → (value_writer) → St → Prop, ∀ i v st, R i v st ↔ (match v with | w13 => ∃ (u1 : Nat) (tm21 : Nat → AV) (cb21 : AE.Frame) (out21 : List AE.Frame) (glob21 : List AObj), st = ⟨tm21, ⟨cb21, out21, glob21⟩⟩ ∧ AllEq tm21 [(0, (.ptr d0 w0 0)), (90, (Sl.av 6 c_api_Value v_.List)), (91, (iA (v_.List.list.length : Int))), (92, (iA ((i : Nat) : Int)))] ∧ AllEq cb21 [] ∧ con2 out21 glob21 d0 w0 = .cells [(.bmark 90), (rf sl0 u1 w13.b.list.length)] ∧ con2 out21 glob21 e0 u1 = (Ar.con 1 c_byte w13.b) ∧ Same2 d0 e0 out glob out21 glob21) := ⟨_, fun _ _ _ => Iff.rfl⟩
              refine W_loopcut J20 (fun st hst => ?_) ?_
              · obtain ⟨w14, u5, tm22, cb22, out22, glob22, rfl, hT22, hC22, hk22, hka22, hs22, rfl⟩ := (hJ20 st).1 hst
                obtain ⟨tm22, rfl⟩ := allEq hT22
                obtain ⟨cb22, rfl⟩ := allEq hC22
                refine rg <| L (.ptr d0 w0 0) rfl rfl rfl <| L (.ptr d0 w0 0) rfl rfl rfl <| L (.ptr d0 w0 0) rfl rfl rfl ?_
                obtain ⟨⟨r110, w18⟩, h28, hF0⟩ := bind_some hF0
                refine WO_mutAP (g := 59) (args := fun p => [p, (.int .u8 93)]) (off := 0) (d := d0) (v := w0) (u := u5) (cs := fun sl u => [(.bmark 90), (rf sl u w14.b.list.length)]) (a := (Ar.con 1 c_byte w14.b)) (r := .nili) _ _ rfl rfl rfl rfl rfl rfl rfl (fun _ _ => inferInstance) hh0 hsub0 hbt0 hk22 hka22 (ok_strings_Builder_WriteByte__value_writer_0 _ _ h28) (fun out28 glob28 u28 hk28 hka28 hq28 => ?_)
                have hs28 := hs22.trans hq28
                refine nl ?_
                obtain rfl := Option.some.inj hF0
                exact mutA_leaf (.inl rfl) rfl (rfl) hk28 hka28 hs28
              · refine W_rangeL hb20 R20 ((hR20 _ _ _).2 ⟨u7, _, _, _, _, rfl, (And.intro rfl (And.intro rfl (And.intro rfl (And.intro rfl True.intro)))), True.intro, hk7, hka7, hs7⟩) ?_ ?_
                · intro i hi20 v st s hr hF1 hD1
                  obtain ⟨w13, hv_⟩ : ∃ z, z = v := ⟨_, rfl⟩; subst hv_
                  obtain ⟨u1, tm21, cb21, out21, glob21, rfl, hT21, hC21, hk21, hka21, hs21⟩ := (hR20 _ _ _).1 hr
                  obtain ⟨tm21, rfl⟩ := allEq hT21
                  obtain ⟨cb21, rfl⟩ := allEq hC21
                  obtain ⟨x2, hx20⟩ : ∃ x, x = v_.List.list[i] := ⟨_, rfl⟩
                  rw [← hx20] at hF1
                  dsimp only [value_writer_value_l0] at hF1
                  refine sq (rg ?_)
                  refine WO_do (y := (bA (decide (((i : Nat) : Int) < (v_.List.list.length : Int))))) _ rfl rfl rfl (nl ?_)
                  refine sq <| cd true (congrArg some (range_lt hi20)) (fun _ => ?_) (fun h => absurd h (by decide))
                  refine sk <| sq <| bk <| sq <| rg <| L (iA ((i : Nat) : Int)) rfl rfl rfl <| L (.cptr (c_api_Value x2)) rfl rfl (op_ix rfl ((ix_at (c := c_api_Value) rfl rfl hi20).trans (congrArg (fun x => some (AV.cptr (c_api_Value x))) hx20.symm))) <| L (.agg (c_api_Value x2)) rfl rfl (op_load rfl (ld_cel rfl rfl (by simp only [e_api_Value]; rfl))) <| L (.ptr (.fr 0 5) ((cb21 5).ver + 1) 0) (h' := ⟨upd _ 5 ⟨(cb21 5).ver + 1, .cells (c_api_Value (api_Value.mk 0 false 0 [] Sl.nil Sl.nil))⟩, _, _⟩) rfl rfl (op_alloc (c_api_Value (api_Value.mk 0 false 0 [] Sl.nil Sl.nil)) rfl rfl rfl (by simp only [e_api_Value]; rfl)) <| L (iA ((i : Nat) : Int)) rfl rfl rfl <| L (.tup []) (h' := ⟨upd _ 5 ⟨(cb21 5).ver + 1, .cells (c_api_Value x2)⟩, _, _⟩) rfl rfl (op_store rfl rfl (st_fr (x := (.agg (c_api_Value x2))) (cs := (c_api_Value (api_Value.mk 0 false 0 [] Sl.nil Sl.nil))) (c_api_Value x2) (by simp only [e_api_Value]; rfl) rfl (by simp only [e_api_Value]; exact Nat.le_of_ble_eq_true rfl) (by simp only [e_api_Value]; rfl))) <| nl <| sq <| sq <| rg <| L (iA ((i : Nat) : Int)) rfl rfl rfl <| L (bA (decide (((i : Nat) : Int) > 0))) rfl rfl rfl <| nl <| cd (decide (((i : Nat) : Int) > 0)) rfl (fun hc27 => ?_) (fun hc27 => ?_)
                  · replace hF1 := ite_t hF1 (dec_t hc27)
                    refine rg <| L (.ptr d0 w0 0) rfl rfl rfl <| L (.ptr d0 w0 0) rfl rfl rfl <| L (.ptr d0 w0 0) rfl rfl rfl ?_
                    obtain ⟨⟨r1022, w15⟩, h24, hF1⟩ := bind_some hF1
                    refine WO_mutAP (g := 59) (args := fun p => [p, (.int .u8 44)]) (off := 0) (d := d0) (v := w0) (u := u1) (cs := fun sl u => [(.bmark 90), (rf sl u w13.b.list.length)]) (a := (Ar.con 1 c_byte w13.b)) (r := .nili) _ _ rfl rfl rfl rfl rfl rfl rfl (fun _ _ => inferInstance) hh0 hsub0 hbt0 hk21 hka21 (ok_strings_Builder_WriteByte__value_writer_0 _ _ h24) (fun out24 glob24 u24 hk24 hka24 hq24 => ?_)
                    have hs24 := hs21.trans hq24
                    refine nl <| rg <| L (.ptr d0 w0 0) rfl rfl rfl <| L (.agg (c_api_Value x2)) rfl rfl (op_load rfl (ld_con (.agg (c_api_Value x2)) rfl rfl (cs := (c_api_Value x2)) (con_fr rfl) (by simp only [e_api_Value]; rfl))) ?_
                    obtain ⟨w16, h25, hF1⟩ := bind_some hF1
                    refine WO_mutAP (g := 50) (args := fun p => [p, (.agg (c_api_Value x2))]) (off := 0) (d := d0) (v := w0) (u := u24) (cs := fun sl u => [(.bmark 90), (rf sl u w15.b.list.length)]) (a := (Ar.con 1 c_byte w15.b)) (r := (.tup [])) _ _ rfl rfl rfl rfl rfl rfl rfl (fun _ _ => inferInstance) hh0 hsub0 hbt0 hk24 hka24 (ih_value_writer_value _ _ h25) (fun out25 glob25 u25 hk25 hka25 hq25 => ?_)
                    have hs25 := hs24.trans hq25
                    exact nl <| rg <| WO_do (y := (iA ((i + 1 : Nat) : Int))) _ rfl rfl (congrArg (fun n => some (AV.int .i64 n, _)) (range_len hi20 hn20)) <| WO_do (y := (iA ((i + 1 : Nat) : Int))) _ rfl rfl rfl <| nl <| Exists.intro _ (And.intro (Option.some.inj hF1).symm ((hR20 _ _ _).2 ⟨u25, _, _, _, _, rfl, (And.intro rfl (And.intro rfl (And.intro rfl (And.intro rfl True.intro)))), True.intro, hk25, hka25, hs25⟩))
                  · replace hF1 := ite_f hF1 (dec_f hc27)
                    refine sk <| rg <| L (.ptr d0 w0 0) rfl rfl rfl <| L (.agg (c_api_Value x2)) rfl rfl (op_load rfl (ld_con (.agg (c_api_Value x2)) rfl rfl (cs := (c_api_Value x2)) (con_fr rfl) (by simp only [e_api_Value]; rfl))) ?_
                    obtain ⟨w17, h26, hF1⟩ := bind_some hF1
                    refine WO_mutAP (g := 50) (args := fun p => [p, (.agg (c_api_Value x2))]) (off := 0) (d := d0) (v := w0) (u := u1) (cs := fun sl u => [(.bmark 90), (rf sl u w13.b.list.length)]) (a := (Ar.con 1 c_byte w13.b)) (r := (.tup [])) _ _ rfl rfl rfl rfl rfl rfl rfl (fun _ _ => inferInstance) hh0 hsub0 hbt0 hk21 hka21 (ih_value_writer_value _ _ h26) (fun out26 glob26 u26 hk26 hka26 hq26 => ?_)
                    have hs26 := hs21.trans hq26
                    exact nl <| rg <| WO_do (y := (iA ((i + 1 : Nat) : Int))) _ rfl rfl (congrArg (fun n => some (AV.int .i64 n, _)) (range_len hi20 hn20)) <| WO_do (y := (iA ((i + 1 : Nat) : Int))) _ rfl rfl rfl <| nl <| Exists.intro _ (And.intro (Option.some.inj hF1).symm ((hR20 _ _ _).2 ⟨u26, _, _, _, _, rfl, (And.intro rfl (And.intro rfl (And.intro rfl (And.intro rfl True.intro)))), True.intro, hk26, hka26, hs26⟩))
                · intro v st hr hD1
                  obtain ⟨w13, hv_⟩ : ∃ z, z = v := ⟨_, rfl⟩; subst hv_
                  obtain ⟨u1, tm21, cb21, out21, glob21, rfl, hT21, hC21, hk21, hka21, hs21⟩ := (hR20 _ _ _).1 hr
                  obtain ⟨tm21, rfl⟩ := allEq hT21
                  obtain ⟨cb21, rfl⟩ := allEq hC21
                  refine sq (rg ?_)
                  refine WO_do (y := .bool false) _ rfl rfl (congrArg (fun b => some (AV.bool b, _)) (range_ge _)) (nl ?_)
                  refine sq <| cd false rfl (fun h => absurd h (by decide)) (fun _ => ?_)
                  exact xt <| (hJ20 _).2 ⟨w13, u1, _, _, _, _, rfl, (And.intro rfl True.intro), True.intro, hk21, hka21, hs21, hD1⟩
            · replace hF0 := ite_f hF0 (beq_f hc69)
              refine sq <| rg <| L (.ptr d0 w0 0) rfl rfl rfl <| L (.ptr d0 w0 0) rfl rfl rfl <| L (.ptr d0 w0 0) rfl rfl rfl ?_
              obtain ⟨⟨r15, w19⟩, h29, hF0⟩ := bind_some hF0
              refine WO_mutAP (g := 59) (args := fun p => [p, (.int .u8 123)]) (off := 0) (d := d0) (v := w0) (u := u0) (cs := fun sl u => [(.bmark 90), (rf sl u w.b.list.length)]) (a := (Ar.con 1 c_byte w.b)) (r := .nili) _ _ rfl rfl rfl rfl rfl rfl rfl (fun _ _ => inferInstance) hh0 hsub0 hbt0 hk_0 hka_0 (ok_strings_Builder_WriteByte__value_writer_0 _ _ h29) (fun out29 glob29 u29 hk29 hka29 hq29 => ?_)
              have hs29 := (Same2.refl d0 e0 _ _).trans hq29
              refine nl <| sq <| sq <| rg <| L (.ptr (.fr 0 3) 1 5) rfl rfl rfl <| L (Sl.av 7 c_api_Member v_.Members) rfl rfl (op_load rfl (ld_con (Sl.av 7 c_api_Member v_.Members) rfl rfl (cs := (c_api_Value v_)) (con_fr rfl) (by simp only [e_api_Value]; rfl))) <| L (iA (v_.Members.list.length : Int)) rfl rfl (op_len rfl rfl rfl rfl rfl (len_sl _)) <| L (iA 0) rfl rfl rfl <| nl <| bk ?_
              obtain ⟨b1, hb54, hF0⟩ := bind_some hF0
              obtain ⟨hn54, hb54⟩ := ite_none hb54
              obtain ⟨J54, hJ54⟩ : ∃ J : St → Prop, ∀ st, J st ↔ (∃ (w34 : value_writer) (u18 : Nat) (tm56 : Nat → AV) (cb56 : AE.Frame) (out56 : List AE.Frame) (glob56 : List AObj), st = ⟨tm56, ⟨cb56, out56, glob56⟩⟩ ∧ AllEq tm56 [(0, (.ptr d0 w0 0))] ∧ AllEq cb56 [] ∧ con2 out56 glob56 d0 w0 = .cells [(.bmark 90), (rf sl0 u18 w34.b.list.length)] ∧ con2 out56 glob56 e0 u18 = (Ar.con 1 c_byte w34.b) ∧ Same2 d0 e0 out glob out56 glob56 ∧ w34 = b1) := ⟨_, fun _ => Iff.rfl⟩
              obtain ⟨R54, hR54⟩ : ∃ R : Nat → (value_writer) → St → Prop, ∀ i1 v st, R i1 v st ↔ (match v with | w33 => ∃ (u14 : Nat) (tm55 : Nat → AV) (cb55 : AE.Frame) (out55 : List AE.Frame) (glob55 : List AObj), st = ⟨tm55, ⟨cb55, out55, glob55⟩⟩ ∧ AllEq tm55 [(0, (.ptr d0 w0 0)), (17, (Sl.av 7 c_api_Member v_.Members)), (18, (iA (v_.Members.list.length : Int))), (19, (iA ((i1 : Nat) : Int)))] ∧ AllEq cb55 [] ∧ con2 out55 glob55 d0 w0 = .cells [(.bmark 90), (rf sl0 u14 w33.b.list.length)] ∧ con2 out55 glob55 e0 u14 = (Ar.con 1 c_byte w33.b) ∧ Same2 d0 e0 out glob out55 glob55) := ⟨_, fun _ _ _ => Iff.rfl⟩
              refine W_loopcut J54 (fun st hst => ?_) ?_
              · obtain ⟨w34, u18, tm56, cb56, out56, glob56, rfl, hT56, hC56, hk56, hka56, hs56, rfl⟩ := (hJ54 st).1 hst
                obtain ⟨tm56, rfl⟩ := allEq hT56
                obtain ⟨cb56, rfl⟩ := allEq hC56
                refine rg <| L (.ptr d0 w0 0) rfl rfl rfl <| L (.ptr d0 w0 0) rfl rfl rfl <| L (.ptr d0 w0 0) rfl rfl rfl ?_
                obtain ⟨⟨r49, w41⟩, h68, hF0⟩ := bind_some hF0
                refine WO_mutAP (g := 59) (args := fun p => [p, (.int .u8 125)]) (off := 0) (d := d0) (v := w0) (u := u18) (cs := fun sl u => [(.bmark 90), (rf sl u w34.b.list.length)]) (a := (Ar.con 1 c_byte w34.b)) (r := .nili) _ _ rfl rfl rfl rfl rfl rfl rfl (fun _ _ => inferInstance) hh0 hsub0 hbt0 hk56 hka56 (ok_strings_Builder_WriteByte__value_writer_0 _ _ h68) (fun out68 glob68 u68 hk68 hka68 hq68 => ?_)
                have hs68 := hs56.trans hq68
                refine nl ?_
                obtain rfl := Option.some.inj hF0
                exact mutA_leaf (.inl rfl) rfl (rfl) hk68 hka68 hs68
              · refine W_rangeL hb54 R54 ((hR54 _ _ _).2 ⟨u29, _, _, _, _, rfl, (And.intro rfl (And.intro rfl (And.intro rfl (And.intro rfl True.intro)))), True.intro, hk29, hka29, hs29⟩) ?_ ?_
                · intro i1 hi54 v st s hr hF1 hD1
                  obtain ⟨w33, hv_⟩ : ∃ z, z = v := ⟨_, rfl⟩; subst hv_
                  obtain ⟨u14, tm55, cb55, out55, glob55, rfl, hT55, hC55, hk55, hka55, hs55⟩ := (hR54 _ _ _).1 hr
                  obtain ⟨tm55, rfl⟩ := allEq hT55
                  obtain ⟨cb55, rfl⟩ := allEq hC55
                  obtain ⟨x5, hx54⟩ : ∃ x, x = v_.Members.list[i1] := ⟨_, rfl⟩
                  rw [← hx54] at hF1
                  dsimp only [value_writer_value_l1] at hF1
                  refine sq (rg ?_)
                  refine WO_do (y := (bA (decide (((i1 : Nat) : Int) < (v_.Members.list.length : Int))))) _ rfl rfl rfl (nl ?_)
                  refine sq <| cd true (congrArg some (range_lt hi54)) (fun _ => ?_) (fun h => absurd h (by decide))
                  refine sk <| sq <| bk <| sq <| rg <| L (iA ((i1 : Nat) : Int)) rfl rfl rfl <| L (.cptr (c_api_Member x5)) rfl rfl (op_ix rfl ((ix_at (c := c_api_Member) rfl rfl hi54).trans (congrArg (fun x => some (AV.cptr (c_api_Member x))) hx54.symm))) <| L (.agg (c_api_Member x5)) rfl rfl (op_load rfl (ld_cel rfl rfl (by simp only [e_api_Member, e_api_Value]; rfl))) <| L (.ptr (.fr 0 7) ((cb55 7).ver + 1) 0) (h' := ⟨upd _ 7 ⟨(cb55 7).ver + 1, .cells (c_api_Member (api_Member.mk [] (api_Value.mk 0 false 0 [] Sl.nil Sl.nil)))⟩, _, _⟩) rfl rfl (op_alloc (c_api_Member (api_Member.mk [] (api_Value.mk 0 false 0 [] Sl.nil Sl.nil))) rfl rfl rfl (by simp only [e_api_Member, e_api_Value]; rfl)) <| L (iA ((i1 : Nat) : Int)) rfl rfl rfl <| L (.tup []) (h' := ⟨upd _ 7 ⟨(cb55 7).ver + 1, .cells (c_api_Member x5)⟩, _, _⟩) rfl rfl (op_store rfl rfl (st_fr (x := (.agg (c_api_Member x5))) (cs := (c_api_Member (api_Member.mk [] (api_Value.mk 0 false 0 [] Sl.nil Sl.nil)))) (c_api_Member x5) (by simp only [e_api_Member, e_api_Value]; rfl) rfl (by simp only [e_api_Member, e_api_Value]; exact Nat.le_of_ble_eq_true rfl) (by simp only [e_api_Member, e_api_Value]; rfl))) <| nl <| sq <| sq <| rg <| L (iA ((i1 : Nat) : Int)) rfl rfl rfl <| L (bA (decide (((i1 : Nat) : Int) > 0))) rfl rfl rfl <| nl ?_
                  obtain ⟨y61, hF2, hF1⟩ := bind_some hF1
                  obtain ⟨J61, hJ61⟩ : ∃ J : St → Prop, ∀ st, J st ↔ (∃ (w36 : value_writer) (u19 : Nat) (tm60 : Nat → AV) (cb60 : AE.Frame) (out60 : List AE.Frame) (glob60 : List AObj), st = ⟨tm60, ⟨cb60, out60, glob60⟩⟩ ∧ AllEq tm60 [(0, (.ptr d0 w0 0)), (7, (.ptr (.fr 0 7) ((cb55 7).ver + 1) 0)), (17, (Sl.av 7 c_api_Member v_.Members)), (18, (iA (v_.Members.list.length : Int))), (19, (iA ((i1 : Nat) : Int)))] ∧ AllEq cb60 [(7, ⟨(cb55 7).ver + 1, .cells (c_api_Member x5)⟩)] ∧ con2 out60 glob60 d0 w0 = .cells [(.bmark 90), (rf sl0 u19 w36.b.list.length)] ∧ con2 out60 glob60 e0 u19 = (Ar.con 1 c_byte w36.b) ∧ Same2 d0 e0 out glob out60 glob60 ∧ w36 = y61) := ⟨_, fun _ => Iff.rfl⟩
                  refine W_cut J61 (fun st hst => ?_) ?_
                  · obtain ⟨w36, u19, tm60, cb60, out60, glob60, rfl, hT60, hC60, hk60, hka60, hs60, rfl⟩ := (hJ61 st).1 hst
                    obtain ⟨tm60, rfl⟩ := allEq hT60
                    obtain ⟨cb60, rfl⟩ := allEq hC60
                    refine sq <| dw (by kernel_rfl) <| L (.ptr d0 w0 0) rfl rfl rfl <| L (.ptr d0 w0 0) rfl rfl rfl <| L (.ptr d0 w0 0) rfl rfl rfl <| L (.ptr (.fr 0 7) ((cb55 7).ver + 1) 0) rfl rfl rfl <| L (sA x5.Name) rfl rfl (op_load rfl (ld_con (sA x5.Name) rfl rfl (cs := (c_api_Member x5)) (con_fr rfl) (by simp only [e_api_Member, e_api_Value]; rfl))) ?_
                    obtain ⟨r352, h64, hF1⟩ := bind_some hF1
                    refine WO_rd (g := 67) (args := [(sA x5.Name)]) (r := (sA r352)) _ _ rfl rfl rfl rfl rfl rfl (by kernel_rfl) (ok_value_quote _ h64 _ _ ) ?_
                    obtain ⟨⟨q06, q16, w38⟩, h65, hF1⟩ := bind_some hF1
                    refine WO_mutAP (g := 45) (args := fun p => [p, (sA r352)]) (off := 0) (d := d0) (v := w0) (u := u19) (cs := fun sl u => [(.bmark 90), (rf sl u w36.b.list.length)]) (a := (Ar.con 1 c_byte w36.b)) (r := (.tup [(iA q06), .nili])) _ _ rfl rfl rfl rfl rfl rfl (by kernel_rfl) (fun _ _ => inferInstance) hh0 hsub0 hbt0 hk60 hka60 (ok_strings_Builder_WriteString__value_writer_0 _ _ h65) (fun out65 glob65 u65 hk65 hka65 hq65 => ?_)
                    have hs65 := hs60.trans hq65
                    refine nl <| sq <| rg <| L (.ptr d0 w0 0) rfl rfl rfl <| L (.ptr d0 w0 0) rfl rfl rfl <| L (.ptr d0 w0 0) rfl rfl rfl ?_
                    obtain ⟨⟨r402, w39⟩, h66, hF1⟩ := bind_some hF1
                    refine WO_mutAP (g := 59) (args := fun p => [p, (.int .u8 58)]) (off := 0) (d := d0) (v := w0) (u := u65) (cs := fun sl u => [(.bmark 90), (rf sl u w38.b.list.length)]) (a := (Ar.con 1 c_byte w38.b)) (r := .nili) _ _ rfl rfl rfl rfl rfl rfl rfl (fun _ _ => inferInstance) hh0 hsub0 hbt0 hk65 hka65 (ok_strings_Builder_WriteByte__value_writer_0 _ _ h66) (fun out66 glob66 u66 hk66 hka66 hq66 => ?_)
                    have hs66 := hs65.trans hq66
                    refine nl <| rg <| L (.ptr d0 w0 0) rfl rfl rfl <| L (.ptr (.fr 0 7) ((cb55 7).ver + 1) 1) rfl rfl rfl <| L (.agg (c_api_Value x5.Value)) rfl rfl (op_load rfl (ld_con (.agg (c_api_Value x5.Value)) rfl rfl (cs := (c_api_Member x5)) (con_fr rfl) (by simp only [e_api_Member, e_api_Value]; rfl))) ?_
                    obtain ⟨w40, h67, hF1⟩ := bind_some hF1
                    refine WO_mutAP (g := 50) (args := fun p => [p, (.agg (c_api_Value x5.Value))]) (off := 0) (d := d0) (v := w0) (u := u66) (cs := fun sl u => [(.bmark 90), (rf sl u w39.b.list.length)]) (a := (Ar.con 1 c_byte w39.b)) (r := (.tup [])) _ _ rfl rfl rfl rfl rfl rfl rfl (fun _ _ => inferInstance) hh0 hsub0 hbt0 hk66 hka66 (ih_value_writer_value _ _ h67) (fun out67 glob67 u67 hk67 hka67 hq67 => ?_)
                    have hs67 := hs66.trans hq67
                    exact nl <| rg <| WO_do (y := (iA ((i1 + 1 : Nat) : Int))) _ rfl rfl (congrArg (fun n => some (AV.int .i64 n, _)) (range_len hi54 hn54)) <| WO_do (y := (iA ((i1 + 1 : Nat) : Int))) _ rfl rfl rfl <| nl <| Exists.intro _ (And.intro (Option.some.inj hF1).symm ((hR54 _ _ _).2 ⟨u67, _, _, _, _, rfl, (And.intro rfl (And.intro rfl (And.intro rfl (And.intro rfl True.intro)))), True.intro, hk67, hka67, hs67⟩))
                  · refine cd (decide (((i1 : Nat) : Int) > 0)) rfl (fun hc63 => ?_) (fun hc63 => ?_)
                    · replace hF2 := ite_t hF2 (dec_t hc63)
                      refine rg <| L (.ptr d0 w0 0) rfl rfl rfl <| L (.ptr d0 w0 0) rfl rfl rfl <| L (.ptr d0 w0 0) rfl rfl rfl ?_
                      obtain ⟨⟨r295, w37⟩, h62, hF2⟩ := bind_some hF2
                      refine WO_mutAP (g := 59) (args := fun p => [p, (.int .u8 44)]) (off := 0) (d := d0) (v := w0) (u := u14) (cs := fun sl u => [(.bmark 90), (rf sl u w33.b.list.length)]) (a := (Ar.con 1 c_byte w33.b)) (r := .nili) _ _ rfl rfl rfl rfl rfl rfl rfl (fun _ _ => inferInstance) hh0 hsub0 hbt0 hk55 hka55 (ok_strings_Builder_WriteByte__value_writer_0 _ _ h62) (fun out62 glob62 u62 hk62 hka62 hq62 => ?_)
                      have hs62 := hs55.trans hq62
                      exact nl <| (hJ61 _).2 ⟨w37, u62, _, _, _, _, rfl, (And.intro rfl (And.intro rfl (And.intro rfl (And.intro rfl (And.intro rfl True.intro))))), (And.intro rfl True.intro), hk62, hka62, hs62, Option.some.inj hF2⟩
                    · replace hF2 := ite_f hF2 (dec_f hc63)
                      exact sk <| (hJ61 _).2 ⟨w33, u14, _, _, _, _, rfl, (And.intro rfl (And.intro rfl (And.intro rfl (And.intro rfl (And.intro rfl True.intro))))), (And.intro rfl True.intro), hk55, hka55, hs55, Option.some.inj hF2⟩
                · intro v st hr hD1
                  obtain ⟨w33, hv_⟩ : ∃ z, z = v := ⟨_, rfl⟩; subst hv_
                  obtain ⟨u14, tm55, cb55, out55, glob55, rfl, hT55, hC55, hk55, hka55, hs55⟩ := (hR54 _ _ _).1 hr
                  obtain ⟨tm55, rfl⟩ := allEq hT55
                  obtain ⟨cb55, rfl⟩ := allEq hC55
                  refine sq (rg ?_)
                  refine WO_do (y := .bool false) _ rfl rfl (congrArg (fun b => some (AV.bool b, _)) (range_ge _)) (nl ?_)
                  refine sq <| cd false rfl (fun h => absurd h (by decide)) (fun _ => ?_)
                  exact xt <| (hJ54 _).2 ⟨w33, u14, _, _, _, _, rfl, (And.intro rfl True.intro), True.intro, hk55, hka55, hs55, hD1⟩
theorem ok_value_writer_value (k : Nat) : (∀ (w : value_writer) (v_ : api_Value) {r : (value_writer)} (hF0 : value_writer_value k w v_ = some r), MutA Tryd.prog pol 50 (fun p => [p, (.agg (c_api_Value v_))]) 0 (some 5) (fun sl u => [(.bmark 90), (rf sl u w.b.list.length)]) (Ar.con 1 c_byte w.b) (.tup []) (fun sl u => [(.bmark 90), (rf sl u r.b.list.length)]) (Ar.con 1 c_byte r.b)) := (okg_value_writer_value k)

theorem ok_value_textOf (k : Nat) (v_ : api_Value) {r : (Str × Bool)} (hF0 : value_textOf k v_ = some r) (out : List AE.Frame) (glob : List AObj) : RdOk Tryd.prog pol false 25 [(.agg (c_api_Value v_))] out glob (.tup [(sA r.1), (bA r.2)]) := by
 unfold value_textOf at hF0
 refine rd_walkF Tryd.func25 rfl (Nat.not_lt.2 (Nat.le_of_ble_eq_true rfl)) <| sq <| rg <| L (.ptr (.fr 0 1) 1 0) (h' := ⟨upd _ 1 ⟨1, .cells (c_api_Value v_)⟩, _, _⟩) rfl rfl (op_box (x' := (.agg (c_api_Value v_))) rfl rfl rfl rfl) <| L (sA []) rfl rfl rfl <| L (bA false) rfl rfl rfl <| nl <| sq <| rg <| L (.agg [.nilp, (Sl.av 1 c_u8 Sl.nil)]) rfl rfl (op_build rfl (build_st (cs := [.nilp, (Sl.av 1 c_u8 Sl.nil)]) rfl rfl rfl (fill_nil))) <| L (.ptr (.fr 0 6) 1 0) (h' := ⟨upd (upd _ 1060005 ⟨1, (Ar.con 1 c_byte (Ar.nil : Ar UInt8))⟩) 6 ⟨1, .cells [(.bmark 90), (rf (.fr 0 1060005) 1 (Ar.nil : Ar UInt8).list.length)]⟩, _, _⟩) rfl rfl (op_boxA (x' := (.agg [.nilp, (Sl.av 1 c_u8 Sl.nil)])) rfl rfl rfl rfl rfl (List.cons_ne_nil _ _) (fld_mark rfl (fld_arr rfl (by decide) fld_nil))) <| L (.ptr (.fr 0 6) 1 0) rfl rfl rfl <| nl <| sq <| rg <| L (.ptr (.fr 0 6) 1 0) rfl rfl rfl <| L (.agg (c_api_Value v_)) rfl rfl (op_load rfl (ld_con (.agg (c_api_Value v_)) rfl rfl (cs := (c_api_Value v_)) (con_fr rfl) (by simp only [e_api_Value]; rfl))) ?_
 obtain ⟨b, h1, hF0⟩ := bind_some hF0
 refine WO_mutAL (g := 50) (args := fun p => [p, (.agg (c_api_Value v_))]) (off := 0) (s := 6) (b := 1060005) (v := 1) (u := 1) (cs := fun sl u => [(.bmark 90), (rf sl u (Ar.nil : Ar UInt8).list.length)]) (a := (Ar.con 1 c_byte (Ar.nil : Ar UInt8))) (r := (.tup [])) _ _ rfl rfl rfl rfl rfl rfl rfl (fun _ _ => inferInstance) rfl rfl (by decide) rfl Ar.con_live (ok_value_writer_value _ _ _ h1) (fun u1 => ?_)
 refine nl <| sq <| sq <| rg <| L (.ptr (.fr 0 6) 1 0) rfl rfl rfl ?_
 obtain ⟨r11, h2, hF0⟩ := bind_some hF0
 refine WO_rd (g := 51) (args := [(.ptr (.fr 0 6) 1 0)]) (r := (bA r11)) _ _ rfl rfl rfl rfl rfl rfl rfl (ok_value_writer_full _ h2 _ _ (.fr 1 6) 1 (.fr 1 1060005) (.fr 0 1060005) u1 rfl (Sub.own (by decide)) rfl (con2_own _ _ _ rfl) (con2_own _ _ _ rfl)) <| nl <| cd r11 rfl (fun hc3 => ?_) (fun hc3 => ?_)
 · replace hF0 := ite_t hF0 (hc3)
   refine sq <| rg <| L (sA []) rfl rfl rfl <| L (bA false) rfl rfl rfl <| nl <| rt ?_
   obtain rfl := Option.some.inj hF0
   exact rd_leaf (.inr rfl) rfl (ret_tup2 (retV_pl _ _ (sA [])) (retV_pl _ _ (bA false))) rfl rfl
 · replace hF0 := ite_f hF0 (not_t hc3)
   refine sk <| sq <| rg <| L (.ptr (.fr 0 6) 1 0) rfl rfl rfl <| L (.ptr (.fr 0 6) 1 0) rfl rfl rfl <| L (.ptr (.fr 0 6) 1 0) rfl rfl rfl ?_
   obtain ⟨r2, h_r2, hF0⟩ := bind_some hF0
   refine L (sA r2) rfl rfl (opF_H _ rfl rfl rfl rfl rfl rfl rfl (x_string_eq (cs := [(.bmark 90), (rf (.fr 0 1060005) u1 b.b.list.length)]) (a := b.b) (con_fr rfl) rfl (from_fr0 _ _) (con_fr rfl) rfl rfl h_r2)) <| L (sA r2) rfl rfl rfl <| L (bA true) rfl rfl rfl <| nl <| rt ?_
   obtain rfl := Option.some.inj hF0
   exact rd_leaf (.inr rfl) rfl (ret_tup2 (retV_pl _ _ (sA r2)) (retV_pl _ _ (bA true))) rfl rfl

theorem ok_value_Text (k : Nat) (v_ : api_Value) {r : (Str × Int)} (hF0 : value_Text k v_ = some r) (out : List AE.Frame) (glob : List AObj) : RdOk Tryd.prog pol false 8 [(.agg (c_api_Value v_))] out glob (.tup [(sA r.1), (iA r.2)]) := by
 unfold value_Text at hF0
 refine rd_walkF Tryd.func8 rfl (Nat.not_lt.2 (Nat.le_of_ble_eq_true rfl)) <| sq <| rg <| L (.ptr (.fr 0 1) 1 0) (h' := ⟨upd _ 1 ⟨1, .cells (c_api_Value v_)⟩, _, _⟩) rfl rfl (op_box (x' := (.agg (c_api_Value v_))) rfl rfl rfl rfl) <| L (sA []) rfl rfl rfl <| L (iA 0) rfl rfl rfl <| nl <| sq <| sq <| rg <| L (.agg (c_api_Value v_)) rfl rfl (op_load rfl (ld_con (.agg (c_api_Value v_)) rfl rfl (cs := (c_api_Value v_)) (con_fr rfl) (by simp only [e_api_Value]; rfl))) ?_
 obtain ⟨e, h1, hF0⟩ := bind_some hF0
 refine WO_rd (g := 10) (args := [(.agg (c_api_Value v_))]) (r := (iA e)) _ _ rfl rfl rfl rfl rfl rfl rfl (ok_value_Check _ _ h1 _ _ ) <| L (iA e) rfl rfl rfl <| nl <| sq <| rg <| L (iA e) rfl rfl rfl <| L (bA (e != 0)) rfl rfl rfl <| nl <| cd (e != 0) rfl (fun hc4 => ?_) (fun hc4 => ?_)
 · replace hF0 := ite_t hF0 (bne_t hc4)
   refine sq <| rg <| L (iA e) rfl rfl rfl <| L (sA []) rfl rfl rfl <| L (iA e) rfl rfl rfl <| nl <| rt ?_
   obtain rfl := Option.some.inj hF0
   exact rd_leaf (.inr rfl) rfl (ret_tup2 (retV_pl _ _ (sA [])) (retV_pl _ _ (iA e))) rfl rfl
 · replace hF0 := ite_f hF0 (bne_f hc4)
   refine sk <| sq <| rg <| L (.agg (c_api_Value v_)) rfl rfl (op_load rfl (ld_con (.agg (c_api_Value v_)) rfl rfl (cs := (c_api_Value v_)) (con_fr rfl) (by simp only [e_api_Value]; rfl))) ?_
   obtain ⟨⟨s_, ok_⟩, h2, hF0⟩ := bind_some hF0
   refine WO_rd (g := 25) (args := [(.agg (c_api_Value v_))]) (r := (.tup [(sA s_), (bA ok_)])) _ _ rfl rfl rfl rfl rfl rfl rfl (ok_value_textOf _ _ h2 _ _ ) <| L (.tup [(sA s_), (bA ok_)]) rfl rfl rfl <| L (sA s_) rfl rfl rfl <| L (bA ok_) rfl rfl rfl <| L (sA s_) rfl rfl rfl <| L (bA ok_) rfl rfl rfl <| nl <| sq <| sq <| rg <| L (bA ok_) rfl rfl rfl <| L (bA (!ok_)) rfl rfl rfl <| nl <| cd (!ok_) rfl (fun hc3 => ?_) (fun hc3 => ?_)
   · replace hF0 := ite_t hF0 (hc3)
     refine sq <| rg <| L (sA []) rfl rfl rfl <| L (iA 2) rfl rfl rfl <| nl <| rt ?_
     obtain rfl := Option.some.inj hF0
     exact rd_leaf (.inr rfl) rfl (ret_tup2 (retV_pl _ _ (sA [])) (retV_pl _ _ (iA 2))) rfl rfl
   · replace hF0 := ite_f hF0 (not_t hc3)
     refine sk <| sq <| rg <| L (sA s_) rfl rfl rfl <| L (sA s_) rfl rfl rfl <| L (iA 0) rfl rfl rfl <| nl <| rt ?_
     obtain rfl := Option.some.inj hF0
     exact rd_leaf (.inr rfl) rfl (ret_tup2 (retV_pl _ _ (sA s_)) (retV_pl _ _ (iA 0))) rfl rfl

theorem okg_gateref1_sizeOf (k : Nat) : (∀ (v_ : api_Value) {r : (Int × Int)} (hF0 : gateref1_sizeOf k v_ = some r) (out : List AE.Frame) (glob : List AObj), RdOk Tryd.prog pol true 26 [(.agg (c_api_Value v_))] out glob (.tup [(iA r.1), (iA r.2)])) := by
 induction k with
 | zero => exact (by intro v_ r hF0 out glob; rw [gateref1_sizeOf] at hF0; cases hF0)
 | succ k ih =>
  have ih_gateref1_sizeOf := ih
  intro v_ r hF0 out glob
  rw [gateref1_sizeOf] at hF0
  refine rd_walk Tryd.func26 rfl (Nat.not_lt.2 (Nat.le_of_ble_eq_true rfl)) ?_
  intro ro
  refine sq <| rg <| L (.ptr (.fr 0 1) 1 0) (h' := ⟨upd _ 1 ⟨1, .cells (c_api_Value v_)⟩, _, _⟩) rfl rfl (op_box (x' := (.agg (c_api_Value v_))) rfl rfl rfl rfl) <| L (iA 0) rfl rfl rfl <| L (iA 0) rfl rfl rfl <| nl <| sq <| rg <| L (.ptr (.fr 0 1) 1 4) rfl rfl rfl <| L (Sl.av 6 c_api_Value v_.List) rfl rfl (op_load rfl (ld_con (Sl.av 6 c_api_Value v_.List) rfl rfl (cs := (c_api_Value v_)) (con_fr rfl) (by simp only [e_api_Value]; rfl))) ?_
  obtain ⟨kids, h2, hF0⟩ := bind_some hF0
  refine WO_zR1 (g := 21) (args := [(Sl.av 6 c_api_Value v_.List)]) (s := 5004) _ _ rfl rfl rfl rfl rfl rfl rfl rfl rfl (okm_slices_Clone_api_Value_api_Value _ h2 _ _ ) (fun o5004 hz_1 => ?_)
  refine L (Sl.lav (.fr 0 5004) o5004.ver kids) rfl rfl rfl <| nl <| sq <| sq <| rg <| L (.ptr (.fr 0 1) 1 5) rfl rfl rfl <| L (Sl.av 7 c_api_Member v_.Members) rfl rfl (op_load rfl (ld_con (Sl.av 7 c_api_Member v_.Members) rfl rfl (cs := (c_api_Value v_)) (con_fr rfl) (by simp only [e_api_Value]; rfl))) <| L (iA (v_.Members.list.length : Int)) rfl rfl (op_len rfl rfl rfl rfl rfl (len_sl _)) <| L (iA 0) rfl rfl rfl <| nl <| bk ?_
  obtain ⟨b1, hb9, hF0⟩ := bind_some hF0
  obtain ⟨hn9, hb9⟩ := ite_none hb9
  obtain ⟨J9, hJ9⟩ : ∃ J : St → Prop, ∀ st, J st ↔ (∃ (kids5 : (Sl api_Value)) (o50045 : AObj) (tm11 : Nat → AV) (cb11 : AE.Frame), st = ⟨tm11, ⟨cb11, out, glob⟩⟩ ∧ AllEq tm11 [(3, (iA 0)), (4, (Sl.lav (.fr 0 5004) o50045.ver kids5))] ∧ AllEq cb11 [(5004, o50045)] ∧ LzF 6 c_api_Value o50045 kids5 ∧ kids5 = b1) := ⟨_, fun _ => Iff.rfl⟩
  obtain ⟨R9, hR9⟩ : ∃ R : Nat → ((Sl api_Value)) → St → Prop, ∀ i v st, R i v st ↔ (match v with | kids4 => ∃ (o50044 : AObj) (tm10 : Nat → AV) (cb10 : AE.Frame), st = ⟨tm10, ⟨cb10, out, glob⟩⟩ ∧ AllEq tm10 [(3, (iA 0)), (4, (Sl.lav (.fr 0 5004) o50044.ver kids4)), (15, (Sl.av 7 c_api_Member v_.Members)), (16, (iA (v_.Members.list.length : Int))), (17, (iA ((i : Nat) : Int)))] ∧ AllEq cb10 [(5004, o50044)] ∧ LzF 6 c_api_Value o50044 kids4) := ⟨_, fun _ _ _ => Iff.rfl⟩
  refine W_loopcut J9 (fun st hst => ?_) ?_
  · obtain ⟨kids5, o50045, tm11, cb11, rfl, hT11, hC11, hz11_0, rfl⟩ := (hJ9 st).1 hst
    obtain ⟨tm11, rfl⟩ := allEq hT11
    obtain ⟨cb11, rfl⟩ := allEq hC11
    refine sq <| rg <| L (iA 1) rfl rfl rfl <| nl <| sq <| sq <| rg <| L (Sl.lav (.fr 0 5004) o50045.ver kids5) rfl rfl rfl <| L (iA (kids5.list.length : Int)) rfl rfl (op_len rfl rfl rfl rfl rfl (lz_len _ _ _)) <| L (iA 0) rfl rfl rfl <| nl <| bk ?_
    obtain ⟨b1, hb17, hF0⟩ := bind_some hF0
    obtain ⟨hn17, hb17⟩ := ite_none hb17
    obtain ⟨J17, hJ17⟩ : ∃ J : St → Prop, ∀ st, J st ↔ (∃ (many2 : Int) (deep2 : Int) (tm19 : Nat → AV) (cb19 : AE.Frame), st = ⟨tm19, ⟨cb19, out, glob⟩⟩ ∧ AllEq tm19 [(2, (iA many2)), (3, (iA deep2))] ∧ AllEq cb19 [] ∧ (many2, deep2) = b1) := ⟨_, fun _ => Iff.rfl⟩
    obtain ⟨R17, hR17⟩ : ∃ R : Nat → (Int × Int) → St → Prop, ∀ i1 v st, R i1 v st ↔ (match v with | (many1, deep1) => ∃ (tm18 : Nat → AV) (cb18 : AE.Frame), st = ⟨tm18, ⟨cb18, out, glob⟩⟩ ∧ AllEq tm18 [(2, (iA many1)), (3, (iA deep1)), (27, (Sl.lav (.fr 0 5004) o50045.ver kids5)), (28, (iA (kids5.list.length : Int))), (29, (iA ((i1 : Nat) : Int)))] ∧ AllEq cb18 [(5004, o50045)] ∧ LzF 6 c_api_Value o50045 kids5) := ⟨_, fun _ _ _ => Iff.rfl⟩
    refine W_loopcut J17 (fun st hst => ?_) ?_
    · obtain ⟨many2, deep2, tm19, cb19, rfl, hT19, hC19, rfl⟩ := (hJ17 st).1 hst
      obtain ⟨tm19, rfl⟩ := allEq hT19
      obtain ⟨cb19, rfl⟩ := allEq hC19
      refine sq <| rg <| L (iA many2) rfl rfl rfl <| L (iA deep2) rfl rfl rfl <| L (iA (w64 (deep2 + 1))) rfl rfl rfl <| L (iA many2) rfl rfl rfl <| L (iA (w64 (deep2 + 1))) rfl rfl rfl <| nl <| rt ?_
      obtain rfl := Option.some.inj hF0
      exact rd_leaf (.inr rfl) rfl (ret_tup2 (retV_pl _ _ (iA many2)) (retV_pl _ _ (iA (w64 (deep2 + 1))))) rfl rfl
    · refine W_rangeL hb17 R17 ((hR17 _ _ _).2 ⟨_, _, rfl, (And.intro rfl (And.intro rfl (And.intro rfl (And.intro rfl (And.intro rfl True.intro))))), (And.intro rfl True.intro), hz11_0⟩) ?_ ?_
      · intro i1 hi17 v st s hr hF1 hD1
        obtain ⟨many1, deep1⟩ := v
        obtain ⟨tm18, cb18, rfl, hT18, hC18, hz18_0⟩ := (hR17 _ _ _).1 hr
        obtain ⟨tm18, rfl⟩ := allEq hT18
        obtain ⟨cb18, rfl⟩ := allEq hC18
        dsimp only [gateref1_sizeOf_l1] at hF1
        refine sq (rg ?_)
        refine WO_do (y := (bA (decide (((i1 : Nat) : Int) < (kids5.list.length : Int))))) _ rfl rfl rfl (nl ?_)
        refine sq <| cd true (congrArg some (rangeN_lt hi17)) (fun _ => ?_) (fun h => absurd h (by decide))
        refine sk <| sq <| bk <| sq <| rg ?_
        obtain ⟨x4, h_x4, hF1⟩ := bind_some hF1
        refine L (.eptr (.fr 0 5004) o50045.ver (((i1 : Nat) : Int) : Int).toNat 0) rfl rfl (op_ix rfl (ix_lz (x := kids5) (o := o50045) (n := 6) (c := c_api_Value) rfl rfl rfl hz18_0 h_x4)) <| L (.agg (c_api_Value x4)) rfl rfl (op_load rfl (ld_lz (x := kids5) (o := o50045) (n := 6) (c := c_api_Value) (.agg (c_api_Value x4)) rfl rfl rfl hz18_0 h_x4 (by simp only [e_api_Value]; rfl))) <| L (.ptr (.fr 0 8) ((cb18 8).ver + 1) 0) (h' := ⟨upd _ 8 ⟨(cb18 8).ver + 1, .cells (c_api_Value (api_Value.mk 0 false 0 [] Sl.nil Sl.nil))⟩, _, _⟩) rfl rfl (op_alloc (c_api_Value (api_Value.mk 0 false 0 [] Sl.nil Sl.nil)) rfl rfl rfl (by simp only [e_api_Value]; rfl)) <| L (.tup []) (h' := ⟨upd _ 8 ⟨(cb18 8).ver + 1, .cells (c_api_Value x4)⟩, _, _⟩) rfl rfl (op_store rfl rfl (st_fr (x := (.agg (c_api_Value x4))) (cs := (c_api_Value (api_Value.mk 0 false 0 [] Sl.nil Sl.nil))) (c_api_Value x4) (by simp only [e_api_Value]; rfl) rfl (by simp only [e_api_Value]; exact Nat.le_of_ble_eq_true rfl) (by simp only [e_api_Value]; rfl))) <| nl <| sq <| rg <| L (.agg (c_api_Value x4)) rfl rfl (op_load rfl (ld_con (.agg (c_api_Value x4)) rfl rfl (cs := (c_api_Value x4)) (con_fr rfl) (by simp only [e_api_Value]; rfl))) ?_
        obtain ⟨⟨n1, d1⟩, h21, hF1⟩ := bind_some hF1
        exact WO_rd (g := 26) (args := [(.agg (c_api_Value x4))]) (r := (.tup [(iA n1), (iA d1)])) _ _ rfl rfl rfl rfl rfl rfl rfl (ih_gateref1_sizeOf _ h21 _ _ ) <| L (.tup [(iA n1), (iA d1)]) rfl rfl rfl <| L (iA n1) rfl rfl rfl <| L (iA d1) rfl rfl rfl <| L (iA n1) rfl rfl rfl <| L (iA d1) rfl rfl rfl <| nl <| rg <| L (iA many1) rfl rfl rfl <| L (iA n1) rfl rfl rfl <| L (iA (w64 (many1 + n1))) rfl rfl rfl <| L (iA deep1) rfl rfl rfl <| L (iA d1) rfl rfl rfl <| L (iA (imax deep1 d1)) rfl rfl rfl <| L (iA (w64 (many1 + n1))) rfl rfl rfl <| L (iA (imax deep1 d1)) rfl rfl rfl <| nl <| rg <| WO_do (y := (iA ((i1 + 1 : Nat) : Int))) _ rfl rfl (congrArg (fun n => some (AV.int .i64 n, _)) (rangeN_len hi17 hn17)) <| WO_do (y := (iA ((i1 + 1 : Nat) : Int))) _ rfl rfl rfl <| nl <| Exists.intro _ (And.intro (Option.some.inj hF1).symm ((hR17 _ _ _).2 ⟨_, _, rfl, (And.intro rfl (And.intro rfl (And.intro rfl (And.intro rfl (And.intro rfl True.intro))))), (And.intro rfl True.intro), hz18_0⟩))
      · intro v st hr hD1
        obtain ⟨many1, deep1⟩ := v
        obtain ⟨tm18, cb18, rfl, hT18, hC18, hz18_0⟩ := (hR17 _ _ _).1 hr
        obtain ⟨tm18, rfl⟩ := allEq hT18
        obtain ⟨cb18, rfl⟩ := allEq hC18
        refine sq (rg ?_)
        refine WO_do (y := .bool false) _ rfl rfl (congrArg (fun b => some (AV.bool b, _)) (rangeN_ge _)) (nl ?_)
        refine sq <| cd false rfl (fun h => absurd h (by decide)) (fun _ => ?_)
        exact xt <| (hJ17 _).2 ⟨many1, deep1, _, _, rfl, (And.intro rfl (And.intro rfl True.intro)), True.intro, hD1⟩
  · refine W_rangeL hb9 R9 ((hR9 _ _ _).2 ⟨o5004, _, _, rfl, (And.intro rfl (And.intro rfl (And.intro rfl (And.intro rfl (And.intro rfl True.intro))))), (And.intro rfl True.intro), hz_1⟩) ?_ ?_
    · intro i hi9 v st s hr hF1 hD1
      obtain ⟨kids4, hv_⟩ : ∃ z, z = v := ⟨_, rfl⟩; subst hv_
      obtain ⟨o50044, tm10, cb10, rfl, hT10, hC10, hz10_0⟩ := (hR9 _ _ _).1 hr
      obtain ⟨tm10, rfl⟩ := allEq hT10
      obtain ⟨cb10, rfl⟩ := allEq hC10
      obtain ⟨x2, hx9⟩ : ∃ x, x = v_.Members.list[i] := ⟨_, rfl⟩
      rw [← hx9] at hF1
      dsimp only [gateref1_sizeOf_l0] at hF1
      refine sq (rg ?_)
      refine WO_do (y := (bA (decide (((i : Nat) : Int) < (v_.Members.list.length : Int))))) _ rfl rfl rfl (nl ?_)
      refine sq <| cd true (congrArg some (range_lt hi9)) (fun _ => ?_) (fun h => absurd h (by decide))
      refine sk <| sq <| bk <| sq <| rg <| L (.cptr (c_api_Member x2)) rfl rfl (op_ix rfl ((ix_at (c := c_api_Member) rfl rfl hi9).trans (congrArg (fun x => some (AV.cptr (c_api_Member x))) hx9.symm))) <| L (.agg (c_api_Member x2)) rfl rfl (op_load rfl (ld_cel rfl rfl (by simp only [e_api_Member, e_api_Value]; rfl))) <| L (.ptr (.fr 0 6) ((cb10 6).ver + 1) 0) (h' := ⟨upd _ 6 ⟨(cb10 6).ver + 1, .cells (c_api_Member (api_Member.mk [] (api_Value.mk 0 false 0 [] Sl.nil Sl.nil)))⟩, _, _⟩) rfl rfl (op_alloc (c_api_Member (api_Member.mk [] (api_Value.mk 0 false 0 [] Sl.nil Sl.nil))) rfl rfl rfl (by simp only [e_api_Member, e_api_Value]; rfl)) <| L (.tup []) (h' := ⟨upd _ 6 ⟨(cb10 6).ver + 1, .cells (c_api_Member x2)⟩, _, _⟩) rfl rfl (op_store rfl rfl (st_fr (x := (.agg (c_api_Member x2))) (cs := (c_api_Member (api_Member.mk [] (api_Value.mk 0 false 0 [] Sl.nil Sl.nil)))) (c_api_Member x2) (by simp only [e_api_Member, e_api_Value]; rfl) rfl (by simp only [e_api_Member, e_api_Value]; exact Nat.le_of_ble_eq_true rfl) (by simp only [e_api_Member, e_api_Value]; rfl))) <| nl <| rg <| L (Sl.lav (.fr 0 5004) o50044.ver kids4) rfl rfl rfl <| L (.ptr (.fr 0 6) ((cb10 6).ver + 1) 1) rfl rfl rfl <| L (.agg (c_api_Value x2.Value)) rfl rfl (op_load rfl (ld_con (.agg (c_api_Value x2.Value)) rfl rfl (cs := (c_api_Member x2)) (con_fr rfl) (by simp only [e_api_Member, e_api_Value]; rfl))) <| L (Sl.av 6 c_api_Value (Sl.full [x2.Value] : Sl api_Value)) rfl rfl (op_sliceN rfl rfl (slice_of rfl rfl rfl (by decide) (fillS_cons (x := (.agg (c_api_Value x2.Value))) (by simp only [e_api_Value]; rfl) (Nat.le_of_ble_eq_true rfl) (fillS_nil)))) ?_
      obtain ⟨kids6, h_kids6, hF1⟩ := bind_some hF1
      refine WO_lzapp (s := 5004) (x := kids4) (x' := kids6) (o := o50044) (n := 6) (c := c_api_Value) (xs := [x2.Value]) (y := (Sl.av 6 c_api_Value (Sl.full [x2.Value] : Sl api_Value))) _ rfl rfl rfl rfl rfl rfl rfl rfl rfl rfl rfl rfl (z := (c_api_Value (api_Value.mk 0 false 0 [] Sl.nil Sl.nil))) rfl rfl (by simp only [e_api_Value]; rfl) rfl (by simp only [e_api_Value]; rfl) (by decide) (fun _ => (by simp only [e_api_Value]; rfl)) rfl rfl rfl hz10_0 h_kids6 (fun o50046 hz_13 => ?_)
      exact L (Sl.lav (.fr 0 5004) o50046.ver kids6) rfl rfl rfl <| nl <| rg <| WO_do (y := (iA ((i + 1 : Nat) : Int))) _ rfl rfl (congrArg (fun n => some (AV.int .i64 n, _)) (range_len hi9 hn9)) <| WO_do (y := (iA ((i + 1 : Nat) : Int))) _ rfl rfl rfl <| nl <| Exists.intro _ (And.intro (Option.some.inj hF1).symm ((hR9 _ _ _).2 ⟨o50046, _, _, rfl, (And.intro rfl (And.intro rfl (And.intro rfl (And.intro rfl (And.intro rfl True.intro))))), (And.intro rfl True.intro), hz_13⟩))
    · intro v st hr hD1
      obtain ⟨kids4, hv_⟩ : ∃ z, z = v := ⟨_, rfl⟩; subst hv_
      obtain ⟨o50044, tm10, cb10, rfl, hT10, hC10, hz10_0⟩ := (hR9 _ _ _).1 hr
      obtain ⟨tm10, rfl⟩ := allEq hT10
      obtain ⟨cb10, rfl⟩ := allEq hC10
      refine sq (rg ?_)
      refine WO_do (y := .bool false) _ rfl rfl (congrArg (fun b => some (AV.bool b, _)) (range_ge _)) (nl ?_)
      refine sq <| cd false rfl (fun h => absurd h (by decide)) (fun _ => ?_)
      exact xt <| (hJ9 _).2 ⟨kids4, o50044, _, _, rfl, (And.intro rfl (And.intro rfl True.intro)), (And.intro rfl True.intro), hz10_0, hD1⟩
theorem ok_gateref1_sizeOf (k : Nat) : (∀ (v_ : api_Value) {r : (Int × Int)} (hF0 : gateref1_sizeOf k v_ = some r) (out : List AE.Frame) (glob : List AObj), RdOk Tryd.prog pol true 26 [(.agg (c_api_Value v_))] out glob (.tup [(iA r.1), (iA r.2)])) := (okg_gateref1_sizeOf k)

theorem ok_gateref1_in (n : Int) (low : Int) (high : Int) {r : (Bool)} (hF0 : gateref1_in n low high = some r) (out : List AE.Frame) (glob : List AObj) : RdOk Tryd.prog pol true 68 [(iA n), (iA low), (iA high)] out glob (bA r) := by
 unfold gateref1_in at hF0
 refine rd_walk Tryd.func68 rfl (Nat.not_lt.2 (Nat.le_of_ble_eq_true rfl)) ?_
 intro ro
 refine sq <| rg <| L (bA false) rfl rfl rfl <| nl <| sq <| rg <| L (iA low) rfl rfl rfl <| L (iA n) rfl rfl rfl <| L (bA (decide (low ≤ n))) rfl rfl rfl ?_
 obtain ⟨J1, hJ1⟩ : ∃ J : St → Prop, ∀ st, J st ↔ (∃ (tm2 : Nat → AV) (cb2 : AE.Frame), st = ⟨tm2, ⟨cb2, out, glob⟩⟩ ∧ AllEq tm2 [(14, (bA ((decide (low ≤ n)) && (decide (n ≤ high)))))] ∧ AllEq cb2 []) := ⟨_, fun _ => Iff.rfl⟩
 refine WO_cut 5 J1 (fun st hst => ?_) ?_
 · obtain ⟨tm2, cb2, rfl, hT2, hC2⟩ := (hJ1 st).1 hst
   obtain ⟨tm2, rfl⟩ := allEq hT2
   obtain ⟨cb2, rfl⟩ := allEq hC2
   refine L (bA ((decide (low ≤ n)) && (decide (n ≤ high)))) rfl rfl rfl <| nl <| rt ?_
   obtain rfl := Option.some.inj hF0
   exact rd_leaf (.inr rfl) rfl (retV_pl _ _ (bA ((decide (low ≤ n)) && (decide (n ≤ high))))) rfl rfl
 · rcases bool_cases (decide (low ≤ n)) with hc1 | hc1
   · exact L (.bool true) rfl rfl (congrArg (fun b => some (AV.bool b, _)) hc1) <| L (iA n) rfl rfl rfl <| L (iA high) rfl rfl rfl <| L (bA (decide (n ≤ high))) rfl rfl rfl <| L (bA ((decide (low ≤ n)) && (decide (n ≤ high)))) rfl rfl (congrArg (fun b => some (AV.bool b, _)) (by rw [hc1]; rfl)) <| nl ((hJ1 _).2 ⟨_, _, rfl, (And.intro rfl True.intro), True.intro⟩)
   · exact L (.bool false) rfl rfl (congrArg (fun b => some (AV.bool b, _)) hc1) <| WO_no _ rfl rfl <| WO_no _ rfl rfl <| WO_no _ rfl rfl <| L (bA ((decide (low ≤ n)) && (decide (n ≤ high)))) rfl rfl (congrArg (fun b => some (AV.bool b, _)) (by rw [hc1]; rfl)) <| nl ((hJ1 _).2 ⟨_, _, rfl, (And.intro rfl True.intro), True.intro⟩)

theorem ok_gateref1_nameFault (s_ : Str) {r : (Int)} (hF0 : gateref1_nameFault s_ = some r) (out : List AE.Frame) (glob : List AObj) : RdOk Tryd.prog pol true 75 [(sA s_)] out glob (iA r) := by
 unfold gateref1_nameFault at hF0
 refine rd_walk Tryd.func75 rfl (Nat.not_lt.2 (Nat.le_of_ble_eq_true rfl)) ?_
 intro ro
 refine sq <| rg <| L (iA 0) rfl rfl rfl <| nl <| sq <| bk <| sq <| rg <| L (sA s_) rfl rfl rfl <| L (iA (s_.length : Int)) rfl rfl rfl <| L (bA (decide ((s_.length : Int) > 100))) rfl rfl rfl <| L (bA (decide ((s_.length : Int) > 100))) rfl rfl rfl <| nl <| cd (decide ((s_.length : Int) > 100)) rfl (fun hc2 => ?_) (fun hc2 => ?_)
 · replace hF0 := ite_t hF0 (dec_t hc2)
   refine sq <| rg <| L (iA 2) rfl rfl rfl <| nl <| rt ?_
   obtain rfl := Option.some.inj hF0
   exact rd_leaf (.inr rfl) rfl (retV_pl _ _ (iA 2)) rfl rfl
 · replace hF0 := ite_f hF0 (dec_f hc2)
   refine sq <| rg <| L (sA s_) rfl rfl rfl ?_
   obtain ⟨r9, h_r9, hF0⟩ := bind_some hF0
   refine L (bA r9) rfl rfl (op_lib _ rfl rfl rfl (x_valid_eq h_r9)) <| L (bA (!r9)) rfl rfl rfl <| L (bA (!r9)) rfl rfl rfl <| nl <| cd (!r9) rfl (fun hc1 => ?_) (fun hc1 => ?_)
   · replace hF0 := ite_t hF0 (hc1)
     refine sq <| rg <| L (iA 3) rfl rfl rfl <| nl <| rt ?_
     obtain rfl := Option.some.inj hF0
     exact rd_leaf (.inr rfl) rfl (retV_pl _ _ (iA 3)) rfl rfl
   · replace hF0 := ite_f hF0 (not_t hc1)
     refine sk <| sq <| rg <| L (iA 0) rfl rfl rfl <| nl <| rt ?_
     obtain rfl := Option.some.inj hF0
     exact rd_leaf (.inr rfl) rfl (retV_pl _ _ (iA 0)) rfl rfl

theorem ok_gateref1_namesFault (l : (Sl Str)) {r : (Int)} (hF0 : gateref1_namesFault l = some r) (out : List AE.Frame) (glob : List AObj) : RdOk Tryd.prog pol true 69 [(Sl.av 1 c_str l)] out glob (iA r) := by
 unfold gateref1_namesFault at hF0
 refine rd_walk Tryd.func69 rfl (Nat.not_lt.2 (Nat.le_of_ble_eq_true rfl)) ?_
 intro ro
 refine sq <| rg <| L (iA 0) rfl rfl rfl <| nl <| sq <| sq <| rg <| L (Sl.av 1 c_str l) rfl rfl rfl <| L (iA (l.list.length : Int)) rfl rfl (op_len rfl rfl rfl rfl rfl (len_sl _)) <| L (iA 0) rfl rfl rfl <| nl <| bk ?_
 obtain ⟨b1, hb8, hF0⟩ := bind_some hF0
 obtain ⟨hn8, hb8⟩ := ite_none hb8
 obtain ⟨J8, hJ8⟩ : ∃ J : St → Prop, ∀ st, J st ↔ (∃ (tm10 : Nat → AV) (cb10 : AE.Frame), st = ⟨tm10, ⟨cb10, out, glob⟩⟩ ∧ AllEq tm10 [] ∧ AllEq cb10 [] ∧ Res.out () = b1) := ⟨_, fun _ => Iff.rfl⟩
 obtain ⟨R8, hR8⟩ : ∃ R : Nat → (Unit) → St → Prop, ∀ i v st, R i v st ↔ (match v with | () => ∃ (tm9 : Nat → AV) (cb9 : AE.Frame), st = ⟨tm9, ⟨cb9, out, glob⟩⟩ ∧ AllEq tm9 [(0, (Sl.av 1 c_str l)), (6, (Sl.av 1 c_str l)), (7, (iA (l.list.length : Int))), (8, (iA ((i : Nat) : Int)))] ∧ AllEq cb9 []) := ⟨_, fun _ _ _ => Iff.rfl⟩
 refine W_loopcut J8 (fun st hst => ?_) ?_
 · obtain ⟨tm10, cb10, rfl, hT10, hC10, rfl⟩ := (hJ8 st).1 hst
   obtain ⟨tm10, rfl⟩ := allEq hT10
   obtain ⟨cb10, rfl⟩ := allEq hC10
   replace hF0 := res_out hF0
   refine sq <| rg <| L (iA 0) rfl rfl rfl <| nl <| rt ?_
   obtain rfl := Option.some.inj hF0
   exact rd_leaf (.inr rfl) rfl (retV_pl _ _ (iA 0)) rfl rfl
 · refine W_rangeL hb8 R8 ((hR8 _ _ _).2 ⟨_, _, rfl, (And.intro rfl (And.intro rfl (And.intro rfl (And.intro rfl True.intro)))), True.intro⟩) ?_ ?_
   · intro i hi8 v st s hr hF1 hD1
     obtain ⟨⟩ := v
     obtain ⟨tm9, cb9, rfl, hT9, hC9⟩ := (hR8 _ _ _).1 hr
     obtain ⟨tm9, rfl⟩ := allEq hT9
     obtain ⟨cb9, rfl⟩ := allEq hC9
     obtain ⟨s_, hx8⟩ : ∃ x, x = l.list[i] := ⟨_, rfl⟩
     rw [← hx8] at hF1
     dsimp only [gateref1_namesFault_l0] at hF1
     refine sq (rg ?_)
     refine WO_do (y := (bA (decide (((i : Nat) : Int) < (l.list.length : Int))))) _ rfl rfl rfl (nl ?_)
     refine sq <| cd true (congrArg some (range_lt hi8)) (fun _ => ?_) (fun h => absurd h (by decide))
     refine sk <| sq <| bk <| sq <| rg <| L (iA ((i : Nat) : Int)) rfl rfl rfl <| L (.cptr [(sA s_)]) rfl rfl (op_ix rfl ((ix_at (c := c_str) rfl rfl hi8).trans (congrArg (fun x => some (AV.cptr (c_str x))) hx8.symm))) <| L (sA s_) rfl rfl rfl <| L (iA ((i : Nat) : Int)) rfl rfl rfl <| L (sA s_) rfl rfl rfl <| nl <| sq <| sq <| rg <| L (sA s_) rfl rfl rfl ?_
     obtain ⟨f1, h12, hF1⟩ := bind_some hF1
     refine WO_rd (g := 75) (args := [(sA s_)]) (r := (iA f1)) _ _ rfl rfl rfl rfl rfl rfl rfl (ok_gateref1_nameFault _ h12 _ _ ) <| L (iA f1) rfl rfl rfl <| nl <| sq <| rg <| L (iA f1) rfl rfl rfl <| L (bA (f1 != 0)) rfl rfl rfl <| nl <| cd (f1 != 0) rfl (fun hc16 => ?_) (fun hc16 => ?_)
     · replace hF1 := ite_t hF1 (bne_t hc16)
       refine sq <| rg <| L (iA f1) rfl rfl rfl <| L (iA f1) rfl rfl rfl <| nl <| rt ?_
       obtain rfl := hD1 _ (Option.some.inj hF1).symm
       replace hF0 := res_ret hF0
       obtain rfl := Option.some.inj hF0
       exact rd_leaf (.inr rfl) rfl (retV_pl _ _ (iA f1)) rfl rfl
     · replace hF1 := ite_f hF1 (bne_f hc16)
       refine sk <| sq <| rg <| L (iA ((i : Nat) : Int)) rfl rfl rfl <| L (bA (decide (((i : Nat) : Int) > 0))) rfl rfl rfl ?_
       obtain ⟨y13, hF2, hF1⟩ := bind_some hF1
       obtain ⟨J13, hJ13⟩ : ∃ J : St → Prop, ∀ st, J st ↔ (∃ (t281 : Bool) (tm14 : Nat → AV) (cb14 : AE.Frame), st = ⟨tm14, ⟨cb14, out, glob⟩⟩ ∧ AllEq tm14 [(0, (Sl.av 1 c_str l)), (6, (Sl.av 1 c_str l)), (7, (iA (l.list.length : Int))), (8, (iA ((i : Nat) : Int))), (28, (bA t281))] ∧ AllEq cb14 [] ∧ t281 = y13) := ⟨_, fun _ => Iff.rfl⟩
       refine WO_cut 9 J13 (fun st hst => ?_) ?_
       · obtain ⟨t281, tm14, cb14, rfl, hT14, hC14, rfl⟩ := (hJ13 st).1 hst
         obtain ⟨tm14, rfl⟩ := allEq hT14
         obtain ⟨cb14, rfl⟩ := allEq hC14
         refine nl <| cd t281 rfl (fun hc15 => ?_) (fun hc15 => ?_)
         · replace hF1 := ite_t hF1 (hc15)
           refine sq <| rg <| L (iA 7) rfl rfl rfl <| nl <| rt ?_
           obtain rfl := hD1 _ (Option.some.inj hF1).symm
           replace hF0 := res_ret hF0
           obtain rfl := Option.some.inj hF0
           exact rd_leaf (.inr rfl) rfl (retV_pl _ _ (iA 7)) rfl rfl
         · replace hF1 := ite_f hF1 (not_t hc15)
           exact sk <| rg <| WO_do (y := (iA ((i + 1 : Nat) : Int))) _ rfl rfl (congrArg (fun n => some (AV.int .i64 n, _)) (range_len hi8 hn8)) <| WO_do (y := (iA ((i + 1 : Nat) : Int))) _ rfl rfl rfl <| nl <| Exists.intro _ (And.intro (Option.some.inj hF1).symm ((hR8 _ _ _).2 ⟨_, _, rfl, (And.intro rfl (And.intro rfl (And.intro rfl (And.intro rfl True.intro)))), True.intro⟩))
       · rcases bool_cases (decide (((i : Nat) : Int) > 0)) with hc13 | hc13
         · replace hF2 := ite_t hF2 (dec_t hc13)
           refine L (.bool true) rfl rfl (congrArg (fun b => some (AV.bool b, _)) hc13) <| L (sA s_) rfl rfl rfl <| L (Sl.av 1 c_str l) rfl rfl rfl <| L (iA ((i : Nat) : Int)) rfl rfl rfl <| L (iA (w64 (((i : Nat) : Int) - 1))) rfl rfl rfl ?_
           obtain ⟨x4, h_x4, hF2⟩ := bind_some hF2
           exact L (.cptr [(sA x4)]) rfl rfl (op_ix rfl (ix_sl (c := c_str) rfl rfl h_x4)) <| L (sA x4) rfl rfl rfl <| L (bA (sle s_ x4)) rfl rfl (op_bin rfl bin_sle) <| L (bA (sle s_ x4)) rfl rfl rfl <| nl ((hJ13 _).2 ⟨sle s_ x4, _, _, rfl, (And.intro rfl (And.intro rfl (And.intro rfl (And.intro rfl (And.intro rfl True.intro))))), True.intro, Option.some.inj hF2⟩)
         · replace hF2 := ite_f hF2 (dec_f hc13)
           exact L (.bool false) rfl rfl (congrArg (fun b => some (AV.bool b, _)) hc13) <| WO_no _ rfl rfl <| WO_no _ rfl rfl <| WO_no _ rfl rfl <| WO_no _ rfl rfl <| WO_no _ rfl rfl <| WO_no _ rfl rfl <| WO_no _ rfl rfl <| L (bA false) rfl rfl rfl <| nl ((hJ13 _).2 ⟨false, _, _, rfl, (And.intro rfl (And.intro rfl (And.intro rfl (And.intro rfl (And.intro rfl True.intro))))), True.intro, Option.some.inj hF2⟩)
   · intro v st hr hD1
     obtain ⟨⟩ := v
     obtain ⟨tm9, cb9, rfl, hT9, hC9⟩ := (hR8 _ _ _).1 hr
     obtain ⟨tm9, rfl⟩ := allEq hT9
     obtain ⟨cb9, rfl⟩ := allEq hC9
     refine sq (rg ?_)
     refine WO_do (y := .bool false) _ rfl rfl (congrArg (fun b => some (AV.bool b, _)) (range_ge _)) (nl ?_)
     refine sq <| cd false rfl (fun h => absurd h (by decide)) (fun _ => ?_)
     exact xt <| (hJ8 _).2 ⟨_, _, rfl, True.intro, True.intro, hD1⟩

theorem ok_gateref1_ownFault (v_ : api_Value) {r : (Int)} (hF0 : gateref1_ownFault v_ = some r) (out : List AE.Frame) (glob : List AObj) : RdOk Tryd.prog pol true 52 [(.agg (c_api_Value v_))] out glob (iA r) := by
 unfold gateref1_ownFault at hF0
 refine rd_walk Tryd.func52 rfl (Nat.not_lt.2 (Nat.le_of_ble_eq_true rfl)) ?_
 intro ro
 refine sq <| rg <| L (.ptr (.fr 0 1) 1 0) (h' := ⟨upd _ 1 ⟨1, .cells (c_api_Value v_)⟩, _, _⟩) rfl rfl (op_box (x' := (.agg (c_api_Value v_))) rfl rfl rfl rfl) <| L (iA 0) rfl rfl rfl <| nl <| sq <| sq <| rg <| L (.ptr (.fr 0 1) 1 0) rfl rfl rfl <| L (iA v_.Kind) rfl rfl (op_load rfl (ld_con (iA v_.Kind) rfl rfl (cs := (c_api_Value v_)) (con_fr rfl) (by simp only [e_api_Value]; rfl))) ?_
 obtain ⟨r11, h1, hF0⟩ := bind_some hF0
 refine WO_rd (g := 68) (args := [(iA v_.Kind), (iA 0), (iA 5)]) (r := (bA r11)) _ _ rfl rfl rfl rfl rfl rfl rfl (ok_gateref1_in _ _ _ h1 _ _ ) <| L (bA (!r11)) rfl rfl rfl <| nl <| cd (!r11) rfl (fun hc34 => ?_) (fun hc34 => ?_)
 · replace hF0 := ite_t hF0 (hc34)
   refine sq <| rg <| L (iA 4) rfl rfl rfl <| nl <| rt ?_
   obtain rfl := Option.some.inj hF0
   exact rd_leaf (.inr rfl) rfl (retV_pl _ _ (iA 4)) rfl rfl
 · replace hF0 := ite_f hF0 (not_t hc34)
   refine sk <| sq <| rg <| L (.ptr (.fr 0 1) 1 1) rfl rfl rfl <| L (bA v_.Flag) rfl rfl (op_load rfl (ld_con (bA v_.Flag) rfl rfl (cs := (c_api_Value v_)) (con_fr rfl) (by simp only [e_api_Value]; rfl))) <| L (.ptr (.fr 0 1) 1 2) rfl rfl rfl <| L (iA v_.Number) rfl rfl (op_load rfl (ld_con (iA v_.Number) rfl rfl (cs := (c_api_Value v_)) (con_fr rfl) (by simp only [e_api_Value]; rfl))) <| L (bA (v_.Number != 0)) rfl rfl rfl <| L (.ptr (.fr 0 1) 1 3) rfl rfl rfl <| L (sA v_.Words) rfl rfl (op_load rfl (ld_con (sA v_.Words) rfl rfl (cs := (c_api_Value v_)) (con_fr rfl) (by simp only [e_api_Value]; rfl))) <| L (bA (v_.Words != [])) rfl rfl (op_bin rfl bin_sne) <| L (.ptr (.fr 0 1) 1 4) rfl rfl rfl <| L (Sl.av 6 c_api_Value v_.List) rfl rfl (op_load rfl (ld_con (Sl.av 6 c_api_Value v_.List) rfl rfl (cs := (c_api_Value v_)) (con_fr rfl) (by simp only [e_api_Value]; rfl))) <| L (iA (v_.List.list.length : Int)) rfl rfl (op_len rfl rfl rfl rfl rfl (len_sl _)) <| L (bA (decide ((v_.List.list.length : Int) > 0))) rfl rfl rfl <| L (.ptr (.fr 0 1) 1 5) rfl rfl rfl <| L (Sl.av 7 c_api_Member v_.Members) rfl rfl (op_load rfl (ld_con (Sl.av 7 c_api_Member v_.Members) rfl rfl (cs := (c_api_Value v_)) (con_fr rfl) (by simp only [e_api_Value]; rfl))) <| L (iA (v_.Members.list.length : Int)) rfl rfl (op_len rfl rfl rfl rfl rfl (len_sl _)) <| L (bA (decide ((v_.Members.list.length : Int) > 0))) rfl rfl rfl <| L (Sl.av 1 c_bool (Sl.full [v_.Flag, v_.Number != 0, v_.Words != [], decide ((v_.List.list.length : Int) > 0), decide ((v_.Members.list.length : Int) > 0)] : Sl Bool)) rfl rfl (op_sliceN rfl rfl rfl) <| L (Sl.av 1 c_bool (Sl.full [v_.Flag, v_.Number != 0, v_.Words != [], decide ((v_.List.list.length : Int) > 0), decide ((v_.Members.list.length : Int) > 0)] : Sl Bool)) rfl rfl rfl <| nl <| sq <| sq <| rg <| L (Sl.av 1 c_bool (Sl.full [v_.Flag, v_.Number != 0, v_.Words != [], decide ((v_.List.list.length : Int) > 0), decide ((v_.Members.list.length : Int) > 0)] : Sl Bool)) rfl rfl rfl ?_
   refine L (iA ((Sl.full [v_.Flag, v_.Number != 0, v_.Words != [], decide ((v_.List.list.length : Int) > 0), decide ((v_.Members.list.length : Int) > 0)] : Sl Bool).list.length : Int)) rfl rfl (op_len rfl rfl rfl rfl rfl rfl) <| L (iA 0) rfl rfl rfl <| nl <| bk ?_
   obtain ⟨b1, hb7, hF0⟩ := bind_some hF0
   obtain ⟨hn7, hb7⟩ := ite_none hb7
   obtain ⟨J7, hJ7⟩ : ∃ J : St → Prop, ∀ st, J st ↔ (∃ (tm9 : Nat → AV) (cb9 : AE.Frame), st = ⟨tm9, ⟨cb9, out, glob⟩⟩ ∧ AllEq tm9 [(1, (.ptr (.fr 0 1) 1 0))] ∧ AllEq cb9 [(1, ⟨1, .cells (c_api_Value v_)⟩)] ∧ Res.out () = b1) := ⟨_, fun _ => Iff.rfl⟩
   obtain ⟨R7, hR7⟩ : ∃ R : Nat → (Unit) → St → Prop, ∀ i v st, R i v st ↔ (match v with | () => ∃ (tm8 : Nat → AV) (cb8 : AE.Frame), st = ⟨tm8, ⟨cb8, out, glob⟩⟩ ∧ AllEq tm8 [(1, (.ptr (.fr 0 1) 1 0)), (30, (Sl.av 1 c_bool (Sl.full [v_.Flag, v_.Number != 0, v_.Words != [], decide ((v_.List.list.length : Int) > 0), decide ((v_.Members.list.length : Int) > 0)] : Sl Bool))), (31, (iA ((Sl.full [v_.Flag, v_.Number != 0, v_.Words != [], decide ((v_.List.list.length : Int) > 0), decide ((v_.Members.list.length : Int) > 0)] : Sl Bool).list.length : Int))), (32, (iA ((i : Nat) : Int)))] ∧ AllEq cb8 [(1, ⟨1, .cells (c_api_Value v_)⟩)]) := ⟨_, fun _ _ _ => Iff.rfl⟩
   refine W_loopcut J7 (fun st hst => ?_) ?_
   · obtain ⟨tm9, cb9, rfl, hT9, hC9, rfl⟩ := (hJ7 st).1 hst
     obtain ⟨tm9, rfl⟩ := allEq hT9
     obtain ⟨cb9, rfl⟩ := allEq hC9
     replace hF0 := res_out hF0
     refine sq <| bk <| sq <| rg <| L (.ptr (.fr 0 1) 1 2) rfl rfl rfl <| L (iA v_.Number) rfl rfl (op_load rfl (ld_con (iA v_.Number) rfl rfl (cs := (c_api_Value v_)) (con_fr rfl) (by simp only [e_api_Value]; rfl))) ?_
     obtain ⟨r49, h14, hF0⟩ := bind_some hF0
     refine WO_rd (g := 68) (args := [(iA v_.Number), (iA (-1000000000000000)), (iA 1000000000000000)]) (r := (bA r49)) _ _ rfl rfl rfl rfl rfl rfl rfl (ok_gateref1_in _ _ _ h14 _ _ ) <| L (bA (!r49)) rfl rfl rfl <| L (bA (!r49)) rfl rfl rfl <| nl <| cd (!r49) rfl (fun hc33 => ?_) (fun hc33 => ?_)
     · replace hF0 := ite_t hF0 (hc33)
       refine sq <| rg <| L (iA 1) rfl rfl rfl <| nl <| rt ?_
       obtain rfl := Option.some.inj hF0
       exact rd_leaf (.inr rfl) rfl (retV_pl _ _ (iA 1)) rfl rfl
     · replace hF0 := ite_f hF0 (not_t hc33)
       refine sq <| rg <| L (.ptr (.fr 0 1) 1 3) rfl rfl rfl <| L (sA v_.Words) rfl rfl (op_load rfl (ld_con (sA v_.Words) rfl rfl (cs := (c_api_Value v_)) (con_fr rfl) (by simp only [e_api_Value]; rfl))) <| L (iA (v_.Words.length : Int)) rfl rfl rfl <| L (bA (decide ((v_.Words.length : Int) > 5000))) rfl rfl rfl <| L (bA (decide ((v_.Words.length : Int) > 5000))) rfl rfl rfl <| nl <| cd (decide ((v_.Words.length : Int) > 5000)) rfl (fun hc32 => ?_) (fun hc32 => ?_)
       · replace hF0 := ite_t hF0 (dec_t hc32)
         refine sq <| rg <| L (iA 2) rfl rfl rfl <| nl <| rt ?_
         obtain rfl := Option.some.inj hF0
         exact rd_leaf (.inr rfl) rfl (retV_pl _ _ (iA 2)) rfl rfl
       · replace hF0 := ite_f hF0 (dec_f hc32)
         refine sq <| rg <| L (.ptr (.fr 0 1) 1 3) rfl rfl rfl <| L (sA v_.Words) rfl rfl (op_load rfl (ld_con (sA v_.Words) rfl rfl (cs := (c_api_Value v_)) (con_fr rfl) (by simp only [e_api_Value]; rfl))) ?_
         obtain ⟨r59, h_r59, hF0⟩ := bind_some hF0
         refine L (bA r59) rfl rfl (op_lib _ rfl rfl rfl (x_valid_eq h_r59)) <| L (bA (!r59)) rfl rfl rfl <| L (bA (!r59)) rfl rfl rfl <| nl <| cd (!r59) rfl (fun hc31 => ?_) (fun hc31 => ?_)
         · replace hF0 := ite_t hF0 (hc31)
           refine sq <| rg <| L (iA 3) rfl rfl rfl <| nl <| rt ?_
           obtain rfl := Option.some.inj hF0
           exact rd_leaf (.inr rfl) rfl (retV_pl _ _ (iA 3)) rfl rfl
         · replace hF0 := ite_f hF0 (not_t hc31)
           refine sk <| sq <| rg <| L (Sl.av 1 c_str Sl.nil) rfl rfl rfl <| nl <| sq <| sq <| rg <| L (.ptr (.fr 0 1) 1 5) rfl rfl rfl <| L (Sl.av 7 c_api_Member v_.Members) rfl rfl (op_load rfl (ld_con (Sl.av 7 c_api_Member v_.Members) rfl rfl (cs := (c_api_Value v_)) (con_fr rfl) (by simp only [e_api_Value]; rfl))) <| L (iA (v_.Members.list.length : Int)) rfl rfl (op_len rfl rfl rfl rfl rfl (len_sl _)) <| L (iA 0) rfl rfl rfl <| nl <| bk ?_
           obtain ⟨b1, hb24, hF0⟩ := bind_some hF0
           obtain ⟨hn24, hb24⟩ := ite_none hb24
           obtain ⟨J24, hJ24⟩ : ∃ J : St → Prop, ∀ st, J st ↔ (∃ (names6 : (Sl Str)) (o50066 : AObj) (tm26 : Nat → AV) (cb26 : AE.Frame), st = ⟨tm26, ⟨cb26, out, glob⟩⟩ ∧ AllEq tm26 [(6, (Sl.lav (.fr 0 5006) o50066.ver names6))] ∧ AllEq cb26 [(5006, o50066)] ∧ LzF 1 c_str o50066 names6 ∧ names6 = b1) := ⟨_, fun _ => Iff.rfl⟩
           obtain ⟨R24, hR24⟩ : ∃ R : Nat → ((Sl Str)) → St → Prop, ∀ i1 v st, R i1 v st ↔ (match v with | names5 => ∃ (o50065 : AObj) (tm25 : Nat → AV) (cb25 : AE.Frame), st = ⟨tm25, ⟨cb25, out, glob⟩⟩ ∧ AllEq tm25 [(6, (Sl.lav (.fr 0 5006) o50065.ver names5)), (62, (Sl.av 7 c_api_Member v_.Members)), (63, (iA (v_.Members.list.length : Int))), (64, (iA ((i1 : Nat) : Int)))] ∧ AllEq cb25 [(5006, o50065)] ∧ LzF 1 c_str o50065 names5) := ⟨_, fun _ _ _ => Iff.rfl⟩
           refine W_loopcut J24 (fun st hst => ?_) ?_
           · obtain ⟨names6, o50066, tm26, cb26, rfl, hT26, hC26, hz26_0, rfl⟩ := (hJ24 st).1 hst
             obtain ⟨tm26, rfl⟩ := allEq hT26
             obtain ⟨cb26, rfl⟩ := allEq hC26
             refine sq <| rg <| WO_lzfrz (s := 5006) (n := 1) (c := c_str) (x := names6) (o := o50066) _ rfl rfl rfl rfl rfl rfl rfl (.inl hz26_0) (fun o50068 hz_29 hv29 => ?_)
             rw [← hv29]
             obtain ⟨r2, h30, hF0⟩ := bind_some hF0
             refine WO_rd (g := 69) (args := [(Sl.av 1 c_str names6)]) (r := (iA r2)) _ _ rfl rfl rfl rfl rfl rfl rfl (ok_gateref1_namesFault _ h30 _ _ ) <| L (iA r2) rfl rfl rfl <| nl <| rt ?_
             obtain rfl := Option.some.inj hF0
             exact rd_leaf (.inr rfl) rfl (retV_pl _ _ (iA r2)) rfl rfl
           · refine W_rangeL hb24 R24 ((hR24 _ _ _).2 ⟨(cb9 5006), _, _, rfl, (And.intro rfl (And.intro rfl (And.intro rfl (And.intro rfl True.intro)))), (And.intro rfl True.intro), True.intro⟩) ?_ ?_
             · intro i1 hi24 v st s hr hF1 hD1
               obtain ⟨names5, hv_⟩ : ∃ z, z = v := ⟨_, rfl⟩; subst hv_
               obtain ⟨o50065, tm25, cb25, rfl, hT25, hC25, hz25_0⟩ := (hR24 _ _ _).1 hr
               obtain ⟨tm25, rfl⟩ := allEq hT25
               obtain ⟨cb25, rfl⟩ := allEq hC25
               obtain ⟨x4, hx24⟩ : ∃ x, x = v_.Members.list[i1] := ⟨_, rfl⟩
               rw [← hx24] at hF1
               dsimp only [gateref1_ownFault_l1] at hF1
               refine sq (rg ?_)
               refine WO_do (y := (bA (decide (((i1 : Nat) : Int) < (v_.Members.list.length : Int))))) _ rfl rfl rfl (nl ?_)
               refine sq <| cd true (congrArg some (range_lt hi24)) (fun _ => ?_) (fun h => absurd h (by decide))
               refine sk <| sq <| bk <| sq <| rg <| L (.cptr (c_api_Member x4)) rfl rfl (op_ix rfl ((ix_at (c := c_api_Member) rfl rfl hi24).trans (congrArg (fun x => some (AV.cptr (c_api_Member x))) hx24.symm))) <| L (.agg (c_api_Member x4)) rfl rfl (op_load rfl (ld_cel rfl rfl (by simp only [e_api_Member, e_api_Value]; rfl))) <| L (.ptr (.fr 0 8) ((cb25 8).ver + 1) 0) (h' := ⟨upd _ 8 ⟨(cb25 8).ver + 1, .cells (c_api_Member (api_Member.mk [] (api_Value.mk 0 false 0 [] Sl.nil Sl.nil)))⟩, _, _⟩) rfl rfl (op_alloc (c_api_Member (api_Member.mk [] (api_Value.mk 0 false 0 [] Sl.nil Sl.nil))) rfl rfl rfl (by simp only [e_api_Member, e_api_Value]; rfl)) <| L (.tup []) (h' := ⟨upd _ 8 ⟨(cb25 8).ver + 1, .cells (c_api_Member x4)⟩, _, _⟩) rfl rfl (op_store rfl rfl (st_fr (x := (.agg (c_api_Member x4))) (cs := (c_api_Member (api_Member.mk [] (api_Value.mk 0 false 0 [] Sl.nil Sl.nil)))) (c_api_Member x4) (by simp only [e_api_Member, e_api_Value]; rfl) rfl (by simp only [e_api_Member, e_api_Value]; exact Nat.le_of_ble_eq_true rfl) (by simp only [e_api_Member, e_api_Value]; rfl))) <| nl <| rg <| L (Sl.lav (.fr 0 5006) o50065.ver names5) rfl rfl rfl <| L (.ptr (.fr 0 8) ((cb25 8).ver + 1) 0) rfl rfl rfl <| L (sA x4.Name) rfl rfl (op_load rfl (ld_con (sA x4.Name) rfl rfl (cs := (c_api_Member x4)) (con_fr rfl) (by simp only [e_api_Member, e_api_Value]; rfl))) <| L (Sl.av 1 c_str (Sl.full [x4.Name] : Sl Str)) rfl rfl (op_sliceN rfl rfl rfl) ?_
               obtain ⟨names7, h_names7, hF1⟩ := bind_some hF1
               refine WO_lzapp (s := 5006) (x := names5) (x' := names7) (o := o50065) (n := 1) (c := c_str) (xs := [x4.Name]) (y := (Sl.av 1 c_str (Sl.full [x4.Name] : Sl Str))) _ rfl rfl rfl rfl rfl rfl rfl rfl rfl rfl rfl rfl (z := [(sA [])]) rfl rfl rfl rfl rfl (by decide) (fun _ => rfl) rfl rfl rfl hz25_0 h_names7 (fun o50067 hz_28 => ?_)
               exact L (Sl.lav (.fr 0 5006) o50067.ver names7) rfl rfl rfl <| nl <| rg <| WO_do (y := (iA ((i1 + 1 : Nat) : Int))) _ rfl rfl (congrArg (fun n => some (AV.int .i64 n, _)) (range_len hi24 hn24)) <| WO_do (y := (iA ((i1 + 1 : Nat) : Int))) _ rfl rfl rfl <| nl <| Exists.intro _ (And.intro (Option.some.inj hF1).symm ((hR24 _ _ _).2 ⟨o50067, _, _, rfl, (And.intro rfl (And.intro rfl (And.intro rfl (And.intro rfl True.intro)))), (And.intro rfl True.intro), hz_28⟩))
             · intro v st hr hD1
               obtain ⟨names5, hv_⟩ : ∃ z, z = v := ⟨_, rfl⟩; subst hv_
               obtain ⟨o50065, tm25, cb25, rfl, hT25, hC25, hz25_0⟩ := (hR24 _ _ _).1 hr
               obtain ⟨tm25, rfl⟩ := allEq hT25
               obtain ⟨cb25, rfl⟩ := allEq hC25
               refine sq (rg ?_)
               refine WO_do (y := .bool false) _ rfl rfl (congrArg (fun b => some (AV.bool b, _)) (range_ge _)) (nl ?_)
               refine sq <| cd false rfl (fun h => absurd h (by decide)) (fun _ => ?_)
               exact xt <| (hJ24 _).2 ⟨names5, o50065, _, _, rfl, (And.intro rfl True.intro), (And.intro rfl True.intro), hz25_0, hD1⟩
   · refine W_rangeL hb7 R7 ((hR7 _ _ _).2 ⟨_, _, rfl, (And.intro rfl (And.intro rfl (And.intro rfl (And.intro rfl True.intro)))), (And.intro rfl True.intro)⟩) ?_ ?_
     · intro i hi7 v st s hr hF1 hD1
       obtain ⟨⟩ := v
       obtain ⟨tm8, cb8, rfl, hT8, hC8⟩ := (hR7 _ _ _).1 hr
       obtain ⟨tm8, rfl⟩ := allEq hT8
       obtain ⟨cb8, rfl⟩ := allEq hC8
       obtain ⟨is, hx7⟩ : ∃ x, x = (Sl.full [v_.Flag, v_.Number != 0, v_.Words != [], decide ((v_.List.list.length : Int) > 0), decide ((v_.Members.list.length : Int) > 0)] : Sl Bool).list[i] := ⟨_, rfl⟩
       rw [← hx7] at hF1
       dsimp only [gateref1_ownFault_l0] at hF1
       refine sq (rg ?_)
       refine WO_do (y := (bA (decide (((i : Nat) : Int) < ((Sl.full [v_.Flag, v_.Number != 0, v_.Words != [], decide ((v_.List.list.length : Int) > 0), decide ((v_.Members.list.length : Int) > 0)] : Sl Bool).list.length : Int))))) _ rfl rfl rfl (nl ?_)
       refine sq <| cd true (congrArg some (range_lt hi7)) (fun _ => ?_) (fun h => absurd h (by decide))
       refine sk <| sq <| bk <| sq <| rg <| L (iA ((i : Nat) : Int)) rfl rfl rfl <| L (.cptr [(bA is)]) rfl rfl (op_ix rfl ((ix_at (c := c_bool) rfl rfl hi7).trans (congrArg (fun x => some (AV.cptr (c_bool x))) hx7.symm))) <| L (bA is) rfl rfl rfl <| L (iA ((i : Nat) : Int)) rfl rfl rfl <| L (bA is) rfl rfl rfl <| nl <| sq <| rg <| L (bA is) rfl rfl rfl ?_
       obtain ⟨J11, hJ11⟩ : ∃ J : St → Prop, ∀ st, J st ↔ (∃ (tm12 : Nat → AV) (cb12 : AE.Frame), st = ⟨tm12, ⟨cb12, out, glob⟩⟩ ∧ AllEq tm12 [(1, (.ptr (.fr 0 1) 1 0)), (30, (Sl.av 1 c_bool (Sl.full [v_.Flag, v_.Number != 0, v_.Words != [], decide ((v_.List.list.length : Int) > 0), decide ((v_.Members.list.length : Int) > 0)] : Sl Bool))), (31, (iA ((Sl.full [v_.Flag, v_.Number != 0, v_.Words != [], decide ((v_.List.list.length : Int) > 0), decide ((v_.Members.list.length : Int) > 0)] : Sl Bool).list.length : Int))), (32, (iA ((i : Nat) : Int))), (44, (bA (is && (v_.Kind != (w64 (((i : Nat) : Int) + 1))))))] ∧ AllEq cb12 [(1, ⟨1, .cells (c_api_Value v_)⟩)]) := ⟨_, fun _ => Iff.rfl⟩
       refine WO_cut 7 J11 (fun st hst => ?_) ?_
       · obtain ⟨tm12, cb12, rfl, hT12, hC12⟩ := (hJ11 st).1 hst
         obtain ⟨tm12, rfl⟩ := allEq hT12
         obtain ⟨cb12, rfl⟩ := allEq hC12
         refine nl <| cd (is && (v_.Kind != (w64 (((i : Nat) : Int) + 1)))) rfl (fun hc13 => ?_) (fun hc13 => ?_)
         · replace hF1 := ite_t hF1 (hc13)
           refine sq <| rg <| L (iA 3) rfl rfl rfl <| nl <| rt ?_
           obtain rfl := hD1 _ (Option.some.inj hF1).symm
           replace hF0 := res_ret hF0
           obtain rfl := Option.some.inj hF0
           exact rd_leaf (.inr rfl) rfl (retV_pl _ _ (iA 3)) rfl rfl
         · replace hF1 := ite_f hF1 (not_t hc13)
           exact sk <| rg <| WO_do (y := (iA ((i + 1 : Nat) : Int))) _ rfl rfl (congrArg (fun n => some (AV.int .i64 n, _)) (range_len hi7 hn7)) <| WO_do (y := (iA ((i + 1 : Nat) : Int))) _ rfl rfl rfl <| nl <| Exists.intro _ (And.intro (Option.some.inj hF1).symm ((hR7 _ _ _).2 ⟨_, _, rfl, (And.intro rfl (And.intro rfl (And.intro rfl (And.intro rfl True.intro)))), (And.intro rfl True.intro)⟩))
       · rcases bool_cases is with hc11 | hc11
         · exact L (.bool true) rfl rfl (congrArg (fun b => some (AV.bool b, _)) hc11) <| L (.ptr (.fr 0 1) 1 0) rfl rfl rfl <| L (iA v_.Kind) rfl rfl (op_load rfl (ld_con (iA v_.Kind) rfl rfl (cs := (c_api_Value v_)) (con_fr rfl) (by simp only [e_api_Value]; rfl))) <| L (iA ((i : Nat) : Int)) rfl rfl rfl <| L (iA (w64 (((i : Nat) : Int) + 1))) rfl rfl rfl <| L (bA (v_.Kind != (w64 (((i : Nat) : Int) + 1)))) rfl rfl rfl <| L (bA (is && (v_.Kind != (w64 (((i : Nat) : Int) + 1))))) rfl rfl (congrArg (fun b => some (AV.bool b, _)) (by rw [hc11]; rfl)) <| nl ((hJ11 _).2 ⟨_, _, rfl, (And.intro rfl (And.intro rfl (And.intro rfl (And.intro rfl (And.intro rfl True.intro))))), (And.intro rfl True.intro)⟩)
         · exact L (.bool false) rfl rfl (congrArg (fun b => some (AV.bool b, _)) hc11) <| WO_no _ rfl rfl <| WO_no _ rfl rfl <| WO_no _ rfl rfl <| WO_no _ rfl rfl <| WO_no _ rfl rfl <| L (bA (is && (v_.Kind != (w64 (((i : Nat) : Int) + 1))))) rfl rfl (congrArg (fun b => some (AV.bool b, _)) (by rw [hc11]; rfl)) <| nl ((hJ11 _).2 ⟨_, _, rfl, (And.intro rfl (And.intro rfl (And.intro rfl (And.intro rfl (And.intro rfl True.intro))))), (And.intro rfl True.intro)⟩)
     · intro v st hr hD1
       obtain ⟨⟩ := v
       obtain ⟨tm8, cb8, rfl, hT8, hC8⟩ := (hR7 _ _ _).1 hr
       obtain ⟨tm8, rfl⟩ := allEq hT8
       obtain ⟨cb8, rfl⟩ := allEq hC8
       refine sq (rg ?_)
       refine WO_do (y := .bool false) _ rfl rfl (congrArg (fun b => some (AV.bool b, _)) (range_ge _)) (nl ?_)
       refine sq <| cd false rfl (fun h => absurd h (by decide)) (fun _ => ?_)
       exact xt <| (hJ7 _).2 ⟨_, _, rfl, (And.intro rfl True.intro), (And.intro rfl True.intro), hD1⟩

theorem ok_cmp_Or_api_Errno (vals : (Sl Int)) {r : (Int)} (hF0 : cmp_Or_api_Errno vals = some r) (out : List AE.Frame) (glob : List AObj) : RdOk Tryd.prog pol true 12 [(Sl.av 1 c_i64 vals)] out glob (iA r) := by
 unfold cmp_Or_api_Errno at hF0
 refine rd_walk Tryd.func12 rfl (Nat.not_lt.2 (Nat.le_of_ble_eq_true rfl)) ?_
 intro ro
 refine sq <| rg <| L (iA 0) rfl rfl rfl <| nl <| sq <| rg <| L (iA 0) rfl rfl rfl <| nl <| sq <| sq <| rg <| L (Sl.av 1 c_i64 vals) rfl rfl rfl <| L (iA (vals.list.length : Int)) rfl rfl (op_len rfl rfl rfl rfl rfl (len_sl _)) <| L (iA 0) rfl rfl rfl <| nl <| bk ?_
 obtain ⟨b1, hb4, hF0⟩ := bind_some hF0
 obtain ⟨hn4, hb4⟩ := ite_none hb4
 obtain ⟨J4, hJ4⟩ : ∃ J : St → Prop, ∀ st, J st ↔ (∃ (tm6 : Nat → AV) (cb6 : AE.Frame), st = ⟨tm6, ⟨cb6, out, glob⟩⟩ ∧ AllEq tm6 [(3, (iA 0))] ∧ AllEq cb6 [] ∧ Res.out () = b1) := ⟨_, fun _ => Iff.rfl⟩
 obtain ⟨R4, hR4⟩ : ∃ R : Nat → (Unit) → St → Prop, ∀ i v st, R i v st ↔ (match v with | () => ∃ (tm5 : Nat → AV) (cb5 : AE.Frame), st = ⟨tm5, ⟨cb5, out, glob⟩⟩ ∧ AllEq tm5 [(3, (iA 0)), (6, (Sl.av 1 c_i64 vals)), (7, (iA (vals.list.length : Int))), (8, (iA ((i : Nat) : Int)))] ∧ AllEq cb5 []) := ⟨_, fun _ _ _ => Iff.rfl⟩
 refine W_loopcut J4 (fun st hst => ?_) ?_
 · obtain ⟨tm6, cb6, rfl, hT6, hC6, rfl⟩ := (hJ4 st).1 hst
   obtain ⟨tm6, rfl⟩ := allEq hT6
   obtain ⟨cb6, rfl⟩ := allEq hC6
   replace hF0 := res_out hF0
   refine sq <| rg <| L (iA 0) rfl rfl rfl <| L (iA 0) rfl rfl rfl <| nl <| rt ?_
   obtain rfl := Option.some.inj hF0
   exact rd_leaf (.inr rfl) rfl (retV_pl _ _ (iA 0)) rfl rfl
 · refine W_rangeL hb4 R4 ((hR4 _ _ _).2 ⟨_, _, rfl, (And.intro rfl (And.intro rfl (And.intro rfl (And.intro rfl True.intro)))), True.intro⟩) ?_ ?_
   · intro i hi4 v st s hr hF1 hD1
     obtain ⟨⟩ := v
     obtain ⟨tm5, cb5, rfl, hT5, hC5⟩ := (hR4 _ _ _).1 hr
     obtain ⟨tm5, rfl⟩ := allEq hT5
     obtain ⟨cb5, rfl⟩ := allEq hC5
     obtain ⟨val, hx4⟩ : ∃ x, x = vals.list[i] := ⟨_, rfl⟩
     rw [← hx4] at hF1
     dsimp only [cmp_Or_api_Errno_l0] at hF1
     refine sq (rg ?_)
     refine WO_do (y := (bA (decide (((i : Nat) : Int) < (vals.list.length : Int))))) _ rfl rfl rfl (nl ?_)
     refine sq <| cd true (congrArg some (range_lt hi4)) (fun _ => ?_) (fun h => absurd h (by decide))
     refine sk <| sq <| bk <| sq <| rg <| L (.cptr [(iA val)]) rfl rfl (op_ix rfl ((ix_at (c := c_i64) rfl rfl hi4).trans (congrArg (fun x => some (AV.cptr (c_i64 x))) hx4.symm))) <| L (iA val) rfl rfl rfl <| L (iA val) rfl rfl rfl <| nl <| sq <| rg <| L (iA val) rfl rfl rfl <| L (iA 0) rfl rfl rfl <| L (bA (val != 0)) rfl rfl rfl <| nl <| cd (val != 0) rfl (fun hc8 => ?_) (fun hc8 => ?_)
     · replace hF1 := ite_t hF1 (bne_t hc8)
       refine sq <| rg <| L (iA val) rfl rfl rfl <| L (iA val) rfl rfl rfl <| nl <| rt ?_
       obtain rfl := hD1 _ (Option.some.inj hF1).symm
       replace hF0 := res_ret hF0
       obtain rfl := Option.some.inj hF0
       exact rd_leaf (.inr rfl) rfl (retV_pl _ _ (iA val)) rfl rfl
     · replace hF1 := ite_f hF1 (bne_f hc8)
       exact sk <| rg <| WO_do (y := (iA ((i + 1 : Nat) : Int))) _ rfl rfl (congrArg (fun n => some (AV.int .i64 n, _)) (range_len hi4 hn4)) <| WO_do (y := (iA ((i + 1 : Nat) : Int))) _ rfl rfl rfl <| nl <| Exists.intro _ (And.intro (Option.some.inj hF1).symm ((hR4 _ _ _).2 ⟨_, _, rfl, (And.intro rfl (And.intro rfl (And.intro rfl (And.intro rfl True.intro)))), True.intro⟩))
   · intro v st hr hD1
     obtain ⟨⟩ := v
     obtain ⟨tm5, cb5, rfl, hT5, hC5⟩ := (hR4 _ _ _).1 hr
     obtain ⟨tm5, rfl⟩ := allEq hT5
     obtain ⟨cb5, rfl⟩ := allEq hC5
     refine sq (rg ?_)
     refine WO_do (y := .bool false) _ rfl rfl (congrArg (fun b => some (AV.bool b, _)) (range_ge _)) (nl ?_)
     refine sq <| cd false rfl (fun h => absurd h (by decide)) (fun _ => ?_)
     exact xt <| (hJ4 _).2 ⟨_, _, rfl, (And.intro rfl True.intro), True.intro, hD1⟩

theorem okg_gateref1_partsFault (k : Nat) : (∀ (v_ : api_Value) {r : (Int)} (hF0 : gateref1_partsFault k v_ = some r) (out : List AE.Frame) (glob : List AObj), RdOk Tryd.prog pol true 27 [(.agg (c_api_Value v_))] out glob (iA r)) := by
 induction k with
 | zero => exact (by intro v_ r hF0 out glob; rw [gateref1_partsFault] at hF0; cases hF0)
 | succ k ih =>
  have ih_gateref1_partsFault := ih
  intro v_ r hF0 out glob
  rw [gateref1_partsFault] at hF0
  refine rd_walk Tryd.func27 rfl (Nat.not_lt.2 (Nat.le_of_ble_eq_true rfl)) ?_
  intro ro
  refine sq <| rg <| L (.ptr (.fr 0 1) 1 0) (h' := ⟨upd _ 1 ⟨1, .cells (c_api_Value v_)⟩, _, _⟩) rfl rfl (op_box (x' := (.agg (c_api_Value v_))) rfl rfl rfl rfl) <| L (iA 0) rfl rfl rfl <| nl <| sq <| rg <| L (.agg (c_api_Value v_)) rfl rfl (op_load rfl (ld_con (.agg (c_api_Value v_)) rfl rfl (cs := (c_api_Value v_)) (con_fr rfl) (by simp only [e_api_Value]; rfl))) ?_
  obtain ⟨f, h1, hF0⟩ := bind_some hF0
  refine WO_rd (g := 52) (args := [(.agg (c_api_Value v_))]) (r := (iA f)) _ _ rfl rfl rfl rfl rfl rfl rfl (ok_gateref1_ownFault _ h1 _ _ ) <| L (iA f) rfl rfl rfl <| nl <| sq <| sq <| rg <| L (.ptr (.fr 0 1) 1 4) rfl rfl rfl <| L (Sl.av 6 c_api_Value v_.List) rfl rfl (op_load rfl (ld_con (Sl.av 6 c_api_Value v_.List) rfl rfl (cs := (c_api_Value v_)) (con_fr rfl) (by simp only [e_api_Value]; rfl))) <| L (iA (v_.List.list.length : Int)) rfl rfl (op_len rfl rfl rfl rfl rfl (len_sl _)) <| L (iA 0) rfl rfl rfl <| nl <| bk ?_
  obtain ⟨b1, hb6, hF0⟩ := bind_some hF0
  obtain ⟨hn6, hb6⟩ := ite_none hb6
  obtain ⟨J6, hJ6⟩ : ∃ J : St → Prop, ∀ st, J st ↔ (∃ (f4 : Int) (tm8 : Nat → AV) (cb8 : AE.Frame), st = ⟨tm8, ⟨cb8, out, glob⟩⟩ ∧ AllEq tm8 [(1, (.ptr (.fr 0 1) 1 0)), (3, (iA f4))] ∧ AllEq cb8 [(1, ⟨1, .cells (c_api_Value v_)⟩)] ∧ f4 = b1) := ⟨_, fun _ => Iff.rfl⟩
  obtain ⟨R6, hR6⟩ : ∃ R : Nat → (Int) → St → Prop, ∀ i v st, R i v st ↔ (match v with | f3 => ∃ (tm7 : Nat → AV) (cb7 : AE.Frame), st = ⟨tm7, ⟨cb7, out, glob⟩⟩ ∧ AllEq tm7 [(1, (.ptr (.fr 0 1) 1 0)), (3, (iA f3)), (11, (Sl.av 6 c_api_Value v_.List)), (12, (iA (v_.List.list.length : Int))), (13, (iA ((i : Nat) : Int)))] ∧ AllEq cb7 [(1, ⟨1, .cells (c_api_Value v_)⟩)]) := ⟨_, fun _ _ _ => Iff.rfl⟩
  refine W_loopcut J6 (fun st hst => ?_) ?_
  · obtain ⟨f4, tm8, cb8, rfl, hT8, hC8, rfl⟩ := (hJ6 st).1 hst
    obtain ⟨tm8, rfl⟩ := allEq hT8
    obtain ⟨cb8, rfl⟩ := allEq hC8
    refine sq <| sq <| rg <| L (.ptr (.fr 0 1) 1 5) rfl rfl rfl <| L (Sl.av 7 c_api_Member v_.Members) rfl rfl (op_load rfl (ld_con (Sl.av 7 c_api_Member v_.Members) rfl rfl (cs := (c_api_Value v_)) (con_fr rfl) (by simp only [e_api_Value]; rfl))) <| L (iA (v_.Members.list.length : Int)) rfl rfl (op_len rfl rfl rfl rfl rfl (len_sl _)) <| L (iA 0) rfl rfl rfl <| nl <| bk ?_
    obtain ⟨b1, hb16, hF0⟩ := bind_some hF0
    obtain ⟨hn16, hb16⟩ := ite_none hb16
    obtain ⟨J16, hJ16⟩ : ∃ J : St → Prop, ∀ st, J st ↔ (∃ (f9 : Int) (tm18 : Nat → AV) (cb18 : AE.Frame), st = ⟨tm18, ⟨cb18, out, glob⟩⟩ ∧ AllEq tm18 [(3, (iA f9))] ∧ AllEq cb18 [] ∧ f9 = b1) := ⟨_, fun _ => Iff.rfl⟩
    obtain ⟨R16, hR16⟩ : ∃ R : Nat → (Int) → St → Prop, ∀ i1 v st, R i1 v st ↔ (match v with | f8 => ∃ (tm17 : Nat → AV) (cb17 : AE.Frame), st = ⟨tm17, ⟨cb17, out, glob⟩⟩ ∧ AllEq tm17 [(3, (iA f8)), (24, (Sl.av 7 c_api_Member v_.Members)), (25, (iA (v_.Members.list.length : Int))), (26, (iA ((i1 : Nat) : Int)))] ∧ AllEq cb17 []) := ⟨_, fun _ _ _ => Iff.rfl⟩
    refine W_loopcut J16 (fun st hst => ?_) ?_
    · obtain ⟨f9, tm18, cb18, rfl, hT18, hC18, rfl⟩ := (hJ16 st).1 hst
      obtain ⟨tm18, rfl⟩ := allEq hT18
      obtain ⟨cb18, rfl⟩ := allEq hC18
      refine sq <| rg <| L (iA f9) rfl rfl rfl <| L (iA f9) rfl rfl rfl <| nl <| rt ?_
      obtain rfl := Option.some.inj hF0
      exact rd_leaf (.inr rfl) rfl (retV_pl _ _ (iA f9)) rfl rfl
    · refine W_rangeL hb16 R16 ((hR16 _ _ _).2 ⟨_, _, rfl, (And.intro rfl (And.intro rfl (And.intro rfl (And.intro rfl True.intro)))), True.intro⟩) ?_ ?_
      · intro i1 hi16 v st s hr hF1 hD1
        obtain ⟨f8, hv_⟩ : ∃ z, z = v := ⟨_, rfl⟩; subst hv_
        obtain ⟨tm17, cb17, rfl, hT17, hC17⟩ := (hR16 _ _ _).1 hr
        obtain ⟨tm17, rfl⟩ := allEq hT17
        obtain ⟨cb17, rfl⟩ := allEq hC17
        obtain ⟨x3, hx16⟩ : ∃ x, x = v_.Members.list[i1] := ⟨_, rfl⟩
        rw [← hx16] at hF1
        dsimp only [gateref1_partsFault_l1] at hF1
        refine sq (rg ?_)
        refine WO_do (y := (bA (decide (((i1 : Nat) : Int) < (v_.Members.list.length : Int))))) _ rfl rfl rfl (nl ?_)
        refine sq <| cd true (congrArg some (range_lt hi16)) (fun _ => ?_) (fun h => absurd h (by decide))
        refine sk <| sq <| bk <| sq <| rg <| L (.cptr (c_api_Member x3)) rfl rfl (op_ix rfl ((ix_at (c := c_api_Member) rfl rfl hi16).trans (congrArg (fun x => some (AV.cptr (c_api_Member x))) hx16.symm))) <| L (.agg (c_api_Member x3)) rfl rfl (op_load rfl (ld_cel rfl rfl (by simp only [e_api_Member, e_api_Value]; rfl))) <| L (.ptr (.fr 0 7) ((cb17 7).ver + 1) 0) (h' := ⟨upd _ 7 ⟨(cb17 7).ver + 1, .cells (c_api_Member (api_Member.mk [] (api_Value.mk 0 false 0 [] Sl.nil Sl.nil)))⟩, _, _⟩) rfl rfl (op_alloc (c_api_Member (api_Member.mk [] (api_Value.mk 0 false 0 [] Sl.nil Sl.nil))) rfl rfl rfl (by simp only [e_api_Member, e_api_Value]; rfl)) <| L (.tup []) (h' := ⟨upd _ 7 ⟨(cb17 7).ver + 1, .cells (c_api_Member x3)⟩, _, _⟩) rfl rfl (op_store rfl rfl (st_fr (x := (.agg (c_api_Member x3))) (cs := (c_api_Member (api_Member.mk [] (api_Value.mk 0 false 0 [] Sl.nil Sl.nil)))) (c_api_Member x3) (by simp only [e_api_Member, e_api_Value]; rfl) rfl (by simp only [e_api_Member, e_api_Value]; exact Nat.le_of_ble_eq_true rfl) (by simp only [e_api_Member, e_api_Value]; rfl))) <| nl <| rg <| L (iA f8) rfl rfl rfl <| L (.ptr (.fr 0 7) ((cb17 7).ver + 1) 1) rfl rfl rfl <| L (.agg (c_api_Value x3.Value)) rfl rfl (op_load rfl (ld_con (.agg (c_api_Value x3.Value)) rfl rfl (cs := (c_api_Member x3)) (con_fr rfl) (by simp only [e_api_Member, e_api_Value]; rfl))) ?_
        obtain ⟨r331, h20, hF1⟩ := bind_some hF1
        refine WO_rd (g := 27) (args := [(.agg (c_api_Value x3.Value))]) (r := (iA r331)) _ _ rfl rfl rfl rfl rfl rfl rfl (ih_gateref1_partsFault _ h20 _ _ ) <| L (Sl.av 1 c_i64 (Sl.full [f8, r331] : Sl Int)) rfl rfl (op_sliceN rfl rfl rfl) ?_
        obtain ⟨f10, h21, hF1⟩ := bind_some hF1
        exact WO_rd (g := 12) (args := [(Sl.av 1 c_i64 (Sl.full [f8, r331] : Sl Int))]) (r := (iA f10)) _ _ rfl rfl rfl rfl rfl rfl rfl (ok_cmp_Or_api_Errno _ h21 _ _ ) <| L (iA f10) rfl rfl rfl <| nl <| rg <| WO_do (y := (iA ((i1 + 1 : Nat) : Int))) _ rfl rfl (congrArg (fun n => some (AV.int .i64 n, _)) (range_len hi16 hn16)) <| WO_do (y := (iA ((i1 + 1 : Nat) : Int))) _ rfl rfl rfl <| nl <| Exists.intro _ (And.intro (Option.some.inj hF1).symm ((hR16 _ _ _).2 ⟨_, _, rfl, (And.intro rfl (And.intro rfl (And.intro rfl (And.intro rfl True.intro)))), True.intro⟩))
      · intro v st hr hD1
        obtain ⟨f8, hv_⟩ : ∃ z, z = v := ⟨_, rfl⟩; subst hv_
        obtain ⟨tm17, cb17, rfl, hT17, hC17⟩ := (hR16 _ _ _).1 hr
        obtain ⟨tm17, rfl⟩ := allEq hT17
        obtain ⟨cb17, rfl⟩ := allEq hC17
        refine sq (rg ?_)
        refine WO_do (y := .bool false) _ rfl rfl (congrArg (fun b => some (AV.bool b, _)) (range_ge _)) (nl ?_)
        refine sq <| cd false rfl (fun h => absurd h (by decide)) (fun _ => ?_)
        exact xt <| (hJ16 _).2 ⟨f8, _, _, rfl, (And.intro rfl True.intro), True.intro, hD1⟩
  · refine W_rangeL hb6 R6 ((hR6 _ _ _).2 ⟨_, _, rfl, (And.intro rfl (And.intro rfl (And.intro rfl (And.intro rfl (And.intro rfl True.intro))))), (And.intro rfl True.intro)⟩) ?_ ?_
    · intro i hi6 v st s hr hF1 hD1
      obtain ⟨f3, hv_⟩ : ∃ z, z = v := ⟨_, rfl⟩; subst hv_
      obtain ⟨tm7, cb7, rfl, hT7, hC7⟩ := (hR6 _ _ _).1 hr
      obtain ⟨tm7, rfl⟩ := allEq hT7
      obtain ⟨cb7, rfl⟩ := allEq hC7
      obtain ⟨x1, hx6⟩ : ∃ x, x = v_.List.list[i] := ⟨_, rfl⟩
      rw [← hx6] at hF1
      dsimp only [gateref1_partsFault_l0] at hF1
      refine sq (rg ?_)
      refine WO_do (y := (bA (decide (((i : Nat) : Int) < (v_.List.list.length : Int))))) _ rfl rfl rfl (nl ?_)
      refine sq <| cd true (congrArg some (range_lt hi6)) (fun _ => ?_) (fun h => absurd h (by decide))
      refine sk <| sq <| bk <| sq <| rg <| L (.cptr (c_api_Value x1)) rfl rfl (op_ix rfl ((ix_at (c := c_api_Value) rfl rfl hi6).trans (congrArg (fun x => some (AV.cptr (c_api_Value x))) hx6.symm))) <| L (.agg (c_api_Value x1)) rfl rfl (op_load rfl (ld_cel rfl rfl (by simp only [e_api_Value]; rfl))) <| L (.ptr (.fr 0 5) ((cb7 5).ver + 1) 0) (h' := ⟨upd _ 5 ⟨(cb7 5).ver + 1, .cells (c_api_Value (api_Value.mk 0 false 0 [] Sl.nil Sl.nil))⟩, _, _⟩) rfl rfl (op_alloc (c_api_Value (api_Value.mk 0 false 0 [] Sl.nil Sl.nil)) rfl rfl rfl (by simp only [e_api_Value]; rfl)) <| L (.tup []) (h' := ⟨upd _ 5 ⟨(cb7 5).ver + 1, .cells (c_api_Value x1)⟩, _, _⟩) rfl rfl (op_store rfl rfl (st_fr (x := (.agg (c_api_Value x1))) (cs := (c_api_Value (api_Value.mk 0 false 0 [] Sl.nil Sl.nil))) (c_api_Value x1) (by simp only [e_api_Value]; rfl) rfl (by simp only [e_api_Value]; exact Nat.le_of_ble_eq_true rfl) (by simp only [e_api_Value]; rfl))) <| nl <| rg <| L (iA f3) rfl rfl rfl <| L (.agg (c_api_Value x1)) rfl rfl (op_load rfl (ld_con (.agg (c_api_Value x1)) rfl rfl (cs := (c_api_Value x1)) (con_fr rfl) (by simp only [e_api_Value]; rfl))) ?_
      obtain ⟨r191, h10, hF1⟩ := bind_some hF1
      refine WO_rd (g := 27) (args := [(.agg (c_api_Value x1))]) (r := (iA r191)) _ _ rfl rfl rfl rfl rfl rfl rfl (ih_gateref1_partsFault _ h10 _ _ ) <| L (Sl.av 1 c_i64 (Sl.full [f3, r191] : Sl Int)) rfl rfl (op_sliceN rfl rfl rfl) ?_
      obtain ⟨f5, h11, hF1⟩ := bind_some hF1
      exact WO_rd (g := 12) (args := [(Sl.av 1 c_i64 (Sl.full [f3, r191] : Sl Int))]) (r := (iA f5)) _ _ rfl rfl rfl rfl rfl rfl rfl (ok_cmp_Or_api_Errno _ h11 _ _ ) <| L (iA f5) rfl rfl rfl <| nl <| rg <| WO_do (y := (iA ((i + 1 : Nat) : Int))) _ rfl rfl (congrArg (fun n => some (AV.int .i64 n, _)) (range_len hi6 hn6)) <| WO_do (y := (iA ((i + 1 : Nat) : Int))) _ rfl rfl rfl <| nl <| Exists.intro _ (And.intro (Option.some.inj hF1).symm ((hR6 _ _ _).2 ⟨_, _, rfl, (And.intro rfl (And.intro rfl (And.intro rfl (And.intro rfl (And.intro rfl True.intro))))), (And.intro rfl True.intro)⟩))
    · intro v st hr hD1
      obtain ⟨f3, hv_⟩ : ∃ z, z = v := ⟨_, rfl⟩; subst hv_
      obtain ⟨tm7, cb7, rfl, hT7, hC7⟩ := (hR6 _ _ _).1 hr
      obtain ⟨tm7, rfl⟩ := allEq hT7
      obtain ⟨cb7, rfl⟩ := allEq hC7
      refine sq (rg ?_)
      refine WO_do (y := .bool false) _ rfl rfl (congrArg (fun b => some (AV.bool b, _)) (range_ge _)) (nl ?_)
      refine sq <| cd false rfl (fun h => absurd h (by decide)) (fun _ => ?_)
      exact xt <| (hJ6 _).2 ⟨f3, _, _, rfl, (And.intro rfl (And.intro rfl True.intro)), (And.intro rfl True.intro), hD1⟩
theorem ok_gateref1_partsFault (k : Nat) : (∀ (v_ : api_Value) {r : (Int)} (hF0 : gateref1_partsFault k v_ = some r) (out : List AE.Frame) (glob : List AObj), RdOk Tryd.prog pol true 27 [(.agg (c_api_Value v_))] out glob (iA r)) := (okg_gateref1_partsFault k)

theorem ok_gateref1_ValueFault (k : Nat) (v_ : api_Value) {r : (Int)} (hF0 : gateref1_ValueFault k v_ = some r) (out : List AE.Frame) (glob : List AObj) : RdOk Tryd.prog pol true 9 [(.agg (c_api_Value v_))] out glob (iA r) := by
 unfold gateref1_ValueFault at hF0
 refine rd_walk Tryd.func9 rfl (Nat.not_lt.2 (Nat.le_of_ble_eq_true rfl)) ?_
 intro ro
 refine sq <| rg <| L (.ptr (.fr 0 1) 1 0) (h' := ⟨upd _ 1 ⟨1, .cells (c_api_Value v_)⟩, _, _⟩) rfl rfl (op_box (x' := (.agg (c_api_Value v_))) rfl rfl rfl rfl) <| L (iA 0) rfl rfl rfl <| nl <| sq <| sq <| rg <| L (.agg (c_api_Value v_)) rfl rfl (op_load rfl (ld_con (.agg (c_api_Value v_)) rfl rfl (cs := (c_api_Value v_)) (con_fr rfl) (by simp only [e_api_Value]; rfl))) ?_
 obtain ⟨⟨many, deep⟩, h1, hF0⟩ := bind_some hF0
 refine WO_rd (g := 26) (args := [(.agg (c_api_Value v_))]) (r := (.tup [(iA many), (iA deep)])) _ _ rfl rfl rfl rfl rfl rfl rfl (ok_gateref1_sizeOf _ _ h1 _ _ ) <| L (.tup [(iA many), (iA deep)]) rfl rfl rfl <| L (iA many) rfl rfl rfl <| L (iA deep) rfl rfl rfl <| L (iA many) rfl rfl rfl <| L (iA deep) rfl rfl rfl <| nl <| sq <| rg <| L (iA many) rfl rfl rfl <| L (bA (decide (many > 5000))) rfl rfl rfl ?_
 obtain ⟨J2, hJ2⟩ : ∃ J : St → Prop, ∀ st, J st ↔ (∃ (tm3 : Nat → AV) (cb3 : AE.Frame), st = ⟨tm3, ⟨cb3, out, glob⟩⟩ ∧ AllEq tm3 [(1, (.ptr (.fr 0 1) 1 0)), (15, (bA ((decide (many > 5000)) || (decide (deep > 50)))))] ∧ AllEq cb3 [(1, ⟨1, .cells (c_api_Value v_)⟩)]) := ⟨_, fun _ => Iff.rfl⟩
 refine WO_cut 4 J2 (fun st hst => ?_) ?_
 · obtain ⟨tm3, cb3, rfl, hT3, hC3⟩ := (hJ2 st).1 hst
   obtain ⟨tm3, rfl⟩ := allEq hT3
   obtain ⟨cb3, rfl⟩ := allEq hC3
   refine nl <| cd ((decide (many > 5000)) || (decide (deep > 50))) rfl (fun hc5 => ?_) (fun hc5 => ?_)
   · replace hF0 := ite_t hF0 (hc5)
     refine sq <| rg <| L (iA 2) rfl rfl rfl <| nl <| rt ?_
     obtain rfl := Option.some.inj hF0
     exact rd_leaf (.inr rfl) rfl (retV_pl _ _ (iA 2)) rfl rfl
   · replace hF0 := ite_f hF0 (not_t hc5)
     refine sk <| sq <| rg <| L (.agg (c_api_Value v_)) rfl rfl (op_load rfl (ld_con (.agg (c_api_Value v_)) rfl rfl (cs := (c_api_Value v_)) (con_fr rfl) (by simp only [e_api_Value]; rfl))) ?_
     obtain ⟨r2, h4, hF0⟩ := bind_some hF0
     refine WO_rd (g := 27) (args := [(.agg (c_api_Value v_))]) (r := (iA r2)) _ _ rfl rfl rfl rfl rfl rfl rfl (ok_gateref1_partsFault _ _ h4 _ _ ) <| L (iA r2) rfl rfl rfl <| nl <| rt ?_
     obtain rfl := Option.some.inj hF0
     exact rd_leaf (.inr rfl) rfl (retV_pl _ _ (iA r2)) rfl rfl
 · rcases bool_cases (decide (many > 5000)) with hc2 | hc2
   · exact L (.bool true) rfl rfl (congrArg (fun b => some (AV.bool b, _)) hc2) <| WO_no _ rfl rfl <| WO_no _ rfl rfl <| L (bA ((decide (many > 5000)) || (decide (deep > 50)))) rfl rfl (congrArg (fun b => some (AV.bool b, _)) (by rw [hc2]; rfl)) <| nl ((hJ2 _).2 ⟨_, _, rfl, (And.intro rfl (And.intro rfl True.intro)), (And.intro rfl True.intro)⟩)
   · exact L (.bool false) rfl rfl (congrArg (fun b => some (AV.bool b, _)) hc2) <| L (iA deep) rfl rfl rfl <| L (bA (decide (deep > 50))) rfl rfl rfl <| L (bA ((decide (many > 5000)) || (decide (deep > 50)))) rfl rfl (congrArg (fun b => some (AV.bool b, _)) (by rw [hc2]; rfl)) <| nl ((hJ2 _).2 ⟨_, _, rfl, (And.intro rfl (And.intro rfl True.intro)), (And.intro rfl True.intro)⟩)

theorem ok_gateref1_Quoted (s_ : Str) {r : (Str)} (hF0 : gateref1_Quoted s_ = some r) (out : List AE.Frame) (glob : List AObj) : RdOk Tryd.prog pol false 32 [(sA s_)] out glob (sA r) := by
 unfold gateref1_Quoted at hF0
 refine rd_walkF Tryd.func32 rfl (Nat.not_lt.2 (Nat.le_of_ble_eq_true rfl)) <| sq <| rg <| L (sA []) rfl rfl rfl <| nl <| sq <| rg <| L (.ptr (.fr 0 3) 1 0) (h' := ⟨upd (upd _ 1030005 ⟨1, (Ar.con 1 c_byte (Ar.nil : Ar UInt8))⟩) 3 ⟨1, .cells [(.bmark 79), (rf (.fr 0 1030005) 1 (Ar.nil : Ar UInt8).list.length)]⟩, _, _⟩) rfl rfl (op_allocA [.nilp, (Sl.av 1 c_u8 Sl.nil)] rfl rfl rfl rfl rfl (List.cons_ne_nil _ _) (fld_mark rfl (fld_arr rfl (by decide) fld_nil))) <| nl <| sq <| rg ?_
 obtain ⟨⟨r6, b⟩, h1, hF0⟩ := bind_some hF0
 refine WO_mutAL (g := 59) (args := fun p => [p, (.int .u8 34)]) (off := 0) (s := 3) (b := 1030005) (v := 1) (u := 1) (cs := fun sl u => [(.bmark 79), (rf sl u (Ar.nil : Ar UInt8).list.length)]) (a := (Ar.con 1 c_byte (Ar.nil : Ar UInt8))) (r := .nili) _ _ rfl rfl rfl rfl rfl rfl rfl (fun _ _ => inferInstance) rfl rfl (by decide) rfl Ar.con_live (ok_strings_Builder_WriteByte _ _ h1) (fun u1 => ?_)
 refine nl <| sq <| sq <| rg <| L (sA s_) rfl rfl rfl <| L (Sl.av 1 c_u8 (bsl s_)) rfl rfl (op_conv rfl (conv_bytes rfl rfl rfl)) <| L (iA ((bsl s_).list.length : Int)) rfl rfl (op_len rfl rfl rfl rfl rfl (len_sl _)) <| L (iA 0) rfl rfl rfl <| nl <| bk ?_
 obtain ⟨b1, hb36, hF0⟩ := bind_some hF0
 obtain ⟨hn36, hb36⟩ := ite_none hb36
 obtain ⟨J36, hJ36⟩ : ∃ J : St → Prop, ∀ st, J st ↔ (∃ (b15 : (Ar UInt8)) (u3 : Nat) (tm38 : Nat → AV) (cb38 : AE.Frame), st = ⟨tm38, ⟨cb38, out, glob⟩⟩ ∧ AllEq tm38 [(3, (.ptr (.fr 0 3) 1 0))] ∧ AllEq cb38 [(3, ⟨1, .cells [(.bmark 79), (rf (.fr 0 1030005) u3 b15.list.length)]⟩), (1030005, ⟨u3, (Ar.con 1 c_byte b15)⟩)] ∧ b15 = b1) := ⟨_, fun _ => Iff.rfl⟩
 obtain ⟨R36, hR36⟩ : ∃ R : Nat → ((Ar UInt8)) → St → Prop, ∀ i v st, R i v st ↔ (match v with | b14 => ∃ (u2 : Nat) (tm37 : Nat → AV) (cb37 : AE.Frame), st = ⟨tm37, ⟨cb37, out, glob⟩⟩ ∧ AllEq tm37 [(3, (.ptr (.fr 0 3) 1 0)), (8, (Sl.av 1 c_u8 (bsl s_))), (9, (iA ((bsl s_).list.length : Int))), (10, (iA ((i : Nat) : Int)))] ∧ AllEq cb37 [(3, ⟨1, .cells [(.bmark 79), (rf (.fr 0 1030005) u2 b14.list.length)]⟩), (1030005, ⟨u2, (Ar.con 1 c_byte b14)⟩)]) := ⟨_, fun _ _ _ => Iff.rfl⟩
 refine W_loopcut J36 (fun st hst => ?_) ?_
 · obtain ⟨b15, u3, tm38, cb38, rfl, hT38, hC38, rfl⟩ := (hJ36 st).1 hst
   obtain ⟨tm38, rfl⟩ := allEq hT38
   obtain ⟨cb38, rfl⟩ := allEq hC38
   refine sq <| rg ?_
   obtain ⟨⟨r59, b22⟩, h55, hF0⟩ := bind_some hF0
   refine WO_mutAL (g := 59) (args := fun p => [p, (.int .u8 34)]) (off := 0) (s := 3) (b := 1030005) (v := 1) (u := u3) (cs := fun sl u => [(.bmark 79), (rf sl u b15.list.length)]) (a := (Ar.con 1 c_byte b15)) (r := .nili) _ _ rfl rfl rfl rfl rfl rfl rfl (fun _ _ => inferInstance) rfl rfl (by decide) rfl Ar.con_live (ok_strings_Builder_WriteByte _ _ h55) (fun u55 => ?_)
   refine nl <| sq <| rg ?_
   obtain ⟨r2, h_r2, hF0⟩ := bind_some hF0
   refine L (sA r2) rfl rfl (opF_H _ rfl rfl rfl rfl rfl rfl rfl (x_string_eq (cs := [(.bmark 79), (rf (.fr 0 1030005) u55 b22.list.length)]) (a := b22) (con_fr rfl) rfl (from_fr0 _ _) (con_fr rfl) rfl rfl h_r2)) <| L (sA r2) rfl rfl rfl <| nl <| rt ?_
   obtain rfl := Option.some.inj hF0
   exact rd_leaf (.inr rfl) rfl (retV_pl _ _ (sA r2)) rfl rfl
 · refine W_rangeL hb36 R36 ((hR36 _ _ _).2 ⟨u1, _, _, rfl, (And.intro rfl (And.intro rfl (And.intro rfl (And.intro rfl True.intro)))), (And.intro rfl (And.intro rfl True.intro))⟩) ?_ ?_
   · intro i hi36 v st s hr hF1 hD1
     obtain ⟨b14, hv_⟩ : ∃ z, z = v := ⟨_, rfl⟩; subst hv_
     obtain ⟨u2, tm37, cb37, rfl, hT37, hC37⟩ := (hR36 _ _ _).1 hr
     obtain ⟨tm37, rfl⟩ := allEq hT37
     obtain ⟨cb37, rfl⟩ := allEq hC37
     obtain ⟨c, hx36⟩ : ∃ x, x = (bsl s_).list[i] := ⟨_, rfl⟩
     rw [← hx36] at hF1
     dsimp only [gateref1_Quoted_l0] at hF1
     refine sq (rg ?_)
     refine WO_do (y := (bA (decide (((i : Nat) : Int) < ((bsl s_).list.length : Int))))) _ rfl rfl rfl (nl ?_)
     refine sq <| cd true (congrArg some (range_lt hi36)) (fun _ => ?_) (fun h => absurd h (by decide))
     refine sk <| sq <| bk <| sq <| rg <| L (.cptr [(.int .u8 c)]) rfl rfl (op_ix rfl ((ix_at (c := c_u8) rfl rfl hi36).trans (congrArg (fun x => some (AV.cptr (c_u8 x))) hx36.symm))) <| L (.int .u8 c) rfl rfl rfl <| L (.int .u8 c) rfl rfl rfl <| nl <| bk <| sq <| rg <| L (.int .u8 c) rfl rfl rfl <| L (bA (c == 34)) rfl rfl rfl ?_
     obtain ⟨J40, hJ40⟩ : ∃ J : St → Prop, ∀ st, J st ↔ (∃ (tm41 : Nat → AV) (cb41 : AE.Frame), st = ⟨tm41, ⟨cb41, out, glob⟩⟩ ∧ AllEq tm41 [(3, (.ptr (.fr 0 3) 1 0)), (5, (.int .u8 c)), (8, (Sl.av 1 c_u8 (bsl s_))), (9, (iA ((bsl s_).list.length : Int))), (10, (iA ((i : Nat) : Int))), (22, (bA ((c == 34) || (c == 92))))] ∧ AllEq cb41 [(3, ⟨1, .cells [(.bmark 79), (rf (.fr 0 1030005) u2 b14.list.length)]⟩), (1030005, ⟨u2, (Ar.con 1 c_byte b14)⟩)]) := ⟨_, fun _ => Iff.rfl⟩
     refine WO_cut 4 J40 (fun st hst => ?_) ?_
     · obtain ⟨tm41, cb41, rfl, hT41, hC41⟩ := (hJ40 st).1 hst
       obtain ⟨tm41, rfl⟩ := allEq hT41
       obtain ⟨cb41, rfl⟩ := allEq hC41
       refine L (bA ((c == 34) || (c == 92))) rfl rfl rfl <| nl <| cd ((c == 34) || (c == 92)) rfl (fun hc54 => ?_) (fun hc54 => ?_)
       · replace hF1 := ite_t hF1 (hc54)
         refine rg <| L (.int .u8 c) rfl rfl rfl <| L (.int .i32 (IntKind.i32.wrap (c))) rfl rfl rfl <| L (sA (utf8 (IntKind.i32.wrap (c)))) rfl rfl (op_conv rfl (conv_utf8 rfl rfl)) ?_
         obtain ⟨r262, h_r262, hF1⟩ := bind_some hF1
         refine L (sA r262) rfl rfl (op_bin rfl (bin_sadd h_r262)) ?_
         obtain ⟨⟨q010, q110, b16⟩, h42, hF1⟩ := bind_some hF1
         refine WO_mutAL (g := 45) (args := fun p => [p, (sA r262)]) (off := 0) (s := 3) (b := 1030005) (v := 1) (u := u2) (cs := fun sl u => [(.bmark 79), (rf sl u b14.list.length)]) (a := (Ar.con 1 c_byte b14)) (r := (.tup [(iA q010), .nili])) _ _ rfl rfl rfl rfl rfl rfl rfl (fun _ _ => inferInstance) rfl rfl (by decide) rfl Ar.con_live (ok_strings_Builder_WriteString _ _ h42) (fun u42 => ?_)
         exact nl <| rg <| WO_do (y := (iA ((i + 1 : Nat) : Int))) _ rfl rfl (congrArg (fun n => some (AV.int .i64 n, _)) (range_len hi36 hn36)) <| WO_do (y := (iA ((i + 1 : Nat) : Int))) _ rfl rfl rfl <| nl <| Exists.intro _ (And.intro (Option.some.inj hF1).symm ((hR36 _ _ _).2 ⟨u42, _, _, rfl, (And.intro rfl (And.intro rfl (And.intro rfl (And.intro rfl True.intro)))), (And.intro rfl (And.intro rfl True.intro))⟩))
       · replace hF1 := ite_f hF1 (not_t hc54)
         refine sq <| rg <| L (.int .u8 c) rfl rfl rfl <| L (bA (c == 10)) rfl rfl rfl <| L (bA (c == 10)) rfl rfl rfl <| nl <| cd (c == 10) rfl (fun hc53 => ?_) (fun hc53 => ?_)
         · replace hF1 := ite_t hF1 (beq_t hc53)
           refine rg ?_
           obtain ⟨⟨q011, q111, b17⟩, h43, hF1⟩ := bind_some hF1
           refine WO_mutAL (g := 45) (args := fun p => [p, (sA [92, 110])]) (off := 0) (s := 3) (b := 1030005) (v := 1) (u := u2) (cs := fun sl u => [(.bmark 79), (rf sl u b14.list.length)]) (a := (Ar.con 1 c_byte b14)) (r := (.tup [(iA q011), .nili])) _ _ rfl rfl rfl rfl rfl rfl rfl (fun _ _ => inferInstance) rfl rfl (by decide) rfl Ar.con_live (ok_strings_Builder_WriteString _ _ h43) (fun u43 => ?_)
           exact nl <| rg <| WO_do (y := (iA ((i + 1 : Nat) : Int))) _ rfl rfl (congrArg (fun n => some (AV.int .i64 n, _)) (range_len hi36 hn36)) <| WO_do (y := (iA ((i + 1 : Nat) : Int))) _ rfl rfl rfl <| nl <| Exists.intro _ (And.intro (Option.some.inj hF1).symm ((hR36 _ _ _).2 ⟨u43, _, _, rfl, (And.intro rfl (And.intro rfl (And.intro rfl (And.intro rfl True.intro)))), (And.intro rfl (And.intro rfl True.intro))⟩))
         · replace hF1 := ite_f hF1 (beq_f hc53)
           refine sq <| rg <| L (.int .u8 c) rfl rfl rfl <| L (bA (c == 13)) rfl rfl rfl <| L (bA (c == 13)) rfl rfl rfl <| nl <| cd (c == 13) rfl (fun hc52 => ?_) (fun hc52 => ?_)
           · replace hF1 := ite_t hF1 (beq_t hc52)
             refine rg ?_
             obtain ⟨⟨q012, q112, b18⟩, h44, hF1⟩ := bind_some hF1
             refine WO_mutAL (g := 45) (args := fun p => [p, (sA [92, 114])]) (off := 0) (s := 3) (b := 1030005) (v := 1) (u := u2) (cs := fun sl u => [(.bmark 79), (rf sl u b14.list.length)]) (a := (Ar.con 1 c_byte b14)) (r := (.tup [(iA q012), .nili])) _ _ rfl rfl rfl rfl rfl rfl rfl (fun _ _ => inferInstance) rfl rfl (by decide) rfl Ar.con_live (ok_strings_Builder_WriteString _ _ h44) (fun u44 => ?_)
             exact nl <| rg <| WO_do (y := (iA ((i + 1 : Nat) : Int))) _ rfl rfl (congrArg (fun n => some (AV.int .i64 n, _)) (range_len hi36 hn36)) <| WO_do (y := (iA ((i + 1 : Nat) : Int))) _ rfl rfl rfl <| nl <| Exists.intro _ (And.intro (Option.some.inj hF1).symm ((hR36 _ _ _).2 ⟨u44, _, _, rfl, (And.intro rfl (And.intro rfl (And.intro rfl (And.intro rfl True.intro)))), (And.intro rfl (And.intro rfl True.intro))⟩))
           · replace hF1 := ite_f hF1 (beq_f hc52)
             refine sq <| rg <| L (.int .u8 c) rfl rfl rfl <| L (bA (c == 9)) rfl rfl rfl <| L (bA (c == 9)) rfl rfl rfl <| nl <| cd (c == 9) rfl (fun hc51 => ?_) (fun hc51 => ?_)
             · replace hF1 := ite_t hF1 (beq_t hc51)
               refine rg ?_
               obtain ⟨⟨q013, q113, b19⟩, h45, hF1⟩ := bind_some hF1
               refine WO_mutAL (g := 45) (args := fun p => [p, (sA [92, 116])]) (off := 0) (s := 3) (b := 1030005) (v := 1) (u := u2) (cs := fun sl u => [(.bmark 79), (rf sl u b14.list.length)]) (a := (Ar.con 1 c_byte b14)) (r := (.tup [(iA q013), .nili])) _ _ rfl rfl rfl rfl rfl rfl rfl (fun _ _ => inferInstance) rfl rfl (by decide) rfl Ar.con_live (ok_strings_Builder_WriteString _ _ h45) (fun u45 => ?_)
               exact nl <| rg <| WO_do (y := (iA ((i + 1 : Nat) : Int))) _ rfl rfl (congrArg (fun n => some (AV.int .i64 n, _)) (range_len hi36 hn36)) <| WO_do (y := (iA ((i + 1 : Nat) : Int))) _ rfl rfl rfl <| nl <| Exists.intro _ (And.intro (Option.some.inj hF1).symm ((hR36 _ _ _).2 ⟨u45, _, _, rfl, (And.intro rfl (And.intro rfl (And.intro rfl (And.intro rfl True.intro)))), (And.intro rfl (And.intro rfl True.intro))⟩))
             · replace hF1 := ite_f hF1 (beq_f hc51)
               refine sq <| rg <| L (.int .u8 c) rfl rfl rfl <| L (bA (decide (c < 32))) rfl rfl rfl ?_
               obtain ⟨J46, hJ46⟩ : ∃ J : St → Prop, ∀ st, J st ↔ (∃ (tm47 : Nat → AV) (cb47 : AE.Frame), st = ⟨tm47, ⟨cb47, out, glob⟩⟩ ∧ AllEq tm47 [(3, (.ptr (.fr 0 3) 1 0)), (5, (.int .u8 c)), (8, (Sl.av 1 c_u8 (bsl s_))), (9, (iA ((bsl s_).list.length : Int))), (10, (iA ((i : Nat) : Int))), (46, (bA ((decide (c < 32)) || (c == 127))))] ∧ AllEq cb47 [(3, ⟨1, .cells [(.bmark 79), (rf (.fr 0 1030005) u2 b14.list.length)]⟩), (1030005, ⟨u2, (Ar.con 1 c_byte b14)⟩)]) := ⟨_, fun _ => Iff.rfl⟩
               refine WO_cut 4 J46 (fun st hst => ?_) ?_
               · obtain ⟨tm47, cb47, rfl, hT47, hC47⟩ := (hJ46 st).1 hst
                 obtain ⟨tm47, rfl⟩ := allEq hT47
                 obtain ⟨cb47, rfl⟩ := allEq hC47
                 refine L (bA ((decide (c < 32)) || (c == 127))) rfl rfl rfl <| nl <| cd ((decide (c < 32)) || (c == 127)) rfl (fun hc50 => ?_) (fun hc50 => ?_)
                 · replace hF1 := ite_t hF1 (hc50)
                   refine dw (by kernel_rfl) <| L (.int .u8 c) rfl rfl rfl <| L (.int .u8 (IntKind.u8.wrap (Int.tdiv c 16))) rfl rfl rfl ?_
                   obtain ⟨r492, h_r492, hF1⟩ := bind_some hF1
                   refine L (.int .u8 r492) rfl rfl (op_index rfl (ix_str rfl h_r492)) <| L (sA (utf8 r492)) rfl rfl (op_conv rfl (conv_utf8 rfl rfl)) ?_
                   obtain ⟨r512, h_r512, hF1⟩ := bind_some hF1
                   refine L (sA r512) rfl rfl (op_bin rfl (bin_sadd h_r512)) <| L (.int .u8 c) rfl rfl rfl <| L (.int .u8 (Int.tmod c 16)) rfl rfl rfl ?_
                   obtain ⟨r542, h_r542, hF1⟩ := bind_some hF1
                   refine L (.int .u8 r542) rfl rfl (op_index rfl (ix_str rfl h_r542)) <| L (sA (utf8 r542)) rfl rfl (op_conv rfl (conv_utf8 rfl rfl)) ?_
                   obtain ⟨r562, h_r562, hF1⟩ := bind_some hF1
                   refine L (sA r562) rfl rfl (op_bin rfl (bin_sadd h_r562)) ?_
                   obtain ⟨⟨q014, q114, b20⟩, h48, hF1⟩ := bind_some hF1
                   refine WO_mutAL (g := 45) (args := fun p => [p, (sA r562)]) (off := 0) (s := 3) (b := 1030005) (v := 1) (u := u2) (cs := fun sl u => [(.bmark 79), (rf sl u b14.list.length)]) (a := (Ar.con 1 c_byte b14)) (r := (.tup [(iA q014), .nili])) _ _ rfl rfl rfl rfl rfl rfl (by kernel_rfl) (fun _ _ => inferInstance) rfl rfl (by decide) rfl Ar.con_live (ok_strings_Builder_WriteString _ _ h48) (fun u48 => ?_)
                   exact nl <| rg <| WO_do (y := (iA ((i + 1 : Nat) : Int))) _ rfl rfl (congrArg (fun n => some (AV.int .i64 n, _)) (range_len hi36 hn36)) <| WO_do (y := (iA ((i + 1 : Nat) : Int))) _ rfl rfl rfl <| nl <| Exists.intro _ (And.intro (Option.some.inj hF1).symm ((hR36 _ _ _).2 ⟨u48, _, _, rfl, (And.intro rfl (And.intro rfl (And.intro rfl (And.intro rfl True.intro)))), (And.intro rfl (And.intro rfl True.intro))⟩))
                 · replace hF1 := ite_f hF1 (not_t hc50)
                   refine rg <| L (.int .u8 c) rfl rfl rfl ?_
                   obtain ⟨⟨r152, b21⟩, h49, hF1⟩ := bind_some hF1
                   refine WO_mutAL (g := 59) (args := fun p => [p, (.int .u8 c)]) (off := 0) (s := 3) (b := 1030005) (v := 1) (u := u2) (cs := fun sl u => [(.bmark 79), (rf sl u b14.list.length)]) (a := (Ar.con 1 c_byte b14)) (r := .nili) _ _ rfl rfl rfl rfl rfl rfl rfl (fun _ _ => inferInstance) rfl rfl (by decide) rfl Ar.con_live (ok_strings_Builder_WriteByte _ _ h49) (fun u49 => ?_)
                   exact nl <| rg <| WO_do (y := (iA ((i + 1 : Nat) : Int))) _ rfl rfl (congrArg (fun n => some (AV.int .i64 n, _)) (range_len hi36 hn36)) <| WO_do (y := (iA ((i + 1 : Nat) : Int))) _ rfl rfl rfl <| nl <| Exists.intro _ (And.intro (Option.some.inj hF1).symm ((hR36 _ _ _).2 ⟨u49, _, _, rfl, (And.intro rfl (And.intro rfl (And.intro rfl (And.intro rfl True.intro)))), (And.intro rfl (And.intro rfl True.intro))⟩))
               · rcases bool_cases (decide (c < 32)) with hc46 | hc46
                 · exact L (.bool true) rfl rfl (congrArg (fun b => some (AV.bool b, _)) hc46) <| WO_no _ rfl rfl <| WO_no _ rfl rfl <| L (bA ((decide (c < 32)) || (c == 127))) rfl rfl (congrArg (fun b => some (AV.bool b, _)) (by rw [hc46]; rfl)) <| nl ((hJ46 _).2 ⟨_, _, rfl, (And.intro rfl (And.intro rfl (And.intro rfl (And.intro rfl (And.intro rfl (And.intro rfl True.intro)))))), (And.intro rfl (And.intro rfl True.intro))⟩)
                 · exact L (.bool false) rfl rfl (congrArg (fun b => some (AV.bool b, _)) hc46) <| L (.int .u8 c) rfl rfl rfl <| L (bA (c == 127)) rfl rfl rfl <| L (bA ((decide (c < 32)) || (c == 127))) rfl rfl (congrArg (fun b => some (AV.bool b, _)) (by rw [hc46]; rfl)) <| nl ((hJ46 _).2 ⟨_, _, rfl, (And.intro rfl (And.intro rfl (And.intro rfl (And.intro rfl (And.intro rfl (And.intro rfl True.intro)))))), (And.intro rfl (And.intro rfl True.intro))⟩)
     · rcases bool_cases (c == 34) with hc40 | hc40
       · exact L (.bool true) rfl rfl (congrArg (fun b => some (AV.bool b, _)) hc40) <| WO_no _ rfl rfl <| WO_no _ rfl rfl <| L (bA ((c == 34) || (c == 92))) rfl rfl (congrArg (fun b => some (AV.bool b, _)) (by rw [hc40]; rfl)) <| nl ((hJ40 _).2 ⟨_, _, rfl, (And.intro rfl (And.intro rfl (And.intro rfl (And.intro rfl (And.intro rfl (And.intro rfl True.intro)))))), (And.intro rfl (And.intro rfl True.intro))⟩)
       · exact L (.bool false) rfl rfl (congrArg (fun b => some (AV.bool b, _)) hc40) <| L (.int .u8 c) rfl rfl rfl <| L (bA (c == 92)) rfl rfl rfl <| L (bA ((c == 34) || (c == 92))) rfl rfl (congrArg (fun b => some (AV.bool b, _)) (by rw [hc40]; rfl)) <| nl ((hJ40 _).2 ⟨_, _, rfl, (And.intro rfl (And.intro rfl (And.intro rfl (And.intro rfl (And.intro rfl (And.intro rfl True.intro)))))), (And.intro rfl (And.intro rfl True.intro))⟩)
   · intro v st hr hD1
     obtain ⟨b14, hv_⟩ : ∃ z, z = v := ⟨_, rfl⟩; subst hv_
     obtain ⟨u2, tm37, cb37, rfl, hT37, hC37⟩ := (hR36 _ _ _).1 hr
     obtain ⟨tm37, rfl⟩ := allEq hT37
     obtain ⟨cb37, rfl⟩ := allEq hC37
     refine sq (rg ?_)
     refine WO_do (y := .bool false) _ rfl rfl (congrArg (fun b => some (AV.bool b, _)) (range_ge _)) (nl ?_)
     refine sq <| cd false rfl (fun h => absurd h (by decide)) (fun _ => ?_)
     exact xt <| (hJ36 _).2 ⟨b14, u2, _, _, rfl, (And.intro rfl True.intro), (And.intro rfl (And.intro rfl True.intro)), hD1⟩

theorem okg_gateref1_Written (k : Nat) : (∀ (v_ : api_Value) {r : (Str)} (hF0 : gateref1_Written k v_ = some r) (out : List AE.Frame) (glob : List AObj), RdOk Tryd.prog pol false 11 [(.agg (c_api_Value v_))] out glob (sA r)) := by
 induction k with
 | zero => exact (by intro v_ r hF0 out glob; rw [gateref1_Written] at hF0; cases hF0)
 | succ k ih =>
  have ih_gateref1_Written := ih
  intro v_ r hF0 out glob
  rw [gateref1_Written] at hF0
  refine rd_walkF Tryd.func11 rfl (Nat.not_lt.2 (Nat.le_of_ble_eq_true rfl)) <| sq <| rg <| L (.ptr (.fr 0 1) 1 0) (h' := ⟨upd _ 1 ⟨1, .cells (c_api_Value v_)⟩, _, _⟩) rfl rfl (op_box (x' := (.agg (c_api_Value v_))) rfl rfl rfl rfl) <| L (sA []) rfl rfl rfl <| nl <| sq <| rg <| L (Sl.av 1 c_str Sl.nil) rfl rfl rfl <| nl <| sq <| sq <| rg <| L (.ptr (.fr 0 1) 1 0) rfl rfl rfl <| L (iA v_.Kind) rfl rfl (op_load rfl (ld_con (iA v_.Kind) rfl rfl (cs := (c_api_Value v_)) (con_fr rfl) (by simp only [e_api_Value]; rfl))) <| nl <| bk <| sq <| rg <| L (bA (v_.Kind == 1)) rfl rfl rfl <| L (bA (v_.Kind == 1)) rfl rfl rfl <| nl <| cd (v_.Kind == 1) rfl (fun hc48 => ?_) (fun hc48 => ?_)
  · replace hF0 := ite_t hF0 (beq_t hc48)
    refine sq <| rg <| L (.ptr (.fr 0 1) 1 1) rfl rfl rfl <| L (bA v_.Flag) rfl rfl (op_load rfl (ld_con (bA v_.Flag) rfl rfl (cs := (c_api_Value v_)) (con_fr rfl) (by simp only [e_api_Value]; rfl))) <| L (sA (Go.Lib.formatBool v_.Flag)) rfl rfl (op_lib _ rfl rfl rfl rfl) <| L (sA (Go.Lib.formatBool v_.Flag)) rfl rfl rfl <| nl <| rt ?_
    obtain rfl := Option.some.inj hF0
    exact rd_leaf (.inr rfl) rfl (retV_pl _ _ (sA (Go.Lib.formatBool v_.Flag))) rfl rfl
  · replace hF0 := ite_f hF0 (beq_f hc48)
    refine sq <| rg <| L (bA (v_.Kind == 2)) rfl rfl rfl <| L (bA (v_.Kind == 2)) rfl rfl rfl <| nl <| cd (v_.Kind == 2) rfl (fun hc47 => ?_) (fun hc47 => ?_)
    · replace hF0 := ite_t hF0 (beq_t hc47)
      refine sq <| rg <| L (.ptr (.fr 0 1) 1 2) rfl rfl rfl <| L (iA v_.Number) rfl rfl (op_load rfl (ld_con (iA v_.Number) rfl rfl (cs := (c_api_Value v_)) (con_fr rfl) (by simp only [e_api_Value]; rfl))) ?_
      obtain ⟨r2, h_r2, hF0⟩ := bind_some hF0
      refine L (sA r2) rfl rfl (op_lib _ rfl rfl rfl (x_itoa_eq h_r2)) <| L (sA r2) rfl rfl rfl <| nl <| rt ?_
      obtain rfl := Option.some.inj hF0
      exact rd_leaf (.inr rfl) rfl (retV_pl _ _ (sA r2)) rfl rfl
    · replace hF0 := ite_f hF0 (beq_f hc47)
      refine sq <| rg <| L (bA (v_.Kind == 3)) rfl rfl rfl <| L (bA (v_.Kind == 3)) rfl rfl rfl <| nl <| cd (v_.Kind == 3) rfl (fun hc46 => ?_) (fun hc46 => ?_)
      · replace hF0 := ite_t hF0 (beq_t hc46)
        refine sq <| rg <| L (.ptr (.fr 0 1) 1 3) rfl rfl rfl <| L (sA v_.Words) rfl rfl (op_load rfl (ld_con (sA v_.Words) rfl rfl (cs := (c_api_Value v_)) (con_fr rfl) (by simp only [e_api_Value]; rfl))) ?_
        obtain ⟨r21, h1, hF0⟩ := bind_some hF0
        refine WO_rd (g := 32) (args := [(sA v_.Words)]) (r := (sA r21)) _ _ rfl rfl rfl rfl rfl rfl rfl (ok_gateref1_Quoted _ h1 _ _ ) <| L (sA r21) rfl rfl rfl <| nl <| rt ?_
        obtain rfl := Option.some.inj hF0
        exact rd_leaf (.inr rfl) rfl (retV_pl _ _ (sA r21)) rfl rfl
      · replace hF0 := ite_f hF0 (beq_f hc46)
        refine sq <| rg <| L (bA (v_.Kind == 4)) rfl rfl rfl <| L (bA (v_.Kind == 4)) rfl rfl rfl <| nl <| cd (v_.Kind == 4) rfl (fun hc45 => ?_) (fun hc45 => ?_)
        · replace hF0 := ite_t hF0 (beq_t hc45)
          refine sq <| sq <| rg <| L (.ptr (.fr 0 1) 1 4) rfl rfl rfl <| L (Sl.av 6 c_api_Value v_.List) rfl rfl (op_load rfl (ld_con (Sl.av 6 c_api_Value v_.List) rfl rfl (cs := (c_api_Value v_)) (con_fr rfl) (by simp only [e_api_Value]; rfl))) <| L (iA (v_.List.list.length : Int)) rfl rfl (op_len rfl rfl rfl rfl rfl (len_sl _)) <| L (iA 0) rfl rfl rfl <| nl <| bk ?_
          obtain ⟨b1, hb14, hF0⟩ := bind_some hF0
          obtain ⟨hn14, hb14⟩ := ite_none hb14
          obtain ⟨J14, hJ14⟩ : ∃ J : St → Prop, ∀ st, J st ↔ (∃ (l6 : (Sl Str)) (o50036 : AObj) (tm16 : Nat → AV) (cb16 : AE.Frame), st = ⟨tm16, ⟨cb16, out, glob⟩⟩ ∧ AllEq tm16 [(3, (Sl.lav (.fr 0 5003) o50036.ver l6))] ∧ AllEq cb16 [(5003, o50036)] ∧ LzF 1 c_str o50036 l6 ∧ l6 = b1) := ⟨_, fun _ => Iff.rfl⟩
          obtain ⟨R14, hR14⟩ : ∃ R : Nat → ((Sl Str)) → St → Prop, ∀ i v st, R i v st ↔ (match v with | l5 => ∃ (o50035 : AObj) (tm15 : Nat → AV) (cb15 : AE.Frame), st = ⟨tm15, ⟨cb15, out, glob⟩⟩ ∧ AllEq tm15 [(3, (Sl.lav (.fr 0 5003) o50035.ver l5)), (28, (Sl.av 6 c_api_Value v_.List)), (29, (iA (v_.List.list.length : Int))), (30, (iA ((i : Nat) : Int)))] ∧ AllEq cb15 [(5003, o50035)] ∧ LzF 1 c_str o50035 l5) := ⟨_, fun _ _ _ => Iff.rfl⟩
          refine W_loopcut J14 (fun st hst => ?_) ?_
          · obtain ⟨l6, o50036, tm16, cb16, rfl, hT16, hC16, hz16_0, rfl⟩ := (hJ14 st).1 hst
            obtain ⟨tm16, rfl⟩ := allEq hT16
            obtain ⟨cb16, rfl⟩ := allEq hC16
            refine sq <| rg <| WO_lzfrz (s := 5003) (n := 1) (c := c_str) (x := l6) (o := o50036) _ rfl rfl rfl rfl rfl rfl rfl (.inl hz16_0) (fun o50038 hz_20 hv20 => ?_)
            rw [← hv20]
            obtain ⟨r41, h_r41, hF0⟩ := bind_some hF0
            refine L (sA r41) rfl rfl (op_lib _ rfl rfl rfl (x_join_eq h_r41)) ?_
            obtain ⟨r42, h_r42, hF0⟩ := bind_some hF0
            refine L (sA r42) rfl rfl (op_bin rfl (bin_sadd h_r42)) ?_
            obtain ⟨r22, h_r22, hF0⟩ := bind_some hF0
            refine L (sA r22) rfl rfl (op_bin rfl (bin_sadd h_r22)) <| L (sA r22) rfl rfl rfl <| nl <| rt ?_
            obtain rfl := Option.some.inj hF0
            exact rd_leaf (.inr rfl) rfl (retV_pl _ _ (sA r22)) rfl rfl
          · refine W_rangeL hb14 R14 ((hR14 _ _ _).2 ⟨(⟨0, .gone⟩ : AObj), _, _, rfl, (And.intro rfl (And.intro rfl (And.intro rfl (And.intro rfl True.intro)))), (And.intro rfl True.intro), True.intro⟩) ?_ ?_
            · intro i hi14 v st s hr hF1 hD1
              obtain ⟨l5, hv_⟩ : ∃ z, z = v := ⟨_, rfl⟩; subst hv_
              obtain ⟨o50035, tm15, cb15, rfl, hT15, hC15, hz15_0⟩ := (hR14 _ _ _).1 hr
              obtain ⟨tm15, rfl⟩ := allEq hT15
              obtain ⟨cb15, rfl⟩ := allEq hC15
              obtain ⟨x3, hx14⟩ : ∃ x, x = v_.List.list[i] := ⟨_, rfl⟩
              rw [← hx14] at hF1
              dsimp only [gateref1_Written_l0] at hF1
              refine sq (rg ?_)
              refine WO_do (y := (bA (decide (((i : Nat) : Int) < (v_.List.list.length : Int))))) _ rfl rfl rfl (nl ?_)
              refine sq <| cd true (congrArg some (range_lt hi14)) (fun _ => ?_) (fun h => absurd h (by decide))
              refine sk <| sq <| bk <| sq <| rg <| L (.cptr (c_api_Value x3)) rfl rfl (op_ix rfl ((ix_at (c := c_api_Value) rfl rfl hi14).trans (congrArg (fun x => some (AV.cptr (c_api_Value x))) hx14.symm))) <| L (.agg (c_api_Value x3)) rfl rfl (op_load rfl (ld_cel rfl rfl (by simp only [e_api_Value]; rfl))) <| L (.ptr (.fr 0 5) ((cb15 5).ver + 1) 0) (h' := ⟨upd _ 5 ⟨(cb15 5).ver + 1, .cells (c_api_Value (api_Value.mk 0 false 0 [] Sl.nil Sl.nil))⟩, _, _⟩) rfl rfl (op_alloc (c_api_Value (api_Value.mk 0 false 0 [] Sl.nil Sl.nil)) rfl rfl rfl (by simp only [e_api_Value]; rfl)) <| L (.tup []) (h' := ⟨upd _ 5 ⟨(cb15 5).ver + 1, .cells (c_api_Value x3)⟩, _, _⟩) rfl rfl (op_store rfl rfl (st_fr (x := (.agg (c_api_Value x3))) (cs := (c_api_Value (api_Value.mk 0 false 0 [] Sl.nil Sl.nil))) (c_api_Value x3) (by simp only [e_api_Value]; rfl) rfl (by simp only [e_api_Value]; exact Nat.le_of_ble_eq_true rfl) (by simp only [e_api_Value]; rfl))) <| nl <| rg <| L (Sl.lav (.fr 0 5003) o50035.ver l5) rfl rfl rfl <| L (.agg (c_api_Value x3)) rfl rfl (op_load rfl (ld_con (.agg (c_api_Value x3)) rfl rfl (cs := (c_api_Value x3)) (con_fr rfl) (by simp only [e_api_Value]; rfl))) ?_
              obtain ⟨r363, h18, hF1⟩ := bind_some hF1
              refine WO_rd (g := 11) (args := [(.agg (c_api_Value x3))]) (r := (sA r363)) _ _ rfl rfl rfl rfl rfl rfl rfl (ih_gateref1_Written _ h18 _ _ ) <| L (Sl.av 1 c_str (Sl.full [r363] : Sl Str)) rfl rfl (op_sliceN rfl rfl rfl) ?_
              obtain ⟨l7, h_l7, hF1⟩ := bind_some hF1
              refine WO_lzapp (s := 5003) (x := l5) (x' := l7) (o := o50035) (n := 1) (c := c_str) (xs := [r363]) (y := (Sl.av 1 c_str (Sl.full [r363] : Sl Str))) _ rfl rfl rfl rfl rfl rfl rfl rfl rfl rfl rfl rfl (z := [(sA [])]) rfl rfl rfl rfl rfl (by decide) (fun _ => rfl) rfl rfl rfl hz15_0 h_l7 (fun o50037 hz_19 => ?_)
              exact L (Sl.lav (.fr 0 5003) o50037.ver l7) rfl rfl rfl <| nl <| rg <| WO_do (y := (iA ((i + 1 : Nat) : Int))) _ rfl rfl (congrArg (fun n => some (AV.int .i64 n, _)) (range_len hi14 hn14)) <| WO_do (y := (iA ((i + 1 : Nat) : Int))) _ rfl rfl rfl <| nl <| Exists.intro _ (And.intro (Option.some.inj hF1).symm ((hR14 _ _ _).2 ⟨o50037, _, _, rfl, (And.intro rfl (And.intro rfl (And.intro rfl (And.intro rfl True.intro)))), (And.intro rfl True.intro), hz_19⟩))
            · intro v st hr hD1
              obtain ⟨l5, hv_⟩ : ∃ z, z = v := ⟨_, rfl⟩; subst hv_
              obtain ⟨o50035, tm15, cb15, rfl, hT15, hC15, hz15_0⟩ := (hR14 _ _ _).1 hr
              obtain ⟨tm15, rfl⟩ := allEq hT15
              obtain ⟨cb15, rfl⟩ := allEq hC15
              refine sq (rg ?_)
              refine WO_do (y := .bool false) _ rfl rfl (congrArg (fun b => some (AV.bool b, _)) (range_ge _)) (nl ?_)
              refine sq <| cd false rfl (fun h => absurd h (by decide)) (fun _ => ?_)
              exact xt <| (hJ14 _).2 ⟨l5, o50035, _, _, rfl, (And.intro rfl True.intro), (And.intro rfl True.intro), hz15_0, hD1⟩
        · replace hF0 := ite_f hF0 (beq_f hc45)
          refine sq <| rg <| L (bA (v_.Kind == 5)) rfl rfl rfl <| L (bA (v_.Kind == 5)) rfl rfl rfl <| nl <| cd (v_.Kind == 5) rfl (fun hc44 => ?_) (fun hc44 => ?_)
          · replace hF0 := ite_t hF0 (beq_t hc44)
            refine sq <| sq <| rg <| L (.ptr (.fr 0 1) 1 5) rfl rfl rfl <| L (Sl.av 7 c_api_Member v_.Members) rfl rfl (op_load rfl (ld_con (Sl.av 7 c_api_Member v_.Members) rfl rfl (cs := (c_api_Value v_)) (con_fr rfl) (by simp only [e_api_Value]; rfl))) <| L (iA (v_.Members.list.length : Int)) rfl rfl (op_len rfl rfl rfl rfl rfl (len_sl _)) <| L (iA 0) rfl rfl rfl <| nl <| bk ?_
            obtain ⟨b1, hb36, hF0⟩ := bind_some hF0
            obtain ⟨hn36, hb36⟩ := ite_none hb36
            obtain ⟨J36, hJ36⟩ : ∃ J : St → Prop, ∀ st, J st ↔ (∃ (l14 : (Sl Str)) (o500315 : AObj) (tm38 : Nat → AV) (cb38 : AE.Frame), st = ⟨tm38, ⟨cb38, out, glob⟩⟩ ∧ AllEq tm38 [(3, (Sl.lav (.fr 0 5003) o500315.ver l14))] ∧ AllEq cb38 [(5003, o500315)] ∧ LzF 1 c_str o500315 l14 ∧ l14 = b1) := ⟨_, fun _ => Iff.rfl⟩
            obtain ⟨R36, hR36⟩ : ∃ R : Nat → ((Sl Str)) → St → Prop, ∀ i1 v st, R i1 v st ↔ (match v with | l13 => ∃ (o500314 : AObj) (tm37 : Nat → AV) (cb37 : AE.Frame), st = ⟨tm37, ⟨cb37, out, glob⟩⟩ ∧ AllEq tm37 [(3, (Sl.lav (.fr 0 5003) o500314.ver l13)), (47, (Sl.av 7 c_api_Member v_.Members)), (48, (iA (v_.Members.list.length : Int))), (49, (iA ((i1 : Nat) : Int)))] ∧ AllEq cb37 [(5003, o500314)] ∧ LzF 1 c_str o500314 l13) := ⟨_, fun _ _ _ => Iff.rfl⟩
            refine W_loopcut J36 (fun st hst => ?_) ?_
            · obtain ⟨l14, o500315, tm38, cb38, rfl, hT38, hC38, hz38_0, rfl⟩ := (hJ36 st).1 hst
              obtain ⟨tm38, rfl⟩ := allEq hT38
              obtain ⟨cb38, rfl⟩ := allEq hC38
              refine sq <| rg <| WO_lzfrz (s := 5003) (n := 1) (c := c_str) (x := l14) (o := o500315) _ rfl rfl rfl rfl rfl rfl rfl (.inl hz38_0) (fun o500317 hz_43 hv43 => ?_)
              rw [← hv43]
              obtain ⟨r66, h_r66, hF0⟩ := bind_some hF0
              refine L (sA r66) rfl rfl (op_lib _ rfl rfl rfl (x_join_eq h_r66)) ?_
              obtain ⟨r67, h_r67, hF0⟩ := bind_some hF0
              refine L (sA r67) rfl rfl (op_bin rfl (bin_sadd h_r67)) ?_
              obtain ⟨r23, h_r23, hF0⟩ := bind_some hF0
              refine L (sA r23) rfl rfl (op_bin rfl (bin_sadd h_r23)) <| L (sA r23) rfl rfl rfl <| nl <| rt ?_
              obtain rfl := Option.some.inj hF0
              exact rd_leaf (.inr rfl) rfl (retV_pl _ _ (sA r23)) rfl rfl
            · refine W_rangeL hb36 R36 ((hR36 _ _ _).2 ⟨(⟨0, .gone⟩ : AObj), _, _, rfl, (And.intro rfl (And.intro rfl (And.intro rfl (And.intro rfl True.intro)))), (And.intro rfl True.intro), True.intro⟩) ?_ ?_
              · intro i1 hi36 v st s hr hF1 hD1
                obtain ⟨l13, hv_⟩ : ∃ z, z = v := ⟨_, rfl⟩; subst hv_
                obtain ⟨o500314, tm37, cb37, rfl, hT37, hC37, hz37_0⟩ := (hR36 _ _ _).1 hr
                obtain ⟨tm37, rfl⟩ := allEq hT37
                obtain ⟨cb37, rfl⟩ := allEq hC37
                obtain ⟨x7, hx36⟩ : ∃ x, x = v_.Members.list[i1] := ⟨_, rfl⟩
                rw [← hx36] at hF1
                dsimp only [gateref1_Written_l1] at hF1
                refine sq (rg ?_)
                refine WO_do (y := (bA (decide (((i1 : Nat) : Int) < (v_.Members.list.length : Int))))) _ rfl rfl rfl (nl ?_)
                refine sq <| cd true (congrArg some (range_lt hi36)) (fun _ => ?_) (fun h => absurd h (by decide))
                refine sk <| sq <| bk <| sq <| rg <| L (.cptr (c_api_Member x7)) rfl rfl (op_ix rfl ((ix_at (c := c_api_Member) rfl rfl hi36).trans (congrArg (fun x => some (AV.cptr (c_api_Member x))) hx36.symm))) <| L (.agg (c_api_Member x7)) rfl rfl (op_load rfl (ld_cel rfl rfl (by simp only [e_api_Member, e_api_Value]; rfl))) <| L (.ptr (.fr 0 7) ((cb37 7).ver + 1) 0) (h' := ⟨upd _ 7 ⟨(cb37 7).ver + 1, .cells (c_api_Member (api_Member.mk [] (api_Value.mk 0 false 0 [] Sl.nil Sl.nil)))⟩, _, _⟩) rfl rfl (op_alloc (c_api_Member (api_Member.mk [] (api_Value.mk 0 false 0 [] Sl.nil Sl.nil))) rfl rfl rfl (by simp only [e_api_Member, e_api_Value]; rfl)) <| L (.tup []) (h' := ⟨upd _ 7 ⟨(cb37 7).ver + 1, .cells (c_api_Member x7)⟩, _, _⟩) rfl rfl (op_store rfl rfl (st_fr (x := (.agg (c_api_Member x7))) (cs := (c_api_Member (api_Member.mk [] (api_Value.mk 0 false 0 [] Sl.nil Sl.nil)))) (c_api_Member x7) (by simp only [e_api_Member, e_api_Value]; rfl) rfl (by simp only [e_api_Member, e_api_Value]; exact Nat.le_of_ble_eq_true rfl) (by simp only [e_api_Member, e_api_Value]; rfl))) <| nl <| dw (by kernel_rfl) <| L (Sl.lav (.fr 0 5003) o500314.ver l13) rfl rfl rfl <| L (.ptr (.fr 0 7) ((cb37 7).ver + 1) 0) rfl rfl rfl <| L (sA x7.Name) rfl rfl (op_load rfl (ld_con (sA x7.Name) rfl rfl (cs := (c_api_Member x7)) (con_fr rfl) (by simp only [e_api_Member, e_api_Value]; rfl))) ?_
                obtain ⟨r563, h40, hF1⟩ := bind_some hF1
                refine WO_rdA (g := 32) (args := [(sA x7.Name)]) (r := (sA r563)) _ _ rfl rfl rfl rfl rfl rfl rfl (by kernel_rfl) (far_pl (far_nil)) (ok_gateref1_Quoted _ h40 _ _ ) ?_
                obtain ⟨r573, h_r573, hF1⟩ := bind_some hF1
                refine L (sA r573) rfl rfl (op_bin rfl (bin_sadd h_r573)) <| L (.ptr (.fr 0 7) ((cb37 7).ver + 1) 1) rfl rfl rfl <| L (.agg (c_api_Value x7.Value)) rfl rfl (op_loadO rfl rfl (ld_con (.agg (c_api_Value x7.Value)) rfl rfl (cs := (c_api_Member x7)) (con_fr rfl) (by simp only [e_api_Member, e_api_Value]; rfl))) ?_
                obtain ⟨r603, h41, hF1⟩ := bind_some hF1
                refine WO_rd (g := 11) (args := [(.agg (c_api_Value x7.Value))]) (r := (sA r603)) _ _ rfl rfl rfl rfl rfl rfl (by kernel_rfl) (ih_gateref1_Written _ h41 _ _ ) ?_
                obtain ⟨r613, h_r613, hF1⟩ := bind_some hF1
                refine L (sA r613) rfl rfl (op_bin rfl (bin_sadd h_r613)) <| L (Sl.av 1 c_str (Sl.full [r613] : Sl Str)) rfl rfl (op_sliceN rfl rfl rfl) ?_
                obtain ⟨l15, h_l15, hF1⟩ := bind_some hF1
                refine WO_lzapp (s := 5003) (x := l13) (x' := l15) (o := o500314) (n := 1) (c := c_str) (xs := [r613]) (y := (Sl.av 1 c_str (Sl.full [r613] : Sl Str))) _ rfl rfl rfl rfl rfl rfl (by kernel_rfl) rfl rfl rfl rfl rfl (z := [(sA [])]) rfl rfl rfl rfl rfl (by decide) (fun _ => rfl) rfl rfl rfl hz37_0 h_l15 (fun o500316 hz_42 => ?_)
                exact L (Sl.lav (.fr 0 5003) o500316.ver l15) rfl rfl rfl <| nl <| rg <| WO_do (y := (iA ((i1 + 1 : Nat) : Int))) _ rfl rfl (congrArg (fun n => some (AV.int .i64 n, _)) (range_len hi36 hn36)) <| WO_do (y := (iA ((i1 + 1 : Nat) : Int))) _ rfl rfl rfl <| nl <| Exists.intro _ (And.intro (Option.some.inj hF1).symm ((hR36 _ _ _).2 ⟨o500316, _, _, rfl, (And.intro rfl (And.intro rfl (And.intro rfl (And.intro rfl True.intro)))), (And.intro rfl True.intro), hz_42⟩))
              · intro v st hr hD1
                obtain ⟨l13, hv_⟩ : ∃ z, z = v := ⟨_, rfl⟩; subst hv_
                obtain ⟨o500314, tm37, cb37, rfl, hT37, hC37, hz37_0⟩ := (hR36 _ _ _).1 hr
                obtain ⟨tm37, rfl⟩ := allEq hT37
                obtain ⟨cb37, rfl⟩ := allEq hC37
                refine sq (rg ?_)
                refine WO_do (y := .bool false) _ rfl rfl (congrArg (fun b => some (AV.bool b, _)) (range_ge _)) (nl ?_)
                refine sq <| cd false rfl (fun h => absurd h (by decide)) (fun _ => ?_)
                exact xt <| (hJ36 _).2 ⟨l13, o500314, _, _, rfl, (And.intro rfl True.intro), (And.intro rfl True.intro), hz37_0, hD1⟩
          · replace hF0 := ite_f hF0 (beq_f hc44)
            refine sk <| sq <| rg <| L (sA [110, 117, 108, 108]) rfl rfl rfl <| nl <| rt ?_
            obtain rfl := Option.some.inj hF0
            exact rd_leaf (.inr rfl) rfl (retV_pl _ _ (sA [110, 117, 108, 108])) rfl rfl
theorem ok_gateref1_Written (k : Nat) : (∀ (v_ : api_Value) {r : (Str)} (hF0 : gateref1_Written k v_ = some r) (out : List AE.Frame) (glob : List AObj), RdOk Tryd.prog pol false 11 [(.agg (c_api_Value v_))] out glob (sA r)) := (okg_gateref1_Written k)

theorem ok_gatelaw1_valued (k : Nat)  {r : (Bool)} (hF0 : gatelaw1_valued k = some r) (out : List AE.Frame) (glob : List AObj) : RdOk Tryd.prog pol false 13 [] out glob (bA r) := by
 unfold gatelaw1_valued at hF0
 refine rd_walkF Tryd.func13 rfl (Nat.not_lt.2 (Nat.le_of_ble_eq_true rfl)) <| sq <| rg <| L (bA false) rfl rfl rfl <| nl <| sq <| rg <| L (.agg (c_api_Value (api_Value.mk 0 false 0 [] Sl.nil Sl.nil))) rfl rfl (op_build rfl (build_eq (cs := (c_api_Value (api_Value.mk 0 false 0 [] Sl.nil Sl.nil))) rfl rfl rfl (fill_nil) (by simp only [e_api_Value]; rfl))) <| L (Sl.av 6 c_api_Value (Sl.full [(api_Value.mk 0 false 0 [] Sl.nil Sl.nil)] : Sl api_Value)) rfl rfl (op_sliceN rfl rfl (slice_of rfl rfl rfl (by decide) (fillS_cons (x := (.agg (c_api_Value (api_Value.mk 0 false 0 [] Sl.nil Sl.nil)))) (by simp only [e_api_Value]; rfl) (Nat.le_of_ble_eq_true rfl) (fillS_nil)))) <| L (.agg (c_api_Value (api_Value.mk 4 false 0 [] (Sl.full [(api_Value.mk 0 false 0 [] Sl.nil Sl.nil)] : Sl api_Value) Sl.nil))) rfl rfl (op_build rfl (build_eq (cs := (c_api_Value (api_Value.mk 4 false 0 [] (Sl.full [(api_Value.mk 0 false 0 [] Sl.nil Sl.nil)] : Sl api_Value) Sl.nil))) rfl rfl rfl (fill_cons (x := (iA 4)) rfl rfl (Nat.le_of_ble_eq_true rfl) (fill_cons (x := (Sl.av 6 c_api_Value (Sl.full [(api_Value.mk 0 false 0 [] Sl.nil Sl.nil)] : Sl api_Value))) rfl rfl (Nat.le_of_ble_eq_true rfl) (fill_nil))) (by simp only [e_api_Value]; rfl))) ?_
 obtain ⟨⟨s_, e⟩, h1, hF0⟩ := bind_some hF0
 refine WO_rd (g := 8) (args := [(.agg (c_api_Value (api_Value.mk 4 false 0 [] (Sl.full [(api_Value.mk 0 false 0 [] Sl.nil Sl.nil)] : Sl api_Value) Sl.nil)))]) (r := (.tup [(sA s_), (iA e)])) _ _ rfl rfl rfl rfl rfl rfl rfl (ok_value_Text _ _ h1 _ _ ) <| L (.tup [(sA s_), (iA e)]) rfl rfl rfl <| L (sA s_) rfl rfl rfl <| L (iA e) rfl rfl rfl <| L (sA s_) rfl rfl rfl <| L (iA e) rfl rfl rfl <| nl <| sq <| rg <| L (iA e) rfl rfl rfl <| L (bA (e == 0)) rfl rfl rfl ?_
 obtain ⟨J2, hJ2⟩ : ∃ J : St → Prop, ∀ st, J st ↔ (∃ (tm3 : Nat → AV) (cb3 : AE.Frame), st = ⟨tm3, ⟨cb3, out, glob⟩⟩ ∧ AllEq tm3 [(15, (bA ((e == 0) && (s_ == [91, 110, 117, 108, 108, 93]))))] ∧ AllEq cb3 []) := ⟨_, fun _ => Iff.rfl⟩
 refine WO_cut 4 J2 (fun st hst => ?_) ?_
 · obtain ⟨tm3, cb3, rfl, hT3, hC3⟩ := (hJ2 st).1 hst
   obtain ⟨tm3, rfl⟩ := allEq hT3
   obtain ⟨cb3, rfl⟩ := allEq hC3
   refine L (bA ((e == 0) && (s_ == [91, 110, 117, 108, 108, 93]))) rfl rfl rfl <| nl <| rt ?_
   obtain rfl := Option.some.inj hF0
   exact rd_leaf (.inr rfl) rfl (retV_pl _ _ (bA ((e == 0) && (s_ == [91, 110, 117, 108, 108, 93])))) rfl rfl
 · rcases bool_cases (e == 0) with hc2 | hc2
   · exact L (.bool true) rfl rfl (congrArg (fun b => some (AV.bool b, _)) hc2) <| L (sA s_) rfl rfl rfl <| L (bA (s_ == [91, 110, 117, 108, 108, 93])) rfl rfl (op_bin rfl bin_seq) <| L (bA ((e == 0) && (s_ == [91, 110, 117, 108, 108, 93]))) rfl rfl (congrArg (fun b => some (AV.bool b, _)) (by rw [hc2]; rfl)) <| nl ((hJ2 _).2 ⟨_, _, rfl, (And.intro rfl True.intro), True.intro⟩)
   · exact L (.bool false) rfl rfl (congrArg (fun b => some (AV.bool b, _)) hc2) <| WO_no _ rfl rfl <| WO_no _ rfl rfl <| L (bA ((e == 0) && (s_ == [91, 110, 117, 108, 108, 93]))) rfl rfl (congrArg (fun b => some (AV.bool b, _)) (by rw [hc2]; rfl)) <| nl ((hJ2 _).2 ⟨_, _, rfl, (And.intro rfl True.intro), True.intro⟩)

theorem okg_gateref1_Order (k : Nat) : (∀ (a : api_Value) (b : api_Value) {r : (Int)} (hF0 : gateref1_Order k a b = some r) (out : List AE.Frame) (glob : List AObj), RdOk Tryd.prog pol true 14 [(.agg (c_api_Value a)), (.agg (c_api_Value b))] out glob (iA r)) ∧ (∀ (s1 : (Sl api_Value)) (s2 : (Sl api_Value)) {r : (Int)} (hF0 : slices_CompareFunc_api_Value_api_Value_api_Value_api_Value__gateref1_Order k s1 s2 = some r) (out : List AE.Frame) (glob : List AObj), RdOk Tryd.prog pol true 37 [(Sl.av 6 c_api_Value s1), (Sl.av 6 c_api_Value s2), (.fn (.func 14) [] [])] out glob (iA r)) ∧ (∀ (x : api_Member) (y : api_Member) {r : (Int)} (hF0 : gateref1_Order_1 k x y = some r) (out : List AE.Frame) (glob : List AObj), RdOk Tryd.prog pol true 39 [(.agg (c_api_Member x)), (.agg (c_api_Member y))] out glob (iA r)) ∧ (∀ (s1 : (Sl api_Member)) (s2 : (Sl api_Member)) {r : (Int)} (hF0 : slices_CompareFunc_api_Member_api_Member_api_Member_api_Member__gateref1_Order_1 k s1 s2 = some r) (out : List AE.Frame) (glob : List AObj), RdOk Tryd.prog pol true 38 [(Sl.av 7 c_api_Member s1), (Sl.av 7 c_api_Member s2), (.fn (.func 39) [] [])] out glob (iA r)) := by
 induction k with
 | zero => exact ⟨(by intro a b r hF0 out glob; rw [gateref1_Order] at hF0; cases hF0), (by intro s1 s2 r hF0 out glob; rw [slices_CompareFunc_api_Value_api_Value_api_Value_api_Value__gateref1_Order] at hF0; cases hF0), (by intro x y r hF0 out glob; rw [gateref1_Order_1] at hF0; cases hF0), (by intro s1 s2 r hF0 out glob; rw [slices_CompareFunc_api_Member_api_Member_api_Member_api_Member__gateref1_Order_1] at hF0; cases hF0)⟩
 | succ k ih =>
  obtain ⟨ih_gateref1_Order, ih_slices_CompareFunc_api_Value_api_Value_api_Value_api_Value__gateref1_Order, ih_gateref1_Order_1, ih_slices_CompareFunc_api_Member_api_Member_api_Member_api_Member__gateref1_Order_1⟩ := ih
  refine ⟨?_, ?_, ?_, ?_⟩
  · intro a b r hF0 out glob
    rw [gateref1_Order] at hF0
    refine rd_walk Tryd.func14 rfl (Nat.not_lt.2 (Nat.le_of_ble_eq_true rfl)) ?_
    intro ro
    refine sq <| rg <| L (.ptr (.fr 0 2) 1 0) (h' := ⟨upd _ 2 ⟨1, .cells (c_api_Value a)⟩, _, _⟩) rfl rfl (op_box (x' := (.agg (c_api_Value a))) rfl rfl rfl rfl) <| L (.ptr (.fr 0 3) 1 0) (h' := ⟨upd _ 3 ⟨1, .cells (c_api_Value b)⟩, _, _⟩) rfl rfl (op_box (x' := (.agg (c_api_Value b))) rfl rfl rfl rfl) <| L (iA 0) rfl rfl rfl <| nl <| sq <| sq <| rg <| L (.ptr (.fr 0 2) 1 0) rfl rfl rfl <| L (iA a.Kind) rfl rfl (op_load rfl (ld_con (iA a.Kind) rfl rfl (cs := (c_api_Value a)) (con_fr rfl) (by simp only [e_api_Value]; rfl))) <| L (.ptr (.fr 0 3) 1 0) rfl rfl rfl <| L (iA b.Kind) rfl rfl (op_load rfl (ld_con (iA b.Kind) rfl rfl (cs := (c_api_Value b)) (con_fr rfl) (by simp only [e_api_Value]; rfl))) <| L (bA (a.Kind != b.Kind)) rfl rfl rfl <| nl <| cd (a.Kind != b.Kind) rfl (fun hc7 => ?_) (fun hc7 => ?_)
    · replace hF0 := ite_t hF0 (bne_t hc7)
      refine sq <| rg <| L (.ptr (.fr 0 2) 1 0) rfl rfl rfl <| L (iA a.Kind) rfl rfl (op_load rfl (ld_con (iA a.Kind) rfl rfl (cs := (c_api_Value a)) (con_fr rfl) (by simp only [e_api_Value]; rfl))) <| L (.ptr (.fr 0 3) 1 0) rfl rfl rfl <| L (iA b.Kind) rfl rfl (op_load rfl (ld_con (iA b.Kind) rfl rfl (cs := (c_api_Value b)) (con_fr rfl) (by simp only [e_api_Value]; rfl))) ?_
      obtain ⟨r4, h1, hF0⟩ := bind_some hF0
      refine WO_rd (g := 34) (args := [(iA a.Kind), (iA b.Kind)]) (r := (iA r4)) _ _ rfl rfl rfl rfl rfl rfl rfl (ok_cmp_Compare_int _ _ h1 _ _ ) <| L (iA r4) rfl rfl rfl <| nl <| rt ?_
      obtain rfl := Option.some.inj hF0
      exact rd_leaf (.inr rfl) rfl (retV_pl _ _ (iA r4)) rfl rfl
    · replace hF0 := ite_f hF0 (bne_f hc7)
      refine sk <| sq <| rg <| L (.mp (.fr 0 16) 1) (h' := ⟨upd _ 16 ⟨1, (.map [])⟩, _, _⟩) rfl rfl (op_makeMap rfl rfl rfl) <| L (.tup []) (h' := ⟨upd _ 16 ⟨1, (.map [((bA true), (iA 1))])⟩, _, _⟩) rfl rfl (op_insert (a := (iA 1)) rfl rfl rfl rfl rfl rfl rfl rfl) <| L (.mp (.fr 0 16) 1) rfl rfl rfl <| L (.mp (.fr 0 16) 1) rfl rfl rfl <| nl <| sq <| dw (by kernel_rfl) <| L (.mp (.fr 0 16) 1) rfl rfl rfl <| L (.ptr (.fr 0 2) 1 1) rfl rfl rfl <| L (bA a.Flag) rfl rfl (op_load rfl (ld_con (bA a.Flag) rfl rfl (cs := (c_api_Value a)) (con_fr rfl) (by simp only [e_api_Value]; rfl))) <| L (iA (if a.Flag then 1 else 0)) rfl rfl (op_lookupB (b := a.Flag) (n := 1) (z := 0) rfl rfl rfl rfl rfl rfl rfl) <| L (.mp (.fr 0 16) 1) rfl rfl rfl <| L (.ptr (.fr 0 3) 1 1) rfl rfl rfl <| L (bA b.Flag) rfl rfl (op_load rfl (ld_con (bA b.Flag) rfl rfl (cs := (c_api_Value b)) (con_fr rfl) (by simp only [e_api_Value]; rfl))) <| L (iA (if b.Flag then 1 else 0)) rfl rfl (op_lookupB (b := b.Flag) (n := 1) (z := 0) rfl rfl rfl rfl rfl rfl rfl) ?_
      obtain ⟨r26, h2, hF0⟩ := bind_some hF0
      refine WO_rd (g := 34) (args := [(iA (if a.Flag then 1 else 0)), (iA (if b.Flag then 1 else 0))]) (r := (iA r26)) _ _ rfl rfl rfl rfl rfl rfl rfl (ok_cmp_Compare_int _ _ h2 _ _ ) <| L (.ptr (.fr 0 2) 1 2) rfl rfl rfl <| L (iA a.Number) rfl rfl (op_load rfl (ld_con (iA a.Number) rfl rfl (cs := (c_api_Value a)) (con_fr rfl) (by simp only [e_api_Value]; rfl))) <| L (.ptr (.fr 0 3) 1 2) rfl rfl rfl <| L (iA b.Number) rfl rfl (op_load rfl (ld_con (iA b.Number) rfl rfl (cs := (c_api_Value b)) (con_fr rfl) (by simp only [e_api_Value]; rfl))) ?_
      obtain ⟨r31, h3, hF0⟩ := bind_some hF0
      refine WO_rd (g := 34) (args := [(iA a.Number), (iA b.Number)]) (r := (iA r31)) _ _ rfl rfl rfl rfl rfl rfl rfl (ok_cmp_Compare_int _ _ h3 _ _ ) <| L (.ptr (.fr 0 2) 1 3) rfl rfl rfl <| L (sA a.Words) rfl rfl (op_load rfl (ld_con (sA a.Words) rfl rfl (cs := (c_api_Value a)) (con_fr rfl) (by simp only [e_api_Value]; rfl))) <| L (.ptr (.fr 0 3) 1 3) rfl rfl rfl <| L (sA b.Words) rfl rfl (op_load rfl (ld_con (sA b.Words) rfl rfl (cs := (c_api_Value b)) (con_fr rfl) (by simp only [e_api_Value]; rfl))) <| L (iA (Go.Lib.compareBytes a.Words b.Words)) rfl rfl (op_lib _ rfl rfl rfl rfl) <| L (.ptr (.fr 0 2) 1 4) rfl rfl rfl <| L (Sl.av 6 c_api_Value a.List) rfl rfl (op_load rfl (ld_con (Sl.av 6 c_api_Value a.List) rfl rfl (cs := (c_api_Value a)) (con_fr rfl) (by simp only [e_api_Value]; rfl))) <| L (.ptr (.fr 0 3) 1 4) rfl rfl rfl <| L (Sl.av 6 c_api_Value b.List) rfl rfl (op_load rfl (ld_con (Sl.av 6 c_api_Value b.List) rfl rfl (cs := (c_api_Value b)) (con_fr rfl) (by simp only [e_api_Value]; rfl))) ?_
      obtain ⟨r41, h4, hF0⟩ := bind_some hF0
      refine WO_rd (g := 37) (args := [(Sl.av 6 c_api_Value a.List), (Sl.av 6 c_api_Value b.List), (.fn (.func 14) [] [])]) (r := (iA r41)) _ _ rfl rfl rfl rfl rfl rfl rfl (ih_slices_CompareFunc_api_Value_api_Value_api_Value_api_Value__gateref1_Order _ _ h4 _ _ ) <| L (.ptr (.fr 0 2) 1 5) rfl rfl rfl <| L (Sl.av 7 c_api_Member a.Members) rfl rfl (op_load rfl (ld_con (Sl.av 7 c_api_Member a.Members) rfl rfl (cs := (c_api_Value a)) (con_fr rfl) (by simp only [e_api_Value]; rfl))) <| L (.ptr (.fr 0 3) 1 5) rfl rfl rfl <| L (Sl.av 7 c_api_Member b.Members) rfl rfl (op_load rfl (ld_con (Sl.av 7 c_api_Member b.Members) rfl rfl (cs := (c_api_Value b)) (con_fr rfl) (by simp only [e_api_Value]; rfl))) ?_
      obtain ⟨r46, h5, hF0⟩ := bind_some hF0
      refine WO_rd (g := 38) (args := [(Sl.av 7 c_api_Member a.Members), (Sl.av 7 c_api_Member b.Members), (.fn (.func 39) [] [])]) (r := (iA r46)) _ _ rfl rfl rfl rfl rfl rfl rfl (ih_slices_CompareFunc_api_Member_api_Member_api_Member_api_Member__gateref1_Order_1 _ _ h5 _ _ ) <| L (Sl.av 1 c_i64 (Sl.full [r26, r31, Go.Lib.compareBytes a.Words b.Words, r41, r46] : Sl Int)) rfl rfl (op_sliceN rfl rfl rfl) ?_
      obtain ⟨r42, h6, hF0⟩ := bind_some hF0
      refine WO_rd (g := 35) (args := [(Sl.av 1 c_i64 (Sl.full [r26, r31, Go.Lib.compareBytes a.Words b.Words, r41, r46] : Sl Int))]) (r := (iA r42)) _ _ rfl rfl rfl rfl rfl rfl rfl (ok_cmp_Or_int _ h6 _ _ ) <| L (iA r42) rfl rfl rfl <| nl <| rt ?_
      obtain rfl := Option.some.inj hF0
      exact rd_leaf (.inr rfl) rfl (retV_pl _ _ (iA r42)) rfl rfl
  · intro s1 s2 r hF0 out glob
    rw [slices_CompareFunc_api_Value_api_Value_api_Value_api_Value__gateref1_Order] at hF0
    refine rd_walk Tryd.func37 rfl (Nat.not_lt.2 (Nat.le_of_ble_eq_true rfl)) ?_
    intro ro
    refine sq <| rg <| L (iA 0) rfl rfl rfl <| nl <| sq <| sq <| rg <| L (Sl.av 6 c_api_Value s1) rfl rfl rfl <| L (iA (s1.list.length : Int)) rfl rfl (op_len rfl rfl rfl rfl rfl (len_sl _)) <| L (iA 0) rfl rfl rfl <| nl <| bk ?_
    obtain ⟨b1, hb6, hF0⟩ := bind_some hF0
    obtain ⟨hn6, hb6⟩ := ite_none hb6
    obtain ⟨J6, hJ6⟩ : ∃ J : St → Prop, ∀ st, J st ↔ (∃ (tm8 : Nat → AV) (cb8 : AE.Frame), st = ⟨tm8, ⟨cb8, out, glob⟩⟩ ∧ AllEq tm8 [(0, (Sl.av 6 c_api_Value s1)), (1, (Sl.av 6 c_api_Value s2))] ∧ AllEq cb8 [] ∧ Res.out () = b1) := ⟨_, fun _ => Iff.rfl⟩
    obtain ⟨R6, hR6⟩ : ∃ R : Nat → (Unit) → St → Prop, ∀ i v st, R i v st ↔ (match v with | () => ∃ (tm7 : Nat → AV) (cb7 : AE.Frame), st = ⟨tm7, ⟨cb7, out, glob⟩⟩ ∧ AllEq tm7 [(0, (Sl.av 6 c_api_Value s1)), (1, (Sl.av 6 c_api_Value s2)), (2, (.fn (.func 14) [] [])), (11, (Sl.av 6 c_api_Value s1)), (12, (iA (s1.list.length : Int))), (13, (iA ((i : Nat) : Int)))] ∧ AllEq cb7 []) := ⟨_, fun _ _ _ => Iff.rfl⟩
    refine W_loopcut J6 (fun st hst => ?_) ?_
    · obtain ⟨tm8, cb8, rfl, hT8, hC8, rfl⟩ := (hJ6 st).1 hst
      obtain ⟨tm8, rfl⟩ := allEq hT8
      obtain ⟨cb8, rfl⟩ := allEq hC8
      replace hF0 := res_out hF0
      refine sq <| sq <| rg <| L (Sl.av 6 c_api_Value s1) rfl rfl rfl <| L (iA (s1.list.length : Int)) rfl rfl (op_len rfl rfl rfl rfl rfl (len_sl _)) <| L (Sl.av 6 c_api_Value s2) rfl rfl rfl <| L (iA (s2.list.length : Int)) rfl rfl (op_len rfl rfl rfl rfl rfl (len_sl _)) <| L (bA (decide ((s1.list.length : Int) < (s2.list.length : Int)))) rfl rfl rfl <| nl <| cd (decide ((s1.list.length : Int) < (s2.list.length : Int))) rfl (fun hc13 => ?_) (fun hc13 => ?_)
      · replace hF0 := ite_t hF0 (dec_t hc13)
        refine sq <| rg <| L (iA (-1)) rfl rfl rfl <| nl <| rt ?_
        obtain rfl := Option.some.inj hF0
        exact rd_leaf (.inr rfl) rfl (retV_pl _ _ (iA (-1))) rfl rfl
      · replace hF0 := ite_f hF0 (dec_f hc13)
        refine sk <| sq <| rg <| L (iA 0) rfl rfl rfl <| nl <| rt ?_
        obtain rfl := Option.some.inj hF0
        exact rd_leaf (.inr rfl) rfl (retV_pl _ _ (iA 0)) rfl rfl
    · refine W_rangeL hb6 R6 ((hR6 _ _ _).2 ⟨_, _, rfl, (And.intro rfl (And.intro rfl (And.intro rfl (And.intro rfl (And.intro rfl (And.intro rfl True.intro)))))), True.intro⟩) ?_ ?_
      · intro i hi6 v st s hr hF1 hD1
        obtain ⟨⟩ := v
        obtain ⟨tm7, cb7, rfl, hT7, hC7⟩ := (hR6 _ _ _).1 hr
        obtain ⟨tm7, rfl⟩ := allEq hT7
        obtain ⟨cb7, rfl⟩ := allEq hC7
        obtain ⟨x2, hx6⟩ : ∃ x, x = s1.list[i] := ⟨_, rfl⟩
        rw [← hx6] at hF1
        dsimp only [slices_CompareFunc_api_Value_api_Value_api_Value_api_Value__gateref1_Order_l0] at hF1
        refine sq (rg ?_)
        refine WO_do (y := (bA (decide (((i : Nat) : Int) < (s1.list.length : Int))))) _ rfl rfl rfl (nl ?_)
        refine sq <| cd true (congrArg some (range_lt hi6)) (fun _ => ?_) (fun h => absurd h (by decide))
        refine sk <| sq <| bk <| sq <| rg <| L (iA ((i : Nat) : Int)) rfl rfl rfl <| L (.cptr (c_api_Value x2)) rfl rfl (op_ix rfl ((ix_at (c := c_api_Value) rfl rfl hi6).trans (congrArg (fun x => some (AV.cptr (c_api_Value x))) hx6.symm))) <| L (.agg (c_api_Value x2)) rfl rfl (op_load rfl (ld_cel rfl rfl (by simp only [e_api_Value]; rfl))) <| L (.ptr (.fr 0 8) ((cb7 8).ver + 1) 0) (h' := ⟨upd _ 8 ⟨(cb7 8).ver + 1, .cells (c_api_Value (api_Value.mk 0 false 0 [] Sl.nil Sl.nil))⟩, _, _⟩) rfl rfl (op_alloc (c_api_Value (api_Value.mk 0 false 0 [] Sl.nil Sl.nil)) rfl rfl rfl (by simp only [e_api_Value]; rfl)) <| L (iA ((i : Nat) : Int)) rfl rfl rfl <| L (.tup []) (h' := ⟨upd _ 8 ⟨(cb7 8).ver + 1, .cells (c_api_Value x2)⟩, _, _⟩) rfl rfl (op_store rfl rfl (st_fr (x := (.agg (c_api_Value x2))) (cs := (c_api_Value (api_Value.mk 0 false 0 [] Sl.nil Sl.nil))) (c_api_Value x2) (by simp only [e_api_Value]; rfl) rfl (by simp only [e_api_Value]; exact Nat.le_of_ble_eq_true rfl) (by simp only [e_api_Value]; rfl))) <| nl <| sq <| sq <| rg <| L (iA ((i : Nat) : Int)) rfl rfl rfl <| L (Sl.av 6 c_api_Value s2) rfl rfl rfl <| L (iA (s2.list.length : Int)) rfl rfl (op_len rfl rfl rfl rfl rfl (len_sl _)) <| L (bA (decide (((i : Nat) : Int) ≥ (s2.list.length : Int)))) rfl rfl rfl <| nl <| cd (decide (((i : Nat) : Int) ≥ (s2.list.length : Int))) rfl (fun hc12 => ?_) (fun hc12 => ?_)
        · replace hF1 := ite_t hF1 (dec_t hc12)
          refine sq <| rg <| L (iA 1) rfl rfl rfl <| nl <| rt ?_
          obtain rfl := hD1 _ (Option.some.inj hF1).symm
          replace hF0 := res_ret hF0
          obtain rfl := Option.some.inj hF0
          exact rd_leaf (.inr rfl) rfl (retV_pl _ _ (iA 1)) rfl rfl
        · replace hF1 := ite_f hF1 (dec_f hc12)
          refine sk <| sq <| rg <| L (Sl.av 6 c_api_Value s2) rfl rfl rfl <| L (iA ((i : Nat) : Int)) rfl rfl rfl ?_
          obtain ⟨x3, h_x3, hF1⟩ := bind_some hF1
          refine L (.cptr (c_api_Value x3)) rfl rfl (op_ix rfl (ix_sl (c := c_api_Value) rfl rfl h_x3)) <| L (.agg (c_api_Value x3)) rfl rfl (op_load rfl (ld_cel rfl rfl (by simp only [e_api_Value]; rfl))) <| L (.ptr (.fr 0 9) ((cb7 9).ver + 1) 0) (h' := ⟨upd _ 9 ⟨(cb7 9).ver + 1, .cells (c_api_Value (api_Value.mk 0 false 0 [] Sl.nil Sl.nil))⟩, _, _⟩) rfl rfl (op_alloc (c_api_Value (api_Value.mk 0 false 0 [] Sl.nil Sl.nil)) rfl rfl rfl (by simp only [e_api_Value]; rfl)) <| L (.tup []) (h' := ⟨upd _ 9 ⟨(cb7 9).ver + 1, .cells (c_api_Value x3)⟩, _, _⟩) rfl rfl (op_store rfl rfl (st_fr (x := (.agg (c_api_Value x3))) (cs := (c_api_Value (api_Value.mk 0 false 0 [] Sl.nil Sl.nil))) (c_api_Value x3) (by simp only [e_api_Value]; rfl) rfl (by simp only [e_api_Value]; exact Nat.le_of_ble_eq_true rfl) (by simp only [e_api_Value]; rfl))) <| nl <| sq <| rg <| L (.fn (.func 14) [] []) rfl rfl rfl <| L (.agg (c_api_Value x2)) rfl rfl (op_load rfl (ld_con (.agg (c_api_Value x2)) rfl rfl (cs := (c_api_Value x2)) (con_fr rfl) (by simp only [e_api_Value]; rfl))) <| L (.agg (c_api_Value x3)) rfl rfl (op_load rfl (ld_con (.agg (c_api_Value x3)) rfl rfl (cs := (c_api_Value x3)) (con_fr rfl) (by simp only [e_api_Value]; rfl))) ?_
          obtain ⟨c1, h10, hF1⟩ := bind_some hF1
          refine WO_rd (g := 14) (args := [(.agg (c_api_Value x2)), (.agg (c_api_Value x3))]) (r := (iA c1)) _ _ rfl rfl rfl rfl rfl rfl rfl (ih_gateref1_Order _ _ h10 _ _ ) <| L (iA c1) rfl rfl rfl <| nl <| sq <| rg <| L (iA c1) rfl rfl rfl <| L (bA (c1 != 0)) rfl rfl rfl <| nl <| cd (c1 != 0) rfl (fun hc11 => ?_) (fun hc11 => ?_)
          · replace hF1 := ite_t hF1 (bne_t hc11)
            refine sq <| rg <| L (iA c1) rfl rfl rfl <| L (iA c1) rfl rfl rfl <| nl <| rt ?_
            obtain rfl := hD1 _ (Option.some.inj hF1).symm
            replace hF0 := res_ret hF0
            obtain rfl := Option.some.inj hF0
            exact rd_leaf (.inr rfl) rfl (retV_pl _ _ (iA c1)) rfl rfl
          · replace hF1 := ite_f hF1 (bne_f hc11)
            exact sk <| rg <| WO_do (y := (iA ((i + 1 : Nat) : Int))) _ rfl rfl (congrArg (fun n => some (AV.int .i64 n, _)) (range_len hi6 hn6)) <| WO_do (y := (iA ((i + 1 : Nat) : Int))) _ rfl rfl rfl <| nl <| Exists.intro _ (And.intro (Option.some.inj hF1).symm ((hR6 _ _ _).2 ⟨_, _, rfl, (And.intro rfl (And.intro rfl (And.intro rfl (And.intro rfl (And.intro rfl (And.intro rfl True.intro)))))), True.intro⟩))
      · intro v st hr hD1
        obtain ⟨⟩ := v
        obtain ⟨tm7, cb7, rfl, hT7, hC7⟩ := (hR6 _ _ _).1 hr
        obtain ⟨tm7, rfl⟩ := allEq hT7
        obtain ⟨cb7, rfl⟩ := allEq hC7
        refine sq (rg ?_)
        refine WO_do (y := .bool false) _ rfl rfl (congrArg (fun b => some (AV.bool b, _)) (range_ge _)) (nl ?_)
        refine sq <| cd false rfl (fun h => absurd h (by decide)) (fun _ => ?_)
        exact xt <| (hJ6 _).2 ⟨_, _, rfl, (And.intro rfl (And.intro rfl True.intro)), True.intro, hD1⟩
  · intro x y r hF0 out glob
    rw [gateref1_Order_1] at hF0
    refine rd_walk Tryd.func39 rfl (Nat.not_lt.2 (Nat.le_of_ble_eq_true rfl)) ?_
    intro ro
    refine sq <| rg <| L (.ptr (.fr 0 2) 1 0) (h' := ⟨upd _ 2 ⟨1, .cells (c_api_Member x)⟩, _, _⟩) rfl rfl (op_box (x' := (.agg (c_api_Member x))) rfl rfl rfl rfl) <| L (.ptr (.fr 0 3) 1 0) (h' := ⟨upd _ 3 ⟨1, .cells (c_api_Member y)⟩, _, _⟩) rfl rfl (op_box (x' := (.agg (c_api_Member y))) rfl rfl rfl rfl) <| L (iA 0) rfl rfl rfl <| nl <| sq <| dw (by kernel_rfl) <| L (.ptr (.fr 0 2) 1 0) rfl rfl rfl <| L (sA x.Name) rfl rfl (op_load rfl (ld_con (sA x.Name) rfl rfl (cs := (c_api_Member x)) (con_fr rfl) (by simp only [e_api_Member, e_api_Value]; rfl))) <| L (.ptr (.fr 0 3) 1 0) rfl rfl rfl <| L (sA y.Name) rfl rfl (op_load rfl (ld_con (sA y.Name) rfl rfl (cs := (c_api_Member y)) (con_fr rfl) (by simp only [e_api_Member, e_api_Value]; rfl))) <| L (iA (Go.Lib.compareBytes x.Name y.Name)) rfl rfl (op_lib _ rfl rfl rfl rfl) <| L (.ptr (.fr 0 2) 1 1) rfl rfl rfl <| L (.agg (c_api_Value x.Value)) rfl rfl (op_load rfl (ld_con (.agg (c_api_Value x.Value)) rfl rfl (cs := (c_api_Member x)) (con_fr rfl) (by simp only [e_api_Member, e_api_Value]; rfl))) <| L (.ptr (.fr 0 3) 1 1) rfl rfl rfl <| L (.agg (c_api_Value y.Value)) rfl rfl (op_load rfl (ld_con (.agg (c_api_Value y.Value)) rfl rfl (cs := (c_api_Member y)) (con_fr rfl) (by simp only [e_api_Member, e_api_Value]; rfl))) ?_
    obtain ⟨r14, h1, hF0⟩ := bind_some hF0
    refine WO_rd (g := 14) (args := [(.agg (c_api_Value x.Value)), (.agg (c_api_Value y.Value))]) (r := (iA r14)) _ _ rfl rfl rfl rfl rfl rfl rfl (ih_gateref1_Order _ _ h1 _ _ ) <| L (Sl.av 1 c_i64 (Sl.full [Go.Lib.compareBytes x.Name y.Name, r14] : Sl Int)) rfl rfl (op_sliceN rfl rfl rfl) ?_
    obtain ⟨r4, h2, hF0⟩ := bind_some hF0
    refine WO_rd (g := 35) (args := [(Sl.av 1 c_i64 (Sl.full [Go.Lib.compareBytes x.Name y.Name, r14] : Sl Int))]) (r := (iA r4)) _ _ rfl rfl rfl rfl rfl rfl rfl (ok_cmp_Or_int _ h2 _ _ ) <| L (iA r4) rfl rfl rfl <| nl <| rt ?_
    obtain rfl := Option.some.inj hF0
    exact rd_leaf (.inr rfl) rfl (retV_pl _ _ (iA r4)) rfl rfl
  · intro s1 s2 r hF0 out glob
    rw [slices_CompareFunc_api_Member_api_Member_api_Member_api_Member__gateref1_Order_1] at hF0
    refine rd_walk Tryd.func38 rfl (Nat.not_lt.2 (Nat.le_of_ble_eq_true rfl)) ?_
    intro ro
    refine sq <| rg <| L (iA 0) rfl rfl rfl <| nl <| sq <| sq <| rg <| L (Sl.av 7 c_api_Member s1) rfl rfl rfl <| L (iA (s1.list.length : Int)) rfl rfl (op_len rfl rfl rfl rfl rfl (len_sl _)) <| L (iA 0) rfl rfl rfl <| nl <| bk ?_
    obtain ⟨b1, hb6, hF0⟩ := bind_some hF0
    obtain ⟨hn6, hb6⟩ := ite_none hb6
    obtain ⟨J6, hJ6⟩ : ∃ J : St → Prop, ∀ st, J st ↔ (∃ (tm8 : Nat → AV) (cb8 : AE.Frame), st = ⟨tm8, ⟨cb8, out, glob⟩⟩ ∧ AllEq tm8 [(0, (Sl.av 7 c_api_Member s1)), (1, (Sl.av 7 c_api_Member s2))] ∧ AllEq cb8 [] ∧ Res.out () = b1) := ⟨_, fun _ => Iff.rfl⟩
    obtain ⟨R6, hR6⟩ : ∃ R : Nat → (Unit) → St → Prop, ∀ i v st, R i v st ↔ (match v with | () => ∃ (tm7 : Nat → AV) (cb7 : AE.Frame), st = ⟨tm7, ⟨cb7, out, glob⟩⟩ ∧ AllEq tm7 [(0, (Sl.av 7 c_api_Member s1)), (1, (Sl.av 7 c_api_Member s2)), (2, (.fn (.func 39) [] [])), (11, (Sl.av 7 c_api_Member s1)), (12, (iA (s1.list.length : Int))), (13, (iA ((i : Nat) : Int)))] ∧ AllEq cb7 []) := ⟨_, fun _ _ _ => Iff.rfl⟩
    refine W_loopcut J6 (fun st hst => ?_) ?_
    · obtain ⟨tm8, cb8, rfl, hT8, hC8, rfl⟩ := (hJ6 st).1 hst
      obtain ⟨tm8, rfl⟩ := allEq hT8
      obtain ⟨cb8, rfl⟩ := allEq hC8
      replace hF0 := res_out hF0
      refine sq <| sq <| rg <| L (Sl.av 7 c_api_Member s1) rfl rfl rfl <| L (iA (s1.list.length : Int)) rfl rfl (op_len rfl rfl rfl rfl rfl (len_sl _)) <| L (Sl.av 7 c_api_Member s2) rfl rfl rfl <| L (iA (s2.list.length : Int)) rfl rfl (op_len rfl rfl rfl rfl rfl (len_sl _)) <| L (bA (decide ((s1.list.length : Int) < (s2.list.length : Int)))) rfl rfl rfl <| nl <| cd (decide ((s1.list.length : Int) < (s2.list.length : Int))) rfl (fun hc13 => ?_) (fun hc13 => ?_)
      · replace hF0 := ite_t hF0 (dec_t hc13)
        refine sq <| rg <| L (iA (-1)) rfl rfl rfl <| nl <| rt ?_
        obtain rfl := Option.some.inj hF0
        exact rd_leaf (.inr rfl) rfl (retV_pl _ _ (iA (-1))) rfl rfl
      · replace hF0 := ite_f hF0 (dec_f hc13)
        refine sk <| sq <| rg <| L (iA 0) rfl rfl rfl <| nl <| rt ?_
        obtain rfl := Option.some.inj hF0
        exact rd_leaf (.inr rfl) rfl (retV_pl _ _ (iA 0)) rfl rfl
    · refine W_rangeL hb6 R6 ((hR6 _ _ _).2 ⟨_, _, rfl, (And.intro rfl (And.intro rfl (And.intro rfl (And.intro rfl (And.intro rfl (And.intro rfl True.intro)))))), True.intro⟩) ?_ ?_
      · intro i hi6 v st s hr hF1 hD1
        obtain ⟨⟩ := v
        obtain ⟨tm7, cb7, rfl, hT7, hC7⟩ := (hR6 _ _ _).1 hr
        obtain ⟨tm7, rfl⟩ := allEq hT7
        obtain ⟨cb7, rfl⟩ := allEq hC7
        obtain ⟨x2, hx6⟩ : ∃ x, x = s1.list[i] := ⟨_, rfl⟩
        rw [← hx6] at hF1
        dsimp only [slices_CompareFunc_api_Member_api_Member_api_Member_api_Member__gateref1_Order_1_l0] at hF1
        refine sq (rg ?_)
        refine WO_do (y := (bA (decide (((i : Nat) : Int) < (s1.list.length : Int))))) _ rfl rfl rfl (nl ?_)
        refine sq <| cd true (congrArg some (range_lt hi6)) (fun _ => ?_) (fun h => absurd h (by decide))
        refine sk <| sq <| bk <| sq <| rg <| L (iA ((i : Nat) : Int)) rfl rfl rfl <| L (.cptr (c_api_Member x2)) rfl rfl (op_ix rfl ((ix_at (c := c_api_Member) rfl rfl hi6).trans (congrArg (fun x => some (AV.cptr (c_api_Member x))) hx6.symm))) <| L (.agg (c_api_Member x2)) rfl rfl (op_load rfl (ld_cel rfl rfl (by simp only [e_api_Member, e_api_Value]; rfl))) <| L (.ptr (.fr 0 8) ((cb7 8).ver + 1) 0) (h' := ⟨upd _ 8 ⟨(cb7 8).ver + 1, .cells (c_api_Member (api_Member.mk [] (api_Value.mk 0 false 0 [] Sl.nil Sl.nil)))⟩, _, _⟩) rfl rfl (op_alloc (c_api_Member (api_Member.mk [] (api_Value.mk 0 false 0 [] Sl.nil Sl.nil))) rfl rfl rfl (by simp only [e_api_Member, e_api_Value]; rfl)) <| L (iA ((i : Nat) : Int)) rfl rfl rfl <| L (.tup []) (h' := ⟨upd _ 8 ⟨(cb7 8).ver + 1, .cells (c_api_Member x2)⟩, _, _⟩) rfl rfl (op_store rfl rfl (st_fr (x := (.agg (c_api_Member x2))) (cs := (c_api_Member (api_Member.mk [] (api_Value.mk 0 false 0 [] Sl.nil Sl.nil)))) (c_api_Member x2) (by simp only [e_api_Member, e_api_Value]; rfl) rfl (by simp only [e_api_Member, e_api_Value]; exact Nat.le_of_ble_eq_true rfl) (by simp only [e_api_Member, e_api_Value]; rfl))) <| nl <| sq <| sq <| rg <| L (iA ((i : Nat) : Int)) rfl rfl rfl <| L (Sl.av 7 c_api_Member s2) rfl rfl rfl <| L (iA (s2.list.length : Int)) rfl rfl (op_len rfl rfl rfl rfl rfl (len_sl _)) <| L (bA (decide (((i : Nat) : Int) ≥ (s2.list.length : Int)))) rfl rfl rfl <| nl <| cd (decide (((i : Nat) : Int) ≥ (s2.list.length : Int))) rfl (fun hc12 => ?_) (fun hc12 => ?_)
        · replace hF1 := ite_t hF1 (dec_t hc12)
          refine sq <| rg <| L (iA 1) rfl rfl rfl <| nl <| rt ?_
          obtain rfl := hD1 _ (Option.some.inj hF1).symm
          replace hF0 := res_ret hF0
          obtain rfl := Option.some.inj hF0
          exact rd_leaf (.inr rfl) rfl (retV_pl _ _ (iA 1)) rfl rfl
        · replace hF1 := ite_f hF1 (dec_f hc12)
          refine sk <| sq <| rg <| L (Sl.av 7 c_api_Member s2) rfl rfl rfl <| L (iA ((i : Nat) : Int)) rfl rfl rfl ?_
          obtain ⟨x3, h_x3, hF1⟩ := bind_some hF1
          refine L (.cptr (c_api_Member x3)) rfl rfl (op_ix rfl (ix_sl (c := c_api_Member) rfl rfl h_x3)) <| L (.agg (c_api_Member x3)) rfl rfl (op_load rfl (ld_cel rfl rfl (by simp only [e_api_Member, e_api_Value]; rfl))) <| L (.ptr (.fr 0 9) ((cb7 9).ver + 1) 0) (h' := ⟨upd _ 9 ⟨(cb7 9).ver + 1, .cells (c_api_Member (api_Member.mk [] (api_Value.mk 0 false 0 [] Sl.nil Sl.nil)))⟩, _, _⟩) rfl rfl (op_alloc (c_api_Member (api_Member.mk [] (api_Value.mk 0 false 0 [] Sl.nil Sl.nil))) rfl rfl rfl (by simp only [e_api_Member, e_api_Value]; rfl)) <| L (.tup []) (h' := ⟨upd _ 9 ⟨(cb7 9).ver + 1, .cells (c_api_Member x3)⟩, _, _⟩) rfl rfl (op_store rfl rfl (st_fr (x := (.agg (c_api_Member x3))) (cs := (c_api_Member (api_Member.mk [] (api_Value.mk 0 false 0 [] Sl.nil Sl.nil)))) (c_api_Member x3) (by simp only [e_api_Member, e_api_Value]; rfl) rfl (by simp only [e_api_Member, e_api_Value]; exact Nat.le_of_ble_eq_true rfl) (by simp only [e_api_Member, e_api_Value]; rfl))) <| nl <| sq <| rg <| L (.fn (.func 39) [] []) rfl rfl rfl <| L (.agg (c_api_Member x2)) rfl rfl (op_load rfl (ld_con (.agg (c_api_Member x2)) rfl rfl (cs := (c_api_Member x2)) (con_fr rfl) (by simp only [e_api_Member, e_api_Value]; rfl))) <| L (.agg (c_api_Member x3)) rfl rfl (op_load rfl (ld_con (.agg (c_api_Member x3)) rfl rfl (cs := (c_api_Member x3)) (con_fr rfl) (by simp only [e_api_Member, e_api_Value]; rfl))) ?_
          obtain ⟨c1, h10, hF1⟩ := bind_some hF1
          refine WO_rd (g := 39) (args := [(.agg (c_api_Member x2)), (.agg (c_api_Member x3))]) (r := (iA c1)) _ _ rfl rfl rfl rfl rfl rfl rfl (ih_gateref1_Order_1 _ _ h10 _ _ ) <| L (iA c1) rfl rfl rfl <| nl <| sq <| rg <| L (iA c1) rfl rfl rfl <| L (bA (c1 != 0)) rfl rfl rfl <| nl <| cd (c1 != 0) rfl (fun hc11 => ?_) (fun hc11 => ?_)
          · replace hF1 := ite_t hF1 (bne_t hc11)
            refine sq <| rg <| L (iA c1) rfl rfl rfl <| L (iA c1) rfl rfl rfl <| nl <| rt ?_
            obtain rfl := hD1 _ (Option.some.inj hF1).symm
            replace hF0 := res_ret hF0
            obtain rfl := Option.some.inj hF0
            exact rd_leaf (.inr rfl) rfl (retV_pl _ _ (iA c1)) rfl rfl
          · replace hF1 := ite_f hF1 (bne_f hc11)
            exact sk <| rg <| WO_do (y := (iA ((i + 1 : Nat) : Int))) _ rfl rfl (congrArg (fun n => some (AV.int .i64 n, _)) (range_len hi6 hn6)) <| WO_do (y := (iA ((i + 1 : Nat) : Int))) _ rfl rfl rfl <| nl <| Exists.intro _ (And.intro (Option.some.inj hF1).symm ((hR6 _ _ _).2 ⟨_, _, rfl, (And.intro rfl (And.intro rfl (And.intro rfl (And.intro rfl (And.intro rfl (And.intro rfl True.intro)))))), True.intro⟩))
      · intro v st hr hD1
        obtain ⟨⟩ := v
        obtain ⟨tm7, cb7, rfl, hT7, hC7⟩ := (hR6 _ _ _).1 hr
        obtain ⟨tm7, rfl⟩ := allEq hT7
        obtain ⟨cb7, rfl⟩ := allEq hC7
        refine sq (rg ?_)
        refine WO_do (y := .bool false) _ rfl rfl (congrArg (fun b => some (AV.bool b, _)) (range_ge _)) (nl ?_)
        refine sq <| cd false rfl (fun h => absurd h (by decide)) (fun _ => ?_)
        exact xt <| (hJ6 _).2 ⟨_, _, rfl, (And.intro rfl (And.intro rfl True.intro)), True.intro, hD1⟩
theorem ok_gateref1_Order (k : Nat) : (∀ (a : api_Value) (b : api_Value) {r : (Int)} (hF0 : gateref1_Order k a b = some r) (out : List AE.Frame) (glob : List AObj), RdOk Tryd.prog pol true 14 [(.agg (c_api_Value a)), (.agg (c_api_Value b))] out glob (iA r)) := (okg_gateref1_Order k).1
theorem ok_slices_CompareFunc_api_Value_api_Value_api_Value_api_Value__gateref1_Order (k : Nat) : (∀ (s1 : (Sl api_Value)) (s2 : (Sl api_Value)) {r : (Int)} (hF0 : slices_CompareFunc_api_Value_api_Value_api_Value_api_Value__gateref1_Order k s1 s2 = some r) (out : List AE.Frame) (glob : List AObj), RdOk Tryd.prog pol true 37 [(Sl.av 6 c_api_Value s1), (Sl.av 6 c_api_Value s2), (.fn (.func 14) [] [])] out glob (iA r)) := (okg_gateref1_Order k).2.1
theorem ok_gateref1_Order_1 (k : Nat) : (∀ (x : api_Member) (y : api_Member) {r : (Int)} (hF0 : gateref1_Order_1 k x y = some r) (out : List AE.Frame) (glob : List AObj), RdOk Tryd.prog pol true 39 [(.agg (c_api_Member x)), (.agg (c_api_Member y))] out glob (iA r)) := (okg_gateref1_Order k).2.2.1
theorem ok_slices_CompareFunc_api_Member_api_Member_api_Member_api_Member__gateref1_Order_1 (k : Nat) : (∀ (s1 : (Sl api_Member)) (s2 : (Sl api_Member)) {r : (Int)} (hF0 : slices_CompareFunc_api_Member_api_Member_api_Member_api_Member__gateref1_Order_1 k s1 s2 = some r) (out : List AE.Frame) (glob : List AObj), RdOk Tryd.prog pol true 38 [(Sl.av 7 c_api_Member s1), (Sl.av 7 c_api_Member s2), (.fn (.func 39) [] [])] out glob (iA r)) := (okg_gateref1_Order k).2.2.2
end Go.Proofs.YtdpfbnefkemkiaaDoor
