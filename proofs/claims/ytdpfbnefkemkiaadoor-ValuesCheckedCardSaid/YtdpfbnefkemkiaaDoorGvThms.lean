/- The evaluator answers as the typed functions. Printed by gen.py. -/
import Derived.Test.YtdpfbnefkemkiaaDoorGvThms2
namespace Go.Proofs.YtdpfbnefkemkiaaDoor
open Go.AE Go.GW
set_option maxRecDepth 100000
set_option linter.unusedVariables false
theorem ok_gatelaw1_ValuesChecked (k : Nat) (l : (Sl Int)) {r : (Bool)} (hF0 : gatelaw1_ValuesChecked k l = some r) (out : List AE.Frame) (glob : List AObj) (hglob : glob = []) : ∃ h, A Tryd.prog pol false 3 [(Sl.av 1 c_i64 l)] out glob = some ((bA r), h) := by
 unfold gatelaw1_ValuesChecked at hF0
 refine law_walk Tryd.func3 rfl (Nat.not_lt.2 (Nat.le_of_ble_eq_true rfl)) <| sq <| rg <| L (bA false) rfl rfl rfl <| nl <| sq <| rg <| L (Sl.av 1 c_i64 l) rfl rfl (op_movS rfl rfl rfl) <| L (.agg (c_gatemake_Stream (gatemake_Stream.mk l 0))) rfl rfl (op_build rfl (build_st (cs := (c_gatemake_Stream (gatemake_Stream.mk l 0))) rfl rfl rfl (fill_cons (x := (Sl.av 1 c_i64 l)) rfl rfl (Nat.le_of_ble_eq_true rfl) (fill_nil)))) <| L (.ptr (.fr 0 13) 1 0) (h' := ⟨upd _ 13 ⟨1, .cells (c_gatemake_Stream (gatemake_Stream.mk l 0))⟩, _, _⟩) rfl rfl (op_box (x' := (.agg (c_gatemake_Stream (gatemake_Stream.mk l 0)))) rfl rfl rfl rfl) <| L (.ptr (.fr 0 13) 1 0) rfl rfl rfl <| nl <| sq <| rg <| L (.ptr (.fr 0 13) 1 0) rfl rfl rfl ?_
 obtain ⟨⟨r15, t13⟩, h1, hF0⟩ := bind_some hF0
 refine WO_mutL (g := 4) (args := fun p => [p, (iA 3)]) (t := 13) (v := 1) (r := (.agg (c_api_Value r15))) _ _ rfl rfl rfl rfl rfl rfl rfl (fun _ _ => inferInstance) rfl (ok_gatemake_Stream_Value _ _ _ h1) <| L (.ptr (.fr 0 13) 1 0) rfl rfl rfl ?_
 obtain ⟨⟨r17, t131⟩, h2, hF0⟩ := bind_some hF0
 refine WO_mutL (g := 4) (args := fun p => [p, (iA 2)]) (t := 13) (v := 1) (r := (.agg (c_api_Value r17))) _ _ rfl rfl rfl rfl rfl rfl rfl (fun _ _ => inferInstance) rfl (ok_gatemake_Stream_Value _ _ _ h2) <| L (.ptr (.fr 0 4) 1 0) (h' := ⟨upd _ 4 ⟨1, .cells (c_api_Value (api_Value.mk 0 false 0 [] Sl.nil Sl.nil))⟩, _, _⟩) rfl rfl (op_alloc (c_api_Value (api_Value.mk 0 false 0 [] Sl.nil Sl.nil)) rfl rfl rfl (by simp only [e_api_Value]; rfl)) <| L (.ptr (.fr 0 5) 1 0) (h' := ⟨upd _ 5 ⟨1, .cells (c_api_Value (api_Value.mk 0 false 0 [] Sl.nil Sl.nil))⟩, _, _⟩) rfl rfl (op_alloc (c_api_Value (api_Value.mk 0 false 0 [] Sl.nil Sl.nil)) rfl rfl rfl (by simp only [e_api_Value]; rfl)) <| L (.tup []) (h' := ⟨upd _ 4 ⟨1, .cells (c_api_Value r15)⟩, _, _⟩) rfl rfl (op_store rfl rfl (st_fr (x := (.agg (c_api_Value r15))) (cs := (c_api_Value (api_Value.mk 0 false 0 [] Sl.nil Sl.nil))) (c_api_Value r15) (by simp only [e_api_Value]; rfl) rfl (by simp only [e_api_Value]; exact Nat.le_of_ble_eq_true rfl) (by simp only [e_api_Value]; rfl))) <| L (.tup []) (h' := ⟨upd _ 5 ⟨1, .cells (c_api_Value r17)⟩, _, _⟩) rfl rfl (op_store rfl rfl (st_fr (x := (.agg (c_api_Value r17))) (cs := (c_api_Value (api_Value.mk 0 false 0 [] Sl.nil Sl.nil))) (c_api_Value r17) (by simp only [e_api_Value]; rfl) rfl (by simp only [e_api_Value]; exact Nat.le_of_ble_eq_true rfl) (by simp only [e_api_Value]; rfl))) <| nl <| sq <| sq <| rg <| L (.ptr (.fr 0 13) 1 0) rfl rfl rfl ?_
 obtain ⟨⟨r19, t132⟩, h3, hF0⟩ := bind_some hF0
 refine WO_mutL (g := 5) (args := fun p => [p, (iA 2)]) (t := 13) (v := 1) (r := (bA r19)) _ _ rfl rfl rfl rfl rfl rfl rfl (fun _ _ => inferInstance) rfl (ok_gatemake_Stream_Flip _ _ h3) <| nl ?_
 obtain ⟨y7, hF1, hF0⟩ := bind_some hF0
 obtain ⟨J7, hJ7⟩ : ∃ J : St → Prop, ∀ st, J st ↔ (∃ (b : api_Value) (tm6 : Nat → AV) (cb6 : AE.Frame), st = ⟨tm6, ⟨cb6, out, glob⟩⟩ ∧ AllEq tm6 [(4, (.ptr (.fr 0 4) 1 0)), (5, (.ptr (.fr 0 5) 1 0))] ∧ AllEq cb6 [(4, ⟨1, .cells (c_api_Value r15)⟩), (5, ⟨1, .cells (c_api_Value b)⟩)] ∧ b = y7) := ⟨_, fun _ => Iff.rfl⟩
 refine W_cut J7 (fun st hst => ?_) ?_
 · obtain ⟨b, tm6, cb6, rfl, hT6, hC6, rfl⟩ := (hJ7 st).1 hst
   obtain ⟨tm6, rfl⟩ := allEq hT6
   obtain ⟨cb6, rfl⟩ := allEq hC6
   refine sq <| rg <| L (.agg (c_api_Value r15)) rfl rfl (op_load rfl (ld_con (.agg (c_api_Value r15)) rfl rfl (cs := (c_api_Value r15)) (con_fr rfl) (by simp only [e_api_Value]; rfl))) <| L (.agg (c_api_Value b)) rfl rfl (op_load rfl (ld_con (.agg (c_api_Value b)) rfl rfl (cs := (c_api_Value b)) (con_fr rfl) (by simp only [e_api_Value]; rfl))) ?_
   obtain ⟨⟨n, e⟩, h10, hF0⟩ := bind_some hF0
   refine WO_rd (g := 7) (args := [(.agg (c_api_Value r15)), (.agg (c_api_Value b))]) (r := (.tup [(iA n), (iA e)])) _ _ rfl rfl rfl rfl rfl rfl rfl (ok_value_Compare _ _ _ h10 _ _ ) <| L (.tup [(iA n), (iA e)]) rfl rfl rfl <| L (iA n) rfl rfl rfl <| L (iA e) rfl rfl rfl <| L (iA n) rfl rfl rfl <| L (iA e) rfl rfl rfl <| nl <| sq <| rg <| L (.agg (c_api_Value r15)) rfl rfl (op_load rfl (ld_con (.agg (c_api_Value r15)) rfl rfl (cs := (c_api_Value r15)) (con_fr rfl) (by simp only [e_api_Value]; rfl))) ?_
   obtain ⟨⟨t, f⟩, h11, hF0⟩ := bind_some hF0
   refine WO_rd (g := 8) (args := [(.agg (c_api_Value r15))]) (r := (.tup [(sA t), (iA f)])) _ _ rfl rfl rfl rfl rfl rfl rfl (ok_value_Text _ _ h11 _ _ ) <| L (.tup [(sA t), (iA f)]) rfl rfl rfl <| L (sA t) rfl rfl rfl <| L (iA f) rfl rfl rfl <| L (sA t) rfl rfl rfl <| L (iA f) rfl rfl rfl <| nl <| sq <| rg <| L (.agg (c_api_Value r15)) rfl rfl (op_load rfl (ld_con (.agg (c_api_Value r15)) rfl rfl (cs := (c_api_Value r15)) (con_fr rfl) (by simp only [e_api_Value]; rfl))) ?_
   obtain ⟨fault, h12, hF0⟩ := bind_some hF0
   refine WO_rd (g := 9) (args := [(.agg (c_api_Value r15))]) (r := (iA fault)) _ _ rfl rfl rfl rfl rfl rfl rfl (ok_gateref1_ValueFault _ _ h12 _ _ ) <| L (iA fault) rfl rfl rfl <| nl <| sq <| sq <| rg <| L (.agg (c_api_Value r15)) rfl rfl (op_load rfl (ld_con (.agg (c_api_Value r15)) rfl rfl (cs := (c_api_Value r15)) (con_fr rfl) (by simp only [e_api_Value]; rfl))) ?_
   obtain ⟨r37, h13, hF0⟩ := bind_some hF0
   refine WO_rd (g := 10) (args := [(.agg (c_api_Value r15))]) (r := (iA r37)) _ _ rfl rfl rfl rfl rfl rfl rfl (ok_value_Check _ _ h13 _ _ ) <| L (iA fault) rfl rfl rfl <| L (bA (r37 != fault)) rfl rfl rfl ?_
   obtain ⟨J14, hJ14⟩ : ∃ J : St → Prop, ∀ st, J st ↔ (∃ (tm15 : Nat → AV) (cb15 : AE.Frame), st = ⟨tm15, ⟨cb15, out, glob⟩⟩ ∧ AllEq tm15 [(4, (.ptr (.fr 0 4) 1 0)), (5, (.ptr (.fr 0 5) 1 0)), (6, (iA n)), (7, (iA e)), (8, (sA t)), (10, (iA fault)), (44, (bA ((r37 != fault) || (f != fault))))] ∧ AllEq cb15 [(4, ⟨1, .cells (c_api_Value r15)⟩), (5, ⟨1, .cells (c_api_Value b)⟩)]) := ⟨_, fun _ => Iff.rfl⟩
   refine WO_cut 5 J14 (fun st hst => ?_) ?_
   · obtain ⟨tm15, cb15, rfl, hT15, hC15⟩ := (hJ14 st).1 hst
     obtain ⟨tm15, rfl⟩ := allEq hT15
     obtain ⟨cb15, rfl⟩ := allEq hC15
     obtain ⟨y20, hF1, hF0⟩ := bind_some hF0
     obtain ⟨J20, hJ20⟩ : ∃ J : St → Prop, ∀ st, J st ↔ (∃ (t54 : Bool) (tm21 : Nat → AV) (cb21 : AE.Frame), st = ⟨tm21, ⟨cb21, out, glob⟩⟩ ∧ AllEq tm21 [(4, (.ptr (.fr 0 4) 1 0)), (5, (.ptr (.fr 0 5) 1 0)), (6, (iA n)), (7, (iA e)), (10, (iA fault)), (54, (bA t54))] ∧ AllEq cb21 [(4, ⟨1, .cells (c_api_Value r15)⟩), (5, ⟨1, .cells (c_api_Value b)⟩)] ∧ t54 = y20) := ⟨_, fun _ => Iff.rfl⟩
     refine WO_cut 10 J20 (fun st hst => ?_) ?_
     · obtain ⟨t54, tm21, cb21, rfl, hT21, hC21, rfl⟩ := (hJ20 st).1 hst
       obtain ⟨tm21, rfl⟩ := allEq hT21
       obtain ⟨cb21, rfl⟩ := allEq hC21
       refine nl <| cd t54 rfl (fun hc39 => ?_) (fun hc39 => ?_)
       · replace hF0 := ite_t hF0 (hc39)
         refine sq <| rg <| L (bA false) rfl rfl rfl <| nl <| rt ?_
         obtain rfl := Option.some.inj hF0
         exact law_leaf (.inr rfl) rfl
       · replace hF0 := ite_f hF0 (not_t hc39)
         refine sk <| sq <| sq <| rg <| L (iA fault) rfl rfl rfl <| L (.agg (c_api_Value b)) rfl rfl (op_load rfl (ld_con (.agg (c_api_Value b)) rfl rfl (cs := (c_api_Value b)) (con_fr rfl) (by simp only [e_api_Value]; rfl))) ?_
         obtain ⟨r57, h22, hF0⟩ := bind_some hF0
         refine WO_rd (g := 9) (args := [(.agg (c_api_Value b))]) (r := (iA r57)) _ _ rfl rfl rfl rfl rfl rfl rfl (ok_gateref1_ValueFault _ _ h22 _ _ ) <| L (Sl.av 1 c_i64 (Sl.full [fault, r57] : Sl Int)) rfl rfl (op_sliceN rfl rfl rfl) ?_
         obtain ⟨fault1, h23, hF0⟩ := bind_some hF0
         refine WO_rd (g := 12) (args := [(Sl.av 1 c_i64 (Sl.full [fault, r57] : Sl Int))]) (r := (iA fault1)) _ _ rfl rfl rfl rfl rfl rfl rfl (ok_cmp_Or_api_Errno _ h23 _ _ ) <| L (iA fault1) rfl rfl rfl <| nl <| sq <| rg <| L (iA fault1) rfl rfl rfl <| L (bA (fault1 != 0)) rfl rfl rfl <| nl <| cd (fault1 != 0) rfl (fun hc38 => ?_) (fun hc38 => ?_)
         · replace hF0 := ite_t hF0 (bne_t hc38)
           refine sq <| rg <| L (iA e) rfl rfl rfl <| L (iA fault1) rfl rfl rfl <| L (bA (e == fault1)) rfl rfl rfl ?_
           obtain ⟨J24, hJ24⟩ : ∃ J : St → Prop, ∀ st, J st ↔ (∃ (tm25 : Nat → AV) (cb25 : AE.Frame), st = ⟨tm25, ⟨cb25, out, glob⟩⟩ ∧ AllEq tm25 [(68, (bA ((e == fault1) && (n == 0))))] ∧ AllEq cb25 []) := ⟨_, fun _ => Iff.rfl⟩
           refine WO_cut 4 J24 (fun st hst => ?_) ?_
           · obtain ⟨tm25, cb25, rfl, hT25, hC25⟩ := (hJ24 st).1 hst
             obtain ⟨tm25, rfl⟩ := allEq hT25
             obtain ⟨cb25, rfl⟩ := allEq hC25
             obtain ⟨y27, hF1, hF0⟩ := bind_some hF0
             obtain ⟨J27, hJ27⟩ : ∃ J : St → Prop, ∀ st, J st ↔ (∃ (t71 : Bool) (tm28 : Nat → AV) (cb28 : AE.Frame), st = ⟨tm28, ⟨cb28, out, glob⟩⟩ ∧ AllEq tm28 [(71, (bA t71))] ∧ AllEq cb28 [] ∧ t71 = y27) := ⟨_, fun _ => Iff.rfl⟩
             refine WO_cut 3 J27 (fun st hst => ?_) ?_
             · obtain ⟨t71, tm28, cb28, rfl, hT28, hC28, rfl⟩ := (hJ27 st).1 hst
               obtain ⟨tm28, rfl⟩ := allEq hT28
               obtain ⟨cb28, rfl⟩ := allEq hC28
               refine L (bA t71) rfl rfl rfl <| nl <| rt ?_
               obtain rfl := Option.some.inj hF0
               exact law_leaf (.inr rfl) rfl
             · rcases bool_cases ((e == fault1) && (n == 0)) with hc27 | hc27
               · replace hF1 := ite_t hF1 (hc27)
                 refine L (.bool true) rfl rfl (congrArg (fun b => some (AV.bool b, _)) hc27) ?_
                 obtain ⟨r701, h29, hF1⟩ := bind_some hF1
                 exact WO_rd (g := 13) (args := []) (r := (bA r701)) _ _ rfl rfl rfl rfl rfl rfl rfl (ok_gatelaw1_valued _ h29 _ _ ) <| L (bA r701) rfl rfl rfl <| nl ((hJ27 _).2 ⟨r701, _, _, rfl, (And.intro rfl True.intro), True.intro, Option.some.inj hF1⟩)
               · replace hF1 := ite_f hF1 (not_t hc27)
                 exact L (.bool false) rfl rfl (congrArg (fun b => some (AV.bool b, _)) hc27) <| WO_no _ rfl rfl <| L (bA false) rfl rfl rfl <| nl ((hJ27 _).2 ⟨false, _, _, rfl, (And.intro rfl True.intro), True.intro, Option.some.inj hF1⟩)
           · rcases bool_cases (e == fault1) with hc24 | hc24
             · exact L (.bool true) rfl rfl (congrArg (fun b => some (AV.bool b, _)) hc24) <| L (iA n) rfl rfl rfl <| L (bA (n == 0)) rfl rfl rfl <| L (bA ((e == fault1) && (n == 0))) rfl rfl (congrArg (fun b => some (AV.bool b, _)) (by rw [hc24]; rfl)) <| nl ((hJ24 _).2 ⟨_, _, rfl, (And.intro rfl True.intro), True.intro⟩)
             · exact L (.bool false) rfl rfl (congrArg (fun b => some (AV.bool b, _)) hc24) <| WO_no _ rfl rfl <| WO_no _ rfl rfl <| L (bA ((e == fault1) && (n == 0))) rfl rfl (congrArg (fun b => some (AV.bool b, _)) (by rw [hc24]; rfl)) <| nl ((hJ24 _).2 ⟨_, _, rfl, (And.intro rfl True.intro), True.intro⟩)
         · replace hF0 := ite_f hF0 (bne_f hc38)
           refine sk <| sq <| rg <| L (iA e) rfl rfl rfl <| L (bA (e == 0)) rfl rfl rfl ?_
           obtain ⟨y31, hF1, hF0⟩ := bind_some hF0
           obtain ⟨J31, hJ31⟩ : ∃ J : St → Prop, ∀ st, J st ↔ (∃ (t80 : Bool) (tm32 : Nat → AV) (cb32 : AE.Frame), st = ⟨tm32, ⟨cb32, out, glob⟩⟩ ∧ AllEq tm32 [(80, (bA t80))] ∧ AllEq cb32 [] ∧ t80 = y31) := ⟨_, fun _ => Iff.rfl⟩
           refine WO_cut 7 J31 (fun st hst => ?_) ?_
           · obtain ⟨t80, tm32, cb32, rfl, hT32, hC32, rfl⟩ := (hJ31 st).1 hst
             obtain ⟨tm32, rfl⟩ := allEq hT32
             obtain ⟨cb32, rfl⟩ := allEq hC32
             obtain ⟨y34, hF1, hF0⟩ := bind_some hF0
             obtain ⟨J34, hJ34⟩ : ∃ J : St → Prop, ∀ st, J st ↔ (∃ (t83 : Bool) (tm35 : Nat → AV) (cb35 : AE.Frame), st = ⟨tm35, ⟨cb35, out, glob⟩⟩ ∧ AllEq tm35 [(83, (bA t83))] ∧ AllEq cb35 [] ∧ t83 = y34) := ⟨_, fun _ => Iff.rfl⟩
             refine WO_cut 3 J34 (fun st hst => ?_) ?_
             · obtain ⟨t83, tm35, cb35, rfl, hT35, hC35, rfl⟩ := (hJ34 st).1 hst
               obtain ⟨tm35, rfl⟩ := allEq hT35
               obtain ⟨cb35, rfl⟩ := allEq hC35
               refine L (bA t83) rfl rfl rfl <| nl <| rt ?_
               obtain rfl := Option.some.inj hF0
               exact law_leaf (.inr rfl) rfl
             · rcases bool_cases t80 with hc34 | hc34
               · replace hF1 := ite_t hF1 (hc34)
                 refine L (.bool true) rfl rfl (congrArg (fun b => some (AV.bool b, _)) hc34) ?_
                 obtain ⟨r821, h36, hF1⟩ := bind_some hF1
                 exact WO_rd (g := 13) (args := []) (r := (bA r821)) _ _ rfl rfl rfl rfl rfl rfl rfl (ok_gatelaw1_valued _ h36 _ _ ) <| L (bA r821) rfl rfl rfl <| nl ((hJ34 _).2 ⟨r821, _, _, rfl, (And.intro rfl True.intro), True.intro, Option.some.inj hF1⟩)
               · replace hF1 := ite_f hF1 (not_t hc34)
                 exact L (.bool false) rfl rfl (congrArg (fun b => some (AV.bool b, _)) hc34) <| WO_no _ rfl rfl <| L (bA false) rfl rfl rfl <| nl ((hJ34 _).2 ⟨false, _, _, rfl, (And.intro rfl True.intro), True.intro, Option.some.inj hF1⟩)
           · rcases bool_cases (e == 0) with hc31 | hc31
             · replace hF1 := ite_t hF1 (beq_t hc31)
               refine L (.bool true) rfl rfl (congrArg (fun b => some (AV.bool b, _)) hc31) <| L (iA n) rfl rfl rfl <| L (.agg (c_api_Value r15)) rfl rfl (op_load rfl (ld_con (.agg (c_api_Value r15)) rfl rfl (cs := (c_api_Value r15)) (con_fr rfl) (by simp only [e_api_Value]; rfl))) <| L (.agg (c_api_Value b)) rfl rfl (op_load rfl (ld_con (.agg (c_api_Value b)) rfl rfl (cs := (c_api_Value b)) (con_fr rfl) (by simp only [e_api_Value]; rfl))) ?_
               obtain ⟨r781, h37, hF1⟩ := bind_some hF1
               exact WO_rd (g := 14) (args := [(.agg (c_api_Value r15)), (.agg (c_api_Value b))]) (r := (iA r781)) _ _ rfl rfl rfl rfl rfl rfl rfl (ok_gateref1_Order _ _ _ h37 _ _ ) <| L (bA (n == r781)) rfl rfl rfl <| L (bA (n == r781)) rfl rfl rfl <| nl ((hJ31 _).2 ⟨n == r781, _, _, rfl, (And.intro rfl True.intro), True.intro, Option.some.inj hF1⟩)
             · replace hF1 := ite_f hF1 (beq_f hc31)
               exact L (.bool false) rfl rfl (congrArg (fun b => some (AV.bool b, _)) hc31) <| WO_no _ rfl rfl <| WO_no _ rfl rfl <| WO_no _ rfl rfl <| WO_no _ rfl rfl <| WO_no _ rfl rfl <| L (bA false) rfl rfl rfl <| nl ((hJ31 _).2 ⟨false, _, _, rfl, (And.intro rfl True.intro), True.intro, Option.some.inj hF1⟩)
     · rcases bool_cases ((r37 != fault) || (f != fault)) with hc20 | hc20
       · replace hF1 := ite_t hF1 (hc20)
         exact L (.bool true) rfl rfl (congrArg (fun b => some (AV.bool b, _)) hc20) <| WO_no _ rfl rfl <| WO_no _ rfl rfl <| WO_no _ rfl rfl <| WO_no _ rfl rfl <| WO_no _ rfl rfl <| WO_no _ rfl rfl <| WO_no _ rfl rfl <| WO_no _ rfl rfl <| L (bA true) rfl rfl rfl <| nl ((hJ20 _).2 ⟨true, _, _, rfl, (And.intro rfl (And.intro rfl (And.intro rfl (And.intro rfl (And.intro rfl (And.intro rfl True.intro)))))), (And.intro rfl (And.intro rfl True.intro)), Option.some.inj hF1⟩)
       · replace hF1 := ite_f hF1 (not_t hc20)
         refine L (.bool false) rfl rfl (congrArg (fun b => some (AV.bool b, _)) hc20) <| L (iA fault) rfl rfl rfl <| L (bA (fault == 0)) rfl rfl rfl ?_
         obtain ⟨y41, hF2, hF1⟩ := bind_some hF1
         obtain ⟨J41, hJ41⟩ : ∃ J : St → Prop, ∀ st, J st ↔ (∃ (t531 : Bool) (tm42 : Nat → AV) (cb42 : AE.Frame), st = ⟨tm42, ⟨cb42, out, glob⟩⟩ ∧ AllEq tm42 [(4, (.ptr (.fr 0 4) 1 0)), (5, (.ptr (.fr 0 5) 1 0)), (6, (iA n)), (7, (iA e)), (10, (iA fault)), (45, (bA false)), (53, (bA t531))] ∧ AllEq cb42 [(4, ⟨1, .cells (c_api_Value r15)⟩), (5, ⟨1, .cells (c_api_Value b)⟩)] ∧ t531 = y41) := ⟨_, fun _ => Iff.rfl⟩
         refine WO_cut 6 J41 (fun st hst => ?_) ?_
         · obtain ⟨t531, tm42, cb42, rfl, hT42, hC42, rfl⟩ := (hJ41 st).1 hst
           obtain ⟨tm42, rfl⟩ := allEq hT42
           obtain ⟨cb42, rfl⟩ := allEq hC42
           exact L (bA t531) rfl rfl rfl <| nl ((hJ20 _).2 ⟨t531, _, _, rfl, (And.intro rfl (And.intro rfl (And.intro rfl (And.intro rfl (And.intro rfl (And.intro rfl True.intro)))))), (And.intro rfl (And.intro rfl True.intro)), Option.some.inj hF1⟩)
         · rcases bool_cases (fault == 0) with hc41 | hc41
           · replace hF2 := ite_t hF2 (beq_t hc41)
             refine L (.bool true) rfl rfl (congrArg (fun b => some (AV.bool b, _)) hc41) <| L (sA t) rfl rfl rfl <| L (.agg (c_api_Value r15)) rfl rfl (op_load rfl (ld_con (.agg (c_api_Value r15)) rfl rfl (cs := (c_api_Value r15)) (con_fr rfl) (by simp only [e_api_Value]; rfl))) ?_
             obtain ⟨r513, h43, hF2⟩ := bind_some hF2
             exact WO_rd (g := 11) (args := [(.agg (c_api_Value r15))]) (r := (sA r513)) _ _ rfl rfl rfl rfl rfl rfl rfl (ok_gateref1_Written _ _ h43 _ _ ) <| L (bA (t != r513)) rfl rfl (op_bin rfl bin_sne) <| L (bA (t != r513)) rfl rfl rfl <| nl ((hJ41 _).2 ⟨t != r513, _, _, rfl, (And.intro rfl (And.intro rfl (And.intro rfl (And.intro rfl (And.intro rfl (And.intro rfl (And.intro rfl True.intro))))))), (And.intro rfl (And.intro rfl True.intro)), Option.some.inj hF2⟩)
           · replace hF2 := ite_f hF2 (beq_f hc41)
             exact L (.bool false) rfl rfl (congrArg (fun b => some (AV.bool b, _)) hc41) <| WO_no _ rfl rfl <| WO_no _ rfl rfl <| WO_no _ rfl rfl <| WO_no _ rfl rfl <| L (bA false) rfl rfl rfl <| nl ((hJ41 _).2 ⟨false, _, _, rfl, (And.intro rfl (And.intro rfl (And.intro rfl (And.intro rfl (And.intro rfl (And.intro rfl (And.intro rfl True.intro))))))), (And.intro rfl (And.intro rfl True.intro)), Option.some.inj hF2⟩)
   · rcases bool_cases (r37 != fault) with hc14 | hc14
     · exact L (.bool true) rfl rfl (congrArg (fun b => some (AV.bool b, _)) hc14) <| WO_no _ rfl rfl <| WO_no _ rfl rfl <| WO_no _ rfl rfl <| L (bA ((r37 != fault) || (f != fault))) rfl rfl (congrArg (fun b => some (AV.bool b, _)) (by rw [hc14]; rfl)) <| nl ((hJ14 _).2 ⟨_, _, rfl, (And.intro rfl (And.intro rfl (And.intro rfl (And.intro rfl (And.intro rfl (And.intro rfl (And.intro rfl True.intro))))))), (And.intro rfl (And.intro rfl True.intro))⟩)
     · exact L (.bool false) rfl rfl (congrArg (fun b => some (AV.bool b, _)) hc14) <| L (iA f) rfl rfl rfl <| L (iA fault) rfl rfl rfl <| L (bA (f != fault)) rfl rfl rfl <| L (bA ((r37 != fault) || (f != fault))) rfl rfl (congrArg (fun b => some (AV.bool b, _)) (by rw [hc14]; rfl)) <| nl ((hJ14 _).2 ⟨_, _, rfl, (And.intro rfl (And.intro rfl (And.intro rfl (And.intro rfl (And.intro rfl (And.intro rfl (And.intro rfl True.intro))))))), (And.intro rfl (And.intro rfl True.intro))⟩)
 · refine cd r19 rfl (fun hc9 => ?_) (fun hc9 => ?_)
   · replace hF1 := ite_t hF1 (hc9)
     refine rg <| L (.ptr (.fr 0 13) 1 0) rfl rfl rfl <| L (.agg (c_api_Value r15)) rfl rfl (op_load rfl (ld_con (.agg (c_api_Value r15)) rfl rfl (cs := (c_api_Value r15)) (con_fr rfl) (by simp only [e_api_Value]; rfl))) ?_
     obtain ⟨⟨r221, t134⟩, h8, hF1⟩ := bind_some hF1
     exact WO_mutL (g := 6) (args := fun p => [p, (.agg (c_api_Value r15))]) (t := 13) (v := 1) (r := (.agg (c_api_Value r221))) _ _ rfl rfl rfl rfl rfl rfl rfl (fun _ _ => inferInstance) rfl (ok_gatemake_Stream_Near _ _ _ h8) <| L (.tup []) (h' := ⟨upd _ 5 ⟨1, .cells (c_api_Value r221)⟩, _, _⟩) rfl rfl (op_store rfl rfl (st_fr (x := (.agg (c_api_Value r221))) (cs := (c_api_Value r17)) (c_api_Value r221) (by simp only [e_api_Value]; rfl) rfl (by simp only [e_api_Value]; exact Nat.le_of_ble_eq_true rfl) (by simp only [e_api_Value]; rfl))) <| nl <| (hJ7 _).2 ⟨r221, _, _, rfl, (And.intro rfl (And.intro rfl True.intro)), (And.intro rfl (And.intro rfl True.intro)), Option.some.inj hF1⟩
   · replace hF1 := ite_f hF1 (not_t hc9)
     exact sk <| (hJ7 _).2 ⟨r17, _, _, rfl, (And.intro rfl (And.intro rfl True.intro)), (And.intro rfl (And.intro rfl True.intro)), Option.some.inj hF1⟩
end Go.Proofs.YtdpfbnefkemkiaaDoor
