/- The evaluator answers as the typed functions. Printed by gen.py. -/
import Derived.Test.YtimnggioioeehabGreatDoorGtThms1
namespace Go.Proofs.YtimnggioioeehabGreatDoor
open Go.AE Go.GW
set_option maxRecDepth 100000
set_option linter.unusedVariables false
theorem ok_gatelaw1_LimitTexts (l : (Sl Int)) {r : (Bool)} (hF0 : gatelaw1_LimitTexts l = some r) (out : List AE.Frame) (glob : List AObj) (hglob : glob = []) : ∃ h, A Tryz.prog pol false 3 [(Sl.av 1 c_i64 l)] out glob = some ((bA r), h) := by
 unfold gatelaw1_LimitTexts at hF0
 refine law_walk Tryz.func3 rfl (Nat.not_lt.2 (Nat.le_of_ble_eq_true rfl)) <| sq <| rg <| L (bA false) rfl rfl rfl <| nl <| sq <| rg <| L (Sl.av 1 c_i64 l) rfl rfl (op_movS rfl rfl rfl) <| L (.agg (c_gatemake_Stream (gatemake_Stream.mk l 0))) rfl rfl (op_build rfl (build_st (cs := (c_gatemake_Stream (gatemake_Stream.mk l 0))) rfl rfl rfl (fill_cons (x := (Sl.av 1 c_i64 l)) rfl rfl (Nat.le_of_ble_eq_true rfl) (fill_nil)))) <| L (.ptr (.fr 0 17) 1 0) (h' := ⟨upd _ 17 ⟨1, .cells (c_gatemake_Stream (gatemake_Stream.mk l 0))⟩, _, _⟩) rfl rfl (op_box (x' := (.agg (c_gatemake_Stream (gatemake_Stream.mk l 0)))) rfl rfl rfl rfl) <| L (.ptr (.fr 0 17) 1 0) rfl rfl rfl <| nl <| sq <| rg <| L (.ptr (.fr 0 17) 1 0) rfl rfl rfl ?_
 obtain ⟨⟨x, t17⟩, h1, hF0⟩ := bind_some hF0
 refine WO_mutL (g := 4) (args := fun p => [p]) (t := 17) (v := 1) (r := (Sl.av 5 c_api_Limit x)) _ _ rfl rfl rfl rfl rfl rfl rfl (fun _ _ => inferInstance) rfl (ok_gatemake_Stream_Limits _ h1) <| L (Sl.av 5 c_api_Limit x) rfl rfl rfl <| nl <| sq <| rg <| L (Sl.av 5 c_api_Limit x) rfl rfl (op_movS rfl rfl rfl) ?_
 obtain ⟨⟨t, e⟩, h2, hF0⟩ := bind_some hF0
 refine WO_rd (g := 5) (args := [(Sl.av 5 c_api_Limit x)]) (r := (.tup [(sA t), (iA e)])) _ _ rfl rfl rfl rfl rfl rfl rfl (ok_limit_Text _ h2 _ _ ) <| L (.tup [(sA t), (iA e)]) rfl rfl rfl <| L (sA t) rfl rfl rfl <| L (iA e) rfl rfl rfl <| L (sA t) rfl rfl rfl <| L (iA e) rfl rfl rfl <| nl <| sq <| sq <| rg <| L (Sl.av 5 c_api_Limit x) rfl rfl (op_movS rfl rfl rfl) ?_
 obtain ⟨fault, h3, hF0⟩ := bind_some hF0
 refine WO_rd (g := 6) (args := [(Sl.av 5 c_api_Limit x)]) (r := (iA fault)) _ _ rfl rfl rfl rfl rfl rfl rfl (ok_gateref1_LimitsFault _ h3 _ _ ) <| L (iA fault) rfl rfl rfl <| nl <| sq <| rg <| L (iA e) rfl rfl rfl <| L (iA fault) rfl rfl rfl <| L (bA (e != fault)) rfl rfl rfl ?_
 obtain ⟨y8, hF1, hF0⟩ := bind_some hF0
 obtain ⟨J8, hJ8⟩ : ∃ J : St → Prop, ∀ st, J st ↔ (∃ (t39 : Bool) (tm9 : Nat → AV) (cb9 : AE.Frame), st = ⟨tm9, ⟨cb9, out, glob⟩⟩ ∧ AllEq tm9 [(3, (.ptr (.fr 0 17) 1 0)), (5, (sA t)), (7, (iA fault)), (39, (bA t39))] ∧ AllEq cb9 [(17, ⟨1, .cells (c_gatemake_Stream t17)⟩)] ∧ t39 = y8) := ⟨_, fun _ => Iff.rfl⟩
 refine WO_cut 10 J8 (fun st hst => ?_) ?_
 · obtain ⟨t39, tm9, cb9, rfl, hT9, hC9, rfl⟩ := (hJ8 st).1 hst
   obtain ⟨tm9, rfl⟩ := allEq hT9
   obtain ⟨cb9, rfl⟩ := allEq hC9
   obtain ⟨J12, hJ12⟩ : ∃ J : St → Prop, ∀ st, J st ↔ (∃ (tm13 : Nat → AV) (cb13 : AE.Frame), st = ⟨tm13, ⟨cb13, out, glob⟩⟩ ∧ AllEq tm13 [(3, (.ptr (.fr 0 17) 1 0)), (47, (bA (t39 || ((fault != 0) && (t != [])))))] ∧ AllEq cb13 [(17, ⟨1, .cells (c_gatemake_Stream t17)⟩)]) := ⟨_, fun _ => Iff.rfl⟩
   refine WO_cut 8 J12 (fun st hst => ?_) ?_
   · obtain ⟨tm13, cb13, rfl, hT13, hC13⟩ := (hJ12 st).1 hst
     obtain ⟨tm13, rfl⟩ := allEq hT13
     obtain ⟨cb13, rfl⟩ := allEq hC13
     refine nl <| cd (t39 || ((fault != 0) && (t != []))) rfl (fun hc27 => ?_) (fun hc27 => ?_)
     · replace hF0 := ite_t hF0 (hc27)
       refine sq <| rg <| L (bA false) rfl rfl rfl <| nl <| rt ?_
       obtain rfl := Option.some.inj hF0
       exact law_leaf (.inr rfl) rfl
     · replace hF0 := ite_f hF0 (not_t hc27)
       refine sk <| sq <| rg <| L (.ptr (.fr 0 17) 1 0) rfl rfl rfl ?_
       obtain ⟨⟨text, t171⟩, h14, hF0⟩ := bind_some hF0
       refine WO_mutL (g := 8) (args := fun p => [p]) (t := 17) (v := 1) (r := (sA text)) _ _ rfl rfl rfl rfl rfl rfl rfl (fun _ _ => inferInstance) rfl (ok_gatemake_Stream_LimitString _ h14) <| L (sA text) rfl rfl rfl <| nl <| sq <| rg <| L (sA text) rfl rfl rfl ?_
       obtain ⟨⟨a, i, f⟩, h15, hF0⟩ := bind_some hF0
       refine WO_rd (g := 9) (args := [(sA text)]) (r := (.tup [(Sl.av 5 c_api_Limit a), (iA i), (iA f)])) _ _ rfl rfl rfl rfl rfl rfl rfl (ok_limit_Read _ h15 _ _ ) <| L (.tup [(Sl.av 5 c_api_Limit a), (iA i), (iA f)]) rfl rfl rfl <| L (Sl.av 5 c_api_Limit a) rfl rfl rfl <| L (iA i) rfl rfl rfl <| L (iA f) rfl rfl rfl <| L (Sl.av 5 c_api_Limit a) rfl rfl rfl <| L (iA i) rfl rfl rfl <| L (iA f) rfl rfl rfl <| nl <| sq <| rg <| L (sA text) rfl rfl rfl ?_
       obtain ⟨⟨b, k1, g⟩, h16, hF0⟩ := bind_some hF0
       refine WO_rd (g := 10) (args := [(sA text)]) (r := (.tup [(Sl.av 5 c_api_Limit b), (iA k1), (iA g)])) _ _ rfl rfl rfl rfl rfl rfl rfl (ok_gateref1_LimitsRead _ h16 _ _ ) <| L (.tup [(Sl.av 5 c_api_Limit b), (iA k1), (iA g)]) rfl rfl rfl <| L (Sl.av 5 c_api_Limit b) rfl rfl rfl <| L (iA k1) rfl rfl rfl <| L (iA g) rfl rfl rfl <| L (Sl.av 5 c_api_Limit b) rfl rfl rfl <| L (iA k1) rfl rfl rfl <| L (iA g) rfl rfl rfl <| nl <| sq <| rg <| L (iA f) rfl rfl rfl <| L (iA g) rfl rfl rfl <| L (bA (f == g)) rfl rfl rfl ?_
       obtain ⟨J17, hJ17⟩ : ∃ J : St → Prop, ∀ st, J st ↔ (∃ (tm18 : Nat → AV) (cb18 : AE.Frame), st = ⟨tm18, ⟨cb18, out, glob⟩⟩ ∧ AllEq tm18 [(9, (Sl.av 5 c_api_Limit a)), (12, (Sl.av 5 c_api_Limit b)), (69, (bA ((f == g) && (i == k1))))] ∧ AllEq cb18 []) := ⟨_, fun _ => Iff.rfl⟩
       refine WO_cut 5 J17 (fun st hst => ?_) ?_
       · obtain ⟨tm18, cb18, rfl, hT18, hC18⟩ := (hJ17 st).1 hst
         obtain ⟨tm18, rfl⟩ := allEq hT18
         obtain ⟨cb18, rfl⟩ := allEq hC18
         obtain ⟨y20, hF1, hF0⟩ := bind_some hF0
         obtain ⟨J20, hJ20⟩ : ∃ J : St → Prop, ∀ st, J st ↔ (∃ (t74 : Bool) (tm21 : Nat → AV) (cb21 : AE.Frame), st = ⟨tm21, ⟨cb21, out, glob⟩⟩ ∧ AllEq tm21 [(74, (bA t74))] ∧ AllEq cb21 [] ∧ t74 = y20) := ⟨_, fun _ => Iff.rfl⟩
         refine WO_cut 5 J20 (fun st hst => ?_) ?_
         · obtain ⟨t74, tm21, cb21, rfl, hT21, hC21, rfl⟩ := (hJ20 st).1 hst
           obtain ⟨tm21, rfl⟩ := allEq hT21
           obtain ⟨cb21, rfl⟩ := allEq hC21
           obtain ⟨y23, hF1, hF0⟩ := bind_some hF0
           obtain ⟨J23, hJ23⟩ : ∃ J : St → Prop, ∀ st, J st ↔ (∃ (t77 : Bool) (tm24 : Nat → AV) (cb24 : AE.Frame) (globv24 : List AObj), st = ⟨tm24, ⟨cb24, out, globv24⟩⟩ ∧ AllEq tm24 [(77, (bA t77))] ∧ AllEq cb24 [] ∧ t77 = y23) := ⟨_, fun _ => Iff.rfl⟩
           refine WO_cut 3 J23 (fun st hst => ?_) ?_
           · obtain ⟨t77, tm24, cb24, globv24, rfl, hT24, hC24, rfl⟩ := (hJ23 st).1 hst
             obtain ⟨tm24, rfl⟩ := allEq hT24
             obtain ⟨cb24, rfl⟩ := allEq hC24
             refine L (bA t77) rfl rfl rfl <| nl <| rt ?_
             obtain rfl := Option.some.inj hF0
             exact law_leaf (.inr rfl) rfl
           · rcases bool_cases t74 with hc23 | hc23
             · replace hF1 := ite_t hF1 (hc23)
               refine L (.bool true) rfl rfl (congrArg (fun b => some (AV.bool b, _)) hc23) <| WO_lim (g := 12) _ _ rfl rfl rfl rfl rfl rfl rfl rfl hglob lim_limited (fun glob25 => ?_)
               exact L (bA true) rfl rfl rfl <| nl ((hJ23 _).2 ⟨true, _, _, _, rfl, (And.intro rfl True.intro), True.intro, Option.some.inj hF1⟩)
             · replace hF1 := ite_f hF1 (not_t hc23)
               exact L (.bool false) rfl rfl (congrArg (fun b => some (AV.bool b, _)) hc23) <| WO_no _ rfl rfl <| L (bA false) rfl rfl rfl <| nl ((hJ23 _).2 ⟨false, _, _, _, rfl, (And.intro rfl True.intro), True.intro, Option.some.inj hF1⟩)
         · rcases bool_cases ((f == g) && (i == k1)) with hc20 | hc20
           · replace hF1 := ite_t hF1 (hc20)
             refine L (.bool true) rfl rfl (congrArg (fun b => some (AV.bool b, _)) hc20) <| L (Sl.av 5 c_api_Limit a) rfl rfl (op_movS rfl rfl rfl) <| L (Sl.av 5 c_api_Limit b) rfl rfl (op_movS rfl rfl rfl) ?_
             obtain ⟨r731, h26, hF1⟩ := bind_some hF1
             exact WO_rd (g := 11) (args := [(Sl.av 5 c_api_Limit a), (Sl.av 5 c_api_Limit b)]) (r := (bA r731)) _ _ rfl rfl rfl rfl rfl rfl rfl (ok_slices_Equal_api_Limit_api_Limit _ _ h26 _ _ ) <| L (bA r731) rfl rfl rfl <| nl ((hJ20 _).2 ⟨r731, _, _, rfl, (And.intro rfl True.intro), True.intro, Option.some.inj hF1⟩)
           · replace hF1 := ite_f hF1 (not_t hc20)
             exact L (.bool false) rfl rfl (congrArg (fun b => some (AV.bool b, _)) hc20) <| WO_no _ rfl rfl <| WO_no _ rfl rfl <| WO_no _ rfl rfl <| L (bA false) rfl rfl rfl <| nl ((hJ20 _).2 ⟨false, _, _, rfl, (And.intro rfl True.intro), True.intro, Option.some.inj hF1⟩)
       · rcases bool_cases (f == g) with hc17 | hc17
         · exact L (.bool true) rfl rfl (congrArg (fun b => some (AV.bool b, _)) hc17) <| L (iA i) rfl rfl rfl <| L (iA k1) rfl rfl rfl <| L (bA (i == k1)) rfl rfl rfl <| L (bA ((f == g) && (i == k1))) rfl rfl (congrArg (fun b => some (AV.bool b, _)) (by rw [hc17]; rfl)) <| nl ((hJ17 _).2 ⟨_, _, rfl, (And.intro rfl (And.intro rfl (And.intro rfl True.intro))), True.intro⟩)
         · exact L (.bool false) rfl rfl (congrArg (fun b => some (AV.bool b, _)) hc17) <| WO_no _ rfl rfl <| WO_no _ rfl rfl <| WO_no _ rfl rfl <| L (bA ((f == g) && (i == k1))) rfl rfl (congrArg (fun b => some (AV.bool b, _)) (by rw [hc17]; rfl)) <| nl ((hJ17 _).2 ⟨_, _, rfl, (And.intro rfl (And.intro rfl (And.intro rfl True.intro))), True.intro⟩)
   · rcases bool_cases t39 with hc12 | hc12
     · exact L (.bool true) rfl rfl (congrArg (fun b => some (AV.bool b, _)) hc12) <| WO_no _ rfl rfl <| WO_no _ rfl rfl <| WO_no _ rfl rfl <| WO_no _ rfl rfl <| WO_no _ rfl rfl <| WO_no _ rfl rfl <| L (bA (t39 || ((fault != 0) && (t != [])))) rfl rfl (congrArg (fun b => some (AV.bool b, _)) (by rw [hc12]; rfl)) <| nl ((hJ12 _).2 ⟨_, _, rfl, (And.intro rfl (And.intro rfl True.intro)), (And.intro rfl True.intro)⟩)
     · refine L (.bool false) rfl rfl (congrArg (fun b => some (AV.bool b, _)) hc12) <| L (iA fault) rfl rfl rfl <| L (bA (fault != 0)) rfl rfl rfl ?_
       obtain ⟨J28, hJ28⟩ : ∃ J : St → Prop, ∀ st, J st ↔ (∃ (tm29 : Nat → AV) (cb29 : AE.Frame), st = ⟨tm29, ⟨cb29, out, glob⟩⟩ ∧ AllEq tm29 [(3, (.ptr (.fr 0 17) 1 0)), (40, (bA false)), (46, (bA ((fault != 0) && (t != []))))] ∧ AllEq cb29 [(17, ⟨1, .cells (c_gatemake_Stream t17)⟩)]) := ⟨_, fun _ => Iff.rfl⟩
       refine WO_cut 4 J28 (fun st hst => ?_) ?_
       · obtain ⟨tm29, cb29, rfl, hT29, hC29⟩ := (hJ28 st).1 hst
         obtain ⟨tm29, rfl⟩ := allEq hT29
         obtain ⟨cb29, rfl⟩ := allEq hC29
         exact L (bA (t39 || ((fault != 0) && (t != [])))) rfl rfl (congrArg (fun b => some (AV.bool b, _)) (by rw [hc12]; rfl)) <| nl ((hJ12 _).2 ⟨_, _, rfl, (And.intro rfl (And.intro rfl True.intro)), (And.intro rfl True.intro)⟩)
       · rcases bool_cases (fault != 0) with hc28 | hc28
         · exact L (.bool true) rfl rfl (congrArg (fun b => some (AV.bool b, _)) hc28) <| L (sA t) rfl rfl rfl <| L (bA (t != [])) rfl rfl (op_bin rfl bin_sne) <| L (bA ((fault != 0) && (t != []))) rfl rfl (congrArg (fun b => some (AV.bool b, _)) (by rw [hc28]; rfl)) <| nl ((hJ28 _).2 ⟨_, _, rfl, (And.intro rfl (And.intro rfl (And.intro rfl True.intro))), (And.intro rfl True.intro)⟩)
         · exact L (.bool false) rfl rfl (congrArg (fun b => some (AV.bool b, _)) hc28) <| WO_no _ rfl rfl <| WO_no _ rfl rfl <| L (bA ((fault != 0) && (t != []))) rfl rfl (congrArg (fun b => some (AV.bool b, _)) (by rw [hc28]; rfl)) <| nl ((hJ28 _).2 ⟨_, _, rfl, (And.intro rfl (And.intro rfl (And.intro rfl True.intro))), (And.intro rfl True.intro)⟩)
 · rcases bool_cases (e != fault) with hc8 | hc8
   · replace hF1 := ite_t hF1 (bne_t hc8)
     exact L (.bool true) rfl rfl (congrArg (fun b => some (AV.bool b, _)) hc8) <| WO_no _ rfl rfl <| WO_no _ rfl rfl <| WO_no _ rfl rfl <| WO_no _ rfl rfl <| WO_no _ rfl rfl <| WO_no _ rfl rfl <| WO_no _ rfl rfl <| WO_no _ rfl rfl <| L (bA true) rfl rfl rfl <| nl ((hJ8 _).2 ⟨true, _, _, rfl, (And.intro rfl (And.intro rfl (And.intro rfl (And.intro rfl True.intro)))), (And.intro rfl True.intro), Option.some.inj hF1⟩)
   · replace hF1 := ite_f hF1 (bne_f hc8)
     refine L (.bool false) rfl rfl (congrArg (fun b => some (AV.bool b, _)) hc8) <| L (iA fault) rfl rfl rfl <| L (bA (fault == 0)) rfl rfl rfl ?_
     obtain ⟨y31, hF2, hF1⟩ := bind_some hF1
     obtain ⟨J31, hJ31⟩ : ∃ J : St → Prop, ∀ st, J st ↔ (∃ (t381 : Bool) (tm32 : Nat → AV) (cb32 : AE.Frame), st = ⟨tm32, ⟨cb32, out, glob⟩⟩ ∧ AllEq tm32 [(3, (.ptr (.fr 0 17) 1 0)), (5, (sA t)), (7, (iA fault)), (30, (bA false)), (38, (bA t381))] ∧ AllEq cb32 [(17, ⟨1, .cells (c_gatemake_Stream t17)⟩)] ∧ t381 = y31) := ⟨_, fun _ => Iff.rfl⟩
     refine WO_cut 6 J31 (fun st hst => ?_) ?_
     · obtain ⟨t381, tm32, cb32, rfl, hT32, hC32, rfl⟩ := (hJ31 st).1 hst
       obtain ⟨tm32, rfl⟩ := allEq hT32
       obtain ⟨cb32, rfl⟩ := allEq hC32
       exact L (bA t381) rfl rfl rfl <| nl ((hJ8 _).2 ⟨t381, _, _, rfl, (And.intro rfl (And.intro rfl (And.intro rfl (And.intro rfl True.intro)))), (And.intro rfl True.intro), Option.some.inj hF1⟩)
     · rcases bool_cases (fault == 0) with hc31 | hc31
       · replace hF2 := ite_t hF2 (beq_t hc31)
         refine L (.bool true) rfl rfl (congrArg (fun b => some (AV.bool b, _)) hc31) <| L (sA t) rfl rfl rfl <| L (Sl.av 5 c_api_Limit x) rfl rfl (op_movS rfl rfl rfl) ?_
         obtain ⟨r363, h33, hF2⟩ := bind_some hF2
         exact WO_rd (g := 7) (args := [(Sl.av 5 c_api_Limit x)]) (r := (sA r363)) _ _ rfl rfl rfl rfl rfl rfl rfl (ok_gateref1_LimitLines _ h33 _ _ ) <| L (bA (t != r363)) rfl rfl (op_bin rfl bin_sne) <| L (bA (t != r363)) rfl rfl rfl <| nl ((hJ31 _).2 ⟨t != r363, _, _, rfl, (And.intro rfl (And.intro rfl (And.intro rfl (And.intro rfl (And.intro rfl True.intro))))), (And.intro rfl True.intro), Option.some.inj hF2⟩)
       · replace hF2 := ite_f hF2 (beq_f hc31)
         exact L (.bool false) rfl rfl (congrArg (fun b => some (AV.bool b, _)) hc31) <| WO_no _ rfl rfl <| WO_no _ rfl rfl <| WO_no _ rfl rfl <| WO_no _ rfl rfl <| L (bA false) rfl rfl rfl <| nl ((hJ31 _).2 ⟨false, _, _, rfl, (And.intro rfl (And.intro rfl (And.intro rfl (And.intro rfl (And.intro rfl True.intro))))), (And.intro rfl True.intro), Option.some.inj hF2⟩)
end Go.Proofs.YtimnggioioeehabGreatDoor
