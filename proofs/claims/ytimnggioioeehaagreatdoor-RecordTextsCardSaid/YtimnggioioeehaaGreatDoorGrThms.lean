/- The evaluator answers as the typed functions. Printed by gen.py. -/
import Derived.Test.YtimnggioioeehaaGreatDoorGrThms1
namespace Go.Proofs.YtimnggioioeehaaGreatDoor
open Go.AE Go.GW
set_option maxRecDepth 100000
set_option linter.unusedVariables false
theorem ok_gateref1_RecordsRead (text : Str) {r : ((Sl api_Record) × Int × Int)} (hF0 : gateref1_RecordsRead text = some r) (out : List AE.Frame) (glob : List AObj) : RdOk Tryz.prog pol false 11 [(sA text)] out glob (.tup [(Sl.av 7 c_api_Record r.1), (iA r.2.1), (iA r.2.2)]) := by
 unfold gateref1_RecordsRead at hF0
 refine rd_walkF Tryz.func11 rfl (Nat.not_lt.2 (Nat.le_of_ble_eq_true rfl)) <| sq <| rg <| L (Sl.av 7 c_api_Record Sl.nil) rfl rfl rfl <| L (iA 0) rfl rfl rfl <| L (iA 0) rfl rfl rfl <| nl <| sq <| sq <| rg <| L (sA text) rfl rfl rfl <| L (iA (text.length : Int)) rfl rfl rfl <| L (bA (decide ((text.length : Int) > 200000))) rfl rfl rfl <| nl <| cd (decide ((text.length : Int) > 200000)) rfl (fun hc5 => ?_) (fun hc5 => ?_)
 · replace hF0 := ite_t hF0 (dec_t hc5)
   refine sq <| rg <| L (Sl.av 7 c_api_Record Sl.nil) rfl rfl rfl <| L (iA 0) rfl rfl rfl <| L (iA 2) rfl rfl rfl <| nl <| rt ?_
   obtain rfl := Option.some.inj hF0
   exact rd_leaf (.inr rfl) rfl (ret_tup3 (retV_pl _ _ (Sl.av 7 c_api_Record Sl.nil)) (retV_pl _ _ (iA 0)) (retV_pl _ _ (iA 2))) rfl rfl
 · replace hF0 := ite_f hF0 (dec_f hc5)
   refine sk <| sq <| rg <| L (.ptr (.fr 0 5) 1 0) (h' := ⟨upd (upd _ 1050039 ⟨1, (Ar.con 7 c_api_Record (Ar.nil : Ar api_Record))⟩) 5 ⟨1, .cells [(rf (.fr 0 1050039) 1 (Ar.nil : Ar api_Record).list.length)]⟩, _, _⟩) rfl rfl (op_allocA [(Sl.av 7 c_api_Record Sl.nil)] rfl rfl rfl rfl rfl (List.cons_ne_nil _ _) (fld_arr rfl (by decide) fld_nil)) <| nl <| sq <| rg <| L (sA text) rfl rfl rfl <| L (.fn (.func 32) [] [(.ptr (.fr 0 5) 1 0)]) rfl rfl rfl ?_
   obtain ⟨⟨i, ok_, out_⟩, h1, hF0⟩ := bind_some hF0
   refine WO_mutAL (g := 31) (args := fun p => [(sA text), (.fn (.func 32) [] [p])]) (off := 0) (s := 5) (b := 1050039) (v := 1) (u := 1) (cs := fun sl u => [(rf sl u (Ar.nil : Ar api_Record).list.length)]) (a := (Ar.con 7 c_api_Record (Ar.nil : Ar api_Record))) (r := (.tup [(iA i), (bA ok_)])) _ _ rfl rfl rfl rfl rfl rfl rfl (fun _ _ => inferInstance) rfl rfl (by decide) rfl Ar.con_live (ok_gateref1_Lines__gateref1_RecordsRead_1 _ _ h1) (fun u1 => ?_)
   refine L (.tup [(iA i), (bA ok_)]) rfl rfl rfl <| L (iA i) rfl rfl rfl <| L (bA ok_) rfl rfl rfl <| L (iA i) rfl rfl rfl <| L (bA ok_) rfl rfl rfl <| nl <| sq <| sq <| rg <| L (bA ok_) rfl rfl rfl <| L (bA (!ok_)) rfl rfl rfl <| nl <| cd (!ok_) rfl (fun hc4 => ?_) (fun hc4 => ?_)
   · replace hF0 := ite_t hF0 (hc4)
     refine sq <| rg <| L (iA i) rfl rfl rfl <| L (Sl.av 7 c_api_Record Sl.nil) rfl rfl rfl <| L (iA i) rfl rfl rfl <| L (iA 9) rfl rfl rfl <| nl <| rt ?_
     obtain rfl := Option.some.inj hF0
     exact rd_leaf (.inr rfl) rfl (ret_tup3 (retV_pl _ _ (Sl.av 7 c_api_Record Sl.nil)) (retV_pl _ _ (iA i)) (retV_pl _ _ (iA 9))) rfl rfl
   · replace hF0 := ite_f hF0 (not_t hc4)
     refine sk <| sq <| sq <| rg <| WO_ldfrz (s := 5) (b := 1050039) (v := 1) (u := u1) (a := out_) (n := 7) (c := c_api_Record) _ rfl rfl rfl rfl rfl rfl rfl rfl rfl rfl rfl ?_
     obtain ⟨f, h2, hF0⟩ := bind_some hF0
     refine WO_rd (g := 7) (args := [(Sl.av 7 c_api_Record out_.sl)]) (r := (iA f)) _ _ rfl rfl rfl rfl rfl rfl rfl (ok_gateref1_RecordsFault _ h2 _ _ ) <| L (iA f) rfl rfl rfl <| nl <| sq <| rg <| L (iA f) rfl rfl rfl <| L (bA (f != 0)) rfl rfl rfl <| nl <| cd (f != 0) rfl (fun hc3 => ?_) (fun hc3 => ?_)
     · replace hF0 := ite_t hF0 (bne_t hc3)
       refine sq <| rg <| L (iA f) rfl rfl rfl <| L (Sl.av 7 c_api_Record Sl.nil) rfl rfl rfl <| L (iA 0) rfl rfl rfl <| L (iA f) rfl rfl rfl <| nl <| rt ?_
       obtain rfl := Option.some.inj hF0
       exact rd_leaf (.inr rfl) rfl (ret_tup3 (retV_pl _ _ (Sl.av 7 c_api_Record Sl.nil)) (retV_pl _ _ (iA 0)) (retV_pl _ _ (iA f))) rfl rfl
     · replace hF0 := ite_f hF0 (bne_f hc3)
       refine sk <| sq <| rg <| WO_ldfrz2 (s := 5) (b := 1050039) (v := 1) (u := u1) (a := out_) (n := 7) (c := c_api_Record) _ rfl rfl rfl rfl rfl rfl rfl rfl rfl rfl rfl <| L (Sl.av 7 c_api_Record out_.sl) rfl rfl rfl <| L (iA 0) rfl rfl rfl <| L (iA 0) rfl rfl rfl <| nl <| rt ?_
       obtain rfl := Option.some.inj hF0
       exact rd_leaf (.inr rfl) rfl (ret_tup3 (retV_pl _ _ (Sl.av 7 c_api_Record out_.sl)) (retV_pl _ _ (iA 0)) (retV_pl _ _ (iA 0))) rfl rfl

theorem ok_slices_Equal_api_Record_api_Record (s1 : (Sl api_Record)) (s2 : (Sl api_Record)) {r : (Bool)} (hF0 : slices_Equal_api_Record_api_Record s1 s2 = some r) (out : List AE.Frame) (glob : List AObj) : RdOk Tryz.prog pol true 12 [(Sl.av 7 c_api_Record s1), (Sl.av 7 c_api_Record s2)] out glob (bA r) := by
 unfold slices_Equal_api_Record_api_Record at hF0
 refine rd_walk Tryz.func12 rfl (Nat.not_lt.2 (Nat.le_of_ble_eq_true rfl)) ?_
 intro ro
 refine sq <| rg <| L (bA false) rfl rfl rfl <| nl <| sq <| sq <| rg <| L (Sl.av 7 c_api_Record s1) rfl rfl rfl <| L (iA (s1.list.length : Int)) rfl rfl (op_len rfl rfl rfl rfl rfl (len_sl _)) <| L (Sl.av 7 c_api_Record s2) rfl rfl rfl <| L (iA (s2.list.length : Int)) rfl rfl (op_len rfl rfl rfl rfl rfl (len_sl _)) <| L (bA ((s1.list.length : Int) != (s2.list.length : Int))) rfl rfl rfl <| nl <| cd ((s1.list.length : Int) != (s2.list.length : Int)) rfl (fun hc9 => ?_) (fun hc9 => ?_)
 · replace hF0 := ite_t hF0 (bne_t hc9)
   refine sq <| rg <| L (bA false) rfl rfl rfl <| nl <| rt ?_
   obtain rfl := Option.some.inj hF0
   exact rd_leaf (.inr rfl) rfl (retV_pl _ _ (bA false)) rfl rfl
 · replace hF0 := ite_f hF0 (bne_f hc9)
   refine sk <| sq <| sq <| rg <| L (Sl.av 7 c_api_Record s1) rfl rfl rfl <| L (iA (s1.list.length : Int)) rfl rfl (op_len rfl rfl rfl rfl rfl (len_sl _)) <| L (iA 0) rfl rfl rfl <| nl <| bk ?_
   obtain ⟨b1, hb4, hF0⟩ := bind_some hF0
   obtain ⟨hn4, hb4⟩ := ite_none hb4
   obtain ⟨J4, hJ4⟩ : ∃ J : St → Prop, ∀ st, J st ↔ (∃ (tm6 : Nat → AV) (cb6 : AE.Frame), st = ⟨tm6, ⟨cb6, out, glob⟩⟩ ∧ AllEq tm6 [] ∧ AllEq cb6 [] ∧ Res.out () = b1) := ⟨_, fun _ => Iff.rfl⟩
   obtain ⟨R4, hR4⟩ : ∃ R : Nat → (Unit) → St → Prop, ∀ i v st, R i v st ↔ (match v with | () => ∃ (tm5 : Nat → AV) (cb5 : AE.Frame), st = ⟨tm5, ⟨cb5, out, glob⟩⟩ ∧ AllEq tm5 [(0, (Sl.av 7 c_api_Record s1)), (1, (Sl.av 7 c_api_Record s2)), (12, (iA (s1.list.length : Int))), (13, (iA ((i : Nat) : Int)))] ∧ AllEq cb5 []) := ⟨_, fun _ _ _ => Iff.rfl⟩
   refine W_loopcut J4 (fun st hst => ?_) ?_
   · obtain ⟨tm6, cb6, rfl, hT6, hC6, rfl⟩ := (hJ4 st).1 hst
     obtain ⟨tm6, rfl⟩ := allEq hT6
     obtain ⟨cb6, rfl⟩ := allEq hC6
     replace hF0 := res_out hF0
     refine sq <| rg <| L (bA true) rfl rfl rfl <| nl <| rt ?_
     obtain rfl := Option.some.inj hF0
     exact rd_leaf (.inr rfl) rfl (retV_pl _ _ (bA true)) rfl rfl
   · refine W_rangeL hb4 R4 ((hR4 _ _ _).2 ⟨_, _, rfl, (And.intro rfl (And.intro rfl (And.intro rfl (And.intro rfl True.intro)))), True.intro⟩) ?_ ?_
     · intro i hi4 v st s hr hF1 hD1
       obtain ⟨⟩ := v
       obtain ⟨tm5, cb5, rfl, hT5, hC5⟩ := (hR4 _ _ _).1 hr
       obtain ⟨tm5, rfl⟩ := allEq hT5
       obtain ⟨cb5, rfl⟩ := allEq hC5
       obtain ⟨x2, hx4⟩ : ∃ x, x = s1.list[i] := ⟨_, rfl⟩
       rw [← hx4] at hF1
       dsimp only [slices_Equal_api_Record_api_Record_l0] at hF1
       refine sq (rg ?_)
       refine WO_do (y := (bA (decide (((i : Nat) : Int) < (s1.list.length : Int))))) _ rfl rfl rfl (nl ?_)
       refine sq <| cd true (congrArg some (range_lt hi4)) (fun _ => ?_) (fun h => absurd h (by decide))
       refine sk <| sq <| bk <| sq <| rg <| L (iA ((i : Nat) : Int)) rfl rfl rfl <| L (iA ((i : Nat) : Int)) rfl rfl rfl <| nl <| sq <| dw (by kernel_rfl) <| L (Sl.av 7 c_api_Record s1) rfl rfl rfl <| L (iA ((i : Nat) : Int)) rfl rfl rfl <| L (.cptr (c_api_Record x2)) rfl rfl (op_ix rfl ((ix_at (c := c_api_Record) rfl rfl hi4).trans (congrArg (fun x => some (AV.cptr (c_api_Record x))) hx4.symm))) <| L (.agg (c_api_Record x2)) rfl rfl rfl <| L (Sl.av 7 c_api_Record s2) rfl rfl rfl <| L (iA ((i : Nat) : Int)) rfl rfl rfl ?_
       obtain ⟨x3, h_x3, hF1⟩ := bind_some hF1
       refine L (.cptr (c_api_Record x3)) rfl rfl (op_ix rfl (ix_sl (c := c_api_Record) rfl rfl h_x3)) <| L (.agg (c_api_Record x3)) rfl rfl rfl <| L (bA (!(eq_api_Record x2 x3))) rfl rfl (op_bin rfl (bin_agne (b := eq_api_Record x2 x3) (by kernel_rfl) (by kernel_rfl))) <| nl <| cd (!(eq_api_Record x2 x3)) rfl (fun hc8 => ?_) (fun hc8 => ?_)
       · replace hF1 := ite_t hF1 (hc8)
         refine sq <| rg <| L (bA false) rfl rfl rfl <| nl <| rt ?_
         obtain rfl := hD1 _ (Option.some.inj hF1).symm
         replace hF0 := res_ret hF0
         obtain rfl := Option.some.inj hF0
         exact rd_leaf (.inr rfl) rfl (retV_pl _ _ (bA false)) rfl rfl
       · replace hF1 := ite_f hF1 (not_t hc8)
         exact sk <| rg <| WO_do (y := (iA ((i + 1 : Nat) : Int))) _ rfl rfl (congrArg (fun n => some (AV.int .i64 n, _)) (range_len hi4 hn4)) <| WO_do (y := (iA ((i + 1 : Nat) : Int))) _ rfl rfl rfl <| nl <| Exists.intro _ (And.intro (Option.some.inj hF1).symm ((hR4 _ _ _).2 ⟨_, _, rfl, (And.intro rfl (And.intro rfl (And.intro rfl (And.intro rfl True.intro)))), True.intro⟩))
     · intro v st hr hD1
       obtain ⟨⟩ := v
       obtain ⟨tm5, cb5, rfl, hT5, hC5⟩ := (hR4 _ _ _).1 hr
       obtain ⟨tm5, rfl⟩ := allEq hT5
       obtain ⟨cb5, rfl⟩ := allEq hC5
       refine sq (rg ?_)
       refine WO_do (y := .bool false) _ rfl rfl (congrArg (fun b => some (AV.bool b, _)) (range_ge _)) (nl ?_)
       refine sq <| cd false rfl (fun h => absurd h (by decide)) (fun _ => ?_)
       exact xt <| (hJ4 _).2 ⟨_, _, rfl, True.intro, True.intro, hD1⟩

theorem ok_gatelaw1_RecordTexts (l : (Sl Int)) {r : (Bool)} (hF0 : gatelaw1_RecordTexts l = some r) (out : List AE.Frame) (glob : List AObj) (hglob : glob = []) : ∃ h, A Tryz.prog pol false 3 [(Sl.av 1 c_i64 l)] out glob = some ((bA r), h) := by
 unfold gatelaw1_RecordTexts at hF0
 refine law_walk Tryz.func3 rfl (Nat.not_lt.2 (Nat.le_of_ble_eq_true rfl)) <| sq <| rg <| L (bA false) rfl rfl rfl <| nl <| sq <| rg <| L (Sl.av 1 c_i64 l) rfl rfl (op_movS rfl rfl rfl) <| L (.agg (c_gatemake_Stream (gatemake_Stream.mk l 0))) rfl rfl (op_build rfl (build_st (cs := (c_gatemake_Stream (gatemake_Stream.mk l 0))) rfl rfl rfl (fill_cons (x := (Sl.av 1 c_i64 l)) rfl rfl (Nat.le_of_ble_eq_true rfl) (fill_nil)))) <| L (.ptr (.fr 0 17) 1 0) (h' := ⟨upd _ 17 ⟨1, .cells (c_gatemake_Stream (gatemake_Stream.mk l 0))⟩, _, _⟩) rfl rfl (op_box (x' := (.agg (c_gatemake_Stream (gatemake_Stream.mk l 0)))) rfl rfl rfl rfl) <| L (.ptr (.fr 0 17) 1 0) rfl rfl rfl <| nl <| sq <| rg <| L (.ptr (.fr 0 17) 1 0) rfl rfl rfl <| L (.ptr (.fr 0 17) 1 0) rfl rfl rfl ?_
 obtain ⟨⟨r20, t17⟩, h1, hF0⟩ := bind_some hF0
 refine WO_mutL (g := 5) (args := fun p => [p, (iA 0), (iA 4)]) (t := 17) (v := 1) (r := (iA r20)) _ _ rfl rfl rfl rfl rfl rfl rfl (fun _ _ => inferInstance) rfl (ok_gatemake_Stream_Range _ _ _ h1) ?_
 obtain ⟨⟨r_, t171⟩, h2, hF0⟩ := bind_some hF0
 refine WO_mutL (g := 4) (args := fun p => [p, (iA r20)]) (t := 17) (v := 1) (r := (Sl.av 7 c_api_Record r_)) _ _ rfl rfl rfl rfl rfl rfl rfl (fun _ _ => inferInstance) rfl (ok_gatemake_Stream_GateRecords _ _ h2) <| L (Sl.av 7 c_api_Record r_) rfl rfl rfl <| nl <| sq <| rg <| L (Sl.av 7 c_api_Record r_) rfl rfl (op_movS rfl rfl rfl) ?_
 obtain ⟨⟨t, e⟩, h3, hF0⟩ := bind_some hF0
 refine WO_rd (g := 6) (args := [(Sl.av 7 c_api_Record r_)]) (r := (.tup [(sA t), (iA e)])) _ _ rfl rfl rfl rfl rfl rfl rfl (ok_gate_Text _ h3 _ _ ) <| L (.tup [(sA t), (iA e)]) rfl rfl rfl <| L (sA t) rfl rfl rfl <| L (iA e) rfl rfl rfl <| L (sA t) rfl rfl rfl <| L (iA e) rfl rfl rfl <| nl <| sq <| sq <| rg <| L (Sl.av 7 c_api_Record r_) rfl rfl (op_movS rfl rfl rfl) ?_
 obtain ⟨fault, h4, hF0⟩ := bind_some hF0
 refine WO_rd (g := 7) (args := [(Sl.av 7 c_api_Record r_)]) (r := (iA fault)) _ _ rfl rfl rfl rfl rfl rfl rfl (ok_gateref1_RecordsFault _ h4 _ _ ) <| L (iA fault) rfl rfl rfl <| nl <| sq <| rg <| L (iA e) rfl rfl rfl <| L (iA fault) rfl rfl rfl <| L (bA (e != fault)) rfl rfl rfl ?_
 obtain ⟨y9, hF1, hF0⟩ := bind_some hF0
 obtain ⟨J9, hJ9⟩ : ∃ J : St → Prop, ∀ st, J st ↔ (∃ (t41 : Bool) (tm10 : Nat → AV) (cb10 : AE.Frame), st = ⟨tm10, ⟨cb10, out, glob⟩⟩ ∧ AllEq tm10 [(3, (.ptr (.fr 0 17) 1 0)), (5, (sA t)), (7, (iA fault)), (41, (bA t41))] ∧ AllEq cb10 [(17, ⟨1, .cells (c_gatemake_Stream t171)⟩)] ∧ t41 = y9) := ⟨_, fun _ => Iff.rfl⟩
 refine WO_cut 10 J9 (fun st hst => ?_) ?_
 · obtain ⟨t41, tm10, cb10, rfl, hT10, hC10, rfl⟩ := (hJ9 st).1 hst
   obtain ⟨tm10, rfl⟩ := allEq hT10
   obtain ⟨cb10, rfl⟩ := allEq hC10
   obtain ⟨J13, hJ13⟩ : ∃ J : St → Prop, ∀ st, J st ↔ (∃ (tm14 : Nat → AV) (cb14 : AE.Frame), st = ⟨tm14, ⟨cb14, out, glob⟩⟩ ∧ AllEq tm14 [(3, (.ptr (.fr 0 17) 1 0)), (49, (bA (t41 || ((fault != 0) && (t != [])))))] ∧ AllEq cb14 [(17, ⟨1, .cells (c_gatemake_Stream t171)⟩)]) := ⟨_, fun _ => Iff.rfl⟩
   refine WO_cut 8 J13 (fun st hst => ?_) ?_
   · obtain ⟨tm14, cb14, rfl, hT14, hC14⟩ := (hJ13 st).1 hst
     obtain ⟨tm14, rfl⟩ := allEq hT14
     obtain ⟨cb14, rfl⟩ := allEq hC14
     refine nl <| cd (t41 || ((fault != 0) && (t != []))) rfl (fun hc28 => ?_) (fun hc28 => ?_)
     · replace hF0 := ite_t hF0 (hc28)
       refine sq <| rg <| L (bA false) rfl rfl rfl <| nl <| rt ?_
       obtain rfl := Option.some.inj hF0
       exact law_leaf (.inr rfl) rfl
     · replace hF0 := ite_f hF0 (not_t hc28)
       refine sk <| sq <| rg <| L (.ptr (.fr 0 17) 1 0) rfl rfl rfl ?_
       obtain ⟨⟨text, t172⟩, h15, hF0⟩ := bind_some hF0
       refine WO_mutL (g := 9) (args := fun p => [p]) (t := 17) (v := 1) (r := (sA text)) _ _ rfl rfl rfl rfl rfl rfl rfl (fun _ _ => inferInstance) rfl (ok_gatemake_Stream_RecordString _ h15) <| L (sA text) rfl rfl rfl <| nl <| sq <| rg <| L (sA text) rfl rfl rfl ?_
       obtain ⟨⟨a, i, f⟩, h16, hF0⟩ := bind_some hF0
       refine WO_rd (g := 10) (args := [(sA text)]) (r := (.tup [(Sl.av 7 c_api_Record a), (iA i), (iA f)])) _ _ rfl rfl rfl rfl rfl rfl rfl (ok_gate_Read _ h16 _ _ ) <| L (.tup [(Sl.av 7 c_api_Record a), (iA i), (iA f)]) rfl rfl rfl <| L (Sl.av 7 c_api_Record a) rfl rfl rfl <| L (iA i) rfl rfl rfl <| L (iA f) rfl rfl rfl <| L (Sl.av 7 c_api_Record a) rfl rfl rfl <| L (iA i) rfl rfl rfl <| L (iA f) rfl rfl rfl <| nl <| sq <| rg <| L (sA text) rfl rfl rfl ?_
       obtain ⟨⟨b, k1, g⟩, h17, hF0⟩ := bind_some hF0
       refine WO_rd (g := 11) (args := [(sA text)]) (r := (.tup [(Sl.av 7 c_api_Record b), (iA k1), (iA g)])) _ _ rfl rfl rfl rfl rfl rfl rfl (ok_gateref1_RecordsRead _ h17 _ _ ) <| L (.tup [(Sl.av 7 c_api_Record b), (iA k1), (iA g)]) rfl rfl rfl <| L (Sl.av 7 c_api_Record b) rfl rfl rfl <| L (iA k1) rfl rfl rfl <| L (iA g) rfl rfl rfl <| L (Sl.av 7 c_api_Record b) rfl rfl rfl <| L (iA k1) rfl rfl rfl <| L (iA g) rfl rfl rfl <| nl <| sq <| rg <| L (iA f) rfl rfl rfl <| L (iA g) rfl rfl rfl <| L (bA (f == g)) rfl rfl rfl ?_
       obtain ⟨J18, hJ18⟩ : ∃ J : St → Prop, ∀ st, J st ↔ (∃ (tm19 : Nat → AV) (cb19 : AE.Frame), st = ⟨tm19, ⟨cb19, out, glob⟩⟩ ∧ AllEq tm19 [(9, (Sl.av 7 c_api_Record a)), (12, (Sl.av 7 c_api_Record b)), (71, (bA ((f == g) && (i == k1))))] ∧ AllEq cb19 []) := ⟨_, fun _ => Iff.rfl⟩
       refine WO_cut 5 J18 (fun st hst => ?_) ?_
       · obtain ⟨tm19, cb19, rfl, hT19, hC19⟩ := (hJ18 st).1 hst
         obtain ⟨tm19, rfl⟩ := allEq hT19
         obtain ⟨cb19, rfl⟩ := allEq hC19
         obtain ⟨y21, hF1, hF0⟩ := bind_some hF0
         obtain ⟨J21, hJ21⟩ : ∃ J : St → Prop, ∀ st, J st ↔ (∃ (t76 : Bool) (tm22 : Nat → AV) (cb22 : AE.Frame), st = ⟨tm22, ⟨cb22, out, glob⟩⟩ ∧ AllEq tm22 [(76, (bA t76))] ∧ AllEq cb22 [] ∧ t76 = y21) := ⟨_, fun _ => Iff.rfl⟩
         refine WO_cut 5 J21 (fun st hst => ?_) ?_
         · obtain ⟨t76, tm22, cb22, rfl, hT22, hC22, rfl⟩ := (hJ21 st).1 hst
           obtain ⟨tm22, rfl⟩ := allEq hT22
           obtain ⟨cb22, rfl⟩ := allEq hC22
           obtain ⟨y24, hF1, hF0⟩ := bind_some hF0
           obtain ⟨J24, hJ24⟩ : ∃ J : St → Prop, ∀ st, J st ↔ (∃ (t79 : Bool) (tm25 : Nat → AV) (cb25 : AE.Frame) (globv25 : List AObj), st = ⟨tm25, ⟨cb25, out, globv25⟩⟩ ∧ AllEq tm25 [(79, (bA t79))] ∧ AllEq cb25 [] ∧ t79 = y24) := ⟨_, fun _ => Iff.rfl⟩
           refine WO_cut 3 J24 (fun st hst => ?_) ?_
           · obtain ⟨t79, tm25, cb25, globv25, rfl, hT25, hC25, rfl⟩ := (hJ24 st).1 hst
             obtain ⟨tm25, rfl⟩ := allEq hT25
             obtain ⟨cb25, rfl⟩ := allEq hC25
             refine L (bA t79) rfl rfl rfl <| nl <| rt ?_
             obtain rfl := Option.some.inj hF0
             exact law_leaf (.inr rfl) rfl
           · rcases bool_cases t76 with hc24 | hc24
             · replace hF1 := ite_t hF1 (hc24)
               refine L (.bool true) rfl rfl (congrArg (fun b => some (AV.bool b, _)) hc24) <| WO_lim (g := 13) _ _ rfl rfl rfl rfl rfl rfl rfl rfl hglob lim_gated (fun glob26 => ?_)
               exact L (bA true) rfl rfl rfl <| nl ((hJ24 _).2 ⟨true, _, _, _, rfl, (And.intro rfl True.intro), True.intro, Option.some.inj hF1⟩)
             · replace hF1 := ite_f hF1 (not_t hc24)
               exact L (.bool false) rfl rfl (congrArg (fun b => some (AV.bool b, _)) hc24) <| WO_no _ rfl rfl <| L (bA false) rfl rfl rfl <| nl ((hJ24 _).2 ⟨false, _, _, _, rfl, (And.intro rfl True.intro), True.intro, Option.some.inj hF1⟩)
         · rcases bool_cases ((f == g) && (i == k1)) with hc21 | hc21
           · replace hF1 := ite_t hF1 (hc21)
             refine L (.bool true) rfl rfl (congrArg (fun b => some (AV.bool b, _)) hc21) <| L (Sl.av 7 c_api_Record a) rfl rfl (op_movS rfl rfl rfl) <| L (Sl.av 7 c_api_Record b) rfl rfl (op_movS rfl rfl rfl) ?_
             obtain ⟨r751, h27, hF1⟩ := bind_some hF1
             exact WO_rd (g := 12) (args := [(Sl.av 7 c_api_Record a), (Sl.av 7 c_api_Record b)]) (r := (bA r751)) _ _ rfl rfl rfl rfl rfl rfl rfl (ok_slices_Equal_api_Record_api_Record _ _ h27 _ _ ) <| L (bA r751) rfl rfl rfl <| nl ((hJ21 _).2 ⟨r751, _, _, rfl, (And.intro rfl True.intro), True.intro, Option.some.inj hF1⟩)
           · replace hF1 := ite_f hF1 (not_t hc21)
             exact L (.bool false) rfl rfl (congrArg (fun b => some (AV.bool b, _)) hc21) <| WO_no _ rfl rfl <| WO_no _ rfl rfl <| WO_no _ rfl rfl <| L (bA false) rfl rfl rfl <| nl ((hJ21 _).2 ⟨false, _, _, rfl, (And.intro rfl True.intro), True.intro, Option.some.inj hF1⟩)
       · rcases bool_cases (f == g) with hc18 | hc18
         · exact L (.bool true) rfl rfl (congrArg (fun b => some (AV.bool b, _)) hc18) <| L (iA i) rfl rfl rfl <| L (iA k1) rfl rfl rfl <| L (bA (i == k1)) rfl rfl rfl <| L (bA ((f == g) && (i == k1))) rfl rfl (congrArg (fun b => some (AV.bool b, _)) (by rw [hc18]; rfl)) <| nl ((hJ18 _).2 ⟨_, _, rfl, (And.intro rfl (And.intro rfl (And.intro rfl True.intro))), True.intro⟩)
         · exact L (.bool false) rfl rfl (congrArg (fun b => some (AV.bool b, _)) hc18) <| WO_no _ rfl rfl <| WO_no _ rfl rfl <| WO_no _ rfl rfl <| L (bA ((f == g) && (i == k1))) rfl rfl (congrArg (fun b => some (AV.bool b, _)) (by rw [hc18]; rfl)) <| nl ((hJ18 _).2 ⟨_, _, rfl, (And.intro rfl (And.intro rfl (And.intro rfl True.intro))), True.intro⟩)
   · rcases bool_cases t41 with hc13 | hc13
     · exact L (.bool true) rfl rfl (congrArg (fun b => some (AV.bool b, _)) hc13) <| WO_no _ rfl rfl <| WO_no _ rfl rfl <| WO_no _ rfl rfl <| WO_no _ rfl rfl <| WO_no _ rfl rfl <| WO_no _ rfl rfl <| L (bA (t41 || ((fault != 0) && (t != [])))) rfl rfl (congrArg (fun b => some (AV.bool b, _)) (by rw [hc13]; rfl)) <| nl ((hJ13 _).2 ⟨_, _, rfl, (And.intro rfl (And.intro rfl True.intro)), (And.intro rfl True.intro)⟩)
     · refine L (.bool false) rfl rfl (congrArg (fun b => some (AV.bool b, _)) hc13) <| L (iA fault) rfl rfl rfl <| L (bA (fault != 0)) rfl rfl rfl ?_
       obtain ⟨J29, hJ29⟩ : ∃ J : St → Prop, ∀ st, J st ↔ (∃ (tm30 : Nat → AV) (cb30 : AE.Frame), st = ⟨tm30, ⟨cb30, out, glob⟩⟩ ∧ AllEq tm30 [(3, (.ptr (.fr 0 17) 1 0)), (42, (bA false)), (48, (bA ((fault != 0) && (t != []))))] ∧ AllEq cb30 [(17, ⟨1, .cells (c_gatemake_Stream t171)⟩)]) := ⟨_, fun _ => Iff.rfl⟩
       refine WO_cut 4 J29 (fun st hst => ?_) ?_
       · obtain ⟨tm30, cb30, rfl, hT30, hC30⟩ := (hJ29 st).1 hst
         obtain ⟨tm30, rfl⟩ := allEq hT30
         obtain ⟨cb30, rfl⟩ := allEq hC30
         exact L (bA (t41 || ((fault != 0) && (t != [])))) rfl rfl (congrArg (fun b => some (AV.bool b, _)) (by rw [hc13]; rfl)) <| nl ((hJ13 _).2 ⟨_, _, rfl, (And.intro rfl (And.intro rfl True.intro)), (And.intro rfl True.intro)⟩)
       · rcases bool_cases (fault != 0) with hc29 | hc29
         · exact L (.bool true) rfl rfl (congrArg (fun b => some (AV.bool b, _)) hc29) <| L (sA t) rfl rfl rfl <| L (bA (t != [])) rfl rfl (op_bin rfl bin_sne) <| L (bA ((fault != 0) && (t != []))) rfl rfl (congrArg (fun b => some (AV.bool b, _)) (by rw [hc29]; rfl)) <| nl ((hJ29 _).2 ⟨_, _, rfl, (And.intro rfl (And.intro rfl (And.intro rfl True.intro))), (And.intro rfl True.intro)⟩)
         · exact L (.bool false) rfl rfl (congrArg (fun b => some (AV.bool b, _)) hc29) <| WO_no _ rfl rfl <| WO_no _ rfl rfl <| L (bA ((fault != 0) && (t != []))) rfl rfl (congrArg (fun b => some (AV.bool b, _)) (by rw [hc29]; rfl)) <| nl ((hJ29 _).2 ⟨_, _, rfl, (And.intro rfl (And.intro rfl (And.intro rfl True.intro))), (And.intro rfl True.intro)⟩)
 · rcases bool_cases (e != fault) with hc9 | hc9
   · replace hF1 := ite_t hF1 (bne_t hc9)
     exact L (.bool true) rfl rfl (congrArg (fun b => some (AV.bool b, _)) hc9) <| WO_no _ rfl rfl <| WO_no _ rfl rfl <| WO_no _ rfl rfl <| WO_no _ rfl rfl <| WO_no _ rfl rfl <| WO_no _ rfl rfl <| WO_no _ rfl rfl <| WO_no _ rfl rfl <| L (bA true) rfl rfl rfl <| nl ((hJ9 _).2 ⟨true, _, _, rfl, (And.intro rfl (And.intro rfl (And.intro rfl (And.intro rfl True.intro)))), (And.intro rfl True.intro), Option.some.inj hF1⟩)
   · replace hF1 := ite_f hF1 (bne_f hc9)
     refine L (.bool false) rfl rfl (congrArg (fun b => some (AV.bool b, _)) hc9) <| L (iA fault) rfl rfl rfl <| L (bA (fault == 0)) rfl rfl rfl ?_
     obtain ⟨y32, hF2, hF1⟩ := bind_some hF1
     obtain ⟨J32, hJ32⟩ : ∃ J : St → Prop, ∀ st, J st ↔ (∃ (t401 : Bool) (tm33 : Nat → AV) (cb33 : AE.Frame), st = ⟨tm33, ⟨cb33, out, glob⟩⟩ ∧ AllEq tm33 [(3, (.ptr (.fr 0 17) 1 0)), (5, (sA t)), (7, (iA fault)), (32, (bA false)), (40, (bA t401))] ∧ AllEq cb33 [(17, ⟨1, .cells (c_gatemake_Stream t171)⟩)] ∧ t401 = y32) := ⟨_, fun _ => Iff.rfl⟩
     refine WO_cut 6 J32 (fun st hst => ?_) ?_
     · obtain ⟨t401, tm33, cb33, rfl, hT33, hC33, rfl⟩ := (hJ32 st).1 hst
       obtain ⟨tm33, rfl⟩ := allEq hT33
       obtain ⟨cb33, rfl⟩ := allEq hC33
       exact L (bA t401) rfl rfl rfl <| nl ((hJ9 _).2 ⟨t401, _, _, rfl, (And.intro rfl (And.intro rfl (And.intro rfl (And.intro rfl True.intro)))), (And.intro rfl True.intro), Option.some.inj hF1⟩)
     · rcases bool_cases (fault == 0) with hc32 | hc32
       · replace hF2 := ite_t hF2 (beq_t hc32)
         refine L (.bool true) rfl rfl (congrArg (fun b => some (AV.bool b, _)) hc32) <| L (sA t) rfl rfl rfl <| L (Sl.av 7 c_api_Record r_) rfl rfl (op_movS rfl rfl rfl) ?_
         obtain ⟨r383, h34, hF2⟩ := bind_some hF2
         exact WO_rd (g := 8) (args := [(Sl.av 7 c_api_Record r_)]) (r := (sA r383)) _ _ rfl rfl rfl rfl rfl rfl rfl (ok_gateref1_RecordLines _ h34 _ _ ) <| L (bA (t != r383)) rfl rfl (op_bin rfl bin_sne) <| L (bA (t != r383)) rfl rfl rfl <| nl ((hJ32 _).2 ⟨t != r383, _, _, rfl, (And.intro rfl (And.intro rfl (And.intro rfl (And.intro rfl (And.intro rfl True.intro))))), (And.intro rfl True.intro), Option.some.inj hF2⟩)
       · replace hF2 := ite_f hF2 (beq_f hc32)
         exact L (.bool false) rfl rfl (congrArg (fun b => some (AV.bool b, _)) hc32) <| WO_no _ rfl rfl <| WO_no _ rfl rfl <| WO_no _ rfl rfl <| WO_no _ rfl rfl <| L (bA false) rfl rfl rfl <| nl ((hJ32 _).2 ⟨false, _, _, rfl, (And.intro rfl (And.intro rfl (And.intro rfl (And.intro rfl (And.intro rfl True.intro))))), (And.intro rfl True.intro), Option.some.inj hF2⟩)
end Go.Proofs.YtimnggioioeehaaGreatDoor
