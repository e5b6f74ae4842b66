/- The evaluator answers as the typed functions. Printed by gen.py. -/
import Derived.Test.YtimnggioioeehabGreatDoorGtDefs
import Derived.Test.YtimnggioioeehabGreatDoorGtFacts
namespace Go.Proofs.YtimnggioioeehabGreatDoor
open Go.AE Go.GW
set_option maxRecDepth 100000
set_option linter.unusedVariables false
theorem ok_gatemake_Below (x : Int) (n : Int) {r : (Int)} (hF0 : gatemake_Below x n = some r) (out : List AE.Frame) (glob : List AObj) : RdOk Tryz.prog pol true 39 [(iA x), (iA n)] out glob (iA r) := by
 unfold gatemake_Below at hF0
 refine rd_walk Tryz.func39 rfl (Nat.not_lt.2 (Nat.le_of_ble_eq_true rfl)) ?_
 intro ro
 refine sq <| rg <| L (iA 0) rfl rfl rfl <| nl <| sq <| sq <| rg <| L (iA n) rfl rfl rfl <| L (bA (decide (n < 1))) rfl rfl rfl <| nl <| cd (decide (n < 1)) rfl (fun hc2 => ?_) (fun hc2 => ?_)
 · replace hF0 := ite_t hF0 (dec_t hc2)
   refine sq <| rg <| L (iA 0) rfl rfl rfl <| nl <| rt ?_
   obtain rfl := Option.some.inj hF0
   exact rd_leaf (.inr rfl) rfl (retV_pl _ _ (iA 0)) rfl rfl
 · replace hF0 := ite_f hF0 (dec_f hc2)
   refine sk <| sq <| rg <| L (iA x) rfl rfl rfl <| L (iA n) rfl rfl rfl ?_
   obtain ⟨x1, h_x1, hF0⟩ := bind_some hF0
   refine L (iA x1) rfl rfl (op_bin rfl (bin_rem h_x1)) <| L (iA x1) rfl rfl rfl <| nl <| sq <| sq <| rg <| L (iA x1) rfl rfl rfl <| L (bA (decide (x1 < 0))) rfl rfl rfl <| nl <| cd (decide (x1 < 0)) rfl (fun hc1 => ?_) (fun hc1 => ?_)
   · replace hF0 := ite_t hF0 (dec_t hc1)
     refine rg <| L (iA x1) rfl rfl rfl <| L (iA n) rfl rfl rfl <| L (iA (w64 (x1 + n))) rfl rfl rfl <| L (iA (w64 (x1 + n))) rfl rfl rfl <| nl <| sq <| rg <| L (iA (w64 (x1 + n))) rfl rfl rfl <| L (iA (w64 (x1 + n))) rfl rfl rfl <| nl <| rt ?_
     obtain rfl := Option.some.inj hF0
     exact rd_leaf (.inr rfl) rfl (retV_pl _ _ (iA (w64 (x1 + n)))) rfl rfl
   · replace hF0 := ite_f hF0 (dec_f hc1)
     refine sk <| sq <| rg <| L (iA x1) rfl rfl rfl <| L (iA x1) rfl rfl rfl <| nl <| rt ?_
     obtain rfl := Option.some.inj hF0
     exact rd_leaf (.inr rfl) rfl (retV_pl _ _ (iA x1)) rfl rfl

theorem ok_gatemake_Stream_Next (s_ : gatemake_Stream) (n : Int) {r : (Int × gatemake_Stream)} (hF0 : gatemake_Stream_Next s_ n = some r) : MutOk Tryz.prog pol 16 (fun p => [p, (iA n)]) (c_gatemake_Stream s_) (iA r.1) (c_gatemake_Stream r.2) := by
 unfold gatemake_Stream_Next at hF0
 refine mut_walk Tryz.func16 rfl (fun _ => Nat.not_lt.2 (Nat.le_of_ble_eq_true rfl)) ?_
 intro out glob d0 w0 hh0 hk_0
 refine sq <| rg <| L (iA 0) rfl rfl rfl <| nl <| sq <| rg <| L (.ptr d0 w0 0) rfl rfl rfl <| L (.ptr d0 w0 0) rfl rfl rfl <| L (.ptr d0 w0 1) rfl rfl rfl <| L (iA s_.at_) rfl rfl (op_load rfl (ld_con (iA s_.at_) rfl rfl (cs := (c_gatemake_Stream s_)) ((con_con2 _ _ _ _ _ hh0).trans hk_0) rfl)) <| L (iA (w64 (s_.at_ + 1))) rfl rfl rfl <| L (.ptr d0 w0 0) rfl rfl rfl <| L (.ptr d0 w0 1) rfl rfl rfl <| WO_stP (X := (iA (w64 (s_.at_ + 1)))) (cs := (c_gatemake_Stream s_)) (cs' := (c_gatemake_Stream ({ s_ with at_ := w64 (s_.at_ + 1) }))) (off := 1) _ rfl rfl rfl rfl rfl rfl rfl rfl hh0 hk_0 (Nat.le_of_ble_eq_true rfl) rfl (fun out1 glob1 hk1 hs1 => ?_)
 replace hs1 := (Same.refl _ _ _).trans hs1
 refine nl <| sq <| sq <| rg <| L (.ptr d0 w0 0) rfl rfl rfl <| L (.ptr d0 w0 0) rfl rfl rfl <| L (.ptr d0 w0 0) rfl rfl rfl <| L (Sl.av 1 c_i64 s_.L) rfl rfl (op_load rfl (ld_con (Sl.av 1 c_i64 s_.L) rfl rfl (cs := (c_gatemake_Stream ({ s_ with at_ := w64 (s_.at_ + 1) }))) ((con_con2 _ _ _ _ _ hh0).trans hk1) rfl)) <| L (iA (s_.L.list.length : Int)) rfl rfl (op_len rfl rfl rfl rfl rfl (len_sl _)) <| L (bA ((s_.L.list.length : Int) == 0)) rfl rfl rfl <| nl <| cd ((s_.L.list.length : Int) == 0) rfl (fun hc5 => ?_) (fun hc5 => ?_)
 · replace hF0 := ite_t hF0 (beq_t hc5)
   refine sq <| rg <| L (.ptr d0 w0 0) rfl rfl rfl <| L (.ptr d0 w0 0) rfl rfl rfl <| L (.ptr d0 w0 1) rfl rfl rfl <| L (iA (w64 (s_.at_ + 1))) rfl rfl (op_load rfl (ld_con (iA (w64 (s_.at_ + 1))) rfl rfl (cs := (c_gatemake_Stream ({ s_ with at_ := w64 (s_.at_ + 1) }))) ((con_con2 _ _ _ _ _ hh0).trans hk1) rfl)) <| L (iA (w64 ((w64 (s_.at_ + 1)) * 7919))) rfl rfl rfl <| L (iA n) rfl rfl rfl ?_
   obtain ⟨r4, h2, hF0⟩ := bind_some hF0
   refine WO_rd (g := 39) (args := [(iA (w64 ((w64 (s_.at_ + 1)) * 7919))), (iA n)]) (r := (iA r4)) _ _ rfl rfl rfl rfl rfl rfl rfl (ok_gatemake_Below _ _ h2 _ _ ) <| L (iA r4) rfl rfl rfl <| nl <| rt ?_
   obtain rfl := Option.some.inj hF0
   exact mut_leaf (.inr rfl) rfl (retV_pl _ _ (iA r4)) hk1 hs1
 · replace hF0 := ite_f hF0 (beq_f hc5)
   refine sk <| sq <| dw (by kernel_rfl) <| L (.ptr d0 w0 0) rfl rfl rfl <| L (.ptr d0 w0 0) rfl rfl rfl <| L (.ptr d0 w0 1) rfl rfl rfl <| L (iA (w64 (s_.at_ + 1))) rfl rfl (op_load rfl (ld_con (iA (w64 (s_.at_ + 1))) rfl rfl (cs := (c_gatemake_Stream ({ s_ with at_ := w64 (s_.at_ + 1) }))) ((con_con2 _ _ _ _ _ hh0).trans hk1) rfl)) <| L (iA (w64 ((w64 (s_.at_ + 1)) - 1))) rfl rfl rfl <| L (.ptr d0 w0 0) rfl rfl rfl <| L (.ptr d0 w0 0) rfl rfl rfl <| L (.ptr d0 w0 0) rfl rfl rfl <| L (Sl.av 1 c_i64 s_.L) rfl rfl (op_load rfl (ld_con (Sl.av 1 c_i64 s_.L) rfl rfl (cs := (c_gatemake_Stream ({ s_ with at_ := w64 (s_.at_ + 1) }))) ((con_con2 _ _ _ _ _ hh0).trans hk1) rfl)) <| L (iA (s_.L.list.length : Int)) rfl rfl (op_len rfl rfl rfl rfl rfl (len_sl _)) ?_
   obtain ⟨i, h_i, hF0⟩ := bind_some hF0
   refine L (iA i) rfl rfl (op_bin rfl (bin_rem h_i)) <| L (iA i) rfl rfl rfl <| nl <| sq <| dw (by kernel_rfl) <| L (.ptr d0 w0 0) rfl rfl rfl <| L (.ptr d0 w0 0) rfl rfl rfl <| L (.ptr d0 w0 1) rfl rfl rfl <| L (iA (w64 (s_.at_ + 1))) rfl rfl (op_load rfl (ld_con (iA (w64 (s_.at_ + 1))) rfl rfl (cs := (c_gatemake_Stream ({ s_ with at_ := w64 (s_.at_ + 1) }))) ((con_con2 _ _ _ _ _ hh0).trans hk1) rfl)) <| L (iA (w64 ((w64 (s_.at_ + 1)) - 1))) rfl rfl rfl <| L (.ptr d0 w0 0) rfl rfl rfl <| L (.ptr d0 w0 0) rfl rfl rfl <| L (.ptr d0 w0 0) rfl rfl rfl <| L (Sl.av 1 c_i64 s_.L) rfl rfl (op_load rfl (ld_con (Sl.av 1 c_i64 s_.L) rfl rfl (cs := (c_gatemake_Stream ({ s_ with at_ := w64 (s_.at_ + 1) }))) ((con_con2 _ _ _ _ _ hh0).trans hk1) rfl)) <| L (iA (s_.L.list.length : Int)) rfl rfl (op_len rfl rfl rfl rfl rfl (len_sl _)) ?_
   obtain ⟨round, h_round, hF0⟩ := bind_some hF0
   refine L (iA round) rfl rfl (op_bin rfl (bin_quo h_round)) <| L (iA round) rfl rfl rfl <| nl <| sq <| rg <| L (.ptr d0 w0 0) rfl rfl rfl <| L (.ptr d0 w0 0) rfl rfl rfl <| L (.ptr d0 w0 0) rfl rfl rfl <| L (Sl.av 1 c_i64 s_.L) rfl rfl (op_load rfl (ld_con (Sl.av 1 c_i64 s_.L) rfl rfl (cs := (c_gatemake_Stream ({ s_ with at_ := w64 (s_.at_ + 1) }))) ((con_con2 _ _ _ _ _ hh0).trans hk1) rfl)) <| L (iA i) rfl rfl rfl ?_
   obtain ⟨x, h_x, hF0⟩ := bind_some hF0
   refine L (.cptr [(iA x)]) rfl rfl (op_ix rfl (ix_sl (c := c_i64) rfl rfl h_x)) <| L (iA x) rfl rfl rfl ?_
   obtain ⟨r56, h3, hF0⟩ := bind_some hF0
   refine WO_rd (g := 39) (args := [(iA x), (iA 1073741824)]) (r := (iA r56)) _ _ rfl rfl rfl rfl rfl rfl rfl (ok_gatemake_Below _ _ h3 _ _ ) <| L (iA round) rfl rfl rfl <| L (iA i) rfl rfl rfl <| L (iA (w64 (7919 + i))) rfl rfl rfl <| L (iA (w64 (round * (w64 (7919 + i))))) rfl rfl rfl <| L (iA (w64 (r56 + (w64 (round * (w64 (7919 + i))))))) rfl rfl rfl <| L (iA n) rfl rfl rfl ?_
   obtain ⟨r41, h4, hF0⟩ := bind_some hF0
   refine WO_rd (g := 39) (args := [(iA (w64 (r56 + (w64 (round * (w64 (7919 + i))))))), (iA n)]) (r := (iA r41)) _ _ rfl rfl rfl rfl rfl rfl rfl (ok_gatemake_Below _ _ h4 _ _ ) <| L (iA r41) rfl rfl rfl <| nl <| rt ?_
   obtain rfl := Option.some.inj hF0
   exact mut_leaf (.inr rfl) rfl (retV_pl _ _ (iA r41)) hk1 hs1

theorem ok_gatemake_Stream_Flip (s_ : gatemake_Stream) (n : Int) {r : (Bool × gatemake_Stream)} (hF0 : gatemake_Stream_Flip s_ n = some r) : MutOk Tryz.prog pol 13 (fun p => [p, (iA n)]) (c_gatemake_Stream s_) (bA r.1) (c_gatemake_Stream r.2) := by
 unfold gatemake_Stream_Flip at hF0
 refine mut_walk Tryz.func13 rfl (fun _ => Nat.not_lt.2 (Nat.le_of_ble_eq_true rfl)) ?_
 intro out glob d0 w0 hh0 hk_0
 refine sq <| rg <| L (bA false) rfl rfl rfl <| nl <| sq <| rg <| L (.ptr d0 w0 0) rfl rfl rfl <| L (iA n) rfl rfl rfl ?_
 obtain ⟨⟨r7, s_1⟩, h1, hF0⟩ := bind_some hF0
 refine WO_mutP (g := 16) (args := fun p => [p, (iA n)]) (d := d0) (v := w0) (r := (iA r7)) _ _ rfl rfl rfl rfl rfl rfl rfl (fun _ _ => inferInstance) hh0 hk_0 (ok_gatemake_Stream_Next _ _ h1) (fun out1 glob1 hk1 hs1 => ?_)
 replace hs1 := (Same.refl _ _ _).trans hs1
 refine L (bA (r7 == 0)) rfl rfl rfl <| L (bA (r7 == 0)) rfl rfl rfl <| nl <| rt ?_
 obtain rfl := Option.some.inj hF0
 exact mut_leaf (.inr rfl) rfl (retV_pl _ _ (bA (r7 == 0))) hk1 hs1

theorem ok_gatemake_Stream_Range (s_ : gatemake_Stream) (low : Int) (high : Int) {r : (Int × gatemake_Stream)} (hF0 : gatemake_Stream_Range s_ low high = some r) : MutOk Tryz.prog pol 38 (fun p => [p, (iA low), (iA high)]) (c_gatemake_Stream s_) (iA r.1) (c_gatemake_Stream r.2) := by
 unfold gatemake_Stream_Range at hF0
 refine mut_walk Tryz.func38 rfl (fun _ => Nat.not_lt.2 (Nat.le_of_ble_eq_true rfl)) ?_
 intro out glob d0 w0 hh0 hk_0
 refine sq <| rg <| L (iA 0) rfl rfl rfl <| nl <| sq <| sq <| rg <| L (iA high) rfl rfl rfl <| L (iA low) rfl rfl rfl <| L (bA (decide (high < low))) rfl rfl rfl <| nl <| cd (decide (high < low)) rfl (fun hc2 => ?_) (fun hc2 => ?_)
 · replace hF0 := ite_t hF0 (dec_t hc2)
   refine sq <| rg <| L (iA low) rfl rfl rfl <| L (iA low) rfl rfl rfl <| nl <| rt ?_
   obtain rfl := Option.some.inj hF0
   exact mut_leaf (.inr rfl) rfl (retV_pl _ _ (iA low)) hk_0 (Same.refl _ _ _)
 · replace hF0 := ite_f hF0 (dec_f hc2)
   refine sk <| sq <| rg <| L (iA low) rfl rfl rfl <| L (.ptr d0 w0 0) rfl rfl rfl <| L (iA high) rfl rfl rfl <| L (iA low) rfl rfl rfl <| L (iA (w64 (high - low))) rfl rfl rfl <| L (iA (w64 ((w64 (high - low)) + 1))) rfl rfl rfl ?_
   obtain ⟨⟨r17, s_1⟩, h1, hF0⟩ := bind_some hF0
   refine WO_mutP (g := 16) (args := fun p => [p, (iA (w64 ((w64 (high - low)) + 1)))]) (d := d0) (v := w0) (r := (iA r17)) _ _ rfl rfl rfl rfl rfl rfl rfl (fun _ _ => inferInstance) hh0 hk_0 (ok_gatemake_Stream_Next _ _ h1) (fun out1 glob1 hk1 hs1 => ?_)
   replace hs1 := (Same.refl _ _ _).trans hs1
   refine L (iA (w64 (low + r17))) rfl rfl rfl <| L (iA (w64 (low + r17))) rfl rfl rfl <| nl <| rt ?_
   obtain rfl := Option.some.inj hF0
   exact mut_leaf (.inr rfl) rfl (retV_pl _ _ (iA (w64 (low + r17)))) hk1 hs1

theorem ok_gatemake_Stream_Pick (s_ : gatemake_Stream) (l : (Sl Int)) {r : (Int × gatemake_Stream)} (hF0 : gatemake_Stream_Pick s_ l = some r) : MutOk Tryz.prog pol 27 (fun p => [p, (Sl.av 1 c_i64 l)]) (c_gatemake_Stream s_) (iA r.1) (c_gatemake_Stream r.2) := by
 unfold gatemake_Stream_Pick at hF0
 refine mut_walk Tryz.func27 rfl (fun _ => Nat.not_lt.2 (Nat.le_of_ble_eq_true rfl)) ?_
 intro out glob d0 w0 hh0 hk_0
 refine sq <| rg <| L (iA 0) rfl rfl rfl <| nl <| sq <| rg <| L (Sl.av 1 c_i64 l) rfl rfl rfl <| L (.ptr d0 w0 0) rfl rfl rfl <| L (Sl.av 1 c_i64 l) rfl rfl rfl <| L (iA (l.list.length : Int)) rfl rfl (op_len rfl rfl rfl rfl rfl (len_sl _)) ?_
 obtain ⟨⟨r9, s_1⟩, h1, hF0⟩ := bind_some hF0
 refine WO_mutP (g := 16) (args := fun p => [p, (iA (l.list.length : Int))]) (d := d0) (v := w0) (r := (iA r9)) _ _ rfl rfl rfl rfl rfl rfl rfl (fun _ _ => inferInstance) hh0 hk_0 (ok_gatemake_Stream_Next _ _ h1) (fun out1 glob1 hk1 hs1 => ?_)
 replace hs1 := (Same.refl _ _ _).trans hs1
 obtain ⟨x, h_x, hF0⟩ := bind_some hF0
 refine L (.cptr [(iA x)]) rfl rfl (op_ix rfl (ix_sl (c := c_i64) rfl rfl h_x)) <| L (iA x) rfl rfl rfl <| L (iA x) rfl rfl rfl <| nl <| rt ?_
 obtain rfl := Option.some.inj hF0
 exact mut_leaf (.inr rfl) rfl (retV_pl _ _ (iA x)) hk1 hs1

theorem ok_gatemake_Stream_RightLimit (s_ : gatemake_Stream) (key : Str) {r : (api_Limit × gatemake_Stream)} (hF0 : gatemake_Stream_RightLimit s_ key = some r) : MutOk Tryz.prog pol 14 (fun p => [p, (sA key)]) (c_gatemake_Stream s_) (.agg (c_api_Limit r.1)) (c_gatemake_Stream r.2) := by
 unfold gatemake_Stream_RightLimit at hF0
 refine mut_walk Tryz.func14 rfl (fun _ => Nat.not_lt.2 (Nat.le_of_ble_eq_true rfl)) ?_
 intro out glob d0 w0 hh0 hk_0
 refine sq <| rg <| L (.ptr (.fr 0 4) 1 0) (h' := ⟨upd _ 4 ⟨1, .cells (c_api_Limit (api_Limit.mk [] 0 0 0 0))⟩, _, _⟩) rfl rfl (op_alloc (c_api_Limit (api_Limit.mk [] 0 0 0 0)) rfl rfl rfl rfl) <| nl <| sq <| rg <| L (sA key) rfl rfl rfl <| L (.ptr d0 w0 0) rfl rfl rfl ?_
 obtain ⟨⟨r8, s_1⟩, h1, hF0⟩ := bind_some hF0
 refine WO_mutP (g := 38) (args := fun p => [p, (iA 1), (iA 4)]) (d := d0) (v := w0) (r := (iA r8)) _ _ rfl rfl rfl rfl rfl rfl rfl (fun _ _ => inferInstance) hh0 hk_0 (ok_gatemake_Stream_Range _ _ _ h1) (fun out1 glob1 hk1 hs1 => ?_)
 replace hs1 := (Same.refl _ _ _).trans hs1
 refine L (.ptr d0 w0 0) rfl rfl rfl <| L (Sl.av 1 c_i64 (Sl.full [1, 2, 3, 5] : Sl Int)) rfl rfl (op_sliceN rfl rfl rfl) ?_
 obtain ⟨⟨r11, s_2⟩, h2, hF0⟩ := bind_some hF0
 refine WO_mutP (g := 27) (args := fun p => [p, (Sl.av 1 c_i64 (Sl.full [1, 2, 3, 5] : Sl Int))]) (d := d0) (v := w0) (r := (iA r11)) _ _ rfl rfl rfl rfl rfl rfl rfl (fun _ _ => inferInstance) hh0 hk1 (ok_gatemake_Stream_Pick _ _ h2) (fun out2 glob2 hk2 hs2 => ?_)
 replace hs2 := hs1.trans hs2
 refine L (.ptr d0 w0 0) rfl rfl rfl <| L (Sl.av 1 c_i64 (Sl.full [1, 7, 10, 50, 100] : Sl Int)) rfl rfl (op_sliceN rfl rfl rfl) ?_
 obtain ⟨⟨r14, s_3⟩, h3, hF0⟩ := bind_some hF0
 refine WO_mutP (g := 27) (args := fun p => [p, (Sl.av 1 c_i64 (Sl.full [1, 7, 10, 50, 100] : Sl Int))]) (d := d0) (v := w0) (r := (iA r14)) _ _ rfl rfl rfl rfl rfl rfl rfl (fun _ _ => inferInstance) hh0 hk2 (ok_gatemake_Stream_Pick _ _ h3) (fun out3 glob3 hk3 hs3 => ?_)
 replace hs3 := hs2.trans hs3
 refine L (.agg (c_api_Limit (api_Limit.mk key r8 r11 r14 0))) rfl rfl (op_build rfl (build_st (cs := (c_api_Limit (api_Limit.mk key r8 r11 r14 0))) rfl rfl rfl (fill_cons (x := (sA key)) rfl rfl (Nat.le_of_ble_eq_true rfl) (fill_cons (x := (iA r8)) rfl rfl (Nat.le_of_ble_eq_true rfl) (fill_cons (x := (iA r11)) rfl rfl (Nat.le_of_ble_eq_true rfl) (fill_cons (x := (iA r14)) rfl rfl (Nat.le_of_ble_eq_true rfl) (fill_nil))))))) <| L (.ptr (.fr 0 5) 1 0) (h' := ⟨upd _ 5 ⟨1, .cells (c_api_Limit (api_Limit.mk [] 0 0 0 0))⟩, _, _⟩) rfl rfl (op_alloc (c_api_Limit (api_Limit.mk [] 0 0 0 0)) rfl rfl rfl rfl) <| L (.tup []) (h' := ⟨upd _ 5 ⟨1, .cells (c_api_Limit (api_Limit.mk key r8 r11 r14 0))⟩, _, _⟩) rfl rfl (op_store rfl rfl (st_fr (x := (.agg (c_api_Limit (api_Limit.mk key r8 r11 r14 0)))) (cs := (c_api_Limit (api_Limit.mk [] 0 0 0 0))) (c_api_Limit (api_Limit.mk key r8 r11 r14 0)) rfl rfl (Nat.le_of_ble_eq_true rfl) rfl)) <| nl <| sq <| sq <| rg <| L (.ptr (.fr 0 5) 1 1) rfl rfl rfl <| L (iA r8) rfl rfl (op_load rfl (ld_con (iA r8) rfl rfl (cs := (c_api_Limit (api_Limit.mk key r8 r11 r14 0))) (con_fr rfl) rfl)) <| nl <| bk <| sq <| rg <| L (bA (r8 == 3)) rfl rfl rfl <| L (bA (r8 == 3)) rfl rfl rfl <| nl <| cd (r8 == 3) rfl (fun hc6 => ?_) (fun hc6 => ?_)
 · replace hF0 := ite_t hF0 (beq_t hc6)
   refine rg <| L (.ptr d0 w0 0) rfl rfl rfl <| L (Sl.av 1 c_i64 (Sl.full [1, 2, 5] : Sl Int)) rfl rfl (op_sliceN rfl rfl rfl) ?_
   obtain ⟨⟨r22, s_4⟩, h4, hF0⟩ := bind_some hF0
   refine WO_mutP (g := 27) (args := fun p => [p, (Sl.av 1 c_i64 (Sl.full [1, 2, 5] : Sl Int))]) (d := d0) (v := w0) (r := (iA r22)) _ _ rfl rfl rfl rfl rfl rfl rfl (fun _ _ => inferInstance) hh0 hk3 (ok_gatemake_Stream_Pick _ _ h4) (fun out4 glob4 hk4 hs4 => ?_)
   replace hs4 := hs3.trans hs4
   refine L (.ptr (.fr 0 5) 1 4) rfl rfl rfl <| L (.tup []) (h' := ⟨upd _ 5 ⟨1, .cells (c_api_Limit (api_Limit.mk key r8 r11 r14 r22))⟩, _, _⟩) rfl rfl (op_store rfl rfl (st_fr (x := (iA r22)) (cs := (c_api_Limit (api_Limit.mk key r8 r11 r14 0))) (c_api_Limit (api_Limit.mk key r8 r11 r14 r22)) rfl rfl (Nat.le_of_ble_eq_true rfl) rfl)) <| nl <| sq <| rg <| L (.agg (c_api_Limit (api_Limit.mk key r8 r11 r14 r22))) rfl rfl (op_load rfl (ld_con (.agg (c_api_Limit (api_Limit.mk key r8 r11 r14 r22))) rfl rfl (cs := (c_api_Limit (api_Limit.mk key r8 r11 r14 r22))) (con_fr rfl) rfl)) <| L (.tup []) (h' := ⟨upd _ 4 ⟨1, .cells (c_api_Limit (api_Limit.mk key r8 r11 r14 r22))⟩, _, _⟩) rfl rfl (op_store rfl rfl (st_fr (x := (.agg (c_api_Limit (api_Limit.mk key r8 r11 r14 r22)))) (cs := (c_api_Limit (api_Limit.mk [] 0 0 0 0))) (c_api_Limit (api_Limit.mk key r8 r11 r14 r22)) rfl rfl (Nat.le_of_ble_eq_true rfl) rfl)) <| nl <| rt ?_
   obtain rfl := Option.some.inj hF0
   exact mut_leaf (.inr rfl) (res_cell (ld_fr (y := (.agg (c_api_Limit (api_Limit.mk key r8 r11 r14 r22)))) rfl rfl (cs := (c_api_Limit (api_Limit.mk key r8 r11 r14 r22))) rfl rfl) (res_nil)) (retV_pl _ _ (.agg (c_api_Limit (api_Limit.mk key r8 r11 r14 r22)))) hk4 hs4
 · replace hF0 := ite_f hF0 (beq_f hc6)
   refine sq <| rg <| L (bA (r8 == 4)) rfl rfl rfl <| L (bA (r8 == 4)) rfl rfl rfl <| nl <| cd (r8 == 4) rfl (fun hc5 => ?_) (fun hc5 => ?_)
   · replace hF0 := ite_t hF0 (beq_t hc5)
     refine rg <| L (.ptr (.fr 0 5) 1 3) rfl rfl rfl <| L (.tup []) (h' := ⟨upd _ 5 ⟨1, .cells (c_api_Limit (api_Limit.mk key r8 r11 0 0))⟩, _, _⟩) rfl rfl (op_store rfl rfl (st_fr (x := (iA 0)) (cs := (c_api_Limit (api_Limit.mk key r8 r11 r14 0))) (c_api_Limit (api_Limit.mk key r8 r11 0 0)) rfl rfl (Nat.le_of_ble_eq_true rfl) rfl)) <| nl <| sq <| rg <| L (.agg (c_api_Limit (api_Limit.mk key r8 r11 0 0))) rfl rfl (op_load rfl (ld_con (.agg (c_api_Limit (api_Limit.mk key r8 r11 0 0))) rfl rfl (cs := (c_api_Limit (api_Limit.mk key r8 r11 0 0))) (con_fr rfl) rfl)) <| L (.tup []) (h' := ⟨upd _ 4 ⟨1, .cells (c_api_Limit (api_Limit.mk key r8 r11 0 0))⟩, _, _⟩) rfl rfl (op_store rfl rfl (st_fr (x := (.agg (c_api_Limit (api_Limit.mk key r8 r11 0 0)))) (cs := (c_api_Limit (api_Limit.mk [] 0 0 0 0))) (c_api_Limit (api_Limit.mk key r8 r11 0 0)) rfl rfl (Nat.le_of_ble_eq_true rfl) rfl)) <| nl <| rt ?_
     obtain rfl := Option.some.inj hF0
     exact mut_leaf (.inr rfl) (res_cell (ld_fr (y := (.agg (c_api_Limit (api_Limit.mk key r8 r11 0 0)))) rfl rfl (cs := (c_api_Limit (api_Limit.mk key r8 r11 0 0))) rfl rfl) (res_nil)) (retV_pl _ _ (.agg (c_api_Limit (api_Limit.mk key r8 r11 0 0)))) hk3 hs3
   · replace hF0 := ite_f hF0 (beq_f hc5)
     refine sk <| sq <| rg <| L (.agg (c_api_Limit (api_Limit.mk key r8 r11 r14 0))) rfl rfl (op_load rfl (ld_con (.agg (c_api_Limit (api_Limit.mk key r8 r11 r14 0))) rfl rfl (cs := (c_api_Limit (api_Limit.mk key r8 r11 r14 0))) (con_fr rfl) rfl)) <| L (.tup []) (h' := ⟨upd _ 4 ⟨1, .cells (c_api_Limit (api_Limit.mk key r8 r11 r14 0))⟩, _, _⟩) rfl rfl (op_store rfl rfl (st_fr (x := (.agg (c_api_Limit (api_Limit.mk key r8 r11 r14 0)))) (cs := (c_api_Limit (api_Limit.mk [] 0 0 0 0))) (c_api_Limit (api_Limit.mk key r8 r11 r14 0)) rfl rfl (Nat.le_of_ble_eq_true rfl) rfl)) <| nl <| rt ?_
     obtain rfl := Option.some.inj hF0
     exact mut_leaf (.inr rfl) (res_cell (ld_fr (y := (.agg (c_api_Limit (api_Limit.mk key r8 r11 r14 0)))) rfl rfl (cs := (c_api_Limit (api_Limit.mk key r8 r11 r14 0))) rfl rfl) (res_nil)) (retV_pl _ _ (.agg (c_api_Limit (api_Limit.mk key r8 r11 r14 0)))) hk3 hs3

theorem ok_gatemake_Stream_Some (s_ : gatemake_Stream) (l : (Sl Str)) {r : (Str × gatemake_Stream)} (hF0 : gatemake_Stream_Some s_ l = some r) : MutOk Tryz.prog pol 15 (fun p => [p, (Sl.av 1 c_str l)]) (c_gatemake_Stream s_) (sA r.1) (c_gatemake_Stream r.2) := by
 unfold gatemake_Stream_Some at hF0
 refine mut_walk Tryz.func15 rfl (fun _ => Nat.not_lt.2 (Nat.le_of_ble_eq_true rfl)) ?_
 intro out glob d0 w0 hh0 hk_0
 refine sq <| rg <| L (sA []) rfl rfl rfl <| nl <| sq <| rg <| L (Sl.av 1 c_str l) rfl rfl rfl <| L (.ptr d0 w0 0) rfl rfl rfl <| L (Sl.av 1 c_str l) rfl rfl rfl <| L (iA (l.list.length : Int)) rfl rfl (op_len rfl rfl rfl rfl rfl (len_sl _)) ?_
 obtain ⟨⟨r9, s_1⟩, h1, hF0⟩ := bind_some hF0
 refine WO_mutP (g := 16) (args := fun p => [p, (iA (l.list.length : Int))]) (d := d0) (v := w0) (r := (iA r9)) _ _ rfl rfl rfl rfl rfl rfl rfl (fun _ _ => inferInstance) hh0 hk_0 (ok_gatemake_Stream_Next _ _ h1) (fun out1 glob1 hk1 hs1 => ?_)
 replace hs1 := (Same.refl _ _ _).trans hs1
 obtain ⟨x, h_x, hF0⟩ := bind_some hF0
 refine L (.cptr [(sA x)]) rfl rfl (op_ix rfl (ix_sl (c := c_str) rfl rfl h_x)) <| L (sA x) rfl rfl rfl <| L (sA x) rfl rfl rfl <| nl <| rt ?_
 obtain rfl := Option.some.inj hF0
 exact mut_leaf (.inr rfl) rfl (retV_pl _ _ (sA x)) hk1 hs1

theorem ok_gatemake_Stream_Odd (s_ : gatemake_Stream) (low : Int) (high : Int) {r : (Int × gatemake_Stream)} (hF0 : gatemake_Stream_Odd s_ low high = some r) : MutOk Tryz.prog pol 17 (fun p => [p, (iA low), (iA high)]) (c_gatemake_Stream s_) (iA r.1) (c_gatemake_Stream r.2) := by
 unfold gatemake_Stream_Odd at hF0
 refine mut_walk Tryz.func17 rfl (fun _ => Nat.not_lt.2 (Nat.le_of_ble_eq_true rfl)) ?_
 intro out glob d0 w0 hh0 hk_0
 refine sq <| rg <| L (iA 0) rfl rfl rfl <| nl <| sq <| sq <| rg <| L (.ptr d0 w0 0) rfl rfl rfl ?_
 obtain ⟨⟨r8, s_1⟩, h1, hF0⟩ := bind_some hF0
 refine WO_mutP (g := 13) (args := fun p => [p, (iA 12)]) (d := d0) (v := w0) (r := (bA r8)) _ _ rfl rfl rfl rfl rfl rfl rfl (fun _ _ => inferInstance) hh0 hk_0 (ok_gatemake_Stream_Flip _ _ h1) (fun out1 glob1 hk1 hs1 => ?_)
 replace hs1 := (Same.refl _ _ _).trans hs1
 refine nl <| cd r8 rfl (fun hc4 => ?_) (fun hc4 => ?_)
 · replace hF0 := ite_t hF0 (hc4)
   refine sq <| rg <| L (.ptr d0 w0 0) rfl rfl rfl <| L (iA low) rfl rfl rfl <| L (iA (w64 (low - 1))) rfl rfl rfl <| L (iA high) rfl rfl rfl <| L (iA (w64 (high + 1))) rfl rfl rfl <| L (iA low) rfl rfl rfl <| L (iA high) rfl rfl rfl <| L (Sl.av 1 c_i64 (Sl.full [w64 (low - 1), w64 (high + 1), low, high, (-1099511627776), 1099511627776] : Sl Int)) rfl rfl (op_sliceN rfl rfl rfl) ?_
   obtain ⟨⟨r6, s_2⟩, h2, hF0⟩ := bind_some hF0
   refine WO_mutP (g := 27) (args := fun p => [p, (Sl.av 1 c_i64 (Sl.full [w64 (low - 1), w64 (high + 1), low, high, (-1099511627776), 1099511627776] : Sl Int))]) (d := d0) (v := w0) (r := (iA r6)) _ _ rfl rfl rfl rfl rfl rfl rfl (fun _ _ => inferInstance) hh0 hk1 (ok_gatemake_Stream_Pick _ _ h2) (fun out2 glob2 hk2 hs2 => ?_)
   replace hs2 := hs1.trans hs2
   refine L (iA r6) rfl rfl rfl <| nl <| rt ?_
   obtain rfl := Option.some.inj hF0
   exact mut_leaf (.inr rfl) rfl (retV_pl _ _ (iA r6)) hk2 hs2
 · replace hF0 := ite_f hF0 (not_t hc4)
   refine sk <| sq <| rg <| L (.ptr d0 w0 0) rfl rfl rfl <| L (iA low) rfl rfl rfl <| L (iA high) rfl rfl rfl ?_
   obtain ⟨⟨r61, s_3⟩, h3, hF0⟩ := bind_some hF0
   refine WO_mutP (g := 38) (args := fun p => [p, (iA low), (iA high)]) (d := d0) (v := w0) (r := (iA r61)) _ _ rfl rfl rfl rfl rfl rfl rfl (fun _ _ => inferInstance) hh0 hk1 (ok_gatemake_Stream_Range _ _ _ h3) (fun out3 glob3 hk3 hs3 => ?_)
   replace hs3 := hs1.trans hs3
   refine L (iA r61) rfl rfl rfl <| nl <| rt ?_
   obtain rfl := Option.some.inj hF0
   exact mut_leaf (.inr rfl) rfl (retV_pl _ _ (iA r61)) hk3 hs3

theorem ok_gatemake_Stream_Limits (s_ : gatemake_Stream) {r : ((Sl api_Limit) × gatemake_Stream)} (hF0 : gatemake_Stream_Limits s_ = some r) : MutOk Tryz.prog pol 4 (fun p => [p]) (c_gatemake_Stream s_) (Sl.av 5 c_api_Limit r.1) (c_gatemake_Stream r.2) := by
 unfold gatemake_Stream_Limits at hF0
 refine mut_walk Tryz.func4 rfl (fun _ => Nat.not_lt.2 (Nat.le_of_ble_eq_true rfl)) ?_
 intro out glob d0 w0 hh0 hk_0
 refine sq <| rg <| L (Sl.av 5 c_api_Limit Sl.nil) rfl rfl rfl <| nl <| sq <| rg <| L (Sl.av 5 c_api_Limit Sl.nil) rfl rfl rfl <| nl <| sq <| sq <| rg <| L (Sl.av 1 c_str (Sl.full [[108, 97], [108, 98], [108, 99]] : Sl Str)) rfl rfl (op_sliceN rfl rfl rfl) <| L (iA ((Sl.full [[108, 97], [108, 98], [108, 99]] : Sl Str).list.length : Int)) rfl rfl (op_len rfl rfl rfl rfl rfl rfl) <| L (iA 0) rfl rfl rfl <| nl <| bk ?_
 obtain ⟨b1, hb19, hF0⟩ := bind_some hF0
 obtain ⟨hn19, hb19⟩ := ite_none hb19
 obtain ⟨J19, hJ19⟩ : ∃ J : St → Prop, ∀ st, J st ↔ (∃ (s_10 : gatemake_Stream) (out_6 : (Sl api_Limit)) (o50036 : AObj) (tm21 : Nat → AV) (cb21 : AE.Frame) (out21 : List AE.Frame) (glob21 : List AObj), st = ⟨tm21, ⟨cb21, out21, glob21⟩⟩ ∧ AllEq tm21 [(0, (.ptr d0 w0 0)), (3, (Sl.lav (.fr 0 5003) o50036.ver out_6))] ∧ AllEq cb21 [(5003, o50036)] ∧ LzF 5 c_api_Limit o50036 out_6 ∧ con2 out21 glob21 d0 w0 = .cells (c_gatemake_Stream s_10) ∧ Same d0 out glob out21 glob21 ∧ (s_10, out_6) = b1) := ⟨_, fun _ => Iff.rfl⟩
 obtain ⟨R19, hR19⟩ : ∃ R : Nat → (gatemake_Stream × (Sl api_Limit)) → St → Prop, ∀ i v st, R i v st ↔ (match v with | (s_9, out_5) => ∃ (o50035 : AObj) (tm20 : Nat → AV) (cb20 : AE.Frame) (out20 : List AE.Frame) (glob20 : List AObj), st = ⟨tm20, ⟨cb20, out20, glob20⟩⟩ ∧ AllEq tm20 [(0, (.ptr d0 w0 0)), (3, (Sl.lav (.fr 0 5003) o50035.ver out_5)), (7, (Sl.av 1 c_str (Sl.full [[108, 97], [108, 98], [108, 99]] : Sl Str))), (8, (iA ((Sl.full [[108, 97], [108, 98], [108, 99]] : Sl Str).list.length : Int))), (9, (iA ((i : Nat) : Int)))] ∧ AllEq cb20 [(5003, o50035)] ∧ LzF 5 c_api_Limit o50035 out_5 ∧ con2 out20 glob20 d0 w0 = .cells (c_gatemake_Stream s_9) ∧ Same d0 out glob out20 glob20) := ⟨_, fun _ _ _ => Iff.rfl⟩
 refine W_loopcut J19 (fun st hst => ?_) ?_
 · obtain ⟨s_10, out_6, o50036, tm21, cb21, out21, glob21, rfl, hT21, hC21, hz21_0, hk21, hs21, rfl⟩ := (hJ19 st).1 hst
   obtain ⟨tm21, rfl⟩ := allEq hT21
   obtain ⟨cb21, rfl⟩ := allEq hC21
   refine sq <| sq <| rg <| L (.ptr d0 w0 0) rfl rfl rfl ?_
   obtain ⟨⟨r23, s_13⟩, h27, hF0⟩ := bind_some hF0
   refine WO_mutP (g := 13) (args := fun p => [p, (iA 15)]) (d := d0) (v := w0) (r := (bA r23)) _ _ rfl rfl rfl rfl rfl rfl rfl (fun _ _ => inferInstance) hh0 hk21 (ok_gatemake_Stream_Flip _ _ h27) (fun out27 glob27 hk27 hs27 => ?_)
   replace hs27 := hs21.trans hs27
   refine nl <| cd r23 rfl (fun hc42 => ?_) (fun hc42 => ?_)
   · replace hF0 := ite_t hF0 (hc42)
     refine sq <| rg <| L (.ptr d0 w0 0) rfl rfl rfl <| L (.ptr d0 w0 0) rfl rfl rfl <| L (Sl.av 1 c_str (Sl.full [[], [108, 97], [122, 122]] : Sl Str)) rfl rfl (op_sliceN rfl rfl rfl) ?_
     obtain ⟨⟨r27, s_14⟩, h28, hF0⟩ := bind_some hF0
     refine WO_mutP (g := 15) (args := fun p => [p, (Sl.av 1 c_str (Sl.full [[], [108, 97], [122, 122]] : Sl Str))]) (d := d0) (v := w0) (r := (sA r27)) _ _ rfl rfl rfl rfl rfl rfl rfl (fun _ _ => inferInstance) hh0 hk27 (ok_gatemake_Stream_Some _ _ h28) (fun out28 glob28 hk28 hs28 => ?_)
     replace hs28 := hs27.trans hs28
     obtain ⟨⟨r28, s_15⟩, h29, hF0⟩ := bind_some hF0
     refine WO_mutP (g := 14) (args := fun p => [p, (sA r27)]) (d := d0) (v := w0) (r := (.agg (c_api_Limit r28))) _ _ rfl rfl rfl rfl rfl rfl rfl (fun _ _ => inferInstance) hh0 hk28 (ok_gatemake_Stream_RightLimit _ _ h29) (fun out29 glob29 hk29 hs29 => ?_)
     replace hs29 := hs28.trans hs29
     refine L (.ptr (.fr 0 6) ((cb21 6).ver + 1) 0) (h' := ⟨upd _ 6 ⟨(cb21 6).ver + 1, .cells (c_api_Limit (api_Limit.mk [] 0 0 0 0))⟩, _, _⟩) rfl rfl (op_alloc (c_api_Limit (api_Limit.mk [] 0 0 0 0)) rfl rfl rfl rfl) <| L (.tup []) (h' := ⟨upd _ 6 ⟨(cb21 6).ver + 1, .cells (c_api_Limit r28)⟩, _, _⟩) rfl rfl (op_store rfl rfl (st_fr (x := (.agg (c_api_Limit r28))) (cs := (c_api_Limit (api_Limit.mk [] 0 0 0 0))) (c_api_Limit r28) rfl rfl (Nat.le_of_ble_eq_true rfl) rfl)) <| nl <| sq <| sq <| rg <| L (.ptr d0 w0 0) rfl rfl rfl ?_
     obtain ⟨⟨r30, s_16⟩, h30, hF0⟩ := bind_some hF0
     refine WO_mutP (g := 16) (args := fun p => [p, (iA 4)]) (d := d0) (v := w0) (r := (iA r30)) _ _ rfl rfl rfl rfl rfl rfl rfl (fun _ _ => inferInstance) hh0 hk29 (ok_gatemake_Stream_Next _ _ h30) (fun out30 glob30 hk30 hs30 => ?_)
     replace hs30 := hs29.trans hs30
     refine nl <| bk <| sq <| rg <| L (bA (r30 == 0)) rfl rfl rfl <| L (bA (r30 == 0)) rfl rfl rfl <| nl <| cd (r30 == 0) rfl (fun hc41 => ?_) (fun hc41 => ?_)
     · replace hF0 := ite_t hF0 (beq_t hc41)
       refine rg <| L (.ptr d0 w0 0) rfl rfl rfl ?_
       obtain ⟨⟨r37, s_17⟩, h31, hF0⟩ := bind_some hF0
       refine WO_mutP (g := 17) (args := fun p => [p, (iA 1), (iA 4)]) (d := d0) (v := w0) (r := (iA r37)) _ _ rfl rfl rfl rfl rfl rfl rfl (fun _ _ => inferInstance) hh0 hk30 (ok_gatemake_Stream_Odd _ _ _ h31) (fun out31 glob31 hk31 hs31 => ?_)
       replace hs31 := hs30.trans hs31
       refine L (.ptr (.fr 0 6) ((cb21 6).ver + 1) 1) rfl rfl rfl <| L (.tup []) (h' := ⟨upd _ 6 ⟨(cb21 6).ver + 1, .cells (c_api_Limit ({ r28 with Kind := r37 }))⟩, _, _⟩) rfl rfl (op_store rfl rfl (st_fr (x := (iA r37)) (cs := (c_api_Limit r28)) (c_api_Limit ({ r28 with Kind := r37 })) rfl rfl (Nat.le_of_ble_eq_true rfl) rfl)) <| nl <| rg <| L (Sl.lav (.fr 0 5003) o50036.ver out_6) rfl rfl rfl <| L (.agg (c_api_Limit ({ r28 with Kind := r37 }))) rfl rfl (op_load rfl (ld_con (.agg (c_api_Limit ({ r28 with Kind := r37 }))) rfl rfl (cs := (c_api_Limit ({ r28 with Kind := r37 }))) (con_fr rfl) rfl)) <| L (Sl.av 5 c_api_Limit (Sl.full [{ r28 with Kind := r37 }] : Sl api_Limit)) rfl rfl (op_sliceN rfl rfl rfl) ?_
       obtain ⟨out_8, h_out_8, hF0⟩ := bind_some hF0
       refine WO_lzapp (s := 5003) (x := out_6) (x' := out_8) (o := o50036) (n := 5) (c := c_api_Limit) (xs := [{ r28 with Kind := r37 }]) (y := (Sl.av 5 c_api_Limit (Sl.full [{ r28 with Kind := r37 }] : Sl api_Limit))) _ rfl rfl rfl rfl rfl rfl rfl rfl rfl rfl rfl rfl (z := (c_api_Limit (api_Limit.mk [] 0 0 0 0))) rfl rfl rfl rfl rfl (by decide) (fun _ => rfl) rfl rfl rfl hz21_0 h_out_8 (fun o50038 hz_32 => ?_)
       refine L (Sl.lav (.fr 0 5003) o50038.ver out_8) rfl rfl rfl <| nl <| sq <| rg <| L (Sl.lav (.fr 0 5003) o50038.ver out_8) rfl rfl rfl <| L (Sl.lav (.fr 0 5003) o50038.ver out_8) rfl rfl rfl <| nl <| rt ?_
       obtain rfl := Option.some.inj hF0
       exact mut_leaf (.inr rfl) rfl (ret_lz rfl hz_32) hk31 hs31
     · replace hF0 := ite_f hF0 (beq_f hc41)
       refine sq <| rg <| L (bA (r30 == 1)) rfl rfl rfl <| L (bA (r30 == 1)) rfl rfl rfl <| nl <| cd (r30 == 1) rfl (fun hc40 => ?_) (fun hc40 => ?_)
       · replace hF0 := ite_t hF0 (beq_t hc40)
         refine rg <| L (.ptr d0 w0 0) rfl rfl rfl ?_
         obtain ⟨⟨r42, s_18⟩, h33, hF0⟩ := bind_some hF0
         refine WO_mutP (g := 17) (args := fun p => [p, (iA 1), (iA 1000000000)]) (d := d0) (v := w0) (r := (iA r42)) _ _ rfl rfl rfl rfl rfl rfl rfl (fun _ _ => inferInstance) hh0 hk30 (ok_gatemake_Stream_Odd _ _ _ h33) (fun out33 glob33 hk33 hs33 => ?_)
         replace hs33 := hs30.trans hs33
         refine L (.ptr (.fr 0 6) ((cb21 6).ver + 1) 2) rfl rfl rfl <| L (.tup []) (h' := ⟨upd _ 6 ⟨(cb21 6).ver + 1, .cells (c_api_Limit ({ r28 with Most := r42 }))⟩, _, _⟩) rfl rfl (op_store rfl rfl (st_fr (x := (iA r42)) (cs := (c_api_Limit r28)) (c_api_Limit ({ r28 with Most := r42 })) rfl rfl (Nat.le_of_ble_eq_true rfl) rfl)) <| nl <| rg <| L (Sl.lav (.fr 0 5003) o50036.ver out_6) rfl rfl rfl <| L (.agg (c_api_Limit ({ r28 with Most := r42 }))) rfl rfl (op_load rfl (ld_con (.agg (c_api_Limit ({ r28 with Most := r42 }))) rfl rfl (cs := (c_api_Limit ({ r28 with Most := r42 }))) (con_fr rfl) rfl)) <| L (Sl.av 5 c_api_Limit (Sl.full [{ r28 with Most := r42 }] : Sl api_Limit)) rfl rfl (op_sliceN rfl rfl rfl) ?_
         obtain ⟨out_9, h_out_9, hF0⟩ := bind_some hF0
         refine WO_lzapp (s := 5003) (x := out_6) (x' := out_9) (o := o50036) (n := 5) (c := c_api_Limit) (xs := [{ r28 with Most := r42 }]) (y := (Sl.av 5 c_api_Limit (Sl.full [{ r28 with Most := r42 }] : Sl api_Limit))) _ rfl rfl rfl rfl rfl rfl rfl rfl rfl rfl rfl rfl (z := (c_api_Limit (api_Limit.mk [] 0 0 0 0))) rfl rfl rfl rfl rfl (by decide) (fun _ => rfl) rfl rfl rfl hz21_0 h_out_9 (fun o50039 hz_34 => ?_)
         refine L (Sl.lav (.fr 0 5003) o50039.ver out_9) rfl rfl rfl <| nl <| sq <| rg <| L (Sl.lav (.fr 0 5003) o50039.ver out_9) rfl rfl rfl <| L (Sl.lav (.fr 0 5003) o50039.ver out_9) rfl rfl rfl <| nl <| rt ?_
         obtain rfl := Option.some.inj hF0
         exact mut_leaf (.inr rfl) rfl (ret_lz rfl hz_34) hk33 hs33
       · replace hF0 := ite_f hF0 (beq_f hc40)
         refine sq <| rg <| L (bA (r30 == 2)) rfl rfl rfl <| L (bA (r30 == 2)) rfl rfl rfl <| nl <| cd (r30 == 2) rfl (fun hc39 => ?_) (fun hc39 => ?_)
         · replace hF0 := ite_t hF0 (beq_t hc39)
           refine rg <| L (.ptr d0 w0 0) rfl rfl rfl ?_
           obtain ⟨⟨r47, s_19⟩, h35, hF0⟩ := bind_some hF0
           refine WO_mutP (g := 17) (args := fun p => [p, (iA 0), (iA 8640000000)]) (d := d0) (v := w0) (r := (iA r47)) _ _ rfl rfl rfl rfl rfl rfl rfl (fun _ _ => inferInstance) hh0 hk30 (ok_gatemake_Stream_Odd _ _ _ h35) (fun out35 glob35 hk35 hs35 => ?_)
           replace hs35 := hs30.trans hs35
           refine L (.ptr (.fr 0 6) ((cb21 6).ver + 1) 3) rfl rfl rfl <| L (.tup []) (h' := ⟨upd _ 6 ⟨(cb21 6).ver + 1, .cells (c_api_Limit ({ r28 with Per := r47 }))⟩, _, _⟩) rfl rfl (op_store rfl rfl (st_fr (x := (iA r47)) (cs := (c_api_Limit r28)) (c_api_Limit ({ r28 with Per := r47 })) rfl rfl (Nat.le_of_ble_eq_true rfl) rfl)) <| nl <| rg <| L (Sl.lav (.fr 0 5003) o50036.ver out_6) rfl rfl rfl <| L (.agg (c_api_Limit ({ r28 with Per := r47 }))) rfl rfl (op_load rfl (ld_con (.agg (c_api_Limit ({ r28 with Per := r47 }))) rfl rfl (cs := (c_api_Limit ({ r28 with Per := r47 }))) (con_fr rfl) rfl)) <| L (Sl.av 5 c_api_Limit (Sl.full [{ r28 with Per := r47 }] : Sl api_Limit)) rfl rfl (op_sliceN rfl rfl rfl) ?_
           obtain ⟨out_10, h_out_10, hF0⟩ := bind_some hF0
           refine WO_lzapp (s := 5003) (x := out_6) (x' := out_10) (o := o50036) (n := 5) (c := c_api_Limit) (xs := [{ r28 with Per := r47 }]) (y := (Sl.av 5 c_api_Limit (Sl.full [{ r28 with Per := r47 }] : Sl api_Limit))) _ rfl rfl rfl rfl rfl rfl rfl rfl rfl rfl rfl rfl (z := (c_api_Limit (api_Limit.mk [] 0 0 0 0))) rfl rfl rfl rfl rfl (by decide) (fun _ => rfl) rfl rfl rfl hz21_0 h_out_10 (fun o500310 hz_36 => ?_)
           refine L (Sl.lav (.fr 0 5003) o500310.ver out_10) rfl rfl rfl <| nl <| sq <| rg <| L (Sl.lav (.fr 0 5003) o500310.ver out_10) rfl rfl rfl <| L (Sl.lav (.fr 0 5003) o500310.ver out_10) rfl rfl rfl <| nl <| rt ?_
           obtain rfl := Option.some.inj hF0
           exact mut_leaf (.inr rfl) rfl (ret_lz rfl hz_36) hk35 hs35
         · replace hF0 := ite_f hF0 (beq_f hc39)
           refine rg <| L (.ptr d0 w0 0) rfl rfl rfl ?_
           obtain ⟨⟨r32, s_20⟩, h37, hF0⟩ := bind_some hF0
           refine WO_mutP (g := 17) (args := fun p => [p, (iA 0), (iA 1000000000)]) (d := d0) (v := w0) (r := (iA r32)) _ _ rfl rfl rfl rfl rfl rfl rfl (fun _ _ => inferInstance) hh0 hk30 (ok_gatemake_Stream_Odd _ _ _ h37) (fun out37 glob37 hk37 hs37 => ?_)
           replace hs37 := hs30.trans hs37
           refine L (.ptr (.fr 0 6) ((cb21 6).ver + 1) 4) rfl rfl rfl <| L (.tup []) (h' := ⟨upd _ 6 ⟨(cb21 6).ver + 1, .cells (c_api_Limit ({ r28 with Burst := r32 }))⟩, _, _⟩) rfl rfl (op_store rfl rfl (st_fr (x := (iA r32)) (cs := (c_api_Limit r28)) (c_api_Limit ({ r28 with Burst := r32 })) rfl rfl (Nat.le_of_ble_eq_true rfl) rfl)) <| nl <| rg <| L (Sl.lav (.fr 0 5003) o50036.ver out_6) rfl rfl rfl <| L (.agg (c_api_Limit ({ r28 with Burst := r32 }))) rfl rfl (op_load rfl (ld_con (.agg (c_api_Limit ({ r28 with Burst := r32 }))) rfl rfl (cs := (c_api_Limit ({ r28 with Burst := r32 }))) (con_fr rfl) rfl)) <| L (Sl.av 5 c_api_Limit (Sl.full [{ r28 with Burst := r32 }] : Sl api_Limit)) rfl rfl (op_sliceN rfl rfl rfl) ?_
           obtain ⟨out_11, h_out_11, hF0⟩ := bind_some hF0
           refine WO_lzapp (s := 5003) (x := out_6) (x' := out_11) (o := o50036) (n := 5) (c := c_api_Limit) (xs := [{ r28 with Burst := r32 }]) (y := (Sl.av 5 c_api_Limit (Sl.full [{ r28 with Burst := r32 }] : Sl api_Limit))) _ rfl rfl rfl rfl rfl rfl rfl rfl rfl rfl rfl rfl (z := (c_api_Limit (api_Limit.mk [] 0 0 0 0))) rfl rfl rfl rfl rfl (by decide) (fun _ => rfl) rfl rfl rfl hz21_0 h_out_11 (fun o500311 hz_38 => ?_)
           refine L (Sl.lav (.fr 0 5003) o500311.ver out_11) rfl rfl rfl <| nl <| sq <| rg <| L (Sl.lav (.fr 0 5003) o500311.ver out_11) rfl rfl rfl <| L (Sl.lav (.fr 0 5003) o500311.ver out_11) rfl rfl rfl <| nl <| rt ?_
           obtain rfl := Option.some.inj hF0
           exact mut_leaf (.inr rfl) rfl (ret_lz rfl hz_38) hk37 hs37
   · replace hF0 := ite_f hF0 (not_t hc42)
     refine sk <| sq <| rg <| L (Sl.lav (.fr 0 5003) o50036.ver out_6) rfl rfl rfl <| L (Sl.lav (.fr 0 5003) o50036.ver out_6) rfl rfl rfl <| nl <| rt ?_
     obtain rfl := Option.some.inj hF0
     exact mut_leaf (.inr rfl) rfl (ret_lz rfl hz21_0) hk27 hs27
 · refine W_rangeL hb19 R19 ((hR19 _ _ _).2 ⟨(⟨0, .gone⟩ : AObj), _, _, _, _, rfl, (And.intro rfl (And.intro rfl (And.intro rfl (And.intro rfl (And.intro rfl True.intro))))), (And.intro rfl True.intro), True.intro, hk_0, (Same.refl _ _ _)⟩) ?_ ?_
   · intro i hi19 v st s hr hF1 hD1
     obtain ⟨s_9, out_5⟩ := v
     obtain ⟨o50035, tm20, cb20, out20, glob20, rfl, hT20, hC20, hz20_0, hk20, hs20⟩ := (hR19 _ _ _).1 hr
     obtain ⟨tm20, rfl⟩ := allEq hT20
     obtain ⟨cb20, rfl⟩ := allEq hC20
     obtain ⟨key, hx19⟩ : ∃ x, x = (Sl.full [[108, 97], [108, 98], [108, 99]] : Sl Str).list[i] := ⟨_, rfl⟩
     rw [← hx19] at hF1
     dsimp only [gatemake_Stream_Limits_l0] at hF1
     refine sq (rg ?_)
     refine WO_do (y := (bA (decide (((i : Nat) : Int) < ((Sl.full [[108, 97], [108, 98], [108, 99]] : Sl Str).list.length : Int))))) _ rfl rfl rfl (nl ?_)
     refine sq <| cd true (congrArg some (range_lt hi19)) (fun _ => ?_) (fun h => absurd h (by decide))
     refine sk <| sq <| bk <| sq <| rg <| L (.cptr [(sA key)]) rfl rfl (op_ix rfl ((ix_at (c := c_str) rfl rfl hi19).trans (congrArg (fun x => some (AV.cptr (c_str x))) hx19.symm))) <| L (sA key) rfl rfl rfl <| L (sA key) rfl rfl rfl <| nl <| sq <| rg <| L (.ptr d0 w0 0) rfl rfl rfl ?_
     obtain ⟨⟨r143, s_11⟩, h23, hF1⟩ := bind_some hF1
     refine WO_mutP (g := 13) (args := fun p => [p, (iA 2)]) (d := d0) (v := w0) (r := (bA r143)) _ _ rfl rfl rfl rfl rfl rfl rfl (fun _ _ => inferInstance) hh0 hk20 (ok_gatemake_Stream_Flip _ _ h23) (fun out23 glob23 hk23 hs23 => ?_)
     replace hs23 := hs20.trans hs23
     refine nl <| cd r143 rfl (fun hc26 => ?_) (fun hc26 => ?_)
     · replace hF1 := ite_t hF1 (hc26)
       refine rg <| L (Sl.lav (.fr 0 5003) o50035.ver out_5) rfl rfl rfl <| L (.ptr d0 w0 0) rfl rfl rfl <| L (sA key) rfl rfl rfl ?_
       obtain ⟨⟨r183, s_12⟩, h24, hF1⟩ := bind_some hF1
       refine WO_mutP (g := 14) (args := fun p => [p, (sA key)]) (d := d0) (v := w0) (r := (.agg (c_api_Limit r183))) _ _ rfl rfl rfl rfl rfl rfl rfl (fun _ _ => inferInstance) hh0 hk23 (ok_gatemake_Stream_RightLimit _ _ h24) (fun out24 glob24 hk24 hs24 => ?_)
       replace hs24 := hs23.trans hs24
       refine L (Sl.av 5 c_api_Limit (Sl.full [r183] : Sl api_Limit)) rfl rfl (op_sliceN rfl rfl rfl) ?_
       obtain ⟨out_7, h_out_7, hF1⟩ := bind_some hF1
       refine WO_lzapp (s := 5003) (x := out_5) (x' := out_7) (o := o50035) (n := 5) (c := c_api_Limit) (xs := [r183]) (y := (Sl.av 5 c_api_Limit (Sl.full [r183] : Sl api_Limit))) _ rfl rfl rfl rfl rfl rfl rfl rfl rfl rfl rfl rfl (z := (c_api_Limit (api_Limit.mk [] 0 0 0 0))) rfl rfl rfl rfl rfl (by decide) (fun _ => rfl) rfl rfl rfl hz20_0 h_out_7 (fun o50037 hz_25 => ?_)
       exact L (Sl.lav (.fr 0 5003) o50037.ver out_7) rfl rfl rfl <| nl <| rg <| WO_do (y := (iA ((i + 1 : Nat) : Int))) _ rfl rfl (congrArg (fun n => some (AV.int .i64 n, _)) (range_len hi19 hn19)) <| WO_do (y := (iA ((i + 1 : Nat) : Int))) _ rfl rfl rfl <| nl <| Exists.intro _ (And.intro (Option.some.inj hF1).symm ((hR19 _ _ _).2 ⟨o50037, _, _, _, _, rfl, (And.intro rfl (And.intro rfl (And.intro rfl (And.intro rfl (And.intro rfl True.intro))))), (And.intro rfl True.intro), hz_25, hk24, hs24⟩))
     · replace hF1 := ite_f hF1 (not_t hc26)
       exact sk <| rg <| WO_do (y := (iA ((i + 1 : Nat) : Int))) _ rfl rfl (congrArg (fun n => some (AV.int .i64 n, _)) (range_len hi19 hn19)) <| WO_do (y := (iA ((i + 1 : Nat) : Int))) _ rfl rfl rfl <| nl <| Exists.intro _ (And.intro (Option.some.inj hF1).symm ((hR19 _ _ _).2 ⟨o50035, _, _, _, _, rfl, (And.intro rfl (And.intro rfl (And.intro rfl (And.intro rfl (And.intro rfl True.intro))))), (And.intro rfl True.intro), hz20_0, hk23, hs23⟩))
   · intro v st hr hD1
     obtain ⟨s_9, out_5⟩ := v
     obtain ⟨o50035, tm20, cb20, out20, glob20, rfl, hT20, hC20, hz20_0, hk20, hs20⟩ := (hR19 _ _ _).1 hr
     obtain ⟨tm20, rfl⟩ := allEq hT20
     obtain ⟨cb20, rfl⟩ := allEq hC20
     refine sq (rg ?_)
     refine WO_do (y := .bool false) _ rfl rfl (congrArg (fun b => some (AV.bool b, _)) (range_ge _)) (nl ?_)
     refine sq <| cd false rfl (fun h => absurd h (by decide)) (fun _ => ?_)
     exact xt <| (hJ19 _).2 ⟨s_9, out_5, o50035, _, _, _, _, rfl, (And.intro rfl (And.intro rfl True.intro)), (And.intro rfl True.intro), hz20_0, hk20, hs20, hD1⟩

theorem ok_kit_IsKey (s_ : Str) {r : (Bool)} (hF0 : kit_IsKey s_ = some r) (out : List AE.Frame) (glob : List AObj) : RdOk Tryz.prog pol true 56 [(sA s_)] out glob (bA r) := by
 unfold kit_IsKey at hF0
 refine rd_walk Tryz.func56 rfl (Nat.not_lt.2 (Nat.le_of_ble_eq_true rfl)) ?_
 intro ro
 refine sq <| rg <| L (bA false) rfl rfl rfl <| nl <| sq <| sq <| rg <| L (iA 0) rfl rfl rfl <| nl <| bk ?_
 obtain ⟨b1, hb36, hF0⟩ := bind_some hF0
 obtain ⟨J36, hJ36⟩ : ∃ J : St → Prop, ∀ st, J st ↔ (∃ (tm38 : Nat → AV) (cb38 : AE.Frame), st = ⟨tm38, ⟨cb38, out, glob⟩⟩ ∧ AllEq tm38 [(0, (sA s_))] ∧ AllEq cb38 [] ∧ Res.out () = b1) := ⟨_, fun _ => Iff.rfl⟩
 obtain ⟨R36, hR36⟩ : ∃ R : (Int) → St → Prop, ∀ v st, R v st ↔ (match v with | i1 => ∃ (tm37 : Nat → AV) (cb37 : AE.Frame), st = ⟨tm37, ⟨cb37, out, glob⟩⟩ ∧ AllEq tm37 [(0, (sA s_)), (3, (iA i1))] ∧ AllEq cb37 []) := ⟨_, fun _ _ => Iff.rfl⟩
 refine W_loopcut J36 (fun st hst => ?_) ?_
 · obtain ⟨tm38, cb38, rfl, hT38, hC38, rfl⟩ := (hJ36 st).1 hst
   obtain ⟨tm38, rfl⟩ := allEq hT38
   obtain ⟨cb38, rfl⟩ := allEq hC38
   replace hF0 := res_out hF0
   refine sq <| rg <| L (sA s_) rfl rfl rfl <| L (bA (s_ != [])) rfl rfl (op_bin rfl bin_sne) ?_
   obtain ⟨J73, hJ73⟩ : ∃ J : St → Prop, ∀ st, J st ↔ (∃ (tm74 : Nat → AV) (cb74 : AE.Frame), st = ⟨tm74, ⟨cb74, out, glob⟩⟩ ∧ AllEq tm74 [(47, (bA ((s_ != []) && (decide ((s_.length : Int) ≤ 40)))))] ∧ AllEq cb74 []) := ⟨_, fun _ => Iff.rfl⟩
   refine WO_cut 5 J73 (fun st hst => ?_) ?_
   · obtain ⟨tm74, cb74, rfl, hT74, hC74⟩ := (hJ73 st).1 hst
     obtain ⟨tm74, rfl⟩ := allEq hT74
     obtain ⟨cb74, rfl⟩ := allEq hC74
     refine L (bA ((s_ != []) && (decide ((s_.length : Int) ≤ 40)))) rfl rfl rfl <| nl <| rt ?_
     obtain rfl := Option.some.inj hF0
     exact rd_leaf (.inr rfl) rfl (retV_pl _ _ (bA ((s_ != []) && (decide ((s_.length : Int) ≤ 40))))) rfl rfl
   · rcases bool_cases (s_ != []) with hc73 | hc73
     · exact L (.bool true) rfl rfl (congrArg (fun b => some (AV.bool b, _)) hc73) <| L (sA s_) rfl rfl rfl <| L (iA (s_.length : Int)) rfl rfl rfl <| L (bA (decide ((s_.length : Int) ≤ 40))) rfl rfl rfl <| L (bA ((s_ != []) && (decide ((s_.length : Int) ≤ 40)))) rfl rfl (congrArg (fun b => some (AV.bool b, _)) (by rw [hc73]; rfl)) <| nl ((hJ73 _).2 ⟨_, _, rfl, (And.intro rfl True.intro), True.intro⟩)
     · exact L (.bool false) rfl rfl (congrArg (fun b => some (AV.bool b, _)) hc73) <| WO_no _ rfl rfl <| WO_no _ rfl rfl <| WO_no _ rfl rfl <| L (bA ((s_ != []) && (decide ((s_.length : Int) ≤ 40)))) rfl rfl (congrArg (fun b => some (AV.bool b, _)) (by rw [hc73]; rfl)) <| nl ((hJ73 _).2 ⟨_, _, rfl, (And.intro rfl True.intro), True.intro⟩)
 · refine W_loopV hb36 R36 ((hR36 _ _).2 ⟨_, _, rfl, (And.intro rfl (And.intro rfl True.intro)), True.intro⟩) ?_
   intro v st s hr hF1 hD1
   obtain ⟨i1, hv_⟩ : ∃ z, z = v := ⟨_, rfl⟩; subst hv_
   obtain ⟨tm37, cb37, rfl, hT37, hC37⟩ := (hR36 _ _).1 hr
   obtain ⟨tm37, rfl⟩ := allEq hT37
   obtain ⟨cb37, rfl⟩ := allEq hC37
   dsimp only [kit_IsKey_l0] at hF1
   refine sq <| sq <| rg <| L (iA i1) rfl rfl rfl <| L (sA s_) rfl rfl rfl <| L (iA (s_.length : Int)) rfl rfl rfl <| L (bA (decide (i1 < (s_.length : Int)))) rfl rfl rfl <| nl <| cd (decide (i1 < (s_.length : Int))) rfl (fun hc72 => ?_) (fun hc72 => ?_)
   · replace hF1 := ite_t hF1 (dec_t hc72)
     refine sk <| sq <| bk <| sq <| rg <| L (sA s_) rfl rfl rfl <| L (iA i1) rfl rfl rfl ?_
     obtain ⟨c1, h_c1, hF1⟩ := bind_some hF1
     refine L (.int .u8 c1) rfl rfl (op_index rfl (ix_str rfl h_c1)) <| L (.int .u8 c1) rfl rfl rfl <| nl <| sq <| rg <| L (.int .u8 c1) rfl rfl rfl <| L (bA (decide (c1 ≥ 97))) rfl rfl rfl ?_
     obtain ⟨J39, hJ39⟩ : ∃ J : St → Prop, ∀ st, J st ↔ (∃ (tm40 : Nat → AV) (cb40 : AE.Frame), st = ⟨tm40, ⟨cb40, out, glob⟩⟩ ∧ AllEq tm40 [(0, (sA s_)), (3, (iA i1)), (4, (.int .u8 c1)), (19, (bA ((decide (c1 ≥ 97)) && (decide (c1 ≤ 122)))))] ∧ AllEq cb40 []) := ⟨_, fun _ => Iff.rfl⟩
     refine WO_cut 4 J39 (fun st hst => ?_) ?_
     · obtain ⟨tm40, cb40, rfl, hT40, hC40⟩ := (hJ39 st).1 hst
       obtain ⟨tm40, rfl⟩ := allEq hT40
       obtain ⟨cb40, rfl⟩ := allEq hC40
       obtain ⟨J55, hJ55⟩ : ∃ J : St → Prop, ∀ st, J st ↔ (∃ (tm56 : Nat → AV) (cb56 : AE.Frame), st = ⟨tm56, ⟨cb56, out, glob⟩⟩ ∧ AllEq tm56 [(0, (sA s_)), (3, (iA i1)), (39, (bA (((decide (c1 ≥ 97)) && (decide (c1 ≤ 122))) || ((decide (i1 > 0)) && ((((decide (c1 ≥ 48)) && (decide (c1 ≤ 57))) || (c1 == 45)) || (c1 == 95))))))] ∧ AllEq cb56 []) := ⟨_, fun _ => Iff.rfl⟩
       refine WO_cut 20 J55 (fun st hst => ?_) ?_
       · obtain ⟨tm56, cb56, rfl, hT56, hC56⟩ := (hJ55 st).1 hst
         obtain ⟨tm56, rfl⟩ := allEq hT56
         obtain ⟨cb56, rfl⟩ := allEq hC56
         refine L (bA (!(((decide (c1 ≥ 97)) && (decide (c1 ≤ 122))) || ((decide (i1 > 0)) && ((((decide (c1 ≥ 48)) && (decide (c1 ≤ 57))) || (c1 == 45)) || (c1 == 95)))))) rfl rfl rfl <| nl <| cd (!(((decide (c1 ≥ 97)) && (decide (c1 ≤ 122))) || ((decide (i1 > 0)) && ((((decide (c1 ≥ 48)) && (decide (c1 ≤ 57))) || (c1 == 45)) || (c1 == 95))))) rfl (fun hc57 => ?_) (fun hc57 => ?_)
         · replace hF1 := ite_t hF1 (hc57)
           refine sq <| rg <| L (bA false) rfl rfl rfl <| nl <| rt ?_
           obtain rfl := hD1 _ (Option.some.inj hF1).symm
           replace hF0 := res_ret hF0
           obtain rfl := Option.some.inj hF0
           exact rd_leaf (.inr rfl) rfl (retV_pl _ _ (bA false)) rfl rfl
         · replace hF1 := ite_f hF1 (not_t hc57)
           exact sk <| rg <| L (iA i1) rfl rfl rfl <| L (iA (w64 (i1 + 1))) rfl rfl rfl <| L (iA (w64 (i1 + 1))) rfl rfl rfl <| nl <| Exists.intro _ (And.intro (Option.some.inj hF1).symm ((hR36  _ _).2 ⟨_, _, rfl, (And.intro rfl (And.intro rfl True.intro)), True.intro⟩))
       · rcases bool_cases ((decide (c1 ≥ 97)) && (decide (c1 ≤ 122))) with hc55 | hc55
         · exact L (.bool true) rfl rfl (congrArg (fun b => some (AV.bool b, _)) hc55) <| WO_no _ rfl rfl <| WO_no _ rfl rfl <| WO_no _ rfl rfl <| WO_no _ rfl rfl <| WO_no _ rfl rfl <| WO_no _ rfl rfl <| WO_no _ rfl rfl <| WO_no _ rfl rfl <| WO_no _ rfl rfl <| WO_no _ rfl rfl <| WO_no _ rfl rfl <| WO_no _ rfl rfl <| WO_no _ rfl rfl <| WO_no _ rfl rfl <| WO_no _ rfl rfl <| WO_no _ rfl rfl <| WO_no _ rfl rfl <| WO_no _ rfl rfl <| L (bA (((decide (c1 ≥ 97)) && (decide (c1 ≤ 122))) || ((decide (i1 > 0)) && ((((decide (c1 ≥ 48)) && (decide (c1 ≤ 57))) || (c1 == 45)) || (c1 == 95))))) rfl rfl (congrArg (fun b => some (AV.bool b, _)) (by rw [hc55]; rfl)) <| nl ((hJ55 _).2 ⟨_, _, rfl, (And.intro rfl (And.intro rfl (And.intro rfl True.intro))), True.intro⟩)
         · refine L (.bool false) rfl rfl (congrArg (fun b => some (AV.bool b, _)) hc55) <| L (iA i1) rfl rfl rfl <| L (bA (decide (i1 > 0))) rfl rfl rfl ?_
           obtain ⟨J64, hJ64⟩ : ∃ J : St → Prop, ∀ st, J st ↔ (∃ (tm65 : Nat → AV) (cb65 : AE.Frame), st = ⟨tm65, ⟨cb65, out, glob⟩⟩ ∧ AllEq tm65 [(0, (sA s_)), (3, (iA i1)), (20, (bA false)), (21, (iA i1)), (22, (bA (decide (i1 > 0)))), (38, (bA ((decide (i1 > 0)) && ((((decide (c1 ≥ 48)) && (decide (c1 ≤ 57))) || (c1 == 45)) || (c1 == 95)))))] ∧ AllEq cb65 []) := ⟨_, fun _ => Iff.rfl⟩
           refine WO_cut 16 J64 (fun st hst => ?_) ?_
           · obtain ⟨tm65, cb65, rfl, hT65, hC65⟩ := (hJ64 st).1 hst
             obtain ⟨tm65, rfl⟩ := allEq hT65
             obtain ⟨cb65, rfl⟩ := allEq hC65
             exact L (bA (((decide (c1 ≥ 97)) && (decide (c1 ≤ 122))) || ((decide (i1 > 0)) && ((((decide (c1 ≥ 48)) && (decide (c1 ≤ 57))) || (c1 == 45)) || (c1 == 95))))) rfl rfl (congrArg (fun b => some (AV.bool b, _)) (by rw [hc55]; rfl)) <| nl ((hJ55 _).2 ⟨_, _, rfl, (And.intro rfl (And.intro rfl (And.intro rfl True.intro))), True.intro⟩)
           · rcases bool_cases (decide (i1 > 0)) with hc64 | hc64
             · refine L (.bool true) rfl rfl (congrArg (fun b => some (AV.bool b, _)) hc64) <| L (.int .u8 c1) rfl rfl rfl <| L (bA (decide (c1 ≥ 48))) rfl rfl rfl ?_
               obtain ⟨J66, hJ66⟩ : ∃ J : St → Prop, ∀ st, J st ↔ (∃ (tm67 : Nat → AV) (cb67 : AE.Frame), st = ⟨tm67, ⟨cb67, out, glob⟩⟩ ∧ AllEq tm67 [(0, (sA s_)), (3, (iA i1)), (4, (.int .u8 c1)), (20, (bA false)), (21, (iA i1)), (22, (bA (decide (i1 > 0)))), (23, (bA true)), (24, (.int .u8 c1)), (25, (bA (decide (c1 ≥ 48)))), (29, (bA ((decide (c1 ≥ 48)) && (decide (c1 ≤ 57)))))] ∧ AllEq cb67 []) := ⟨_, fun _ => Iff.rfl⟩
               refine WO_cut 4 J66 (fun st hst => ?_) ?_
               · obtain ⟨tm67, cb67, rfl, hT67, hC67⟩ := (hJ66 st).1 hst
                 obtain ⟨tm67, rfl⟩ := allEq hT67
                 obtain ⟨cb67, rfl⟩ := allEq hC67
                 obtain ⟨J68, hJ68⟩ : ∃ J : St → Prop, ∀ st, J st ↔ (∃ (tm69 : Nat → AV) (cb69 : AE.Frame), st = ⟨tm69, ⟨cb69, out, glob⟩⟩ ∧ AllEq tm69 [(0, (sA s_)), (3, (iA i1)), (4, (.int .u8 c1)), (20, (bA false)), (21, (iA i1)), (22, (bA (decide (i1 > 0)))), (23, (bA true)), (24, (.int .u8 c1)), (25, (bA (decide (c1 ≥ 48)))), (29, (bA ((decide (c1 ≥ 48)) && (decide (c1 ≤ 57))))), (33, (bA (((decide (c1 ≥ 48)) && (decide (c1 ≤ 57))) || (c1 == 45))))] ∧ AllEq cb69 []) := ⟨_, fun _ => Iff.rfl⟩
                 refine WO_cut 4 J68 (fun st hst => ?_) ?_
                 · obtain ⟨tm69, cb69, rfl, hT69, hC69⟩ := (hJ68 st).1 hst
                   obtain ⟨tm69, rfl⟩ := allEq hT69
                   obtain ⟨cb69, rfl⟩ := allEq hC69
                   obtain ⟨J70, hJ70⟩ : ∃ J : St → Prop, ∀ st, J st ↔ (∃ (tm71 : Nat → AV) (cb71 : AE.Frame), st = ⟨tm71, ⟨cb71, out, glob⟩⟩ ∧ AllEq tm71 [(0, (sA s_)), (3, (iA i1)), (20, (bA false)), (21, (iA i1)), (22, (bA (decide (i1 > 0)))), (23, (bA true)), (24, (.int .u8 c1)), (25, (bA (decide (c1 ≥ 48)))), (29, (bA ((decide (c1 ≥ 48)) && (decide (c1 ≤ 57))))), (33, (bA (((decide (c1 ≥ 48)) && (decide (c1 ≤ 57))) || (c1 == 45)))), (37, (bA ((((decide (c1 ≥ 48)) && (decide (c1 ≤ 57))) || (c1 == 45)) || (c1 == 95))))] ∧ AllEq cb71 []) := ⟨_, fun _ => Iff.rfl⟩
                   refine WO_cut 4 J70 (fun st hst => ?_) ?_
                   · obtain ⟨tm71, cb71, rfl, hT71, hC71⟩ := (hJ70 st).1 hst
                     obtain ⟨tm71, rfl⟩ := allEq hT71
                     obtain ⟨cb71, rfl⟩ := allEq hC71
                     exact L (bA ((decide (i1 > 0)) && ((((decide (c1 ≥ 48)) && (decide (c1 ≤ 57))) || (c1 == 45)) || (c1 == 95)))) rfl rfl (congrArg (fun b => some (AV.bool b, _)) (by rw [hc64]; rfl)) <| nl ((hJ64 _).2 ⟨_, _, rfl, (And.intro rfl (And.intro rfl (And.intro rfl (And.intro rfl (And.intro rfl (And.intro rfl True.intro)))))), True.intro⟩)
                   · rcases bool_cases (((decide (c1 ≥ 48)) && (decide (c1 ≤ 57))) || (c1 == 45)) with hc70 | hc70
                     · exact L (.bool true) rfl rfl (congrArg (fun b => some (AV.bool b, _)) hc70) <| WO_no _ rfl rfl <| WO_no _ rfl rfl <| L (bA ((((decide (c1 ≥ 48)) && (decide (c1 ≤ 57))) || (c1 == 45)) || (c1 == 95))) rfl rfl (congrArg (fun b => some (AV.bool b, _)) (by rw [hc70]; rfl)) <| nl ((hJ70 _).2 ⟨_, _, rfl, (And.intro rfl (And.intro rfl (And.intro rfl (And.intro rfl (And.intro rfl (And.intro rfl (And.intro rfl (And.intro rfl (And.intro rfl (And.intro rfl (And.intro rfl True.intro))))))))))), True.intro⟩)
                     · exact L (.bool false) rfl rfl (congrArg (fun b => some (AV.bool b, _)) hc70) <| L (.int .u8 c1) rfl rfl rfl <| L (bA (c1 == 95)) rfl rfl rfl <| L (bA ((((decide (c1 ≥ 48)) && (decide (c1 ≤ 57))) || (c1 == 45)) || (c1 == 95))) rfl rfl (congrArg (fun b => some (AV.bool b, _)) (by rw [hc70]; rfl)) <| nl ((hJ70 _).2 ⟨_, _, rfl, (And.intro rfl (And.intro rfl (And.intro rfl (And.intro rfl (And.intro rfl (And.intro rfl (And.intro rfl (And.intro rfl (And.intro rfl (And.intro rfl (And.intro rfl True.intro))))))))))), True.intro⟩)
                 · rcases bool_cases ((decide (c1 ≥ 48)) && (decide (c1 ≤ 57))) with hc68 | hc68
                   · exact L (.bool true) rfl rfl (congrArg (fun b => some (AV.bool b, _)) hc68) <| WO_no _ rfl rfl <| WO_no _ rfl rfl <| L (bA (((decide (c1 ≥ 48)) && (decide (c1 ≤ 57))) || (c1 == 45))) rfl rfl (congrArg (fun b => some (AV.bool b, _)) (by rw [hc68]; rfl)) <| nl ((hJ68 _).2 ⟨_, _, rfl, (And.intro rfl (And.intro rfl (And.intro rfl (And.intro rfl (And.intro rfl (And.intro rfl (And.intro rfl (And.intro rfl (And.intro rfl (And.intro rfl (And.intro rfl True.intro))))))))))), True.intro⟩)
                   · exact L (.bool false) rfl rfl (congrArg (fun b => some (AV.bool b, _)) hc68) <| L (.int .u8 c1) rfl rfl rfl <| L (bA (c1 == 45)) rfl rfl rfl <| L (bA (((decide (c1 ≥ 48)) && (decide (c1 ≤ 57))) || (c1 == 45))) rfl rfl (congrArg (fun b => some (AV.bool b, _)) (by rw [hc68]; rfl)) <| nl ((hJ68 _).2 ⟨_, _, rfl, (And.intro rfl (And.intro rfl (And.intro rfl (And.intro rfl (And.intro rfl (And.intro rfl (And.intro rfl (And.intro rfl (And.intro rfl (And.intro rfl (And.intro rfl True.intro))))))))))), True.intro⟩)
               · rcases bool_cases (decide (c1 ≥ 48)) with hc66 | hc66
                 · exact L (.bool true) rfl rfl (congrArg (fun b => some (AV.bool b, _)) hc66) <| L (.int .u8 c1) rfl rfl rfl <| L (bA (decide (c1 ≤ 57))) rfl rfl rfl <| L (bA ((decide (c1 ≥ 48)) && (decide (c1 ≤ 57)))) rfl rfl (congrArg (fun b => some (AV.bool b, _)) (by rw [hc66]; rfl)) <| nl ((hJ66 _).2 ⟨_, _, rfl, (And.intro rfl (And.intro rfl (And.intro rfl (And.intro rfl (And.intro rfl (And.intro rfl (And.intro rfl (And.intro rfl (And.intro rfl (And.intro rfl True.intro)))))))))), True.intro⟩)
                 · exact L (.bool false) rfl rfl (congrArg (fun b => some (AV.bool b, _)) hc66) <| WO_no _ rfl rfl <| WO_no _ rfl rfl <| L (bA ((decide (c1 ≥ 48)) && (decide (c1 ≤ 57)))) rfl rfl (congrArg (fun b => some (AV.bool b, _)) (by rw [hc66]; rfl)) <| nl ((hJ66 _).2 ⟨_, _, rfl, (And.intro rfl (And.intro rfl (And.intro rfl (And.intro rfl (And.intro rfl (And.intro rfl (And.intro rfl (And.intro rfl (And.intro rfl (And.intro rfl True.intro)))))))))), True.intro⟩)
             · exact L (.bool false) rfl rfl (congrArg (fun b => some (AV.bool b, _)) hc64) <| WO_no _ rfl rfl <| WO_no _ rfl rfl <| WO_no _ rfl rfl <| WO_no _ rfl rfl <| WO_no _ rfl rfl <| WO_no _ rfl rfl <| WO_no _ rfl rfl <| WO_no _ rfl rfl <| WO_no _ rfl rfl <| WO_no _ rfl rfl <| WO_no _ rfl rfl <| WO_no _ rfl rfl <| WO_no _ rfl rfl <| WO_no _ rfl rfl <| L (bA ((decide (i1 > 0)) && ((((decide (c1 ≥ 48)) && (decide (c1 ≤ 57))) || (c1 == 45)) || (c1 == 95)))) rfl rfl (congrArg (fun b => some (AV.bool b, _)) (by rw [hc64]; rfl)) <| nl ((hJ64 _).2 ⟨_, _, rfl, (And.intro rfl (And.intro rfl (And.intro rfl (And.intro rfl (And.intro rfl (And.intro rfl True.intro)))))), True.intro⟩)
     · rcases bool_cases (decide (c1 ≥ 97)) with hc39 | hc39
       · exact L (.bool true) rfl rfl (congrArg (fun b => some (AV.bool b, _)) hc39) <| L (.int .u8 c1) rfl rfl rfl <| L (bA (decide (c1 ≤ 122))) rfl rfl rfl <| L (bA ((decide (c1 ≥ 97)) && (decide (c1 ≤ 122)))) rfl rfl (congrArg (fun b => some (AV.bool b, _)) (by rw [hc39]; rfl)) <| nl ((hJ39 _).2 ⟨_, _, rfl, (And.intro rfl (And.intro rfl (And.intro rfl (And.intro rfl True.intro)))), True.intro⟩)
       · exact L (.bool false) rfl rfl (congrArg (fun b => some (AV.bool b, _)) hc39) <| WO_no _ rfl rfl <| WO_no _ rfl rfl <| L (bA ((decide (c1 ≥ 97)) && (decide (c1 ≤ 122)))) rfl rfl (congrArg (fun b => some (AV.bool b, _)) (by rw [hc39]; rfl)) <| nl ((hJ39 _).2 ⟨_, _, rfl, (And.intro rfl (And.intro rfl (And.intro rfl (And.intro rfl True.intro)))), True.intro⟩)
   · replace hF1 := ite_f hF1 (dec_f hc72)
     exact xt <| (hJ36 _).2 ⟨_, _, rfl, (And.intro rfl True.intro), True.intro, hD1 _ (Option.some.inj hF1).symm⟩

theorem ok_kit_Outside (n : Int) (low : Int) (high : Int) {r : (Bool)} (hF0 : kit_Outside n low high = some r) (out : List AE.Frame) (glob : List AObj) : RdOk Tryz.prog pol true 57 [(iA n), (iA low), (iA high)] out glob (bA r) := by
 unfold kit_Outside at hF0
 refine rd_walk Tryz.func57 rfl (Nat.not_lt.2 (Nat.le_of_ble_eq_true rfl)) ?_
 intro ro
 refine sq <| rg <| L (bA false) rfl rfl rfl <| nl <| sq <| rg <| L (iA n) rfl rfl rfl <| L (iA low) rfl rfl rfl <| L (bA (decide (n < low))) rfl rfl rfl ?_
 obtain ⟨J1, hJ1⟩ : ∃ J : St → Prop, ∀ st, J st ↔ (∃ (tm2 : Nat → AV) (cb2 : AE.Frame), st = ⟨tm2, ⟨cb2, out, glob⟩⟩ ∧ AllEq tm2 [(14, (bA ((decide (n < low)) || (decide (n > high)))))] ∧ AllEq cb2 []) := ⟨_, fun _ => Iff.rfl⟩
 refine WO_cut 5 J1 (fun st hst => ?_) ?_
 · obtain ⟨tm2, cb2, rfl, hT2, hC2⟩ := (hJ1 st).1 hst
   obtain ⟨tm2, rfl⟩ := allEq hT2
   obtain ⟨cb2, rfl⟩ := allEq hC2
   refine L (bA ((decide (n < low)) || (decide (n > high)))) rfl rfl rfl <| nl <| rt ?_
   obtain rfl := Option.some.inj hF0
   exact rd_leaf (.inr rfl) rfl (retV_pl _ _ (bA ((decide (n < low)) || (decide (n > high))))) rfl rfl
 · rcases bool_cases (decide (n < low)) with hc1 | hc1
   · exact L (.bool true) rfl rfl (congrArg (fun b => some (AV.bool b, _)) hc1) <| WO_no _ rfl rfl <| WO_no _ rfl rfl <| WO_no _ rfl rfl <| L (bA ((decide (n < low)) || (decide (n > high)))) rfl rfl (congrArg (fun b => some (AV.bool b, _)) (by rw [hc1]; rfl)) <| nl ((hJ1 _).2 ⟨_, _, rfl, (And.intro rfl True.intro), True.intro⟩)
   · exact L (.bool false) rfl rfl (congrArg (fun b => some (AV.bool b, _)) hc1) <| L (iA n) rfl rfl rfl <| L (iA high) rfl rfl rfl <| L (bA (decide (n > high))) rfl rfl rfl <| L (bA ((decide (n < low)) || (decide (n > high)))) rfl rfl (congrArg (fun b => some (AV.bool b, _)) (by rw [hc1]; rfl)) <| nl ((hJ1 _).2 ⟨_, _, rfl, (And.intro rfl True.intro), True.intro⟩)

theorem ok_limit_limitFault (l : (Sl api_Limit)) (i : Int) {r : (Int)} (hF0 : limit_limitFault l i = some r) (out : List AE.Frame) (glob : List AObj) : RdOk Tryz.prog pol true 40 [(Sl.av 5 c_api_Limit l), (iA i)] out glob (iA r) := by
 unfold limit_limitFault at hF0
 refine rd_walk Tryz.func40 rfl (Nat.not_lt.2 (Nat.le_of_ble_eq_true rfl)) ?_
 intro ro
 refine sq <| rg <| L (iA 0) rfl rfl rfl <| nl <| sq <| rg <| L (Sl.av 5 c_api_Limit l) rfl rfl rfl <| L (iA i) rfl rfl rfl ?_
 obtain ⟨x, h_x, hF0⟩ := bind_some hF0
 refine L (.cptr (c_api_Limit x)) rfl rfl (op_ix rfl (ix_sl (c := c_api_Limit) rfl rfl h_x)) <| L (.agg (c_api_Limit x)) rfl rfl rfl <| L (.ptr (.fr 0 5) 1 0) (h' := ⟨upd _ 5 ⟨1, .cells (c_api_Limit (api_Limit.mk [] 0 0 0 0))⟩, _, _⟩) rfl rfl (op_alloc (c_api_Limit (api_Limit.mk [] 0 0 0 0)) rfl rfl rfl rfl) <| L (.tup []) (h' := ⟨upd _ 5 ⟨1, .cells (c_api_Limit x)⟩, _, _⟩) rfl rfl (op_store rfl rfl (st_fr (x := (.agg (c_api_Limit x))) (cs := (c_api_Limit (api_Limit.mk [] 0 0 0 0))) (c_api_Limit x) rfl rfl (Nat.le_of_ble_eq_true rfl) rfl)) <| nl <| sq <| dw (by kernel_rfl) <| L (.ptr (.fr 0 5) 1 1) rfl rfl rfl <| L (iA x.Kind) rfl rfl (op_load rfl (ld_con (iA x.Kind) rfl rfl (cs := (c_api_Limit x)) (con_fr rfl) rfl)) <| L (bA (x.Kind == 4)) rfl rfl rfl <| L (.ptr (.fr 0 5) 1 1) rfl rfl rfl <| L (iA x.Kind) rfl rfl (op_load rfl (ld_con (iA x.Kind) rfl rfl (cs := (c_api_Limit x)) (con_fr rfl) rfl)) <| L (bA (x.Kind == 3)) rfl rfl rfl <| L (bA (x.Kind == 4)) rfl rfl rfl <| L (bA (x.Kind == 3)) rfl rfl rfl <| nl <| sq <| bk <| sq <| rg <| L (.ptr (.fr 0 5) 1 0) rfl rfl rfl <| L (sA x.Key) rfl rfl (op_load rfl (ld_con (sA x.Key) rfl rfl (cs := (c_api_Limit x)) (con_fr rfl) rfl)) ?_
 obtain ⟨r21, h1, hF0⟩ := bind_some hF0
 refine WO_rd (g := 56) (args := [(sA x.Key)]) (r := (bA r21)) _ _ rfl rfl rfl rfl rfl rfl rfl (ok_kit_IsKey _ h1 _ _ ) <| L (bA (!r21)) rfl rfl rfl <| L (bA (!r21)) rfl rfl rfl <| nl <| cd (!r21) rfl (fun hc35 => ?_) (fun hc35 => ?_)
 · replace hF0 := ite_t hF0 (hc35)
   refine sq <| rg <| L (iA 5) rfl rfl rfl <| nl <| rt ?_
   obtain rfl := Option.some.inj hF0
   exact rd_leaf (.inr rfl) rfl (retV_pl _ _ (iA 5)) rfl rfl
 · replace hF0 := ite_f hF0 (not_t hc35)
   refine sq <| dw (by kernel_rfl) <| L (iA i) rfl rfl rfl <| L (bA (decide (i > 0))) rfl rfl rfl ?_
   obtain ⟨y2, hF1, hF0⟩ := bind_some hF0
   obtain ⟨J2, hJ2⟩ : ∃ J : St → Prop, ∀ st, J st ↔ (∃ (t36 : Bool) (tm3 : Nat → AV) (cb3 : AE.Frame), st = ⟨tm3, ⟨cb3, out, glob⟩⟩ ∧ AllEq tm3 [(5, (.ptr (.fr 0 5) 1 0)), (6, (bA (x.Kind == 4))), (7, (bA (x.Kind == 3))), (36, (bA t36))] ∧ AllEq cb3 [(5, ⟨1, .cells (c_api_Limit x)⟩)] ∧ t36 = y2) := ⟨_, fun _ => Iff.rfl⟩
   refine WO_cut 11 J2 (fun st hst => ?_) ?_
   · obtain ⟨t36, tm3, cb3, rfl, hT3, hC3, rfl⟩ := (hJ2 st).1 hst
     obtain ⟨tm3, rfl⟩ := allEq hT3
     obtain ⟨cb3, rfl⟩ := allEq hC3
     refine L (bA t36) rfl rfl rfl <| nl <| cd t36 rfl (fun hc34 => ?_) (fun hc34 => ?_)
     · replace hF0 := ite_t hF0 (hc34)
       refine sq <| rg <| L (iA 7) rfl rfl rfl <| nl <| rt ?_
       obtain rfl := Option.some.inj hF0
       exact rd_leaf (.inr rfl) rfl (retV_pl _ _ (iA 7)) rfl rfl
     · replace hF0 := ite_f hF0 (not_t hc34)
       refine sq <| rg <| L (.ptr (.fr 0 5) 1 1) rfl rfl rfl <| L (iA x.Kind) rfl rfl (op_load rfl (ld_con (iA x.Kind) rfl rfl (cs := (c_api_Limit x)) (con_fr rfl) rfl)) ?_
       obtain ⟨r37, h4, hF0⟩ := bind_some hF0
       refine WO_rd (g := 57) (args := [(iA x.Kind), (iA 1), (iA 4)]) (r := (bA r37)) _ _ rfl rfl rfl rfl rfl rfl rfl (ok_kit_Outside _ _ _ h4 _ _ ) <| L (bA r37) rfl rfl rfl <| nl <| cd r37 rfl (fun hc33 => ?_) (fun hc33 => ?_)
       · replace hF0 := ite_t hF0 (hc33)
         refine sq <| rg <| L (iA 4) rfl rfl rfl <| nl <| rt ?_
         obtain rfl := Option.some.inj hF0
         exact rd_leaf (.inr rfl) rfl (retV_pl _ _ (iA 4)) rfl rfl
       · replace hF0 := ite_f hF0 (not_t hc33)
         refine sq <| rg <| L (.ptr (.fr 0 5) 1 2) rfl rfl rfl <| L (iA x.Most) rfl rfl (op_load rfl (ld_con (iA x.Most) rfl rfl (cs := (c_api_Limit x)) (con_fr rfl) rfl)) ?_
         obtain ⟨r41, h5, hF0⟩ := bind_some hF0
         refine WO_rd (g := 57) (args := [(iA x.Most), (iA 1), (iA 1000000000)]) (r := (bA r41)) _ _ rfl rfl rfl rfl rfl rfl rfl (ok_kit_Outside _ _ _ h5 _ _ ) <| L (bA r41) rfl rfl rfl <| nl <| cd r41 rfl (fun hc32 => ?_) (fun hc32 => ?_)
         · replace hF0 := ite_t hF0 (hc32)
           refine sq <| rg <| L (iA 1) rfl rfl rfl <| nl <| rt ?_
           obtain rfl := Option.some.inj hF0
           exact rd_leaf (.inr rfl) rfl (retV_pl _ _ (iA 1)) rfl rfl
         · replace hF0 := ite_f hF0 (not_t hc32)
           refine sq <| rg <| L (bA (x.Kind == 4)) rfl rfl rfl ?_
           obtain ⟨J6, hJ6⟩ : ∃ J : St → Prop, ∀ st, J st ↔ (∃ (tm7 : Nat → AV) (cb7 : AE.Frame), st = ⟨tm7, ⟨cb7, out, glob⟩⟩ ∧ AllEq tm7 [(5, (.ptr (.fr 0 5) 1 0)), (6, (bA (x.Kind == 4))), (7, (bA (x.Kind == 3))), (51, (bA ((x.Kind == 4) && (x.Per != 0))))] ∧ AllEq cb7 [(5, ⟨1, .cells (c_api_Limit x)⟩)]) := ⟨_, fun _ => Iff.rfl⟩
           refine WO_cut 5 J6 (fun st hst => ?_) ?_
           · obtain ⟨tm7, cb7, rfl, hT7, hC7⟩ := (hJ6 st).1 hst
             obtain ⟨tm7, rfl⟩ := allEq hT7
             obtain ⟨cb7, rfl⟩ := allEq hC7
             obtain ⟨y12, hF1, hF0⟩ := bind_some hF0
             obtain ⟨J12, hJ12⟩ : ∃ J : St → Prop, ∀ st, J st ↔ (∃ (t60 : Bool) (tm13 : Nat → AV) (cb13 : AE.Frame), st = ⟨tm13, ⟨cb13, out, glob⟩⟩ ∧ AllEq tm13 [(5, (.ptr (.fr 0 5) 1 0)), (7, (bA (x.Kind == 3))), (60, (bA t60))] ∧ AllEq cb13 [(5, ⟨1, .cells (c_api_Limit x)⟩)] ∧ t60 = y12) := ⟨_, fun _ => Iff.rfl⟩
             refine WO_cut 9 J12 (fun st hst => ?_) ?_
             · obtain ⟨t60, tm13, cb13, rfl, hT13, hC13, rfl⟩ := (hJ12 st).1 hst
               obtain ⟨tm13, rfl⟩ := allEq hT13
               obtain ⟨cb13, rfl⟩ := allEq hC13
               refine L (bA t60) rfl rfl rfl <| nl <| cd t60 rfl (fun hc27 => ?_) (fun hc27 => ?_)
               · replace hF0 := ite_t hF0 (hc27)
                 refine sq <| rg <| L (iA 1) rfl rfl rfl <| nl <| rt ?_
                 obtain rfl := Option.some.inj hF0
                 exact rd_leaf (.inr rfl) rfl (retV_pl _ _ (iA 1)) rfl rfl
               · replace hF0 := ite_f hF0 (not_t hc27)
                 refine sq <| rg <| L (bA (x.Kind == 3)) rfl rfl rfl <| L (bA (!(x.Kind == 3))) rfl rfl rfl ?_
                 obtain ⟨J14, hJ14⟩ : ∃ J : St → Prop, ∀ st, J st ↔ (∃ (tm15 : Nat → AV) (cb15 : AE.Frame), st = ⟨tm15, ⟨cb15, out, glob⟩⟩ ∧ AllEq tm15 [(5, (.ptr (.fr 0 5) 1 0)), (7, (bA (x.Kind == 3))), (68, (bA ((!(x.Kind == 3)) && (x.Burst != 0))))] ∧ AllEq cb15 [(5, ⟨1, .cells (c_api_Limit x)⟩)]) := ⟨_, fun _ => Iff.rfl⟩
                 refine WO_cut 5 J14 (fun st hst => ?_) ?_
                 · obtain ⟨tm15, cb15, rfl, hT15, hC15⟩ := (hJ14 st).1 hst
                   obtain ⟨tm15, rfl⟩ := allEq hT15
                   obtain ⟨cb15, rfl⟩ := allEq hC15
                   obtain ⟨y20, hF1, hF0⟩ := bind_some hF0
                   obtain ⟨J20, hJ20⟩ : ∃ J : St → Prop, ∀ st, J st ↔ (∃ (t76 : Bool) (tm21 : Nat → AV) (cb21 : AE.Frame), st = ⟨tm21, ⟨cb21, out, glob⟩⟩ ∧ AllEq tm21 [(76, (bA t76))] ∧ AllEq cb21 [] ∧ t76 = y20) := ⟨_, fun _ => Iff.rfl⟩
                   refine WO_cut 8 J20 (fun st hst => ?_) ?_
                   · obtain ⟨t76, tm21, cb21, rfl, hT21, hC21, rfl⟩ := (hJ20 st).1 hst
                     obtain ⟨tm21, rfl⟩ := allEq hT21
                     obtain ⟨cb21, rfl⟩ := allEq hC21
                     refine L (bA t76) rfl rfl rfl <| nl <| cd t76 rfl (fun hc22 => ?_) (fun hc22 => ?_)
                     · replace hF0 := ite_t hF0 (hc22)
                       refine sq <| rg <| L (iA 1) rfl rfl rfl <| nl <| rt ?_
                       obtain rfl := Option.some.inj hF0
                       exact rd_leaf (.inr rfl) rfl (retV_pl _ _ (iA 1)) rfl rfl
                     · replace hF0 := ite_f hF0 (not_t hc22)
                       refine sk <| sq <| rg <| L (iA 0) rfl rfl rfl <| nl <| rt ?_
                       obtain rfl := Option.some.inj hF0
                       exact rd_leaf (.inr rfl) rfl (retV_pl _ _ (iA 0)) rfl rfl
                   · rcases bool_cases ((!(x.Kind == 3)) && (x.Burst != 0)) with hc20 | hc20
                     · replace hF1 := ite_t hF1 (hc20)
                       exact L (.bool true) rfl rfl (congrArg (fun b => some (AV.bool b, _)) hc20) <| WO_no _ rfl rfl <| WO_no _ rfl rfl <| WO_no _ rfl rfl <| WO_no _ rfl rfl <| WO_no _ rfl rfl <| WO_no _ rfl rfl <| L (bA true) rfl rfl rfl <| nl ((hJ20 _).2 ⟨true, _, _, rfl, (And.intro rfl True.intro), True.intro, Option.some.inj hF1⟩)
                     · replace hF1 := ite_f hF1 (not_t hc20)
                       refine L (.bool false) rfl rfl (congrArg (fun b => some (AV.bool b, _)) hc20) <| L (bA (x.Kind == 3)) rfl rfl rfl ?_
                       obtain ⟨y24, hF2, hF1⟩ := bind_some hF1
                       obtain ⟨J24, hJ24⟩ : ∃ J : St → Prop, ∀ st, J st ↔ (∃ (t751 : Bool) (tm25 : Nat → AV) (cb25 : AE.Frame), st = ⟨tm25, ⟨cb25, out, glob⟩⟩ ∧ AllEq tm25 [(69, (bA false)), (75, (bA t751))] ∧ AllEq cb25 [] ∧ t751 = y24) := ⟨_, fun _ => Iff.rfl⟩
                       refine WO_cut 5 J24 (fun st hst => ?_) ?_
                       · obtain ⟨t751, tm25, cb25, rfl, hT25, hC25, rfl⟩ := (hJ24 st).1 hst
                         obtain ⟨tm25, rfl⟩ := allEq hT25
                         obtain ⟨cb25, rfl⟩ := allEq hC25
                         exact L (bA t751) rfl rfl rfl <| nl ((hJ20 _).2 ⟨t751, _, _, rfl, (And.intro rfl True.intro), True.intro, Option.some.inj hF1⟩)
                       · rcases bool_cases (x.Kind == 3) with hc24 | hc24
                         · replace hF2 := ite_t hF2 (beq_t hc24)
                           refine L (.bool true) rfl rfl (congrArg (fun b => some (AV.bool b, _)) hc24) <| L (.ptr (.fr 0 5) 1 4) rfl rfl rfl <| L (iA x.Burst) rfl rfl (op_load rfl (ld_con (iA x.Burst) rfl rfl (cs := (c_api_Limit x)) (con_fr rfl) rfl)) ?_
                           obtain ⟨r743, h26, hF2⟩ := bind_some hF2
                           exact WO_rd (g := 57) (args := [(iA x.Burst), (iA 1), (iA 1000000000)]) (r := (bA r743)) _ _ rfl rfl rfl rfl rfl rfl rfl (ok_kit_Outside _ _ _ h26 _ _ ) <| L (bA r743) rfl rfl rfl <| nl ((hJ24 _).2 ⟨r743, _, _, rfl, (And.intro rfl (And.intro rfl True.intro)), True.intro, Option.some.inj hF2⟩)
                         · replace hF2 := ite_f hF2 (beq_f hc24)
                           exact L (.bool false) rfl rfl (congrArg (fun b => some (AV.bool b, _)) hc24) <| WO_no _ rfl rfl <| WO_no _ rfl rfl <| WO_no _ rfl rfl <| L (bA false) rfl rfl rfl <| nl ((hJ24 _).2 ⟨false, _, _, rfl, (And.intro rfl (And.intro rfl True.intro)), True.intro, Option.some.inj hF2⟩)
                 · rcases bool_cases (!(x.Kind == 3)) with hc14 | hc14
                   · exact L (.bool true) rfl rfl (congrArg (fun b => some (AV.bool b, _)) hc14) <| L (.ptr (.fr 0 5) 1 4) rfl rfl rfl <| L (iA x.Burst) rfl rfl (op_load rfl (ld_con (iA x.Burst) rfl rfl (cs := (c_api_Limit x)) (con_fr rfl) rfl)) <| L (bA (x.Burst != 0)) rfl rfl rfl <| L (bA ((!(x.Kind == 3)) && (x.Burst != 0))) rfl rfl (congrArg (fun b => some (AV.bool b, _)) (by rw [hc14]; rfl)) <| nl ((hJ14 _).2 ⟨_, _, rfl, (And.intro rfl (And.intro rfl (And.intro rfl True.intro))), (And.intro rfl True.intro)⟩)
                   · exact L (.bool false) rfl rfl (congrArg (fun b => some (AV.bool b, _)) hc14) <| WO_no _ rfl rfl <| WO_no _ rfl rfl <| WO_no _ rfl rfl <| L (bA ((!(x.Kind == 3)) && (x.Burst != 0))) rfl rfl (congrArg (fun b => some (AV.bool b, _)) (by rw [hc14]; rfl)) <| nl ((hJ14 _).2 ⟨_, _, rfl, (And.intro rfl (And.intro rfl (And.intro rfl True.intro))), (And.intro rfl True.intro)⟩)
             · rcases bool_cases ((x.Kind == 4) && (x.Per != 0)) with hc12 | hc12
               · replace hF1 := ite_t hF1 (hc12)
                 exact L (.bool true) rfl rfl (congrArg (fun b => some (AV.bool b, _)) hc12) <| WO_no _ rfl rfl <| WO_no _ rfl rfl <| WO_no _ rfl rfl <| WO_no _ rfl rfl <| WO_no _ rfl rfl <| WO_no _ rfl rfl <| WO_no _ rfl rfl <| L (bA true) rfl rfl rfl <| nl ((hJ12 _).2 ⟨true, _, _, rfl, (And.intro rfl (And.intro rfl (And.intro rfl True.intro))), (And.intro rfl True.intro), Option.some.inj hF1⟩)
               · replace hF1 := ite_f hF1 (not_t hc12)
                 refine L (.bool false) rfl rfl (congrArg (fun b => some (AV.bool b, _)) hc12) <| L (bA (x.Kind == 4)) rfl rfl rfl <| L (bA (!(x.Kind == 4))) rfl rfl rfl ?_
                 obtain ⟨y29, hF2, hF1⟩ := bind_some hF1
                 obtain ⟨J29, hJ29⟩ : ∃ J : St → Prop, ∀ st, J st ↔ (∃ (t591 : Bool) (tm30 : Nat → AV) (cb30 : AE.Frame), st = ⟨tm30, ⟨cb30, out, glob⟩⟩ ∧ AllEq tm30 [(5, (.ptr (.fr 0 5) 1 0)), (7, (bA (x.Kind == 3))), (52, (bA false)), (59, (bA t591))] ∧ AllEq cb30 [(5, ⟨1, .cells (c_api_Limit x)⟩)] ∧ t591 = y29) := ⟨_, fun _ => Iff.rfl⟩
                 refine WO_cut 5 J29 (fun st hst => ?_) ?_
                 · obtain ⟨t591, tm30, cb30, rfl, hT30, hC30, rfl⟩ := (hJ29 st).1 hst
                   obtain ⟨tm30, rfl⟩ := allEq hT30
                   obtain ⟨cb30, rfl⟩ := allEq hC30
                   exact L (bA t591) rfl rfl rfl <| nl ((hJ12 _).2 ⟨t591, _, _, rfl, (And.intro rfl (And.intro rfl (And.intro rfl True.intro))), (And.intro rfl True.intro), Option.some.inj hF1⟩)
                 · rcases bool_cases (!(x.Kind == 4)) with hc29 | hc29
                   · replace hF2 := ite_t hF2 (hc29)
                     refine L (.bool true) rfl rfl (congrArg (fun b => some (AV.bool b, _)) hc29) <| L (.ptr (.fr 0 5) 1 3) rfl rfl rfl <| L (iA x.Per) rfl rfl (op_load rfl (ld_con (iA x.Per) rfl rfl (cs := (c_api_Limit x)) (con_fr rfl) rfl)) ?_
                     obtain ⟨r583, h31, hF2⟩ := bind_some hF2
                     exact WO_rd (g := 57) (args := [(iA x.Per), (iA 1), (iA 8640000000)]) (r := (bA r583)) _ _ rfl rfl rfl rfl rfl rfl rfl (ok_kit_Outside _ _ _ h31 _ _ ) <| L (bA r583) rfl rfl rfl <| nl ((hJ29 _).2 ⟨r583, _, _, rfl, (And.intro rfl (And.intro rfl (And.intro rfl (And.intro rfl True.intro)))), (And.intro rfl True.intro), Option.some.inj hF2⟩)
                   · replace hF2 := ite_f hF2 (not_t hc29)
                     exact L (.bool false) rfl rfl (congrArg (fun b => some (AV.bool b, _)) hc29) <| WO_no _ rfl rfl <| WO_no _ rfl rfl <| WO_no _ rfl rfl <| L (bA false) rfl rfl rfl <| nl ((hJ29 _).2 ⟨false, _, _, rfl, (And.intro rfl (And.intro rfl (And.intro rfl (And.intro rfl True.intro)))), (And.intro rfl True.intro), Option.some.inj hF2⟩)
           · rcases bool_cases (x.Kind == 4) with hc6 | hc6
             · exact L (.bool true) rfl rfl (congrArg (fun b => some (AV.bool b, _)) hc6) <| L (.ptr (.fr 0 5) 1 3) rfl rfl rfl <| L (iA x.Per) rfl rfl (op_load rfl (ld_con (iA x.Per) rfl rfl (cs := (c_api_Limit x)) (con_fr rfl) rfl)) <| L (bA (x.Per != 0)) rfl rfl rfl <| L (bA ((x.Kind == 4) && (x.Per != 0))) rfl rfl (congrArg (fun b => some (AV.bool b, _)) (by rw [hc6]; rfl)) <| nl ((hJ6 _).2 ⟨_, _, rfl, (And.intro rfl (And.intro rfl (And.intro rfl (And.intro rfl True.intro)))), (And.intro rfl True.intro)⟩)
             · exact L (.bool false) rfl rfl (congrArg (fun b => some (AV.bool b, _)) hc6) <| WO_no _ rfl rfl <| WO_no _ rfl rfl <| WO_no _ rfl rfl <| L (bA ((x.Kind == 4) && (x.Per != 0))) rfl rfl (congrArg (fun b => some (AV.bool b, _)) (by rw [hc6]; rfl)) <| nl ((hJ6 _).2 ⟨_, _, rfl, (And.intro rfl (And.intro rfl (And.intro rfl (And.intro rfl True.intro)))), (And.intro rfl True.intro)⟩)
   · rcases bool_cases (decide (i > 0)) with hc2 | hc2
     · replace hF1 := ite_t hF1 (dec_t hc2)
       refine L (.bool true) rfl rfl (congrArg (fun b => some (AV.bool b, _)) hc2) <| L (.ptr (.fr 0 5) 1 0) rfl rfl rfl <| L (sA x.Key) rfl rfl (op_load rfl (ld_con (sA x.Key) rfl rfl (cs := (c_api_Limit x)) (con_fr rfl) rfl)) <| L (Sl.av 5 c_api_Limit l) rfl rfl rfl <| L (iA i) rfl rfl rfl <| L (iA (w64 (i - 1))) rfl rfl rfl ?_
       obtain ⟨x2, h_x2, hF1⟩ := bind_some hF1
       exact L (.cptr (c_api_Limit x2)) rfl rfl (op_ix rfl (ix_sl (c := c_api_Limit) rfl rfl h_x2)) <| L (.cptr ((c_api_Limit x2).drop 0)) rfl rfl rfl <| L (sA x2.Key) rfl rfl rfl <| L (bA (sle x.Key x2.Key)) rfl rfl (op_bin rfl bin_sle) <| L (bA (sle x.Key x2.Key)) rfl rfl rfl <| nl ((hJ2 _).2 ⟨sle x.Key x2.Key, _, _, rfl, (And.intro rfl (And.intro rfl (And.intro rfl (And.intro rfl True.intro)))), (And.intro rfl True.intro), Option.some.inj hF1⟩)
     · replace hF1 := ite_f hF1 (dec_f hc2)
       exact L (.bool false) rfl rfl (congrArg (fun b => some (AV.bool b, _)) hc2) <| WO_no _ rfl rfl <| WO_no _ rfl rfl <| WO_no _ rfl rfl <| WO_no _ rfl rfl <| WO_no _ rfl rfl <| WO_no _ rfl rfl <| WO_no _ rfl rfl <| WO_no _ rfl rfl <| WO_no _ rfl rfl <| L (bA false) rfl rfl rfl <| nl ((hJ2 _).2 ⟨false, _, _, rfl, (And.intro rfl (And.intro rfl (And.intro rfl (And.intro rfl True.intro)))), (And.intro rfl True.intro), Option.some.inj hF1⟩)

theorem ok_limit_CheckLimits (l : (Sl api_Limit)) {r : (Int)} (hF0 : limit_CheckLimits l = some r) (out : List AE.Frame) (glob : List AObj) : RdOk Tryz.prog pol true 18 [(Sl.av 5 c_api_Limit l)] out glob (iA r) := by
 unfold limit_CheckLimits at hF0
 refine rd_walk Tryz.func18 rfl (Nat.not_lt.2 (Nat.le_of_ble_eq_true rfl)) ?_
 intro ro
 refine sq <| rg <| L (iA 0) rfl rfl rfl <| nl <| sq <| sq <| rg <| L (Sl.av 5 c_api_Limit l) rfl rfl rfl <| L (iA (l.list.length : Int)) rfl rfl (op_len rfl rfl rfl rfl rfl (len_sl _)) <| L (bA (decide ((l.list.length : Int) > 20))) rfl rfl rfl <| nl <| cd (decide ((l.list.length : Int) > 20)) rfl (fun hc11 => ?_) (fun hc11 => ?_)
 · replace hF0 := ite_t hF0 (dec_t hc11)
   refine sq <| rg <| L (iA 2) rfl rfl rfl <| nl <| rt ?_
   obtain rfl := Option.some.inj hF0
   exact rd_leaf (.inr rfl) rfl (retV_pl _ _ (iA 2)) rfl rfl
 · replace hF0 := ite_f hF0 (dec_f hc11)
   refine sk <| sq <| sq <| rg <| L (Sl.av 5 c_api_Limit l) rfl rfl rfl <| L (iA (l.list.length : Int)) rfl rfl (op_len rfl rfl rfl rfl rfl (len_sl _)) <| L (iA 0) rfl rfl rfl <| nl <| bk ?_
   obtain ⟨b1, hb5, hF0⟩ := bind_some hF0
   obtain ⟨hn5, hb5⟩ := ite_none hb5
   obtain ⟨J5, hJ5⟩ : ∃ J : St → Prop, ∀ st, J st ↔ (∃ (tm7 : Nat → AV) (cb7 : AE.Frame), st = ⟨tm7, ⟨cb7, out, glob⟩⟩ ∧ AllEq tm7 [] ∧ AllEq cb7 [] ∧ Res.out () = b1) := ⟨_, fun _ => Iff.rfl⟩
   obtain ⟨R5, hR5⟩ : ∃ R : Nat → (Unit) → St → Prop, ∀ i v st, R i v st ↔ (match v with | () => ∃ (tm6 : Nat → AV) (cb6 : AE.Frame), st = ⟨tm6, ⟨cb6, out, glob⟩⟩ ∧ AllEq tm6 [(0, (Sl.av 5 c_api_Limit l)), (9, (iA (l.list.length : Int))), (10, (iA ((i : Nat) : Int)))] ∧ AllEq cb6 []) := ⟨_, fun _ _ _ => Iff.rfl⟩
   refine W_loopcut J5 (fun st hst => ?_) ?_
   · obtain ⟨tm7, cb7, rfl, hT7, hC7, rfl⟩ := (hJ5 st).1 hst
     obtain ⟨tm7, rfl⟩ := allEq hT7
     obtain ⟨cb7, rfl⟩ := allEq hC7
     replace hF0 := res_out hF0
     refine sq <| rg <| L (iA 0) rfl rfl rfl <| nl <| rt ?_
     obtain rfl := Option.some.inj hF0
     exact rd_leaf (.inr rfl) rfl (retV_pl _ _ (iA 0)) rfl rfl
   · refine W_rangeL hb5 R5 ((hR5 _ _ _).2 ⟨_, _, rfl, (And.intro rfl (And.intro rfl (And.intro rfl True.intro))), True.intro⟩) ?_ ?_
     · intro i hi5 v st s hr hF1 hD1
       obtain ⟨⟩ := v
       obtain ⟨tm6, cb6, rfl, hT6, hC6⟩ := (hR5 _ _ _).1 hr
       obtain ⟨tm6, rfl⟩ := allEq hT6
       obtain ⟨cb6, rfl⟩ := allEq hC6
       obtain ⟨x, hx5⟩ : ∃ x, x = l.list[i] := ⟨_, rfl⟩
       rw [← hx5] at hF1
       dsimp only [limit_CheckLimits_l0] at hF1
       refine sq (rg ?_)
       refine WO_do (y := (bA (decide (((i : Nat) : Int) < (l.list.length : Int))))) _ rfl rfl rfl (nl ?_)
       refine sq <| cd true (congrArg some (range_lt hi5)) (fun _ => ?_) (fun h => absurd h (by decide))
       refine sk <| sq <| bk <| sq <| rg <| L (iA ((i : Nat) : Int)) rfl rfl rfl <| L (iA ((i : Nat) : Int)) rfl rfl rfl <| nl <| sq <| rg <| L (Sl.av 5 c_api_Limit l) rfl rfl (op_movS rfl rfl rfl) <| L (iA ((i : Nat) : Int)) rfl rfl rfl ?_
       obtain ⟨e1, h9, hF1⟩ := bind_some hF1
       refine WO_rd (g := 40) (args := [(Sl.av 5 c_api_Limit l), (iA ((i : Nat) : Int))]) (r := (iA e1)) _ _ rfl rfl rfl rfl rfl rfl rfl (ok_limit_limitFault _ _ h9 _ _ ) <| L (iA e1) rfl rfl rfl <| nl <| sq <| rg <| L (iA e1) rfl rfl rfl <| L (bA (e1 != 0)) rfl rfl rfl <| nl <| cd (e1 != 0) rfl (fun hc10 => ?_) (fun hc10 => ?_)
       · replace hF1 := ite_t hF1 (bne_t hc10)
         refine sq <| rg <| L (iA e1) rfl rfl rfl <| L (iA e1) rfl rfl rfl <| nl <| rt ?_
         obtain rfl := hD1 _ (Option.some.inj hF1).symm
         replace hF0 := res_ret hF0
         obtain rfl := Option.some.inj hF0
         exact rd_leaf (.inr rfl) rfl (retV_pl _ _ (iA e1)) rfl rfl
       · replace hF1 := ite_f hF1 (bne_f hc10)
         exact sk <| rg <| WO_do (y := (iA ((i + 1 : Nat) : Int))) _ rfl rfl (congrArg (fun n => some (AV.int .i64 n, _)) (range_len hi5 hn5)) <| WO_do (y := (iA ((i + 1 : Nat) : Int))) _ rfl rfl rfl <| nl <| Exists.intro _ (And.intro (Option.some.inj hF1).symm ((hR5 _ _ _).2 ⟨_, _, rfl, (And.intro rfl (And.intro rfl (And.intro rfl True.intro))), True.intro⟩))
     · intro v st hr hD1
       obtain ⟨⟩ := v
       obtain ⟨tm6, cb6, rfl, hT6, hC6⟩ := (hR5 _ _ _).1 hr
       obtain ⟨tm6, rfl⟩ := allEq hT6
       obtain ⟨cb6, rfl⟩ := allEq hC6
       refine sq (rg ?_)
       refine WO_do (y := .bool false) _ rfl rfl (congrArg (fun b => some (AV.bool b, _)) (range_ge _)) (nl ?_)
       refine sq <| cd false rfl (fun h => absurd h (by decide)) (fun _ => ?_)
       exact xt <| (hJ5 _).2 ⟨_, _, rfl, True.intro, True.intro, hD1⟩

theorem ok_limit_kindWords  {r : ((Sl Str))} (hF0 : limit_kindWords = some r) (out : List AE.Frame) (glob : List AObj) : RdOk Tryz.prog pol true 20 [] out glob (Sl.av 1 c_str r) := by
 unfold limit_kindWords at hF0
 refine rd_walk Tryz.func20 rfl (Nat.not_lt.2 (Nat.le_of_ble_eq_true rfl)) ?_
 intro ro
 refine sq <| rg <| L (Sl.av 1 c_str Sl.nil) rfl rfl rfl <| nl <| sq <| rg <| L (Sl.av 1 c_str (Sl.full [[], [119, 105, 110, 100, 111, 119], [115, 108, 105, 100, 105, 110, 103], [98, 117, 99, 107, 101, 116], [111, 110, 99, 101]] : Sl Str)) rfl rfl (op_sliceN rfl rfl rfl) <| L (Sl.av 1 c_str (Sl.full [[], [119, 105, 110, 100, 111, 119], [115, 108, 105, 100, 105, 110, 103], [98, 117, 99, 107, 101, 116], [111, 110, 99, 101]] : Sl Str)) rfl rfl rfl <| nl <| rt ?_
 obtain rfl := Option.some.inj hF0
 exact rd_leaf (.inr rfl) rfl (retV_pl _ _ (Sl.av 1 c_str (Sl.full [[], [119, 105, 110, 100, 111, 119], [115, 108, 105, 100, 105, 110, 103], [98, 117, 99, 107, 101, 116], [111, 110, 99, 101]] : Sl Str))) rfl rfl

theorem ok_strings_Builder_WriteString (b : (Ar UInt8)) (s_ : Str) {r : (Int × Unit × (Ar UInt8))} (hF0 : strings_Builder_WriteString b s_ = some r) : MutA Tryz.prog pol 19 (fun p => [p, (sA s_)]) 0 (some 5) (fun sl u => [(.bmark 50), (rf sl u b.list.length)]) (Ar.con 1 c_byte b) (.tup [(iA r.1), .nili]) (fun sl u => [(.bmark 50), (rf sl u r.2.2.list.length)]) (Ar.con 1 c_byte r.2.2) := by
 unfold strings_Builder_WriteString at hF0
 refine mutA_walk Tryz.func19 rfl (fun _ => Nat.not_lt.2 (Nat.le_of_ble_eq_true rfl)) ?_
 intro out glob d0 w0 e0 sl0 u0 hh0 hsub0 hbt0 hk_0 hka_0
 refine sq <| rg <| L (iA 0) rfl rfl rfl <| L .nili rfl rfl rfl <| nl <| sq <| rg <| L (.ptr d0 w0 0) rfl rfl rfl <| L (.tup []) rfl rfl (opF_H _ rfl rfl rfl rfl rfl rfl rfl (x_check_eq (cs := [(.bmark 50), (rf sl0 u0 b.list.length)]) ((con_con2 _ _ _ _ _ hh0).trans hk_0) rfl (by kernel_rfl))) <| nl <| sq <| rg <| L (.ptr d0 w0 0) rfl rfl rfl <| L (.ptr d0 w0 0) rfl rfl rfl <| L (.ptr d0 w0 0) rfl rfl rfl <| L (.ptr d0 w0 1) rfl rfl rfl <| L (rf e0 u0 b.list.length) rfl rfl (op_load rfl (ld_pa (cs := [(.bmark 50), (rf sl0 u0 b.list.length)]) hsub0 rfl rfl ((con_con2 _ _ _ _ _ hh0).trans hk_0) rfl)) <| L (sA s_) rfl rfl rfl ?_
 obtain ⟨buf, h_buf, hF0⟩ := bind_some hF0
 refine WO_arappP (cc := e0) (u := u0) (a := b) (a' := buf) (n := 1) (c := c_byte) (xs := s_) (y := (sA s_)) _ rfl rfl rfl rfl rfl rfl rfl rfl rfl rfl (z := [.int .u8 0]) rfl rfl rfl rfl rfl (by decide) (fun _ => rfl) rfl hbt0 rfl hsub0.eh (elems_str _ _) hka_0 rfl h_buf (fun out1 glob1 hka1 hq1 => ?_)
 have hk1 := hq1.con hsub0.ne hh0 hk_0
 have hs1 := (Same2.refl d0 e0 _ _).ofR hq1
 refine L (.ptr d0 w0 0) rfl rfl rfl <| L (.ptr d0 w0 1) rfl rfl rfl <| WO_stPA (cs := [(.bmark 50), (rf sl0 u0 b.list.length)]) (cs' := [(.bmark 50), (rf sl0 (u0 + 1) buf.list.length)]) (off := 1) (dd := d0) (v := w0) _ rfl rfl rfl rfl rfl rfl rfl rfl hh0 hsub0 hk1 (Nat.le_of_ble_eq_true rfl) rfl (fun out2 glob2 hk2 hq2 => ?_)
 have hka2 := hq2.con hsub0.ne.symm hsub0.eh hka1
 have hs2 := hs1.ofL hq2
 refine nl <| sq <| rg <| L (sA s_) rfl rfl rfl <| L (iA (s_.length : Int)) rfl rfl rfl <| L (iA (s_.length : Int)) rfl rfl rfl <| L .nili rfl rfl rfl <| nl <| rt ?_
 obtain rfl := Option.some.inj hF0
 exact mutA_leaf (.inr rfl) rfl (ret_tup2 (retV_pl _ _ (iA (s_.length : Int))) (retV_pl _ _ .nili)) hk2 hka2 hs2

theorem ok_limit_Text (l : (Sl api_Limit)) {r : (Str × Int)} (hF0 : limit_Text l = some r) (out : List AE.Frame) (glob : List AObj) : RdOk Tryz.prog pol false 5 [(Sl.av 5 c_api_Limit l)] out glob (.tup [(sA r.1), (iA r.2)]) := by
 unfold limit_Text at hF0
 refine rd_walkF Tryz.func5 rfl (Nat.not_lt.2 (Nat.le_of_ble_eq_true rfl)) <| sq <| rg <| L (sA []) rfl rfl rfl <| L (iA 0) rfl rfl rfl <| nl <| sq <| sq <| rg <| L (Sl.av 5 c_api_Limit l) rfl rfl (op_movS rfl rfl rfl) ?_
 obtain ⟨e, h1, hF0⟩ := bind_some hF0
 refine WO_rd (g := 18) (args := [(Sl.av 5 c_api_Limit l)]) (r := (iA e)) _ _ rfl rfl rfl rfl rfl rfl rfl (ok_limit_CheckLimits _ h1 _ _ ) <| L (iA e) rfl rfl rfl <| nl <| sq <| rg <| L (iA e) rfl rfl rfl <| L (bA (e != 0)) rfl rfl rfl <| nl <| cd (e != 0) rfl (fun hc16 => ?_) (fun hc16 => ?_)
 · replace hF0 := ite_t hF0 (bne_t hc16)
   refine sq <| rg <| L (iA e) rfl rfl rfl <| L (sA []) rfl rfl rfl <| L (iA e) rfl rfl rfl <| nl <| rt ?_
   obtain rfl := Option.some.inj hF0
   exact rd_leaf (.inr rfl) rfl (ret_tup2 (retV_pl _ _ (sA [])) (retV_pl _ _ (iA e))) rfl rfl
 · replace hF0 := ite_f hF0 (bne_f hc16)
   refine sk <| sq <| rg <| L (.ptr (.fr 0 5) 1 0) (h' := ⟨upd (upd _ 1050005 ⟨1, (Ar.con 1 c_byte (Ar.nil : Ar UInt8))⟩) 5 ⟨1, .cells [(.bmark 50), (rf (.fr 0 1050005) 1 (Ar.nil : Ar UInt8).list.length)]⟩, _, _⟩) rfl rfl (op_allocA [.nilp, (Sl.av 1 c_u8 Sl.nil)] rfl rfl rfl rfl rfl (List.cons_ne_nil _ _) (fld_mark rfl (fld_arr rfl (by decide) fld_nil))) <| nl <| sq <| sq <| rg <| L (Sl.av 5 c_api_Limit l) rfl rfl rfl <| L (iA (l.list.length : Int)) rfl rfl (op_len rfl rfl rfl rfl rfl (len_sl _)) <| L (iA 0) rfl rfl rfl <| nl <| bk ?_
   obtain ⟨b1, hb10, hF0⟩ := bind_some hF0
   obtain ⟨hn10, hb10⟩ := ite_none hb10
   obtain ⟨J10, hJ10⟩ : ∃ J : St → Prop, ∀ st, J st ↔ (∃ (b4 : (Ar UInt8)) (u2 : Nat) (tm12 : Nat → AV) (cb12 : AE.Frame), st = ⟨tm12, ⟨cb12, out, glob⟩⟩ ∧ AllEq tm12 [(5, (.ptr (.fr 0 5) 1 0))] ∧ AllEq cb12 [(5, ⟨1, .cells [(.bmark 50), (rf (.fr 0 1050005) u2 b4.list.length)]⟩), (1050005, ⟨u2, (Ar.con 1 c_byte b4)⟩)] ∧ b4 = b1) := ⟨_, fun _ => Iff.rfl⟩
   obtain ⟨R10, hR10⟩ : ∃ R : Nat → ((Ar UInt8)) → St → Prop, ∀ i v st, R i v st ↔ (match v with | b3 => ∃ (u1 : Nat) (tm11 : Nat → AV) (cb11 : AE.Frame), st = ⟨tm11, ⟨cb11, out, glob⟩⟩ ∧ AllEq tm11 [(5, (.ptr (.fr 0 5) 1 0)), (13, (Sl.av 5 c_api_Limit l)), (14, (iA (l.list.length : Int))), (15, (iA ((i : Nat) : Int)))] ∧ AllEq cb11 [(5, ⟨1, .cells [(.bmark 50), (rf (.fr 0 1050005) u1 b3.list.length)]⟩), (1050005, ⟨u1, (Ar.con 1 c_byte b3)⟩)]) := ⟨_, fun _ _ _ => Iff.rfl⟩
   refine W_loopcut J10 (fun st hst => ?_) ?_
   · obtain ⟨b4, u2, tm12, cb12, rfl, hT12, hC12, rfl⟩ := (hJ10 st).1 hst
     obtain ⟨tm12, rfl⟩ := allEq hT12
     obtain ⟨cb12, rfl⟩ := allEq hC12
     refine sq <| rg ?_
     obtain ⟨r2, h_r2, hF0⟩ := bind_some hF0
     refine L (sA r2) rfl rfl (opF_H _ rfl rfl rfl rfl rfl rfl rfl (x_string_eq (cs := [(.bmark 50), (rf (.fr 0 1050005) u2 b4.list.length)]) (a := b4) (con_fr rfl) rfl (from_fr0 _ _) (con_fr rfl) rfl rfl h_r2)) <| L (sA r2) rfl rfl rfl <| L (iA 0) rfl rfl rfl <| nl <| rt ?_
     obtain rfl := Option.some.inj hF0
     exact rd_leaf (.inr rfl) rfl (ret_tup2 (retV_pl _ _ (sA r2)) (retV_pl _ _ (iA 0))) rfl rfl
   · refine W_rangeL hb10 R10 ((hR10 _ _ _).2 ⟨1, _, _, rfl, (And.intro rfl (And.intro rfl (And.intro rfl (And.intro rfl True.intro)))), (And.intro rfl (And.intro rfl True.intro))⟩) ?_ ?_
     · intro i hi10 v st s hr hF1 hD1
       obtain ⟨b3, hv_⟩ : ∃ z, z = v := ⟨_, rfl⟩; subst hv_
       obtain ⟨u1, tm11, cb11, rfl, hT11, hC11⟩ := (hR10 _ _ _).1 hr
       obtain ⟨tm11, rfl⟩ := allEq hT11
       obtain ⟨cb11, rfl⟩ := allEq hC11
       obtain ⟨x4, hx10⟩ : ∃ x, x = l.list[i] := ⟨_, rfl⟩
       rw [← hx10] at hF1
       dsimp only [limit_Text_l0] at hF1
       refine sq (rg ?_)
       refine WO_do (y := (bA (decide (((i : Nat) : Int) < (l.list.length : Int))))) _ rfl rfl rfl (nl ?_)
       refine sq <| cd true (congrArg some (range_lt hi10)) (fun _ => ?_) (fun h => absurd h (by decide))
       refine sk <| sq <| bk <| sq <| rg <| L (.cptr (c_api_Limit x4)) rfl rfl (op_ix rfl ((ix_at (c := c_api_Limit) rfl rfl hi10).trans (congrArg (fun x => some (AV.cptr (c_api_Limit x))) hx10.symm))) <| L (.agg (c_api_Limit x4)) rfl rfl rfl <| L (.ptr (.fr 0 7) ((cb11 7).ver + 1) 0) (h' := ⟨upd _ 7 ⟨(cb11 7).ver + 1, .cells (c_api_Limit (api_Limit.mk [] 0 0 0 0))⟩, _, _⟩) rfl rfl (op_alloc (c_api_Limit (api_Limit.mk [] 0 0 0 0)) rfl rfl rfl rfl) <| L (.tup []) (h' := ⟨upd _ 7 ⟨(cb11 7).ver + 1, .cells (c_api_Limit x4)⟩, _, _⟩) rfl rfl (op_store rfl rfl (st_fr (x := (.agg (c_api_Limit x4))) (cs := (c_api_Limit (api_Limit.mk [] 0 0 0 0))) (c_api_Limit x4) rfl rfl (Nat.le_of_ble_eq_true rfl) rfl)) <| nl <| dw (by kernel_rfl) <| L (.ptr (.fr 0 7) ((cb11 7).ver + 1) 0) rfl rfl rfl <| L (sA x4.Key) rfl rfl (op_load rfl (ld_con (sA x4.Key) rfl rfl (cs := (c_api_Limit x4)) (con_fr rfl) rfl)) ?_
       obtain ⟨r212, h_r212, hF1⟩ := bind_some hF1
       refine L (sA r212) rfl rfl (op_bin rfl (bin_sadd h_r212)) ?_
       obtain ⟨r222, h14, hF1⟩ := bind_some hF1
       refine WO_rd (g := 20) (args := []) (r := (Sl.av 1 c_str r222)) _ _ rfl rfl rfl rfl rfl rfl rfl (ok_limit_kindWords  h14 _ _ ) <| L (.ptr (.fr 0 7) ((cb11 7).ver + 1) 1) rfl rfl rfl <| L (iA x4.Kind) rfl rfl (op_load rfl (ld_con (iA x4.Kind) rfl rfl (cs := (c_api_Limit x4)) (con_fr rfl) rfl)) ?_
       obtain ⟨x5, h_x5, hF1⟩ := bind_some hF1
       refine L (.cptr [(sA x5)]) rfl rfl (op_ix rfl (ix_sl (c := c_str) rfl rfl h_x5)) <| L (sA x5) rfl rfl rfl ?_
       obtain ⟨r272, h_r272, hF1⟩ := bind_some hF1
       refine L (sA r272) rfl rfl (op_bin rfl (bin_sadd h_r272)) ?_
       obtain ⟨r282, h_r282, hF1⟩ := bind_some hF1
       refine L (sA r282) rfl rfl (op_bin rfl (bin_sadd h_r282)) <| L (.ptr (.fr 0 7) ((cb11 7).ver + 1) 2) rfl rfl rfl <| L (iA x4.Most) rfl rfl (op_load rfl (ld_con (iA x4.Most) rfl rfl (cs := (c_api_Limit x4)) (con_fr rfl) rfl)) ?_
       obtain ⟨r312, h_r312, hF1⟩ := bind_some hF1
       refine L (sA r312) rfl rfl (op_lib _ rfl rfl rfl (x_itoa_eq h_r312)) ?_
       obtain ⟨r322, h_r322, hF1⟩ := bind_some hF1
       refine L (sA r322) rfl rfl (op_bin rfl (bin_sadd h_r322)) ?_
       obtain ⟨r332, h_r332, hF1⟩ := bind_some hF1
       refine L (sA r332) rfl rfl (op_bin rfl (bin_sadd h_r332)) <| L (.ptr (.fr 0 7) ((cb11 7).ver + 1) 3) rfl rfl rfl <| L (iA x4.Per) rfl rfl (op_load rfl (ld_con (iA x4.Per) rfl rfl (cs := (c_api_Limit x4)) (con_fr rfl) rfl)) ?_
       obtain ⟨r362, h_r362, hF1⟩ := bind_some hF1
       refine L (sA r362) rfl rfl (op_lib _ rfl rfl rfl (x_itoa_eq h_r362)) ?_
       obtain ⟨r372, h_r372, hF1⟩ := bind_some hF1
       refine L (sA r372) rfl rfl (op_bin rfl (bin_sadd h_r372)) ?_
       obtain ⟨r382, h_r382, hF1⟩ := bind_some hF1
       refine L (sA r382) rfl rfl (op_bin rfl (bin_sadd h_r382)) <| L (.ptr (.fr 0 7) ((cb11 7).ver + 1) 4) rfl rfl rfl <| L (iA x4.Burst) rfl rfl (op_load rfl (ld_con (iA x4.Burst) rfl rfl (cs := (c_api_Limit x4)) (con_fr rfl) rfl)) ?_
       obtain ⟨r412, h_r412, hF1⟩ := bind_some hF1
       refine L (sA r412) rfl rfl (op_lib _ rfl rfl rfl (x_itoa_eq h_r412)) ?_
       obtain ⟨r422, h_r422, hF1⟩ := bind_some hF1
       refine L (sA r422) rfl rfl (op_bin rfl (bin_sadd h_r422)) ?_
       obtain ⟨r432, h_r432, hF1⟩ := bind_some hF1
       refine L (sA r432) rfl rfl (op_bin rfl (bin_sadd h_r432)) ?_
       obtain ⟨⟨q02, q12, b5⟩, h15, hF1⟩ := bind_some hF1
       refine WO_mutAL (g := 19) (args := fun p => [p, (sA r432)]) (off := 0) (s := 5) (b := 1050005) (v := 1) (u := u1) (cs := fun sl u => [(.bmark 50), (rf sl u b3.list.length)]) (a := (Ar.con 1 c_byte b3)) (r := (.tup [(iA q02), .nili])) _ _ rfl rfl rfl rfl rfl rfl (by kernel_rfl) (fun _ _ => inferInstance) rfl rfl (by decide) rfl Ar.con_live (ok_strings_Builder_WriteString _ _ h15) (fun u15 => ?_)
       exact nl <| rg <| WO_do (y := (iA ((i + 1 : Nat) : Int))) _ rfl rfl (congrArg (fun n => some (AV.int .i64 n, _)) (range_len hi10 hn10)) <| WO_do (y := (iA ((i + 1 : Nat) : Int))) _ rfl rfl rfl <| nl <| Exists.intro _ (And.intro (Option.some.inj hF1).symm ((hR10 _ _ _).2 ⟨u15, _, _, rfl, (And.intro rfl (And.intro rfl (And.intro rfl (And.intro rfl True.intro)))), (And.intro rfl (And.intro rfl True.intro))⟩))
     · intro v st hr hD1
       obtain ⟨b3, hv_⟩ : ∃ z, z = v := ⟨_, rfl⟩; subst hv_
       obtain ⟨u1, tm11, cb11, rfl, hT11, hC11⟩ := (hR10 _ _ _).1 hr
       obtain ⟨tm11, rfl⟩ := allEq hT11
       obtain ⟨cb11, rfl⟩ := allEq hC11
       refine sq (rg ?_)
       refine WO_do (y := .bool false) _ rfl rfl (congrArg (fun b => some (AV.bool b, _)) (range_ge _)) (nl ?_)
       refine sq <| cd false rfl (fun h => absurd h (by decide)) (fun _ => ?_)
       exact xt <| (hJ10 _).2 ⟨b3, u1, _, _, rfl, (And.intro rfl True.intro), (And.intro rfl (And.intro rfl True.intro)), hD1⟩

theorem ok_gateref2_in (n : Int) (low : Int) (high : Int) {r : (Bool)} (hF0 : gateref2_in n low high = some r) (out : List AE.Frame) (glob : List AObj) : RdOk Tryz.prog pol true 43 [(iA n), (iA low), (iA high)] out glob (bA r) := by
 unfold gateref2_in at hF0
 refine rd_walk Tryz.func43 rfl (Nat.not_lt.2 (Nat.le_of_ble_eq_true rfl)) ?_
 intro ro
 refine sq <| rg <| L (bA false) rfl rfl rfl <| nl <| sq <| rg <| L (iA low) rfl rfl rfl <| L (iA n) rfl rfl rfl <| L (bA (decide (low ≤ n))) rfl rfl rfl ?_
 obtain ⟨J1, hJ1⟩ : ∃ J : St → Prop, ∀ st, J st ↔ (∃ (tm2 : Nat → AV) (cb2 : AE.Frame), st = ⟨tm2, ⟨cb2, out, glob⟩⟩ ∧ AllEq tm2 [(14, (bA ((decide (low ≤ n)) && (decide (n ≤ high)))))] ∧ AllEq cb2 []) := ⟨_, fun _ => Iff.rfl⟩
 refine WO_cut 5 J1 (fun st hst => ?_) ?_
 · obtain ⟨tm2, cb2, rfl, hT2, hC2⟩ := (hJ1 st).1 hst
   obtain ⟨tm2, rfl⟩ := allEq hT2
   obtain ⟨cb2, rfl⟩ := allEq hC2
   refine L (bA ((decide (low ≤ n)) && (decide (n ≤ high)))) rfl rfl rfl <| nl <| rt ?_
   obtain rfl := Option.some.inj hF0
   exact rd_leaf (.inr rfl) rfl (retV_pl _ _ (bA ((decide (low ≤ n)) && (decide (n ≤ high))))) rfl rfl
 · rcases bool_cases (decide (low ≤ n)) with hc1 | hc1
   · exact L (.bool true) rfl rfl (congrArg (fun b => some (AV.bool b, _)) hc1) <| L (iA n) rfl rfl rfl <| L (iA high) rfl rfl rfl <| L (bA (decide (n ≤ high))) rfl rfl rfl <| L (bA ((decide (low ≤ n)) && (decide (n ≤ high)))) rfl rfl (congrArg (fun b => some (AV.bool b, _)) (by rw [hc1]; rfl)) <| nl ((hJ1 _).2 ⟨_, _, rfl, (And.intro rfl True.intro), True.intro⟩)
   · exact L (.bool false) rfl rfl (congrArg (fun b => some (AV.bool b, _)) hc1) <| WO_no _ rfl rfl <| WO_no _ rfl rfl <| WO_no _ rfl rfl <| L (bA ((decide (low ≤ n)) && (decide (n ≤ high)))) rfl rfl (congrArg (fun b => some (AV.bool b, _)) (by rw [hc1]; rfl)) <| nl ((hJ1 _).2 ⟨_, _, rfl, (And.intro rfl True.intro), True.intro⟩)

theorem ok_stringslite_IndexByte (s_ : Str) (c : Int) {r : (Int)} (hF0 : stringslite_IndexByte s_ c = some r) (out : List AE.Frame) (glob : List AObj) : RdOk Tryz.prog pol true 79 [(sA s_), (.int .u8 c)] out glob (iA r) := by
 unfold stringslite_IndexByte at hF0
 refine rd_walk Tryz.func79 rfl (Nat.not_lt.2 (Nat.le_of_ble_eq_true rfl)) ?_
 intro ro
 refine sq <| rg <| L (iA 0) rfl rfl rfl <| nl <| sq <| rg <| L (sA s_) rfl rfl rfl <| L (.int .u8 c) rfl rfl rfl <| L (iA (Go.Lib.indexByte s_ c.toNat.toUInt8)) rfl rfl rfl <| L (iA (Go.Lib.indexByte s_ c.toNat.toUInt8)) rfl rfl rfl <| nl <| rt ?_
 obtain rfl := Option.some.inj hF0
 exact rd_leaf (.inr rfl) rfl (retV_pl _ _ (iA (Go.Lib.indexByte s_ c.toNat.toUInt8))) rfl rfl

theorem ok_strings_IndexByte (s_ : Str) (c : Int) {r : (Int)} (hF0 : strings_IndexByte s_ c = some r) (out : List AE.Frame) (glob : List AObj) : RdOk Tryz.prog pol true 60 [(sA s_), (.int .u8 c)] out glob (iA r) := by
 unfold strings_IndexByte at hF0
 refine rd_walk Tryz.func60 rfl (Nat.not_lt.2 (Nat.le_of_ble_eq_true rfl)) ?_
 intro ro
 refine sq <| rg <| L (iA 0) rfl rfl rfl <| nl <| sq <| rg <| L (sA s_) rfl rfl rfl <| L (.int .u8 c) rfl rfl rfl ?_
 obtain ⟨r4, h1, hF0⟩ := bind_some hF0
 refine WO_rd (g := 79) (args := [(sA s_), (.int .u8 c)]) (r := (iA r4)) _ _ rfl rfl rfl rfl rfl rfl rfl (ok_stringslite_IndexByte _ _ h1 _ _ ) <| L (iA r4) rfl rfl rfl <| nl <| rt ?_
 obtain rfl := Option.some.inj hF0
 exact rd_leaf (.inr rfl) rfl (retV_pl _ _ (iA r4)) rfl rfl

theorem ok_gateref2_only (s_ : Str) (some_ : Str) {r : (Bool)} (hF0 : gateref2_only s_ some_ = some r) (out : List AE.Frame) (glob : List AObj) : RdOk Tryz.prog pol true 44 [(sA s_), (sA some_)] out glob (bA r) := by
 unfold gateref2_only at hF0
 refine rd_walk Tryz.func44 rfl (Nat.not_lt.2 (Nat.le_of_ble_eq_true rfl)) ?_
 intro ro
 refine sq <| rg <| L (bA false) rfl rfl rfl <| nl <| sq <| sq <| rg <| L (sA s_) rfl rfl rfl <| L (iA (s_.length : Int)) rfl rfl rfl <| L (iA 0) rfl rfl rfl <| nl <| bk ?_
 obtain ⟨b1, hb5, hF0⟩ := bind_some hF0
 obtain ⟨hn5, hb5⟩ := ite_none hb5
 obtain ⟨J5, hJ5⟩ : ∃ J : St → Prop, ∀ st, J st ↔ (∃ (tm7 : Nat → AV) (cb7 : AE.Frame), st = ⟨tm7, ⟨cb7, out, glob⟩⟩ ∧ AllEq tm7 [] ∧ AllEq cb7 [] ∧ Res.out () = b1) := ⟨_, fun _ => Iff.rfl⟩
 obtain ⟨R5, hR5⟩ : ∃ R : Nat → (Unit) → St → Prop, ∀ i v st, R i v st ↔ (match v with | () => ∃ (tm6 : Nat → AV) (cb6 : AE.Frame), st = ⟨tm6, ⟨cb6, out, glob⟩⟩ ∧ AllEq tm6 [(0, (sA s_)), (1, (sA some_)), (7, (iA (s_.length : Int))), (8, (iA ((i : Nat) : Int)))] ∧ AllEq cb6 []) := ⟨_, fun _ _ _ => Iff.rfl⟩
 refine W_loopcut J5 (fun st hst => ?_) ?_
 · obtain ⟨tm7, cb7, rfl, hT7, hC7, rfl⟩ := (hJ5 st).1 hst
   obtain ⟨tm7, rfl⟩ := allEq hT7
   obtain ⟨cb7, rfl⟩ := allEq hC7
   replace hF0 := res_out hF0
   refine sq <| rg <| L (bA true) rfl rfl rfl <| nl <| rt ?_
   obtain rfl := Option.some.inj hF0
   exact rd_leaf (.inr rfl) rfl (retV_pl _ _ (bA true)) rfl rfl
 · refine W_rangeL hb5 R5 ((hR5 _ _ _).2 ⟨_, _, rfl, (And.intro rfl (And.intro rfl (And.intro rfl (And.intro rfl True.intro)))), True.intro⟩) ?_ ?_
   · intro i hi5 v st s hr hF1 hD1
     obtain ⟨⟩ := v
     obtain ⟨tm6, cb6, rfl, hT6, hC6⟩ := (hR5 _ _ _).1 hr
     obtain ⟨tm6, rfl⟩ := allEq hT6
     obtain ⟨cb6, rfl⟩ := allEq hC6
     dsimp only [gateref2_only_l0] at hF1
     refine sq (rg ?_)
     refine WO_do (y := (bA (decide (((i : Nat) : Int) < (s_.length : Int))))) _ rfl rfl rfl (nl ?_)
     refine sq <| cd true (congrArg some (rangeN_lt hi5)) (fun _ => ?_) (fun h => absurd h (by decide))
     refine sk <| sq <| bk <| sq <| rg <| L (iA ((i : Nat) : Int)) rfl rfl rfl <| L (iA ((i : Nat) : Int)) rfl rfl rfl <| nl <| sq <| rg <| L (sA some_) rfl rfl rfl <| L (sA s_) rfl rfl rfl <| L (iA ((i : Nat) : Int)) rfl rfl rfl ?_
     obtain ⟨r141, h_r141, hF1⟩ := bind_some hF1
     refine L (.int .u8 r141) rfl rfl (op_index rfl (ix_str rfl h_r141)) ?_
     obtain ⟨r151, h9, hF1⟩ := bind_some hF1
     refine WO_rd (g := 60) (args := [(sA some_), (.int .u8 r141)]) (r := (iA r151)) _ _ rfl rfl rfl rfl rfl rfl rfl (ok_strings_IndexByte _ _ h9 _ _ ) <| L (bA (decide (r151 < 0))) rfl rfl rfl <| nl <| cd (decide (r151 < 0)) rfl (fun hc10 => ?_) (fun hc10 => ?_)
     · replace hF1 := ite_t hF1 (dec_t hc10)
       refine sq <| rg <| L (bA false) rfl rfl rfl <| nl <| rt ?_
       obtain rfl := hD1 _ (Option.some.inj hF1).symm
       replace hF0 := res_ret hF0
       obtain rfl := Option.some.inj hF0
       exact rd_leaf (.inr rfl) rfl (retV_pl _ _ (bA false)) rfl rfl
     · replace hF1 := ite_f hF1 (dec_f hc10)
       exact sk <| rg <| WO_do (y := (iA ((i + 1 : Nat) : Int))) _ rfl rfl (congrArg (fun n => some (AV.int .i64 n, _)) (rangeN_len hi5 hn5)) <| WO_do (y := (iA ((i + 1 : Nat) : Int))) _ rfl rfl rfl <| nl <| Exists.intro _ (And.intro (Option.some.inj hF1).symm ((hR5 _ _ _).2 ⟨_, _, rfl, (And.intro rfl (And.intro rfl (And.intro rfl (And.intro rfl True.intro)))), True.intro⟩))
   · intro v st hr hD1
     obtain ⟨⟩ := v
     obtain ⟨tm6, cb6, rfl, hT6, hC6⟩ := (hR5 _ _ _).1 hr
     obtain ⟨tm6, rfl⟩ := allEq hT6
     obtain ⟨cb6, rfl⟩ := allEq hC6
     refine sq (rg ?_)
     refine WO_do (y := .bool false) _ rfl rfl (congrArg (fun b => some (AV.bool b, _)) (rangeN_ge _)) (nl ?_)
     refine sq <| cd false rfl (fun h => absurd h (by decide)) (fun _ => ?_)
     exact xt <| (hJ5 _).2 ⟨_, _, rfl, True.intro, True.intro, hD1⟩

theorem ok_gateref2_Key (s_ : Str) {r : (Bool)} (hF0 : gateref2_Key s_ = some r) (out : List AE.Frame) (glob : List AObj) : RdOk Tryz.prog pol true 23 [(sA s_)] out glob (bA r) := by
 unfold gateref2_Key at hF0
 refine rd_walk Tryz.func23 rfl (Nat.not_lt.2 (Nat.le_of_ble_eq_true rfl)) ?_
 intro ro
 refine sq <| rg <| L (bA false) rfl rfl rfl <| nl <| sq <| rg <| L (sA s_) rfl rfl rfl <| L (iA (s_.length : Int)) rfl rfl rfl ?_
 obtain ⟨r5, h1, hF0⟩ := bind_some hF0
 refine WO_rd (g := 43) (args := [(iA (s_.length : Int)), (iA 1), (iA 40)]) (r := (bA r5)) _ _ rfl rfl rfl rfl rfl rfl rfl (ok_gateref2_in _ _ _ h1 _ _ ) ?_
 obtain ⟨y3, hF1, hF0⟩ := bind_some hF0
 obtain ⟨J3, hJ3⟩ : ∃ J : St → Prop, ∀ st, J st ↔ (∃ (t10 : Bool) (tm4 : Nat → AV) (cb4 : AE.Frame), st = ⟨tm4, ⟨cb4, out, glob⟩⟩ ∧ AllEq tm4 [(0, (sA s_)), (10, (bA t10))] ∧ AllEq cb4 [] ∧ t10 = y3) := ⟨_, fun _ => Iff.rfl⟩
 refine WO_cut 5 J3 (fun st hst => ?_) ?_
 · obtain ⟨t10, tm4, cb4, rfl, hT4, hC4, rfl⟩ := (hJ3 st).1 hst
   obtain ⟨tm4, rfl⟩ := allEq hT4
   obtain ⟨cb4, rfl⟩ := allEq hC4
   obtain ⟨y6, hF1, hF0⟩ := bind_some hF0
   obtain ⟨J6, hJ6⟩ : ∃ J : St → Prop, ∀ st, J st ↔ (∃ (t14 : Bool) (tm7 : Nat → AV) (cb7 : AE.Frame), st = ⟨tm7, ⟨cb7, out, glob⟩⟩ ∧ AllEq tm7 [(14, (bA t14))] ∧ AllEq cb7 [] ∧ t14 = y6) := ⟨_, fun _ => Iff.rfl⟩
   refine WO_cut 4 J6 (fun st hst => ?_) ?_
   · obtain ⟨t14, tm7, cb7, rfl, hT7, hC7, rfl⟩ := (hJ6 st).1 hst
     obtain ⟨tm7, rfl⟩ := allEq hT7
     obtain ⟨cb7, rfl⟩ := allEq hC7
     refine L (bA t14) rfl rfl rfl <| nl <| rt ?_
     obtain rfl := Option.some.inj hF0
     exact rd_leaf (.inr rfl) rfl (retV_pl _ _ (bA t14)) rfl rfl
   · rcases bool_cases t10 with hc6 | hc6
     · replace hF1 := ite_t hF1 (hc6)
       refine L (.bool true) rfl rfl (congrArg (fun b => some (AV.bool b, _)) hc6) <| L (sA s_) rfl rfl rfl ?_
       obtain ⟨r131, h8, hF1⟩ := bind_some hF1
       exact WO_rd (g := 44) (args := [(sA s_), (sA [97, 98, 99, 100, 101, 102, 103, 104, 105, 106, 107, 108, 109, 110, 111, 112, 113, 114, 115, 116, 117, 118, 119, 120, 121, 122, 48, 49, 50, 51, 52, 53, 54, 55, 56, 57, 45, 95])]) (r := (bA r131)) _ _ rfl rfl rfl rfl rfl rfl rfl (ok_gateref2_only _ _ h8 _ _ ) <| L (bA r131) rfl rfl rfl <| nl ((hJ6 _).2 ⟨r131, _, _, rfl, (And.intro rfl True.intro), True.intro, Option.some.inj hF1⟩)
     · replace hF1 := ite_f hF1 (not_t hc6)
       exact L (.bool false) rfl rfl (congrArg (fun b => some (AV.bool b, _)) hc6) <| WO_no _ rfl rfl <| WO_no _ rfl rfl <| L (bA false) rfl rfl rfl <| nl ((hJ6 _).2 ⟨false, _, _, rfl, (And.intro rfl True.intro), True.intro, Option.some.inj hF1⟩)
 · rcases bool_cases r5 with hc3 | hc3
   · replace hF1 := ite_t hF1 (hc3)
     refine L (.bool true) rfl rfl (congrArg (fun b => some (AV.bool b, _)) hc3) <| L (sA s_) rfl rfl rfl ?_
     obtain ⟨r81, h_r81, hF1⟩ := bind_some hF1
     refine L (sA r81) rfl rfl (op_slice rfl (sl_str (a := 0) (b := 1) rfl rfl rfl h_r81)) ?_
     obtain ⟨r91, h9, hF1⟩ := bind_some hF1
     exact WO_rd (g := 44) (args := [(sA r81), (sA [97, 98, 99, 100, 101, 102, 103, 104, 105, 106, 107, 108, 109, 110, 111, 112, 113, 114, 115, 116, 117, 118, 119, 120, 121, 122])]) (r := (bA r91)) _ _ rfl rfl rfl rfl rfl rfl rfl (ok_gateref2_only _ _ h9 _ _ ) <| L (bA r91) rfl rfl rfl <| nl ((hJ3 _).2 ⟨r91, _, _, rfl, (And.intro rfl (And.intro rfl True.intro)), True.intro, Option.some.inj hF1⟩)
   · replace hF1 := ite_f hF1 (not_t hc3)
     exact L (.bool false) rfl rfl (congrArg (fun b => some (AV.bool b, _)) hc3) <| WO_no _ rfl rfl <| WO_no _ rfl rfl <| WO_no _ rfl rfl <| L (bA false) rfl rfl rfl <| nl ((hJ3 _).2 ⟨false, _, _, rfl, (And.intro rfl (And.intro rfl True.intro)), True.intro, Option.some.inj hF1⟩)

theorem ok_gateref1_in (n : Int) (low : Int) (high : Int) {r : (Bool)} (hF0 : gateref1_in n low high = some r) (out : List AE.Frame) (glob : List AObj) : RdOk Tryz.prog pol true 45 [(iA n), (iA low), (iA high)] out glob (bA r) := by
 unfold gateref1_in at hF0
 refine rd_walk Tryz.func45 rfl (Nat.not_lt.2 (Nat.le_of_ble_eq_true rfl)) ?_
 intro ro
 refine sq <| rg <| L (bA false) rfl rfl rfl <| nl <| sq <| rg <| L (iA low) rfl rfl rfl <| L (iA n) rfl rfl rfl <| L (bA (decide (low ≤ n))) rfl rfl rfl ?_
 obtain ⟨J1, hJ1⟩ : ∃ J : St → Prop, ∀ st, J st ↔ (∃ (tm2 : Nat → AV) (cb2 : AE.Frame), st = ⟨tm2, ⟨cb2, out, glob⟩⟩ ∧ AllEq tm2 [(14, (bA ((decide (low ≤ n)) && (decide (n ≤ high)))))] ∧ AllEq cb2 []) := ⟨_, fun _ => Iff.rfl⟩
 refine WO_cut 5 J1 (fun st hst => ?_) ?_
 · obtain ⟨tm2, cb2, rfl, hT2, hC2⟩ := (hJ1 st).1 hst
   obtain ⟨tm2, rfl⟩ := allEq hT2
   obtain ⟨cb2, rfl⟩ := allEq hC2
   refine L (bA ((decide (low ≤ n)) && (decide (n ≤ high)))) rfl rfl rfl <| nl <| rt ?_
   obtain rfl := Option.some.inj hF0
   exact rd_leaf (.inr rfl) rfl (retV_pl _ _ (bA ((decide (low ≤ n)) && (decide (n ≤ high))))) rfl rfl
 · rcases bool_cases (decide (low ≤ n)) with hc1 | hc1
   · exact L (.bool true) rfl rfl (congrArg (fun b => some (AV.bool b, _)) hc1) <| L (iA n) rfl rfl rfl <| L (iA high) rfl rfl rfl <| L (bA (decide (n ≤ high))) rfl rfl rfl <| L (bA ((decide (low ≤ n)) && (decide (n ≤ high)))) rfl rfl (congrArg (fun b => some (AV.bool b, _)) (by rw [hc1]; rfl)) <| nl ((hJ1 _).2 ⟨_, _, rfl, (And.intro rfl True.intro), True.intro⟩)
   · exact L (.bool false) rfl rfl (congrArg (fun b => some (AV.bool b, _)) hc1) <| WO_no _ rfl rfl <| WO_no _ rfl rfl <| WO_no _ rfl rfl <| L (bA ((decide (low ≤ n)) && (decide (n ≤ high)))) rfl rfl (congrArg (fun b => some (AV.bool b, _)) (by rw [hc1]; rfl)) <| nl ((hJ1 _).2 ⟨_, _, rfl, (And.intro rfl True.intro), True.intro⟩)

theorem ok_gateref1_LimitFault (l : api_Limit) {r : (Int)} (hF0 : gateref1_LimitFault l = some r) (out : List AE.Frame) (glob : List AObj) : RdOk Tryz.prog pol true 24 [(.agg (c_api_Limit l))] out glob (iA r) := by
 unfold gateref1_LimitFault at hF0
 refine rd_walk Tryz.func24 rfl (Nat.not_lt.2 (Nat.le_of_ble_eq_true rfl)) ?_
 intro ro
 refine sq <| rg <| L (.ptr (.fr 0 1) 1 0) (h' := ⟨upd _ 1 ⟨1, .cells (c_api_Limit l)⟩, _, _⟩) rfl rfl (op_box (x' := (.agg (c_api_Limit l))) rfl rfl rfl rfl) <| L (iA 0) rfl rfl rfl <| nl <| sq <| dw (by kernel_rfl) <| L (.ptr (.fr 0 1) 1 1) rfl rfl rfl <| L (iA l.Kind) rfl rfl (op_load rfl (ld_con (iA l.Kind) rfl rfl (cs := (c_api_Limit l)) (con_fr rfl) rfl)) <| L (bA (l.Kind == 4)) rfl rfl rfl <| L (.ptr (.fr 0 1) 1 1) rfl rfl rfl <| L (iA l.Kind) rfl rfl (op_load rfl (ld_con (iA l.Kind) rfl rfl (cs := (c_api_Limit l)) (con_fr rfl) rfl)) <| L (bA (l.Kind == 3)) rfl rfl rfl <| L (bA (l.Kind == 4)) rfl rfl rfl <| L (bA (l.Kind == 3)) rfl rfl rfl <| nl <| sq <| bk <| sq <| rg <| L (.ptr (.fr 0 1) 1 0) rfl rfl rfl <| L (sA l.Key) rfl rfl (op_load rfl (ld_con (sA l.Key) rfl rfl (cs := (c_api_Limit l)) (con_fr rfl) rfl)) ?_
 obtain ⟨r14, h1, hF0⟩ := bind_some hF0
 refine WO_rd (g := 23) (args := [(sA l.Key)]) (r := (bA r14)) _ _ rfl rfl rfl rfl rfl rfl rfl (ok_gateref2_Key _ h1 _ _ ) <| L (bA (!r14)) rfl rfl rfl <| L (bA (!r14)) rfl rfl rfl <| nl <| cd (!r14) rfl (fun hc32 => ?_) (fun hc32 => ?_)
 · replace hF0 := ite_t hF0 (hc32)
   refine sq <| rg <| L (iA 5) rfl rfl rfl <| nl <| rt ?_
   obtain rfl := Option.some.inj hF0
   exact rd_leaf (.inr rfl) rfl (retV_pl _ _ (iA 5)) rfl rfl
 · replace hF0 := ite_f hF0 (not_t hc32)
   refine sq <| rg <| L (.ptr (.fr 0 1) 1 1) rfl rfl rfl <| L (iA l.Kind) rfl rfl (op_load rfl (ld_con (iA l.Kind) rfl rfl (cs := (c_api_Limit l)) (con_fr rfl) rfl)) ?_
   obtain ⟨r19, h2, hF0⟩ := bind_some hF0
   refine WO_rd (g := 45) (args := [(iA l.Kind), (iA 1), (iA 4)]) (r := (bA r19)) _ _ rfl rfl rfl rfl rfl rfl rfl (ok_gateref1_in _ _ _ h2 _ _ ) <| L (bA (!r19)) rfl rfl rfl <| L (bA (!r19)) rfl rfl rfl <| nl <| cd (!r19) rfl (fun hc31 => ?_) (fun hc31 => ?_)
   · replace hF0 := ite_t hF0 (hc31)
     refine sq <| rg <| L (iA 4) rfl rfl rfl <| nl <| rt ?_
     obtain rfl := Option.some.inj hF0
     exact rd_leaf (.inr rfl) rfl (retV_pl _ _ (iA 4)) rfl rfl
   · replace hF0 := ite_f hF0 (not_t hc31)
     refine sq <| rg <| L (.ptr (.fr 0 1) 1 2) rfl rfl rfl <| L (iA l.Most) rfl rfl (op_load rfl (ld_con (iA l.Most) rfl rfl (cs := (c_api_Limit l)) (con_fr rfl) rfl)) ?_
     obtain ⟨r24, h3, hF0⟩ := bind_some hF0
     refine WO_rd (g := 45) (args := [(iA l.Most), (iA 1), (iA 1000000000)]) (r := (bA r24)) _ _ rfl rfl rfl rfl rfl rfl rfl (ok_gateref1_in _ _ _ h3 _ _ ) <| L (bA (!r24)) rfl rfl rfl <| L (bA (!r24)) rfl rfl rfl <| nl <| cd (!r24) rfl (fun hc30 => ?_) (fun hc30 => ?_)
     · replace hF0 := ite_t hF0 (hc30)
       refine sq <| rg <| L (iA 1) rfl rfl rfl <| nl <| rt ?_
       obtain rfl := Option.some.inj hF0
       exact rd_leaf (.inr rfl) rfl (retV_pl _ _ (iA 1)) rfl rfl
     · replace hF0 := ite_f hF0 (not_t hc30)
       refine sq <| rg <| L (bA (l.Kind == 4)) rfl rfl rfl ?_
       obtain ⟨J4, hJ4⟩ : ∃ J : St → Prop, ∀ st, J st ↔ (∃ (tm5 : Nat → AV) (cb5 : AE.Frame), st = ⟨tm5, ⟨cb5, out, glob⟩⟩ ∧ AllEq tm5 [(1, (.ptr (.fr 0 1) 1 0)), (3, (bA (l.Kind == 4))), (4, (bA (l.Kind == 3))), (32, (bA ((l.Kind == 4) && (l.Per != 0))))] ∧ AllEq cb5 [(1, ⟨1, .cells (c_api_Limit l)⟩)]) := ⟨_, fun _ => Iff.rfl⟩
       refine WO_cut 5 J4 (fun st hst => ?_) ?_
       · obtain ⟨tm5, cb5, rfl, hT5, hC5⟩ := (hJ4 st).1 hst
         obtain ⟨tm5, rfl⟩ := allEq hT5
         obtain ⟨cb5, rfl⟩ := allEq hC5
         obtain ⟨y10, hF1, hF0⟩ := bind_some hF0
         obtain ⟨J10, hJ10⟩ : ∃ J : St → Prop, ∀ st, J st ↔ (∃ (t42 : Bool) (tm11 : Nat → AV) (cb11 : AE.Frame), st = ⟨tm11, ⟨cb11, out, glob⟩⟩ ∧ AllEq tm11 [(1, (.ptr (.fr 0 1) 1 0)), (4, (bA (l.Kind == 3))), (42, (bA t42))] ∧ AllEq cb11 [(1, ⟨1, .cells (c_api_Limit l)⟩)] ∧ t42 = y10) := ⟨_, fun _ => Iff.rfl⟩
         refine WO_cut 10 J10 (fun st hst => ?_) ?_
         · obtain ⟨t42, tm11, cb11, rfl, hT11, hC11, rfl⟩ := (hJ10 st).1 hst
           obtain ⟨tm11, rfl⟩ := allEq hT11
           obtain ⟨cb11, rfl⟩ := allEq hC11
           refine L (bA t42) rfl rfl rfl <| nl <| cd t42 rfl (fun hc25 => ?_) (fun hc25 => ?_)
           · replace hF0 := ite_t hF0 (hc25)
             refine sq <| rg <| L (iA 1) rfl rfl rfl <| nl <| rt ?_
             obtain rfl := Option.some.inj hF0
             exact rd_leaf (.inr rfl) rfl (retV_pl _ _ (iA 1)) rfl rfl
           · replace hF0 := ite_f hF0 (not_t hc25)
             refine sq <| rg <| L (bA (l.Kind == 3)) rfl rfl rfl <| L (bA (!(l.Kind == 3))) rfl rfl rfl ?_
             obtain ⟨J12, hJ12⟩ : ∃ J : St → Prop, ∀ st, J st ↔ (∃ (tm13 : Nat → AV) (cb13 : AE.Frame), st = ⟨tm13, ⟨cb13, out, glob⟩⟩ ∧ AllEq tm13 [(1, (.ptr (.fr 0 1) 1 0)), (4, (bA (l.Kind == 3))), (50, (bA ((!(l.Kind == 3)) && (l.Burst != 0))))] ∧ AllEq cb13 [(1, ⟨1, .cells (c_api_Limit l)⟩)]) := ⟨_, fun _ => Iff.rfl⟩
             refine WO_cut 5 J12 (fun st hst => ?_) ?_
             · obtain ⟨tm13, cb13, rfl, hT13, hC13⟩ := (hJ12 st).1 hst
               obtain ⟨tm13, rfl⟩ := allEq hT13
               obtain ⟨cb13, rfl⟩ := allEq hC13
               obtain ⟨y18, hF1, hF0⟩ := bind_some hF0
               obtain ⟨J18, hJ18⟩ : ∃ J : St → Prop, ∀ st, J st ↔ (∃ (t59 : Bool) (tm19 : Nat → AV) (cb19 : AE.Frame), st = ⟨tm19, ⟨cb19, out, glob⟩⟩ ∧ AllEq tm19 [(59, (bA t59))] ∧ AllEq cb19 [] ∧ t59 = y18) := ⟨_, fun _ => Iff.rfl⟩
               refine WO_cut 9 J18 (fun st hst => ?_) ?_
               · obtain ⟨t59, tm19, cb19, rfl, hT19, hC19, rfl⟩ := (hJ18 st).1 hst
                 obtain ⟨tm19, rfl⟩ := allEq hT19
                 obtain ⟨cb19, rfl⟩ := allEq hC19
                 refine L (bA t59) rfl rfl rfl <| nl <| cd t59 rfl (fun hc20 => ?_) (fun hc20 => ?_)
                 · replace hF0 := ite_t hF0 (hc20)
                   refine sq <| rg <| L (iA 1) rfl rfl rfl <| nl <| rt ?_
                   obtain rfl := Option.some.inj hF0
                   exact rd_leaf (.inr rfl) rfl (retV_pl _ _ (iA 1)) rfl rfl
                 · replace hF0 := ite_f hF0 (not_t hc20)
                   refine sk <| sq <| rg <| L (iA 0) rfl rfl rfl <| nl <| rt ?_
                   obtain rfl := Option.some.inj hF0
                   exact rd_leaf (.inr rfl) rfl (retV_pl _ _ (iA 0)) rfl rfl
               · rcases bool_cases ((!(l.Kind == 3)) && (l.Burst != 0)) with hc18 | hc18
                 · replace hF1 := ite_t hF1 (hc18)
                   exact L (.bool true) rfl rfl (congrArg (fun b => some (AV.bool b, _)) hc18) <| WO_no _ rfl rfl <| WO_no _ rfl rfl <| WO_no _ rfl rfl <| WO_no _ rfl rfl <| WO_no _ rfl rfl <| WO_no _ rfl rfl <| WO_no _ rfl rfl <| L (bA true) rfl rfl rfl <| nl ((hJ18 _).2 ⟨true, _, _, rfl, (And.intro rfl True.intro), True.intro, Option.some.inj hF1⟩)
                 · replace hF1 := ite_f hF1 (not_t hc18)
                   refine L (.bool false) rfl rfl (congrArg (fun b => some (AV.bool b, _)) hc18) <| L (bA (l.Kind == 3)) rfl rfl rfl ?_
                   obtain ⟨y22, hF2, hF1⟩ := bind_some hF1
                   obtain ⟨J22, hJ22⟩ : ∃ J : St → Prop, ∀ st, J st ↔ (∃ (t581 : Bool) (tm23 : Nat → AV) (cb23 : AE.Frame), st = ⟨tm23, ⟨cb23, out, glob⟩⟩ ∧ AllEq tm23 [(51, (bA false)), (58, (bA t581))] ∧ AllEq cb23 [] ∧ t581 = y22) := ⟨_, fun _ => Iff.rfl⟩
                   refine WO_cut 6 J22 (fun st hst => ?_) ?_
                   · obtain ⟨t581, tm23, cb23, rfl, hT23, hC23, rfl⟩ := (hJ22 st).1 hst
                     obtain ⟨tm23, rfl⟩ := allEq hT23
                     obtain ⟨cb23, rfl⟩ := allEq hC23
                     exact L (bA t581) rfl rfl rfl <| nl ((hJ18 _).2 ⟨t581, _, _, rfl, (And.intro rfl True.intro), True.intro, Option.some.inj hF1⟩)
                   · rcases bool_cases (l.Kind == 3) with hc22 | hc22
                     · replace hF2 := ite_t hF2 (beq_t hc22)
                       refine L (.bool true) rfl rfl (congrArg (fun b => some (AV.bool b, _)) hc22) <| L (.ptr (.fr 0 1) 1 4) rfl rfl rfl <| L (iA l.Burst) rfl rfl (op_load rfl (ld_con (iA l.Burst) rfl rfl (cs := (c_api_Limit l)) (con_fr rfl) rfl)) ?_
                       obtain ⟨r563, h24, hF2⟩ := bind_some hF2
                       exact WO_rd (g := 45) (args := [(iA l.Burst), (iA 1), (iA 1000000000)]) (r := (bA r563)) _ _ rfl rfl rfl rfl rfl rfl rfl (ok_gateref1_in _ _ _ h24 _ _ ) <| L (bA (!r563)) rfl rfl rfl <| L (bA (!r563)) rfl rfl rfl <| nl ((hJ22 _).2 ⟨!r563, _, _, rfl, (And.intro rfl (And.intro rfl True.intro)), True.intro, Option.some.inj hF2⟩)
                     · replace hF2 := ite_f hF2 (beq_f hc22)
                       exact L (.bool false) rfl rfl (congrArg (fun b => some (AV.bool b, _)) hc22) <| WO_no _ rfl rfl <| WO_no _ rfl rfl <| WO_no _ rfl rfl <| WO_no _ rfl rfl <| L (bA false) rfl rfl rfl <| nl ((hJ22 _).2 ⟨false, _, _, rfl, (And.intro rfl (And.intro rfl True.intro)), True.intro, Option.some.inj hF2⟩)
             · rcases bool_cases (!(l.Kind == 3)) with hc12 | hc12
               · exact L (.bool true) rfl rfl (congrArg (fun b => some (AV.bool b, _)) hc12) <| L (.ptr (.fr 0 1) 1 4) rfl rfl rfl <| L (iA l.Burst) rfl rfl (op_load rfl (ld_con (iA l.Burst) rfl rfl (cs := (c_api_Limit l)) (con_fr rfl) rfl)) <| L (bA (l.Burst != 0)) rfl rfl rfl <| L (bA ((!(l.Kind == 3)) && (l.Burst != 0))) rfl rfl (congrArg (fun b => some (AV.bool b, _)) (by rw [hc12]; rfl)) <| nl ((hJ12 _).2 ⟨_, _, rfl, (And.intro rfl (And.intro rfl (And.intro rfl True.intro))), (And.intro rfl True.intro)⟩)
               · exact L (.bool false) rfl rfl (congrArg (fun b => some (AV.bool b, _)) hc12) <| WO_no _ rfl rfl <| WO_no _ rfl rfl <| WO_no _ rfl rfl <| L (bA ((!(l.Kind == 3)) && (l.Burst != 0))) rfl rfl (congrArg (fun b => some (AV.bool b, _)) (by rw [hc12]; rfl)) <| nl ((hJ12 _).2 ⟨_, _, rfl, (And.intro rfl (And.intro rfl (And.intro rfl True.intro))), (And.intro rfl True.intro)⟩)
         · rcases bool_cases ((l.Kind == 4) && (l.Per != 0)) with hc10 | hc10
           · replace hF1 := ite_t hF1 (hc10)
             exact L (.bool true) rfl rfl (congrArg (fun b => some (AV.bool b, _)) hc10) <| WO_no _ rfl rfl <| WO_no _ rfl rfl <| WO_no _ rfl rfl <| WO_no _ rfl rfl <| WO_no _ rfl rfl <| WO_no _ rfl rfl <| WO_no _ rfl rfl <| WO_no _ rfl rfl <| L (bA true) rfl rfl rfl <| nl ((hJ10 _).2 ⟨true, _, _, rfl, (And.intro rfl (And.intro rfl (And.intro rfl True.intro))), (And.intro rfl True.intro), Option.some.inj hF1⟩)
           · replace hF1 := ite_f hF1 (not_t hc10)
             refine L (.bool false) rfl rfl (congrArg (fun b => some (AV.bool b, _)) hc10) <| L (bA (l.Kind == 4)) rfl rfl rfl <| L (bA (!(l.Kind == 4))) rfl rfl rfl ?_
             obtain ⟨y27, hF2, hF1⟩ := bind_some hF1
             obtain ⟨J27, hJ27⟩ : ∃ J : St → Prop, ∀ st, J st ↔ (∃ (t411 : Bool) (tm28 : Nat → AV) (cb28 : AE.Frame), st = ⟨tm28, ⟨cb28, out, glob⟩⟩ ∧ AllEq tm28 [(1, (.ptr (.fr 0 1) 1 0)), (4, (bA (l.Kind == 3))), (33, (bA false)), (41, (bA t411))] ∧ AllEq cb28 [(1, ⟨1, .cells (c_api_Limit l)⟩)] ∧ t411 = y27) := ⟨_, fun _ => Iff.rfl⟩
             refine WO_cut 6 J27 (fun st hst => ?_) ?_
             · obtain ⟨t411, tm28, cb28, rfl, hT28, hC28, rfl⟩ := (hJ27 st).1 hst
               obtain ⟨tm28, rfl⟩ := allEq hT28
               obtain ⟨cb28, rfl⟩ := allEq hC28
               exact L (bA t411) rfl rfl rfl <| nl ((hJ10 _).2 ⟨t411, _, _, rfl, (And.intro rfl (And.intro rfl (And.intro rfl True.intro))), (And.intro rfl True.intro), Option.some.inj hF1⟩)
             · rcases bool_cases (!(l.Kind == 4)) with hc27 | hc27
               · replace hF2 := ite_t hF2 (hc27)
                 refine L (.bool true) rfl rfl (congrArg (fun b => some (AV.bool b, _)) hc27) <| L (.ptr (.fr 0 1) 1 3) rfl rfl rfl <| L (iA l.Per) rfl rfl (op_load rfl (ld_con (iA l.Per) rfl rfl (cs := (c_api_Limit l)) (con_fr rfl) rfl)) ?_
                 obtain ⟨r393, h29, hF2⟩ := bind_some hF2
                 exact WO_rd (g := 45) (args := [(iA l.Per), (iA 1), (iA 8640000000)]) (r := (bA r393)) _ _ rfl rfl rfl rfl rfl rfl rfl (ok_gateref1_in _ _ _ h29 _ _ ) <| L (bA (!r393)) rfl rfl rfl <| L (bA (!r393)) rfl rfl rfl <| nl ((hJ27 _).2 ⟨!r393, _, _, rfl, (And.intro rfl (And.intro rfl (And.intro rfl (And.intro rfl True.intro)))), (And.intro rfl True.intro), Option.some.inj hF2⟩)
               · replace hF2 := ite_f hF2 (not_t hc27)
                 exact L (.bool false) rfl rfl (congrArg (fun b => some (AV.bool b, _)) hc27) <| WO_no _ rfl rfl <| WO_no _ rfl rfl <| WO_no _ rfl rfl <| WO_no _ rfl rfl <| L (bA false) rfl rfl rfl <| nl ((hJ27 _).2 ⟨false, _, _, rfl, (And.intro rfl (And.intro rfl (And.intro rfl (And.intro rfl True.intro)))), (And.intro rfl True.intro), Option.some.inj hF2⟩)
       · rcases bool_cases (l.Kind == 4) with hc4 | hc4
         · exact L (.bool true) rfl rfl (congrArg (fun b => some (AV.bool b, _)) hc4) <| L (.ptr (.fr 0 1) 1 3) rfl rfl rfl <| L (iA l.Per) rfl rfl (op_load rfl (ld_con (iA l.Per) rfl rfl (cs := (c_api_Limit l)) (con_fr rfl) rfl)) <| L (bA (l.Per != 0)) rfl rfl rfl <| L (bA ((l.Kind == 4) && (l.Per != 0))) rfl rfl (congrArg (fun b => some (AV.bool b, _)) (by rw [hc4]; rfl)) <| nl ((hJ4 _).2 ⟨_, _, rfl, (And.intro rfl (And.intro rfl (And.intro rfl (And.intro rfl True.intro)))), (And.intro rfl True.intro)⟩)
         · exact L (.bool false) rfl rfl (congrArg (fun b => some (AV.bool b, _)) hc4) <| WO_no _ rfl rfl <| WO_no _ rfl rfl <| WO_no _ rfl rfl <| L (bA ((l.Kind == 4) && (l.Per != 0))) rfl rfl (congrArg (fun b => some (AV.bool b, _)) (by rw [hc4]; rfl)) <| nl ((hJ4 _).2 ⟨_, _, rfl, (And.intro rfl (And.intro rfl (And.intro rfl (And.intro rfl True.intro)))), (And.intro rfl True.intro)⟩)

theorem ok_gateref1_LimitsFault (l : (Sl api_Limit)) {r : (Int)} (hF0 : gateref1_LimitsFault l = some r) (out : List AE.Frame) (glob : List AObj) : RdOk Tryz.prog pol true 6 [(Sl.av 5 c_api_Limit l)] out glob (iA r) := by
 unfold gateref1_LimitsFault at hF0
 refine rd_walk Tryz.func6 rfl (Nat.not_lt.2 (Nat.le_of_ble_eq_true rfl)) ?_
 intro ro
 refine sq <| rg <| L (iA 0) rfl rfl rfl <| nl <| sq <| sq <| rg <| L (Sl.av 5 c_api_Limit l) rfl rfl rfl <| L (iA (l.list.length : Int)) rfl rfl (op_len rfl rfl rfl rfl rfl (len_sl _)) <| L (bA (decide ((l.list.length : Int) > 20))) rfl rfl rfl <| nl <| cd (decide ((l.list.length : Int) > 20)) rfl (fun hc21 => ?_) (fun hc21 => ?_)
 · replace hF0 := ite_t hF0 (dec_t hc21)
   refine sq <| rg <| L (iA 2) rfl rfl rfl <| nl <| rt ?_
   obtain rfl := Option.some.inj hF0
   exact rd_leaf (.inr rfl) rfl (retV_pl _ _ (iA 2)) rfl rfl
 · replace hF0 := ite_f hF0 (dec_f hc21)
   refine sk <| sq <| sq <| rg <| L (Sl.av 5 c_api_Limit l) rfl rfl rfl <| L (iA (l.list.length : Int)) rfl rfl (op_len rfl rfl rfl rfl rfl (len_sl _)) <| L (iA 0) rfl rfl rfl <| nl <| bk ?_
   obtain ⟨b1, hb10, hF0⟩ := bind_some hF0
   obtain ⟨hn10, hb10⟩ := ite_none hb10
   obtain ⟨J10, hJ10⟩ : ∃ J : St → Prop, ∀ st, J st ↔ (∃ (tm12 : Nat → AV) (cb12 : AE.Frame), st = ⟨tm12, ⟨cb12, out, glob⟩⟩ ∧ AllEq tm12 [] ∧ AllEq cb12 [] ∧ Res.out () = b1) := ⟨_, fun _ => Iff.rfl⟩
   obtain ⟨R10, hR10⟩ : ∃ R : Nat → (Unit) → St → Prop, ∀ i v st, R i v st ↔ (match v with | () => ∃ (tm11 : Nat → AV) (cb11 : AE.Frame), st = ⟨tm11, ⟨cb11, out, glob⟩⟩ ∧ AllEq tm11 [(0, (Sl.av 5 c_api_Limit l)), (9, (Sl.av 5 c_api_Limit l)), (10, (iA (l.list.length : Int))), (11, (iA ((i : Nat) : Int)))] ∧ AllEq cb11 []) := ⟨_, fun _ _ _ => Iff.rfl⟩
   refine W_loopcut J10 (fun st hst => ?_) ?_
   · obtain ⟨tm12, cb12, rfl, hT12, hC12, rfl⟩ := (hJ10 st).1 hst
     obtain ⟨tm12, rfl⟩ := allEq hT12
     obtain ⟨cb12, rfl⟩ := allEq hC12
     replace hF0 := res_out hF0
     refine sq <| rg <| L (iA 0) rfl rfl rfl <| nl <| rt ?_
     obtain rfl := Option.some.inj hF0
     exact rd_leaf (.inr rfl) rfl (retV_pl _ _ (iA 0)) rfl rfl
   · refine W_rangeL hb10 R10 ((hR10 _ _ _).2 ⟨_, _, rfl, (And.intro rfl (And.intro rfl (And.intro rfl (And.intro rfl True.intro)))), True.intro⟩) ?_ ?_
     · intro i hi10 v st s hr hF1 hD1
       obtain ⟨⟩ := v
       obtain ⟨tm11, cb11, rfl, hT11, hC11⟩ := (hR10 _ _ _).1 hr
       obtain ⟨tm11, rfl⟩ := allEq hT11
       obtain ⟨cb11, rfl⟩ := allEq hC11
       obtain ⟨x3, hx10⟩ : ∃ x, x = l.list[i] := ⟨_, rfl⟩
       rw [← hx10] at hF1
       dsimp only [gateref1_LimitsFault_l0] at hF1
       refine sq (rg ?_)
       refine WO_do (y := (bA (decide (((i : Nat) : Int) < (l.list.length : Int))))) _ rfl rfl rfl (nl ?_)
       refine sq <| cd true (congrArg some (range_lt hi10)) (fun _ => ?_) (fun h => absurd h (by decide))
       refine sk <| sq <| bk <| sq <| rg <| L (iA ((i : Nat) : Int)) rfl rfl rfl <| L (.cptr (c_api_Limit x3)) rfl rfl (op_ix rfl ((ix_at (c := c_api_Limit) rfl rfl hi10).trans (congrArg (fun x => some (AV.cptr (c_api_Limit x))) hx10.symm))) <| L (.agg (c_api_Limit x3)) rfl rfl rfl <| L (.ptr (.fr 0 4) ((cb11 4).ver + 1) 0) (h' := ⟨upd _ 4 ⟨(cb11 4).ver + 1, .cells (c_api_Limit (api_Limit.mk [] 0 0 0 0))⟩, _, _⟩) rfl rfl (op_alloc (c_api_Limit (api_Limit.mk [] 0 0 0 0)) rfl rfl rfl rfl) <| L (iA ((i : Nat) : Int)) rfl rfl rfl <| L (.tup []) (h' := ⟨upd _ 4 ⟨(cb11 4).ver + 1, .cells (c_api_Limit x3)⟩, _, _⟩) rfl rfl (op_store rfl rfl (st_fr (x := (.agg (c_api_Limit x3))) (cs := (c_api_Limit (api_Limit.mk [] 0 0 0 0))) (c_api_Limit x3) rfl rfl (Nat.le_of_ble_eq_true rfl) rfl)) <| nl <| sq <| sq <| rg <| L (.ptr (.fr 0 4) ((cb11 4).ver + 1) 0) rfl rfl rfl <| L (sA x3.Key) rfl rfl (op_load rfl (ld_con (sA x3.Key) rfl rfl (cs := (c_api_Limit x3)) (con_fr rfl) rfl)) ?_
       obtain ⟨r181, h14, hF1⟩ := bind_some hF1
       refine WO_rd (g := 23) (args := [(sA x3.Key)]) (r := (bA r181)) _ _ rfl rfl rfl rfl rfl rfl rfl (ok_gateref2_Key _ h14 _ _ ) <| L (bA (!r181)) rfl rfl rfl <| nl <| cd (!r181) rfl (fun hc20 => ?_) (fun hc20 => ?_)
       · replace hF1 := ite_t hF1 (hc20)
         refine sq <| rg <| L (iA 5) rfl rfl rfl <| nl <| rt ?_
         obtain rfl := hD1 _ (Option.some.inj hF1).symm
         replace hF0 := res_ret hF0
         obtain rfl := Option.some.inj hF0
         exact rd_leaf (.inr rfl) rfl (retV_pl _ _ (iA 5)) rfl rfl
       · replace hF1 := ite_f hF1 (not_t hc20)
         refine sk <| sq <| sq <| dw (by kernel_rfl) <| L (iA ((i : Nat) : Int)) rfl rfl rfl <| L (bA (decide (((i : Nat) : Int) > 0))) rfl rfl rfl ?_
         obtain ⟨y15, hF2, hF1⟩ := bind_some hF1
         obtain ⟨J15, hJ15⟩ : ∃ J : St → Prop, ∀ st, J st ↔ (∃ (t321 : Bool) (tm16 : Nat → AV) (cb16 : AE.Frame), st = ⟨tm16, ⟨cb16, out, glob⟩⟩ ∧ AllEq tm16 [(0, (Sl.av 5 c_api_Limit l)), (4, (.ptr (.fr 0 4) ((cb11 4).ver + 1) 0)), (9, (Sl.av 5 c_api_Limit l)), (10, (iA (l.list.length : Int))), (11, (iA ((i : Nat) : Int))), (32, (bA t321))] ∧ AllEq cb16 [(4, ⟨(cb11 4).ver + 1, .cells (c_api_Limit x3)⟩)] ∧ t321 = y15) := ⟨_, fun _ => Iff.rfl⟩
         refine WO_cut 11 J15 (fun st hst => ?_) ?_
         · obtain ⟨t321, tm16, cb16, rfl, hT16, hC16, rfl⟩ := (hJ15 st).1 hst
           obtain ⟨tm16, rfl⟩ := allEq hT16
           obtain ⟨cb16, rfl⟩ := allEq hC16
           refine nl <| cd t321 rfl (fun hc19 => ?_) (fun hc19 => ?_)
           · replace hF1 := ite_t hF1 (hc19)
             refine sq <| rg <| L (iA 7) rfl rfl rfl <| nl <| rt ?_
             obtain rfl := hD1 _ (Option.some.inj hF1).symm
             replace hF0 := res_ret hF0
             obtain rfl := Option.some.inj hF0
             exact rd_leaf (.inr rfl) rfl (retV_pl _ _ (iA 7)) rfl rfl
           · replace hF1 := ite_f hF1 (not_t hc19)
             refine sk <| sq <| rg <| L (.agg (c_api_Limit x3)) rfl rfl (op_load rfl (ld_con (.agg (c_api_Limit x3)) rfl rfl (cs := (c_api_Limit x3)) (con_fr rfl) rfl)) ?_
             obtain ⟨f1, h17, hF1⟩ := bind_some hF1
             refine WO_rd (g := 24) (args := [(.agg (c_api_Limit x3))]) (r := (iA f1)) _ _ rfl rfl rfl rfl rfl rfl rfl (ok_gateref1_LimitFault _ h17 _ _ ) <| L (iA f1) rfl rfl rfl <| nl <| sq <| rg <| L (iA f1) rfl rfl rfl <| L (bA (f1 != 0)) rfl rfl rfl <| nl <| cd (f1 != 0) rfl (fun hc18 => ?_) (fun hc18 => ?_)
             · replace hF1 := ite_t hF1 (bne_t hc18)
               refine sq <| rg <| L (iA f1) rfl rfl rfl <| L (iA f1) rfl rfl rfl <| nl <| rt ?_
               obtain rfl := hD1 _ (Option.some.inj hF1).symm
               replace hF0 := res_ret hF0
               obtain rfl := Option.some.inj hF0
               exact rd_leaf (.inr rfl) rfl (retV_pl _ _ (iA f1)) rfl rfl
             · replace hF1 := ite_f hF1 (bne_f hc18)
               exact sk <| rg <| WO_do (y := (iA ((i + 1 : Nat) : Int))) _ rfl rfl (congrArg (fun n => some (AV.int .i64 n, _)) (range_len hi10 hn10)) <| WO_do (y := (iA ((i + 1 : Nat) : Int))) _ rfl rfl rfl <| nl <| Exists.intro _ (And.intro (Option.some.inj hF1).symm ((hR10 _ _ _).2 ⟨_, _, rfl, (And.intro rfl (And.intro rfl (And.intro rfl (And.intro rfl True.intro)))), True.intro⟩))
         · rcases bool_cases (decide (((i : Nat) : Int) > 0)) with hc15 | hc15
           · replace hF2 := ite_t hF2 (dec_t hc15)
             refine L (.bool true) rfl rfl (congrArg (fun b => some (AV.bool b, _)) hc15) <| L (.ptr (.fr 0 4) ((cb11 4).ver + 1) 0) rfl rfl rfl <| L (sA x3.Key) rfl rfl (op_load rfl (ld_con (sA x3.Key) rfl rfl (cs := (c_api_Limit x3)) (con_fr rfl) rfl)) <| L (Sl.av 5 c_api_Limit l) rfl rfl rfl <| L (iA ((i : Nat) : Int)) rfl rfl rfl <| L (iA (w64 (((i : Nat) : Int) - 1))) rfl rfl rfl ?_
             obtain ⟨x5, h_x5, hF2⟩ := bind_some hF2
             exact L (.cptr (c_api_Limit x5)) rfl rfl (op_ix rfl (ix_sl (c := c_api_Limit) rfl rfl h_x5)) <| L (.cptr ((c_api_Limit x5).drop 0)) rfl rfl rfl <| L (sA x5.Key) rfl rfl rfl <| L (bA (sle x3.Key x5.Key)) rfl rfl (op_bin rfl bin_sle) <| L (bA (sle x3.Key x5.Key)) rfl rfl rfl <| nl ((hJ15 _).2 ⟨sle x3.Key x5.Key, _, _, rfl, (And.intro rfl (And.intro rfl (And.intro rfl (And.intro rfl (And.intro rfl (And.intro rfl True.intro)))))), (And.intro rfl True.intro), Option.some.inj hF2⟩)
           · replace hF2 := ite_f hF2 (dec_f hc15)
             exact L (.bool false) rfl rfl (congrArg (fun b => some (AV.bool b, _)) hc15) <| WO_no _ rfl rfl <| WO_no _ rfl rfl <| WO_no _ rfl rfl <| WO_no _ rfl rfl <| WO_no _ rfl rfl <| WO_no _ rfl rfl <| WO_no _ rfl rfl <| WO_no _ rfl rfl <| WO_no _ rfl rfl <| L (bA false) rfl rfl rfl <| nl ((hJ15 _).2 ⟨false, _, _, rfl, (And.intro rfl (And.intro rfl (And.intro rfl (And.intro rfl (And.intro rfl (And.intro rfl True.intro)))))), (And.intro rfl True.intro), Option.some.inj hF2⟩)
     · intro v st hr hD1
       obtain ⟨⟩ := v
       obtain ⟨tm11, cb11, rfl, hT11, hC11⟩ := (hR10 _ _ _).1 hr
       obtain ⟨tm11, rfl⟩ := allEq hT11
       obtain ⟨cb11, rfl⟩ := allEq hC11
       refine sq (rg ?_)
       refine WO_do (y := .bool false) _ rfl rfl (congrArg (fun b => some (AV.bool b, _)) (range_ge _)) (nl ?_)
       refine sq <| cd false rfl (fun h => absurd h (by decide)) (fun _ => ?_)
       exact xt <| (hJ10 _).2 ⟨_, _, rfl, True.intro, True.intro, hD1⟩

theorem ok_gateref1_KindWord (kind : Int) {r : (Str)} (hF0 : gateref1_KindWord kind = some r) (out : List AE.Frame) (glob : List AObj) : RdOk Tryz.prog pol true 26 [(iA kind)] out glob (sA r) := by
 unfold gateref1_KindWord at hF0
 refine rd_walk Tryz.func26 rfl (Nat.not_lt.2 (Nat.le_of_ble_eq_true rfl)) ?_
 intro ro
 refine sq <| rg <| L (sA []) rfl rfl rfl <| nl <| sq <| rg <| L (Sl.av 1 c_str (Sl.full [[], [119, 105, 110, 100, 111, 119], [115, 108, 105, 100, 105, 110, 103], [98, 117, 99, 107, 101, 116], [111, 110, 99, 101]] : Sl Str)) rfl rfl (op_sliceN rfl rfl rfl) <| L (iA kind) rfl rfl rfl ?_
 obtain ⟨x, h_x, hF0⟩ := bind_some hF0
 refine L (.cptr [(sA x)]) rfl rfl (op_ix rfl (ix_sl (c := c_str) rfl rfl h_x)) <| L (sA x) rfl rfl rfl <| L (sA x) rfl rfl rfl <| nl <| rt ?_
 obtain rfl := Option.some.inj hF0
 exact rd_leaf (.inr rfl) rfl (retV_pl _ _ (sA x)) rfl rfl

theorem ok_gateref1_LimitLines (l : (Sl api_Limit)) {r : (Str)} (hF0 : gateref1_LimitLines l = some r) (out : List AE.Frame) (glob : List AObj) : RdOk Tryz.prog pol false 7 [(Sl.av 5 c_api_Limit l)] out glob (sA r) := by
 unfold gateref1_LimitLines at hF0
 refine rd_walkF Tryz.func7 rfl (Nat.not_lt.2 (Nat.le_of_ble_eq_true rfl)) <| sq <| rg <| L (sA []) rfl rfl rfl <| nl <| sq <| rg <| L (.ptr (.fr 0 3) 1 0) (h' := ⟨upd (upd _ 1030005 ⟨1, (Ar.con 1 c_byte (Ar.nil : Ar UInt8))⟩) 3 ⟨1, .cells [(.bmark 50), (rf (.fr 0 1030005) 1 (Ar.nil : Ar UInt8).list.length)]⟩, _, _⟩) rfl rfl (op_allocA [.nilp, (Sl.av 1 c_u8 Sl.nil)] rfl rfl rfl rfl rfl (List.cons_ne_nil _ _) (fld_mark rfl (fld_arr rfl (by decide) fld_nil))) <| nl <| sq <| sq <| rg <| L (Sl.av 5 c_api_Limit l) rfl rfl rfl <| L (iA (l.list.length : Int)) rfl rfl (op_len rfl rfl rfl rfl rfl (len_sl _)) <| L (iA 0) rfl rfl rfl <| nl <| bk ?_
 obtain ⟨b1, hb9, hF0⟩ := bind_some hF0
 obtain ⟨hn9, hb9⟩ := ite_none hb9
 obtain ⟨J9, hJ9⟩ : ∃ J : St → Prop, ∀ st, J st ↔ (∃ (b4 : (Ar UInt8)) (u2 : Nat) (tm11 : Nat → AV) (cb11 : AE.Frame), st = ⟨tm11, ⟨cb11, out, glob⟩⟩ ∧ AllEq tm11 [(3, (.ptr (.fr 0 3) 1 0))] ∧ AllEq cb11 [(3, ⟨1, .cells [(.bmark 50), (rf (.fr 0 1030005) u2 b4.list.length)]⟩), (1030005, ⟨u2, (Ar.con 1 c_byte b4)⟩)] ∧ b4 = b1) := ⟨_, fun _ => Iff.rfl⟩
 obtain ⟨R9, hR9⟩ : ∃ R : Nat → ((Ar UInt8)) → St → Prop, ∀ i v st, R i v st ↔ (match v with | b3 => ∃ (u1 : Nat) (tm10 : Nat → AV) (cb10 : AE.Frame), st = ⟨tm10, ⟨cb10, out, glob⟩⟩ ∧ AllEq tm10 [(3, (.ptr (.fr 0 3) 1 0)), (6, (Sl.av 5 c_api_Limit l)), (7, (iA (l.list.length : Int))), (8, (iA ((i : Nat) : Int)))] ∧ AllEq cb10 [(3, ⟨1, .cells [(.bmark 50), (rf (.fr 0 1030005) u1 b3.list.length)]⟩), (1030005, ⟨u1, (Ar.con 1 c_byte b3)⟩)]) := ⟨_, fun _ _ _ => Iff.rfl⟩
 refine W_loopcut J9 (fun st hst => ?_) ?_
 · obtain ⟨b4, u2, tm11, cb11, rfl, hT11, hC11, rfl⟩ := (hJ9 st).1 hst
   obtain ⟨tm11, rfl⟩ := allEq hT11
   obtain ⟨cb11, rfl⟩ := allEq hC11
   refine sq <| rg ?_
   obtain ⟨r2, h_r2, hF0⟩ := bind_some hF0
   refine L (sA r2) rfl rfl (opF_H _ rfl rfl rfl rfl rfl rfl rfl (x_string_eq (cs := [(.bmark 50), (rf (.fr 0 1030005) u2 b4.list.length)]) (a := b4) (con_fr rfl) rfl (from_fr0 _ _) (con_fr rfl) rfl rfl h_r2)) <| L (sA r2) rfl rfl rfl <| nl <| rt ?_
   obtain rfl := Option.some.inj hF0
   exact rd_leaf (.inr rfl) rfl (retV_pl _ _ (sA r2)) rfl rfl
 · refine W_rangeL hb9 R9 ((hR9 _ _ _).2 ⟨1, _, _, rfl, (And.intro rfl (And.intro rfl (And.intro rfl (And.intro rfl True.intro)))), (And.intro rfl (And.intro rfl True.intro))⟩) ?_ ?_
   · intro i hi9 v st s hr hF1 hD1
     obtain ⟨b3, hv_⟩ : ∃ z, z = v := ⟨_, rfl⟩; subst hv_
     obtain ⟨u1, tm10, cb10, rfl, hT10, hC10⟩ := (hR9 _ _ _).1 hr
     obtain ⟨tm10, rfl⟩ := allEq hT10
     obtain ⟨cb10, rfl⟩ := allEq hC10
     obtain ⟨x2, hx9⟩ : ∃ x, x = l.list[i] := ⟨_, rfl⟩
     rw [← hx9] at hF1
     dsimp only [gateref1_LimitLines_l0] at hF1
     refine sq (rg ?_)
     refine WO_do (y := (bA (decide (((i : Nat) : Int) < (l.list.length : Int))))) _ rfl rfl rfl (nl ?_)
     refine sq <| cd true (congrArg some (range_lt hi9)) (fun _ => ?_) (fun h => absurd h (by decide))
     refine sk <| sq <| bk <| sq <| rg <| L (.cptr (c_api_Limit x2)) rfl rfl (op_ix rfl ((ix_at (c := c_api_Limit) rfl rfl hi9).trans (congrArg (fun x => some (AV.cptr (c_api_Limit x))) hx9.symm))) <| L (.agg (c_api_Limit x2)) rfl rfl rfl <| L (.ptr (.fr 0 5) ((cb10 5).ver + 1) 0) (h' := ⟨upd _ 5 ⟨(cb10 5).ver + 1, .cells (c_api_Limit (api_Limit.mk [] 0 0 0 0))⟩, _, _⟩) rfl rfl (op_alloc (c_api_Limit (api_Limit.mk [] 0 0 0 0)) rfl rfl rfl rfl) <| L (.tup []) (h' := ⟨upd _ 5 ⟨(cb10 5).ver + 1, .cells (c_api_Limit x2)⟩, _, _⟩) rfl rfl (op_store rfl rfl (st_fr (x := (.agg (c_api_Limit x2))) (cs := (c_api_Limit (api_Limit.mk [] 0 0 0 0))) (c_api_Limit x2) rfl rfl (Nat.le_of_ble_eq_true rfl) rfl)) <| nl <| dw (by kernel_rfl) <| L (.ptr (.fr 0 5) ((cb10 5).ver + 1) 0) rfl rfl rfl <| L (sA x2.Key) rfl rfl (op_load rfl (ld_con (sA x2.Key) rfl rfl (cs := (c_api_Limit x2)) (con_fr rfl) rfl)) <| L (.ptr (.fr 0 5) ((cb10 5).ver + 1) 1) rfl rfl rfl <| L (iA x2.Kind) rfl rfl (op_load rfl (ld_con (iA x2.Kind) rfl rfl (cs := (c_api_Limit x2)) (con_fr rfl) rfl)) ?_
     obtain ⟨r162, h13, hF1⟩ := bind_some hF1
     refine WO_rd (g := 26) (args := [(iA x2.Kind)]) (r := (sA r162)) _ _ rfl rfl rfl rfl rfl rfl rfl (ok_gateref1_KindWord _ h13 _ _ ) <| L (.ptr (.fr 0 5) ((cb10 5).ver + 1) 2) rfl rfl rfl <| L (iA x2.Most) rfl rfl (op_load rfl (ld_con (iA x2.Most) rfl rfl (cs := (c_api_Limit x2)) (con_fr rfl) rfl)) ?_
     obtain ⟨r192, h_r192, hF1⟩ := bind_some hF1
     refine L (sA r192) rfl rfl (op_lib _ rfl rfl rfl (x_itoa_eq h_r192)) <| L (.ptr (.fr 0 5) ((cb10 5).ver + 1) 3) rfl rfl rfl <| L (iA x2.Per) rfl rfl (op_load rfl (ld_con (iA x2.Per) rfl rfl (cs := (c_api_Limit x2)) (con_fr rfl) rfl)) ?_
     obtain ⟨r222, h_r222, hF1⟩ := bind_some hF1
     refine L (sA r222) rfl rfl (op_lib _ rfl rfl rfl (x_itoa_eq h_r222)) <| L (.ptr (.fr 0 5) ((cb10 5).ver + 1) 4) rfl rfl rfl <| L (iA x2.Burst) rfl rfl (op_load rfl (ld_con (iA x2.Burst) rfl rfl (cs := (c_api_Limit x2)) (con_fr rfl) rfl)) ?_
     obtain ⟨r252, h_r252, hF1⟩ := bind_some hF1
     refine L (sA r252) rfl rfl (op_lib _ rfl rfl rfl (x_itoa_eq h_r252)) <| L (Sl.av 1 c_str (Sl.full [x2.Key, r162, r192, r222, r252] : Sl Str)) rfl rfl (op_sliceN rfl rfl rfl) ?_
     obtain ⟨r272, h_r272, hF1⟩ := bind_some hF1
     refine L (sA r272) rfl rfl (op_lib _ rfl rfl rfl (x_join_eq h_r272)) ?_
     obtain ⟨r282, h_r282, hF1⟩ := bind_some hF1
     refine L (sA r282) rfl rfl (op_bin rfl (bin_sadd h_r282)) ?_
     obtain ⟨⟨q02, q12, b5⟩, h14, hF1⟩ := bind_some hF1
     refine WO_mutAL (g := 19) (args := fun p => [p, (sA r282)]) (off := 0) (s := 3) (b := 1030005) (v := 1) (u := u1) (cs := fun sl u => [(.bmark 50), (rf sl u b3.list.length)]) (a := (Ar.con 1 c_byte b3)) (r := (.tup [(iA q02), .nili])) _ _ rfl rfl rfl rfl rfl rfl (by kernel_rfl) (fun _ _ => inferInstance) rfl rfl (by decide) rfl Ar.con_live (ok_strings_Builder_WriteString _ _ h14) (fun u14 => ?_)
     exact nl <| rg <| WO_do (y := (iA ((i + 1 : Nat) : Int))) _ rfl rfl (congrArg (fun n => some (AV.int .i64 n, _)) (range_len hi9 hn9)) <| WO_do (y := (iA ((i + 1 : Nat) : Int))) _ rfl rfl rfl <| nl <| Exists.intro _ (And.intro (Option.some.inj hF1).symm ((hR9 _ _ _).2 ⟨u14, _, _, rfl, (And.intro rfl (And.intro rfl (And.intro rfl (And.intro rfl True.intro)))), (And.intro rfl (And.intro rfl True.intro))⟩))
   · intro v st hr hD1
     obtain ⟨b3, hv_⟩ : ∃ z, z = v := ⟨_, rfl⟩; subst hv_
     obtain ⟨u1, tm10, cb10, rfl, hT10, hC10⟩ := (hR9 _ _ _).1 hr
     obtain ⟨tm10, rfl⟩ := allEq hT10
     obtain ⟨cb10, rfl⟩ := allEq hC10
     refine sq (rg ?_)
     refine WO_do (y := .bool false) _ rfl rfl (congrArg (fun b => some (AV.bool b, _)) (range_ge _)) (nl ?_)
     refine sq <| cd false rfl (fun h => absurd h (by decide)) (fun _ => ?_)
     exact xt <| (hJ9 _).2 ⟨b3, u1, _, _, rfl, (And.intro rfl True.intro), (And.intro rfl (And.intro rfl True.intro)), hD1⟩

theorem ok_gatemake_Stream_Changed (s_ : gatemake_Stream) (t : Str) (with_ : Str) {r : (Str × gatemake_Stream)} (hF0 : gatemake_Stream_Changed s_ t with_ = some r) : MutOk Tryz.prog pol 28 (fun p => [p, (sA t), (sA with_)]) (c_gatemake_Stream s_) (sA r.1) (c_gatemake_Stream r.2) := by
 unfold gatemake_Stream_Changed at hF0
 refine mut_walk Tryz.func28 rfl (fun _ => Nat.not_lt.2 (Nat.le_of_ble_eq_true rfl)) ?_
 intro out glob d0 w0 hh0 hk_0
 refine sq <| rg <| L (sA []) rfl rfl rfl <| nl <| sq <| sq <| rg <| L (sA t) rfl rfl rfl <| L (bA (t == [])) rfl rfl (op_bin rfl bin_seq) ?_
 obtain ⟨J1, hJ1⟩ : ∃ J : St → Prop, ∀ st, J st ↔ (∃ (tm2 : Nat → AV) (cb2 : AE.Frame) (out2 : List AE.Frame) (glob2 : List AObj), st = ⟨tm2, ⟨cb2, out2, glob2⟩⟩ ∧ AllEq tm2 [(0, (.ptr d0 w0 0)), (1, (sA t)), (2, (sA with_)), (14, (bA ((t == []) || (with_ == []))))] ∧ AllEq cb2 [] ∧ con2 out2 glob2 d0 w0 = .cells (c_gatemake_Stream s_) ∧ Same d0 out glob out2 glob2) := ⟨_, fun _ => Iff.rfl⟩
 refine WO_cut 4 J1 (fun st hst => ?_) ?_
 · obtain ⟨tm2, cb2, out2, glob2, rfl, hT2, hC2, hk2, hs2⟩ := (hJ1 st).1 hst
   obtain ⟨tm2, rfl⟩ := allEq hT2
   obtain ⟨cb2, rfl⟩ := allEq hC2
   refine nl <| cd ((t == []) || (with_ == [])) rfl (fun hc8 => ?_) (fun hc8 => ?_)
   · replace hF0 := ite_t hF0 (hc8)
     refine sq <| rg <| L (sA with_) rfl rfl rfl <| L (sA with_) rfl rfl rfl <| nl <| rt ?_
     obtain rfl := Option.some.inj hF0
     exact mut_leaf (.inr rfl) rfl (retV_pl _ _ (sA with_)) hk2 hs2
   · replace hF0 := ite_f hF0 (not_t hc8)
     refine sk <| sq <| rg <| L (.ptr d0 w0 0) rfl rfl rfl <| L (sA t) rfl rfl rfl <| L (iA (t.length : Int)) rfl rfl rfl ?_
     obtain ⟨⟨i, s_1⟩, h3, hF0⟩ := bind_some hF0
     refine WO_mutP (g := 16) (args := fun p => [p, (iA (t.length : Int))]) (d := d0) (v := w0) (r := (iA i)) _ _ rfl rfl rfl rfl rfl rfl rfl (fun _ _ => inferInstance) hh0 hk2 (ok_gatemake_Stream_Next _ _ h3) (fun out3 glob3 hk3 hs3 => ?_)
     replace hs3 := hs2.trans hs3
     refine L (iA i) rfl rfl rfl <| nl <| sq <| rg <| L (sA with_) rfl rfl rfl <| L (.ptr d0 w0 0) rfl rfl rfl <| L (sA with_) rfl rfl rfl <| L (iA (with_.length : Int)) rfl rfl rfl ?_
     obtain ⟨⟨r24, s_2⟩, h4, hF0⟩ := bind_some hF0
     refine WO_mutP (g := 16) (args := fun p => [p, (iA (with_.length : Int))]) (d := d0) (v := w0) (r := (iA r24)) _ _ rfl rfl rfl rfl rfl rfl rfl (fun _ _ => inferInstance) hh0 hk3 (ok_gatemake_Stream_Next _ _ h4) (fun out4 glob4 hk4 hs4 => ?_)
     replace hs4 := hs3.trans hs4
     obtain ⟨c, h_c, hF0⟩ := bind_some hF0
     refine L (.int .u8 c) rfl rfl (op_index rfl (ix_str rfl h_c)) <| L (.int .u8 c) rfl rfl rfl <| nl <| sq <| sq <| rg <| L (.ptr d0 w0 0) rfl rfl rfl ?_
     obtain ⟨⟨r27, s_3⟩, h5, hF0⟩ := bind_some hF0
     refine WO_mutP (g := 16) (args := fun p => [p, (iA 3)]) (d := d0) (v := w0) (r := (iA r27)) _ _ rfl rfl rfl rfl rfl rfl rfl (fun _ _ => inferInstance) hh0 hk4 (ok_gatemake_Stream_Next _ _ h5) (fun out5 glob5 hk5 hs5 => ?_)
     replace hs5 := hs4.trans hs5
     refine nl <| bk <| sq <| rg <| L (bA (r27 == 0)) rfl rfl rfl <| L (bA (r27 == 0)) rfl rfl rfl <| nl <| cd (r27 == 0) rfl (fun hc7 => ?_) (fun hc7 => ?_)
     · replace hF0 := ite_t hF0 (beq_t hc7)
       refine sq <| dw (by kernel_rfl) <| L (sA t) rfl rfl rfl <| L (iA i) rfl rfl rfl ?_
       obtain ⟨r32, h_r32, hF0⟩ := bind_some hF0
       refine L (sA r32) rfl rfl (op_slice rfl (sl_str (a := 0) (b := i) rfl rfl rfl h_r32)) ?_
       refine L (.int .u8 c) rfl rfl rfl <| L (.int .i32 (IntKind.i32.wrap (c))) rfl rfl rfl <| L (sA (utf8 (IntKind.i32.wrap (c)))) rfl rfl (op_conv rfl (conv_utf8 rfl rfl)) ?_
       obtain ⟨r36, h_r36, hF0⟩ := bind_some hF0
       refine L (sA r36) rfl rfl (op_bin rfl (bin_sadd h_r36)) <| L (sA t) rfl rfl rfl <| L (iA i) rfl rfl rfl <| L (iA (w64 (i + 1))) rfl rfl rfl ?_
       obtain ⟨r40, h_r40, hF0⟩ := bind_some hF0
       refine L (sA r40) rfl rfl (op_slice rfl (sl_str (a := w64 (i + 1)) (b := (t.length : Int)) rfl rfl rfl h_r40)) ?_
       obtain ⟨r6, h_r6, hF0⟩ := bind_some hF0
       refine L (sA r6) rfl rfl (op_bin rfl (bin_sadd h_r6)) <| L (sA r6) rfl rfl rfl <| nl <| rt ?_
       obtain rfl := Option.some.inj hF0
       exact mut_leaf (.inr rfl) rfl (retV_pl _ _ (sA r6)) hk5 hs5
     · replace hF0 := ite_f hF0 (beq_f hc7)
       refine sq <| rg <| L (bA (r27 == 1)) rfl rfl rfl <| L (bA (r27 == 1)) rfl rfl rfl <| nl <| cd (r27 == 1) rfl (fun hc6 => ?_) (fun hc6 => ?_)
       · replace hF0 := ite_t hF0 (beq_t hc6)
         refine sq <| dw (by kernel_rfl) <| L (sA t) rfl rfl rfl <| L (iA i) rfl rfl rfl ?_
         obtain ⟨r46, h_r46, hF0⟩ := bind_some hF0
         refine L (sA r46) rfl rfl (op_slice rfl (sl_str (a := 0) (b := i) rfl rfl rfl h_r46)) ?_
         refine L (.int .u8 c) rfl rfl rfl <| L (.int .i32 (IntKind.i32.wrap (c))) rfl rfl rfl <| L (sA (utf8 (IntKind.i32.wrap (c)))) rfl rfl (op_conv rfl (conv_utf8 rfl rfl)) ?_
         obtain ⟨r50, h_r50, hF0⟩ := bind_some hF0
         refine L (sA r50) rfl rfl (op_bin rfl (bin_sadd h_r50)) <| L (sA t) rfl rfl rfl <| L (iA i) rfl rfl rfl ?_
         obtain ⟨r53, h_r53, hF0⟩ := bind_some hF0
         refine L (sA r53) rfl rfl (op_slice rfl (sl_str (a := i) (b := (t.length : Int)) rfl rfl rfl h_r53)) ?_
         obtain ⟨r61, h_r61, hF0⟩ := bind_some hF0
         refine L (sA r61) rfl rfl (op_bin rfl (bin_sadd h_r61)) <| L (sA r61) rfl rfl rfl <| nl <| rt ?_
         obtain rfl := Option.some.inj hF0
         exact mut_leaf (.inr rfl) rfl (retV_pl _ _ (sA r61)) hk5 hs5
       · replace hF0 := ite_f hF0 (beq_f hc6)
         refine sk <| sq <| dw (by kernel_rfl) <| L (sA t) rfl rfl rfl <| L (iA i) rfl rfl rfl ?_
         obtain ⟨r57, h_r57, hF0⟩ := bind_some hF0
         refine L (sA r57) rfl rfl (op_slice rfl (sl_str (a := 0) (b := i) rfl rfl rfl h_r57)) ?_
         refine L (sA t) rfl rfl rfl <| L (iA i) rfl rfl rfl <| L (iA (w64 (i + 1))) rfl rfl rfl ?_
         obtain ⟨r611, h_r611, hF0⟩ := bind_some hF0
         refine L (sA r611) rfl rfl (op_slice rfl (sl_str (a := w64 (i + 1)) (b := (t.length : Int)) rfl rfl rfl h_r611)) ?_
         obtain ⟨r62, h_r62, hF0⟩ := bind_some hF0
         refine L (sA r62) rfl rfl (op_bin rfl (bin_sadd h_r62)) <| L (sA r62) rfl rfl rfl <| nl <| rt ?_
         obtain rfl := Option.some.inj hF0
         exact mut_leaf (.inr rfl) rfl (retV_pl _ _ (sA r62)) hk5 hs5
 · rcases bool_cases (t == []) with hc1 | hc1
   · exact L (.bool true) rfl rfl (congrArg (fun b => some (AV.bool b, _)) hc1) <| WO_no _ rfl rfl <| WO_no _ rfl rfl <| L (bA ((t == []) || (with_ == []))) rfl rfl (congrArg (fun b => some (AV.bool b, _)) (by rw [hc1]; rfl)) <| nl ((hJ1 _).2 ⟨_, _, _, _, rfl, (And.intro rfl (And.intro rfl (And.intro rfl (And.intro rfl True.intro)))), True.intro, hk_0, (Same.refl _ _ _)⟩)
   · exact L (.bool false) rfl rfl (congrArg (fun b => some (AV.bool b, _)) hc1) <| L (sA with_) rfl rfl rfl <| L (bA (with_ == [])) rfl rfl (op_bin rfl bin_seq) <| L (bA ((t == []) || (with_ == []))) rfl rfl (congrArg (fun b => some (AV.bool b, _)) (by rw [hc1]; rfl)) <| nl ((hJ1 _).2 ⟨_, _, _, _, rfl, (And.intro rfl (And.intro rfl (And.intro rfl (And.intro rfl True.intro)))), True.intro, hk_0, (Same.refl _ _ _)⟩)

theorem ok_gatemake_Stream_LimitString (s_ : gatemake_Stream) {r : (Str × gatemake_Stream)} (hF0 : gatemake_Stream_LimitString s_ = some r) : MutOk Tryz.prog pol 8 (fun p => [p]) (c_gatemake_Stream s_) (sA r.1) (c_gatemake_Stream r.2) := by
 unfold gatemake_Stream_LimitString at hF0
 refine mut_walk Tryz.func8 rfl (fun _ => Nat.not_lt.2 (Nat.le_of_ble_eq_true rfl)) ?_
 intro out glob d0 w0 hh0 hk_0
 refine sq <| rg <| L (sA []) rfl rfl rfl <| nl <| sq <| rg <| L (.ptr d0 w0 0) rfl rfl rfl ?_
 obtain ⟨⟨l, s_1⟩, h1, hF0⟩ := bind_some hF0
 refine WO_mutP (g := 4) (args := fun p => [p]) (d := d0) (v := w0) (r := (Sl.av 5 c_api_Limit l)) _ _ rfl rfl rfl rfl rfl rfl rfl (fun _ _ => inferInstance) hh0 hk_0 (ok_gatemake_Stream_Limits _ h1) (fun out1 glob1 hk1 hs1 => ?_)
 replace hs1 := (Same.refl _ _ _).trans hs1
 refine L (Sl.av 5 c_api_Limit l) rfl rfl rfl <| nl <| sq <| rg <| L (sA [119, 32, 119, 105, 110, 100, 111, 119, 32, 51, 32, 49, 48, 48, 32, 48, 10]) rfl rfl rfl <| nl <| sq <| sq <| rg <| L (Sl.av 5 c_api_Limit l) rfl rfl (op_movS rfl rfl rfl) ?_
 obtain ⟨r8, h2, hF0⟩ := bind_some hF0
 refine WO_rd (g := 6) (args := [(Sl.av 5 c_api_Limit l)]) (r := (iA r8)) _ _ rfl rfl rfl rfl rfl rfl rfl (ok_gateref1_LimitsFault _ h2 _ _ ) <| L (bA (r8 == 0)) rfl rfl rfl <| nl ?_
 obtain ⟨y6, hF1, hF0⟩ := bind_some hF0
 obtain ⟨J6, hJ6⟩ : ∃ J : St → Prop, ∀ st, J st ↔ (∃ (t1 : Str) (tm5 : Nat → AV) (cb5 : AE.Frame) (out5 : List AE.Frame) (glob5 : List AObj), st = ⟨tm5, ⟨cb5, out5, glob5⟩⟩ ∧ AllEq tm5 [(0, (.ptr d0 w0 0)), (4, (sA t1))] ∧ AllEq cb5 [] ∧ con2 out5 glob5 d0 w0 = .cells (c_gatemake_Stream s_1) ∧ Same d0 out glob out5 glob5 ∧ t1 = y6) := ⟨_, fun _ => Iff.rfl⟩
 refine W_cut J6 (fun st hst => ?_) ?_
 · obtain ⟨t1, tm5, cb5, out5, glob5, rfl, hT5, hC5, hk5, hs5, rfl⟩ := (hJ6 st).1 hst
   obtain ⟨tm5, rfl⟩ := allEq hT5
   obtain ⟨cb5, rfl⟩ := allEq hC5
   refine sq <| sq <| rg <| L (.ptr d0 w0 0) rfl rfl rfl <| L (Sl.av 1 c_i64 (Sl.full [0, 0, 1, 2] : Sl Int)) rfl rfl (op_sliceN rfl rfl rfl) ?_
   obtain ⟨⟨r14, s_2⟩, h9, hF0⟩ := bind_some hF0
   refine WO_mutP (g := 27) (args := fun p => [p, (Sl.av 1 c_i64 (Sl.full [0, 0, 1, 2] : Sl Int))]) (d := d0) (v := w0) (r := (iA r14)) _ _ rfl rfl rfl rfl rfl rfl rfl (fun _ _ => inferInstance) hh0 hk5 (ok_gatemake_Stream_Pick _ _ h9) (fun out9 glob9 hk9 hs9 => ?_)
   replace hs9 := hs5.trans hs9
   refine L (iA 0) rfl rfl rfl <| nl <| bk ?_
   obtain ⟨b1, hb16, hF0⟩ := bind_some hF0
   obtain ⟨hn16, hb16⟩ := ite_none hb16
   obtain ⟨J16, hJ16⟩ : ∃ J : St → Prop, ∀ st, J st ↔ (∃ (s_7 : gatemake_Stream) (t8 : Str) (tm18 : Nat → AV) (cb18 : AE.Frame) (out18 : List AE.Frame) (glob18 : List AObj), st = ⟨tm18, ⟨cb18, out18, glob18⟩⟩ ∧ AllEq tm18 [(4, (sA t8))] ∧ AllEq cb18 [] ∧ con2 out18 glob18 d0 w0 = .cells (c_gatemake_Stream s_7) ∧ Same d0 out glob out18 glob18 ∧ (s_7, t8) = b1) := ⟨_, fun _ => Iff.rfl⟩
   obtain ⟨R16, hR16⟩ : ∃ R : Nat → (gatemake_Stream × Str) → St → Prop, ∀ i v st, R i v st ↔ (match v with | (s_6, t7) => ∃ (tm17 : Nat → AV) (cb17 : AE.Frame) (out17 : List AE.Frame) (glob17 : List AObj), st = ⟨tm17, ⟨cb17, out17, glob17⟩⟩ ∧ AllEq tm17 [(0, (.ptr d0 w0 0)), (4, (sA t7)), (14, (iA r14)), (15, (iA ((i : Nat) : Int)))] ∧ AllEq cb17 [] ∧ con2 out17 glob17 d0 w0 = .cells (c_gatemake_Stream s_6) ∧ Same d0 out glob out17 glob17) := ⟨_, fun _ _ _ => Iff.rfl⟩
   refine W_loopcut J16 (fun st hst => ?_) ?_
   · obtain ⟨s_7, t8, tm18, cb18, out18, glob18, rfl, hT18, hC18, hk18, hs18, rfl⟩ := (hJ16 st).1 hst
     obtain ⟨tm18, rfl⟩ := allEq hT18
     obtain ⟨cb18, rfl⟩ := allEq hC18
     refine sq <| rg <| L (sA t8) rfl rfl rfl <| L (sA t8) rfl rfl rfl <| nl <| rt ?_
     obtain rfl := Option.some.inj hF0
     exact mut_leaf (.inr rfl) rfl (retV_pl _ _ (sA t8)) hk18 hs18
   · refine W_rangeL hb16 R16 ((hR16 _ _ _).2 ⟨_, _, _, _, rfl, (And.intro rfl (And.intro rfl (And.intro rfl (And.intro rfl True.intro)))), True.intro, hk9, hs9⟩) ?_ ?_
     · intro i hi16 v st s hr hF1 hD1
       obtain ⟨s_6, t7⟩ := v
       obtain ⟨tm17, cb17, out17, glob17, rfl, hT17, hC17, hk17, hs17⟩ := (hR16 _ _ _).1 hr
       obtain ⟨tm17, rfl⟩ := allEq hT17
       obtain ⟨cb17, rfl⟩ := allEq hC17
       dsimp only [gatemake_Stream_LimitString_l0] at hF1
       refine sq (rg ?_)
       refine WO_do (y := (bA (decide (((i : Nat) : Int) < r14)))) _ rfl rfl rfl (nl ?_)
       refine sq <| cd true (congrArg some (rangeN_lt hi16)) (fun _ => ?_) (fun h => absurd h (by decide))
       refine sk <| sq <| bk <| rg <| L (.ptr d0 w0 0) rfl rfl rfl <| L (sA t7) rfl rfl rfl ?_
       obtain ⟨⟨t9, s_8⟩, h20, hF1⟩ := bind_some hF1
       refine WO_mutP (g := 28) (args := fun p => [p, (sA t7), (sA [32, 10, 48, 49, 57, 119, 97, 45])]) (d := d0) (v := w0) (r := (sA t9)) _ _ rfl rfl rfl rfl rfl rfl rfl (fun _ _ => inferInstance) hh0 hk17 (ok_gatemake_Stream_Changed _ _ _ h20) (fun out20 glob20 hk20 hs20 => ?_)
       replace hs20 := hs17.trans hs20
       exact L (sA t9) rfl rfl rfl <| nl <| rg <| WO_do (y := (iA ((i + 1 : Nat) : Int))) _ rfl rfl (congrArg (fun n => some (AV.int .i64 n, _)) (rangeN_len hi16 hn16)) <| WO_do (y := (iA ((i + 1 : Nat) : Int))) _ rfl rfl rfl <| nl <| Exists.intro _ (And.intro (Option.some.inj hF1).symm ((hR16 _ _ _).2 ⟨_, _, _, _, rfl, (And.intro rfl (And.intro rfl (And.intro rfl (And.intro rfl True.intro)))), True.intro, hk20, hs20⟩))
     · intro v st hr hD1
       obtain ⟨s_6, t7⟩ := v
       obtain ⟨tm17, cb17, out17, glob17, rfl, hT17, hC17, hk17, hs17⟩ := (hR16 _ _ _).1 hr
       obtain ⟨tm17, rfl⟩ := allEq hT17
       obtain ⟨cb17, rfl⟩ := allEq hC17
       refine sq (rg ?_)
       refine WO_do (y := .bool false) _ rfl rfl (congrArg (fun b => some (AV.bool b, _)) (rangeN_ge _)) (nl ?_)
       refine sq <| cd false rfl (fun h => absurd h (by decide)) (fun _ => ?_)
       exact xt <| (hJ16 _).2 ⟨s_6, t7, _, _, _, _, rfl, (And.intro rfl True.intro), True.intro, hk17, hs17, hD1⟩
 · refine cd (r8 == 0) rfl (fun hc8 => ?_) (fun hc8 => ?_)
   · replace hF1 := ite_t hF1 (beq_t hc8)
     refine rg <| L (Sl.av 5 c_api_Limit l) rfl rfl (op_movS rfl rfl rfl) ?_
     obtain ⟨t2, h7, hF1⟩ := bind_some hF1
     exact WO_rd (g := 7) (args := [(Sl.av 5 c_api_Limit l)]) (r := (sA t2)) _ _ rfl rfl rfl rfl rfl rfl rfl (ok_gateref1_LimitLines _ h7 _ _ ) <| L (sA t2) rfl rfl rfl <| nl <| (hJ6 _).2 ⟨t2, _, _, _, _, rfl, (And.intro rfl (And.intro rfl True.intro)), True.intro, hk1, hs1, Option.some.inj hF1⟩
   · replace hF1 := ite_f hF1 (beq_f hc8)
     exact sk <| (hJ6 _).2 ⟨[119, 32, 119, 105, 110, 100, 111, 119, 32, 51, 32, 49, 48, 48, 32, 48, 10], _, _, _, _, rfl, (And.intro rfl (And.intro rfl True.intro)), True.intro, hk1, hs1, Option.some.inj hF1⟩

theorem ok_kit_Lines (s_ : Str) {r : ((Sl Str) × Bool)} (hF0 : kit_Lines s_ = some r) (out : List AE.Frame) (glob : List AObj) : RdOk Tryz.prog pol true 29 [(sA s_)] out glob (.tup [(Sl.av 1 c_str r.1), (bA r.2)]) := by
 unfold kit_Lines at hF0
 refine rd_walk Tryz.func29 rfl (Nat.not_lt.2 (Nat.le_of_ble_eq_true rfl)) ?_
 intro ro
 refine sq <| rg <| L (Sl.av 1 c_str Sl.nil) rfl rfl rfl <| L (bA false) rfl rfl rfl <| nl <| sq <| rg <| L (sA s_) rfl rfl rfl ?_
 obtain ⟨l, h_l, hF0⟩ := bind_some hF0
 refine L (Sl.av 1 c_str l) rfl rfl (op_lib _ rfl rfl rfl (x_split_eq h_l)) <| L (Sl.av 1 c_str l) rfl rfl rfl <| nl <| sq <| rg <| L (Sl.av 1 c_str l) rfl rfl rfl <| L (iA (l.list.length : Int)) rfl rfl (op_len rfl rfl rfl rfl rfl (len_sl _)) <| L (iA (w64 ((l.list.length : Int) - 1))) rfl rfl rfl <| L (iA (w64 ((l.list.length : Int) - 1))) rfl rfl rfl <| nl <| sq <| sq <| rg <| L (Sl.av 1 c_str l) rfl rfl rfl <| L (iA (w64 ((l.list.length : Int) - 1))) rfl rfl rfl ?_
 obtain ⟨x, h_x, hF0⟩ := bind_some hF0
 refine L (.cptr [(sA x)]) rfl rfl (op_ix rfl (ix_sl (c := c_str) rfl rfl h_x)) <| L (sA x) rfl rfl rfl <| L (bA (x == [])) rfl rfl (op_bin rfl bin_seq) <| nl <| cd (x == []) rfl (fun hc1 => ?_) (fun hc1 => ?_)
 · replace hF0 := ite_t hF0 (seq_t hc1)
   refine sq <| rg <| L (Sl.av 1 c_str l) rfl rfl (op_movS rfl rfl rfl) <| L (iA (w64 ((l.list.length : Int) - 1))) rfl rfl rfl ?_
   obtain ⟨l1, h_l1, hF0⟩ := bind_some hF0
   refine L (Sl.av 1 c_str l1) rfl rfl (op_slice rfl (sl_sl (c := c_str) (a := 0) (b := w64 ((l.list.length : Int) - 1)) rfl rfl rfl rfl h_l1)) ?_
   refine L (Sl.av 1 c_str l1) rfl rfl rfl <| L (bA true) rfl rfl rfl <| nl <| rt ?_
   obtain rfl := Option.some.inj hF0
   exact rd_leaf (.inr rfl) rfl (ret_tup2 (retV_pl _ _ (Sl.av 1 c_str l1)) (retV_pl _ _ (bA true))) rfl rfl
 · replace hF0 := ite_f hF0 (seq_f hc1)
   refine sk <| sq <| rg <| L (Sl.av 1 c_str l) rfl rfl rfl <| L (Sl.av 1 c_str l) rfl rfl rfl <| L (bA false) rfl rfl rfl <| nl <| rt ?_
   obtain rfl := Option.some.inj hF0
   exact rd_leaf (.inr rfl) rfl (ret_tup2 (retV_pl _ _ (Sl.av 1 c_str l)) (retV_pl _ _ (bA false))) rfl rfl

theorem ok_slices_Index_string_string (s_ : (Sl Str)) (v_ : Str) {r : (Int)} (hF0 : slices_Index_string_string s_ v_ = some r) (out : List AE.Frame) (glob : List AObj) : RdOk Tryz.prog pol true 34 [(Sl.av 1 c_str s_), (sA v_)] out glob (iA r) := by
 unfold slices_Index_string_string at hF0
 refine rd_walk Tryz.func34 rfl (Nat.not_lt.2 (Nat.le_of_ble_eq_true rfl)) ?_
 intro ro
 refine sq <| rg <| L (iA 0) rfl rfl rfl <| nl <| sq <| sq <| rg <| L (Sl.av 1 c_str s_) rfl rfl rfl <| L (iA (s_.list.length : Int)) rfl rfl (op_len rfl rfl rfl rfl rfl (len_sl _)) <| L (iA 0) rfl rfl rfl <| nl <| bk ?_
 obtain ⟨b1, hb4, hF0⟩ := bind_some hF0
 obtain ⟨hn4, hb4⟩ := ite_none hb4
 obtain ⟨J4, hJ4⟩ : ∃ J : St → Prop, ∀ st, J st ↔ (∃ (tm6 : Nat → AV) (cb6 : AE.Frame), st = ⟨tm6, ⟨cb6, out, glob⟩⟩ ∧ AllEq tm6 [] ∧ AllEq cb6 [] ∧ Res.out () = b1) := ⟨_, fun _ => Iff.rfl⟩
 obtain ⟨R4, hR4⟩ : ∃ R : Nat → (Unit) → St → Prop, ∀ i v st, R i v st ↔ (match v with | () => ∃ (tm5 : Nat → AV) (cb5 : AE.Frame), st = ⟨tm5, ⟨cb5, out, glob⟩⟩ ∧ AllEq tm5 [(0, (Sl.av 1 c_str s_)), (1, (sA v_)), (7, (iA (s_.list.length : Int))), (8, (iA ((i : Nat) : Int)))] ∧ AllEq cb5 []) := ⟨_, fun _ _ _ => Iff.rfl⟩
 refine W_loopcut J4 (fun st hst => ?_) ?_
 · obtain ⟨tm6, cb6, rfl, hT6, hC6, rfl⟩ := (hJ4 st).1 hst
   obtain ⟨tm6, rfl⟩ := allEq hT6
   obtain ⟨cb6, rfl⟩ := allEq hC6
   replace hF0 := res_out hF0
   refine sq <| rg <| L (iA (-1)) rfl rfl rfl <| nl <| rt ?_
   obtain rfl := Option.some.inj hF0
   exact rd_leaf (.inr rfl) rfl (retV_pl _ _ (iA (-1))) rfl rfl
 · refine W_rangeL hb4 R4 ((hR4 _ _ _).2 ⟨_, _, rfl, (And.intro rfl (And.intro rfl (And.intro rfl (And.intro rfl True.intro)))), True.intro⟩) ?_ ?_
   · intro i hi4 v st s hr hF1 hD1
     obtain ⟨⟩ := v
     obtain ⟨tm5, cb5, rfl, hT5, hC5⟩ := (hR4 _ _ _).1 hr
     obtain ⟨tm5, rfl⟩ := allEq hT5
     obtain ⟨cb5, rfl⟩ := allEq hC5
     obtain ⟨x1, hx4⟩ : ∃ x, x = s_.list[i] := ⟨_, rfl⟩
     rw [← hx4] at hF1
     dsimp only [slices_Index_string_string_l0] at hF1
     refine sq (rg ?_)
     refine WO_do (y := (bA (decide (((i : Nat) : Int) < (s_.list.length : Int))))) _ rfl rfl rfl (nl ?_)
     refine sq <| cd true (congrArg some (range_lt hi4)) (fun _ => ?_) (fun h => absurd h (by decide))
     refine sk <| sq <| bk <| sq <| rg <| L (iA ((i : Nat) : Int)) rfl rfl rfl <| L (iA ((i : Nat) : Int)) rfl rfl rfl <| nl <| sq <| rg <| L (sA v_) rfl rfl rfl <| L (Sl.av 1 c_str s_) rfl rfl rfl <| L (iA ((i : Nat) : Int)) rfl rfl rfl <| L (.cptr [(sA x1)]) rfl rfl (op_ix rfl ((ix_at (c := c_str) rfl rfl hi4).trans (congrArg (fun x => some (AV.cptr (c_str x))) hx4.symm))) <| L (sA x1) rfl rfl rfl <| L (bA (v_ == x1)) rfl rfl (op_bin rfl bin_seq) <| nl <| cd (v_ == x1) rfl (fun hc8 => ?_) (fun hc8 => ?_)
     · replace hF1 := ite_t hF1 (seq_t hc8)
       refine sq <| rg <| L (iA ((i : Nat) : Int)) rfl rfl rfl <| L (iA ((i : Nat) : Int)) rfl rfl rfl <| nl <| rt ?_
       obtain rfl := hD1 _ (Option.some.inj hF1).symm
       replace hF0 := res_ret hF0
       obtain rfl := Option.some.inj hF0
       exact rd_leaf (.inr rfl) rfl (retV_pl _ _ (iA ((i : Nat) : Int))) rfl rfl
     · replace hF1 := ite_f hF1 (seq_f hc8)
       exact sk <| rg <| WO_do (y := (iA ((i + 1 : Nat) : Int))) _ rfl rfl (congrArg (fun n => some (AV.int .i64 n, _)) (range_len hi4 hn4)) <| WO_do (y := (iA ((i + 1 : Nat) : Int))) _ rfl rfl rfl <| nl <| Exists.intro _ (And.intro (Option.some.inj hF1).symm ((hR4 _ _ _).2 ⟨_, _, rfl, (And.intro rfl (And.intro rfl (And.intro rfl (And.intro rfl True.intro)))), True.intro⟩))
   · intro v st hr hD1
     obtain ⟨⟩ := v
     obtain ⟨tm5, cb5, rfl, hT5, hC5⟩ := (hR4 _ _ _).1 hr
     obtain ⟨tm5, rfl⟩ := allEq hT5
     obtain ⟨cb5, rfl⟩ := allEq hC5
     refine sq (rg ?_)
     refine WO_do (y := .bool false) _ rfl rfl (congrArg (fun b => some (AV.bool b, _)) (range_ge _)) (nl ?_)
     refine sq <| cd false rfl (fun h => absurd h (by decide)) (fun _ => ?_)
     exact xt <| (hJ4 _).2 ⟨_, _, rfl, True.intro, True.intro, hD1⟩

theorem ok_slices_Contains_string_string (s_ : (Sl Str)) (v_ : Str) {r : (Bool)} (hF0 : slices_Contains_string_string s_ v_ = some r) (out : List AE.Frame) (glob : List AObj) : RdOk Tryz.prog pol true 62 [(Sl.av 1 c_str s_), (sA v_)] out glob (bA r) := by
 unfold slices_Contains_string_string at hF0
 refine rd_walk Tryz.func62 rfl (Nat.not_lt.2 (Nat.le_of_ble_eq_true rfl)) ?_
 intro ro
 refine sq <| rg <| L (bA false) rfl rfl rfl <| nl <| sq <| rg <| L (Sl.av 1 c_str s_) rfl rfl (op_movS rfl rfl rfl) <| L (sA v_) rfl rfl rfl ?_
 obtain ⟨r7, h1, hF0⟩ := bind_some hF0
 refine WO_rd (g := 34) (args := [(Sl.av 1 c_str s_), (sA v_)]) (r := (iA r7)) _ _ rfl rfl rfl rfl rfl rfl rfl (ok_slices_Index_string_string _ _ h1 _ _ ) <| L (bA (decide (r7 ≥ 0))) rfl rfl rfl <| L (bA (decide (r7 ≥ 0))) rfl rfl rfl <| nl <| rt ?_
 obtain rfl := Option.some.inj hF0
 exact rd_leaf (.inr rfl) rfl (retV_pl _ _ (bA (decide (r7 ≥ 0)))) rfl rfl

theorem ok_kit_Words (s_ : Str) {r : ((Sl Str) × Bool)} (hF0 : kit_Words s_ = some r) (out : List AE.Frame) (glob : List AObj) : RdOk Tryz.prog pol true 47 [(sA s_)] out glob (.tup [(Sl.av 1 c_str r.1), (bA r.2)]) := by
 unfold kit_Words at hF0
 refine rd_walk Tryz.func47 rfl (Nat.not_lt.2 (Nat.le_of_ble_eq_true rfl)) ?_
 intro ro
 refine sq <| rg <| L (Sl.av 1 c_str Sl.nil) rfl rfl rfl <| L (bA false) rfl rfl rfl <| nl <| sq <| rg <| L (sA s_) rfl rfl rfl ?_
 obtain ⟨l, h_l, hF0⟩ := bind_some hF0
 refine L (Sl.av 1 c_str l) rfl rfl (op_lib _ rfl rfl rfl (x_split_eq h_l)) <| L (Sl.av 1 c_str l) rfl rfl rfl <| nl <| sq <| rg <| L (Sl.av 1 c_str l) rfl rfl rfl <| L (Sl.av 1 c_str l) rfl rfl (op_movS rfl rfl rfl) ?_
 obtain ⟨r9, h1, hF0⟩ := bind_some hF0
 refine WO_rd (g := 62) (args := [(Sl.av 1 c_str l), (sA [])]) (r := (bA r9)) _ _ rfl rfl rfl rfl rfl rfl rfl (ok_slices_Contains_string_string _ _ h1 _ _ ) <| L (bA (!r9)) rfl rfl rfl <| L (Sl.av 1 c_str l) rfl rfl rfl <| L (bA (!r9)) rfl rfl rfl <| nl <| rt ?_
 obtain rfl := Option.some.inj hF0
 exact rd_leaf (.inr rfl) rfl (ret_tup2 (retV_pl _ _ (Sl.av 1 c_str l)) (retV_pl _ _ (bA (!r9)))) rfl rfl

theorem ok_stringslite_HasPrefix (s_ : Str) (prefix_ : Str) {r : (Bool)} (hF0 : stringslite_HasPrefix s_ prefix_ = some r) (out : List AE.Frame) (glob : List AObj) : RdOk Tryz.prog pol true 85 [(sA s_), (sA prefix_)] out glob (bA r) := by
 unfold stringslite_HasPrefix at hF0
 refine rd_walk Tryz.func85 rfl (Nat.not_lt.2 (Nat.le_of_ble_eq_true rfl)) ?_
 intro ro
 refine sq <| rg <| L (bA false) rfl rfl rfl <| nl <| sq <| rg <| L (sA s_) rfl rfl rfl <| L (iA (s_.length : Int)) rfl rfl rfl <| L (sA prefix_) rfl rfl rfl <| L (iA (prefix_.length : Int)) rfl rfl rfl <| L (bA (decide ((s_.length : Int) ≥ (prefix_.length : Int)))) rfl rfl rfl ?_
 obtain ⟨y1, hF1, hF0⟩ := bind_some hF0
 obtain ⟨J1, hJ1⟩ : ∃ J : St → Prop, ∀ st, J st ↔ (∃ (t17 : Bool) (tm2 : Nat → AV) (cb2 : AE.Frame), st = ⟨tm2, ⟨cb2, out, glob⟩⟩ ∧ AllEq tm2 [(17, (bA t17))] ∧ AllEq cb2 [] ∧ t17 = y1) := ⟨_, fun _ => Iff.rfl⟩
 refine WO_cut 8 J1 (fun st hst => ?_) ?_
 · obtain ⟨t17, tm2, cb2, rfl, hT2, hC2, rfl⟩ := (hJ1 st).1 hst
   obtain ⟨tm2, rfl⟩ := allEq hT2
   obtain ⟨cb2, rfl⟩ := allEq hC2
   refine L (bA t17) rfl rfl rfl <| nl <| rt ?_
   obtain rfl := Option.some.inj hF0
   exact rd_leaf (.inr rfl) rfl (retV_pl _ _ (bA t17)) rfl rfl
 · rcases bool_cases (decide ((s_.length : Int) ≥ (prefix_.length : Int))) with hc1 | hc1
   · replace hF1 := ite_t hF1 (dec_t hc1)
     refine L (.bool true) rfl rfl (congrArg (fun b => some (AV.bool b, _)) hc1) <| L (sA s_) rfl rfl rfl <| L (sA prefix_) rfl rfl rfl <| L (iA (prefix_.length : Int)) rfl rfl rfl ?_
     obtain ⟨r141, h_r141, hF1⟩ := bind_some hF1
     refine L (sA r141) rfl rfl (op_slice rfl (sl_str (a := 0) (b := (prefix_.length : Int)) rfl rfl rfl h_r141)) ?_
     exact L (sA prefix_) rfl rfl rfl <| L (bA (r141 == prefix_)) rfl rfl (op_bin rfl bin_seq) <| L (bA (r141 == prefix_)) rfl rfl rfl <| nl ((hJ1 _).2 ⟨r141 == prefix_, _, _, rfl, (And.intro rfl True.intro), True.intro, Option.some.inj hF1⟩)
   · replace hF1 := ite_f hF1 (dec_f hc1)
     exact L (.bool false) rfl rfl (congrArg (fun b => some (AV.bool b, _)) hc1) <| WO_no _ rfl rfl <| WO_no _ rfl rfl <| WO_no _ rfl rfl <| WO_no _ rfl rfl <| WO_no _ rfl rfl <| WO_no _ rfl rfl <| L (bA false) rfl rfl rfl <| nl ((hJ1 _).2 ⟨false, _, _, rfl, (And.intro rfl True.intro), True.intro, Option.some.inj hF1⟩)

theorem ok_stringslite_TrimPrefix (s_ : Str) (prefix_ : Str) {r : (Str)} (hF0 : stringslite_TrimPrefix s_ prefix_ = some r) (out : List AE.Frame) (glob : List AObj) : RdOk Tryz.prog pol true 67 [(sA s_), (sA prefix_)] out glob (sA r) := by
 unfold stringslite_TrimPrefix at hF0
 refine rd_walk Tryz.func67 rfl (Nat.not_lt.2 (Nat.le_of_ble_eq_true rfl)) ?_
 intro ro
 refine sq <| rg <| L (sA []) rfl rfl rfl <| nl <| sq <| sq <| rg <| L (sA s_) rfl rfl rfl <| L (sA prefix_) rfl rfl rfl ?_
 obtain ⟨r7, h1, hF0⟩ := bind_some hF0
 refine WO_rd (g := 85) (args := [(sA s_), (sA prefix_)]) (r := (bA r7)) _ _ rfl rfl rfl rfl rfl rfl rfl (ok_stringslite_HasPrefix _ _ h1 _ _ ) <| nl <| cd r7 rfl (fun hc2 => ?_) (fun hc2 => ?_)
 · replace hF0 := ite_t hF0 (hc2)
   refine sq <| rg <| L (sA s_) rfl rfl rfl <| L (sA prefix_) rfl rfl rfl <| L (iA (prefix_.length : Int)) rfl rfl rfl ?_
   obtain ⟨r4, h_r4, hF0⟩ := bind_some hF0
   refine L (sA r4) rfl rfl (op_slice rfl (sl_str (a := (prefix_.length : Int)) (b := (s_.length : Int)) rfl rfl rfl h_r4)) ?_
   refine L (sA r4) rfl rfl rfl <| nl <| rt ?_
   obtain rfl := Option.some.inj hF0
   exact rd_leaf (.inr rfl) rfl (retV_pl _ _ (sA r4)) rfl rfl
 · replace hF0 := ite_f hF0 (not_t hc2)
   refine sk <| sq <| rg <| L (sA s_) rfl rfl rfl <| L (sA s_) rfl rfl rfl <| nl <| rt ?_
   obtain rfl := Option.some.inj hF0
   exact rd_leaf (.inr rfl) rfl (retV_pl _ _ (sA s_)) rfl rfl

theorem ok_strings_TrimPrefix (s_ : Str) (prefix_ : Str) {r : (Str)} (hF0 : strings_TrimPrefix s_ prefix_ = some r) (out : List AE.Frame) (glob : List AObj) : RdOk Tryz.prog pol true 51 [(sA s_), (sA prefix_)] out glob (sA r) := by
 unfold strings_TrimPrefix at hF0
 refine rd_walk Tryz.func51 rfl (Nat.not_lt.2 (Nat.le_of_ble_eq_true rfl)) ?_
 intro ro
 refine sq <| rg <| L (sA []) rfl rfl rfl <| nl <| sq <| rg <| L (sA s_) rfl rfl rfl <| L (sA prefix_) rfl rfl rfl ?_
 obtain ⟨r4, h1, hF0⟩ := bind_some hF0
 refine WO_rd (g := 67) (args := [(sA s_), (sA prefix_)]) (r := (sA r4)) _ _ rfl rfl rfl rfl rfl rfl rfl (ok_stringslite_TrimPrefix _ _ h1 _ _ ) <| L (sA r4) rfl rfl rfl <| nl <| rt ?_
 obtain rfl := Option.some.inj hF0
 exact rd_leaf (.inr rfl) rfl (retV_pl _ _ (sA r4)) rfl rfl

theorem ok_kit_Number (s_ : Str) (most : Int) {r : (Int × Bool)} (hF0 : kit_Number s_ most = some r) (out : List AE.Frame) (glob : List AObj) : RdOk Tryz.prog pol true 48 [(sA s_), (iA most)] out glob (.tup [(iA r.1), (bA r.2)]) := by
 unfold kit_Number at hF0
 refine rd_walk Tryz.func48 rfl (Nat.not_lt.2 (Nat.le_of_ble_eq_true rfl)) ?_
 intro ro
 refine sq <| rg <| L (iA 0) rfl rfl rfl <| L (bA false) rfl rfl rfl <| nl <| sq <| rg <| L (sA s_) rfl rfl rfl ?_
 obtain ⟨digits, h1, hF0⟩ := bind_some hF0
 refine WO_rd (g := 51) (args := [(sA s_), (sA [45])]) (r := (sA digits)) _ _ rfl rfl rfl rfl rfl rfl rfl (ok_strings_TrimPrefix _ _ h1 _ _ ) <| L (sA digits) rfl rfl rfl <| nl <| sq <| sq <| rg <| L (sA digits) rfl rfl rfl <| L (bA (digits == [])) rfl rfl (op_bin rfl bin_seq) ?_
 obtain ⟨J2, hJ2⟩ : ∃ J : St → Prop, ∀ st, J st ↔ (∃ (tm3 : Nat → AV) (cb3 : AE.Frame), st = ⟨tm3, ⟨cb3, out, glob⟩⟩ ∧ AllEq tm3 [(0, (sA s_)), (6, (sA digits)), (19, (bA ((digits == []) || (decide ((digits.length : Int) > most)))))] ∧ AllEq cb3 []) := ⟨_, fun _ => Iff.rfl⟩
 refine WO_cut 6 J2 (fun st hst => ?_) ?_
 · obtain ⟨tm3, cb3, rfl, hT3, hC3⟩ := (hJ2 st).1 hst
   obtain ⟨tm3, rfl⟩ := allEq hT3
   obtain ⟨cb3, rfl⟩ := allEq hC3
   obtain ⟨y6, hF1, hF0⟩ := bind_some hF0
   obtain ⟨J6, hJ6⟩ : ∃ J : St → Prop, ∀ st, J st ↔ (∃ (t28 : Bool) (tm7 : Nat → AV) (cb7 : AE.Frame), st = ⟨tm7, ⟨cb7, out, glob⟩⟩ ∧ AllEq tm7 [(0, (sA s_)), (6, (sA digits)), (28, (bA t28))] ∧ AllEq cb7 [] ∧ t28 = y6) := ⟨_, fun _ => Iff.rfl⟩
   refine WO_cut 9 J6 (fun st hst => ?_) ?_
   · obtain ⟨t28, tm7, cb7, rfl, hT7, hC7, rfl⟩ := (hJ6 st).1 hst
     obtain ⟨tm7, rfl⟩ := allEq hT7
     obtain ⟨cb7, rfl⟩ := allEq hC7
     refine nl <| cd t28 rfl (fun hc20 => ?_) (fun hc20 => ?_)
     · replace hF0 := ite_t hF0 (hc20)
       refine sq <| rg <| L (iA 0) rfl rfl rfl <| L (bA false) rfl rfl rfl <| nl <| rt ?_
       obtain rfl := Option.some.inj hF0
       exact rd_leaf (.inr rfl) rfl (ret_tup2 (retV_pl _ _ (iA 0)) (retV_pl _ _ (bA false))) rfl rfl
     · replace hF0 := ite_f hF0 (not_t hc20)
       refine sk <| sq <| sq <| rg <| L (iA 0) rfl rfl rfl <| nl <| bk ?_
       obtain ⟨b1, hb13, hF0⟩ := bind_some hF0
       obtain ⟨J13, hJ13⟩ : ∃ J : St → Prop, ∀ st, J st ↔ (∃ (tm15 : Nat → AV) (cb15 : AE.Frame), st = ⟨tm15, ⟨cb15, out, glob⟩⟩ ∧ AllEq tm15 [(0, (sA s_))] ∧ AllEq cb15 [] ∧ Res.out () = b1) := ⟨_, fun _ => Iff.rfl⟩
       obtain ⟨R13, hR13⟩ : ∃ R : (Int) → St → Prop, ∀ v st, R v st ↔ (match v with | i1 => ∃ (tm14 : Nat → AV) (cb14 : AE.Frame), st = ⟨tm14, ⟨cb14, out, glob⟩⟩ ∧ AllEq tm14 [(0, (sA s_)), (6, (sA digits)), (7, (iA i1))] ∧ AllEq cb14 []) := ⟨_, fun _ _ => Iff.rfl⟩
       refine W_loopcut J13 (fun st hst => ?_) ?_
       · obtain ⟨tm15, cb15, rfl, hT15, hC15, rfl⟩ := (hJ13 st).1 hst
         obtain ⟨tm15, rfl⟩ := allEq hT15
         obtain ⟨cb15, rfl⟩ := allEq hC15
         replace hF0 := res_out hF0
         refine sq <| rg <| L (sA s_) rfl rfl rfl ?_
         obtain ⟨r47, h_r47, hF0⟩ := bind_some hF0
         refine L (.tup [(iA r47), .nili]) rfl rfl (op_lib _ rfl rfl rfl (x_atoi_eq h_r47)) <| L (.tup [(iA r47), .nili]) rfl rfl rfl <| L (iA r47) rfl rfl rfl <| L .nili rfl rfl rfl <| L (iA r47) rfl rfl rfl <| L .nili rfl rfl rfl <| nl <| sq <| dw (by kernel_rfl) <| L (iA r47) rfl rfl rfl <| L .nili rfl rfl rfl <| L (bA true) rfl rfl (op_bin rfl rfl) <| L (iA r47) rfl rfl rfl <| L (bA true) rfl rfl rfl <| nl <| rt ?_
         obtain rfl := Option.some.inj hF0
         exact rd_leaf (.inr rfl) rfl (ret_tup2 (retV_pl _ _ (iA r47)) (retV_pl _ _ (bA true))) rfl rfl
       · refine W_loopV hb13 R13 ((hR13 _ _).2 ⟨_, _, rfl, (And.intro rfl (And.intro rfl (And.intro rfl True.intro))), True.intro⟩) ?_
         intro v st s hr hF1 hD1
         obtain ⟨i1, hv_⟩ : ∃ z, z = v := ⟨_, rfl⟩; subst hv_
         obtain ⟨tm14, cb14, rfl, hT14, hC14⟩ := (hR13 _ _).1 hr
         obtain ⟨tm14, rfl⟩ := allEq hT14
         obtain ⟨cb14, rfl⟩ := allEq hC14
         dsimp only [kit_Number_l0] at hF1
         refine sq <| sq <| rg <| L (iA i1) rfl rfl rfl <| L (sA digits) rfl rfl rfl <| L (iA (digits.length : Int)) rfl rfl rfl <| L (bA (decide (i1 < (digits.length : Int)))) rfl rfl rfl <| nl <| cd (decide (i1 < (digits.length : Int))) rfl (fun hc19 => ?_) (fun hc19 => ?_)
         · replace hF1 := ite_t hF1 (dec_t hc19)
           refine sk <| sq <| bk <| sq <| rg <| L (sA digits) rfl rfl rfl <| L (iA i1) rfl rfl rfl ?_
           obtain ⟨r371, h_r371, hF1⟩ := bind_some hF1
           refine L (.int .u8 r371) rfl rfl (op_index rfl (ix_str rfl h_r371)) <| L (bA (decide (r371 < 48))) rfl rfl rfl ?_
           obtain ⟨y16, hF2, hF1⟩ := bind_some hF1
           obtain ⟨J16, hJ16⟩ : ∃ J : St → Prop, ∀ st, J st ↔ (∃ (t441 : Bool) (tm17 : Nat → AV) (cb17 : AE.Frame), st = ⟨tm17, ⟨cb17, out, glob⟩⟩ ∧ AllEq tm17 [(0, (sA s_)), (6, (sA digits)), (7, (iA i1)), (44, (bA t441))] ∧ AllEq cb17 [] ∧ t441 = y16) := ⟨_, fun _ => Iff.rfl⟩
           refine WO_cut 6 J16 (fun st hst => ?_) ?_
           · obtain ⟨t441, tm17, cb17, rfl, hT17, hC17, rfl⟩ := (hJ16 st).1 hst
             obtain ⟨tm17, rfl⟩ := allEq hT17
             obtain ⟨cb17, rfl⟩ := allEq hC17
             refine nl <| cd t441 rfl (fun hc18 => ?_) (fun hc18 => ?_)
             · replace hF1 := ite_t hF1 (hc18)
               refine sq <| rg <| L (iA 0) rfl rfl rfl <| L (bA false) rfl rfl rfl <| nl <| rt ?_
               obtain rfl := hD1 _ (Option.some.inj hF1).symm
               replace hF0 := res_ret hF0
               obtain rfl := Option.some.inj hF0
               exact rd_leaf (.inr rfl) rfl (ret_tup2 (retV_pl _ _ (iA 0)) (retV_pl _ _ (bA false))) rfl rfl
             · replace hF1 := ite_f hF1 (not_t hc18)
               exact sk <| rg <| L (iA i1) rfl rfl rfl <| L (iA (w64 (i1 + 1))) rfl rfl rfl <| L (iA (w64 (i1 + 1))) rfl rfl rfl <| nl <| Exists.intro _ (And.intro (Option.some.inj hF1).symm ((hR13  _ _).2 ⟨_, _, rfl, (And.intro rfl (And.intro rfl (And.intro rfl True.intro))), True.intro⟩))
           · rcases bool_cases (decide (r371 < 48)) with hc16 | hc16
             · replace hF2 := ite_t hF2 (dec_t hc16)
               exact L (.bool true) rfl rfl (congrArg (fun b => some (AV.bool b, _)) hc16) <| WO_no _ rfl rfl <| WO_no _ rfl rfl <| WO_no _ rfl rfl <| WO_no _ rfl rfl <| L (bA true) rfl rfl rfl <| nl ((hJ16 _).2 ⟨true, _, _, rfl, (And.intro rfl (And.intro rfl (And.intro rfl (And.intro rfl True.intro)))), True.intro, Option.some.inj hF2⟩)
             · replace hF2 := ite_f hF2 (dec_f hc16)
               refine L (.bool false) rfl rfl (congrArg (fun b => some (AV.bool b, _)) hc16) <| L (sA digits) rfl rfl rfl <| L (iA i1) rfl rfl rfl ?_
               obtain ⟨r423, h_r423, hF2⟩ := bind_some hF2
               exact L (.int .u8 r423) rfl rfl (op_index rfl (ix_str rfl h_r423)) <| L (bA (decide (r423 > 57))) rfl rfl rfl <| L (bA (decide (r423 > 57))) rfl rfl rfl <| nl ((hJ16 _).2 ⟨decide (r423 > 57), _, _, rfl, (And.intro rfl (And.intro rfl (And.intro rfl (And.intro rfl True.intro)))), True.intro, Option.some.inj hF2⟩)
         · replace hF1 := ite_f hF1 (dec_f hc19)
           exact xt <| (hJ13 _).2 ⟨_, _, rfl, (And.intro rfl True.intro), True.intro, hD1 _ (Option.some.inj hF1).symm⟩
   · rcases bool_cases ((digits == []) || (decide ((digits.length : Int) > most))) with hc6 | hc6
     · replace hF1 := ite_t hF1 (hc6)
       exact L (.bool true) rfl rfl (congrArg (fun b => some (AV.bool b, _)) hc6) <| WO_no _ rfl rfl <| WO_no _ rfl rfl <| WO_no _ rfl rfl <| WO_no _ rfl rfl <| WO_no _ rfl rfl <| WO_no _ rfl rfl <| WO_no _ rfl rfl <| L (bA true) rfl rfl rfl <| nl ((hJ6 _).2 ⟨true, _, _, rfl, (And.intro rfl (And.intro rfl (And.intro rfl True.intro))), True.intro, Option.some.inj hF1⟩)
     · replace hF1 := ite_f hF1 (not_t hc6)
       refine L (.bool false) rfl rfl (congrArg (fun b => some (AV.bool b, _)) hc6) <| L (sA digits) rfl rfl rfl ?_
       obtain ⟨r221, h_r221, hF1⟩ := bind_some hF1
       refine L (.int .u8 r221) rfl rfl (op_index rfl (ix_str rfl h_r221)) <| L (bA (r221 == 48)) rfl rfl rfl ?_
       obtain ⟨J21, hJ21⟩ : ∃ J : St → Prop, ∀ st, J st ↔ (∃ (tm22 : Nat → AV) (cb22 : AE.Frame), st = ⟨tm22, ⟨cb22, out, glob⟩⟩ ∧ AllEq tm22 [(0, (sA s_)), (6, (sA digits)), (20, (bA false)), (27, (bA ((r221 == 48) && (s_ != [48]))))] ∧ AllEq cb22 []) := ⟨_, fun _ => Iff.rfl⟩
       refine WO_cut 4 J21 (fun st hst => ?_) ?_
       · obtain ⟨tm22, cb22, rfl, hT22, hC22⟩ := (hJ21 st).1 hst
         obtain ⟨tm22, rfl⟩ := allEq hT22
         obtain ⟨cb22, rfl⟩ := allEq hC22
         exact L (bA ((r221 == 48) && (s_ != [48]))) rfl rfl rfl <| nl ((hJ6 _).2 ⟨((r221 == 48) && (s_ != [48])), _, _, rfl, (And.intro rfl (And.intro rfl (And.intro rfl True.intro))), True.intro, Option.some.inj hF1⟩)
       · rcases bool_cases (r221 == 48) with hc21 | hc21
         · exact L (.bool true) rfl rfl (congrArg (fun b => some (AV.bool b, _)) hc21) <| L (sA s_) rfl rfl rfl <| L (bA (s_ != [48])) rfl rfl (op_bin rfl bin_sne) <| L (bA ((r221 == 48) && (s_ != [48]))) rfl rfl (congrArg (fun b => some (AV.bool b, _)) (by rw [hc21]; rfl)) <| nl ((hJ21 _).2 ⟨_, _, rfl, (And.intro rfl (And.intro rfl (And.intro rfl (And.intro rfl True.intro)))), True.intro⟩)
         · exact L (.bool false) rfl rfl (congrArg (fun b => some (AV.bool b, _)) hc21) <| WO_no _ rfl rfl <| WO_no _ rfl rfl <| L (bA ((r221 == 48) && (s_ != [48]))) rfl rfl (congrArg (fun b => some (AV.bool b, _)) (by rw [hc21]; rfl)) <| nl ((hJ21 _).2 ⟨_, _, rfl, (And.intro rfl (And.intro rfl (And.intro rfl (And.intro rfl True.intro)))), True.intro⟩)
 · rcases bool_cases (digits == []) with hc2 | hc2
   · exact L (.bool true) rfl rfl (congrArg (fun b => some (AV.bool b, _)) hc2) <| WO_no _ rfl rfl <| WO_no _ rfl rfl <| WO_no _ rfl rfl <| WO_no _ rfl rfl <| L (bA ((digits == []) || (decide ((digits.length : Int) > most)))) rfl rfl (congrArg (fun b => some (AV.bool b, _)) (by rw [hc2]; rfl)) <| nl ((hJ2 _).2 ⟨_, _, rfl, (And.intro rfl (And.intro rfl (And.intro rfl True.intro))), True.intro⟩)
   · exact L (.bool false) rfl rfl (congrArg (fun b => some (AV.bool b, _)) hc2) <| L (sA digits) rfl rfl rfl <| L (iA (digits.length : Int)) rfl rfl rfl <| L (iA most) rfl rfl rfl <| L (bA (decide ((digits.length : Int) > most))) rfl rfl rfl <| L (bA ((digits == []) || (decide ((digits.length : Int) > most)))) rfl rfl (congrArg (fun b => some (AV.bool b, _)) (by rw [hc2]; rfl)) <| nl ((hJ2 _).2 ⟨_, _, rfl, (And.intro rfl (And.intro rfl (And.intro rfl True.intro))), True.intro⟩)

theorem ok_limit_readLimit (line : Str) {r : (api_Limit × Bool)} (hF0 : limit_readLimit line = some r) (out : List AE.Frame) (glob : List AObj) : RdOk Tryz.prog pol true 30 [(sA line)] out glob (.tup [(.agg (c_api_Limit r.1)), (bA r.2)]) := by
 unfold limit_readLimit at hF0
 refine rd_walk Tryz.func30 rfl (Nat.not_lt.2 (Nat.le_of_ble_eq_true rfl)) ?_
 intro ro
 refine sq <| rg <| L (.ptr (.fr 0 2) 1 0) (h' := ⟨upd _ 2 ⟨1, .cells (c_api_Limit (api_Limit.mk [] 0 0 0 0))⟩, _, _⟩) rfl rfl (op_alloc (c_api_Limit (api_Limit.mk [] 0 0 0 0)) rfl rfl rfl rfl) <| L (bA false) rfl rfl rfl <| nl <| sq <| rg <| L (sA line) rfl rfl rfl ?_
 obtain ⟨⟨w, ok_⟩, h1, hF0⟩ := bind_some hF0
 refine WO_rd (g := 47) (args := [(sA line)]) (r := (.tup [(Sl.av 1 c_str w), (bA ok_)])) _ _ rfl rfl rfl rfl rfl rfl rfl (ok_kit_Words _ h1 _ _ ) <| L (.tup [(Sl.av 1 c_str w), (bA ok_)]) rfl rfl rfl <| L (Sl.av 1 c_str w) rfl rfl rfl <| L (bA ok_) rfl rfl rfl <| L (Sl.av 1 c_str w) rfl rfl rfl <| L (bA ok_) rfl rfl rfl <| nl <| sq <| sq <| rg <| L (bA ok_) rfl rfl rfl <| L (bA (!ok_)) rfl rfl rfl ?_
 obtain ⟨J2, hJ2⟩ : ∃ J : St → Prop, ∀ st, J st ↔ (∃ (tm3 : Nat → AV) (cb3 : AE.Frame), st = ⟨tm3, ⟨cb3, out, glob⟩⟩ ∧ AllEq tm3 [(2, (.ptr (.fr 0 2) 1 0)), (4, (Sl.av 1 c_str w)), (24, (bA ((!ok_) || ((w.list.length : Int) != 5))))] ∧ AllEq cb3 [(2, ⟨1, .cells (c_api_Limit (api_Limit.mk [] 0 0 0 0))⟩)]) := ⟨_, fun _ => Iff.rfl⟩
 refine WO_cut 5 J2 (fun st hst => ?_) ?_
 · obtain ⟨tm3, cb3, rfl, hT3, hC3⟩ := (hJ2 st).1 hst
   obtain ⟨tm3, rfl⟩ := allEq hT3
   obtain ⟨cb3, rfl⟩ := allEq hC3
   refine nl <| cd ((!ok_) || ((w.list.length : Int) != 5)) rfl (fun hc15 => ?_) (fun hc15 => ?_)
   · replace hF0 := ite_t hF0 (hc15)
     refine sq <| rg <| L (.agg (c_api_Limit (api_Limit.mk [] 0 0 0 0))) rfl rfl (op_build rfl (build_st (cs := (c_api_Limit (api_Limit.mk [] 0 0 0 0))) rfl rfl rfl (fill_nil))) <| L (.tup []) (h' := ⟨upd _ 2 ⟨1, .cells (c_api_Limit (api_Limit.mk [] 0 0 0 0))⟩, _, _⟩) rfl rfl (op_store rfl rfl (st_fr (x := (.agg (c_api_Limit (api_Limit.mk [] 0 0 0 0)))) (cs := (c_api_Limit (api_Limit.mk [] 0 0 0 0))) (c_api_Limit (api_Limit.mk [] 0 0 0 0)) rfl rfl (Nat.le_of_ble_eq_true rfl) rfl)) <| L (bA false) rfl rfl rfl <| nl <| rt ?_
     obtain rfl := Option.some.inj hF0
     exact rd_leaf (.inr rfl) (res_cell (ld_fr (y := (.agg (c_api_Limit (api_Limit.mk [] 0 0 0 0)))) rfl rfl (cs := (c_api_Limit (api_Limit.mk [] 0 0 0 0))) rfl rfl) (res_tmp (bA false) rfl (res_nil))) (ret_tup2 (retV_pl _ _ (.agg (c_api_Limit (api_Limit.mk [] 0 0 0 0)))) (retV_pl _ _ (bA false))) rfl rfl
   · replace hF0 := ite_f hF0 (not_t hc15)
     refine sk <| sq <| dw (by kernel_rfl) ?_
     obtain ⟨r26, h4, hF0⟩ := bind_some hF0
     refine WO_rd (g := 20) (args := []) (r := (Sl.av 1 c_str r26)) _ _ rfl rfl rfl rfl rfl rfl rfl (ok_limit_kindWords  h4 _ _ ) <| L (Sl.av 1 c_str w) rfl rfl rfl ?_
     obtain ⟨x, h_x, hF0⟩ := bind_some hF0
     refine L (.cptr [(sA x)]) rfl rfl (op_ix rfl (ix_sl (c := c_str) rfl rfl h_x)) <| L (sA x) rfl rfl rfl ?_
     obtain ⟨kind, h5, hF0⟩ := bind_some hF0
     refine WO_rd (g := 34) (args := [(Sl.av 1 c_str r26), (sA x)]) (r := (iA kind)) _ _ rfl rfl rfl rfl rfl rfl rfl (ok_slices_Index_string_string _ _ h5 _ _ ) <| L (iA kind) rfl rfl rfl <| nl <| sq <| rg <| L (Sl.av 1 c_str w) rfl rfl rfl ?_
     obtain ⟨x1, h_x1, hF0⟩ := bind_some hF0
     refine L (.cptr [(sA x1)]) rfl rfl (op_ix rfl (ix_sl (c := c_str) rfl rfl h_x1)) <| L (sA x1) rfl rfl rfl ?_
     obtain ⟨⟨most, one⟩, h6, hF0⟩ := bind_some hF0
     refine WO_rd (g := 48) (args := [(sA x1), (iA 10)]) (r := (.tup [(iA most), (bA one)])) _ _ rfl rfl rfl rfl rfl rfl rfl (ok_kit_Number _ _ h6 _ _ ) <| L (.tup [(iA most), (bA one)]) rfl rfl rfl <| L (iA most) rfl rfl rfl <| L (bA one) rfl rfl rfl <| L (iA most) rfl rfl rfl <| L (bA one) rfl rfl rfl <| nl <| sq <| rg <| L (Sl.av 1 c_str w) rfl rfl rfl ?_
     obtain ⟨x2, h_x2, hF0⟩ := bind_some hF0
     refine L (.cptr [(sA x2)]) rfl rfl (op_ix rfl (ix_sl (c := c_str) rfl rfl h_x2)) <| L (sA x2) rfl rfl rfl ?_
     obtain ⟨⟨per, two⟩, h7, hF0⟩ := bind_some hF0
     refine WO_rd (g := 48) (args := [(sA x2), (iA 10)]) (r := (.tup [(iA per), (bA two)])) _ _ rfl rfl rfl rfl rfl rfl rfl (ok_kit_Number _ _ h7 _ _ ) <| L (.tup [(iA per), (bA two)]) rfl rfl rfl <| L (iA per) rfl rfl rfl <| L (bA two) rfl rfl rfl <| L (iA per) rfl rfl rfl <| L (bA two) rfl rfl rfl <| nl <| sq <| rg <| L (Sl.av 1 c_str w) rfl rfl rfl ?_
     obtain ⟨x3, h_x3, hF0⟩ := bind_some hF0
     refine L (.cptr [(sA x3)]) rfl rfl (op_ix rfl (ix_sl (c := c_str) rfl rfl h_x3)) <| L (sA x3) rfl rfl rfl ?_
     obtain ⟨⟨burst, three⟩, h8, hF0⟩ := bind_some hF0
     refine WO_rd (g := 48) (args := [(sA x3), (iA 10)]) (r := (.tup [(iA burst), (bA three)])) _ _ rfl rfl rfl rfl rfl rfl rfl (ok_kit_Number _ _ h8 _ _ ) <| L (.tup [(iA burst), (bA three)]) rfl rfl rfl <| L (iA burst) rfl rfl rfl <| L (bA three) rfl rfl rfl <| L (iA burst) rfl rfl rfl <| L (bA three) rfl rfl rfl <| nl <| sq <| rg <| L (Sl.av 1 c_str w) rfl rfl rfl ?_
     obtain ⟨x4, h_x4, hF0⟩ := bind_some hF0
     refine L (.cptr [(sA x4)]) rfl rfl (op_ix rfl (ix_sl (c := c_str) rfl rfl h_x4)) <| L (sA x4) rfl rfl rfl <| L (iA kind) rfl rfl rfl <| L (iA most) rfl rfl rfl <| L (iA per) rfl rfl rfl <| L (iA burst) rfl rfl rfl <| L (.agg (c_api_Limit (api_Limit.mk x4 kind most per burst))) rfl rfl (op_build rfl (build_st (cs := (c_api_Limit (api_Limit.mk x4 kind most per burst))) rfl rfl rfl (fill_cons (x := (sA x4)) rfl rfl (Nat.le_of_ble_eq_true rfl) (fill_cons (x := (iA kind)) rfl rfl (Nat.le_of_ble_eq_true rfl) (fill_cons (x := (iA most)) rfl rfl (Nat.le_of_ble_eq_true rfl) (fill_cons (x := (iA per)) rfl rfl (Nat.le_of_ble_eq_true rfl) (fill_cons (x := (iA burst)) rfl rfl (Nat.le_of_ble_eq_true rfl) (fill_nil)))))))) <| L (iA kind) rfl rfl rfl <| L (bA (decide (kind > 0))) rfl rfl rfl ?_
     obtain ⟨J9, hJ9⟩ : ∃ J : St → Prop, ∀ st, J st ↔ (∃ (tm10 : Nat → AV) (cb10 : AE.Frame), st = ⟨tm10, ⟨cb10, out, glob⟩⟩ ∧ AllEq tm10 [(2, (.ptr (.fr 0 2) 1 0)), (10, (bA two)), (12, (bA three)), (59, (.agg (c_api_Limit (api_Limit.mk x4 kind most per burst)))), (64, (bA ((decide (kind > 0)) && one)))] ∧ AllEq cb10 [(2, ⟨1, .cells (c_api_Limit (api_Limit.mk [] 0 0 0 0))⟩)]) := ⟨_, fun _ => Iff.rfl⟩
     refine WO_cut 3 J9 (fun st hst => ?_) ?_
     · obtain ⟨tm10, cb10, rfl, hT10, hC10⟩ := (hJ9 st).1 hst
       obtain ⟨tm10, rfl⟩ := allEq hT10
       obtain ⟨cb10, rfl⟩ := allEq hC10
       obtain ⟨J11, hJ11⟩ : ∃ J : St → Prop, ∀ st, J st ↔ (∃ (tm12 : Nat → AV) (cb12 : AE.Frame), st = ⟨tm12, ⟨cb12, out, glob⟩⟩ ∧ AllEq tm12 [(2, (.ptr (.fr 0 2) 1 0)), (12, (bA three)), (59, (.agg (c_api_Limit (api_Limit.mk x4 kind most per burst)))), (67, (bA (((decide (kind > 0)) && one) && two)))] ∧ AllEq cb12 [(2, ⟨1, .cells (c_api_Limit (api_Limit.mk [] 0 0 0 0))⟩)]) := ⟨_, fun _ => Iff.rfl⟩
       refine WO_cut 3 J11 (fun st hst => ?_) ?_
       · obtain ⟨tm12, cb12, rfl, hT12, hC12⟩ := (hJ11 st).1 hst
         obtain ⟨tm12, rfl⟩ := allEq hT12
         obtain ⟨cb12, rfl⟩ := allEq hC12
         obtain ⟨J13, hJ13⟩ : ∃ J : St → Prop, ∀ st, J st ↔ (∃ (tm14 : Nat → AV) (cb14 : AE.Frame), st = ⟨tm14, ⟨cb14, out, glob⟩⟩ ∧ AllEq tm14 [(2, (.ptr (.fr 0 2) 1 0)), (59, (.agg (c_api_Limit (api_Limit.mk x4 kind most per burst)))), (70, (bA ((((decide (kind > 0)) && one) && two) && three)))] ∧ AllEq cb14 [(2, ⟨1, .cells (c_api_Limit (api_Limit.mk [] 0 0 0 0))⟩)]) := ⟨_, fun _ => Iff.rfl⟩
         refine WO_cut 3 J13 (fun st hst => ?_) ?_
         · obtain ⟨tm14, cb14, rfl, hT14, hC14⟩ := (hJ13 st).1 hst
           obtain ⟨tm14, rfl⟩ := allEq hT14
           obtain ⟨cb14, rfl⟩ := allEq hC14
           refine L (.tup []) (h' := ⟨upd _ 2 ⟨1, .cells (c_api_Limit (api_Limit.mk x4 kind most per burst))⟩, _, _⟩) rfl rfl (op_store rfl rfl (st_fr (x := (.agg (c_api_Limit (api_Limit.mk x4 kind most per burst)))) (cs := (c_api_Limit (api_Limit.mk [] 0 0 0 0))) (c_api_Limit (api_Limit.mk x4 kind most per burst)) rfl rfl (Nat.le_of_ble_eq_true rfl) rfl)) <| L (bA ((((decide (kind > 0)) && one) && two) && three)) rfl rfl rfl <| nl <| rt ?_
           obtain rfl := Option.some.inj hF0
           exact rd_leaf (.inr rfl) (res_cell (ld_fr (y := (.agg (c_api_Limit (api_Limit.mk x4 kind most per burst)))) rfl rfl (cs := (c_api_Limit (api_Limit.mk x4 kind most per burst))) rfl rfl) (res_tmp (bA ((((decide (kind > 0)) && one) && two) && three)) rfl (res_nil))) (ret_tup2 (retV_pl _ _ (.agg (c_api_Limit (api_Limit.mk x4 kind most per burst)))) (retV_pl _ _ (bA ((((decide (kind > 0)) && one) && two) && three)))) rfl rfl
         · rcases bool_cases (((decide (kind > 0)) && one) && two) with hc13 | hc13
           · exact L (.bool true) rfl rfl (congrArg (fun b => some (AV.bool b, _)) hc13) <| L (bA three) rfl rfl rfl <| L (bA ((((decide (kind > 0)) && one) && two) && three)) rfl rfl (congrArg (fun b => some (AV.bool b, _)) (by rw [hc13]; rfl)) <| nl ((hJ13 _).2 ⟨_, _, rfl, (And.intro rfl (And.intro rfl (And.intro rfl True.intro))), (And.intro rfl True.intro)⟩)
           · exact L (.bool false) rfl rfl (congrArg (fun b => some (AV.bool b, _)) hc13) <| WO_no _ rfl rfl <| L (bA ((((decide (kind > 0)) && one) && two) && three)) rfl rfl (congrArg (fun b => some (AV.bool b, _)) (by rw [hc13]; rfl)) <| nl ((hJ13 _).2 ⟨_, _, rfl, (And.intro rfl (And.intro rfl (And.intro rfl True.intro))), (And.intro rfl True.intro)⟩)
       · rcases bool_cases ((decide (kind > 0)) && one) with hc11 | hc11
         · exact L (.bool true) rfl rfl (congrArg (fun b => some (AV.bool b, _)) hc11) <| L (bA two) rfl rfl rfl <| L (bA (((decide (kind > 0)) && one) && two)) rfl rfl (congrArg (fun b => some (AV.bool b, _)) (by rw [hc11]; rfl)) <| nl ((hJ11 _).2 ⟨_, _, rfl, (And.intro rfl (And.intro rfl (And.intro rfl (And.intro rfl True.intro)))), (And.intro rfl True.intro)⟩)
         · exact L (.bool false) rfl rfl (congrArg (fun b => some (AV.bool b, _)) hc11) <| WO_no _ rfl rfl <| L (bA (((decide (kind > 0)) && one) && two)) rfl rfl (congrArg (fun b => some (AV.bool b, _)) (by rw [hc11]; rfl)) <| nl ((hJ11 _).2 ⟨_, _, rfl, (And.intro rfl (And.intro rfl (And.intro rfl (And.intro rfl True.intro)))), (And.intro rfl True.intro)⟩)
     · rcases bool_cases (decide (kind > 0)) with hc9 | hc9
       · exact L (.bool true) rfl rfl (congrArg (fun b => some (AV.bool b, _)) hc9) <| L (bA one) rfl rfl rfl <| L (bA ((decide (kind > 0)) && one)) rfl rfl (congrArg (fun b => some (AV.bool b, _)) (by rw [hc9]; rfl)) <| nl ((hJ9 _).2 ⟨_, _, rfl, (And.intro rfl (And.intro rfl (And.intro rfl (And.intro rfl (And.intro rfl True.intro))))), (And.intro rfl True.intro)⟩)
       · exact L (.bool false) rfl rfl (congrArg (fun b => some (AV.bool b, _)) hc9) <| WO_no _ rfl rfl <| L (bA ((decide (kind > 0)) && one)) rfl rfl (congrArg (fun b => some (AV.bool b, _)) (by rw [hc9]; rfl)) <| nl ((hJ9 _).2 ⟨_, _, rfl, (And.intro rfl (And.intro rfl (And.intro rfl (And.intro rfl (And.intro rfl True.intro))))), (And.intro rfl True.intro)⟩)
 · rcases bool_cases (!ok_) with hc2 | hc2
   · exact L (.bool true) rfl rfl (congrArg (fun b => some (AV.bool b, _)) hc2) <| WO_no _ rfl rfl <| WO_no _ rfl rfl <| WO_no _ rfl rfl <| L (bA ((!ok_) || ((w.list.length : Int) != 5))) rfl rfl (congrArg (fun b => some (AV.bool b, _)) (by rw [hc2]; rfl)) <| nl ((hJ2 _).2 ⟨_, _, rfl, (And.intro rfl (And.intro rfl (And.intro rfl True.intro))), (And.intro rfl True.intro)⟩)
   · exact L (.bool false) rfl rfl (congrArg (fun b => some (AV.bool b, _)) hc2) <| L (Sl.av 1 c_str w) rfl rfl rfl <| L (iA (w.list.length : Int)) rfl rfl (op_len rfl rfl rfl rfl rfl (len_sl _)) <| L (bA ((w.list.length : Int) != 5)) rfl rfl rfl <| L (bA ((!ok_) || ((w.list.length : Int) != 5))) rfl rfl (congrArg (fun b => some (AV.bool b, _)) (by rw [hc2]; rfl)) <| nl ((hJ2 _).2 ⟨_, _, rfl, (And.intro rfl (And.intro rfl (And.intro rfl True.intro))), (And.intro rfl True.intro)⟩)

theorem ok_limit_Read (text : Str) {r : ((Sl api_Limit) × Int × Int)} (hF0 : limit_Read text = some r) (out : List AE.Frame) (glob : List AObj) : RdOk Tryz.prog pol true 9 [(sA text)] out glob (.tup [(Sl.av 5 c_api_Limit r.1), (iA r.2.1), (iA r.2.2)]) := by
 unfold limit_Read at hF0
 refine rd_walk Tryz.func9 rfl (Nat.not_lt.2 (Nat.le_of_ble_eq_true rfl)) ?_
 intro ro
 refine sq <| rg <| L (Sl.av 5 c_api_Limit Sl.nil) rfl rfl rfl <| L (iA 0) rfl rfl rfl <| L (iA 0) rfl rfl rfl <| nl <| sq <| sq <| rg <| L (sA text) rfl rfl rfl <| L (iA (text.length : Int)) rfl rfl rfl <| L (bA (decide ((text.length : Int) > 200000))) rfl rfl rfl <| nl <| cd (decide ((text.length : Int) > 200000)) rfl (fun hc51 => ?_) (fun hc51 => ?_)
 · replace hF0 := ite_t hF0 (dec_t hc51)
   refine sq <| rg <| L (Sl.av 5 c_api_Limit Sl.nil) rfl rfl rfl <| L (iA 0) rfl rfl rfl <| L (iA 2) rfl rfl rfl <| nl <| rt ?_
   obtain rfl := Option.some.inj hF0
   exact rd_leaf (.inr rfl) rfl (ret_tup3 (retV_pl _ _ (Sl.av 5 c_api_Limit Sl.nil)) (retV_pl _ _ (iA 0)) (retV_pl _ _ (iA 2))) rfl rfl
 · replace hF0 := ite_f hF0 (dec_f hc51)
   refine sk <| sq <| rg <| L (sA text) rfl rfl rfl ?_
   obtain ⟨⟨lines, ended⟩, h1, hF0⟩ := bind_some hF0
   refine WO_rd (g := 29) (args := [(sA text)]) (r := (.tup [(Sl.av 1 c_str lines), (bA ended)])) _ _ rfl rfl rfl rfl rfl rfl rfl (ok_kit_Lines _ h1 _ _ ) <| L (.tup [(Sl.av 1 c_str lines), (bA ended)]) rfl rfl rfl <| L (Sl.av 1 c_str lines) rfl rfl rfl <| L (bA ended) rfl rfl rfl <| L (Sl.av 1 c_str lines) rfl rfl rfl <| L (bA ended) rfl rfl rfl <| nl <| sq <| rg <| L (Sl.av 5 c_api_Limit Sl.nil) rfl rfl rfl <| nl <| sq <| sq <| rg <| L (Sl.av 1 c_str lines) rfl rfl rfl <| L (iA (lines.list.length : Int)) rfl rfl (op_len rfl rfl rfl rfl rfl (len_sl _)) <| L (iA 0) rfl rfl rfl <| nl <| bk ?_
   obtain ⟨b1, hb35, hF0⟩ := bind_some hF0
   obtain ⟨hn35, hb35⟩ := ite_none hb35
   obtain ⟨J35, hJ35⟩ : ∃ J : St → Prop, ∀ st, J st ↔ (∃ (out_6 : (Sl api_Limit)) (o50076 : AObj) (tm37 : Nat → AV) (cb37 : AE.Frame), st = ⟨tm37, ⟨cb37, out, glob⟩⟩ ∧ AllEq tm37 [(7, (Sl.lav (.fr 0 5007) o50076.ver out_6))] ∧ AllEq cb37 [(5007, o50076)] ∧ LzF 5 c_api_Limit o50076 out_6 ∧ Res.out out_6 = b1) := ⟨_, fun _ => Iff.rfl⟩
   obtain ⟨R35, hR35⟩ : ∃ R : Nat → ((Sl api_Limit)) → St → Prop, ∀ i v st, R i v st ↔ (match v with | out_5 => ∃ (o50075 : AObj) (tm36 : Nat → AV) (cb36 : AE.Frame), st = ⟨tm36, ⟨cb36, out, glob⟩⟩ ∧ AllEq tm36 [(5, (Sl.av 1 c_str lines)), (6, (bA ended)), (7, (Sl.lav (.fr 0 5007) o50075.ver out_5)), (21, (Sl.av 1 c_str lines)), (22, (iA (lines.list.length : Int))), (23, (iA ((i : Nat) : Int)))] ∧ AllEq cb36 [(5007, o50075)] ∧ LzF 5 c_api_Limit o50075 out_5) := ⟨_, fun _ _ _ => Iff.rfl⟩
   refine W_loopcut J35 (fun st hst => ?_) ?_
   · obtain ⟨out_6, o50076, tm37, cb37, rfl, hT37, hC37, hz37_0, rfl⟩ := (hJ35 st).1 hst
     obtain ⟨tm37, rfl⟩ := allEq hT37
     obtain ⟨cb37, rfl⟩ := allEq hC37
     replace hF0 := res_out hF0
     refine sq <| sq <| rg <| WO_lzfrz (s := 5007) (n := 5) (c := c_api_Limit) (x := out_6) (o := o50076) _ rfl rfl rfl rfl rfl rfl rfl (.inl hz37_0) (fun o50078 hz_48 hv48 => ?_)
     rw [← hv48]
     obtain ⟨e, h49, hF0⟩ := bind_some hF0
     refine WO_rd (g := 18) (args := [(Sl.av 5 c_api_Limit out_6)]) (r := (iA e)) _ _ rfl rfl rfl rfl rfl rfl rfl (ok_limit_CheckLimits _ h49 _ _ ) <| L (iA e) rfl rfl rfl <| nl <| sq <| rg <| L (iA e) rfl rfl rfl <| L (bA (e != 0)) rfl rfl rfl <| nl <| cd (e != 0) rfl (fun hc50 => ?_) (fun hc50 => ?_)
     · replace hF0 := ite_t hF0 (bne_t hc50)
       refine sq <| rg <| L (iA e) rfl rfl rfl <| L (Sl.av 5 c_api_Limit Sl.nil) rfl rfl rfl <| L (iA 0) rfl rfl rfl <| L (iA e) rfl rfl rfl <| nl <| rt ?_
       obtain rfl := Option.some.inj hF0
       exact rd_leaf (.inr rfl) rfl (ret_tup3 (retV_pl _ _ (Sl.av 5 c_api_Limit Sl.nil)) (retV_pl _ _ (iA 0)) (retV_pl _ _ (iA e))) rfl rfl
     · replace hF0 := ite_f hF0 (bne_f hc50)
       refine sk <| sq <| rg <| L (Sl.lav (.fr 0 5007) o50078.ver out_6) rfl rfl rfl <| L (Sl.lav (.fr 0 5007) o50078.ver out_6) rfl rfl rfl <| L (iA 0) rfl rfl rfl <| L (iA 0) rfl rfl rfl <| nl <| rt ?_
       obtain rfl := Option.some.inj hF0
       exact rd_leaf (.inr rfl) rfl (ret_tup3 (ret_lf rfl hz_48) (retV_pl _ _ (iA 0)) (retV_pl _ _ (iA 0))) rfl rfl
   · refine W_rangeL hb35 R35 ((hR35 _ _ _).2 ⟨(⟨0, .gone⟩ : AObj), _, _, rfl, (And.intro rfl (And.intro rfl (And.intro rfl (And.intro rfl (And.intro rfl (And.intro rfl True.intro)))))), (And.intro rfl True.intro), True.intro⟩) ?_ ?_
     · intro i hi35 v st s hr hF1 hD1
       obtain ⟨out_5, hv_⟩ : ∃ z, z = v := ⟨_, rfl⟩; subst hv_
       obtain ⟨o50075, tm36, cb36, rfl, hT36, hC36, hz36_0⟩ := (hR35 _ _ _).1 hr
       obtain ⟨tm36, rfl⟩ := allEq hT36
       obtain ⟨cb36, rfl⟩ := allEq hC36
       obtain ⟨line, hx35⟩ : ∃ x, x = lines.list[i] := ⟨_, rfl⟩
       rw [← hx35] at hF1
       dsimp only [limit_Read_l0] at hF1
       refine sq (rg ?_)
       refine WO_do (y := (bA (decide (((i : Nat) : Int) < (lines.list.length : Int))))) _ rfl rfl rfl (nl ?_)
       refine sq <| cd true (congrArg some (range_lt hi35)) (fun _ => ?_) (fun h => absurd h (by decide))
       refine sk <| sq <| bk <| sq <| rg <| L (iA ((i : Nat) : Int)) rfl rfl rfl <| L (.cptr [(sA line)]) rfl rfl (op_ix rfl ((ix_at (c := c_str) rfl rfl hi35).trans (congrArg (fun x => some (AV.cptr (c_str x))) hx35.symm))) <| L (sA line) rfl rfl rfl <| L (iA ((i : Nat) : Int)) rfl rfl rfl <| L (sA line) rfl rfl rfl <| nl <| sq <| rg <| L (sA line) rfl rfl rfl ?_
       obtain ⟨⟨q03, ok_3⟩, h39, hF1⟩ := bind_some hF1
       refine WO_rd (g := 30) (args := [(sA line)]) (r := (.tup [(.agg (c_api_Limit q03)), (bA ok_3)])) _ _ rfl rfl rfl rfl rfl rfl rfl (ok_limit_readLimit _ h39 _ _ ) <| L (.tup [(.agg (c_api_Limit q03)), (bA ok_3)]) rfl rfl rfl <| L (.agg (c_api_Limit q03)) rfl rfl rfl <| L (bA ok_3) rfl rfl rfl <| L (.ptr (.fr 0 10) ((cb36 10).ver + 1) 0) (h' := ⟨upd _ 10 ⟨(cb36 10).ver + 1, .cells (c_api_Limit (api_Limit.mk [] 0 0 0 0))⟩, _, _⟩) rfl rfl (op_alloc (c_api_Limit (api_Limit.mk [] 0 0 0 0)) rfl rfl rfl rfl) <| L (.tup []) (h' := ⟨upd _ 10 ⟨(cb36 10).ver + 1, .cells (c_api_Limit q03)⟩, _, _⟩) rfl rfl (op_store rfl rfl (st_fr (x := (.agg (c_api_Limit q03))) (cs := (c_api_Limit (api_Limit.mk [] 0 0 0 0))) (c_api_Limit q03) rfl rfl (Nat.le_of_ble_eq_true rfl) rfl)) <| L (bA ok_3) rfl rfl rfl <| nl <| sq <| sq <| rg <| L (bA ok_3) rfl rfl rfl <| L (bA (!ok_3)) rfl rfl rfl ?_
       obtain ⟨J42, hJ42⟩ : ∃ J : St → Prop, ∀ st, J st ↔ (∃ (tm43 : Nat → AV) (cb43 : AE.Frame), st = ⟨tm43, ⟨cb43, out, glob⟩⟩ ∧ AllEq tm43 [(5, (Sl.av 1 c_str lines)), (6, (bA ended)), (7, (Sl.lav (.fr 0 5007) o50075.ver out_5)), (8, (iA ((i : Nat) : Int))), (10, (.ptr (.fr 0 10) ((cb36 10).ver + 1) 0)), (21, (Sl.av 1 c_str lines)), (22, (iA (lines.list.length : Int))), (23, (iA ((i : Nat) : Int))), (45, (bA ((!ok_3) || ((!ended) && (((i : Nat) : Int) == (w64 ((lines.list.length : Int) - 1)))))))] ∧ AllEq cb43 [(10, ⟨(cb36 10).ver + 1, .cells (c_api_Limit q03)⟩), (5007, o50075)] ∧ LzF 5 c_api_Limit o50075 out_5) := ⟨_, fun _ => Iff.rfl⟩
       refine WO_cut 11 J42 (fun st hst => ?_) ?_
       · obtain ⟨tm43, cb43, rfl, hT43, hC43, hz43_0⟩ := (hJ42 st).1 hst
         obtain ⟨tm43, rfl⟩ := allEq hT43
         obtain ⟨cb43, rfl⟩ := allEq hC43
         refine nl <| cd ((!ok_3) || ((!ended) && (((i : Nat) : Int) == (w64 ((lines.list.length : Int) - 1))))) rfl (fun hc45 => ?_) (fun hc45 => ?_)
         · replace hF1 := ite_t hF1 (hc45)
           refine sq <| rg <| L (iA ((i : Nat) : Int)) rfl rfl rfl <| L (Sl.av 5 c_api_Limit Sl.nil) rfl rfl rfl <| L (iA ((i : Nat) : Int)) rfl rfl rfl <| L (iA 9) rfl rfl rfl <| nl <| rt ?_
           obtain rfl := hD1 _ (Option.some.inj hF1).symm
           replace hF0 := res_ret hF0
           obtain rfl := Option.some.inj hF0
           exact rd_leaf (.inr rfl) rfl (ret_tup3 (retV_pl _ _ (Sl.av 5 c_api_Limit Sl.nil)) (retV_pl _ _ (iA ((i : Nat) : Int))) (retV_pl _ _ (iA 9))) rfl rfl
         · replace hF1 := ite_f hF1 (not_t hc45)
           refine sk <| rg <| L (Sl.lav (.fr 0 5007) o50075.ver out_5) rfl rfl rfl <| L (.agg (c_api_Limit q03)) rfl rfl (op_load rfl (ld_con (.agg (c_api_Limit q03)) rfl rfl (cs := (c_api_Limit q03)) (con_fr rfl) rfl)) <| L (Sl.av 5 c_api_Limit (Sl.full [q03] : Sl api_Limit)) rfl rfl (op_sliceN rfl rfl rfl) ?_
           obtain ⟨out_7, h_out_7, hF1⟩ := bind_some hF1
           refine WO_lzapp (s := 5007) (x := out_5) (x' := out_7) (o := o50075) (n := 5) (c := c_api_Limit) (xs := [q03]) (y := (Sl.av 5 c_api_Limit (Sl.full [q03] : Sl api_Limit))) _ rfl rfl rfl rfl rfl rfl rfl rfl rfl rfl rfl rfl (z := (c_api_Limit (api_Limit.mk [] 0 0 0 0))) rfl rfl rfl rfl rfl (by decide) (fun _ => rfl) rfl rfl rfl hz43_0 h_out_7 (fun o50077 hz_44 => ?_)
           exact L (Sl.lav (.fr 0 5007) o50077.ver out_7) rfl rfl rfl <| nl <| rg <| WO_do (y := (iA ((i + 1 : Nat) : Int))) _ rfl rfl (congrArg (fun n => some (AV.int .i64 n, _)) (range_len hi35 hn35)) <| WO_do (y := (iA ((i + 1 : Nat) : Int))) _ rfl rfl rfl <| nl <| Exists.intro _ (And.intro (Option.some.inj hF1).symm ((hR35 _ _ _).2 ⟨o50077, _, _, rfl, (And.intro rfl (And.intro rfl (And.intro rfl (And.intro rfl (And.intro rfl (And.intro rfl True.intro)))))), (And.intro rfl True.intro), hz_44⟩))
       · rcases bool_cases (!ok_3) with hc42 | hc42
         · exact L (.bool true) rfl rfl (congrArg (fun b => some (AV.bool b, _)) hc42) <| WO_no _ rfl rfl <| WO_no _ rfl rfl <| WO_no _ rfl rfl <| WO_no _ rfl rfl <| WO_no _ rfl rfl <| WO_no _ rfl rfl <| WO_no _ rfl rfl <| WO_no _ rfl rfl <| WO_no _ rfl rfl <| L (bA ((!ok_3) || ((!ended) && (((i : Nat) : Int) == (w64 ((lines.list.length : Int) - 1)))))) rfl rfl (congrArg (fun b => some (AV.bool b, _)) (by rw [hc42]; rfl)) <| nl ((hJ42 _).2 ⟨_, _, rfl, (And.intro rfl (And.intro rfl (And.intro rfl (And.intro rfl (And.intro rfl (And.intro rfl (And.intro rfl (And.intro rfl (And.intro rfl True.intro))))))))), (And.intro rfl (And.intro rfl True.intro)), hz36_0⟩)
         · refine L (.bool false) rfl rfl (congrArg (fun b => some (AV.bool b, _)) hc42) <| L (bA ended) rfl rfl rfl <| L (bA (!ended)) rfl rfl rfl ?_
           obtain ⟨J46, hJ46⟩ : ∃ J : St → Prop, ∀ st, J st ↔ (∃ (tm47 : Nat → AV) (cb47 : AE.Frame), st = ⟨tm47, ⟨cb47, out, glob⟩⟩ ∧ AllEq tm47 [(5, (Sl.av 1 c_str lines)), (6, (bA ended)), (7, (Sl.lav (.fr 0 5007) o50075.ver out_5)), (8, (iA ((i : Nat) : Int))), (10, (.ptr (.fr 0 10) ((cb36 10).ver + 1) 0)), (21, (Sl.av 1 c_str lines)), (22, (iA (lines.list.length : Int))), (23, (iA ((i : Nat) : Int))), (35, (bA false)), (36, (bA ended)), (37, (bA (!ended))), (44, (bA ((!ended) && (((i : Nat) : Int) == (w64 ((lines.list.length : Int) - 1))))))] ∧ AllEq cb47 [(10, ⟨(cb36 10).ver + 1, .cells (c_api_Limit q03)⟩), (5007, o50075)] ∧ LzF 5 c_api_Limit o50075 out_5) := ⟨_, fun _ => Iff.rfl⟩
           refine WO_cut 7 J46 (fun st hst => ?_) ?_
           · obtain ⟨tm47, cb47, rfl, hT47, hC47, hz47_0⟩ := (hJ46 st).1 hst
             obtain ⟨tm47, rfl⟩ := allEq hT47
             obtain ⟨cb47, rfl⟩ := allEq hC47
             exact L (bA ((!ok_3) || ((!ended) && (((i : Nat) : Int) == (w64 ((lines.list.length : Int) - 1)))))) rfl rfl (congrArg (fun b => some (AV.bool b, _)) (by rw [hc42]; rfl)) <| nl ((hJ42 _).2 ⟨_, _, rfl, (And.intro rfl (And.intro rfl (And.intro rfl (And.intro rfl (And.intro rfl (And.intro rfl (And.intro rfl (And.intro rfl (And.intro rfl True.intro))))))))), (And.intro rfl (And.intro rfl True.intro)), hz47_0⟩)
           · rcases bool_cases (!ended) with hc46 | hc46
             · exact L (.bool true) rfl rfl (congrArg (fun b => some (AV.bool b, _)) hc46) <| L (iA ((i : Nat) : Int)) rfl rfl rfl <| L (Sl.av 1 c_str lines) rfl rfl rfl <| L (iA (lines.list.length : Int)) rfl rfl (op_len rfl rfl rfl rfl rfl (len_sl _)) <| L (iA (w64 ((lines.list.length : Int) - 1))) rfl rfl rfl <| L (bA (((i : Nat) : Int) == (w64 ((lines.list.length : Int) - 1)))) rfl rfl rfl <| L (bA ((!ended) && (((i : Nat) : Int) == (w64 ((lines.list.length : Int) - 1))))) rfl rfl (congrArg (fun b => some (AV.bool b, _)) (by rw [hc46]; rfl)) <| nl ((hJ46 _).2 ⟨_, _, rfl, (And.intro rfl (And.intro rfl (And.intro rfl (And.intro rfl (And.intro rfl (And.intro rfl (And.intro rfl (And.intro rfl (And.intro rfl (And.intro rfl (And.intro rfl (And.intro rfl True.intro)))))))))))), (And.intro rfl (And.intro rfl True.intro)), hz36_0⟩)
             · exact L (.bool false) rfl rfl (congrArg (fun b => some (AV.bool b, _)) hc46) <| WO_no _ rfl rfl <| WO_no _ rfl rfl <| WO_no _ rfl rfl <| WO_no _ rfl rfl <| WO_no _ rfl rfl <| L (bA ((!ended) && (((i : Nat) : Int) == (w64 ((lines.list.length : Int) - 1))))) rfl rfl (congrArg (fun b => some (AV.bool b, _)) (by rw [hc46]; rfl)) <| nl ((hJ46 _).2 ⟨_, _, rfl, (And.intro rfl (And.intro rfl (And.intro rfl (And.intro rfl (And.intro rfl (And.intro rfl (And.intro rfl (And.intro rfl (And.intro rfl (And.intro rfl (And.intro rfl (And.intro rfl True.intro)))))))))))), (And.intro rfl (And.intro rfl True.intro)), hz36_0⟩)
     · intro v st hr hD1
       obtain ⟨out_5, hv_⟩ : ∃ z, z = v := ⟨_, rfl⟩; subst hv_
       obtain ⟨o50075, tm36, cb36, rfl, hT36, hC36, hz36_0⟩ := (hR35 _ _ _).1 hr
       obtain ⟨tm36, rfl⟩ := allEq hT36
       obtain ⟨cb36, rfl⟩ := allEq hC36
       refine sq (rg ?_)
       refine WO_do (y := .bool false) _ rfl rfl (congrArg (fun b => some (AV.bool b, _)) (range_ge _)) (nl ?_)
       refine sq <| cd false rfl (fun h => absurd h (by decide)) (fun _ => ?_)
       exact xt <| (hJ35 _).2 ⟨out_5, o50075, _, _, rfl, (And.intro rfl True.intro), (And.intro rfl True.intro), hz36_0, hD1⟩

theorem ok_gateref2_Number (s_ : Str) (most : Int) {r : (Int × Bool)} (hF0 : gateref2_Number s_ most = some r) (out : List AE.Frame) (glob : List AObj) : RdOk Tryz.prog pol true 35 [(sA s_), (iA most)] out glob (.tup [(iA r.1), (bA r.2)]) := by
 unfold gateref2_Number at hF0
 refine rd_walk Tryz.func35 rfl (Nat.not_lt.2 (Nat.le_of_ble_eq_true rfl)) ?_
 intro ro
 refine sq <| rg <| L (iA 0) rfl rfl rfl <| L (bA false) rfl rfl rfl <| nl <| sq <| rg <| L (sA s_) rfl rfl rfl ?_
 obtain ⟨t, h1, hF0⟩ := bind_some hF0
 refine WO_rd (g := 51) (args := [(sA s_), (sA [45])]) (r := (sA t)) _ _ rfl rfl rfl rfl rfl rfl rfl (ok_strings_TrimPrefix _ _ h1 _ _ ) <| L (sA t) rfl rfl rfl <| nl <| sq <| sq <| rg <| L (sA t) rfl rfl rfl <| L (bA (t == [])) rfl rfl (op_bin rfl bin_seq) ?_
 obtain ⟨J2, hJ2⟩ : ∃ J : St → Prop, ∀ st, J st ↔ (∃ (tm3 : Nat → AV) (cb3 : AE.Frame), st = ⟨tm3, ⟨cb3, out, glob⟩⟩ ∧ AllEq tm3 [(0, (sA s_)), (6, (sA t)), (18, (bA ((t == []) || (decide ((t.length : Int) > most)))))] ∧ AllEq cb3 []) := ⟨_, fun _ => Iff.rfl⟩
 refine WO_cut 6 J2 (fun st hst => ?_) ?_
 · obtain ⟨tm3, cb3, rfl, hT3, hC3⟩ := (hJ2 st).1 hst
   obtain ⟨tm3, rfl⟩ := allEq hT3
   obtain ⟨cb3, rfl⟩ := allEq hC3
   obtain ⟨y5, hF1, hF0⟩ := bind_some hF0
   obtain ⟨J5, hJ5⟩ : ∃ J : St → Prop, ∀ st, J st ↔ (∃ (t23 : Bool) (tm6 : Nat → AV) (cb6 : AE.Frame), st = ⟨tm6, ⟨cb6, out, glob⟩⟩ ∧ AllEq tm6 [(0, (sA s_)), (23, (bA t23))] ∧ AllEq cb6 [] ∧ t23 = y5) := ⟨_, fun _ => Iff.rfl⟩
   refine WO_cut 5 J5 (fun st hst => ?_) ?_
   · obtain ⟨t23, tm6, cb6, rfl, hT6, hC6, rfl⟩ := (hJ5 st).1 hst
     obtain ⟨tm6, rfl⟩ := allEq hT6
     obtain ⟨cb6, rfl⟩ := allEq hC6
     refine nl <| cd t23 rfl (fun hc9 => ?_) (fun hc9 => ?_)
     · replace hF0 := ite_t hF0 (hc9)
       refine sq <| rg <| L (iA 0) rfl rfl rfl <| L (bA false) rfl rfl rfl <| nl <| rt ?_
       obtain rfl := Option.some.inj hF0
       exact rd_leaf (.inr rfl) rfl (ret_tup2 (retV_pl _ _ (iA 0)) (retV_pl _ _ (bA false))) rfl rfl
     · replace hF0 := ite_f hF0 (not_t hc9)
       refine sk <| sq <| rg <| L (sA s_) rfl rfl rfl ?_
       obtain ⟨r26, h_r26, hF0⟩ := bind_some hF0
       refine L (.tup [(iA r26), .nili]) rfl rfl (op_lib _ rfl rfl rfl (x_atoi_eq h_r26)) <| L (.tup [(iA r26), .nili]) rfl rfl rfl <| L (iA r26) rfl rfl rfl <| L .nili rfl rfl rfl <| L (iA r26) rfl rfl rfl <| L .nili rfl rfl rfl <| nl <| sq <| rg <| L (iA r26) rfl rfl rfl <| L .nili rfl rfl rfl <| L (bA true) rfl rfl (op_bin rfl rfl) ?_
       obtain ⟨y7, hF1, hF0⟩ := bind_some hF0
       obtain ⟨J7, hJ7⟩ : ∃ J : St → Prop, ∀ st, J st ↔ (∃ (t37 : Bool) (tm8 : Nat → AV) (cb8 : AE.Frame), st = ⟨tm8, ⟨cb8, out, glob⟩⟩ ∧ AllEq tm8 [(29, (iA r26)), (37, (bA t37))] ∧ AllEq cb8 [] ∧ t37 = y7) := ⟨_, fun _ => Iff.rfl⟩
       refine WO_cut 6 J7 (fun st hst => ?_) ?_
       · obtain ⟨t37, tm8, cb8, rfl, hT8, hC8, rfl⟩ := (hJ7 st).1 hst
         obtain ⟨tm8, rfl⟩ := allEq hT8
         obtain ⟨cb8, rfl⟩ := allEq hC8
         refine L (iA r26) rfl rfl rfl <| L (bA t37) rfl rfl rfl <| nl <| rt ?_
         obtain rfl := Option.some.inj hF0
         exact rd_leaf (.inr rfl) rfl (ret_tup2 (retV_pl _ _ (iA r26)) (retV_pl _ _ (bA t37))) rfl rfl
       · rcases bool_cases true with hc7 | hc7
         · replace hF1 := ite_t hF1 (hc7)
           refine L (.bool true) rfl rfl (congrArg (fun b => some (AV.bool b, _)) hc7) <| L (iA r26) rfl rfl rfl ?_
           obtain ⟨r341, h_r341, hF1⟩ := bind_some hF1
           exact L (sA r341) rfl rfl (op_lib _ rfl rfl rfl (x_itoa_eq h_r341)) <| L (sA s_) rfl rfl rfl <| L (bA (r341 == s_)) rfl rfl (op_bin rfl bin_seq) <| L (bA (r341 == s_)) rfl rfl rfl <| nl ((hJ7 _).2 ⟨r341 == s_, _, _, rfl, (And.intro rfl (And.intro rfl True.intro)), True.intro, Option.some.inj hF1⟩)
         · replace hF1 := ite_f hF1 (not_t hc7)
           exact L (.bool false) rfl rfl (congrArg (fun b => some (AV.bool b, _)) hc7) <| WO_no _ rfl rfl <| WO_no _ rfl rfl <| WO_no _ rfl rfl <| WO_no _ rfl rfl <| L (bA false) rfl rfl rfl <| nl ((hJ7 _).2 ⟨false, _, _, rfl, (And.intro rfl (And.intro rfl True.intro)), True.intro, Option.some.inj hF1⟩)
   · rcases bool_cases ((t == []) || (decide ((t.length : Int) > most))) with hc5 | hc5
     · replace hF1 := ite_t hF1 (hc5)
       exact L (.bool true) rfl rfl (congrArg (fun b => some (AV.bool b, _)) hc5) <| WO_no _ rfl rfl <| WO_no _ rfl rfl <| WO_no _ rfl rfl <| L (bA true) rfl rfl rfl <| nl ((hJ5 _).2 ⟨true, _, _, rfl, (And.intro rfl (And.intro rfl True.intro)), True.intro, Option.some.inj hF1⟩)
     · replace hF1 := ite_f hF1 (not_t hc5)
       refine L (.bool false) rfl rfl (congrArg (fun b => some (AV.bool b, _)) hc5) <| L (sA t) rfl rfl rfl ?_
       obtain ⟨r211, h10, hF1⟩ := bind_some hF1
       exact WO_rd (g := 44) (args := [(sA t), (sA [48, 49, 50, 51, 52, 53, 54, 55, 56, 57])]) (r := (bA r211)) _ _ rfl rfl rfl rfl rfl rfl rfl (ok_gateref2_only _ _ h10 _ _ ) <| L (bA (!r211)) rfl rfl rfl <| L (bA (!r211)) rfl rfl rfl <| nl ((hJ5 _).2 ⟨!r211, _, _, rfl, (And.intro rfl (And.intro rfl True.intro)), True.intro, Option.some.inj hF1⟩)
 · rcases bool_cases (t == []) with hc2 | hc2
   · exact L (.bool true) rfl rfl (congrArg (fun b => some (AV.bool b, _)) hc2) <| WO_no _ rfl rfl <| WO_no _ rfl rfl <| WO_no _ rfl rfl <| WO_no _ rfl rfl <| L (bA ((t == []) || (decide ((t.length : Int) > most)))) rfl rfl (congrArg (fun b => some (AV.bool b, _)) (by rw [hc2]; rfl)) <| nl ((hJ2 _).2 ⟨_, _, rfl, (And.intro rfl (And.intro rfl (And.intro rfl True.intro))), True.intro⟩)
   · exact L (.bool false) rfl rfl (congrArg (fun b => some (AV.bool b, _)) hc2) <| L (sA t) rfl rfl rfl <| L (iA (t.length : Int)) rfl rfl rfl <| L (iA most) rfl rfl rfl <| L (bA (decide ((t.length : Int) > most))) rfl rfl rfl <| L (bA ((t == []) || (decide ((t.length : Int) > most)))) rfl rfl (congrArg (fun b => some (AV.bool b, _)) (by rw [hc2]; rfl)) <| nl ((hJ2 _).2 ⟨_, _, rfl, (And.intro rfl (And.intro rfl (And.intro rfl True.intro))), True.intro⟩)

theorem ok_gateref1_LimitsRead_1 (line : Str) (cap1 : (Ar api_Limit)) {r : (Bool × (Ar api_Limit))} (hF0 : gateref1_LimitsRead_1 line cap1 = some r) : MutA Tryz.prog pol 32 (fun p => [(sA line), p]) 0 (some 38) (fun sl u => [(rf sl u cap1.list.length)]) (Ar.con 5 c_api_Limit cap1) (bA r.1) (fun sl u => [(rf sl u r.2.list.length)]) (Ar.con 5 c_api_Limit r.2) := by
 unfold gateref1_LimitsRead_1 at hF0
 refine mutA_walk Tryz.func32 rfl (fun _ => Nat.not_lt.2 (Nat.le_of_ble_eq_true rfl)) ?_
 intro out glob d1 w1 e1 sl1 u1 hh1 hsub1 hbt1 hk_1 hka_1
 refine sq <| rg <| L (bA false) rfl rfl rfl <| nl <| sq <| rg <| L (sA line) rfl rfl rfl ?_
 obtain ⟨w, h_w, hF0⟩ := bind_some hF0
 refine L (Sl.av 1 c_str w) rfl rfl (op_lib _ rfl rfl rfl (x_split_eq h_w)) <| L (Sl.av 1 c_str w) rfl rfl rfl <| nl <| sq <| sq <| rg <| L (Sl.av 1 c_str w) rfl rfl rfl <| L (iA (w.list.length : Int)) rfl rfl (op_len rfl rfl rfl rfl rfl (len_sl _)) <| L (bA ((w.list.length : Int) != 5)) rfl rfl rfl ?_
 obtain ⟨y1, hF1, hF0⟩ := bind_some hF0
 obtain ⟨J1, hJ1⟩ : ∃ J : St → Prop, ∀ st, J st ↔ (∃ (t19 : Bool) (tm2 : Nat → AV) (cb2 : AE.Frame) (out2 : List AE.Frame) (glob2 : List AObj), st = ⟨tm2, ⟨cb2, out2, glob2⟩⟩ ∧ AllEq tm2 [(1, (.ptr d1 w1 0)), (4, (Sl.av 1 c_str w)), (19, (bA t19))] ∧ AllEq cb2 [] ∧ con2 out2 glob2 d1 w1 = .cells [(rf sl1 u1 cap1.list.length)] ∧ con2 out2 glob2 e1 u1 = (Ar.con 5 c_api_Limit cap1) ∧ Same2 d1 e1 out glob out2 glob2 ∧ t19 = y1) := ⟨_, fun _ => Iff.rfl⟩
 refine WO_cut 6 J1 (fun st hst => ?_) ?_
 · obtain ⟨t19, tm2, cb2, out2, glob2, rfl, hT2, hC2, hk2, hka2, hs2, rfl⟩ := (hJ1 st).1 hst
   obtain ⟨tm2, rfl⟩ := allEq hT2
   obtain ⟨cb2, rfl⟩ := allEq hC2
   refine nl <| cd t19 rfl (fun hc20 => ?_) (fun hc20 => ?_)
   · replace hF0 := ite_t hF0 (hc20)
     refine sq <| rg <| L (bA false) rfl rfl rfl <| nl <| rt ?_
     obtain rfl := Option.some.inj hF0
     exact mutA_leaf (.inr rfl) rfl (retV_pl _ _ (bA false)) hk2 hka2 hs2
   · replace hF0 := ite_f hF0 (not_t hc20)
     refine sk <| sq <| rg <| L (Sl.av 1 c_str (Sl.full [[119, 105, 110, 100, 111, 119], [115, 108, 105, 100, 105, 110, 103], [98, 117, 99, 107, 101, 116], [111, 110, 99, 101]] : Sl Str)) rfl rfl (op_sliceN rfl rfl rfl) <| L (Sl.av 1 c_str w) rfl rfl rfl ?_
     obtain ⟨x1, h_x1, hF0⟩ := bind_some hF0
     refine L (.cptr [(sA x1)]) rfl rfl (op_ix rfl (ix_sl (c := c_str) rfl rfl h_x1)) <| L (sA x1) rfl rfl rfl ?_
     obtain ⟨k1, h3, hF0⟩ := bind_some hF0
     refine WO_rd (g := 34) (args := [(Sl.av 1 c_str (Sl.full [[119, 105, 110, 100, 111, 119], [115, 108, 105, 100, 105, 110, 103], [98, 117, 99, 107, 101, 116], [111, 110, 99, 101]] : Sl Str)), (sA x1)]) (r := (iA k1)) _ _ rfl rfl rfl rfl rfl rfl rfl (ok_slices_Index_string_string _ _ h3 _ _ ) <| L (iA k1) rfl rfl rfl <| nl <| sq <| rg <| L (.ptr (.fr 0 6) ((cb2 6).ver + 1) 0) (h' := ⟨upd _ 6 ⟨(cb2 6).ver + 1, .cells (List.map iA [0, 0, 0])⟩, _, _⟩) rfl rfl (op_alloc (List.map iA [0, 0, 0]) rfl rfl rfl rfl) <| nl <| sq <| sq <| rg <| L (iA 0) rfl rfl rfl <| nl <| bk ?_
     obtain ⟨b1, hb12, hF0⟩ := bind_some hF0
     obtain ⟨hn12, hb12⟩ := ite_none hb12
     obtain ⟨J12, hJ12⟩ : ∃ J : St → Prop, ∀ st, J st ↔ (∃ (n4 : (List Int)) (tm14 : Nat → AV) (cb14 : AE.Frame) (out14 : List AE.Frame) (glob14 : List AObj), st = ⟨tm14, ⟨cb14, out14, glob14⟩⟩ ∧ AllEq tm14 [(1, (.ptr d1 w1 0)), (4, (Sl.av 1 c_str w)), (5, (iA k1)), (6, (.ptr (.fr 0 6) ((cb2 6).ver + 1) 0))] ∧ AllEq cb14 [(6, ⟨(cb2 6).ver + 1, .cells (List.map iA n4)⟩)] ∧ con2 out14 glob14 d1 w1 = .cells [(rf sl1 u1 cap1.list.length)] ∧ con2 out14 glob14 e1 u1 = (Ar.con 5 c_api_Limit cap1) ∧ Same2 d1 e1 out glob out14 glob14 ∧ Res.out n4 = b1) := ⟨_, fun _ => Iff.rfl⟩
     obtain ⟨R12, hR12⟩ : ∃ R : Nat → ((List Int)) → St → Prop, ∀ i v st, R i v st ↔ (match v with | n3 => ∃ (tm13 : Nat → AV) (cb13 : AE.Frame) (out13 : List AE.Frame) (glob13 : List AObj), st = ⟨tm13, ⟨cb13, out13, glob13⟩⟩ ∧ AllEq tm13 [(1, (.ptr d1 w1 0)), (4, (Sl.av 1 c_str w)), (5, (iA k1)), (6, (.ptr (.fr 0 6) ((cb2 6).ver + 1) 0)), (25, (iA ((i : Nat) : Int)))] ∧ AllEq cb13 [(6, ⟨(cb2 6).ver + 1, .cells (List.map iA n3)⟩)] ∧ con2 out13 glob13 d1 w1 = .cells [(rf sl1 u1 cap1.list.length)] ∧ con2 out13 glob13 e1 u1 = (Ar.con 5 c_api_Limit cap1) ∧ Same2 d1 e1 out glob out13 glob13) := ⟨_, fun _ _ _ => Iff.rfl⟩
     refine W_loopcut J12 (fun st hst => ?_) ?_
     · obtain ⟨n4, tm14, cb14, out14, glob14, rfl, hT14, hC14, hk14, hka14, hs14, rfl⟩ := (hJ12 st).1 hst
       obtain ⟨tm14, rfl⟩ := allEq hT14
       obtain ⟨cb14, rfl⟩ := allEq hC14
       replace hF0 := res_out hF0
       refine sq <| dw (by kernel_rfl) <| L (rf e1 u1 cap1.list.length) rfl rfl (op_load rfl (ld_pa (cs := [(rf sl1 u1 cap1.list.length)]) hsub1 rfl rfl ((con_con2 _ _ _ _ _ hh1).trans hk14) rfl)) <| L (Sl.av 1 c_str w) rfl rfl rfl ?_
       obtain ⟨x5, h_x5, hF0⟩ := bind_some hF0
       refine L (.cptr [(sA x5)]) rfl rfl (op_ix rfl (ix_sl (c := c_str) rfl rfl h_x5)) <| L (sA x5) rfl rfl rfl <| L (iA k1) rfl rfl rfl <| L (iA (w64 (k1 + 1))) rfl rfl rfl ?_
       obtain ⟨j3, h_j3, hF0⟩ := bind_some hF0
       refine L (.ptr (.fr 0 6) ((cb2 6).ver + 1) j3) rfl rfl (op_ix rfl (ix_ary rfl rfl rfl rfl h_j3)) ?_
       obtain ⟨r49, h_r49, hF0⟩ := bind_some hF0
       refine L (iA r49) rfl rfl (op_load rfl (ld_ary (l := n4) rfl rfl rfl (con_fr rfl) h_r49)) ?_
       obtain ⟨j4, h_j4, hF0⟩ := bind_some hF0
       refine L (.ptr (.fr 0 6) ((cb2 6).ver + 1) j4) rfl rfl (op_ix rfl (ix_ary rfl rfl rfl rfl h_j4)) ?_
       obtain ⟨r51, h_r51, hF0⟩ := bind_some hF0
       refine L (iA r51) rfl rfl (op_load rfl (ld_ary (l := n4) rfl rfl rfl (con_fr rfl) h_r51)) ?_
       obtain ⟨j5, h_j5, hF0⟩ := bind_some hF0
       refine L (.ptr (.fr 0 6) ((cb2 6).ver + 1) j5) rfl rfl (op_ix rfl (ix_ary rfl rfl rfl rfl h_j5)) ?_
       obtain ⟨r53, h_r53, hF0⟩ := bind_some hF0
       refine L (iA r53) rfl rfl (op_load rfl (ld_ary (l := n4) rfl rfl rfl (con_fr rfl) h_r53)) <| L (.agg (c_api_Limit (api_Limit.mk x5 (w64 (k1 + 1)) r49 r51 r53))) rfl rfl (op_build rfl (build_st (cs := (c_api_Limit (api_Limit.mk x5 (w64 (k1 + 1)) r49 r51 r53))) rfl rfl rfl (fill_cons (x := (sA x5)) rfl rfl (Nat.le_of_ble_eq_true rfl) (fill_cons (x := (iA (w64 (k1 + 1)))) rfl rfl (Nat.le_of_ble_eq_true rfl) (fill_cons (x := (iA r49)) rfl rfl (Nat.le_of_ble_eq_true rfl) (fill_cons (x := (iA r51)) rfl rfl (Nat.le_of_ble_eq_true rfl) (fill_cons (x := (iA r53)) rfl rfl (Nat.le_of_ble_eq_true rfl) (fill_nil)))))))) <| L (Sl.av 5 c_api_Limit (Sl.full [(api_Limit.mk x5 (w64 (k1 + 1)) r49 r51 r53)] : Sl api_Limit)) rfl rfl (op_sliceN rfl rfl rfl) ?_
       obtain ⟨buf, h_buf, hF0⟩ := bind_some hF0
       refine WO_arappP (cc := e1) (u := u1) (a := cap1) (a' := buf) (n := 5) (c := c_api_Limit) (xs := [(api_Limit.mk x5 (w64 (k1 + 1)) r49 r51 r53)]) (y := (Sl.av 5 c_api_Limit (Sl.full [(api_Limit.mk x5 (w64 (k1 + 1)) r49 r51 r53)] : Sl api_Limit))) _ rfl rfl rfl rfl rfl rfl (by kernel_rfl) rfl rfl rfl (z := (c_api_Limit (api_Limit.mk [] 0 0 0 0))) rfl rfl rfl rfl rfl (by decide) (fun _ => rfl) rfl hbt1 rfl hsub1.eh rfl hka14 rfl h_buf (fun out18 glob18 hka18 hq18 => ?_)
       have hk18 := hq18.con hsub1.ne hh1 hk14
       have hs18 := hs14.ofR hq18
       refine WO_stPA (cs := [(rf sl1 u1 cap1.list.length)]) (cs' := [(rf sl1 (u1 + 1) buf.list.length)]) (off := 0) (dd := d1) (v := w1) _ rfl rfl rfl (by kernel_rfl) rfl rfl rfl rfl hh1 hsub1 hk18 (Nat.le_of_ble_eq_true rfl) rfl (fun out19 glob19 hk19 hq19 => ?_)
       have hka19 := hq19.con hsub1.ne.symm hsub1.eh hka18
       have hs19 := hs18.ofL hq19
       refine nl <| sq <| rg <| L (iA k1) rfl rfl rfl <| L (bA (decide (k1 ≥ 0))) rfl rfl rfl <| L (bA (decide (k1 ≥ 0))) rfl rfl rfl <| nl <| rt ?_
       obtain rfl := Option.some.inj hF0
       exact mutA_leaf (.inr rfl) rfl (retV_pl _ _ (bA (decide (k1 ≥ 0)))) hk19 hka19 hs19
     · refine W_rangeL hb12 R12 ((hR12 _ _ _).2 ⟨_, _, _, _, rfl, (And.intro rfl (And.intro rfl (And.intro rfl (And.intro rfl (And.intro rfl True.intro))))), (And.intro rfl True.intro), hk2, hka2, hs2⟩) ?_ ?_
       · intro i hi12 v st s hr hF1 hD1
         obtain ⟨n3, hv_⟩ : ∃ z, z = v := ⟨_, rfl⟩; subst hv_
         obtain ⟨tm13, cb13, out13, glob13, rfl, hT13, hC13, hk13, hka13, hs13⟩ := (hR12 _ _ _).1 hr
         obtain ⟨tm13, rfl⟩ := allEq hT13
         obtain ⟨cb13, rfl⟩ := allEq hC13
         dsimp only [gateref1_LimitsRead_1_l0] at hF1
         refine sq (rg ?_)
         refine WO_do (y := (bA (decide (((i : Nat) : Int) < 3)))) _ rfl rfl rfl (nl ?_)
         refine sq <| cd true (congrArg some (rangeN_lt hi12)) (fun _ => ?_) (fun h => absurd h (by decide))
         refine sk <| sq <| bk <| sq <| rg <| L (iA ((i : Nat) : Int)) rfl rfl rfl <| L (iA ((i : Nat) : Int)) rfl rfl rfl <| nl <| sq <| rg <| L (bA false) rfl rfl rfl <| nl <| sq <| rg <| L (iA ((i : Nat) : Int)) rfl rfl rfl <| L (Sl.av 1 c_str w) rfl rfl rfl <| L (iA ((i : Nat) : Int)) rfl rfl rfl <| L (iA (w64 (((i : Nat) : Int) + 2))) rfl rfl rfl ?_
         obtain ⟨x4, h_x4, hF1⟩ := bind_some hF1
         refine L (.cptr [(sA x4)]) rfl rfl (op_ix rfl (ix_sl (c := c_str) rfl rfl h_x4)) <| L (sA x4) rfl rfl rfl ?_
         obtain ⟨⟨q02, good2⟩, h16, hF1⟩ := bind_some hF1
         refine WO_rd (g := 35) (args := [(sA x4), (iA 10)]) (r := (.tup [(iA q02), (bA good2)])) _ _ rfl rfl rfl rfl rfl rfl rfl (ok_gateref2_Number _ _ h16 _ _ ) <| L (.tup [(iA q02), (bA good2)]) rfl rfl rfl <| L (iA q02) rfl rfl rfl <| L (bA good2) rfl rfl rfl ?_
         obtain ⟨j2, h_j2, hF1⟩ := bind_some hF1
         refine L (.ptr (.fr 0 6) ((cb2 6).ver + 1) j2) rfl rfl (op_ix rfl (ix_ary rfl rfl rfl rfl h_j2)) ?_
         obtain ⟨n5, h_n5, hF1⟩ := bind_some hF1
         refine L (.tup []) (h' := ⟨upd _ 6 ⟨(cb2 6).ver + 1, .cells (List.map iA n5)⟩, _, _⟩) rfl rfl (op_store rfl rfl (st_ary (l := n3) rfl rfl rfl rfl h_n5)) <| L (bA good2) rfl rfl rfl <| nl <| sq <| rg <| L (bA good2) rfl rfl rfl <| L (bA (!good2)) rfl rfl rfl <| nl <| cd (!good2) rfl (fun hc17 => ?_) (fun hc17 => ?_)
         · replace hF1 := ite_t hF1 (hc17)
           refine sq <| rg <| L (bA false) rfl rfl rfl <| nl <| rt ?_
           obtain rfl := hD1 _ (Option.some.inj hF1).symm
           replace hF0 := res_ret hF0
           obtain rfl := Option.some.inj hF0
           exact mutA_leaf (.inr rfl) rfl (retV_pl _ _ (bA false)) hk13 hka13 hs13
         · replace hF1 := ite_f hF1 (not_t hc17)
           exact sk <| rg <| WO_do (y := (iA ((i + 1 : Nat) : Int))) _ rfl rfl (congrArg (fun n => some (AV.int .i64 n, _)) (rangeN_len hi12 hn12)) <| WO_do (y := (iA ((i + 1 : Nat) : Int))) _ rfl rfl rfl <| nl <| Exists.intro _ (And.intro (Option.some.inj hF1).symm ((hR12 _ _ _).2 ⟨_, _, _, _, rfl, (And.intro rfl (And.intro rfl (And.intro rfl (And.intro rfl (And.intro rfl True.intro))))), (And.intro rfl True.intro), hk13, hka13, hs13⟩))
       · intro v st hr hD1
         obtain ⟨n3, hv_⟩ : ∃ z, z = v := ⟨_, rfl⟩; subst hv_
         obtain ⟨tm13, cb13, out13, glob13, rfl, hT13, hC13, hk13, hka13, hs13⟩ := (hR12 _ _ _).1 hr
         obtain ⟨tm13, rfl⟩ := allEq hT13
         obtain ⟨cb13, rfl⟩ := allEq hC13
         refine sq (rg ?_)
         refine WO_do (y := .bool false) _ rfl rfl (congrArg (fun b => some (AV.bool b, _)) (rangeN_ge _)) (nl ?_)
         refine sq <| cd false rfl (fun h => absurd h (by decide)) (fun _ => ?_)
         exact xt <| (hJ12 _).2 ⟨n3, _, _, _, _, rfl, (And.intro rfl (And.intro rfl (And.intro rfl (And.intro rfl True.intro)))), (And.intro rfl True.intro), hk13, hka13, hs13, hD1⟩
 · rcases bool_cases ((w.list.length : Int) != 5) with hc1 | hc1
   · replace hF1 := ite_t hF1 (bne_t hc1)
     exact L (.bool true) rfl rfl (congrArg (fun b => some (AV.bool b, _)) hc1) <| WO_no _ rfl rfl <| WO_no _ rfl rfl <| WO_no _ rfl rfl <| WO_no _ rfl rfl <| L (bA true) rfl rfl rfl <| nl ((hJ1 _).2 ⟨true, _, _, _, _, rfl, (And.intro rfl (And.intro rfl (And.intro rfl True.intro))), True.intro, hk_1, hka_1, (Same2.refl d1 e1 _ _), Option.some.inj hF1⟩)
   · replace hF1 := ite_f hF1 (bne_f hc1)
     refine L (.bool false) rfl rfl (congrArg (fun b => some (AV.bool b, _)) hc1) <| L (Sl.av 1 c_str w) rfl rfl rfl ?_
     obtain ⟨x6, h_x6, hF1⟩ := bind_some hF1
     exact L (.cptr [(sA x6)]) rfl rfl (op_ix rfl (ix_sl (c := c_str) rfl rfl h_x6)) <| L (sA x6) rfl rfl rfl <| L (bA (x6 == [])) rfl rfl (op_bin rfl bin_seq) <| L (bA (x6 == [])) rfl rfl rfl <| nl ((hJ1 _).2 ⟨x6 == [], _, _, _, _, rfl, (And.intro rfl (And.intro rfl (And.intro rfl True.intro))), True.intro, hk_1, hka_1, (Same2.refl d1 e1 _ _), Option.some.inj hF1⟩)

theorem ok_gateref1_Lines__gateref1_LimitsRead_1 (text : Str) (cap1_0 : (Ar api_Limit)) {r : (Int × Bool × (Ar api_Limit))} (hF0 : gateref1_Lines__gateref1_LimitsRead_1 text cap1_0 = some r) : MutA Tryz.prog pol 31 (fun p => [(sA text), (.fn (.func 32) [] [p])]) 0 (some 38) (fun sl u => [(rf sl u cap1_0.list.length)]) (Ar.con 5 c_api_Limit cap1_0) (.tup [(iA r.1), (bA r.2.1)]) (fun sl u => [(rf sl u r.2.2.list.length)]) (Ar.con 5 c_api_Limit r.2.2) := by
 unfold gateref1_Lines__gateref1_LimitsRead_1 at hF0
 refine mutA_walk Tryz.func31 rfl (fun _ => Nat.not_lt.2 (Nat.le_of_ble_eq_true rfl)) ?_
 intro out glob d110 w110 e110 sl110 u110 hh110 hsub110 hbt110 hk_110 hka_110
 refine sq <| rg <| L (iA 0) rfl rfl rfl <| L (bA false) rfl rfl rfl <| nl <| sq <| sq <| rg <| L (iA 0) rfl rfl rfl <| nl <| bk ?_
 obtain ⟨b1, hb15, hF0⟩ := bind_some hF0
 obtain ⟨J15, hJ15⟩ : ∃ J : St → Prop, ∀ st, J st ↔ (∃ (cap18 : (Ar api_Limit)) (u5 : Nat) (tm17 : Nat → AV) (cb17 : AE.Frame) (out17 : List AE.Frame) (glob17 : List AObj), st = ⟨tm17, ⟨cb17, out17, glob17⟩⟩ ∧ AllEq tm17 [] ∧ AllEq cb17 [] ∧ con2 out17 glob17 d110 w110 = .cells [(rf sl110 u5 cap18.list.length)] ∧ con2 out17 glob17 e110 u5 = (Ar.con 5 c_api_Limit cap18) ∧ Same2 d110 e110 out glob out17 glob17 ∧ Res.out cap18 = b1) := ⟨_, fun _ => Iff.rfl⟩
 obtain ⟨R15, hR15⟩ : ∃ R : ((Ar api_Limit) × Str × Int) → St → Prop, ∀ v st, R v st ↔ (match v with | (cap17, text3, i2) => ∃ (u4 : Nat) (tm16 : Nat → AV) (cb16 : AE.Frame) (out16 : List AE.Frame) (glob16 : List AObj), st = ⟨tm16, ⟨cb16, out16, glob16⟩⟩ ∧ AllEq tm16 [(0, (sA text3)), (1, (.fn (.func 32) [] [(.ptr d110 w110 0)])), (6, (iA i2))] ∧ AllEq cb16 [] ∧ con2 out16 glob16 d110 w110 = .cells [(rf sl110 u4 cap17.list.length)] ∧ con2 out16 glob16 e110 u4 = (Ar.con 5 c_api_Limit cap17) ∧ Same2 d110 e110 out glob out16 glob16) := ⟨_, fun _ _ => Iff.rfl⟩
 refine W_loopcut J15 (fun st hst => ?_) ?_
 · obtain ⟨cap18, u5, tm17, cb17, out17, glob17, rfl, hT17, hC17, hk17, hka17, hs17, rfl⟩ := (hJ15 st).1 hst
   obtain ⟨tm17, rfl⟩ := allEq hT17
   obtain ⟨cb17, rfl⟩ := allEq hC17
   replace hF0 := res_out hF0
   refine sq <| rg <| L (iA 0) rfl rfl rfl <| L (bA true) rfl rfl rfl <| nl <| rt ?_
   obtain rfl := Option.some.inj hF0
   exact mutA_leaf (.inr rfl) rfl (ret_tup2 (retV_pl _ _ (iA 0)) (retV_pl _ _ (bA true))) hk17 hka17 hs17
 · refine W_loopV hb15 R15 ((hR15 _ _).2 ⟨u110, _, _, _, _, rfl, (And.intro rfl (And.intro rfl (And.intro rfl True.intro))), True.intro, hk_110, hka_110, (Same2.refl d110 e110 _ _)⟩) ?_
   intro v st s hr hF1 hD1
   obtain ⟨cap17, text3, i2⟩ := v
   obtain ⟨u4, tm16, cb16, out16, glob16, rfl, hT16, hC16, hk16, hka16, hs16⟩ := (hR15 _ _).1 hr
   obtain ⟨tm16, rfl⟩ := allEq hT16
   obtain ⟨cb16, rfl⟩ := allEq hC16
   dsimp only [gateref1_Lines__gateref1_LimitsRead_1_l0] at hF1
   refine sq <| sq <| rg <| L (sA text3) rfl rfl rfl <| L (bA (text3 != [])) rfl rfl (op_bin rfl bin_sne) <| nl <| cd (text3 != []) rfl (fun hc23 => ?_) (fun hc23 => ?_)
   · replace hF1 := ite_t hF1 (sne_t hc23)
     refine sk <| sq <| bk <| sq <| rg <| L (sA text3) rfl rfl rfl ?_
     obtain ⟨r162, h_r162, hF1⟩ := bind_some hF1
     refine L (.tup [(sA r162.1), (sA r162.2.1), (bA r162.2.2)]) rfl rfl (op_lib _ rfl rfl rfl (x_cut_eq h_r162)) <| L (.tup [(sA r162.1), (sA r162.2.1), (bA r162.2.2)]) rfl rfl rfl <| L (sA r162.1) rfl rfl rfl <| L (sA r162.2.1) rfl rfl rfl <| L (bA r162.2.2) rfl rfl rfl <| L (sA r162.1) rfl rfl rfl <| L (sA r162.2.1) rfl rfl rfl <| L (bA r162.2.2) rfl rfl rfl <| nl <| sq <| sq <| rg <| L (bA r162.2.2) rfl rfl rfl <| L (bA (!r162.2.2)) rfl rfl rfl ?_
     obtain ⟨y19, hF2, hF1⟩ := bind_some hF1
     obtain ⟨J19, hJ19⟩ : ∃ J : St → Prop, ∀ st, J st ↔ (∃ (cap110 : (Ar api_Limit)) (t272 : Bool) (u7 : Nat) (tm20 : Nat → AV) (cb20 : AE.Frame) (out20 : List AE.Frame) (glob20 : List AObj), st = ⟨tm20, ⟨cb20, out20, glob20⟩⟩ ∧ AllEq tm20 [(1, (.fn (.func 32) [] [(.ptr d110 w110 0)])), (6, (iA i2)), (8, (sA r162.2.1)), (27, (bA t272))] ∧ AllEq cb20 [] ∧ con2 out20 glob20 d110 w110 = .cells [(rf sl110 u7 cap110.list.length)] ∧ con2 out20 glob20 e110 u7 = (Ar.con 5 c_api_Limit cap110) ∧ Same2 d110 e110 out glob out20 glob20 ∧ (cap110, t272) = y19) := ⟨_, fun _ => Iff.rfl⟩
     refine WO_cut 6 J19 (fun st hst => ?_) ?_
     · obtain ⟨cap110, t272, u7, tm20, cb20, out20, glob20, rfl, hT20, hC20, hk20, hka20, hs20, rfl⟩ := (hJ19 st).1 hst
       obtain ⟨tm20, rfl⟩ := allEq hT20
       obtain ⟨cb20, rfl⟩ := allEq hC20
       refine nl <| cd t272 rfl (fun hc21 => ?_) (fun hc21 => ?_)
       · replace hF1 := ite_t hF1 (hc21)
         refine sq <| rg <| L (iA i2) rfl rfl rfl <| L (iA i2) rfl rfl rfl <| L (bA false) rfl rfl rfl <| nl <| rt ?_
         obtain rfl := hD1 _ (Option.some.inj hF1).symm
         replace hF0 := res_ret hF0
         obtain rfl := Option.some.inj hF0
         exact mutA_leaf (.inr rfl) rfl (ret_tup2 (retV_pl _ _ (iA i2)) (retV_pl _ _ (bA false))) hk20 hka20 hs20
       · replace hF1 := ite_f hF1 (not_t hc21)
         exact sk <| rg <| L (sA r162.2.1) rfl rfl rfl <| L (sA r162.2.1) rfl rfl rfl <| nl <| rg <| L (iA i2) rfl rfl rfl <| L (iA (w64 (i2 + 1))) rfl rfl rfl <| L (iA (w64 (i2 + 1))) rfl rfl rfl <| nl <| Exists.intro _ (And.intro (Option.some.inj hF1).symm ((hR15  _ _).2 ⟨u7, _, _, _, _, rfl, (And.intro rfl (And.intro rfl (And.intro rfl True.intro))), True.intro, hk20, hka20, hs20⟩))
     · rcases bool_cases (!r162.2.2) with hc19 | hc19
       · replace hF2 := ite_t hF2 (hc19)
         exact L (.bool true) rfl rfl (congrArg (fun b => some (AV.bool b, _)) hc19) <| WO_no _ rfl rfl <| WO_no _ rfl rfl <| WO_no _ rfl rfl <| WO_no _ rfl rfl <| L (bA true) rfl rfl rfl <| nl ((hJ19 _).2 ⟨cap17, true, u4, _, _, _, _, rfl, (And.intro rfl (And.intro rfl (And.intro rfl (And.intro rfl True.intro)))), True.intro, hk16, hka16, hs16, Option.some.inj hF2⟩)
       · replace hF2 := ite_f hF2 (not_t hc19)
         refine L (.bool false) rfl rfl (congrArg (fun b => some (AV.bool b, _)) hc19) <| L (.fn (.func 32) [] [(.ptr d110 w110 0)]) rfl rfl rfl <| L (sA r162.1) rfl rfl rfl ?_
         obtain ⟨⟨r255, cap111⟩, h22, hF2⟩ := bind_some hF2
         refine WO_mutAP (g := 32) (args := fun p => [(sA r162.1), p]) (off := 0) (d := d110) (v := w110) (u := u4) (cs := fun sl u => [(rf sl u cap17.list.length)]) (a := (Ar.con 5 c_api_Limit cap17)) (r := (bA r255)) _ _ rfl rfl rfl rfl rfl rfl rfl (fun _ _ => inferInstance) hh110 hsub110 hbt110 hk16 hka16 (ok_gateref1_LimitsRead_1 _ _ h22) (fun out22 glob22 u22 hk22 hka22 hq22 => ?_)
         have hs22 := hs16.trans hq22
         exact L (bA (!r255)) rfl rfl rfl <| L (bA (!r255)) rfl rfl rfl <| nl ((hJ19 _).2 ⟨cap111, !r255, u22, _, _, _, _, rfl, (And.intro rfl (And.intro rfl (And.intro rfl (And.intro rfl True.intro)))), True.intro, hk22, hka22, hs22, Option.some.inj hF2⟩)
   · replace hF1 := ite_f hF1 (sne_f hc23)
     exact xt <| (hJ15 _).2 ⟨cap17, u4, _, _, _, _, rfl, True.intro, True.intro, hk16, hka16, hs16, hD1 _ (Option.some.inj hF1).symm⟩

theorem ok_gateref1_LimitsRead (text : Str) {r : ((Sl api_Limit) × Int × Int)} (hF0 : gateref1_LimitsRead text = some r) (out : List AE.Frame) (glob : List AObj) : RdOk Tryz.prog pol false 10 [(sA text)] out glob (.tup [(Sl.av 5 c_api_Limit r.1), (iA r.2.1), (iA r.2.2)]) := by
 unfold gateref1_LimitsRead at hF0
 refine rd_walkF Tryz.func10 rfl (Nat.not_lt.2 (Nat.le_of_ble_eq_true rfl)) <| sq <| rg <| L (Sl.av 5 c_api_Limit Sl.nil) rfl rfl rfl <| L (iA 0) rfl rfl rfl <| L (iA 0) rfl rfl rfl <| nl <| sq <| sq <| rg <| L (sA text) rfl rfl rfl <| L (iA (text.length : Int)) rfl rfl rfl <| L (bA (decide ((text.length : Int) > 200000))) rfl rfl rfl <| nl <| cd (decide ((text.length : Int) > 200000)) rfl (fun hc5 => ?_) (fun hc5 => ?_)
 · replace hF0 := ite_t hF0 (dec_t hc5)
   refine sq <| rg <| L (Sl.av 5 c_api_Limit Sl.nil) rfl rfl rfl <| L (iA 0) rfl rfl rfl <| L (iA 2) rfl rfl rfl <| nl <| rt ?_
   obtain rfl := Option.some.inj hF0
   exact rd_leaf (.inr rfl) rfl (ret_tup3 (retV_pl _ _ (Sl.av 5 c_api_Limit Sl.nil)) (retV_pl _ _ (iA 0)) (retV_pl _ _ (iA 2))) rfl rfl
 · replace hF0 := ite_f hF0 (dec_f hc5)
   refine sk <| sq <| rg <| L (.ptr (.fr 0 5) 1 0) (h' := ⟨upd (upd _ 1050038 ⟨1, (Ar.con 5 c_api_Limit (Ar.nil : Ar api_Limit))⟩) 5 ⟨1, .cells [(rf (.fr 0 1050038) 1 (Ar.nil : Ar api_Limit).list.length)]⟩, _, _⟩) rfl rfl (op_allocA [(Sl.av 5 c_api_Limit Sl.nil)] rfl rfl rfl rfl rfl (List.cons_ne_nil _ _) (fld_arr rfl (by decide) fld_nil)) <| nl <| sq <| rg <| L (sA text) rfl rfl rfl <| L (.fn (.func 32) [] [(.ptr (.fr 0 5) 1 0)]) rfl rfl rfl ?_
   obtain ⟨⟨i, ok_, out_⟩, h1, hF0⟩ := bind_some hF0
   refine WO_mutAL (g := 31) (args := fun p => [(sA text), (.fn (.func 32) [] [p])]) (off := 0) (s := 5) (b := 1050038) (v := 1) (u := 1) (cs := fun sl u => [(rf sl u (Ar.nil : Ar api_Limit).list.length)]) (a := (Ar.con 5 c_api_Limit (Ar.nil : Ar api_Limit))) (r := (.tup [(iA i), (bA ok_)])) _ _ rfl rfl rfl rfl rfl rfl rfl (fun _ _ => inferInstance) rfl rfl (by decide) rfl Ar.con_live (ok_gateref1_Lines__gateref1_LimitsRead_1 _ _ h1) (fun u1 => ?_)
   refine L (.tup [(iA i), (bA ok_)]) rfl rfl rfl <| L (iA i) rfl rfl rfl <| L (bA ok_) rfl rfl rfl <| L (iA i) rfl rfl rfl <| L (bA ok_) rfl rfl rfl <| nl <| sq <| sq <| rg <| L (bA ok_) rfl rfl rfl <| L (bA (!ok_)) rfl rfl rfl <| nl <| cd (!ok_) rfl (fun hc4 => ?_) (fun hc4 => ?_)
   · replace hF0 := ite_t hF0 (hc4)
     refine sq <| rg <| L (iA i) rfl rfl rfl <| L (Sl.av 5 c_api_Limit Sl.nil) rfl rfl rfl <| L (iA i) rfl rfl rfl <| L (iA 9) rfl rfl rfl <| nl <| rt ?_
     obtain rfl := Option.some.inj hF0
     exact rd_leaf (.inr rfl) rfl (ret_tup3 (retV_pl _ _ (Sl.av 5 c_api_Limit Sl.nil)) (retV_pl _ _ (iA i)) (retV_pl _ _ (iA 9))) rfl rfl
   · replace hF0 := ite_f hF0 (not_t hc4)
     refine sk <| sq <| sq <| rg <| WO_ldfrz (s := 5) (b := 1050038) (v := 1) (u := u1) (a := out_) (n := 5) (c := c_api_Limit) _ rfl rfl rfl rfl rfl rfl rfl rfl rfl rfl rfl ?_
     obtain ⟨f, h2, hF0⟩ := bind_some hF0
     refine WO_rd (g := 6) (args := [(Sl.av 5 c_api_Limit out_.sl)]) (r := (iA f)) _ _ rfl rfl rfl rfl rfl rfl rfl (ok_gateref1_LimitsFault _ h2 _ _ ) <| L (iA f) rfl rfl rfl <| nl <| sq <| rg <| L (iA f) rfl rfl rfl <| L (bA (f != 0)) rfl rfl rfl <| nl <| cd (f != 0) rfl (fun hc3 => ?_) (fun hc3 => ?_)
     · replace hF0 := ite_t hF0 (bne_t hc3)
       refine sq <| rg <| L (iA f) rfl rfl rfl <| L (Sl.av 5 c_api_Limit Sl.nil) rfl rfl rfl <| L (iA 0) rfl rfl rfl <| L (iA f) rfl rfl rfl <| nl <| rt ?_
       obtain rfl := Option.some.inj hF0
       exact rd_leaf (.inr rfl) rfl (ret_tup3 (retV_pl _ _ (Sl.av 5 c_api_Limit Sl.nil)) (retV_pl _ _ (iA 0)) (retV_pl _ _ (iA f))) rfl rfl
     · replace hF0 := ite_f hF0 (bne_f hc3)
       refine sk <| sq <| rg <| WO_ldfrz2 (s := 5) (b := 1050038) (v := 1) (u := u1) (a := out_) (n := 5) (c := c_api_Limit) _ rfl rfl rfl rfl rfl rfl rfl rfl rfl rfl rfl <| L (Sl.av 5 c_api_Limit out_.sl) rfl rfl rfl <| L (iA 0) rfl rfl rfl <| L (iA 0) rfl rfl rfl <| nl <| rt ?_
       obtain rfl := Option.some.inj hF0
       exact rd_leaf (.inr rfl) rfl (ret_tup3 (retV_pl _ _ (Sl.av 5 c_api_Limit out_.sl)) (retV_pl _ _ (iA 0)) (retV_pl _ _ (iA 0))) rfl rfl

theorem ok_slices_Equal_api_Limit_api_Limit (s1 : (Sl api_Limit)) (s2 : (Sl api_Limit)) {r : (Bool)} (hF0 : slices_Equal_api_Limit_api_Limit s1 s2 = some r) (out : List AE.Frame) (glob : List AObj) : RdOk Tryz.prog pol true 11 [(Sl.av 5 c_api_Limit s1), (Sl.av 5 c_api_Limit s2)] out glob (bA r) := by
 unfold slices_Equal_api_Limit_api_Limit at hF0
 refine rd_walk Tryz.func11 rfl (Nat.not_lt.2 (Nat.le_of_ble_eq_true rfl)) ?_
 intro ro
 refine sq <| rg <| L (bA false) rfl rfl rfl <| nl <| sq <| sq <| rg <| L (Sl.av 5 c_api_Limit s1) rfl rfl rfl <| L (iA (s1.list.length : Int)) rfl rfl (op_len rfl rfl rfl rfl rfl (len_sl _)) <| L (Sl.av 5 c_api_Limit s2) rfl rfl rfl <| L (iA (s2.list.length : Int)) rfl rfl (op_len rfl rfl rfl rfl rfl (len_sl _)) <| L (bA ((s1.list.length : Int) != (s2.list.length : Int))) rfl rfl rfl <| nl <| cd ((s1.list.length : Int) != (s2.list.length : Int)) rfl (fun hc9 => ?_) (fun hc9 => ?_)
 · replace hF0 := ite_t hF0 (bne_t hc9)
   refine sq <| rg <| L (bA false) rfl rfl rfl <| nl <| rt ?_
   obtain rfl := Option.some.inj hF0
   exact rd_leaf (.inr rfl) rfl (retV_pl _ _ (bA false)) rfl rfl
 · replace hF0 := ite_f hF0 (bne_f hc9)
   refine sk <| sq <| sq <| rg <| L (Sl.av 5 c_api_Limit s1) rfl rfl rfl <| L (iA (s1.list.length : Int)) rfl rfl (op_len rfl rfl rfl rfl rfl (len_sl _)) <| L (iA 0) rfl rfl rfl <| nl <| bk ?_
   obtain ⟨b1, hb4, hF0⟩ := bind_some hF0
   obtain ⟨hn4, hb4⟩ := ite_none hb4
   obtain ⟨J4, hJ4⟩ : ∃ J : St → Prop, ∀ st, J st ↔ (∃ (tm6 : Nat → AV) (cb6 : AE.Frame), st = ⟨tm6, ⟨cb6, out, glob⟩⟩ ∧ AllEq tm6 [] ∧ AllEq cb6 [] ∧ Res.out () = b1) := ⟨_, fun _ => Iff.rfl⟩
   obtain ⟨R4, hR4⟩ : ∃ R : Nat → (Unit) → St → Prop, ∀ i v st, R i v st ↔ (match v with | () => ∃ (tm5 : Nat → AV) (cb5 : AE.Frame), st = ⟨tm5, ⟨cb5, out, glob⟩⟩ ∧ AllEq tm5 [(0, (Sl.av 5 c_api_Limit s1)), (1, (Sl.av 5 c_api_Limit s2)), (12, (iA (s1.list.length : Int))), (13, (iA ((i : Nat) : Int)))] ∧ AllEq cb5 []) := ⟨_, fun _ _ _ => Iff.rfl⟩
   refine W_loopcut J4 (fun st hst => ?_) ?_
   · obtain ⟨tm6, cb6, rfl, hT6, hC6, rfl⟩ := (hJ4 st).1 hst
     obtain ⟨tm6, rfl⟩ := allEq hT6
     obtain ⟨cb6, rfl⟩ := allEq hC6
     replace hF0 := res_out hF0
     refine sq <| rg <| L (bA true) rfl rfl rfl <| nl <| rt ?_
     obtain rfl := Option.some.inj hF0
     exact rd_leaf (.inr rfl) rfl (retV_pl _ _ (bA true)) rfl rfl
   · refine W_rangeL hb4 R4 ((hR4 _ _ _).2 ⟨_, _, rfl, (And.intro rfl (And.intro rfl (And.intro rfl (And.intro rfl True.intro)))), True.intro⟩) ?_ ?_
     · intro i hi4 v st s hr hF1 hD1
       obtain ⟨⟩ := v
       obtain ⟨tm5, cb5, rfl, hT5, hC5⟩ := (hR4 _ _ _).1 hr
       obtain ⟨tm5, rfl⟩ := allEq hT5
       obtain ⟨cb5, rfl⟩ := allEq hC5
       obtain ⟨x2, hx4⟩ : ∃ x, x = s1.list[i] := ⟨_, rfl⟩
       rw [← hx4] at hF1
       dsimp only [slices_Equal_api_Limit_api_Limit_l0] at hF1
       refine sq (rg ?_)
       refine WO_do (y := (bA (decide (((i : Nat) : Int) < (s1.list.length : Int))))) _ rfl rfl rfl (nl ?_)
       refine sq <| cd true (congrArg some (range_lt hi4)) (fun _ => ?_) (fun h => absurd h (by decide))
       refine sk <| sq <| bk <| sq <| rg <| L (iA ((i : Nat) : Int)) rfl rfl rfl <| L (iA ((i : Nat) : Int)) rfl rfl rfl <| nl <| sq <| dw (by kernel_rfl) <| L (Sl.av 5 c_api_Limit s1) rfl rfl rfl <| L (iA ((i : Nat) : Int)) rfl rfl rfl <| L (.cptr (c_api_Limit x2)) rfl rfl (op_ix rfl ((ix_at (c := c_api_Limit) rfl rfl hi4).trans (congrArg (fun x => some (AV.cptr (c_api_Limit x))) hx4.symm))) <| L (.agg (c_api_Limit x2)) rfl rfl rfl <| L (Sl.av 5 c_api_Limit s2) rfl rfl rfl <| L (iA ((i : Nat) : Int)) rfl rfl rfl ?_
       obtain ⟨x3, h_x3, hF1⟩ := bind_some hF1
       refine L (.cptr (c_api_Limit x3)) rfl rfl (op_ix rfl (ix_sl (c := c_api_Limit) rfl rfl h_x3)) <| L (.agg (c_api_Limit x3)) rfl rfl rfl <| L (bA (!(eq_api_Limit x2 x3))) rfl rfl (op_bin rfl (bin_agne (b := eq_api_Limit x2 x3) (by kernel_rfl) (by kernel_rfl))) <| nl <| cd (!(eq_api_Limit x2 x3)) rfl (fun hc8 => ?_) (fun hc8 => ?_)
       · replace hF1 := ite_t hF1 (hc8)
         refine sq <| rg <| L (bA false) rfl rfl rfl <| nl <| rt ?_
         obtain rfl := hD1 _ (Option.some.inj hF1).symm
         replace hF0 := res_ret hF0
         obtain rfl := Option.some.inj hF0
         exact rd_leaf (.inr rfl) rfl (retV_pl _ _ (bA false)) rfl rfl
       · replace hF1 := ite_f hF1 (not_t hc8)
         exact sk <| rg <| WO_do (y := (iA ((i + 1 : Nat) : Int))) _ rfl rfl (congrArg (fun n => some (AV.int .i64 n, _)) (range_len hi4 hn4)) <| WO_do (y := (iA ((i + 1 : Nat) : Int))) _ rfl rfl rfl <| nl <| Exists.intro _ (And.intro (Option.some.inj hF1).symm ((hR4 _ _ _).2 ⟨_, _, rfl, (And.intro rfl (And.intro rfl (And.intro rfl (And.intro rfl True.intro)))), True.intro⟩))
     · intro v st hr hD1
       obtain ⟨⟩ := v
       obtain ⟨tm5, cb5, rfl, hT5, hC5⟩ := (hR4 _ _ _).1 hr
       obtain ⟨tm5, rfl⟩ := allEq hT5
       obtain ⟨cb5, rfl⟩ := allEq hC5
       refine sq (rg ?_)
       refine WO_do (y := .bool false) _ rfl rfl (congrArg (fun b => some (AV.bool b, _)) (range_ge _)) (nl ?_)
       refine sq <| cd false rfl (fun h => absurd h (by decide)) (fun _ => ?_)
       exact xt <| (hJ4 _).2 ⟨_, _, rfl, True.intro, True.intro, hD1⟩
end Go.Proofs.YtimnggioioeehabGreatDoor
