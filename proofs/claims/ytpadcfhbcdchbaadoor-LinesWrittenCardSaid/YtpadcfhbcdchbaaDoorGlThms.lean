/- The evaluator answers as the typed functions. Printed by gen.py. -/
import Derived.Test.YtpadcfhbcdchbaaDoorGlDefs
import Derived.Test.YtpadcfhbcdchbaaDoorGlFacts
namespace Go.Proofs.YtpadcfhbcdchbaaDoor
open Go.AE Go.GW
set_option maxRecDepth 100000
set_option linter.unusedVariables false
theorem ok_gatemake_Below (x : Int) (n : Int) {r : (Int)} (hF0 : gatemake_Below x n = some r) (out : List AE.Frame) (glob : List AObj) : RdOk Tryd.prog pol true 30 [(iA x), (iA n)] out glob (iA r) := by
 unfold gatemake_Below at hF0
 refine rd_walk Tryd.func30 rfl (Nat.not_lt.2 (Nat.le_of_ble_eq_true rfl)) ?_
 intro ro
 refine sq <| rg <| L (iA 0) rfl rfl rfl <| nl <| sq <| sq <| rg <| L (iA n) rfl rfl rfl <| L (bA (decide (n < 1))) rfl rfl rfl <| nl <| cd (decide (n < 1)) rfl (fun hc2 => ?_) (fun hc2 => ?_)
 · replace hF0 := ite_t hF0 (dec_t hc2)
   refine sq <| rg <| L (iA 0) rfl rfl rfl <| nl <| rt ?_
   obtain rfl := Option.some.inj hF0
   exact rd_leaf (.inr rfl) rfl (retV_pl _ _ (iA 0)) rfl rfl
 · replace hF0 := ite_f hF0 (dec_f hc2)
   refine sk <| sq <| rg <| L (iA x) rfl rfl rfl <| L (iA n) rfl rfl rfl ?_
   obtain ⟨x1, h_x1, hF0⟩ := bind_some hF0
   refine L (iA x1) rfl rfl (op_bin rfl (bin_rem h_x1)) <| L (iA x1) rfl rfl rfl <| nl <| sq <| sq <| rg <| L (iA x1) rfl rfl rfl <| L (bA (decide (x1 < 0))) rfl rfl rfl <| nl <| cd (decide (x1 < 0)) rfl (fun hc1 => ?_) (fun hc1 => ?_)
   · replace hF0 := ite_t hF0 (dec_t hc1)
     refine rg <| L (iA x1) rfl rfl rfl <| L (iA n) rfl rfl rfl <| L (iA (w64 (x1 + n))) rfl rfl rfl <| L (iA (w64 (x1 + n))) rfl rfl rfl <| nl <| sq <| rg <| L (iA (w64 (x1 + n))) rfl rfl rfl <| L (iA (w64 (x1 + n))) rfl rfl rfl <| nl <| rt ?_
     obtain rfl := Option.some.inj hF0
     exact rd_leaf (.inr rfl) rfl (retV_pl _ _ (iA (w64 (x1 + n)))) rfl rfl
   · replace hF0 := ite_f hF0 (dec_f hc1)
     refine sk <| sq <| rg <| L (iA x1) rfl rfl rfl <| L (iA x1) rfl rfl rfl <| nl <| rt ?_
     obtain rfl := Option.some.inj hF0
     exact rd_leaf (.inr rfl) rfl (retV_pl _ _ (iA x1)) rfl rfl

theorem ok_gatemake_Stream_Next (s_ : gatemake_Stream) (n : Int) {r : (Int × gatemake_Stream)} (hF0 : gatemake_Stream_Next s_ n = some r) : MutOk Tryd.prog pol 14 (fun p => [p, (iA n)]) (c_gatemake_Stream s_) (iA r.1) (c_gatemake_Stream r.2) := by
 unfold gatemake_Stream_Next at hF0
 refine mut_walk Tryd.func14 rfl (fun _ => Nat.not_lt.2 (Nat.le_of_ble_eq_true rfl)) ?_
 intro out glob d0 w0 hh0 hk_0
 refine sq <| rg <| L (iA 0) rfl rfl rfl <| nl <| sq <| rg <| L (.ptr d0 w0 0) rfl rfl rfl <| L (.ptr d0 w0 0) rfl rfl rfl <| L (.ptr d0 w0 1) rfl rfl rfl <| L (iA s_.at_) rfl rfl (op_load rfl (ld_con (iA s_.at_) rfl rfl (cs := (c_gatemake_Stream s_)) ((con_con2 _ _ _ _ _ hh0).trans hk_0) rfl)) <| L (iA (w64 (s_.at_ + 1))) rfl rfl rfl <| L (.ptr d0 w0 0) rfl rfl rfl <| L (.ptr d0 w0 1) rfl rfl rfl <| WO_stP (X := (iA (w64 (s_.at_ + 1)))) (cs := (c_gatemake_Stream s_)) (cs' := (c_gatemake_Stream ({ s_ with at_ := w64 (s_.at_ + 1) }))) (off := 1) _ rfl rfl rfl rfl rfl rfl rfl rfl hh0 hk_0 (Nat.le_of_ble_eq_true rfl) rfl (fun out1 glob1 hk1 hs1 => ?_)
 replace hs1 := (Same.refl _ _ _).trans hs1
 refine nl <| sq <| sq <| rg <| L (.ptr d0 w0 0) rfl rfl rfl <| L (.ptr d0 w0 0) rfl rfl rfl <| L (.ptr d0 w0 0) rfl rfl rfl <| L (Sl.av 1 c_i64 s_.L) rfl rfl (op_load rfl (ld_con (Sl.av 1 c_i64 s_.L) rfl rfl (cs := (c_gatemake_Stream ({ s_ with at_ := w64 (s_.at_ + 1) }))) ((con_con2 _ _ _ _ _ hh0).trans hk1) rfl)) <| L (iA (s_.L.list.length : Int)) rfl rfl (op_len rfl rfl rfl rfl rfl (len_sl _)) <| L (bA ((s_.L.list.length : Int) == 0)) rfl rfl rfl <| nl <| cd ((s_.L.list.length : Int) == 0) rfl (fun hc5 => ?_) (fun hc5 => ?_)
 · replace hF0 := ite_t hF0 (beq_t hc5)
   refine sq <| rg <| L (.ptr d0 w0 0) rfl rfl rfl <| L (.ptr d0 w0 0) rfl rfl rfl <| L (.ptr d0 w0 1) rfl rfl rfl <| L (iA (w64 (s_.at_ + 1))) rfl rfl (op_load rfl (ld_con (iA (w64 (s_.at_ + 1))) rfl rfl (cs := (c_gatemake_Stream ({ s_ with at_ := w64 (s_.at_ + 1) }))) ((con_con2 _ _ _ _ _ hh0).trans hk1) rfl)) <| L (iA (w64 ((w64 (s_.at_ + 1)) * 7919))) rfl rfl rfl <| L (iA n) rfl rfl rfl ?_
   obtain ⟨r4, h2, hF0⟩ := bind_some hF0
   refine WO_rd (g := 30) (args := [(iA (w64 ((w64 (s_.at_ + 1)) * 7919))), (iA n)]) (r := (iA r4)) _ _ rfl rfl rfl rfl rfl rfl rfl (ok_gatemake_Below _ _ h2 _ _ ) <| L (iA r4) rfl rfl rfl <| nl <| rt ?_
   obtain rfl := Option.some.inj hF0
   exact mut_leaf (.inr rfl) rfl (retV_pl _ _ (iA r4)) hk1 hs1
 · replace hF0 := ite_f hF0 (beq_f hc5)
   refine sk <| sq <| dw (by kernel_rfl) <| L (.ptr d0 w0 0) rfl rfl rfl <| L (.ptr d0 w0 0) rfl rfl rfl <| L (.ptr d0 w0 1) rfl rfl rfl <| L (iA (w64 (s_.at_ + 1))) rfl rfl (op_load rfl (ld_con (iA (w64 (s_.at_ + 1))) rfl rfl (cs := (c_gatemake_Stream ({ s_ with at_ := w64 (s_.at_ + 1) }))) ((con_con2 _ _ _ _ _ hh0).trans hk1) rfl)) <| L (iA (w64 ((w64 (s_.at_ + 1)) - 1))) rfl rfl rfl <| L (.ptr d0 w0 0) rfl rfl rfl <| L (.ptr d0 w0 0) rfl rfl rfl <| L (.ptr d0 w0 0) rfl rfl rfl <| L (Sl.av 1 c_i64 s_.L) rfl rfl (op_load rfl (ld_con (Sl.av 1 c_i64 s_.L) rfl rfl (cs := (c_gatemake_Stream ({ s_ with at_ := w64 (s_.at_ + 1) }))) ((con_con2 _ _ _ _ _ hh0).trans hk1) rfl)) <| L (iA (s_.L.list.length : Int)) rfl rfl (op_len rfl rfl rfl rfl rfl (len_sl _)) ?_
   obtain ⟨i, h_i, hF0⟩ := bind_some hF0
   refine L (iA i) rfl rfl (op_bin rfl (bin_rem h_i)) <| L (iA i) rfl rfl rfl <| nl <| sq <| dw (by kernel_rfl) <| L (.ptr d0 w0 0) rfl rfl rfl <| L (.ptr d0 w0 0) rfl rfl rfl <| L (.ptr d0 w0 1) rfl rfl rfl <| L (iA (w64 (s_.at_ + 1))) rfl rfl (op_load rfl (ld_con (iA (w64 (s_.at_ + 1))) rfl rfl (cs := (c_gatemake_Stream ({ s_ with at_ := w64 (s_.at_ + 1) }))) ((con_con2 _ _ _ _ _ hh0).trans hk1) rfl)) <| L (iA (w64 ((w64 (s_.at_ + 1)) - 1))) rfl rfl rfl <| L (.ptr d0 w0 0) rfl rfl rfl <| L (.ptr d0 w0 0) rfl rfl rfl <| L (.ptr d0 w0 0) rfl rfl rfl <| L (Sl.av 1 c_i64 s_.L) rfl rfl (op_load rfl (ld_con (Sl.av 1 c_i64 s_.L) rfl rfl (cs := (c_gatemake_Stream ({ s_ with at_ := w64 (s_.at_ + 1) }))) ((con_con2 _ _ _ _ _ hh0).trans hk1) rfl)) <| L (iA (s_.L.list.length : Int)) rfl rfl (op_len rfl rfl rfl rfl rfl (len_sl _)) ?_
   obtain ⟨round, h_round, hF0⟩ := bind_some hF0
   refine L (iA round) rfl rfl (op_bin rfl (bin_quo h_round)) <| L (iA round) rfl rfl rfl <| nl <| sq <| rg <| L (.ptr d0 w0 0) rfl rfl rfl <| L (.ptr d0 w0 0) rfl rfl rfl <| L (.ptr d0 w0 0) rfl rfl rfl <| L (Sl.av 1 c_i64 s_.L) rfl rfl (op_load rfl (ld_con (Sl.av 1 c_i64 s_.L) rfl rfl (cs := (c_gatemake_Stream ({ s_ with at_ := w64 (s_.at_ + 1) }))) ((con_con2 _ _ _ _ _ hh0).trans hk1) rfl)) <| L (iA i) rfl rfl rfl ?_
   obtain ⟨x, h_x, hF0⟩ := bind_some hF0
   refine L (.cptr [(iA x)]) rfl rfl (op_ix rfl (ix_sl (c := c_i64) rfl rfl h_x)) <| L (iA x) rfl rfl rfl ?_
   obtain ⟨r56, h3, hF0⟩ := bind_some hF0
   refine WO_rd (g := 30) (args := [(iA x), (iA 1073741824)]) (r := (iA r56)) _ _ rfl rfl rfl rfl rfl rfl rfl (ok_gatemake_Below _ _ h3 _ _ ) <| L (iA round) rfl rfl rfl <| L (iA i) rfl rfl rfl <| L (iA (w64 (7919 + i))) rfl rfl rfl <| L (iA (w64 (round * (w64 (7919 + i))))) rfl rfl rfl <| L (iA (w64 (r56 + (w64 (round * (w64 (7919 + i))))))) rfl rfl rfl <| L (iA n) rfl rfl rfl ?_
   obtain ⟨r41, h4, hF0⟩ := bind_some hF0
   refine WO_rd (g := 30) (args := [(iA (w64 (r56 + (w64 (round * (w64 (7919 + i))))))), (iA n)]) (r := (iA r41)) _ _ rfl rfl rfl rfl rfl rfl rfl (ok_gatemake_Below _ _ h4 _ _ ) <| L (iA r41) rfl rfl rfl <| nl <| rt ?_
   obtain rfl := Option.some.inj hF0
   exact mut_leaf (.inr rfl) rfl (retV_pl _ _ (iA r41)) hk1 hs1

theorem ok_gatemake_Stream_Flip (s_ : gatemake_Stream) (n : Int) {r : (Bool × gatemake_Stream)} (hF0 : gatemake_Stream_Flip s_ n = some r) : MutOk Tryd.prog pol 7 (fun p => [p, (iA n)]) (c_gatemake_Stream s_) (bA r.1) (c_gatemake_Stream r.2) := by
 unfold gatemake_Stream_Flip at hF0
 refine mut_walk Tryd.func7 rfl (fun _ => Nat.not_lt.2 (Nat.le_of_ble_eq_true rfl)) ?_
 intro out glob d0 w0 hh0 hk_0
 refine sq <| rg <| L (bA false) rfl rfl rfl <| nl <| sq <| rg <| L (.ptr d0 w0 0) rfl rfl rfl <| L (iA n) rfl rfl rfl ?_
 obtain ⟨⟨r7, s_1⟩, h1, hF0⟩ := bind_some hF0
 refine WO_mutP (g := 14) (args := fun p => [p, (iA n)]) (d := d0) (v := w0) (r := (iA r7)) _ _ rfl rfl rfl rfl rfl rfl rfl (fun _ _ => inferInstance) hh0 hk_0 (ok_gatemake_Stream_Next _ _ h1) (fun out1 glob1 hk1 hs1 => ?_)
 replace hs1 := (Same.refl _ _ _).trans hs1
 refine L (bA (r7 == 0)) rfl rfl rfl <| L (bA (r7 == 0)) rfl rfl rfl <| nl <| rt ?_
 obtain rfl := Option.some.inj hF0
 exact mut_leaf (.inr rfl) rfl (retV_pl _ _ (bA (r7 == 0))) hk1 hs1

theorem ok_gatemake_Stream_Range (s_ : gatemake_Stream) (low : Int) (high : Int) {r : (Int × gatemake_Stream)} (hF0 : gatemake_Stream_Range s_ low high = some r) : MutOk Tryd.prog pol 29 (fun p => [p, (iA low), (iA high)]) (c_gatemake_Stream s_) (iA r.1) (c_gatemake_Stream r.2) := by
 unfold gatemake_Stream_Range at hF0
 refine mut_walk Tryd.func29 rfl (fun _ => Nat.not_lt.2 (Nat.le_of_ble_eq_true rfl)) ?_
 intro out glob d0 w0 hh0 hk_0
 refine sq <| rg <| L (iA 0) rfl rfl rfl <| nl <| sq <| sq <| rg <| L (iA high) rfl rfl rfl <| L (iA low) rfl rfl rfl <| L (bA (decide (high < low))) rfl rfl rfl <| nl <| cd (decide (high < low)) rfl (fun hc2 => ?_) (fun hc2 => ?_)
 · replace hF0 := ite_t hF0 (dec_t hc2)
   refine sq <| rg <| L (iA low) rfl rfl rfl <| L (iA low) rfl rfl rfl <| nl <| rt ?_
   obtain rfl := Option.some.inj hF0
   exact mut_leaf (.inr rfl) rfl (retV_pl _ _ (iA low)) hk_0 (Same.refl _ _ _)
 · replace hF0 := ite_f hF0 (dec_f hc2)
   refine sk <| sq <| rg <| L (iA low) rfl rfl rfl <| L (.ptr d0 w0 0) rfl rfl rfl <| L (iA high) rfl rfl rfl <| L (iA low) rfl rfl rfl <| L (iA (w64 (high - low))) rfl rfl rfl <| L (iA (w64 ((w64 (high - low)) + 1))) rfl rfl rfl ?_
   obtain ⟨⟨r17, s_1⟩, h1, hF0⟩ := bind_some hF0
   refine WO_mutP (g := 14) (args := fun p => [p, (iA (w64 ((w64 (high - low)) + 1)))]) (d := d0) (v := w0) (r := (iA r17)) _ _ rfl rfl rfl rfl rfl rfl rfl (fun _ _ => inferInstance) hh0 hk_0 (ok_gatemake_Stream_Next _ _ h1) (fun out1 glob1 hk1 hs1 => ?_)
   replace hs1 := (Same.refl _ _ _).trans hs1
   refine L (iA (w64 (low + r17))) rfl rfl rfl <| L (iA (w64 (low + r17))) rfl rfl rfl <| nl <| rt ?_
   obtain rfl := Option.some.inj hF0
   exact mut_leaf (.inr rfl) rfl (retV_pl _ _ (iA (w64 (low + r17)))) hk1 hs1

theorem ok_gatemake_Stream_Pick (s_ : gatemake_Stream) (l : (Sl Int)) {r : (Int × gatemake_Stream)} (hF0 : gatemake_Stream_Pick s_ l = some r) : MutOk Tryd.prog pol 6 (fun p => [p, (Sl.av 1 c_i64 l)]) (c_gatemake_Stream s_) (iA r.1) (c_gatemake_Stream r.2) := by
 unfold gatemake_Stream_Pick at hF0
 refine mut_walk Tryd.func6 rfl (fun _ => Nat.not_lt.2 (Nat.le_of_ble_eq_true rfl)) ?_
 intro out glob d0 w0 hh0 hk_0
 refine sq <| rg <| L (iA 0) rfl rfl rfl <| nl <| sq <| rg <| L (Sl.av 1 c_i64 l) rfl rfl rfl <| L (.ptr d0 w0 0) rfl rfl rfl <| L (Sl.av 1 c_i64 l) rfl rfl rfl <| L (iA (l.list.length : Int)) rfl rfl (op_len rfl rfl rfl rfl rfl (len_sl _)) ?_
 obtain ⟨⟨r9, s_1⟩, h1, hF0⟩ := bind_some hF0
 refine WO_mutP (g := 14) (args := fun p => [p, (iA (l.list.length : Int))]) (d := d0) (v := w0) (r := (iA r9)) _ _ rfl rfl rfl rfl rfl rfl rfl (fun _ _ => inferInstance) hh0 hk_0 (ok_gatemake_Stream_Next _ _ h1) (fun out1 glob1 hk1 hs1 => ?_)
 replace hs1 := (Same.refl _ _ _).trans hs1
 obtain ⟨x, h_x, hF0⟩ := bind_some hF0
 refine L (.cptr [(iA x)]) rfl rfl (op_ix rfl (ix_sl (c := c_i64) rfl rfl h_x)) <| L (iA x) rfl rfl rfl <| L (iA x) rfl rfl rfl <| nl <| rt ?_
 obtain rfl := Option.some.inj hF0
 exact mut_leaf (.inr rfl) rfl (retV_pl _ _ (iA x)) hk1 hs1

theorem ok_gatemake_Stream_RightLimit (s_ : gatemake_Stream) (key : Str) {r : (api_Limit × gatemake_Stream)} (hF0 : gatemake_Stream_RightLimit s_ key = some r) : MutOk Tryd.prog pol 13 (fun p => [p, (sA key)]) (c_gatemake_Stream s_) (.agg (c_api_Limit r.1)) (c_gatemake_Stream r.2) := by
 unfold gatemake_Stream_RightLimit at hF0
 refine mut_walk Tryd.func13 rfl (fun _ => Nat.not_lt.2 (Nat.le_of_ble_eq_true rfl)) ?_
 intro out glob d0 w0 hh0 hk_0
 refine sq <| rg <| L (.ptr (.fr 0 4) 1 0) (h' := ⟨upd _ 4 ⟨1, .cells (c_api_Limit (api_Limit.mk [] 0 0 0 0))⟩, _, _⟩) rfl rfl (op_alloc (c_api_Limit (api_Limit.mk [] 0 0 0 0)) rfl rfl rfl rfl) <| nl <| sq <| rg <| L (sA key) rfl rfl rfl <| L (.ptr d0 w0 0) rfl rfl rfl ?_
 obtain ⟨⟨r8, s_1⟩, h1, hF0⟩ := bind_some hF0
 refine WO_mutP (g := 29) (args := fun p => [p, (iA 1), (iA 4)]) (d := d0) (v := w0) (r := (iA r8)) _ _ rfl rfl rfl rfl rfl rfl rfl (fun _ _ => inferInstance) hh0 hk_0 (ok_gatemake_Stream_Range _ _ _ h1) (fun out1 glob1 hk1 hs1 => ?_)
 replace hs1 := (Same.refl _ _ _).trans hs1
 refine L (.ptr d0 w0 0) rfl rfl rfl <| L (Sl.av 1 c_i64 (Sl.full [1, 2, 3, 5] : Sl Int)) rfl rfl (op_sliceN rfl rfl rfl) ?_
 obtain ⟨⟨r11, s_2⟩, h2, hF0⟩ := bind_some hF0
 refine WO_mutP (g := 6) (args := fun p => [p, (Sl.av 1 c_i64 (Sl.full [1, 2, 3, 5] : Sl Int))]) (d := d0) (v := w0) (r := (iA r11)) _ _ rfl rfl rfl rfl rfl rfl rfl (fun _ _ => inferInstance) hh0 hk1 (ok_gatemake_Stream_Pick _ _ h2) (fun out2 glob2 hk2 hs2 => ?_)
 replace hs2 := hs1.trans hs2
 refine L (.ptr d0 w0 0) rfl rfl rfl <| L (Sl.av 1 c_i64 (Sl.full [1, 7, 10, 50, 100] : Sl Int)) rfl rfl (op_sliceN rfl rfl rfl) ?_
 obtain ⟨⟨r14, s_3⟩, h3, hF0⟩ := bind_some hF0
 refine WO_mutP (g := 6) (args := fun p => [p, (Sl.av 1 c_i64 (Sl.full [1, 7, 10, 50, 100] : Sl Int))]) (d := d0) (v := w0) (r := (iA r14)) _ _ rfl rfl rfl rfl rfl rfl rfl (fun _ _ => inferInstance) hh0 hk2 (ok_gatemake_Stream_Pick _ _ h3) (fun out3 glob3 hk3 hs3 => ?_)
 replace hs3 := hs2.trans hs3
 refine L (.agg (c_api_Limit (api_Limit.mk key r8 r11 r14 0))) rfl rfl (op_build rfl (build_st (cs := (c_api_Limit (api_Limit.mk key r8 r11 r14 0))) rfl rfl rfl (fill_cons (x := (sA key)) rfl rfl (Nat.le_of_ble_eq_true rfl) (fill_cons (x := (iA r8)) rfl rfl (Nat.le_of_ble_eq_true rfl) (fill_cons (x := (iA r11)) rfl rfl (Nat.le_of_ble_eq_true rfl) (fill_cons (x := (iA r14)) rfl rfl (Nat.le_of_ble_eq_true rfl) (fill_nil))))))) <| L (.ptr (.fr 0 5) 1 0) (h' := ⟨upd _ 5 ⟨1, .cells (c_api_Limit (api_Limit.mk [] 0 0 0 0))⟩, _, _⟩) rfl rfl (op_alloc (c_api_Limit (api_Limit.mk [] 0 0 0 0)) rfl rfl rfl rfl) <| L (.tup []) (h' := ⟨upd _ 5 ⟨1, .cells (c_api_Limit (api_Limit.mk key r8 r11 r14 0))⟩, _, _⟩) rfl rfl (op_store rfl rfl (st_fr (x := (.agg (c_api_Limit (api_Limit.mk key r8 r11 r14 0)))) (c_api_Limit (api_Limit.mk key r8 r11 r14 0)) rfl rfl (Nat.le_of_ble_eq_true rfl) rfl)) <| nl <| sq <| sq <| rg <| L (.ptr (.fr 0 5) 1 1) rfl rfl rfl <| L (iA r8) rfl rfl (op_load rfl (ld_con (iA r8) rfl rfl (cs := (c_api_Limit (api_Limit.mk key r8 r11 r14 0))) (con_fr rfl) rfl)) <| nl <| bk <| sq <| rg <| L (bA (r8 == 3)) rfl rfl rfl <| L (bA (r8 == 3)) rfl rfl rfl <| nl <| cd (r8 == 3) rfl (fun hc6 => ?_) (fun hc6 => ?_)
 · replace hF0 := ite_t hF0 (beq_t hc6)
   refine rg <| L (.ptr d0 w0 0) rfl rfl rfl <| L (Sl.av 1 c_i64 (Sl.full [1, 2, 5] : Sl Int)) rfl rfl (op_sliceN rfl rfl rfl) ?_
   obtain ⟨⟨r22, s_4⟩, h4, hF0⟩ := bind_some hF0
   refine WO_mutP (g := 6) (args := fun p => [p, (Sl.av 1 c_i64 (Sl.full [1, 2, 5] : Sl Int))]) (d := d0) (v := w0) (r := (iA r22)) _ _ rfl rfl rfl rfl rfl rfl rfl (fun _ _ => inferInstance) hh0 hk3 (ok_gatemake_Stream_Pick _ _ h4) (fun out4 glob4 hk4 hs4 => ?_)
   replace hs4 := hs3.trans hs4
   refine L (.ptr (.fr 0 5) 1 4) rfl rfl rfl <| L (.tup []) (h' := ⟨upd _ 5 ⟨1, .cells (c_api_Limit (api_Limit.mk key r8 r11 r14 r22))⟩, _, _⟩) rfl rfl (op_store rfl rfl (st_fr (x := (iA r22)) (c_api_Limit (api_Limit.mk key r8 r11 r14 r22)) rfl rfl (Nat.le_of_ble_eq_true rfl) rfl)) <| nl <| sq <| rg <| L (.agg (c_api_Limit (api_Limit.mk key r8 r11 r14 r22))) rfl rfl (op_load rfl (ld_con (.agg (c_api_Limit (api_Limit.mk key r8 r11 r14 r22))) rfl rfl (cs := (c_api_Limit (api_Limit.mk key r8 r11 r14 r22))) (con_fr rfl) rfl)) <| L (.tup []) (h' := ⟨upd _ 4 ⟨1, .cells (c_api_Limit (api_Limit.mk key r8 r11 r14 r22))⟩, _, _⟩) rfl rfl (op_store rfl rfl (st_fr (x := (.agg (c_api_Limit (api_Limit.mk key r8 r11 r14 r22)))) (c_api_Limit (api_Limit.mk key r8 r11 r14 r22)) rfl rfl (Nat.le_of_ble_eq_true rfl) rfl)) <| nl <| rt ?_
   obtain rfl := Option.some.inj hF0
   exact mut_leaf (.inr rfl) (res_cell (ld_fr (y := (.agg (c_api_Limit (api_Limit.mk key r8 r11 r14 r22)))) rfl rfl (cs := (c_api_Limit (api_Limit.mk key r8 r11 r14 r22))) rfl rfl) (res_nil)) (retV_pl _ _ (.agg (c_api_Limit (api_Limit.mk key r8 r11 r14 r22)))) hk4 hs4
 · replace hF0 := ite_f hF0 (beq_f hc6)
   refine sq <| rg <| L (bA (r8 == 4)) rfl rfl rfl <| L (bA (r8 == 4)) rfl rfl rfl <| nl <| cd (r8 == 4) rfl (fun hc5 => ?_) (fun hc5 => ?_)
   · replace hF0 := ite_t hF0 (beq_t hc5)
     refine rg <| L (.ptr (.fr 0 5) 1 3) rfl rfl rfl <| L (.tup []) (h' := ⟨upd _ 5 ⟨1, .cells (c_api_Limit (api_Limit.mk key r8 r11 0 0))⟩, _, _⟩) rfl rfl (op_store rfl rfl (st_fr (x := (iA 0)) (c_api_Limit (api_Limit.mk key r8 r11 0 0)) rfl rfl (Nat.le_of_ble_eq_true rfl) rfl)) <| nl <| sq <| rg <| L (.agg (c_api_Limit (api_Limit.mk key r8 r11 0 0))) rfl rfl (op_load rfl (ld_con (.agg (c_api_Limit (api_Limit.mk key r8 r11 0 0))) rfl rfl (cs := (c_api_Limit (api_Limit.mk key r8 r11 0 0))) (con_fr rfl) rfl)) <| L (.tup []) (h' := ⟨upd _ 4 ⟨1, .cells (c_api_Limit (api_Limit.mk key r8 r11 0 0))⟩, _, _⟩) rfl rfl (op_store rfl rfl (st_fr (x := (.agg (c_api_Limit (api_Limit.mk key r8 r11 0 0)))) (c_api_Limit (api_Limit.mk key r8 r11 0 0)) rfl rfl (Nat.le_of_ble_eq_true rfl) rfl)) <| nl <| rt ?_
     obtain rfl := Option.some.inj hF0
     exact mut_leaf (.inr rfl) (res_cell (ld_fr (y := (.agg (c_api_Limit (api_Limit.mk key r8 r11 0 0)))) rfl rfl (cs := (c_api_Limit (api_Limit.mk key r8 r11 0 0))) rfl rfl) (res_nil)) (retV_pl _ _ (.agg (c_api_Limit (api_Limit.mk key r8 r11 0 0)))) hk3 hs3
   · replace hF0 := ite_f hF0 (beq_f hc5)
     refine sk <| sq <| rg <| L (.agg (c_api_Limit (api_Limit.mk key r8 r11 r14 0))) rfl rfl (op_load rfl (ld_con (.agg (c_api_Limit (api_Limit.mk key r8 r11 r14 0))) rfl rfl (cs := (c_api_Limit (api_Limit.mk key r8 r11 r14 0))) (con_fr rfl) rfl)) <| L (.tup []) (h' := ⟨upd _ 4 ⟨1, .cells (c_api_Limit (api_Limit.mk key r8 r11 r14 0))⟩, _, _⟩) rfl rfl (op_store rfl rfl (st_fr (x := (.agg (c_api_Limit (api_Limit.mk key r8 r11 r14 0)))) (c_api_Limit (api_Limit.mk key r8 r11 r14 0)) rfl rfl (Nat.le_of_ble_eq_true rfl) rfl)) <| nl <| rt ?_
     obtain rfl := Option.some.inj hF0
     exact mut_leaf (.inr rfl) (res_cell (ld_fr (y := (.agg (c_api_Limit (api_Limit.mk key r8 r11 r14 0)))) rfl rfl (cs := (c_api_Limit (api_Limit.mk key r8 r11 r14 0))) rfl rfl) (res_nil)) (retV_pl _ _ (.agg (c_api_Limit (api_Limit.mk key r8 r11 r14 0)))) hk3 hs3

theorem ok_gatemake_Stream_Some (s_ : gatemake_Stream) (l : (Sl Str)) {r : (Str × gatemake_Stream)} (hF0 : gatemake_Stream_Some s_ l = some r) : MutOk Tryd.prog pol 5 (fun p => [p, (Sl.av 1 c_str l)]) (c_gatemake_Stream s_) (sA r.1) (c_gatemake_Stream r.2) := by
 unfold gatemake_Stream_Some at hF0
 refine mut_walk Tryd.func5 rfl (fun _ => Nat.not_lt.2 (Nat.le_of_ble_eq_true rfl)) ?_
 intro out glob d0 w0 hh0 hk_0
 refine sq <| rg <| L (sA []) rfl rfl rfl <| nl <| sq <| rg <| L (Sl.av 1 c_str l) rfl rfl rfl <| L (.ptr d0 w0 0) rfl rfl rfl <| L (Sl.av 1 c_str l) rfl rfl rfl <| L (iA (l.list.length : Int)) rfl rfl (op_len rfl rfl rfl rfl rfl (len_sl _)) ?_
 obtain ⟨⟨r9, s_1⟩, h1, hF0⟩ := bind_some hF0
 refine WO_mutP (g := 14) (args := fun p => [p, (iA (l.list.length : Int))]) (d := d0) (v := w0) (r := (iA r9)) _ _ rfl rfl rfl rfl rfl rfl rfl (fun _ _ => inferInstance) hh0 hk_0 (ok_gatemake_Stream_Next _ _ h1) (fun out1 glob1 hk1 hs1 => ?_)
 replace hs1 := (Same.refl _ _ _).trans hs1
 obtain ⟨x, h_x, hF0⟩ := bind_some hF0
 refine L (.cptr [(sA x)]) rfl rfl (op_ix rfl (ix_sl (c := c_str) rfl rfl h_x)) <| L (sA x) rfl rfl rfl <| L (sA x) rfl rfl rfl <| nl <| rt ?_
 obtain rfl := Option.some.inj hF0
 exact mut_leaf (.inr rfl) rfl (retV_pl _ _ (sA x)) hk1 hs1

theorem ok_gatemake_Stream_Odd (s_ : gatemake_Stream) (low : Int) (high : Int) {r : (Int × gatemake_Stream)} (hF0 : gatemake_Stream_Odd s_ low high = some r) : MutOk Tryd.prog pol 15 (fun p => [p, (iA low), (iA high)]) (c_gatemake_Stream s_) (iA r.1) (c_gatemake_Stream r.2) := by
 unfold gatemake_Stream_Odd at hF0
 refine mut_walk Tryd.func15 rfl (fun _ => Nat.not_lt.2 (Nat.le_of_ble_eq_true rfl)) ?_
 intro out glob d0 w0 hh0 hk_0
 refine sq <| rg <| L (iA 0) rfl rfl rfl <| nl <| sq <| sq <| rg <| L (.ptr d0 w0 0) rfl rfl rfl ?_
 obtain ⟨⟨r8, s_1⟩, h1, hF0⟩ := bind_some hF0
 refine WO_mutP (g := 7) (args := fun p => [p, (iA 12)]) (d := d0) (v := w0) (r := (bA r8)) _ _ rfl rfl rfl rfl rfl rfl rfl (fun _ _ => inferInstance) hh0 hk_0 (ok_gatemake_Stream_Flip _ _ h1) (fun out1 glob1 hk1 hs1 => ?_)
 replace hs1 := (Same.refl _ _ _).trans hs1
 refine nl <| cd r8 rfl (fun hc4 => ?_) (fun hc4 => ?_)
 · replace hF0 := ite_t hF0 (hc4)
   refine sq <| rg <| L (.ptr d0 w0 0) rfl rfl rfl <| L (iA low) rfl rfl rfl <| L (iA (w64 (low - 1))) rfl rfl rfl <| L (iA high) rfl rfl rfl <| L (iA (w64 (high + 1))) rfl rfl rfl <| L (iA low) rfl rfl rfl <| L (iA high) rfl rfl rfl <| L (Sl.av 1 c_i64 (Sl.full [w64 (low - 1), w64 (high + 1), low, high, (-1099511627776), 1099511627776] : Sl Int)) rfl rfl (op_sliceN rfl rfl rfl) ?_
   obtain ⟨⟨r6, s_2⟩, h2, hF0⟩ := bind_some hF0
   refine WO_mutP (g := 6) (args := fun p => [p, (Sl.av 1 c_i64 (Sl.full [w64 (low - 1), w64 (high + 1), low, high, (-1099511627776), 1099511627776] : Sl Int))]) (d := d0) (v := w0) (r := (iA r6)) _ _ rfl rfl rfl rfl rfl rfl rfl (fun _ _ => inferInstance) hh0 hk1 (ok_gatemake_Stream_Pick _ _ h2) (fun out2 glob2 hk2 hs2 => ?_)
   replace hs2 := hs1.trans hs2
   refine L (iA r6) rfl rfl rfl <| nl <| rt ?_
   obtain rfl := Option.some.inj hF0
   exact mut_leaf (.inr rfl) rfl (retV_pl _ _ (iA r6)) hk2 hs2
 · replace hF0 := ite_f hF0 (not_t hc4)
   refine sk <| sq <| rg <| L (.ptr d0 w0 0) rfl rfl rfl <| L (iA low) rfl rfl rfl <| L (iA high) rfl rfl rfl ?_
   obtain ⟨⟨r61, s_3⟩, h3, hF0⟩ := bind_some hF0
   refine WO_mutP (g := 29) (args := fun p => [p, (iA low), (iA high)]) (d := d0) (v := w0) (r := (iA r61)) _ _ rfl rfl rfl rfl rfl rfl rfl (fun _ _ => inferInstance) hh0 hk1 (ok_gatemake_Stream_Range _ _ _ h3) (fun out3 glob3 hk3 hs3 => ?_)
   replace hs3 := hs1.trans hs3
   refine L (iA r61) rfl rfl rfl <| nl <| rt ?_
   obtain rfl := Option.some.inj hF0
   exact mut_leaf (.inr rfl) rfl (retV_pl _ _ (iA r61)) hk3 hs3

theorem ok_gatemake_Stream_Limits (s_ : gatemake_Stream) {r : ((Sl api_Limit) × gatemake_Stream)} (hF0 : gatemake_Stream_Limits s_ = some r) : MutOk Tryd.prog pol 4 (fun p => [p]) (c_gatemake_Stream s_) (Sl.av 5 c_api_Limit r.1) (c_gatemake_Stream r.2) := by
 unfold gatemake_Stream_Limits at hF0
 refine mut_walk Tryd.func4 rfl (fun _ => Nat.not_lt.2 (Nat.le_of_ble_eq_true rfl)) ?_
 intro out glob d0 w0 hh0 hk_0
 refine sq <| rg <| L (Sl.av 5 c_api_Limit Sl.nil) rfl rfl rfl <| nl <| sq <| rg <| L (Sl.av 5 c_api_Limit Sl.nil) rfl rfl rfl <| nl <| sq <| sq <| rg <| L (Sl.av 1 c_str (Sl.full [[108, 97], [108, 98], [108, 99]] : Sl Str)) rfl rfl (op_sliceN rfl rfl rfl) <| L (iA ((Sl.full [[108, 97], [108, 98], [108, 99]] : Sl Str).list.length : Int)) rfl rfl (op_len rfl rfl rfl rfl rfl rfl) <| L (iA 0) rfl rfl rfl <| nl <| bk ?_
 obtain ⟨b1, hb19, hF0⟩ := bind_some hF0
 obtain ⟨hn19, hb19⟩ := ite_none hb19
 obtain ⟨J19, hJ19⟩ : ∃ J : St → Prop, ∀ st, J st ↔ (∃ (s_10 : gatemake_Stream) (out_6 : (Sl api_Limit)) (o50036 : AObj) (tm21 : Nat → AV) (cb21 : AE.Frame) (out21 : List AE.Frame) (glob21 : List AObj), st = ⟨tm21, ⟨cb21, out21, glob21⟩⟩ ∧ AllEq tm21 [(0, (.ptr d0 w0 0)), (3, (Sl.lav (.fr 0 5003) o50036.ver out_6))] ∧ AllEq cb21 [(5003, o50036)] ∧ LzF 5 c_api_Limit o50036 out_6 ∧ con2 out21 glob21 d0 w0 = .cells (c_gatemake_Stream s_10) ∧ Same d0 out glob out21 glob21 ∧ (s_10, out_6) = b1) := ⟨_, fun _ => Iff.rfl⟩
 obtain ⟨R19, hR19⟩ : ∃ R : Nat → (gatemake_Stream × (Sl api_Limit)) → St → Prop, ∀ i v st, R i v st ↔ (match v with | (s_9, out_5) => ∃ (o50035 : AObj) (tm20 : Nat → AV) (cb20 : AE.Frame) (out20 : List AE.Frame) (glob20 : List AObj), st = ⟨tm20, ⟨cb20, out20, glob20⟩⟩ ∧ AllEq tm20 [(0, (.ptr d0 w0 0)), (3, (Sl.lav (.fr 0 5003) o50035.ver out_5)), (7, (Sl.av 1 c_str (Sl.full [[108, 97], [108, 98], [108, 99]] : Sl Str))), (8, (iA ((Sl.full [[108, 97], [108, 98], [108, 99]] : Sl Str).list.length : Int))), (9, (iA ((i : Nat) : Int)))] ∧ AllEq cb20 [(5003, o50035)] ∧ LzF 5 c_api_Limit o50035 out_5 ∧ con2 out20 glob20 d0 w0 = .cells (c_gatemake_Stream s_9) ∧ Same d0 out glob out20 glob20) := ⟨_, fun _ _ _ => Iff.rfl⟩
 refine W_loopcut J19 (fun st hst => ?_) ?_
 · obtain ⟨s_10, out_6, o50036, tm21, cb21, out21, glob21, rfl, hT21, hC21, hz21_0, hk21, hs21, rfl⟩ := (hJ19 st).1 hst
   obtain ⟨tm21, rfl⟩ := allEq hT21
   obtain ⟨cb21, rfl⟩ := allEq hC21
   refine sq <| sq <| rg <| L (.ptr d0 w0 0) rfl rfl rfl ?_
   obtain ⟨⟨r23, s_13⟩, h27, hF0⟩ := bind_some hF0
   refine WO_mutP (g := 7) (args := fun p => [p, (iA 15)]) (d := d0) (v := w0) (r := (bA r23)) _ _ rfl rfl rfl rfl rfl rfl rfl (fun _ _ => inferInstance) hh0 hk21 (ok_gatemake_Stream_Flip _ _ h27) (fun out27 glob27 hk27 hs27 => ?_)
   replace hs27 := hs21.trans hs27
   refine nl <| cd r23 rfl (fun hc42 => ?_) (fun hc42 => ?_)
   · replace hF0 := ite_t hF0 (hc42)
     refine sq <| rg <| L (.ptr d0 w0 0) rfl rfl rfl <| L (.ptr d0 w0 0) rfl rfl rfl <| L (Sl.av 1 c_str (Sl.full [[], [108, 97], [122, 122]] : Sl Str)) rfl rfl (op_sliceN rfl rfl rfl) ?_
     obtain ⟨⟨r27, s_14⟩, h28, hF0⟩ := bind_some hF0
     refine WO_mutP (g := 5) (args := fun p => [p, (Sl.av 1 c_str (Sl.full [[], [108, 97], [122, 122]] : Sl Str))]) (d := d0) (v := w0) (r := (sA r27)) _ _ rfl rfl rfl rfl rfl rfl rfl (fun _ _ => inferInstance) hh0 hk27 (ok_gatemake_Stream_Some _ _ h28) (fun out28 glob28 hk28 hs28 => ?_)
     replace hs28 := hs27.trans hs28
     obtain ⟨⟨r28, s_15⟩, h29, hF0⟩ := bind_some hF0
     refine WO_mutP (g := 13) (args := fun p => [p, (sA r27)]) (d := d0) (v := w0) (r := (.agg (c_api_Limit r28))) _ _ rfl rfl rfl rfl rfl rfl rfl (fun _ _ => inferInstance) hh0 hk28 (ok_gatemake_Stream_RightLimit _ _ h29) (fun out29 glob29 hk29 hs29 => ?_)
     replace hs29 := hs28.trans hs29
     refine L (.ptr (.fr 0 6) ((cb21 6).ver + 1) 0) (h' := ⟨upd _ 6 ⟨(cb21 6).ver + 1, .cells (c_api_Limit (api_Limit.mk [] 0 0 0 0))⟩, _, _⟩) rfl rfl (op_alloc (c_api_Limit (api_Limit.mk [] 0 0 0 0)) rfl rfl rfl rfl) <| L (.tup []) (h' := ⟨upd _ 6 ⟨(cb21 6).ver + 1, .cells (c_api_Limit r28)⟩, _, _⟩) rfl rfl (op_store rfl rfl (st_fr (x := (.agg (c_api_Limit r28))) (c_api_Limit r28) rfl rfl (Nat.le_of_ble_eq_true rfl) rfl)) <| nl <| sq <| sq <| rg <| L (.ptr d0 w0 0) rfl rfl rfl ?_
     obtain ⟨⟨r30, s_16⟩, h30, hF0⟩ := bind_some hF0
     refine WO_mutP (g := 14) (args := fun p => [p, (iA 4)]) (d := d0) (v := w0) (r := (iA r30)) _ _ rfl rfl rfl rfl rfl rfl rfl (fun _ _ => inferInstance) hh0 hk29 (ok_gatemake_Stream_Next _ _ h30) (fun out30 glob30 hk30 hs30 => ?_)
     replace hs30 := hs29.trans hs30
     refine nl <| bk <| sq <| rg <| L (bA (r30 == 0)) rfl rfl rfl <| L (bA (r30 == 0)) rfl rfl rfl <| nl <| cd (r30 == 0) rfl (fun hc41 => ?_) (fun hc41 => ?_)
     · replace hF0 := ite_t hF0 (beq_t hc41)
       refine rg <| L (.ptr d0 w0 0) rfl rfl rfl ?_
       obtain ⟨⟨r37, s_17⟩, h31, hF0⟩ := bind_some hF0
       refine WO_mutP (g := 15) (args := fun p => [p, (iA 1), (iA 4)]) (d := d0) (v := w0) (r := (iA r37)) _ _ rfl rfl rfl rfl rfl rfl rfl (fun _ _ => inferInstance) hh0 hk30 (ok_gatemake_Stream_Odd _ _ _ h31) (fun out31 glob31 hk31 hs31 => ?_)
       replace hs31 := hs30.trans hs31
       refine L (.ptr (.fr 0 6) ((cb21 6).ver + 1) 1) rfl rfl rfl <| L (.tup []) (h' := ⟨upd _ 6 ⟨(cb21 6).ver + 1, .cells (c_api_Limit ({ r28 with Kind := r37 }))⟩, _, _⟩) rfl rfl (op_store rfl rfl (st_fr (x := (iA r37)) (c_api_Limit ({ r28 with Kind := r37 })) rfl rfl (Nat.le_of_ble_eq_true rfl) rfl)) <| nl <| rg <| L (Sl.lav (.fr 0 5003) o50036.ver out_6) rfl rfl rfl <| L (.agg (c_api_Limit ({ r28 with Kind := r37 }))) rfl rfl (op_load rfl (ld_con (.agg (c_api_Limit ({ r28 with Kind := r37 }))) rfl rfl (cs := (c_api_Limit ({ r28 with Kind := r37 }))) (con_fr rfl) rfl)) <| L (Sl.av 5 c_api_Limit (Sl.full [{ r28 with Kind := r37 }] : Sl api_Limit)) rfl rfl (op_sliceN rfl rfl rfl) ?_
       obtain ⟨out_8, h_out_8, hF0⟩ := bind_some hF0
       refine WO_lzapp (s := 5003) (x := out_6) (x' := out_8) (o := o50036) (n := 5) (c := c_api_Limit) (xs := [{ r28 with Kind := r37 }]) (y := (Sl.av 5 c_api_Limit (Sl.full [{ r28 with Kind := r37 }] : Sl api_Limit))) _ rfl rfl rfl rfl rfl rfl rfl rfl rfl rfl rfl rfl (z := (c_api_Limit (api_Limit.mk [] 0 0 0 0))) rfl rfl rfl rfl rfl (by decide) (fun _ => rfl) rfl rfl rfl hz21_0 h_out_8 (fun o50038 hz_32 => ?_)
       refine L (Sl.lav (.fr 0 5003) o50038.ver out_8) rfl rfl rfl <| nl <| sq <| rg <| L (Sl.lav (.fr 0 5003) o50038.ver out_8) rfl rfl rfl <| L (Sl.lav (.fr 0 5003) o50038.ver out_8) rfl rfl rfl <| nl <| rt ?_
       obtain rfl := Option.some.inj hF0
       exact mut_leaf (.inr rfl) rfl (ret_lz rfl hz_32) hk31 hs31
     · replace hF0 := ite_f hF0 (beq_f hc41)
       refine sq <| rg <| L (bA (r30 == 1)) rfl rfl rfl <| L (bA (r30 == 1)) rfl rfl rfl <| nl <| cd (r30 == 1) rfl (fun hc40 => ?_) (fun hc40 => ?_)
       · replace hF0 := ite_t hF0 (beq_t hc40)
         refine rg <| L (.ptr d0 w0 0) rfl rfl rfl ?_
         obtain ⟨⟨r42, s_18⟩, h33, hF0⟩ := bind_some hF0
         refine WO_mutP (g := 15) (args := fun p => [p, (iA 1), (iA 1000000000)]) (d := d0) (v := w0) (r := (iA r42)) _ _ rfl rfl rfl rfl rfl rfl rfl (fun _ _ => inferInstance) hh0 hk30 (ok_gatemake_Stream_Odd _ _ _ h33) (fun out33 glob33 hk33 hs33 => ?_)
         replace hs33 := hs30.trans hs33
         refine L (.ptr (.fr 0 6) ((cb21 6).ver + 1) 2) rfl rfl rfl <| L (.tup []) (h' := ⟨upd _ 6 ⟨(cb21 6).ver + 1, .cells (c_api_Limit ({ r28 with Most := r42 }))⟩, _, _⟩) rfl rfl (op_store rfl rfl (st_fr (x := (iA r42)) (c_api_Limit ({ r28 with Most := r42 })) rfl rfl (Nat.le_of_ble_eq_true rfl) rfl)) <| nl <| rg <| L (Sl.lav (.fr 0 5003) o50036.ver out_6) rfl rfl rfl <| L (.agg (c_api_Limit ({ r28 with Most := r42 }))) rfl rfl (op_load rfl (ld_con (.agg (c_api_Limit ({ r28 with Most := r42 }))) rfl rfl (cs := (c_api_Limit ({ r28 with Most := r42 }))) (con_fr rfl) rfl)) <| L (Sl.av 5 c_api_Limit (Sl.full [{ r28 with Most := r42 }] : Sl api_Limit)) rfl rfl (op_sliceN rfl rfl rfl) ?_
         obtain ⟨out_9, h_out_9, hF0⟩ := bind_some hF0
         refine WO_lzapp (s := 5003) (x := out_6) (x' := out_9) (o := o50036) (n := 5) (c := c_api_Limit) (xs := [{ r28 with Most := r42 }]) (y := (Sl.av 5 c_api_Limit (Sl.full [{ r28 with Most := r42 }] : Sl api_Limit))) _ rfl rfl rfl rfl rfl rfl rfl rfl rfl rfl rfl rfl (z := (c_api_Limit (api_Limit.mk [] 0 0 0 0))) rfl rfl rfl rfl rfl (by decide) (fun _ => rfl) rfl rfl rfl hz21_0 h_out_9 (fun o50039 hz_34 => ?_)
         refine L (Sl.lav (.fr 0 5003) o50039.ver out_9) rfl rfl rfl <| nl <| sq <| rg <| L (Sl.lav (.fr 0 5003) o50039.ver out_9) rfl rfl rfl <| L (Sl.lav (.fr 0 5003) o50039.ver out_9) rfl rfl rfl <| nl <| rt ?_
         obtain rfl := Option.some.inj hF0
         exact mut_leaf (.inr rfl) rfl (ret_lz rfl hz_34) hk33 hs33
       · replace hF0 := ite_f hF0 (beq_f hc40)
         refine sq <| rg <| L (bA (r30 == 2)) rfl rfl rfl <| L (bA (r30 == 2)) rfl rfl rfl <| nl <| cd (r30 == 2) rfl (fun hc39 => ?_) (fun hc39 => ?_)
         · replace hF0 := ite_t hF0 (beq_t hc39)
           refine rg <| L (.ptr d0 w0 0) rfl rfl rfl ?_
           obtain ⟨⟨r47, s_19⟩, h35, hF0⟩ := bind_some hF0
           refine WO_mutP (g := 15) (args := fun p => [p, (iA 0), (iA 8640000000)]) (d := d0) (v := w0) (r := (iA r47)) _ _ rfl rfl rfl rfl rfl rfl rfl (fun _ _ => inferInstance) hh0 hk30 (ok_gatemake_Stream_Odd _ _ _ h35) (fun out35 glob35 hk35 hs35 => ?_)
           replace hs35 := hs30.trans hs35
           refine L (.ptr (.fr 0 6) ((cb21 6).ver + 1) 3) rfl rfl rfl <| L (.tup []) (h' := ⟨upd _ 6 ⟨(cb21 6).ver + 1, .cells (c_api_Limit ({ r28 with Per := r47 }))⟩, _, _⟩) rfl rfl (op_store rfl rfl (st_fr (x := (iA r47)) (c_api_Limit ({ r28 with Per := r47 })) rfl rfl (Nat.le_of_ble_eq_true rfl) rfl)) <| nl <| rg <| L (Sl.lav (.fr 0 5003) o50036.ver out_6) rfl rfl rfl <| L (.agg (c_api_Limit ({ r28 with Per := r47 }))) rfl rfl (op_load rfl (ld_con (.agg (c_api_Limit ({ r28 with Per := r47 }))) rfl rfl (cs := (c_api_Limit ({ r28 with Per := r47 }))) (con_fr rfl) rfl)) <| L (Sl.av 5 c_api_Limit (Sl.full [{ r28 with Per := r47 }] : Sl api_Limit)) rfl rfl (op_sliceN rfl rfl rfl) ?_
           obtain ⟨out_10, h_out_10, hF0⟩ := bind_some hF0
           refine WO_lzapp (s := 5003) (x := out_6) (x' := out_10) (o := o50036) (n := 5) (c := c_api_Limit) (xs := [{ r28 with Per := r47 }]) (y := (Sl.av 5 c_api_Limit (Sl.full [{ r28 with Per := r47 }] : Sl api_Limit))) _ rfl rfl rfl rfl rfl rfl rfl rfl rfl rfl rfl rfl (z := (c_api_Limit (api_Limit.mk [] 0 0 0 0))) rfl rfl rfl rfl rfl (by decide) (fun _ => rfl) rfl rfl rfl hz21_0 h_out_10 (fun o500310 hz_36 => ?_)
           refine L (Sl.lav (.fr 0 5003) o500310.ver out_10) rfl rfl rfl <| nl <| sq <| rg <| L (Sl.lav (.fr 0 5003) o500310.ver out_10) rfl rfl rfl <| L (Sl.lav (.fr 0 5003) o500310.ver out_10) rfl rfl rfl <| nl <| rt ?_
           obtain rfl := Option.some.inj hF0
           exact mut_leaf (.inr rfl) rfl (ret_lz rfl hz_36) hk35 hs35
         · replace hF0 := ite_f hF0 (beq_f hc39)
           refine rg <| L (.ptr d0 w0 0) rfl rfl rfl ?_
           obtain ⟨⟨r32, s_20⟩, h37, hF0⟩ := bind_some hF0
           refine WO_mutP (g := 15) (args := fun p => [p, (iA 0), (iA 1000000000)]) (d := d0) (v := w0) (r := (iA r32)) _ _ rfl rfl rfl rfl rfl rfl rfl (fun _ _ => inferInstance) hh0 hk30 (ok_gatemake_Stream_Odd _ _ _ h37) (fun out37 glob37 hk37 hs37 => ?_)
           replace hs37 := hs30.trans hs37
           refine L (.ptr (.fr 0 6) ((cb21 6).ver + 1) 4) rfl rfl rfl <| L (.tup []) (h' := ⟨upd _ 6 ⟨(cb21 6).ver + 1, .cells (c_api_Limit ({ r28 with Burst := r32 }))⟩, _, _⟩) rfl rfl (op_store rfl rfl (st_fr (x := (iA r32)) (c_api_Limit ({ r28 with Burst := r32 })) rfl rfl (Nat.le_of_ble_eq_true rfl) rfl)) <| nl <| rg <| L (Sl.lav (.fr 0 5003) o50036.ver out_6) rfl rfl rfl <| L (.agg (c_api_Limit ({ r28 with Burst := r32 }))) rfl rfl (op_load rfl (ld_con (.agg (c_api_Limit ({ r28 with Burst := r32 }))) rfl rfl (cs := (c_api_Limit ({ r28 with Burst := r32 }))) (con_fr rfl) rfl)) <| L (Sl.av 5 c_api_Limit (Sl.full [{ r28 with Burst := r32 }] : Sl api_Limit)) rfl rfl (op_sliceN rfl rfl rfl) ?_
           obtain ⟨out_11, h_out_11, hF0⟩ := bind_some hF0
           refine WO_lzapp (s := 5003) (x := out_6) (x' := out_11) (o := o50036) (n := 5) (c := c_api_Limit) (xs := [{ r28 with Burst := r32 }]) (y := (Sl.av 5 c_api_Limit (Sl.full [{ r28 with Burst := r32 }] : Sl api_Limit))) _ rfl rfl rfl rfl rfl rfl rfl rfl rfl rfl rfl rfl (z := (c_api_Limit (api_Limit.mk [] 0 0 0 0))) rfl rfl rfl rfl rfl (by decide) (fun _ => rfl) rfl rfl rfl hz21_0 h_out_11 (fun o500311 hz_38 => ?_)
           refine L (Sl.lav (.fr 0 5003) o500311.ver out_11) rfl rfl rfl <| nl <| sq <| rg <| L (Sl.lav (.fr 0 5003) o500311.ver out_11) rfl rfl rfl <| L (Sl.lav (.fr 0 5003) o500311.ver out_11) rfl rfl rfl <| nl <| rt ?_
           obtain rfl := Option.some.inj hF0
           exact mut_leaf (.inr rfl) rfl (ret_lz rfl hz_38) hk37 hs37
   · replace hF0 := ite_f hF0 (not_t hc42)
     refine sk <| sq <| rg <| L (Sl.lav (.fr 0 5003) o50036.ver out_6) rfl rfl rfl <| L (Sl.lav (.fr 0 5003) o50036.ver out_6) rfl rfl rfl <| nl <| rt ?_
     obtain rfl := Option.some.inj hF0
     exact mut_leaf (.inr rfl) rfl (ret_lz rfl hz21_0) hk27 hs27
 · refine W_rangeL hb19 R19 ((hR19 _ _ _).2 ⟨(⟨0, .gone⟩ : AObj), _, _, _, _, rfl, (And.intro rfl (And.intro rfl (And.intro rfl (And.intro rfl (And.intro rfl True.intro))))), (And.intro rfl True.intro), True.intro, hk_0, (Same.refl _ _ _)⟩) ?_ ?_
   · intro i hi19 v st s hr hF1 hD1
     obtain ⟨s_9, out_5⟩ := v
     obtain ⟨o50035, tm20, cb20, out20, glob20, rfl, hT20, hC20, hz20_0, hk20, hs20⟩ := (hR19 _ _ _).1 hr
     obtain ⟨tm20, rfl⟩ := allEq hT20
     obtain ⟨cb20, rfl⟩ := allEq hC20
     obtain ⟨key, hx19⟩ : ∃ x, x = (Sl.full [[108, 97], [108, 98], [108, 99]] : Sl Str).list[i] := ⟨_, rfl⟩
     rw [← hx19] at hF1
     dsimp only [gatemake_Stream_Limits_l0] at hF1
     refine sq (rg ?_)
     refine WO_do (y := (bA (decide (((i : Nat) : Int) < ((Sl.full [[108, 97], [108, 98], [108, 99]] : Sl Str).list.length : Int))))) _ rfl rfl rfl (nl ?_)
     refine sq <| cd true (congrArg some (range_lt hi19)) (fun _ => ?_) (fun h => absurd h (by decide))
     refine sk <| sq <| bk <| sq <| rg <| L (.cptr [(sA key)]) rfl rfl (op_ix rfl ((ix_at (c := c_str) rfl rfl hi19).trans (congrArg (fun x => some (AV.cptr (c_str x))) hx19.symm))) <| L (sA key) rfl rfl rfl <| L (sA key) rfl rfl rfl <| nl <| sq <| rg <| L (.ptr d0 w0 0) rfl rfl rfl ?_
     obtain ⟨⟨r143, s_11⟩, h23, hF1⟩ := bind_some hF1
     refine WO_mutP (g := 7) (args := fun p => [p, (iA 2)]) (d := d0) (v := w0) (r := (bA r143)) _ _ rfl rfl rfl rfl rfl rfl rfl (fun _ _ => inferInstance) hh0 hk20 (ok_gatemake_Stream_Flip _ _ h23) (fun out23 glob23 hk23 hs23 => ?_)
     replace hs23 := hs20.trans hs23
     refine nl <| cd r143 rfl (fun hc26 => ?_) (fun hc26 => ?_)
     · replace hF1 := ite_t hF1 (hc26)
       refine rg <| L (Sl.lav (.fr 0 5003) o50035.ver out_5) rfl rfl rfl <| L (.ptr d0 w0 0) rfl rfl rfl <| L (sA key) rfl rfl rfl ?_
       obtain ⟨⟨r183, s_12⟩, h24, hF1⟩ := bind_some hF1
       refine WO_mutP (g := 13) (args := fun p => [p, (sA key)]) (d := d0) (v := w0) (r := (.agg (c_api_Limit r183))) _ _ rfl rfl rfl rfl rfl rfl rfl (fun _ _ => inferInstance) hh0 hk23 (ok_gatemake_Stream_RightLimit _ _ h24) (fun out24 glob24 hk24 hs24 => ?_)
       replace hs24 := hs23.trans hs24
       refine L (Sl.av 5 c_api_Limit (Sl.full [r183] : Sl api_Limit)) rfl rfl (op_sliceN rfl rfl rfl) ?_
       obtain ⟨out_7, h_out_7, hF1⟩ := bind_some hF1
       refine WO_lzapp (s := 5003) (x := out_5) (x' := out_7) (o := o50035) (n := 5) (c := c_api_Limit) (xs := [r183]) (y := (Sl.av 5 c_api_Limit (Sl.full [r183] : Sl api_Limit))) _ rfl rfl rfl rfl rfl rfl rfl rfl rfl rfl rfl rfl (z := (c_api_Limit (api_Limit.mk [] 0 0 0 0))) rfl rfl rfl rfl rfl (by decide) (fun _ => rfl) rfl rfl rfl hz20_0 h_out_7 (fun o50037 hz_25 => ?_)
       exact L (Sl.lav (.fr 0 5003) o50037.ver out_7) rfl rfl rfl <| nl <| rg <| WO_do (y := (iA ((i + 1 : Nat) : Int))) _ rfl rfl (congrArg (fun n => some (AV.int .i64 n, _)) (range_len hi19 hn19)) <| WO_do (y := (iA ((i + 1 : Nat) : Int))) _ rfl rfl rfl <| nl <| Exists.intro _ (And.intro (Option.some.inj hF1).symm ((hR19 _ _ _).2 ⟨o50037, _, _, _, _, rfl, (And.intro rfl (And.intro rfl (And.intro rfl (And.intro rfl (And.intro rfl True.intro))))), (And.intro rfl True.intro), hz_25, hk24, hs24⟩))
     · replace hF1 := ite_f hF1 (not_t hc26)
       exact sk <| rg <| WO_do (y := (iA ((i + 1 : Nat) : Int))) _ rfl rfl (congrArg (fun n => some (AV.int .i64 n, _)) (range_len hi19 hn19)) <| WO_do (y := (iA ((i + 1 : Nat) : Int))) _ rfl rfl rfl <| nl <| Exists.intro _ (And.intro (Option.some.inj hF1).symm ((hR19 _ _ _).2 ⟨o50035, _, _, _, _, rfl, (And.intro rfl (And.intro rfl (And.intro rfl (And.intro rfl (And.intro rfl True.intro))))), (And.intro rfl True.intro), hz20_0, hk23, hs23⟩))
   · intro v st hr hD1
     obtain ⟨s_9, out_5⟩ := v
     obtain ⟨o50035, tm20, cb20, out20, glob20, rfl, hT20, hC20, hz20_0, hk20, hs20⟩ := (hR19 _ _ _).1 hr
     obtain ⟨tm20, rfl⟩ := allEq hT20
     obtain ⟨cb20, rfl⟩ := allEq hC20
     refine sq (rg ?_)
     refine WO_do (y := .bool false) _ rfl rfl (congrArg (fun b => some (AV.bool b, _)) (range_ge _)) (nl ?_)
     refine sq <| cd false rfl (fun h => absurd h (by decide)) (fun _ => ?_)
     exact xt <| (hJ19 _).2 ⟨s_9, out_5, o50035, _, _, _, _, rfl, (And.intro rfl (And.intro rfl True.intro)), (And.intro rfl True.intro), hz20_0, hk20, hs20, hD1⟩

theorem ok_kit_IsKey (s_ : Str) {r : (Bool)} (hF0 : kit_IsKey s_ = some r) (out : List AE.Frame) (glob : List AObj) : RdOk Tryd.prog pol true 39 [(sA s_)] out glob (bA r) := by
 unfold kit_IsKey at hF0
 refine rd_walk Tryd.func39 rfl (Nat.not_lt.2 (Nat.le_of_ble_eq_true rfl)) ?_
 intro ro
 refine sq <| rg <| L (bA false) rfl rfl rfl <| nl <| sq <| sq <| rg <| L (iA 0) rfl rfl rfl <| nl <| bk ?_
 obtain ⟨b1, hb36, hF0⟩ := bind_some hF0
 obtain ⟨J36, hJ36⟩ : ∃ J : St → Prop, ∀ st, J st ↔ (∃ (tm38 : Nat → AV) (cb38 : AE.Frame), st = ⟨tm38, ⟨cb38, out, glob⟩⟩ ∧ AllEq tm38 [(0, (sA s_))] ∧ AllEq cb38 [] ∧ Res.out () = b1) := ⟨_, fun _ => Iff.rfl⟩
 obtain ⟨R36, hR36⟩ : ∃ R : (Int) → St → Prop, ∀ v st, R v st ↔ (match v with | i1 => ∃ (tm37 : Nat → AV) (cb37 : AE.Frame), st = ⟨tm37, ⟨cb37, out, glob⟩⟩ ∧ AllEq tm37 [(0, (sA s_)), (3, (iA i1))] ∧ AllEq cb37 []) := ⟨_, fun _ _ => Iff.rfl⟩
 refine W_loopcut J36 (fun st hst => ?_) ?_
 · obtain ⟨tm38, cb38, rfl, hT38, hC38, rfl⟩ := (hJ36 st).1 hst
   obtain ⟨tm38, rfl⟩ := allEq hT38
   obtain ⟨cb38, rfl⟩ := allEq hC38
   replace hF0 := res_out hF0
   refine sq <| rg <| L (sA s_) rfl rfl rfl <| L (bA (s_ != [])) rfl rfl (op_bin rfl bin_sne) ?_
   obtain ⟨J73, hJ73⟩ : ∃ J : St → Prop, ∀ st, J st ↔ (∃ (tm74 : Nat → AV) (cb74 : AE.Frame), st = ⟨tm74, ⟨cb74, out, glob⟩⟩ ∧ AllEq tm74 [(47, (bA ((s_ != []) && (decide ((s_.length : Int) ≤ 40)))))] ∧ AllEq cb74 []) := ⟨_, fun _ => Iff.rfl⟩
   refine WO_cut 5 J73 (fun st hst => ?_) ?_
   · obtain ⟨tm74, cb74, rfl, hT74, hC74⟩ := (hJ73 st).1 hst
     obtain ⟨tm74, rfl⟩ := allEq hT74
     obtain ⟨cb74, rfl⟩ := allEq hC74
     refine L (bA ((s_ != []) && (decide ((s_.length : Int) ≤ 40)))) rfl rfl rfl <| nl <| rt ?_
     obtain rfl := Option.some.inj hF0
     exact rd_leaf (.inr rfl) rfl (retV_pl _ _ (bA ((s_ != []) && (decide ((s_.length : Int) ≤ 40))))) rfl rfl
   · rcases bool_cases (s_ != []) with hc73 | hc73
     · exact L (.bool true) rfl rfl (congrArg (fun b => some (AV.bool b, _)) hc73) <| L (sA s_) rfl rfl rfl <| L (iA (s_.length : Int)) rfl rfl rfl <| L (bA (decide ((s_.length : Int) ≤ 40))) rfl rfl rfl <| L (bA ((s_ != []) && (decide ((s_.length : Int) ≤ 40)))) rfl rfl (congrArg (fun b => some (AV.bool b, _)) (by rw [hc73]; rfl)) <| nl ((hJ73 _).2 ⟨_, _, rfl, (And.intro rfl True.intro), True.intro⟩)
     · exact L (.bool false) rfl rfl (congrArg (fun b => some (AV.bool b, _)) hc73) <| WO_no _ rfl rfl <| WO_no _ rfl rfl <| WO_no _ rfl rfl <| L (bA ((s_ != []) && (decide ((s_.length : Int) ≤ 40)))) rfl rfl (congrArg (fun b => some (AV.bool b, _)) (by rw [hc73]; rfl)) <| nl ((hJ73 _).2 ⟨_, _, rfl, (And.intro rfl True.intro), True.intro⟩)
 · refine W_loopV hb36 R36 ((hR36 _ _).2 ⟨_, _, rfl, (And.intro rfl (And.intro rfl True.intro)), True.intro⟩) ?_
   intro v st s hr hF1 hD1
   obtain ⟨i1, hv_⟩ : ∃ z, z = v := ⟨_, rfl⟩; subst hv_
   obtain ⟨tm37, cb37, rfl, hT37, hC37⟩ := (hR36 _ _).1 hr
   obtain ⟨tm37, rfl⟩ := allEq hT37
   obtain ⟨cb37, rfl⟩ := allEq hC37
   dsimp only [kit_IsKey_l0] at hF1
   refine sq <| sq <| rg <| L (iA i1) rfl rfl rfl <| L (sA s_) rfl rfl rfl <| L (iA (s_.length : Int)) rfl rfl rfl <| L (bA (decide (i1 < (s_.length : Int)))) rfl rfl rfl <| nl <| cd (decide (i1 < (s_.length : Int))) rfl (fun hc72 => ?_) (fun hc72 => ?_)
   · replace hF1 := ite_t hF1 (dec_t hc72)
     refine sk <| sq <| bk <| sq <| rg <| L (sA s_) rfl rfl rfl <| L (iA i1) rfl rfl rfl ?_
     obtain ⟨c1, h_c1, hF1⟩ := bind_some hF1
     refine L (.int .u8 c1) rfl rfl (op_index rfl (ix_str rfl h_c1)) <| L (.int .u8 c1) rfl rfl rfl <| nl <| sq <| rg <| L (.int .u8 c1) rfl rfl rfl <| L (bA (decide (c1 ≥ 97))) rfl rfl rfl ?_
     obtain ⟨J39, hJ39⟩ : ∃ J : St → Prop, ∀ st, J st ↔ (∃ (tm40 : Nat → AV) (cb40 : AE.Frame), st = ⟨tm40, ⟨cb40, out, glob⟩⟩ ∧ AllEq tm40 [(0, (sA s_)), (3, (iA i1)), (4, (.int .u8 c1)), (19, (bA ((decide (c1 ≥ 97)) && (decide (c1 ≤ 122)))))] ∧ AllEq cb40 []) := ⟨_, fun _ => Iff.rfl⟩
     refine WO_cut 4 J39 (fun st hst => ?_) ?_
     · obtain ⟨tm40, cb40, rfl, hT40, hC40⟩ := (hJ39 st).1 hst
       obtain ⟨tm40, rfl⟩ := allEq hT40
       obtain ⟨cb40, rfl⟩ := allEq hC40
       obtain ⟨J55, hJ55⟩ : ∃ J : St → Prop, ∀ st, J st ↔ (∃ (tm56 : Nat → AV) (cb56 : AE.Frame), st = ⟨tm56, ⟨cb56, out, glob⟩⟩ ∧ AllEq tm56 [(0, (sA s_)), (3, (iA i1)), (39, (bA (((decide (c1 ≥ 97)) && (decide (c1 ≤ 122))) || ((decide (i1 > 0)) && ((((decide (c1 ≥ 48)) && (decide (c1 ≤ 57))) || (c1 == 45)) || (c1 == 95))))))] ∧ AllEq cb56 []) := ⟨_, fun _ => Iff.rfl⟩
       refine WO_cut 20 J55 (fun st hst => ?_) ?_
       · obtain ⟨tm56, cb56, rfl, hT56, hC56⟩ := (hJ55 st).1 hst
         obtain ⟨tm56, rfl⟩ := allEq hT56
         obtain ⟨cb56, rfl⟩ := allEq hC56
         refine L (bA (!(((decide (c1 ≥ 97)) && (decide (c1 ≤ 122))) || ((decide (i1 > 0)) && ((((decide (c1 ≥ 48)) && (decide (c1 ≤ 57))) || (c1 == 45)) || (c1 == 95)))))) rfl rfl rfl <| nl <| cd (!(((decide (c1 ≥ 97)) && (decide (c1 ≤ 122))) || ((decide (i1 > 0)) && ((((decide (c1 ≥ 48)) && (decide (c1 ≤ 57))) || (c1 == 45)) || (c1 == 95))))) rfl (fun hc57 => ?_) (fun hc57 => ?_)
         · replace hF1 := ite_t hF1 (hc57)
           refine sq <| rg <| L (bA false) rfl rfl rfl <| nl <| rt ?_
           obtain rfl := hD1 _ (Option.some.inj hF1).symm
           replace hF0 := res_ret hF0
           obtain rfl := Option.some.inj hF0
           exact rd_leaf (.inr rfl) rfl (retV_pl _ _ (bA false)) rfl rfl
         · replace hF1 := ite_f hF1 (not_t hc57)
           exact sk <| rg <| L (iA i1) rfl rfl rfl <| L (iA (w64 (i1 + 1))) rfl rfl rfl <| L (iA (w64 (i1 + 1))) rfl rfl rfl <| nl <| Exists.intro _ (And.intro (Option.some.inj hF1).symm ((hR36  _ _).2 ⟨_, _, rfl, (And.intro rfl (And.intro rfl True.intro)), True.intro⟩))
       · rcases bool_cases ((decide (c1 ≥ 97)) && (decide (c1 ≤ 122))) with hc55 | hc55
         · exact L (.bool true) rfl rfl (congrArg (fun b => some (AV.bool b, _)) hc55) <| WO_no _ rfl rfl <| WO_no _ rfl rfl <| WO_no _ rfl rfl <| WO_no _ rfl rfl <| WO_no _ rfl rfl <| WO_no _ rfl rfl <| WO_no _ rfl rfl <| WO_no _ rfl rfl <| WO_no _ rfl rfl <| WO_no _ rfl rfl <| WO_no _ rfl rfl <| WO_no _ rfl rfl <| WO_no _ rfl rfl <| WO_no _ rfl rfl <| WO_no _ rfl rfl <| WO_no _ rfl rfl <| WO_no _ rfl rfl <| WO_no _ rfl rfl <| L (bA (((decide (c1 ≥ 97)) && (decide (c1 ≤ 122))) || ((decide (i1 > 0)) && ((((decide (c1 ≥ 48)) && (decide (c1 ≤ 57))) || (c1 == 45)) || (c1 == 95))))) rfl rfl (congrArg (fun b => some (AV.bool b, _)) (by rw [hc55]; rfl)) <| nl ((hJ55 _).2 ⟨_, _, rfl, (And.intro rfl (And.intro rfl (And.intro rfl True.intro))), True.intro⟩)
         · refine L (.bool false) rfl rfl (congrArg (fun b => some (AV.bool b, _)) hc55) <| L (iA i1) rfl rfl rfl <| L (bA (decide (i1 > 0))) rfl rfl rfl ?_
           obtain ⟨J64, hJ64⟩ : ∃ J : St → Prop, ∀ st, J st ↔ (∃ (tm65 : Nat → AV) (cb65 : AE.Frame), st = ⟨tm65, ⟨cb65, out, glob⟩⟩ ∧ AllEq tm65 [(0, (sA s_)), (3, (iA i1)), (20, (bA false)), (21, (iA i1)), (22, (bA (decide (i1 > 0)))), (38, (bA ((decide (i1 > 0)) && ((((decide (c1 ≥ 48)) && (decide (c1 ≤ 57))) || (c1 == 45)) || (c1 == 95)))))] ∧ AllEq cb65 []) := ⟨_, fun _ => Iff.rfl⟩
           refine WO_cut 16 J64 (fun st hst => ?_) ?_
           · obtain ⟨tm65, cb65, rfl, hT65, hC65⟩ := (hJ64 st).1 hst
             obtain ⟨tm65, rfl⟩ := allEq hT65
             obtain ⟨cb65, rfl⟩ := allEq hC65
             exact L (bA (((decide (c1 ≥ 97)) && (decide (c1 ≤ 122))) || ((decide (i1 > 0)) && ((((decide (c1 ≥ 48)) && (decide (c1 ≤ 57))) || (c1 == 45)) || (c1 == 95))))) rfl rfl (congrArg (fun b => some (AV.bool b, _)) (by rw [hc55]; rfl)) <| nl ((hJ55 _).2 ⟨_, _, rfl, (And.intro rfl (And.intro rfl (And.intro rfl True.intro))), True.intro⟩)
           · rcases bool_cases (decide (i1 > 0)) with hc64 | hc64
             · refine L (.bool true) rfl rfl (congrArg (fun b => some (AV.bool b, _)) hc64) <| L (.int .u8 c1) rfl rfl rfl <| L (bA (decide (c1 ≥ 48))) rfl rfl rfl ?_
               obtain ⟨J66, hJ66⟩ : ∃ J : St → Prop, ∀ st, J st ↔ (∃ (tm67 : Nat → AV) (cb67 : AE.Frame), st = ⟨tm67, ⟨cb67, out, glob⟩⟩ ∧ AllEq tm67 [(0, (sA s_)), (3, (iA i1)), (4, (.int .u8 c1)), (20, (bA false)), (21, (iA i1)), (22, (bA (decide (i1 > 0)))), (23, (bA true)), (24, (.int .u8 c1)), (25, (bA (decide (c1 ≥ 48)))), (29, (bA ((decide (c1 ≥ 48)) && (decide (c1 ≤ 57)))))] ∧ AllEq cb67 []) := ⟨_, fun _ => Iff.rfl⟩
               refine WO_cut 4 J66 (fun st hst => ?_) ?_
               · obtain ⟨tm67, cb67, rfl, hT67, hC67⟩ := (hJ66 st).1 hst
                 obtain ⟨tm67, rfl⟩ := allEq hT67
                 obtain ⟨cb67, rfl⟩ := allEq hC67
                 obtain ⟨J68, hJ68⟩ : ∃ J : St → Prop, ∀ st, J st ↔ (∃ (tm69 : Nat → AV) (cb69 : AE.Frame), st = ⟨tm69, ⟨cb69, out, glob⟩⟩ ∧ AllEq tm69 [(0, (sA s_)), (3, (iA i1)), (4, (.int .u8 c1)), (20, (bA false)), (21, (iA i1)), (22, (bA (decide (i1 > 0)))), (23, (bA true)), (24, (.int .u8 c1)), (25, (bA (decide (c1 ≥ 48)))), (29, (bA ((decide (c1 ≥ 48)) && (decide (c1 ≤ 57))))), (33, (bA (((decide (c1 ≥ 48)) && (decide (c1 ≤ 57))) || (c1 == 45))))] ∧ AllEq cb69 []) := ⟨_, fun _ => Iff.rfl⟩
                 refine WO_cut 4 J68 (fun st hst => ?_) ?_
                 · obtain ⟨tm69, cb69, rfl, hT69, hC69⟩ := (hJ68 st).1 hst
                   obtain ⟨tm69, rfl⟩ := allEq hT69
                   obtain ⟨cb69, rfl⟩ := allEq hC69
                   obtain ⟨J70, hJ70⟩ : ∃ J : St → Prop, ∀ st, J st ↔ (∃ (tm71 : Nat → AV) (cb71 : AE.Frame), st = ⟨tm71, ⟨cb71, out, glob⟩⟩ ∧ AllEq tm71 [(0, (sA s_)), (3, (iA i1)), (20, (bA false)), (21, (iA i1)), (22, (bA (decide (i1 > 0)))), (23, (bA true)), (24, (.int .u8 c1)), (25, (bA (decide (c1 ≥ 48)))), (29, (bA ((decide (c1 ≥ 48)) && (decide (c1 ≤ 57))))), (33, (bA (((decide (c1 ≥ 48)) && (decide (c1 ≤ 57))) || (c1 == 45)))), (37, (bA ((((decide (c1 ≥ 48)) && (decide (c1 ≤ 57))) || (c1 == 45)) || (c1 == 95))))] ∧ AllEq cb71 []) := ⟨_, fun _ => Iff.rfl⟩
                   refine WO_cut 4 J70 (fun st hst => ?_) ?_
                   · obtain ⟨tm71, cb71, rfl, hT71, hC71⟩ := (hJ70 st).1 hst
                     obtain ⟨tm71, rfl⟩ := allEq hT71
                     obtain ⟨cb71, rfl⟩ := allEq hC71
                     exact L (bA ((decide (i1 > 0)) && ((((decide (c1 ≥ 48)) && (decide (c1 ≤ 57))) || (c1 == 45)) || (c1 == 95)))) rfl rfl (congrArg (fun b => some (AV.bool b, _)) (by rw [hc64]; rfl)) <| nl ((hJ64 _).2 ⟨_, _, rfl, (And.intro rfl (And.intro rfl (And.intro rfl (And.intro rfl (And.intro rfl (And.intro rfl True.intro)))))), True.intro⟩)
                   · rcases bool_cases (((decide (c1 ≥ 48)) && (decide (c1 ≤ 57))) || (c1 == 45)) with hc70 | hc70
                     · exact L (.bool true) rfl rfl (congrArg (fun b => some (AV.bool b, _)) hc70) <| WO_no _ rfl rfl <| WO_no _ rfl rfl <| L (bA ((((decide (c1 ≥ 48)) && (decide (c1 ≤ 57))) || (c1 == 45)) || (c1 == 95))) rfl rfl (congrArg (fun b => some (AV.bool b, _)) (by rw [hc70]; rfl)) <| nl ((hJ70 _).2 ⟨_, _, rfl, (And.intro rfl (And.intro rfl (And.intro rfl (And.intro rfl (And.intro rfl (And.intro rfl (And.intro rfl (And.intro rfl (And.intro rfl (And.intro rfl (And.intro rfl True.intro))))))))))), True.intro⟩)
                     · exact L (.bool false) rfl rfl (congrArg (fun b => some (AV.bool b, _)) hc70) <| L (.int .u8 c1) rfl rfl rfl <| L (bA (c1 == 95)) rfl rfl rfl <| L (bA ((((decide (c1 ≥ 48)) && (decide (c1 ≤ 57))) || (c1 == 45)) || (c1 == 95))) rfl rfl (congrArg (fun b => some (AV.bool b, _)) (by rw [hc70]; rfl)) <| nl ((hJ70 _).2 ⟨_, _, rfl, (And.intro rfl (And.intro rfl (And.intro rfl (And.intro rfl (And.intro rfl (And.intro rfl (And.intro rfl (And.intro rfl (And.intro rfl (And.intro rfl (And.intro rfl True.intro))))))))))), True.intro⟩)
                 · rcases bool_cases ((decide (c1 ≥ 48)) && (decide (c1 ≤ 57))) with hc68 | hc68
                   · exact L (.bool true) rfl rfl (congrArg (fun b => some (AV.bool b, _)) hc68) <| WO_no _ rfl rfl <| WO_no _ rfl rfl <| L (bA (((decide (c1 ≥ 48)) && (decide (c1 ≤ 57))) || (c1 == 45))) rfl rfl (congrArg (fun b => some (AV.bool b, _)) (by rw [hc68]; rfl)) <| nl ((hJ68 _).2 ⟨_, _, rfl, (And.intro rfl (And.intro rfl (And.intro rfl (And.intro rfl (And.intro rfl (And.intro rfl (And.intro rfl (And.intro rfl (And.intro rfl (And.intro rfl (And.intro rfl True.intro))))))))))), True.intro⟩)
                   · exact L (.bool false) rfl rfl (congrArg (fun b => some (AV.bool b, _)) hc68) <| L (.int .u8 c1) rfl rfl rfl <| L (bA (c1 == 45)) rfl rfl rfl <| L (bA (((decide (c1 ≥ 48)) && (decide (c1 ≤ 57))) || (c1 == 45))) rfl rfl (congrArg (fun b => some (AV.bool b, _)) (by rw [hc68]; rfl)) <| nl ((hJ68 _).2 ⟨_, _, rfl, (And.intro rfl (And.intro rfl (And.intro rfl (And.intro rfl (And.intro rfl (And.intro rfl (And.intro rfl (And.intro rfl (And.intro rfl (And.intro rfl (And.intro rfl True.intro))))))))))), True.intro⟩)
               · rcases bool_cases (decide (c1 ≥ 48)) with hc66 | hc66
                 · exact L (.bool true) rfl rfl (congrArg (fun b => some (AV.bool b, _)) hc66) <| L (.int .u8 c1) rfl rfl rfl <| L (bA (decide (c1 ≤ 57))) rfl rfl rfl <| L (bA ((decide (c1 ≥ 48)) && (decide (c1 ≤ 57)))) rfl rfl (congrArg (fun b => some (AV.bool b, _)) (by rw [hc66]; rfl)) <| nl ((hJ66 _).2 ⟨_, _, rfl, (And.intro rfl (And.intro rfl (And.intro rfl (And.intro rfl (And.intro rfl (And.intro rfl (And.intro rfl (And.intro rfl (And.intro rfl (And.intro rfl True.intro)))))))))), True.intro⟩)
                 · exact L (.bool false) rfl rfl (congrArg (fun b => some (AV.bool b, _)) hc66) <| WO_no _ rfl rfl <| WO_no _ rfl rfl <| L (bA ((decide (c1 ≥ 48)) && (decide (c1 ≤ 57)))) rfl rfl (congrArg (fun b => some (AV.bool b, _)) (by rw [hc66]; rfl)) <| nl ((hJ66 _).2 ⟨_, _, rfl, (And.intro rfl (And.intro rfl (And.intro rfl (And.intro rfl (And.intro rfl (And.intro rfl (And.intro rfl (And.intro rfl (And.intro rfl (And.intro rfl True.intro)))))))))), True.intro⟩)
             · exact L (.bool false) rfl rfl (congrArg (fun b => some (AV.bool b, _)) hc64) <| WO_no _ rfl rfl <| WO_no _ rfl rfl <| WO_no _ rfl rfl <| WO_no _ rfl rfl <| WO_no _ rfl rfl <| WO_no _ rfl rfl <| WO_no _ rfl rfl <| WO_no _ rfl rfl <| WO_no _ rfl rfl <| WO_no _ rfl rfl <| WO_no _ rfl rfl <| WO_no _ rfl rfl <| WO_no _ rfl rfl <| WO_no _ rfl rfl <| L (bA ((decide (i1 > 0)) && ((((decide (c1 ≥ 48)) && (decide (c1 ≤ 57))) || (c1 == 45)) || (c1 == 95)))) rfl rfl (congrArg (fun b => some (AV.bool b, _)) (by rw [hc64]; rfl)) <| nl ((hJ64 _).2 ⟨_, _, rfl, (And.intro rfl (And.intro rfl (And.intro rfl (And.intro rfl (And.intro rfl (And.intro rfl True.intro)))))), True.intro⟩)
     · rcases bool_cases (decide (c1 ≥ 97)) with hc39 | hc39
       · exact L (.bool true) rfl rfl (congrArg (fun b => some (AV.bool b, _)) hc39) <| L (.int .u8 c1) rfl rfl rfl <| L (bA (decide (c1 ≤ 122))) rfl rfl rfl <| L (bA ((decide (c1 ≥ 97)) && (decide (c1 ≤ 122)))) rfl rfl (congrArg (fun b => some (AV.bool b, _)) (by rw [hc39]; rfl)) <| nl ((hJ39 _).2 ⟨_, _, rfl, (And.intro rfl (And.intro rfl (And.intro rfl (And.intro rfl True.intro)))), True.intro⟩)
       · exact L (.bool false) rfl rfl (congrArg (fun b => some (AV.bool b, _)) hc39) <| WO_no _ rfl rfl <| WO_no _ rfl rfl <| L (bA ((decide (c1 ≥ 97)) && (decide (c1 ≤ 122)))) rfl rfl (congrArg (fun b => some (AV.bool b, _)) (by rw [hc39]; rfl)) <| nl ((hJ39 _).2 ⟨_, _, rfl, (And.intro rfl (And.intro rfl (And.intro rfl (And.intro rfl True.intro)))), True.intro⟩)
   · replace hF1 := ite_f hF1 (dec_f hc72)
     exact xt <| (hJ36 _).2 ⟨_, _, rfl, (And.intro rfl True.intro), True.intro, hD1 _ (Option.some.inj hF1).symm⟩

theorem ok_kit_Outside (n : Int) (low : Int) (high : Int) {r : (Bool)} (hF0 : kit_Outside n low high = some r) (out : List AE.Frame) (glob : List AObj) : RdOk Tryd.prog pol true 19 [(iA n), (iA low), (iA high)] out glob (bA r) := by
 unfold kit_Outside at hF0
 refine rd_walk Tryd.func19 rfl (Nat.not_lt.2 (Nat.le_of_ble_eq_true rfl)) ?_
 intro ro
 refine sq <| rg <| L (bA false) rfl rfl rfl <| nl <| sq <| rg <| L (iA n) rfl rfl rfl <| L (iA low) rfl rfl rfl <| L (bA (decide (n < low))) rfl rfl rfl ?_
 obtain ⟨J1, hJ1⟩ : ∃ J : St → Prop, ∀ st, J st ↔ (∃ (tm2 : Nat → AV) (cb2 : AE.Frame), st = ⟨tm2, ⟨cb2, out, glob⟩⟩ ∧ AllEq tm2 [(14, (bA ((decide (n < low)) || (decide (n > high)))))] ∧ AllEq cb2 []) := ⟨_, fun _ => Iff.rfl⟩
 refine WO_cut 5 J1 (fun st hst => ?_) ?_
 · obtain ⟨tm2, cb2, rfl, hT2, hC2⟩ := (hJ1 st).1 hst
   obtain ⟨tm2, rfl⟩ := allEq hT2
   obtain ⟨cb2, rfl⟩ := allEq hC2
   refine L (bA ((decide (n < low)) || (decide (n > high)))) rfl rfl rfl <| nl <| rt ?_
   obtain rfl := Option.some.inj hF0
   exact rd_leaf (.inr rfl) rfl (retV_pl _ _ (bA ((decide (n < low)) || (decide (n > high))))) rfl rfl
 · rcases bool_cases (decide (n < low)) with hc1 | hc1
   · exact L (.bool true) rfl rfl (congrArg (fun b => some (AV.bool b, _)) hc1) <| WO_no _ rfl rfl <| WO_no _ rfl rfl <| WO_no _ rfl rfl <| L (bA ((decide (n < low)) || (decide (n > high)))) rfl rfl (congrArg (fun b => some (AV.bool b, _)) (by rw [hc1]; rfl)) <| nl ((hJ1 _).2 ⟨_, _, rfl, (And.intro rfl True.intro), True.intro⟩)
   · exact L (.bool false) rfl rfl (congrArg (fun b => some (AV.bool b, _)) hc1) <| L (iA n) rfl rfl rfl <| L (iA high) rfl rfl rfl <| L (bA (decide (n > high))) rfl rfl rfl <| L (bA ((decide (n < low)) || (decide (n > high)))) rfl rfl (congrArg (fun b => some (AV.bool b, _)) (by rw [hc1]; rfl)) <| nl ((hJ1 _).2 ⟨_, _, rfl, (And.intro rfl True.intro), True.intro⟩)

theorem ok_limit_limitFault (l : (Sl api_Limit)) (i : Int) {r : (Int)} (hF0 : limit_limitFault l i = some r) (out : List AE.Frame) (glob : List AObj) : RdOk Tryd.prog pol true 31 [(Sl.av 5 c_api_Limit l), (iA i)] out glob (iA r) := by
 unfold limit_limitFault at hF0
 refine rd_walk Tryd.func31 rfl (Nat.not_lt.2 (Nat.le_of_ble_eq_true rfl)) ?_
 intro ro
 refine sq <| rg <| L (iA 0) rfl rfl rfl <| nl <| sq <| rg <| L (Sl.av 5 c_api_Limit l) rfl rfl rfl <| L (iA i) rfl rfl rfl ?_
 obtain ⟨x, h_x, hF0⟩ := bind_some hF0
 refine L (.cptr (c_api_Limit x)) rfl rfl (op_ix rfl (ix_sl (c := c_api_Limit) rfl rfl h_x)) <| L (.agg (c_api_Limit x)) rfl rfl rfl <| L (.ptr (.fr 0 5) 1 0) (h' := ⟨upd _ 5 ⟨1, .cells (c_api_Limit (api_Limit.mk [] 0 0 0 0))⟩, _, _⟩) rfl rfl (op_alloc (c_api_Limit (api_Limit.mk [] 0 0 0 0)) rfl rfl rfl rfl) <| L (.tup []) (h' := ⟨upd _ 5 ⟨1, .cells (c_api_Limit x)⟩, _, _⟩) rfl rfl (op_store rfl rfl (st_fr (x := (.agg (c_api_Limit x))) (c_api_Limit x) rfl rfl (Nat.le_of_ble_eq_true rfl) rfl)) <| nl <| sq <| dw (by kernel_rfl) <| L (.ptr (.fr 0 5) 1 1) rfl rfl rfl <| L (iA x.Kind) rfl rfl (op_load rfl (ld_con (iA x.Kind) rfl rfl (cs := (c_api_Limit x)) (con_fr rfl) rfl)) <| L (bA (x.Kind == 4)) rfl rfl rfl <| L (.ptr (.fr 0 5) 1 1) rfl rfl rfl <| L (iA x.Kind) rfl rfl (op_load rfl (ld_con (iA x.Kind) rfl rfl (cs := (c_api_Limit x)) (con_fr rfl) rfl)) <| L (bA (x.Kind == 3)) rfl rfl rfl <| L (bA (x.Kind == 4)) rfl rfl rfl <| L (bA (x.Kind == 3)) rfl rfl rfl <| nl <| sq <| bk <| sq <| rg <| L (.ptr (.fr 0 5) 1 0) rfl rfl rfl <| L (sA x.Key) rfl rfl (op_load rfl (ld_con (sA x.Key) rfl rfl (cs := (c_api_Limit x)) (con_fr rfl) rfl)) ?_
 obtain ⟨r21, h1, hF0⟩ := bind_some hF0
 refine WO_rd (g := 39) (args := [(sA x.Key)]) (r := (bA r21)) _ _ rfl rfl rfl rfl rfl rfl rfl (ok_kit_IsKey _ h1 _ _ ) <| L (bA (!r21)) rfl rfl rfl <| L (bA (!r21)) rfl rfl rfl <| nl <| cd (!r21) rfl (fun hc35 => ?_) (fun hc35 => ?_)
 · replace hF0 := ite_t hF0 (hc35)
   refine sq <| rg <| L (iA 5) rfl rfl rfl <| nl <| rt ?_
   obtain rfl := Option.some.inj hF0
   exact rd_leaf (.inr rfl) rfl (retV_pl _ _ (iA 5)) rfl rfl
 · replace hF0 := ite_f hF0 (not_t hc35)
   refine sq <| dw (by kernel_rfl) <| L (iA i) rfl rfl rfl <| L (bA (decide (i > 0))) rfl rfl rfl ?_
   obtain ⟨y2, hF1, hF0⟩ := bind_some hF0
   obtain ⟨J2, hJ2⟩ : ∃ J : St → Prop, ∀ st, J st ↔ (∃ (t36 : Bool) (tm3 : Nat → AV) (cb3 : AE.Frame), st = ⟨tm3, ⟨cb3, out, glob⟩⟩ ∧ AllEq tm3 [(5, (.ptr (.fr 0 5) 1 0)), (6, (bA (x.Kind == 4))), (7, (bA (x.Kind == 3))), (36, (bA t36))] ∧ AllEq cb3 [(5, ⟨1, .cells (c_api_Limit x)⟩)] ∧ t36 = y2) := ⟨_, fun _ => Iff.rfl⟩
   refine WO_cut 11 J2 (fun st hst => ?_) ?_
   · obtain ⟨t36, tm3, cb3, rfl, hT3, hC3, rfl⟩ := (hJ2 st).1 hst
     obtain ⟨tm3, rfl⟩ := allEq hT3
     obtain ⟨cb3, rfl⟩ := allEq hC3
     refine L (bA t36) rfl rfl rfl <| nl <| cd t36 rfl (fun hc34 => ?_) (fun hc34 => ?_)
     · replace hF0 := ite_t hF0 (hc34)
       refine sq <| rg <| L (iA 7) rfl rfl rfl <| nl <| rt ?_
       obtain rfl := Option.some.inj hF0
       exact rd_leaf (.inr rfl) rfl (retV_pl _ _ (iA 7)) rfl rfl
     · replace hF0 := ite_f hF0 (not_t hc34)
       refine sq <| rg <| L (.ptr (.fr 0 5) 1 1) rfl rfl rfl <| L (iA x.Kind) rfl rfl (op_load rfl (ld_con (iA x.Kind) rfl rfl (cs := (c_api_Limit x)) (con_fr rfl) rfl)) ?_
       obtain ⟨r37, h4, hF0⟩ := bind_some hF0
       refine WO_rd (g := 19) (args := [(iA x.Kind), (iA 1), (iA 4)]) (r := (bA r37)) _ _ rfl rfl rfl rfl rfl rfl rfl (ok_kit_Outside _ _ _ h4 _ _ ) <| L (bA r37) rfl rfl rfl <| nl <| cd r37 rfl (fun hc33 => ?_) (fun hc33 => ?_)
       · replace hF0 := ite_t hF0 (hc33)
         refine sq <| rg <| L (iA 4) rfl rfl rfl <| nl <| rt ?_
         obtain rfl := Option.some.inj hF0
         exact rd_leaf (.inr rfl) rfl (retV_pl _ _ (iA 4)) rfl rfl
       · replace hF0 := ite_f hF0 (not_t hc33)
         refine sq <| rg <| L (.ptr (.fr 0 5) 1 2) rfl rfl rfl <| L (iA x.Most) rfl rfl (op_load rfl (ld_con (iA x.Most) rfl rfl (cs := (c_api_Limit x)) (con_fr rfl) rfl)) ?_
         obtain ⟨r41, h5, hF0⟩ := bind_some hF0
         refine WO_rd (g := 19) (args := [(iA x.Most), (iA 1), (iA 1000000000)]) (r := (bA r41)) _ _ rfl rfl rfl rfl rfl rfl rfl (ok_kit_Outside _ _ _ h5 _ _ ) <| L (bA r41) rfl rfl rfl <| nl <| cd r41 rfl (fun hc32 => ?_) (fun hc32 => ?_)
         · replace hF0 := ite_t hF0 (hc32)
           refine sq <| rg <| L (iA 1) rfl rfl rfl <| nl <| rt ?_
           obtain rfl := Option.some.inj hF0
           exact rd_leaf (.inr rfl) rfl (retV_pl _ _ (iA 1)) rfl rfl
         · replace hF0 := ite_f hF0 (not_t hc32)
           refine sq <| rg <| L (bA (x.Kind == 4)) rfl rfl rfl ?_
           obtain ⟨J6, hJ6⟩ : ∃ J : St → Prop, ∀ st, J st ↔ (∃ (tm7 : Nat → AV) (cb7 : AE.Frame), st = ⟨tm7, ⟨cb7, out, glob⟩⟩ ∧ AllEq tm7 [(5, (.ptr (.fr 0 5) 1 0)), (6, (bA (x.Kind == 4))), (7, (bA (x.Kind == 3))), (51, (bA ((x.Kind == 4) && (x.Per != 0))))] ∧ AllEq cb7 [(5, ⟨1, .cells (c_api_Limit x)⟩)]) := ⟨_, fun _ => Iff.rfl⟩
           refine WO_cut 5 J6 (fun st hst => ?_) ?_
           · obtain ⟨tm7, cb7, rfl, hT7, hC7⟩ := (hJ6 st).1 hst
             obtain ⟨tm7, rfl⟩ := allEq hT7
             obtain ⟨cb7, rfl⟩ := allEq hC7
             obtain ⟨y12, hF1, hF0⟩ := bind_some hF0
             obtain ⟨J12, hJ12⟩ : ∃ J : St → Prop, ∀ st, J st ↔ (∃ (t60 : Bool) (tm13 : Nat → AV) (cb13 : AE.Frame), st = ⟨tm13, ⟨cb13, out, glob⟩⟩ ∧ AllEq tm13 [(5, (.ptr (.fr 0 5) 1 0)), (7, (bA (x.Kind == 3))), (60, (bA t60))] ∧ AllEq cb13 [(5, ⟨1, .cells (c_api_Limit x)⟩)] ∧ t60 = y12) := ⟨_, fun _ => Iff.rfl⟩
             refine WO_cut 9 J12 (fun st hst => ?_) ?_
             · obtain ⟨t60, tm13, cb13, rfl, hT13, hC13, rfl⟩ := (hJ12 st).1 hst
               obtain ⟨tm13, rfl⟩ := allEq hT13
               obtain ⟨cb13, rfl⟩ := allEq hC13
               refine L (bA t60) rfl rfl rfl <| nl <| cd t60 rfl (fun hc27 => ?_) (fun hc27 => ?_)
               · replace hF0 := ite_t hF0 (hc27)
                 refine sq <| rg <| L (iA 1) rfl rfl rfl <| nl <| rt ?_
                 obtain rfl := Option.some.inj hF0
                 exact rd_leaf (.inr rfl) rfl (retV_pl _ _ (iA 1)) rfl rfl
               · replace hF0 := ite_f hF0 (not_t hc27)
                 refine sq <| rg <| L (bA (x.Kind == 3)) rfl rfl rfl <| L (bA (!(x.Kind == 3))) rfl rfl rfl ?_
                 obtain ⟨J14, hJ14⟩ : ∃ J : St → Prop, ∀ st, J st ↔ (∃ (tm15 : Nat → AV) (cb15 : AE.Frame), st = ⟨tm15, ⟨cb15, out, glob⟩⟩ ∧ AllEq tm15 [(5, (.ptr (.fr 0 5) 1 0)), (7, (bA (x.Kind == 3))), (68, (bA ((!(x.Kind == 3)) && (x.Burst != 0))))] ∧ AllEq cb15 [(5, ⟨1, .cells (c_api_Limit x)⟩)]) := ⟨_, fun _ => Iff.rfl⟩
                 refine WO_cut 5 J14 (fun st hst => ?_) ?_
                 · obtain ⟨tm15, cb15, rfl, hT15, hC15⟩ := (hJ14 st).1 hst
                   obtain ⟨tm15, rfl⟩ := allEq hT15
                   obtain ⟨cb15, rfl⟩ := allEq hC15
                   obtain ⟨y20, hF1, hF0⟩ := bind_some hF0
                   obtain ⟨J20, hJ20⟩ : ∃ J : St → Prop, ∀ st, J st ↔ (∃ (t76 : Bool) (tm21 : Nat → AV) (cb21 : AE.Frame), st = ⟨tm21, ⟨cb21, out, glob⟩⟩ ∧ AllEq tm21 [(76, (bA t76))] ∧ AllEq cb21 [] ∧ t76 = y20) := ⟨_, fun _ => Iff.rfl⟩
                   refine WO_cut 8 J20 (fun st hst => ?_) ?_
                   · obtain ⟨t76, tm21, cb21, rfl, hT21, hC21, rfl⟩ := (hJ20 st).1 hst
                     obtain ⟨tm21, rfl⟩ := allEq hT21
                     obtain ⟨cb21, rfl⟩ := allEq hC21
                     refine L (bA t76) rfl rfl rfl <| nl <| cd t76 rfl (fun hc22 => ?_) (fun hc22 => ?_)
                     · replace hF0 := ite_t hF0 (hc22)
                       refine sq <| rg <| L (iA 1) rfl rfl rfl <| nl <| rt ?_
                       obtain rfl := Option.some.inj hF0
                       exact rd_leaf (.inr rfl) rfl (retV_pl _ _ (iA 1)) rfl rfl
                     · replace hF0 := ite_f hF0 (not_t hc22)
                       refine sk <| sq <| rg <| L (iA 0) rfl rfl rfl <| nl <| rt ?_
                       obtain rfl := Option.some.inj hF0
                       exact rd_leaf (.inr rfl) rfl (retV_pl _ _ (iA 0)) rfl rfl
                   · rcases bool_cases ((!(x.Kind == 3)) && (x.Burst != 0)) with hc20 | hc20
                     · replace hF1 := ite_t hF1 (hc20)
                       exact L (.bool true) rfl rfl (congrArg (fun b => some (AV.bool b, _)) hc20) <| WO_no _ rfl rfl <| WO_no _ rfl rfl <| WO_no _ rfl rfl <| WO_no _ rfl rfl <| WO_no _ rfl rfl <| WO_no _ rfl rfl <| L (bA true) rfl rfl rfl <| nl ((hJ20 _).2 ⟨true, _, _, rfl, (And.intro rfl True.intro), True.intro, Option.some.inj hF1⟩)
                     · replace hF1 := ite_f hF1 (not_t hc20)
                       refine L (.bool false) rfl rfl (congrArg (fun b => some (AV.bool b, _)) hc20) <| L (bA (x.Kind == 3)) rfl rfl rfl ?_
                       obtain ⟨y24, hF2, hF1⟩ := bind_some hF1
                       obtain ⟨J24, hJ24⟩ : ∃ J : St → Prop, ∀ st, J st ↔ (∃ (t751 : Bool) (tm25 : Nat → AV) (cb25 : AE.Frame), st = ⟨tm25, ⟨cb25, out, glob⟩⟩ ∧ AllEq tm25 [(69, (bA false)), (75, (bA t751))] ∧ AllEq cb25 [] ∧ t751 = y24) := ⟨_, fun _ => Iff.rfl⟩
                       refine WO_cut 5 J24 (fun st hst => ?_) ?_
                       · obtain ⟨t751, tm25, cb25, rfl, hT25, hC25, rfl⟩ := (hJ24 st).1 hst
                         obtain ⟨tm25, rfl⟩ := allEq hT25
                         obtain ⟨cb25, rfl⟩ := allEq hC25
                         exact L (bA t751) rfl rfl rfl <| nl ((hJ20 _).2 ⟨t751, _, _, rfl, (And.intro rfl True.intro), True.intro, Option.some.inj hF1⟩)
                       · rcases bool_cases (x.Kind == 3) with hc24 | hc24
                         · replace hF2 := ite_t hF2 (beq_t hc24)
                           refine L (.bool true) rfl rfl (congrArg (fun b => some (AV.bool b, _)) hc24) <| L (.ptr (.fr 0 5) 1 4) rfl rfl rfl <| L (iA x.Burst) rfl rfl (op_load rfl (ld_con (iA x.Burst) rfl rfl (cs := (c_api_Limit x)) (con_fr rfl) rfl)) ?_
                           obtain ⟨r743, h26, hF2⟩ := bind_some hF2
                           exact WO_rd (g := 19) (args := [(iA x.Burst), (iA 1), (iA 1000000000)]) (r := (bA r743)) _ _ rfl rfl rfl rfl rfl rfl rfl (ok_kit_Outside _ _ _ h26 _ _ ) <| L (bA r743) rfl rfl rfl <| nl ((hJ24 _).2 ⟨r743, _, _, rfl, (And.intro rfl (And.intro rfl True.intro)), True.intro, Option.some.inj hF2⟩)
                         · replace hF2 := ite_f hF2 (beq_f hc24)
                           exact L (.bool false) rfl rfl (congrArg (fun b => some (AV.bool b, _)) hc24) <| WO_no _ rfl rfl <| WO_no _ rfl rfl <| WO_no _ rfl rfl <| L (bA false) rfl rfl rfl <| nl ((hJ24 _).2 ⟨false, _, _, rfl, (And.intro rfl (And.intro rfl True.intro)), True.intro, Option.some.inj hF2⟩)
                 · rcases bool_cases (!(x.Kind == 3)) with hc14 | hc14
                   · exact L (.bool true) rfl rfl (congrArg (fun b => some (AV.bool b, _)) hc14) <| L (.ptr (.fr 0 5) 1 4) rfl rfl rfl <| L (iA x.Burst) rfl rfl (op_load rfl (ld_con (iA x.Burst) rfl rfl (cs := (c_api_Limit x)) (con_fr rfl) rfl)) <| L (bA (x.Burst != 0)) rfl rfl rfl <| L (bA ((!(x.Kind == 3)) && (x.Burst != 0))) rfl rfl (congrArg (fun b => some (AV.bool b, _)) (by rw [hc14]; rfl)) <| nl ((hJ14 _).2 ⟨_, _, rfl, (And.intro rfl (And.intro rfl (And.intro rfl True.intro))), (And.intro rfl True.intro)⟩)
                   · exact L (.bool false) rfl rfl (congrArg (fun b => some (AV.bool b, _)) hc14) <| WO_no _ rfl rfl <| WO_no _ rfl rfl <| WO_no _ rfl rfl <| L (bA ((!(x.Kind == 3)) && (x.Burst != 0))) rfl rfl (congrArg (fun b => some (AV.bool b, _)) (by rw [hc14]; rfl)) <| nl ((hJ14 _).2 ⟨_, _, rfl, (And.intro rfl (And.intro rfl (And.intro rfl True.intro))), (And.intro rfl True.intro)⟩)
             · rcases bool_cases ((x.Kind == 4) && (x.Per != 0)) with hc12 | hc12
               · replace hF1 := ite_t hF1 (hc12)
                 exact L (.bool true) rfl rfl (congrArg (fun b => some (AV.bool b, _)) hc12) <| WO_no _ rfl rfl <| WO_no _ rfl rfl <| WO_no _ rfl rfl <| WO_no _ rfl rfl <| WO_no _ rfl rfl <| WO_no _ rfl rfl <| WO_no _ rfl rfl <| L (bA true) rfl rfl rfl <| nl ((hJ12 _).2 ⟨true, _, _, rfl, (And.intro rfl (And.intro rfl (And.intro rfl True.intro))), (And.intro rfl True.intro), Option.some.inj hF1⟩)
               · replace hF1 := ite_f hF1 (not_t hc12)
                 refine L (.bool false) rfl rfl (congrArg (fun b => some (AV.bool b, _)) hc12) <| L (bA (x.Kind == 4)) rfl rfl rfl <| L (bA (!(x.Kind == 4))) rfl rfl rfl ?_
                 obtain ⟨y29, hF2, hF1⟩ := bind_some hF1
                 obtain ⟨J29, hJ29⟩ : ∃ J : St → Prop, ∀ st, J st ↔ (∃ (t591 : Bool) (tm30 : Nat → AV) (cb30 : AE.Frame), st = ⟨tm30, ⟨cb30, out, glob⟩⟩ ∧ AllEq tm30 [(5, (.ptr (.fr 0 5) 1 0)), (7, (bA (x.Kind == 3))), (52, (bA false)), (59, (bA t591))] ∧ AllEq cb30 [(5, ⟨1, .cells (c_api_Limit x)⟩)] ∧ t591 = y29) := ⟨_, fun _ => Iff.rfl⟩
                 refine WO_cut 5 J29 (fun st hst => ?_) ?_
                 · obtain ⟨t591, tm30, cb30, rfl, hT30, hC30, rfl⟩ := (hJ29 st).1 hst
                   obtain ⟨tm30, rfl⟩ := allEq hT30
                   obtain ⟨cb30, rfl⟩ := allEq hC30
                   exact L (bA t591) rfl rfl rfl <| nl ((hJ12 _).2 ⟨t591, _, _, rfl, (And.intro rfl (And.intro rfl (And.intro rfl True.intro))), (And.intro rfl True.intro), Option.some.inj hF1⟩)
                 · rcases bool_cases (!(x.Kind == 4)) with hc29 | hc29
                   · replace hF2 := ite_t hF2 (hc29)
                     refine L (.bool true) rfl rfl (congrArg (fun b => some (AV.bool b, _)) hc29) <| L (.ptr (.fr 0 5) 1 3) rfl rfl rfl <| L (iA x.Per) rfl rfl (op_load rfl (ld_con (iA x.Per) rfl rfl (cs := (c_api_Limit x)) (con_fr rfl) rfl)) ?_
                     obtain ⟨r583, h31, hF2⟩ := bind_some hF2
                     exact WO_rd (g := 19) (args := [(iA x.Per), (iA 1), (iA 8640000000)]) (r := (bA r583)) _ _ rfl rfl rfl rfl rfl rfl rfl (ok_kit_Outside _ _ _ h31 _ _ ) <| L (bA r583) rfl rfl rfl <| nl ((hJ29 _).2 ⟨r583, _, _, rfl, (And.intro rfl (And.intro rfl (And.intro rfl (And.intro rfl True.intro)))), (And.intro rfl True.intro), Option.some.inj hF2⟩)
                   · replace hF2 := ite_f hF2 (not_t hc29)
                     exact L (.bool false) rfl rfl (congrArg (fun b => some (AV.bool b, _)) hc29) <| WO_no _ rfl rfl <| WO_no _ rfl rfl <| WO_no _ rfl rfl <| L (bA false) rfl rfl rfl <| nl ((hJ29 _).2 ⟨false, _, _, rfl, (And.intro rfl (And.intro rfl (And.intro rfl (And.intro rfl True.intro)))), (And.intro rfl True.intro), Option.some.inj hF2⟩)
           · rcases bool_cases (x.Kind == 4) with hc6 | hc6
             · exact L (.bool true) rfl rfl (congrArg (fun b => some (AV.bool b, _)) hc6) <| L (.ptr (.fr 0 5) 1 3) rfl rfl rfl <| L (iA x.Per) rfl rfl (op_load rfl (ld_con (iA x.Per) rfl rfl (cs := (c_api_Limit x)) (con_fr rfl) rfl)) <| L (bA (x.Per != 0)) rfl rfl rfl <| L (bA ((x.Kind == 4) && (x.Per != 0))) rfl rfl (congrArg (fun b => some (AV.bool b, _)) (by rw [hc6]; rfl)) <| nl ((hJ6 _).2 ⟨_, _, rfl, (And.intro rfl (And.intro rfl (And.intro rfl (And.intro rfl True.intro)))), (And.intro rfl True.intro)⟩)
             · exact L (.bool false) rfl rfl (congrArg (fun b => some (AV.bool b, _)) hc6) <| WO_no _ rfl rfl <| WO_no _ rfl rfl <| WO_no _ rfl rfl <| L (bA ((x.Kind == 4) && (x.Per != 0))) rfl rfl (congrArg (fun b => some (AV.bool b, _)) (by rw [hc6]; rfl)) <| nl ((hJ6 _).2 ⟨_, _, rfl, (And.intro rfl (And.intro rfl (And.intro rfl (And.intro rfl True.intro)))), (And.intro rfl True.intro)⟩)
   · rcases bool_cases (decide (i > 0)) with hc2 | hc2
     · replace hF1 := ite_t hF1 (dec_t hc2)
       refine L (.bool true) rfl rfl (congrArg (fun b => some (AV.bool b, _)) hc2) <| L (.ptr (.fr 0 5) 1 0) rfl rfl rfl <| L (sA x.Key) rfl rfl (op_load rfl (ld_con (sA x.Key) rfl rfl (cs := (c_api_Limit x)) (con_fr rfl) rfl)) <| L (Sl.av 5 c_api_Limit l) rfl rfl rfl <| L (iA i) rfl rfl rfl <| L (iA (w64 (i - 1))) rfl rfl rfl ?_
       obtain ⟨x2, h_x2, hF1⟩ := bind_some hF1
       exact L (.cptr (c_api_Limit x2)) rfl rfl (op_ix rfl (ix_sl (c := c_api_Limit) rfl rfl h_x2)) <| L (.cptr ((c_api_Limit x2).drop 0)) rfl rfl rfl <| L (sA x2.Key) rfl rfl rfl <| L (bA (sle x.Key x2.Key)) rfl rfl (op_bin rfl bin_sle) <| L (bA (sle x.Key x2.Key)) rfl rfl rfl <| nl ((hJ2 _).2 ⟨sle x.Key x2.Key, _, _, rfl, (And.intro rfl (And.intro rfl (And.intro rfl (And.intro rfl True.intro)))), (And.intro rfl True.intro), Option.some.inj hF1⟩)
     · replace hF1 := ite_f hF1 (dec_f hc2)
       exact L (.bool false) rfl rfl (congrArg (fun b => some (AV.bool b, _)) hc2) <| WO_no _ rfl rfl <| WO_no _ rfl rfl <| WO_no _ rfl rfl <| WO_no _ rfl rfl <| WO_no _ rfl rfl <| WO_no _ rfl rfl <| WO_no _ rfl rfl <| WO_no _ rfl rfl <| WO_no _ rfl rfl <| L (bA false) rfl rfl rfl <| nl ((hJ2 _).2 ⟨false, _, _, rfl, (And.intro rfl (And.intro rfl (And.intro rfl (And.intro rfl True.intro)))), (And.intro rfl True.intro), Option.some.inj hF1⟩)

theorem ok_limit_CheckLimits (l : (Sl api_Limit)) {r : (Int)} (hF0 : limit_CheckLimits l = some r) (out : List AE.Frame) (glob : List AObj) : RdOk Tryd.prog pol true 16 [(Sl.av 5 c_api_Limit l)] out glob (iA r) := by
 unfold limit_CheckLimits at hF0
 refine rd_walk Tryd.func16 rfl (Nat.not_lt.2 (Nat.le_of_ble_eq_true rfl)) ?_
 intro ro
 refine sq <| rg <| L (iA 0) rfl rfl rfl <| nl <| sq <| sq <| rg <| L (Sl.av 5 c_api_Limit l) rfl rfl rfl <| L (iA (l.list.length : Int)) rfl rfl (op_len rfl rfl rfl rfl rfl (len_sl _)) <| L (bA (decide ((l.list.length : Int) > 20))) rfl rfl rfl <| nl <| cd (decide ((l.list.length : Int) > 20)) rfl (fun hc11 => ?_) (fun hc11 => ?_)
 · replace hF0 := ite_t hF0 (dec_t hc11)
   refine sq <| rg <| L (iA 2) rfl rfl rfl <| nl <| rt ?_
   obtain rfl := Option.some.inj hF0
   exact rd_leaf (.inr rfl) rfl (retV_pl _ _ (iA 2)) rfl rfl
 · replace hF0 := ite_f hF0 (dec_f hc11)
   refine sk <| sq <| sq <| rg <| L (Sl.av 5 c_api_Limit l) rfl rfl rfl <| L (iA (l.list.length : Int)) rfl rfl (op_len rfl rfl rfl rfl rfl (len_sl _)) <| L (iA 0) rfl rfl rfl <| nl <| bk ?_
   obtain ⟨b1, hb5, hF0⟩ := bind_some hF0
   obtain ⟨hn5, hb5⟩ := ite_none hb5
   obtain ⟨J5, hJ5⟩ : ∃ J : St → Prop, ∀ st, J st ↔ (∃ (tm7 : Nat → AV) (cb7 : AE.Frame), st = ⟨tm7, ⟨cb7, out, glob⟩⟩ ∧ AllEq tm7 [] ∧ AllEq cb7 [] ∧ Res.out () = b1) := ⟨_, fun _ => Iff.rfl⟩
   obtain ⟨R5, hR5⟩ : ∃ R : Nat → (Unit) → St → Prop, ∀ i v st, R i v st ↔ (match v with | () => ∃ (tm6 : Nat → AV) (cb6 : AE.Frame), st = ⟨tm6, ⟨cb6, out, glob⟩⟩ ∧ AllEq tm6 [(0, (Sl.av 5 c_api_Limit l)), (9, (iA (l.list.length : Int))), (10, (iA ((i : Nat) : Int)))] ∧ AllEq cb6 []) := ⟨_, fun _ _ _ => Iff.rfl⟩
   refine W_loopcut J5 (fun st hst => ?_) ?_
   · obtain ⟨tm7, cb7, rfl, hT7, hC7, rfl⟩ := (hJ5 st).1 hst
     obtain ⟨tm7, rfl⟩ := allEq hT7
     obtain ⟨cb7, rfl⟩ := allEq hC7
     replace hF0 := res_out hF0
     refine sq <| rg <| L (iA 0) rfl rfl rfl <| nl <| rt ?_
     obtain rfl := Option.some.inj hF0
     exact rd_leaf (.inr rfl) rfl (retV_pl _ _ (iA 0)) rfl rfl
   · refine W_rangeL hb5 R5 ((hR5 _ _ _).2 ⟨_, _, rfl, (And.intro rfl (And.intro rfl (And.intro rfl True.intro))), True.intro⟩) ?_ ?_
     · intro i hi5 v st s hr hF1 hD1
       obtain ⟨⟩ := v
       obtain ⟨tm6, cb6, rfl, hT6, hC6⟩ := (hR5 _ _ _).1 hr
       obtain ⟨tm6, rfl⟩ := allEq hT6
       obtain ⟨cb6, rfl⟩ := allEq hC6
       obtain ⟨x, hx5⟩ : ∃ x, x = l.list[i] := ⟨_, rfl⟩
       rw [← hx5] at hF1
       dsimp only [limit_CheckLimits_l0] at hF1
       refine sq (rg ?_)
       refine WO_do (y := (bA (decide (((i : Nat) : Int) < (l.list.length : Int))))) _ rfl rfl rfl (nl ?_)
       refine sq <| cd true (congrArg some (range_lt hi5)) (fun _ => ?_) (fun h => absurd h (by decide))
       refine sk <| sq <| bk <| sq <| rg <| L (iA ((i : Nat) : Int)) rfl rfl rfl <| L (iA ((i : Nat) : Int)) rfl rfl rfl <| nl <| sq <| rg <| L (Sl.av 5 c_api_Limit l) rfl rfl rfl <| L (iA ((i : Nat) : Int)) rfl rfl rfl ?_
       obtain ⟨e1, h9, hF1⟩ := bind_some hF1
       refine WO_rd (g := 31) (args := [(Sl.av 5 c_api_Limit l), (iA ((i : Nat) : Int))]) (r := (iA e1)) _ _ rfl rfl rfl rfl rfl rfl rfl (ok_limit_limitFault _ _ h9 _ _ ) <| L (iA e1) rfl rfl rfl <| nl <| sq <| rg <| L (iA e1) rfl rfl rfl <| L (bA (e1 != 0)) rfl rfl rfl <| nl <| cd (e1 != 0) rfl (fun hc10 => ?_) (fun hc10 => ?_)
       · replace hF1 := ite_t hF1 (bne_t hc10)
         refine sq <| rg <| L (iA e1) rfl rfl rfl <| L (iA e1) rfl rfl rfl <| nl <| rt ?_
         obtain rfl := hD1 _ (Option.some.inj hF1).symm
         replace hF0 := res_ret hF0
         obtain rfl := Option.some.inj hF0
         exact rd_leaf (.inr rfl) rfl (retV_pl _ _ (iA e1)) rfl rfl
       · replace hF1 := ite_f hF1 (bne_f hc10)
         exact sk <| rg <| WO_do (y := (iA ((i + 1 : Nat) : Int))) _ rfl rfl (congrArg (fun n => some (AV.int .i64 n, _)) (range_len hi5 hn5)) <| WO_do (y := (iA ((i + 1 : Nat) : Int))) _ rfl rfl rfl <| nl <| Exists.intro _ (And.intro (Option.some.inj hF1).symm ((hR5 _ _ _).2 ⟨_, _, rfl, (And.intro rfl (And.intro rfl (And.intro rfl True.intro))), True.intro⟩))
     · intro v st hr hD1
       obtain ⟨⟩ := v
       obtain ⟨tm6, cb6, rfl, hT6, hC6⟩ := (hR5 _ _ _).1 hr
       obtain ⟨tm6, rfl⟩ := allEq hT6
       obtain ⟨cb6, rfl⟩ := allEq hC6
       refine sq (rg ?_)
       refine WO_do (y := .bool false) _ rfl rfl (congrArg (fun b => some (AV.bool b, _)) (range_ge _)) (nl ?_)
       refine sq <| cd false rfl (fun h => absurd h (by decide)) (fun _ => ?_)
       exact xt <| (hJ5 _).2 ⟨_, _, rfl, True.intro, True.intro, hD1⟩

theorem ok_limit_Lines_1 (x : api_Limit) (cap1 : api_Verdict) {r : (Bool)} (hF0 : limit_Lines_1 x cap1 = some r) (out : List AE.Frame) (glob : List AObj) (d1 : AE.Loc) (w1 : Nat) (hh1 : d1.here = false) (hk_1 : con2 out glob d1 w1 = .cells (c_api_Verdict cap1)) : RdOk Tryd.prog pol true 18 [(.agg (c_api_Limit x)), (.ptr d1 w1 0)] out glob (bA r) := by
 unfold limit_Lines_1 at hF0
 refine rd_walk Tryd.func18 rfl (Nat.not_lt.2 (Nat.le_of_ble_eq_true rfl)) ?_
 intro ro
 refine sq <| rg <| L (.ptr (.fr 0 2) 1 0) (h' := ⟨upd _ 2 ⟨1, .cells (c_api_Limit x)⟩, _, _⟩) rfl rfl (op_box (x' := (.agg (c_api_Limit x))) rfl rfl rfl rfl) <| L (bA false) rfl rfl rfl <| nl <| sq <| rg <| L (.ptr (.fr 0 2) 1 0) rfl rfl rfl <| L (sA x.Key) rfl rfl (op_load rfl (ld_con (sA x.Key) rfl rfl (cs := (c_api_Limit x)) (con_fr rfl) rfl)) <| L (.ptr d1 w1 1) rfl rfl rfl <| L (sA cap1.By) rfl rfl (op_load rfl (ld_con (sA cap1.By) rfl rfl (cs := (c_api_Verdict cap1)) ((con_con2 _ _ _ _ _ hh1).trans hk_1) rfl)) <| L (bA (x.Key == cap1.By)) rfl rfl (op_bin rfl bin_seq) <| L (bA (x.Key == cap1.By)) rfl rfl rfl <| nl <| rt ?_
 obtain rfl := Option.some.inj hF0
 exact rd_leaf (.inr rfl) rfl (retV_pl _ _ (bA (x.Key == cap1.By))) rfl rfl

theorem ok_slices_IndexFunc_api_Limit_api_Limit__limit_Lines_1 (s_ : (Sl api_Limit)) (cap1_0 : api_Verdict) {r : (Int)} (hF0 : slices_IndexFunc_api_Limit_api_Limit__limit_Lines_1 s_ cap1_0 = some r) (out : List AE.Frame) (glob : List AObj) (d110 : AE.Loc) (w110 : Nat) (hh110 : d110.here = false) (hk_110 : con2 out glob d110 w110 = .cells (c_api_Verdict cap1_0)) : RdOk Tryd.prog pol true 32 [(Sl.av 5 c_api_Limit s_), (.fn (.func 18) [] [(.ptr d110 w110 0)])] out glob (iA r) := by
 unfold slices_IndexFunc_api_Limit_api_Limit__limit_Lines_1 at hF0
 refine rd_walk Tryd.func32 rfl (Nat.not_lt.2 (Nat.le_of_ble_eq_true rfl)) ?_
 intro ro
 refine sq <| rg <| L (iA 0) rfl rfl rfl <| nl <| sq <| sq <| rg <| L (Sl.av 5 c_api_Limit s_) rfl rfl rfl <| L (iA (s_.list.length : Int)) rfl rfl (op_len rfl rfl rfl rfl rfl (len_sl _)) <| L (iA 0) rfl rfl rfl <| nl <| bk ?_
 obtain ⟨b1, hb5, hF0⟩ := bind_some hF0
 obtain ⟨hn5, hb5⟩ := ite_none hb5
 obtain ⟨J5, hJ5⟩ : ∃ J : St → Prop, ∀ st, J st ↔ (∃ (tm7 : Nat → AV) (cb7 : AE.Frame), st = ⟨tm7, ⟨cb7, out, glob⟩⟩ ∧ AllEq tm7 [] ∧ AllEq cb7 [] ∧ Res.out () = b1) := ⟨_, fun _ => Iff.rfl⟩
 obtain ⟨R5, hR5⟩ : ∃ R : Nat → (Unit) → St → Prop, ∀ i v st, R i v st ↔ (match v with | () => ∃ (tm6 : Nat → AV) (cb6 : AE.Frame), st = ⟨tm6, ⟨cb6, out, glob⟩⟩ ∧ AllEq tm6 [(0, (Sl.av 5 c_api_Limit s_)), (1, (.fn (.func 18) [] [(.ptr d110 w110 0)])), (7, (iA (s_.list.length : Int))), (8, (iA ((i : Nat) : Int)))] ∧ AllEq cb6 []) := ⟨_, fun _ _ _ => Iff.rfl⟩
 refine W_loopcut J5 (fun st hst => ?_) ?_
 · obtain ⟨tm7, cb7, rfl, hT7, hC7, rfl⟩ := (hJ5 st).1 hst
   obtain ⟨tm7, rfl⟩ := allEq hT7
   obtain ⟨cb7, rfl⟩ := allEq hC7
   replace hF0 := res_out hF0
   refine sq <| rg <| L (iA (-1)) rfl rfl rfl <| nl <| rt ?_
   obtain rfl := Option.some.inj hF0
   exact rd_leaf (.inr rfl) rfl (retV_pl _ _ (iA (-1))) rfl rfl
 · refine W_rangeL hb5 R5 ((hR5 _ _ _).2 ⟨_, _, rfl, (And.intro rfl (And.intro rfl (And.intro rfl (And.intro rfl True.intro)))), True.intro⟩) ?_ ?_
   · intro i hi5 v st s hr hF1 hD1
     obtain ⟨⟩ := v
     obtain ⟨tm6, cb6, rfl, hT6, hC6⟩ := (hR5 _ _ _).1 hr
     obtain ⟨tm6, rfl⟩ := allEq hT6
     obtain ⟨cb6, rfl⟩ := allEq hC6
     obtain ⟨x1, hx5⟩ : ∃ x, x = s_.list[i] := ⟨_, rfl⟩
     rw [← hx5] at hF1
     dsimp only [slices_IndexFunc_api_Limit_api_Limit__limit_Lines_1_l0] at hF1
     refine sq (rg ?_)
     refine WO_do (y := (bA (decide (((i : Nat) : Int) < (s_.list.length : Int))))) _ rfl rfl rfl (nl ?_)
     refine sq <| cd true (congrArg some (range_lt hi5)) (fun _ => ?_) (fun h => absurd h (by decide))
     refine sk <| sq <| bk <| sq <| rg <| L (iA ((i : Nat) : Int)) rfl rfl rfl <| L (iA ((i : Nat) : Int)) rfl rfl rfl <| nl <| sq <| rg <| L (.fn (.func 18) [] [(.ptr d110 w110 0)]) rfl rfl rfl <| L (Sl.av 5 c_api_Limit s_) rfl rfl rfl <| L (iA ((i : Nat) : Int)) rfl rfl rfl <| L (.cptr (c_api_Limit x1)) rfl rfl (op_ix rfl ((ix_at (c := c_api_Limit) rfl rfl hi5).trans (congrArg (fun x => some (AV.cptr (c_api_Limit x))) hx5.symm))) <| L (.agg (c_api_Limit x1)) rfl rfl rfl ?_
     obtain ⟨r161, h9, hF1⟩ := bind_some hF1
     refine WO_rd (g := 18) (args := [(.agg (c_api_Limit x1)), (.ptr d110 w110 0)]) (r := (bA r161)) _ _ rfl rfl rfl rfl rfl rfl rfl (ok_limit_Lines_1 _ _ h9 _ _ _ _ (inn_here _) ((con2_inn _ _ _ _ _).trans ((con_con2 _ _ _ _ _ hh110).trans hk_110))) <| nl <| cd r161 rfl (fun hc10 => ?_) (fun hc10 => ?_)
     · replace hF1 := ite_t hF1 (hc10)
       refine sq <| rg <| L (iA ((i : Nat) : Int)) rfl rfl rfl <| L (iA ((i : Nat) : Int)) rfl rfl rfl <| nl <| rt ?_
       obtain rfl := hD1 _ (Option.some.inj hF1).symm
       replace hF0 := res_ret hF0
       obtain rfl := Option.some.inj hF0
       exact rd_leaf (.inr rfl) rfl (retV_pl _ _ (iA ((i : Nat) : Int))) rfl rfl
     · replace hF1 := ite_f hF1 (not_t hc10)
       exact sk <| rg <| WO_do (y := (iA ((i + 1 : Nat) : Int))) _ rfl rfl (congrArg (fun n => some (AV.int .i64 n, _)) (range_len hi5 hn5)) <| WO_do (y := (iA ((i + 1 : Nat) : Int))) _ rfl rfl rfl <| nl <| Exists.intro _ (And.intro (Option.some.inj hF1).symm ((hR5 _ _ _).2 ⟨_, _, rfl, (And.intro rfl (And.intro rfl (And.intro rfl (And.intro rfl True.intro)))), True.intro⟩))
   · intro v st hr hD1
     obtain ⟨⟩ := v
     obtain ⟨tm6, cb6, rfl, hT6, hC6⟩ := (hR5 _ _ _).1 hr
     obtain ⟨tm6, rfl⟩ := allEq hT6
     obtain ⟨cb6, rfl⟩ := allEq hC6
     refine sq (rg ?_)
     refine WO_do (y := .bool false) _ rfl rfl (congrArg (fun b => some (AV.bool b, _)) (range_ge _)) (nl ?_)
     refine sq <| cd false rfl (fun h => absurd h (by decide)) (fun _ => ?_)
     exact xt <| (hJ5 _).2 ⟨_, _, rfl, True.intro, True.intro, hD1⟩

theorem ok_slices_ContainsFunc_api_Limit_api_Limit__limit_Lines_1 (s_ : (Sl api_Limit)) (cap1_0 : api_Verdict) {r : (Bool)} (hF0 : slices_ContainsFunc_api_Limit_api_Limit__limit_Lines_1 s_ cap1_0 = some r) (out : List AE.Frame) (glob : List AObj) (d110 : AE.Loc) (w110 : Nat) (hh110 : d110.here = false) (hk_110 : con2 out glob d110 w110 = .cells (c_api_Verdict cap1_0)) : RdOk Tryd.prog pol true 17 [(Sl.av 5 c_api_Limit s_), (.fn (.func 18) [] [(.ptr d110 w110 0)])] out glob (bA r) := by
 unfold slices_ContainsFunc_api_Limit_api_Limit__limit_Lines_1 at hF0
 refine rd_walk Tryd.func17 rfl (Nat.not_lt.2 (Nat.le_of_ble_eq_true rfl)) ?_
 intro ro
 refine sq <| rg <| L (bA false) rfl rfl rfl <| nl <| sq <| rg <| L (Sl.av 5 c_api_Limit s_) rfl rfl rfl <| L (.fn (.func 18) [] [(.ptr d110 w110 0)]) rfl rfl rfl ?_
 obtain ⟨r7, h1, hF0⟩ := bind_some hF0
 refine WO_rd (g := 32) (args := [(Sl.av 5 c_api_Limit s_), (.fn (.func 18) [] [(.ptr d110 w110 0)])]) (r := (iA r7)) _ _ rfl rfl rfl rfl rfl rfl rfl (ok_slices_IndexFunc_api_Limit_api_Limit__limit_Lines_1 _ _ h1 _ _ _ _ (inn_here _) ((con2_inn _ _ _ _ _).trans ((con_con2 _ _ _ _ _ hh110).trans hk_110))) <| L (bA (decide (r7 ≥ 0))) rfl rfl rfl <| L (bA (decide (r7 ≥ 0))) rfl rfl rfl <| nl <| rt ?_
 obtain rfl := Option.some.inj hF0
 exact rd_leaf (.inr rfl) rfl (retV_pl _ _ (bA (decide (r7 ≥ 0)))) rfl rfl

theorem ok_limit_kindWords  {r : ((Sl Str))} (hF0 : limit_kindWords = some r) (out : List AE.Frame) (glob : List AObj) : RdOk Tryd.prog pol true 20 [] out glob (Sl.av 1 c_str r) := by
 unfold limit_kindWords at hF0
 refine rd_walk Tryd.func20 rfl (Nat.not_lt.2 (Nat.le_of_ble_eq_true rfl)) ?_
 intro ro
 refine sq <| rg <| L (Sl.av 1 c_str Sl.nil) rfl rfl rfl <| nl <| sq <| rg <| L (Sl.av 1 c_str (Sl.full [[], [119, 105, 110, 100, 111, 119], [115, 108, 105, 100, 105, 110, 103], [98, 117, 99, 107, 101, 116], [111, 110, 99, 101]] : Sl Str)) rfl rfl (op_sliceN rfl rfl rfl) <| L (Sl.av 1 c_str (Sl.full [[], [119, 105, 110, 100, 111, 119], [115, 108, 105, 100, 105, 110, 103], [98, 117, 99, 107, 101, 116], [111, 110, 99, 101]] : Sl Str)) rfl rfl rfl <| nl <| rt ?_
 obtain rfl := Option.some.inj hF0
 exact rd_leaf (.inr rfl) rfl (retV_pl _ _ (Sl.av 1 c_str (Sl.full [[], [119, 105, 110, 100, 111, 119], [115, 108, 105, 100, 105, 110, 103], [98, 117, 99, 107, 101, 116], [111, 110, 99, 101]] : Sl Str))) rfl rfl

theorem ok_limit_up (a : Int) (b : Int) {r : (Int)} (hF0 : limit_up a b = some r) (out : List AE.Frame) (glob : List AObj) : RdOk Tryd.prog pol true 22 [(iA a), (iA b)] out glob (iA r) := by
 unfold limit_up at hF0
 refine rd_walk Tryd.func22 rfl (Nat.not_lt.2 (Nat.le_of_ble_eq_true rfl)) ?_
 intro ro
 refine sq <| rg <| L (iA 0) rfl rfl rfl <| nl <| sq <| rg <| L (iA a) rfl rfl rfl <| L (iA b) rfl rfl rfl ?_
 obtain ⟨n, h_n, hF0⟩ := bind_some hF0
 refine L (iA n) rfl rfl (op_bin rfl (bin_quo h_n)) <| L (iA n) rfl rfl rfl <| nl <| sq <| sq <| rg <| L (iA a) rfl rfl rfl <| L (iA b) rfl rfl rfl ?_
 obtain ⟨r11, h_r11, hF0⟩ := bind_some hF0
 refine L (iA r11) rfl rfl (op_bin rfl (bin_rem h_r11)) <| L (bA (r11 != 0)) rfl rfl rfl <| nl <| cd (r11 != 0) rfl (fun hc1 => ?_) (fun hc1 => ?_)
 · replace hF0 := ite_t hF0 (bne_t hc1)
   refine rg <| L (iA n) rfl rfl rfl <| L (iA (w64 (n + 1))) rfl rfl rfl <| L (iA (w64 (n + 1))) rfl rfl rfl <| nl <| sq <| rg <| L (iA (w64 (n + 1))) rfl rfl rfl <| L (iA (w64 (n + 1))) rfl rfl rfl <| nl <| rt ?_
   obtain rfl := Option.some.inj hF0
   exact rd_leaf (.inr rfl) rfl (retV_pl _ _ (iA (w64 (n + 1)))) rfl rfl
 · replace hF0 := ite_f hF0 (bne_f hc1)
   refine sk <| sq <| rg <| L (iA n) rfl rfl rfl <| L (iA n) rfl rfl rfl <| nl <| rt ?_
   obtain rfl := Option.some.inj hF0
   exact rd_leaf (.inr rfl) rfl (retV_pl _ _ (iA n)) rfl rfl

theorem ok_limit_Lines (l : (Sl api_Limit)) (v_ : api_Verdict) {r : ((Sl api_Header) × Int)} (hF0 : limit_Lines l v_ = some r) (out : List AE.Frame) (glob : List AObj) : RdOk Tryd.prog pol true 8 [(Sl.av 5 c_api_Limit l), (.agg (c_api_Verdict v_))] out glob (.tup [(Sl.av 2 c_api_Header r.1), (iA r.2)]) := by
 unfold limit_Lines at hF0
 refine rd_walk Tryd.func8 rfl (Nat.not_lt.2 (Nat.le_of_ble_eq_true rfl)) ?_
 intro ro
 refine sq <| rg <| L (.ptr (.fr 0 3) 1 0) (h' := ⟨upd _ 3 ⟨1, .cells (c_api_Verdict v_)⟩, _, _⟩) rfl rfl (op_box (x' := (.agg (c_api_Verdict v_))) rfl rfl rfl rfl) <| L (Sl.av 2 c_api_Header Sl.nil) rfl rfl rfl <| L (iA 0) rfl rfl rfl <| nl <| sq <| sq <| rg <| L (Sl.av 5 c_api_Limit l) rfl rfl rfl ?_
 obtain ⟨e, h1, hF0⟩ := bind_some hF0
 refine WO_rd (g := 16) (args := [(Sl.av 5 c_api_Limit l)]) (r := (iA e)) _ _ rfl rfl rfl rfl rfl rfl rfl (ok_limit_CheckLimits _ h1 _ _ ) <| L (iA e) rfl rfl rfl <| nl <| sq <| rg <| L (iA e) rfl rfl rfl <| L (bA (e != 0)) rfl rfl rfl <| nl <| cd (e != 0) rfl (fun hc64 => ?_) (fun hc64 => ?_)
 · replace hF0 := ite_t hF0 (bne_t hc64)
   refine sq <| rg <| L (iA e) rfl rfl rfl <| L (Sl.av 2 c_api_Header Sl.nil) rfl rfl rfl <| L (iA e) rfl rfl rfl <| nl <| rt ?_
   obtain rfl := Option.some.inj hF0
   exact rd_leaf (.inr rfl) rfl (ret_tup2 (retV_pl _ _ (Sl.av 2 c_api_Header Sl.nil)) (retV_pl _ _ (iA e))) rfl rfl
 · replace hF0 := ite_f hF0 (bne_f hc64)
   refine sk <| sq <| rg <| L (Sl.av 5 c_api_Limit l) rfl rfl rfl <| L (.fn (.func 18) [] [(.ptr (.fr 0 3) 1 0)]) rfl rfl rfl ?_
   obtain ⟨there, h2, hF0⟩ := bind_some hF0
   refine WO_rd (g := 17) (args := [(Sl.av 5 c_api_Limit l), (.fn (.func 18) [] [(.ptr (.fr 0 3) 1 0)])]) (r := (bA there)) _ _ rfl rfl rfl rfl rfl rfl rfl (ok_slices_ContainsFunc_api_Limit_api_Limit__limit_Lines_1 _ _ h2 _ _ _ _ (inn_here _) ((con2_inn _ _ _ _ _).trans (con_fr rfl))) <| L (bA there) rfl rfl rfl <| nl <| sq <| bk <| sq <| rg <| L (.ptr (.fr 0 3) 1 0) rfl rfl rfl <| L (bA v_.Ok) rfl rfl (op_load rfl (ld_con (bA v_.Ok) rfl rfl (cs := (c_api_Verdict v_)) (con_fr rfl) rfl)) ?_
   obtain ⟨J3, hJ3⟩ : ∃ J : St → Prop, ∀ st, J st ↔ (∃ (tm4 : Nat → AV) (cb4 : AE.Frame), st = ⟨tm4, ⟨cb4, out, glob⟩⟩ ∧ AllEq tm4 [(0, (Sl.av 5 c_api_Limit l)), (3, (.ptr (.fr 0 3) 1 0)), (7, (bA there)), (28, (bA (v_.Ok && (!(eq_api_Verdict v_ (api_Verdict.mk true [] 0))))))] ∧ AllEq cb4 [(3, ⟨1, .cells (c_api_Verdict v_)⟩)]) := ⟨_, fun _ => Iff.rfl⟩
   refine WO_cut 5 J3 (fun st hst => ?_) ?_
   · obtain ⟨tm4, cb4, rfl, hT4, hC4⟩ := (hJ3 st).1 hst
     obtain ⟨tm4, rfl⟩ := allEq hT4
     obtain ⟨cb4, rfl⟩ := allEq hC4
     refine L (bA (v_.Ok && (!(eq_api_Verdict v_ (api_Verdict.mk true [] 0))))) rfl rfl rfl <| nl <| cd (v_.Ok && (!(eq_api_Verdict v_ (api_Verdict.mk true [] 0)))) rfl (fun hc63 => ?_) (fun hc63 => ?_)
     · replace hF0 := ite_t hF0 (hc63)
       refine sq <| rg <| L (Sl.av 2 c_api_Header Sl.nil) rfl rfl rfl <| L (iA 3) rfl rfl rfl <| nl <| rt ?_
       obtain rfl := Option.some.inj hF0
       exact rd_leaf (.inr rfl) rfl (ret_tup2 (retV_pl _ _ (Sl.av 2 c_api_Header Sl.nil)) (retV_pl _ _ (iA 3))) rfl rfl
     · replace hF0 := ite_f hF0 (not_t hc63)
       refine sq <| rg <| L (.ptr (.fr 0 3) 1 0) rfl rfl rfl <| L (bA v_.Ok) rfl rfl (op_load rfl (ld_con (bA v_.Ok) rfl rfl (cs := (c_api_Verdict v_)) (con_fr rfl) rfl)) <| L (bA (!v_.Ok)) rfl rfl rfl ?_
       obtain ⟨J5, hJ5⟩ : ∃ J : St → Prop, ∀ st, J st ↔ (∃ (tm6 : Nat → AV) (cb6 : AE.Frame), st = ⟨tm6, ⟨cb6, out, glob⟩⟩ ∧ AllEq tm6 [(0, (Sl.av 5 c_api_Limit l)), (3, (.ptr (.fr 0 3) 1 0)), (36, (bA ((!v_.Ok) && (!there))))] ∧ AllEq cb6 [(3, ⟨1, .cells (c_api_Verdict v_)⟩)]) := ⟨_, fun _ => Iff.rfl⟩
       refine WO_cut 4 J5 (fun st hst => ?_) ?_
       · obtain ⟨tm6, cb6, rfl, hT6, hC6⟩ := (hJ5 st).1 hst
         obtain ⟨tm6, rfl⟩ := allEq hT6
         obtain ⟨cb6, rfl⟩ := allEq hC6
         refine L (bA ((!v_.Ok) && (!there))) rfl rfl rfl <| nl <| cd ((!v_.Ok) && (!there)) rfl (fun hc62 => ?_) (fun hc62 => ?_)
         · replace hF0 := ite_t hF0 (hc62)
           refine sq <| rg <| L (Sl.av 2 c_api_Header Sl.nil) rfl rfl rfl <| L (iA 8) rfl rfl rfl <| nl <| rt ?_
           obtain rfl := Option.some.inj hF0
           exact rd_leaf (.inr rfl) rfl (ret_tup2 (retV_pl _ _ (Sl.av 2 c_api_Header Sl.nil)) (retV_pl _ _ (iA 8))) rfl rfl
         · replace hF0 := ite_f hF0 (not_t hc62)
           refine sq <| rg <| L (.ptr (.fr 0 3) 1 2) rfl rfl rfl <| L (iA v_.Wait) rfl rfl (op_load rfl (ld_con (iA v_.Wait) rfl rfl (cs := (c_api_Verdict v_)) (con_fr rfl) rfl)) ?_
           obtain ⟨r37, h7, hF0⟩ := bind_some hF0
           refine WO_rd (g := 19) (args := [(iA v_.Wait), (iA (-1)), (iA 345686400000)]) (r := (bA r37)) _ _ rfl rfl rfl rfl rfl rfl rfl (ok_kit_Outside _ _ _ h7 _ _ ) <| L (bA r37) rfl rfl rfl <| nl <| cd r37 rfl (fun hc61 => ?_) (fun hc61 => ?_)
           · replace hF0 := ite_t hF0 (hc61)
             refine sq <| rg <| L (Sl.av 2 c_api_Header Sl.nil) rfl rfl rfl <| L (iA 1) rfl rfl rfl <| nl <| rt ?_
             obtain rfl := Option.some.inj hF0
             exact rd_leaf (.inr rfl) rfl (ret_tup2 (retV_pl _ _ (Sl.av 2 c_api_Header Sl.nil)) (retV_pl _ _ (iA 1))) rfl rfl
           · replace hF0 := ite_f hF0 (not_t hc61)
             refine sk <| sq <| rg <| L (Sl.av 2 c_api_Header Sl.nil) rfl rfl rfl <| nl <| sq <| sq <| rg <| L (Sl.av 5 c_api_Limit l) rfl rfl rfl <| L (iA (l.list.length : Int)) rfl rfl (op_len rfl rfl rfl rfl rfl (len_sl _)) <| L (iA 0) rfl rfl rfl <| nl <| bk ?_
             obtain ⟨b1, hb32, hF0⟩ := bind_some hF0
             obtain ⟨hn32, hb32⟩ := ite_none hb32
             obtain ⟨J32, hJ32⟩ : ∃ J : St → Prop, ∀ st, J st ↔ (∃ (out_6 : (Sl api_Header)) (o50086 : AObj) (tm34 : Nat → AV) (cb34 : AE.Frame), st = ⟨tm34, ⟨cb34, out, glob⟩⟩ ∧ AllEq tm34 [(3, (.ptr (.fr 0 3) 1 0)), (8, (Sl.lav (.fr 0 5008) o50086.ver out_6))] ∧ AllEq cb34 [(3, ⟨1, .cells (c_api_Verdict v_)⟩), (5008, o50086)] ∧ LzF 2 c_api_Header o50086 out_6 ∧ out_6 = b1) := ⟨_, fun _ => Iff.rfl⟩
             obtain ⟨R32, hR32⟩ : ∃ R : Nat → ((Sl api_Header)) → St → Prop, ∀ i v st, R i v st ↔ (match v with | out_5 => ∃ (o50085 : AObj) (tm33 : Nat → AV) (cb33 : AE.Frame), st = ⟨tm33, ⟨cb33, out, glob⟩⟩ ∧ AllEq tm33 [(3, (.ptr (.fr 0 3) 1 0)), (8, (Sl.lav (.fr 0 5008) o50085.ver out_5)), (41, (Sl.av 5 c_api_Limit l)), (42, (iA (l.list.length : Int))), (43, (iA ((i : Nat) : Int)))] ∧ AllEq cb33 [(3, ⟨1, .cells (c_api_Verdict v_)⟩), (5008, o50085)] ∧ LzF 2 c_api_Header o50085 out_5) := ⟨_, fun _ _ _ => Iff.rfl⟩
             refine W_loopcut J32 (fun st hst => ?_) ?_
             · obtain ⟨out_6, o50086, tm34, cb34, rfl, hT34, hC34, hz34_0, rfl⟩ := (hJ32 st).1 hst
               obtain ⟨tm34, rfl⟩ := allEq hT34
               obtain ⟨cb34, rfl⟩ := allEq hC34
               refine sq <| sq <| rg <| L (.ptr (.fr 0 3) 1 0) rfl rfl rfl <| L (bA v_.Ok) rfl rfl (op_load rfl (ld_con (bA v_.Ok) rfl rfl (cs := (c_api_Verdict v_)) (con_fr rfl) rfl)) <| L (bA (!v_.Ok)) rfl rfl rfl <| nl ?_
               obtain ⟨y51, hF1, hF0⟩ := bind_some hF0
               obtain ⟨J51, hJ51⟩ : ∃ J : St → Prop, ∀ st, J st ↔ (∃ (out_9 : (Sl api_Header)) (o50089 : AObj) (tm50 : Nat → AV) (cb50 : AE.Frame), st = ⟨tm50, ⟨cb50, out, glob⟩⟩ ∧ AllEq tm50 [(8, (Sl.lav (.fr 0 5008) o50089.ver out_9))] ∧ AllEq cb50 [(5008, o50089)] ∧ LzF 2 c_api_Header o50089 out_9 ∧ out_9 = y51) := ⟨_, fun _ => Iff.rfl⟩
               refine W_cut J51 (fun st hst => ?_) ?_
               · obtain ⟨out_9, o50089, tm50, cb50, rfl, hT50, hC50, hz50_0, rfl⟩ := (hJ51 st).1 hst
                 obtain ⟨tm50, rfl⟩ := allEq hT50
                 obtain ⟨cb50, rfl⟩ := allEq hC50
                 refine sq <| sq <| rg <| L (Sl.lav (.fr 0 5008) o50089.ver out_9) rfl rfl rfl <| L (iA (out_9.list.length : Int)) rfl rfl (op_len rfl rfl rfl rfl rfl (lz_len _ _ _)) <| L (bA (decide ((out_9.list.length : Int) > 50))) rfl rfl rfl <| nl <| cd (decide ((out_9.list.length : Int) > 50)) rfl (fun hc60 => ?_) (fun hc60 => ?_)
                 · replace hF0 := ite_t hF0 (dec_t hc60)
                   refine sq <| rg <| L (Sl.av 2 c_api_Header Sl.nil) rfl rfl rfl <| L (iA 2) rfl rfl rfl <| nl <| rt ?_
                   obtain rfl := Option.some.inj hF0
                   exact rd_leaf (.inr rfl) rfl (ret_tup2 (retV_pl _ _ (Sl.av 2 c_api_Header Sl.nil)) (retV_pl _ _ (iA 2))) rfl rfl
                 · replace hF0 := ite_f hF0 (dec_f hc60)
                   refine sk <| sq <| rg <| L (Sl.lav (.fr 0 5008) o50089.ver out_9) rfl rfl rfl <| L (Sl.lav (.fr 0 5008) o50089.ver out_9) rfl rfl rfl <| L (iA 0) rfl rfl rfl <| nl <| rt ?_
                   obtain rfl := Option.some.inj hF0
                   exact rd_leaf (.inr rfl) rfl (ret_tup2 (ret_lz rfl hz50_0) (retV_pl _ _ (iA 0))) rfl rfl
               · refine cd (!v_.Ok) rfl (fun hc59 => ?_) (fun hc59 => ?_)
                 · replace hF1 := ite_t hF1 (hc59)
                   refine sq <| rg <| L (sA [110, 101, 118, 101, 114]) rfl rfl rfl <| nl <| sq <| sq <| rg <| L (.ptr (.fr 0 3) 1 2) rfl rfl rfl <| L (iA v_.Wait) rfl rfl (op_load rfl (ld_con (iA v_.Wait) rfl rfl (cs := (c_api_Verdict v_)) (con_fr rfl) rfl)) <| L (bA (v_.Wait != (-1))) rfl rfl rfl <| nl ?_
                   obtain ⟨y55, hF2, hF1⟩ := bind_some hF1
                   obtain ⟨J55, hJ55⟩ : ∃ J : St → Prop, ∀ st, J st ↔ (∃ (wait4 : Str) (tm54 : Nat → AV) (cb54 : AE.Frame), st = ⟨tm54, ⟨cb54, out, glob⟩⟩ ∧ AllEq tm54 [(3, (.ptr (.fr 0 3) 1 0)), (8, (Sl.lav (.fr 0 5008) o50086.ver out_6)), (12, (sA wait4))] ∧ AllEq cb54 [(3, ⟨1, .cells (c_api_Verdict v_)⟩), (5008, o50086)] ∧ LzF 2 c_api_Header o50086 out_6 ∧ wait4 = y55) := ⟨_, fun _ => Iff.rfl⟩
                   refine W_cut J55 (fun st hst => ?_) ?_
                   · obtain ⟨wait4, tm54, cb54, rfl, hT54, hC54, hz54_0, rfl⟩ := (hJ55 st).1 hst
                     obtain ⟨tm54, rfl⟩ := allEq hT54
                     obtain ⟨cb54, rfl⟩ := allEq hC54
                     refine rg <| L (Sl.lav (.fr 0 5008) o50086.ver out_6) rfl rfl rfl <| L (sA wait4) rfl rfl rfl <| L (.agg (c_api_Header (api_Header.mk [114, 101, 116, 114, 121, 45, 97, 102, 116, 101, 114] wait4))) rfl rfl (op_build rfl (build_st (cs := (c_api_Header (api_Header.mk [114, 101, 116, 114, 121, 45, 97, 102, 116, 101, 114] wait4))) rfl rfl rfl (fill_cons (x := (sA [114, 101, 116, 114, 121, 45, 97, 102, 116, 101, 114])) rfl rfl (Nat.le_of_ble_eq_true rfl) (fill_cons (x := (sA wait4)) rfl rfl (Nat.le_of_ble_eq_true rfl) (fill_nil))))) <| L (.ptr (.fr 0 3) 1 1) rfl rfl rfl <| L (sA v_.By) rfl rfl (op_load rfl (ld_con (sA v_.By) rfl rfl (cs := (c_api_Verdict v_)) (con_fr rfl) rfl)) <| L (.agg (c_api_Header (api_Header.mk [120, 45, 108, 105, 109, 105, 116, 101, 100, 45, 98, 121] v_.By))) rfl rfl (op_build rfl (build_st (cs := (c_api_Header (api_Header.mk [120, 45, 108, 105, 109, 105, 116, 101, 100, 45, 98, 121] v_.By))) rfl rfl rfl (fill_cons (x := (sA [120, 45, 108, 105, 109, 105, 116, 101, 100, 45, 98, 121])) rfl rfl (Nat.le_of_ble_eq_true rfl) (fill_cons (x := (sA v_.By)) rfl rfl (Nat.le_of_ble_eq_true rfl) (fill_nil))))) <| L (Sl.av 2 c_api_Header (Sl.full [(api_Header.mk [114, 101, 116, 114, 121, 45, 97, 102, 116, 101, 114] wait4), (api_Header.mk [120, 45, 108, 105, 109, 105, 116, 101, 100, 45, 98, 121] v_.By)] : Sl api_Header)) rfl rfl (op_sliceN rfl rfl rfl) ?_
                     obtain ⟨out_10, h_out_10, hF1⟩ := bind_some hF1
                     refine WO_lzapp (s := 5008) (x := out_6) (x' := out_10) (o := o50086) (n := 2) (c := c_api_Header) (xs := [(api_Header.mk [114, 101, 116, 114, 121, 45, 97, 102, 116, 101, 114] wait4), (api_Header.mk [120, 45, 108, 105, 109, 105, 116, 101, 100, 45, 98, 121] v_.By)]) (y := (Sl.av 2 c_api_Header (Sl.full [(api_Header.mk [114, 101, 116, 114, 121, 45, 97, 102, 116, 101, 114] wait4), (api_Header.mk [120, 45, 108, 105, 109, 105, 116, 101, 100, 45, 98, 121] v_.By)] : Sl api_Header))) _ rfl rfl rfl rfl rfl rfl rfl rfl rfl rfl rfl rfl (z := (c_api_Header (api_Header.mk [] []))) rfl rfl rfl rfl rfl (by decide) (fun _ => rfl) rfl rfl rfl hz54_0 h_out_10 (fun o500810 hz_58 => ?_)
                     exact L (Sl.lav (.fr 0 5008) o500810.ver out_10) rfl rfl rfl <| nl <| (hJ51 _).2 ⟨out_10, o500810, _, _, rfl, (And.intro rfl True.intro), (And.intro rfl True.intro), hz_58, Option.some.inj hF1⟩
                   · refine cd (v_.Wait != (-1)) rfl (fun hc57 => ?_) (fun hc57 => ?_)
                     · replace hF2 := ite_t hF2 (bne_t hc57)
                       refine rg <| L (.ptr (.fr 0 3) 1 2) rfl rfl rfl <| L (iA v_.Wait) rfl rfl (op_load rfl (ld_con (iA v_.Wait) rfl rfl (cs := (c_api_Verdict v_)) (con_fr rfl) rfl)) ?_
                       obtain ⟨r833, h56, hF2⟩ := bind_some hF2
                       refine WO_rd (g := 22) (args := [(iA v_.Wait), (iA 1000)]) (r := (iA r833)) _ _ rfl rfl rfl rfl rfl rfl rfl (ok_limit_up _ _ h56 _ _ ) ?_
                       obtain ⟨wait5, h_wait5, hF2⟩ := bind_some hF2
                       exact L (sA wait5) rfl rfl (op_lib _ rfl rfl rfl (x_itoa_eq h_wait5)) <| L (sA wait5) rfl rfl rfl <| nl <| (hJ55 _).2 ⟨wait5, _, _, rfl, (And.intro rfl (And.intro rfl (And.intro rfl True.intro))), (And.intro rfl (And.intro rfl True.intro)), hz34_0, Option.some.inj hF2⟩
                     · replace hF2 := ite_f hF2 (bne_f hc57)
                       exact sk <| (hJ55 _).2 ⟨[110, 101, 118, 101, 114], _, _, rfl, (And.intro rfl (And.intro rfl (And.intro rfl True.intro))), (And.intro rfl (And.intro rfl True.intro)), hz34_0, Option.some.inj hF2⟩
                 · replace hF1 := ite_f hF1 (not_t hc59)
                   exact sk <| (hJ51 _).2 ⟨out_6, o50086, _, _, rfl, (And.intro rfl True.intro), (And.intro rfl True.intro), hz34_0, Option.some.inj hF1⟩
             · refine W_rangeL hb32 R32 ((hR32 _ _ _).2 ⟨(cb6 5008), _, _, rfl, (And.intro rfl (And.intro rfl (And.intro rfl (And.intro rfl (And.intro rfl True.intro))))), (And.intro rfl (And.intro rfl True.intro)), True.intro⟩) ?_ ?_
               · intro i hi32 v st s hr hF1 hD1
                 obtain ⟨out_5, hv_⟩ : ∃ z, z = v := ⟨_, rfl⟩; subst hv_
                 obtain ⟨o50085, tm33, cb33, rfl, hT33, hC33, hz33_0⟩ := (hR32 _ _ _).1 hr
                 obtain ⟨tm33, rfl⟩ := allEq hT33
                 obtain ⟨cb33, rfl⟩ := allEq hC33
                 obtain ⟨x6, hx32⟩ : ∃ x, x = l.list[i] := ⟨_, rfl⟩
                 rw [← hx32] at hF1
                 dsimp only [limit_Lines_l0] at hF1
                 refine sq (rg ?_)
                 refine WO_do (y := (bA (decide (((i : Nat) : Int) < (l.list.length : Int))))) _ rfl rfl rfl (nl ?_)
                 refine sq <| cd true (congrArg some (range_lt hi32)) (fun _ => ?_) (fun h => absurd h (by decide))
                 refine sk <| sq <| bk <| sq <| rg <| L (.cptr (c_api_Limit x6)) rfl rfl (op_ix rfl ((ix_at (c := c_api_Limit) rfl rfl hi32).trans (congrArg (fun x => some (AV.cptr (c_api_Limit x))) hx32.symm))) <| L (.agg (c_api_Limit x6)) rfl rfl rfl <| L (.ptr (.fr 0 10) ((cb33 10).ver + 1) 0) (h' := ⟨upd _ 10 ⟨(cb33 10).ver + 1, .cells (c_api_Limit (api_Limit.mk [] 0 0 0 0))⟩, _, _⟩) rfl rfl (op_alloc (c_api_Limit (api_Limit.mk [] 0 0 0 0)) rfl rfl rfl rfl) <| L (.tup []) (h' := ⟨upd _ 10 ⟨(cb33 10).ver + 1, .cells (c_api_Limit x6)⟩, _, _⟩) rfl rfl (op_store rfl rfl (st_fr (x := (.agg (c_api_Limit x6))) (c_api_Limit x6) rfl rfl (Nat.le_of_ble_eq_true rfl) rfl)) <| nl <| sq <| dw (by kernel_rfl) ?_
                 obtain ⟨r473, h36, hF1⟩ := bind_some hF1
                 refine WO_rd (g := 20) (args := []) (r := (Sl.av 1 c_str r473)) _ _ rfl rfl rfl rfl rfl rfl rfl (ok_limit_kindWords  h36 _ _ ) <| L (.ptr (.fr 0 10) ((cb33 10).ver + 1) 1) rfl rfl rfl <| L (iA x6.Kind) rfl rfl (op_load rfl (ld_con (iA x6.Kind) rfl rfl (cs := (c_api_Limit x6)) (con_fr rfl) rfl)) ?_
                 obtain ⟨x7, h_x7, hF1⟩ := bind_some hF1
                 refine L (.cptr [(sA x7)]) rfl rfl (op_ix rfl (ix_sl (c := c_str) rfl rfl h_x7)) <| L (sA x7) rfl rfl rfl ?_
                 obtain ⟨r523, h_r523, hF1⟩ := bind_some hF1
                 refine L (sA r523) rfl rfl (op_bin rfl (bin_sadd h_r523)) <| L (.ptr (.fr 0 10) ((cb33 10).ver + 1) 2) rfl rfl rfl <| L (iA x6.Most) rfl rfl (op_load rfl (ld_con (iA x6.Most) rfl rfl (cs := (c_api_Limit x6)) (con_fr rfl) rfl)) ?_
                 obtain ⟨r553, h_r553, hF1⟩ := bind_some hF1
                 refine L (sA r553) rfl rfl (op_lib _ rfl rfl rfl (x_itoa_eq h_r553)) ?_
                 obtain ⟨s_12, h_s_12, hF1⟩ := bind_some hF1
                 refine L (sA s_12) rfl rfl (op_bin rfl (bin_sadd h_s_12)) <| L (sA s_12) rfl rfl rfl <| nl <| sq <| sq <| rg <| L (.ptr (.fr 0 10) ((cb33 10).ver + 1) 3) rfl rfl rfl <| L (iA x6.Per) rfl rfl (op_load rfl (ld_con (iA x6.Per) rfl rfl (cs := (c_api_Limit x6)) (con_fr rfl) rfl)) <| L (bA (x6.Per != 0)) rfl rfl rfl <| nl ?_
                 obtain ⟨y39, hF2, hF1⟩ := bind_some hF1
                 obtain ⟨J39, hJ39⟩ : ∃ J : St → Prop, ∀ st, J st ↔ (∃ (s_14 : Str) (tm38 : Nat → AV) (cb38 : AE.Frame), st = ⟨tm38, ⟨cb38, out, glob⟩⟩ ∧ AllEq tm38 [(3, (.ptr (.fr 0 3) 1 0)), (8, (Sl.lav (.fr 0 5008) o50085.ver out_5)), (10, (.ptr (.fr 0 10) ((cb33 10).ver + 1) 0)), (11, (sA s_14)), (41, (Sl.av 5 c_api_Limit l)), (42, (iA (l.list.length : Int))), (43, (iA ((i : Nat) : Int)))] ∧ AllEq cb38 [(3, ⟨1, .cells (c_api_Verdict v_)⟩), (10, ⟨(cb33 10).ver + 1, .cells (c_api_Limit x6)⟩), (5008, o50085)] ∧ LzF 2 c_api_Header o50085 out_5 ∧ s_14 = y39) := ⟨_, fun _ => Iff.rfl⟩
                 refine W_cut J39 (fun st hst => ?_) ?_
                 · obtain ⟨s_14, tm38, cb38, rfl, hT38, hC38, hz38_0, rfl⟩ := (hJ39 st).1 hst
                   obtain ⟨tm38, rfl⟩ := allEq hT38
                   obtain ⟨cb38, rfl⟩ := allEq hC38
                   refine rg <| L (Sl.lav (.fr 0 5008) o50085.ver out_5) rfl rfl rfl <| L (.ptr (.fr 0 10) ((cb33 10).ver + 1) 0) rfl rfl rfl <| L (sA x6.Key) rfl rfl (op_load rfl (ld_con (sA x6.Key) rfl rfl (cs := (c_api_Limit x6)) (con_fr rfl) rfl)) ?_
                   obtain ⟨r693, h_r693, hF1⟩ := bind_some hF1
                   refine L (sA r693) rfl rfl (op_bin rfl (bin_sadd h_r693)) <| L (sA s_14) rfl rfl rfl <| L (.agg (c_api_Header (api_Header.mk r693 s_14))) rfl rfl (op_build rfl (build_st (cs := (c_api_Header (api_Header.mk r693 s_14))) rfl rfl rfl (fill_cons (x := (sA r693)) rfl rfl (Nat.le_of_ble_eq_true rfl) (fill_cons (x := (sA s_14)) rfl rfl (Nat.le_of_ble_eq_true rfl) (fill_nil))))) <| L (Sl.av 2 c_api_Header (Sl.full [(api_Header.mk r693 s_14)] : Sl api_Header)) rfl rfl (op_sliceN rfl rfl rfl) ?_
                   obtain ⟨out_7, h_out_7, hF1⟩ := bind_some hF1
                   refine WO_lzapp (s := 5008) (x := out_5) (x' := out_7) (o := o50085) (n := 2) (c := c_api_Header) (xs := [(api_Header.mk r693 s_14)]) (y := (Sl.av 2 c_api_Header (Sl.full [(api_Header.mk r693 s_14)] : Sl api_Header))) _ rfl rfl rfl rfl rfl rfl rfl rfl rfl rfl rfl rfl (z := (c_api_Header (api_Header.mk [] []))) rfl rfl rfl rfl rfl (by decide) (fun _ => rfl) rfl rfl rfl hz38_0 h_out_7 (fun o50087 hz_41 => ?_)
                   exact L (Sl.lav (.fr 0 5008) o50087.ver out_7) rfl rfl rfl <| nl <| rg <| WO_do (y := (iA ((i + 1 : Nat) : Int))) _ rfl rfl (congrArg (fun n => some (AV.int .i64 n, _)) (range_len hi32 hn32)) <| WO_do (y := (iA ((i + 1 : Nat) : Int))) _ rfl rfl rfl <| nl <| Exists.intro _ (And.intro (Option.some.inj hF1).symm ((hR32 _ _ _).2 ⟨o50087, _, _, rfl, (And.intro rfl (And.intro rfl (And.intro rfl (And.intro rfl (And.intro rfl True.intro))))), (And.intro rfl (And.intro rfl True.intro)), hz_41⟩))
                 · refine cd (x6.Per != 0) rfl (fun hc40 => ?_) (fun hc40 => ?_)
                   · replace hF2 := ite_t hF2 (bne_t hc40)
                     refine rg <| L (sA s_12) rfl rfl rfl <| L (.ptr (.fr 0 10) ((cb33 10).ver + 1) 3) rfl rfl rfl <| L (iA x6.Per) rfl rfl (op_load rfl (ld_con (iA x6.Per) rfl rfl (cs := (c_api_Limit x6)) (con_fr rfl) rfl)) ?_
                     obtain ⟨r637, h_r637, hF2⟩ := bind_some hF2
                     refine L (sA r637) rfl rfl (op_lib _ rfl rfl rfl (x_itoa_eq h_r637)) ?_
                     obtain ⟨r647, h_r647, hF2⟩ := bind_some hF2
                     refine L (sA r647) rfl rfl (op_bin rfl (bin_sadd h_r647)) ?_
                     obtain ⟨s_15, h_s_15, hF2⟩ := bind_some hF2
                     exact L (sA s_15) rfl rfl (op_bin rfl (bin_sadd h_s_15)) <| L (sA s_15) rfl rfl rfl <| nl <| (hJ39 _).2 ⟨s_15, _, _, rfl, (And.intro rfl (And.intro rfl (And.intro rfl (And.intro rfl (And.intro rfl (And.intro rfl (And.intro rfl True.intro))))))), (And.intro rfl (And.intro rfl (And.intro rfl True.intro))), hz33_0, Option.some.inj hF2⟩
                   · replace hF2 := ite_f hF2 (bne_f hc40)
                     exact sk <| (hJ39 _).2 ⟨s_12, _, _, rfl, (And.intro rfl (And.intro rfl (And.intro rfl (And.intro rfl (And.intro rfl (And.intro rfl (And.intro rfl True.intro))))))), (And.intro rfl (And.intro rfl (And.intro rfl True.intro))), hz33_0, Option.some.inj hF2⟩
               · intro v st hr hD1
                 obtain ⟨out_5, hv_⟩ : ∃ z, z = v := ⟨_, rfl⟩; subst hv_
                 obtain ⟨o50085, tm33, cb33, rfl, hT33, hC33, hz33_0⟩ := (hR32 _ _ _).1 hr
                 obtain ⟨tm33, rfl⟩ := allEq hT33
                 obtain ⟨cb33, rfl⟩ := allEq hC33
                 refine sq (rg ?_)
                 refine WO_do (y := .bool false) _ rfl rfl (congrArg (fun b => some (AV.bool b, _)) (range_ge _)) (nl ?_)
                 refine sq <| cd false rfl (fun h => absurd h (by decide)) (fun _ => ?_)
                 exact xt <| (hJ32 _).2 ⟨out_5, o50085, _, _, rfl, (And.intro rfl (And.intro rfl True.intro)), (And.intro rfl (And.intro rfl True.intro)), hz33_0, hD1⟩
       · rcases bool_cases (!v_.Ok) with hc5 | hc5
         · exact L (.bool true) rfl rfl (congrArg (fun b => some (AV.bool b, _)) hc5) <| L (bA there) rfl rfl rfl <| L (bA (!there)) rfl rfl rfl <| L (bA ((!v_.Ok) && (!there))) rfl rfl (congrArg (fun b => some (AV.bool b, _)) (by rw [hc5]; rfl)) <| nl ((hJ5 _).2 ⟨_, _, rfl, (And.intro rfl (And.intro rfl (And.intro rfl True.intro))), (And.intro rfl True.intro)⟩)
         · exact L (.bool false) rfl rfl (congrArg (fun b => some (AV.bool b, _)) hc5) <| WO_no _ rfl rfl <| WO_no _ rfl rfl <| L (bA ((!v_.Ok) && (!there))) rfl rfl (congrArg (fun b => some (AV.bool b, _)) (by rw [hc5]; rfl)) <| nl ((hJ5 _).2 ⟨_, _, rfl, (And.intro rfl (And.intro rfl (And.intro rfl True.intro))), (And.intro rfl True.intro)⟩)
   · rcases bool_cases v_.Ok with hc3 | hc3
     · exact L (.bool true) rfl rfl (congrArg (fun b => some (AV.bool b, _)) hc3) <| L (.agg (c_api_Verdict v_)) rfl rfl (op_load rfl (ld_con (.agg (c_api_Verdict v_)) rfl rfl (cs := (c_api_Verdict v_)) (con_fr rfl) rfl)) <| L (.agg (c_api_Verdict (api_Verdict.mk true [] 0))) rfl rfl (op_build rfl (build_st (cs := (c_api_Verdict (api_Verdict.mk true [] 0))) rfl rfl rfl (fill_cons (x := (bA true)) rfl rfl (Nat.le_of_ble_eq_true rfl) (fill_nil)))) <| L (bA (!(eq_api_Verdict v_ (api_Verdict.mk true [] 0)))) rfl rfl (op_bin rfl (bin_agne (b := eq_api_Verdict v_ (api_Verdict.mk true [] 0)) (by kernel_rfl) (by kernel_rfl))) <| L (bA (v_.Ok && (!(eq_api_Verdict v_ (api_Verdict.mk true [] 0))))) rfl rfl (congrArg (fun b => some (AV.bool b, _)) (by rw [hc3]; rfl)) <| nl ((hJ3 _).2 ⟨_, _, rfl, (And.intro rfl (And.intro rfl (And.intro rfl (And.intro rfl True.intro)))), (And.intro rfl True.intro)⟩)
     · exact L (.bool false) rfl rfl (congrArg (fun b => some (AV.bool b, _)) hc3) <| WO_no _ rfl rfl <| WO_no _ rfl rfl <| WO_no _ rfl rfl <| L (bA (v_.Ok && (!(eq_api_Verdict v_ (api_Verdict.mk true [] 0))))) rfl rfl (congrArg (fun b => some (AV.bool b, _)) (by rw [hc3]; rfl)) <| nl ((hJ3 _).2 ⟨_, _, rfl, (And.intro rfl (And.intro rfl (And.intro rfl (And.intro rfl True.intro)))), (And.intro rfl True.intro)⟩)

theorem ok_gateref2_in (n : Int) (low : Int) (high : Int) {r : (Bool)} (hF0 : gateref2_in n low high = some r) (out : List AE.Frame) (glob : List AObj) : RdOk Tryd.prog pol true 34 [(iA n), (iA low), (iA high)] out glob (bA r) := by
 unfold gateref2_in at hF0
 refine rd_walk Tryd.func34 rfl (Nat.not_lt.2 (Nat.le_of_ble_eq_true rfl)) ?_
 intro ro
 refine sq <| rg <| L (bA false) rfl rfl rfl <| nl <| sq <| rg <| L (iA low) rfl rfl rfl <| L (iA n) rfl rfl rfl <| L (bA (decide (low ≤ n))) rfl rfl rfl ?_
 obtain ⟨J1, hJ1⟩ : ∃ J : St → Prop, ∀ st, J st ↔ (∃ (tm2 : Nat → AV) (cb2 : AE.Frame), st = ⟨tm2, ⟨cb2, out, glob⟩⟩ ∧ AllEq tm2 [(14, (bA ((decide (low ≤ n)) && (decide (n ≤ high)))))] ∧ AllEq cb2 []) := ⟨_, fun _ => Iff.rfl⟩
 refine WO_cut 5 J1 (fun st hst => ?_) ?_
 · obtain ⟨tm2, cb2, rfl, hT2, hC2⟩ := (hJ1 st).1 hst
   obtain ⟨tm2, rfl⟩ := allEq hT2
   obtain ⟨cb2, rfl⟩ := allEq hC2
   refine L (bA ((decide (low ≤ n)) && (decide (n ≤ high)))) rfl rfl rfl <| nl <| rt ?_
   obtain rfl := Option.some.inj hF0
   exact rd_leaf (.inr rfl) rfl (retV_pl _ _ (bA ((decide (low ≤ n)) && (decide (n ≤ high))))) rfl rfl
 · rcases bool_cases (decide (low ≤ n)) with hc1 | hc1
   · exact L (.bool true) rfl rfl (congrArg (fun b => some (AV.bool b, _)) hc1) <| L (iA n) rfl rfl rfl <| L (iA high) rfl rfl rfl <| L (bA (decide (n ≤ high))) rfl rfl rfl <| L (bA ((decide (low ≤ n)) && (decide (n ≤ high)))) rfl rfl (congrArg (fun b => some (AV.bool b, _)) (by rw [hc1]; rfl)) <| nl ((hJ1 _).2 ⟨_, _, rfl, (And.intro rfl True.intro), True.intro⟩)
   · exact L (.bool false) rfl rfl (congrArg (fun b => some (AV.bool b, _)) hc1) <| WO_no _ rfl rfl <| WO_no _ rfl rfl <| WO_no _ rfl rfl <| L (bA ((decide (low ≤ n)) && (decide (n ≤ high)))) rfl rfl (congrArg (fun b => some (AV.bool b, _)) (by rw [hc1]; rfl)) <| nl ((hJ1 _).2 ⟨_, _, rfl, (And.intro rfl True.intro), True.intro⟩)

theorem ok_stringslite_IndexByte (s_ : Str) (c : Int) {r : (Int)} (hF0 : stringslite_IndexByte s_ c = some r) (out : List AE.Frame) (glob : List AObj) : RdOk Tryd.prog pol true 51 [(sA s_), (.int .u8 c)] out glob (iA r) := by
 unfold stringslite_IndexByte at hF0
 refine rd_walk Tryd.func51 rfl (Nat.not_lt.2 (Nat.le_of_ble_eq_true rfl)) ?_
 intro ro
 refine sq <| rg <| L (iA 0) rfl rfl rfl <| nl <| sq <| rg <| L (sA s_) rfl rfl rfl <| L (.int .u8 c) rfl rfl rfl <| L (iA (Go.Lib.indexByte s_ c.toNat.toUInt8)) rfl rfl rfl <| L (iA (Go.Lib.indexByte s_ c.toNat.toUInt8)) rfl rfl rfl <| nl <| rt ?_
 obtain rfl := Option.some.inj hF0
 exact rd_leaf (.inr rfl) rfl (retV_pl _ _ (iA (Go.Lib.indexByte s_ c.toNat.toUInt8))) rfl rfl

theorem ok_strings_IndexByte (s_ : Str) (c : Int) {r : (Int)} (hF0 : strings_IndexByte s_ c = some r) (out : List AE.Frame) (glob : List AObj) : RdOk Tryd.prog pol true 41 [(sA s_), (.int .u8 c)] out glob (iA r) := by
 unfold strings_IndexByte at hF0
 refine rd_walk Tryd.func41 rfl (Nat.not_lt.2 (Nat.le_of_ble_eq_true rfl)) ?_
 intro ro
 refine sq <| rg <| L (iA 0) rfl rfl rfl <| nl <| sq <| rg <| L (sA s_) rfl rfl rfl <| L (.int .u8 c) rfl rfl rfl ?_
 obtain ⟨r4, h1, hF0⟩ := bind_some hF0
 refine WO_rd (g := 51) (args := [(sA s_), (.int .u8 c)]) (r := (iA r4)) _ _ rfl rfl rfl rfl rfl rfl rfl (ok_stringslite_IndexByte _ _ h1 _ _ ) <| L (iA r4) rfl rfl rfl <| nl <| rt ?_
 obtain rfl := Option.some.inj hF0
 exact rd_leaf (.inr rfl) rfl (retV_pl _ _ (iA r4)) rfl rfl

theorem ok_gateref2_only (s_ : Str) (some_ : Str) {r : (Bool)} (hF0 : gateref2_only s_ some_ = some r) (out : List AE.Frame) (glob : List AObj) : RdOk Tryd.prog pol true 35 [(sA s_), (sA some_)] out glob (bA r) := by
 unfold gateref2_only at hF0
 refine rd_walk Tryd.func35 rfl (Nat.not_lt.2 (Nat.le_of_ble_eq_true rfl)) ?_
 intro ro
 refine sq <| rg <| L (bA false) rfl rfl rfl <| nl <| sq <| sq <| rg <| L (sA s_) rfl rfl rfl <| L (iA (s_.length : Int)) rfl rfl rfl <| L (iA 0) rfl rfl rfl <| nl <| bk ?_
 obtain ⟨b1, hb5, hF0⟩ := bind_some hF0
 obtain ⟨hn5, hb5⟩ := ite_none hb5
 obtain ⟨J5, hJ5⟩ : ∃ J : St → Prop, ∀ st, J st ↔ (∃ (tm7 : Nat → AV) (cb7 : AE.Frame), st = ⟨tm7, ⟨cb7, out, glob⟩⟩ ∧ AllEq tm7 [] ∧ AllEq cb7 [] ∧ Res.out () = b1) := ⟨_, fun _ => Iff.rfl⟩
 obtain ⟨R5, hR5⟩ : ∃ R : Nat → (Unit) → St → Prop, ∀ i v st, R i v st ↔ (match v with | () => ∃ (tm6 : Nat → AV) (cb6 : AE.Frame), st = ⟨tm6, ⟨cb6, out, glob⟩⟩ ∧ AllEq tm6 [(0, (sA s_)), (1, (sA some_)), (7, (iA (s_.length : Int))), (8, (iA ((i : Nat) : Int)))] ∧ AllEq cb6 []) := ⟨_, fun _ _ _ => Iff.rfl⟩
 refine W_loopcut J5 (fun st hst => ?_) ?_
 · obtain ⟨tm7, cb7, rfl, hT7, hC7, rfl⟩ := (hJ5 st).1 hst
   obtain ⟨tm7, rfl⟩ := allEq hT7
   obtain ⟨cb7, rfl⟩ := allEq hC7
   replace hF0 := res_out hF0
   refine sq <| rg <| L (bA true) rfl rfl rfl <| nl <| rt ?_
   obtain rfl := Option.some.inj hF0
   exact rd_leaf (.inr rfl) rfl (retV_pl _ _ (bA true)) rfl rfl
 · refine W_rangeL hb5 R5 ((hR5 _ _ _).2 ⟨_, _, rfl, (And.intro rfl (And.intro rfl (And.intro rfl (And.intro rfl True.intro)))), True.intro⟩) ?_ ?_
   · intro i hi5 v st s hr hF1 hD1
     obtain ⟨⟩ := v
     obtain ⟨tm6, cb6, rfl, hT6, hC6⟩ := (hR5 _ _ _).1 hr
     obtain ⟨tm6, rfl⟩ := allEq hT6
     obtain ⟨cb6, rfl⟩ := allEq hC6
     dsimp only [gateref2_only_l0] at hF1
     refine sq (rg ?_)
     refine WO_do (y := (bA (decide (((i : Nat) : Int) < (s_.length : Int))))) _ rfl rfl rfl (nl ?_)
     refine sq <| cd true (congrArg some (rangeN_lt hi5)) (fun _ => ?_) (fun h => absurd h (by decide))
     refine sk <| sq <| bk <| sq <| rg <| L (iA ((i : Nat) : Int)) rfl rfl rfl <| L (iA ((i : Nat) : Int)) rfl rfl rfl <| nl <| sq <| rg <| L (sA some_) rfl rfl rfl <| L (sA s_) rfl rfl rfl <| L (iA ((i : Nat) : Int)) rfl rfl rfl ?_
     obtain ⟨r141, h_r141, hF1⟩ := bind_some hF1
     refine L (.int .u8 r141) rfl rfl (op_index rfl (ix_str rfl h_r141)) ?_
     obtain ⟨r151, h9, hF1⟩ := bind_some hF1
     refine WO_rd (g := 41) (args := [(sA some_), (.int .u8 r141)]) (r := (iA r151)) _ _ rfl rfl rfl rfl rfl rfl rfl (ok_strings_IndexByte _ _ h9 _ _ ) <| L (bA (decide (r151 < 0))) rfl rfl rfl <| nl <| cd (decide (r151 < 0)) rfl (fun hc10 => ?_) (fun hc10 => ?_)
     · replace hF1 := ite_t hF1 (dec_t hc10)
       refine sq <| rg <| L (bA false) rfl rfl rfl <| nl <| rt ?_
       obtain rfl := hD1 _ (Option.some.inj hF1).symm
       replace hF0 := res_ret hF0
       obtain rfl := Option.some.inj hF0
       exact rd_leaf (.inr rfl) rfl (retV_pl _ _ (bA false)) rfl rfl
     · replace hF1 := ite_f hF1 (dec_f hc10)
       exact sk <| rg <| WO_do (y := (iA ((i + 1 : Nat) : Int))) _ rfl rfl (congrArg (fun n => some (AV.int .i64 n, _)) (rangeN_len hi5 hn5)) <| WO_do (y := (iA ((i + 1 : Nat) : Int))) _ rfl rfl rfl <| nl <| Exists.intro _ (And.intro (Option.some.inj hF1).symm ((hR5 _ _ _).2 ⟨_, _, rfl, (And.intro rfl (And.intro rfl (And.intro rfl (And.intro rfl True.intro)))), True.intro⟩))
   · intro v st hr hD1
     obtain ⟨⟩ := v
     obtain ⟨tm6, cb6, rfl, hT6, hC6⟩ := (hR5 _ _ _).1 hr
     obtain ⟨tm6, rfl⟩ := allEq hT6
     obtain ⟨cb6, rfl⟩ := allEq hC6
     refine sq (rg ?_)
     refine WO_do (y := .bool false) _ rfl rfl (congrArg (fun b => some (AV.bool b, _)) (rangeN_ge _)) (nl ?_)
     refine sq <| cd false rfl (fun h => absurd h (by decide)) (fun _ => ?_)
     exact xt <| (hJ5 _).2 ⟨_, _, rfl, True.intro, True.intro, hD1⟩

theorem ok_gateref2_Key (s_ : Str) {r : (Bool)} (hF0 : gateref2_Key s_ = some r) (out : List AE.Frame) (glob : List AObj) : RdOk Tryd.prog pol true 23 [(sA s_)] out glob (bA r) := by
 unfold gateref2_Key at hF0
 refine rd_walk Tryd.func23 rfl (Nat.not_lt.2 (Nat.le_of_ble_eq_true rfl)) ?_
 intro ro
 refine sq <| rg <| L (bA false) rfl rfl rfl <| nl <| sq <| rg <| L (sA s_) rfl rfl rfl <| L (iA (s_.length : Int)) rfl rfl rfl ?_
 obtain ⟨r5, h1, hF0⟩ := bind_some hF0
 refine WO_rd (g := 34) (args := [(iA (s_.length : Int)), (iA 1), (iA 40)]) (r := (bA r5)) _ _ rfl rfl rfl rfl rfl rfl rfl (ok_gateref2_in _ _ _ h1 _ _ ) ?_
 obtain ⟨y3, hF1, hF0⟩ := bind_some hF0
 obtain ⟨J3, hJ3⟩ : ∃ J : St → Prop, ∀ st, J st ↔ (∃ (t10 : Bool) (tm4 : Nat → AV) (cb4 : AE.Frame), st = ⟨tm4, ⟨cb4, out, glob⟩⟩ ∧ AllEq tm4 [(0, (sA s_)), (10, (bA t10))] ∧ AllEq cb4 [] ∧ t10 = y3) := ⟨_, fun _ => Iff.rfl⟩
 refine WO_cut 5 J3 (fun st hst => ?_) ?_
 · obtain ⟨t10, tm4, cb4, rfl, hT4, hC4, rfl⟩ := (hJ3 st).1 hst
   obtain ⟨tm4, rfl⟩ := allEq hT4
   obtain ⟨cb4, rfl⟩ := allEq hC4
   obtain ⟨y6, hF1, hF0⟩ := bind_some hF0
   obtain ⟨J6, hJ6⟩ : ∃ J : St → Prop, ∀ st, J st ↔ (∃ (t14 : Bool) (tm7 : Nat → AV) (cb7 : AE.Frame), st = ⟨tm7, ⟨cb7, out, glob⟩⟩ ∧ AllEq tm7 [(14, (bA t14))] ∧ AllEq cb7 [] ∧ t14 = y6) := ⟨_, fun _ => Iff.rfl⟩
   refine WO_cut 4 J6 (fun st hst => ?_) ?_
   · obtain ⟨t14, tm7, cb7, rfl, hT7, hC7, rfl⟩ := (hJ6 st).1 hst
     obtain ⟨tm7, rfl⟩ := allEq hT7
     obtain ⟨cb7, rfl⟩ := allEq hC7
     refine L (bA t14) rfl rfl rfl <| nl <| rt ?_
     obtain rfl := Option.some.inj hF0
     exact rd_leaf (.inr rfl) rfl (retV_pl _ _ (bA t14)) rfl rfl
   · rcases bool_cases t10 with hc6 | hc6
     · replace hF1 := ite_t hF1 (hc6)
       refine L (.bool true) rfl rfl (congrArg (fun b => some (AV.bool b, _)) hc6) <| L (sA s_) rfl rfl rfl ?_
       obtain ⟨r131, h8, hF1⟩ := bind_some hF1
       exact WO_rd (g := 35) (args := [(sA s_), (sA [97, 98, 99, 100, 101, 102, 103, 104, 105, 106, 107, 108, 109, 110, 111, 112, 113, 114, 115, 116, 117, 118, 119, 120, 121, 122, 48, 49, 50, 51, 52, 53, 54, 55, 56, 57, 45, 95])]) (r := (bA r131)) _ _ rfl rfl rfl rfl rfl rfl rfl (ok_gateref2_only _ _ h8 _ _ ) <| L (bA r131) rfl rfl rfl <| nl ((hJ6 _).2 ⟨r131, _, _, rfl, (And.intro rfl True.intro), True.intro, Option.some.inj hF1⟩)
     · replace hF1 := ite_f hF1 (not_t hc6)
       exact L (.bool false) rfl rfl (congrArg (fun b => some (AV.bool b, _)) hc6) <| WO_no _ rfl rfl <| WO_no _ rfl rfl <| L (bA false) rfl rfl rfl <| nl ((hJ6 _).2 ⟨false, _, _, rfl, (And.intro rfl True.intro), True.intro, Option.some.inj hF1⟩)
 · rcases bool_cases r5 with hc3 | hc3
   · replace hF1 := ite_t hF1 (hc3)
     refine L (.bool true) rfl rfl (congrArg (fun b => some (AV.bool b, _)) hc3) <| L (sA s_) rfl rfl rfl ?_
     obtain ⟨r81, h_r81, hF1⟩ := bind_some hF1
     refine L (sA r81) rfl rfl (op_slice rfl (sl_str (a := 0) (b := 1) rfl rfl rfl h_r81)) ?_
     obtain ⟨r91, h9, hF1⟩ := bind_some hF1
     exact WO_rd (g := 35) (args := [(sA r81), (sA [97, 98, 99, 100, 101, 102, 103, 104, 105, 106, 107, 108, 109, 110, 111, 112, 113, 114, 115, 116, 117, 118, 119, 120, 121, 122])]) (r := (bA r91)) _ _ rfl rfl rfl rfl rfl rfl rfl (ok_gateref2_only _ _ h9 _ _ ) <| L (bA r91) rfl rfl rfl <| nl ((hJ3 _).2 ⟨r91, _, _, rfl, (And.intro rfl (And.intro rfl True.intro)), True.intro, Option.some.inj hF1⟩)
   · replace hF1 := ite_f hF1 (not_t hc3)
     exact L (.bool false) rfl rfl (congrArg (fun b => some (AV.bool b, _)) hc3) <| WO_no _ rfl rfl <| WO_no _ rfl rfl <| WO_no _ rfl rfl <| L (bA false) rfl rfl rfl <| nl ((hJ3 _).2 ⟨false, _, _, rfl, (And.intro rfl (And.intro rfl True.intro)), True.intro, Option.some.inj hF1⟩)

theorem ok_gateref1_in (n : Int) (low : Int) (high : Int) {r : (Bool)} (hF0 : gateref1_in n low high = some r) (out : List AE.Frame) (glob : List AObj) : RdOk Tryd.prog pol true 28 [(iA n), (iA low), (iA high)] out glob (bA r) := by
 unfold gateref1_in at hF0
 refine rd_walk Tryd.func28 rfl (Nat.not_lt.2 (Nat.le_of_ble_eq_true rfl)) ?_
 intro ro
 refine sq <| rg <| L (bA false) rfl rfl rfl <| nl <| sq <| rg <| L (iA low) rfl rfl rfl <| L (iA n) rfl rfl rfl <| L (bA (decide (low ≤ n))) rfl rfl rfl ?_
 obtain ⟨J1, hJ1⟩ : ∃ J : St → Prop, ∀ st, J st ↔ (∃ (tm2 : Nat → AV) (cb2 : AE.Frame), st = ⟨tm2, ⟨cb2, out, glob⟩⟩ ∧ AllEq tm2 [(14, (bA ((decide (low ≤ n)) && (decide (n ≤ high)))))] ∧ AllEq cb2 []) := ⟨_, fun _ => Iff.rfl⟩
 refine WO_cut 5 J1 (fun st hst => ?_) ?_
 · obtain ⟨tm2, cb2, rfl, hT2, hC2⟩ := (hJ1 st).1 hst
   obtain ⟨tm2, rfl⟩ := allEq hT2
   obtain ⟨cb2, rfl⟩ := allEq hC2
   refine L (bA ((decide (low ≤ n)) && (decide (n ≤ high)))) rfl rfl rfl <| nl <| rt ?_
   obtain rfl := Option.some.inj hF0
   exact rd_leaf (.inr rfl) rfl (retV_pl _ _ (bA ((decide (low ≤ n)) && (decide (n ≤ high))))) rfl rfl
 · rcases bool_cases (decide (low ≤ n)) with hc1 | hc1
   · exact L (.bool true) rfl rfl (congrArg (fun b => some (AV.bool b, _)) hc1) <| L (iA n) rfl rfl rfl <| L (iA high) rfl rfl rfl <| L (bA (decide (n ≤ high))) rfl rfl rfl <| L (bA ((decide (low ≤ n)) && (decide (n ≤ high)))) rfl rfl (congrArg (fun b => some (AV.bool b, _)) (by rw [hc1]; rfl)) <| nl ((hJ1 _).2 ⟨_, _, rfl, (And.intro rfl True.intro), True.intro⟩)
   · exact L (.bool false) rfl rfl (congrArg (fun b => some (AV.bool b, _)) hc1) <| WO_no _ rfl rfl <| WO_no _ rfl rfl <| WO_no _ rfl rfl <| L (bA ((decide (low ≤ n)) && (decide (n ≤ high)))) rfl rfl (congrArg (fun b => some (AV.bool b, _)) (by rw [hc1]; rfl)) <| nl ((hJ1 _).2 ⟨_, _, rfl, (And.intro rfl True.intro), True.intro⟩)

theorem ok_gateref1_LimitFault (l : api_Limit) {r : (Int)} (hF0 : gateref1_LimitFault l = some r) (out : List AE.Frame) (glob : List AObj) : RdOk Tryd.prog pol true 24 [(.agg (c_api_Limit l))] out glob (iA r) := by
 unfold gateref1_LimitFault at hF0
 refine rd_walk Tryd.func24 rfl (Nat.not_lt.2 (Nat.le_of_ble_eq_true rfl)) ?_
 intro ro
 refine sq <| rg <| L (.ptr (.fr 0 1) 1 0) (h' := ⟨upd _ 1 ⟨1, .cells (c_api_Limit l)⟩, _, _⟩) rfl rfl (op_box (x' := (.agg (c_api_Limit l))) rfl rfl rfl rfl) <| L (iA 0) rfl rfl rfl <| nl <| sq <| dw (by kernel_rfl) <| L (.ptr (.fr 0 1) 1 1) rfl rfl rfl <| L (iA l.Kind) rfl rfl (op_load rfl (ld_con (iA l.Kind) rfl rfl (cs := (c_api_Limit l)) (con_fr rfl) rfl)) <| L (bA (l.Kind == 4)) rfl rfl rfl <| L (.ptr (.fr 0 1) 1 1) rfl rfl rfl <| L (iA l.Kind) rfl rfl (op_load rfl (ld_con (iA l.Kind) rfl rfl (cs := (c_api_Limit l)) (con_fr rfl) rfl)) <| L (bA (l.Kind == 3)) rfl rfl rfl <| L (bA (l.Kind == 4)) rfl rfl rfl <| L (bA (l.Kind == 3)) rfl rfl rfl <| nl <| sq <| bk <| sq <| rg <| L (.ptr (.fr 0 1) 1 0) rfl rfl rfl <| L (sA l.Key) rfl rfl (op_load rfl (ld_con (sA l.Key) rfl rfl (cs := (c_api_Limit l)) (con_fr rfl) rfl)) ?_
 obtain ⟨r14, h1, hF0⟩ := bind_some hF0
 refine WO_rd (g := 23) (args := [(sA l.Key)]) (r := (bA r14)) _ _ rfl rfl rfl rfl rfl rfl rfl (ok_gateref2_Key _ h1 _ _ ) <| L (bA (!r14)) rfl rfl rfl <| L (bA (!r14)) rfl rfl rfl <| nl <| cd (!r14) rfl (fun hc32 => ?_) (fun hc32 => ?_)
 · replace hF0 := ite_t hF0 (hc32)
   refine sq <| rg <| L (iA 5) rfl rfl rfl <| nl <| rt ?_
   obtain rfl := Option.some.inj hF0
   exact rd_leaf (.inr rfl) rfl (retV_pl _ _ (iA 5)) rfl rfl
 · replace hF0 := ite_f hF0 (not_t hc32)
   refine sq <| rg <| L (.ptr (.fr 0 1) 1 1) rfl rfl rfl <| L (iA l.Kind) rfl rfl (op_load rfl (ld_con (iA l.Kind) rfl rfl (cs := (c_api_Limit l)) (con_fr rfl) rfl)) ?_
   obtain ⟨r19, h2, hF0⟩ := bind_some hF0
   refine WO_rd (g := 28) (args := [(iA l.Kind), (iA 1), (iA 4)]) (r := (bA r19)) _ _ rfl rfl rfl rfl rfl rfl rfl (ok_gateref1_in _ _ _ h2 _ _ ) <| L (bA (!r19)) rfl rfl rfl <| L (bA (!r19)) rfl rfl rfl <| nl <| cd (!r19) rfl (fun hc31 => ?_) (fun hc31 => ?_)
   · replace hF0 := ite_t hF0 (hc31)
     refine sq <| rg <| L (iA 4) rfl rfl rfl <| nl <| rt ?_
     obtain rfl := Option.some.inj hF0
     exact rd_leaf (.inr rfl) rfl (retV_pl _ _ (iA 4)) rfl rfl
   · replace hF0 := ite_f hF0 (not_t hc31)
     refine sq <| rg <| L (.ptr (.fr 0 1) 1 2) rfl rfl rfl <| L (iA l.Most) rfl rfl (op_load rfl (ld_con (iA l.Most) rfl rfl (cs := (c_api_Limit l)) (con_fr rfl) rfl)) ?_
     obtain ⟨r24, h3, hF0⟩ := bind_some hF0
     refine WO_rd (g := 28) (args := [(iA l.Most), (iA 1), (iA 1000000000)]) (r := (bA r24)) _ _ rfl rfl rfl rfl rfl rfl rfl (ok_gateref1_in _ _ _ h3 _ _ ) <| L (bA (!r24)) rfl rfl rfl <| L (bA (!r24)) rfl rfl rfl <| nl <| cd (!r24) rfl (fun hc30 => ?_) (fun hc30 => ?_)
     · replace hF0 := ite_t hF0 (hc30)
       refine sq <| rg <| L (iA 1) rfl rfl rfl <| nl <| rt ?_
       obtain rfl := Option.some.inj hF0
       exact rd_leaf (.inr rfl) rfl (retV_pl _ _ (iA 1)) rfl rfl
     · replace hF0 := ite_f hF0 (not_t hc30)
       refine sq <| rg <| L (bA (l.Kind == 4)) rfl rfl rfl ?_
       obtain ⟨J4, hJ4⟩ : ∃ J : St → Prop, ∀ st, J st ↔ (∃ (tm5 : Nat → AV) (cb5 : AE.Frame), st = ⟨tm5, ⟨cb5, out, glob⟩⟩ ∧ AllEq tm5 [(1, (.ptr (.fr 0 1) 1 0)), (3, (bA (l.Kind == 4))), (4, (bA (l.Kind == 3))), (32, (bA ((l.Kind == 4) && (l.Per != 0))))] ∧ AllEq cb5 [(1, ⟨1, .cells (c_api_Limit l)⟩)]) := ⟨_, fun _ => Iff.rfl⟩
       refine WO_cut 5 J4 (fun st hst => ?_) ?_
       · obtain ⟨tm5, cb5, rfl, hT5, hC5⟩ := (hJ4 st).1 hst
         obtain ⟨tm5, rfl⟩ := allEq hT5
         obtain ⟨cb5, rfl⟩ := allEq hC5
         obtain ⟨y10, hF1, hF0⟩ := bind_some hF0
         obtain ⟨J10, hJ10⟩ : ∃ J : St → Prop, ∀ st, J st ↔ (∃ (t42 : Bool) (tm11 : Nat → AV) (cb11 : AE.Frame), st = ⟨tm11, ⟨cb11, out, glob⟩⟩ ∧ AllEq tm11 [(1, (.ptr (.fr 0 1) 1 0)), (4, (bA (l.Kind == 3))), (42, (bA t42))] ∧ AllEq cb11 [(1, ⟨1, .cells (c_api_Limit l)⟩)] ∧ t42 = y10) := ⟨_, fun _ => Iff.rfl⟩
         refine WO_cut 10 J10 (fun st hst => ?_) ?_
         · obtain ⟨t42, tm11, cb11, rfl, hT11, hC11, rfl⟩ := (hJ10 st).1 hst
           obtain ⟨tm11, rfl⟩ := allEq hT11
           obtain ⟨cb11, rfl⟩ := allEq hC11
           refine L (bA t42) rfl rfl rfl <| nl <| cd t42 rfl (fun hc25 => ?_) (fun hc25 => ?_)
           · replace hF0 := ite_t hF0 (hc25)
             refine sq <| rg <| L (iA 1) rfl rfl rfl <| nl <| rt ?_
             obtain rfl := Option.some.inj hF0
             exact rd_leaf (.inr rfl) rfl (retV_pl _ _ (iA 1)) rfl rfl
           · replace hF0 := ite_f hF0 (not_t hc25)
             refine sq <| rg <| L (bA (l.Kind == 3)) rfl rfl rfl <| L (bA (!(l.Kind == 3))) rfl rfl rfl ?_
             obtain ⟨J12, hJ12⟩ : ∃ J : St → Prop, ∀ st, J st ↔ (∃ (tm13 : Nat → AV) (cb13 : AE.Frame), st = ⟨tm13, ⟨cb13, out, glob⟩⟩ ∧ AllEq tm13 [(1, (.ptr (.fr 0 1) 1 0)), (4, (bA (l.Kind == 3))), (50, (bA ((!(l.Kind == 3)) && (l.Burst != 0))))] ∧ AllEq cb13 [(1, ⟨1, .cells (c_api_Limit l)⟩)]) := ⟨_, fun _ => Iff.rfl⟩
             refine WO_cut 5 J12 (fun st hst => ?_) ?_
             · obtain ⟨tm13, cb13, rfl, hT13, hC13⟩ := (hJ12 st).1 hst
               obtain ⟨tm13, rfl⟩ := allEq hT13
               obtain ⟨cb13, rfl⟩ := allEq hC13
               obtain ⟨y18, hF1, hF0⟩ := bind_some hF0
               obtain ⟨J18, hJ18⟩ : ∃ J : St → Prop, ∀ st, J st ↔ (∃ (t59 : Bool) (tm19 : Nat → AV) (cb19 : AE.Frame), st = ⟨tm19, ⟨cb19, out, glob⟩⟩ ∧ AllEq tm19 [(59, (bA t59))] ∧ AllEq cb19 [] ∧ t59 = y18) := ⟨_, fun _ => Iff.rfl⟩
               refine WO_cut 9 J18 (fun st hst => ?_) ?_
               · obtain ⟨t59, tm19, cb19, rfl, hT19, hC19, rfl⟩ := (hJ18 st).1 hst
                 obtain ⟨tm19, rfl⟩ := allEq hT19
                 obtain ⟨cb19, rfl⟩ := allEq hC19
                 refine L (bA t59) rfl rfl rfl <| nl <| cd t59 rfl (fun hc20 => ?_) (fun hc20 => ?_)
                 · replace hF0 := ite_t hF0 (hc20)
                   refine sq <| rg <| L (iA 1) rfl rfl rfl <| nl <| rt ?_
                   obtain rfl := Option.some.inj hF0
                   exact rd_leaf (.inr rfl) rfl (retV_pl _ _ (iA 1)) rfl rfl
                 · replace hF0 := ite_f hF0 (not_t hc20)
                   refine sk <| sq <| rg <| L (iA 0) rfl rfl rfl <| nl <| rt ?_
                   obtain rfl := Option.some.inj hF0
                   exact rd_leaf (.inr rfl) rfl (retV_pl _ _ (iA 0)) rfl rfl
               · rcases bool_cases ((!(l.Kind == 3)) && (l.Burst != 0)) with hc18 | hc18
                 · replace hF1 := ite_t hF1 (hc18)
                   exact L (.bool true) rfl rfl (congrArg (fun b => some (AV.bool b, _)) hc18) <| WO_no _ rfl rfl <| WO_no _ rfl rfl <| WO_no _ rfl rfl <| WO_no _ rfl rfl <| WO_no _ rfl rfl <| WO_no _ rfl rfl <| WO_no _ rfl rfl <| L (bA true) rfl rfl rfl <| nl ((hJ18 _).2 ⟨true, _, _, rfl, (And.intro rfl True.intro), True.intro, Option.some.inj hF1⟩)
                 · replace hF1 := ite_f hF1 (not_t hc18)
                   refine L (.bool false) rfl rfl (congrArg (fun b => some (AV.bool b, _)) hc18) <| L (bA (l.Kind == 3)) rfl rfl rfl ?_
                   obtain ⟨y22, hF2, hF1⟩ := bind_some hF1
                   obtain ⟨J22, hJ22⟩ : ∃ J : St → Prop, ∀ st, J st ↔ (∃ (t581 : Bool) (tm23 : Nat → AV) (cb23 : AE.Frame), st = ⟨tm23, ⟨cb23, out, glob⟩⟩ ∧ AllEq tm23 [(51, (bA false)), (58, (bA t581))] ∧ AllEq cb23 [] ∧ t581 = y22) := ⟨_, fun _ => Iff.rfl⟩
                   refine WO_cut 6 J22 (fun st hst => ?_) ?_
                   · obtain ⟨t581, tm23, cb23, rfl, hT23, hC23, rfl⟩ := (hJ22 st).1 hst
                     obtain ⟨tm23, rfl⟩ := allEq hT23
                     obtain ⟨cb23, rfl⟩ := allEq hC23
                     exact L (bA t581) rfl rfl rfl <| nl ((hJ18 _).2 ⟨t581, _, _, rfl, (And.intro rfl True.intro), True.intro, Option.some.inj hF1⟩)
                   · rcases bool_cases (l.Kind == 3) with hc22 | hc22
                     · replace hF2 := ite_t hF2 (beq_t hc22)
                       refine L (.bool true) rfl rfl (congrArg (fun b => some (AV.bool b, _)) hc22) <| L (.ptr (.fr 0 1) 1 4) rfl rfl rfl <| L (iA l.Burst) rfl rfl (op_load rfl (ld_con (iA l.Burst) rfl rfl (cs := (c_api_Limit l)) (con_fr rfl) rfl)) ?_
                       obtain ⟨r563, h24, hF2⟩ := bind_some hF2
                       exact WO_rd (g := 28) (args := [(iA l.Burst), (iA 1), (iA 1000000000)]) (r := (bA r563)) _ _ rfl rfl rfl rfl rfl rfl rfl (ok_gateref1_in _ _ _ h24 _ _ ) <| L (bA (!r563)) rfl rfl rfl <| L (bA (!r563)) rfl rfl rfl <| nl ((hJ22 _).2 ⟨!r563, _, _, rfl, (And.intro rfl (And.intro rfl True.intro)), True.intro, Option.some.inj hF2⟩)
                     · replace hF2 := ite_f hF2 (beq_f hc22)
                       exact L (.bool false) rfl rfl (congrArg (fun b => some (AV.bool b, _)) hc22) <| WO_no _ rfl rfl <| WO_no _ rfl rfl <| WO_no _ rfl rfl <| WO_no _ rfl rfl <| L (bA false) rfl rfl rfl <| nl ((hJ22 _).2 ⟨false, _, _, rfl, (And.intro rfl (And.intro rfl True.intro)), True.intro, Option.some.inj hF2⟩)
             · rcases bool_cases (!(l.Kind == 3)) with hc12 | hc12
               · exact L (.bool true) rfl rfl (congrArg (fun b => some (AV.bool b, _)) hc12) <| L (.ptr (.fr 0 1) 1 4) rfl rfl rfl <| L (iA l.Burst) rfl rfl (op_load rfl (ld_con (iA l.Burst) rfl rfl (cs := (c_api_Limit l)) (con_fr rfl) rfl)) <| L (bA (l.Burst != 0)) rfl rfl rfl <| L (bA ((!(l.Kind == 3)) && (l.Burst != 0))) rfl rfl (congrArg (fun b => some (AV.bool b, _)) (by rw [hc12]; rfl)) <| nl ((hJ12 _).2 ⟨_, _, rfl, (And.intro rfl (And.intro rfl (And.intro rfl True.intro))), (And.intro rfl True.intro)⟩)
               · exact L (.bool false) rfl rfl (congrArg (fun b => some (AV.bool b, _)) hc12) <| WO_no _ rfl rfl <| WO_no _ rfl rfl <| WO_no _ rfl rfl <| L (bA ((!(l.Kind == 3)) && (l.Burst != 0))) rfl rfl (congrArg (fun b => some (AV.bool b, _)) (by rw [hc12]; rfl)) <| nl ((hJ12 _).2 ⟨_, _, rfl, (And.intro rfl (And.intro rfl (And.intro rfl True.intro))), (And.intro rfl True.intro)⟩)
         · rcases bool_cases ((l.Kind == 4) && (l.Per != 0)) with hc10 | hc10
           · replace hF1 := ite_t hF1 (hc10)
             exact L (.bool true) rfl rfl (congrArg (fun b => some (AV.bool b, _)) hc10) <| WO_no _ rfl rfl <| WO_no _ rfl rfl <| WO_no _ rfl rfl <| WO_no _ rfl rfl <| WO_no _ rfl rfl <| WO_no _ rfl rfl <| WO_no _ rfl rfl <| WO_no _ rfl rfl <| L (bA true) rfl rfl rfl <| nl ((hJ10 _).2 ⟨true, _, _, rfl, (And.intro rfl (And.intro rfl (And.intro rfl True.intro))), (And.intro rfl True.intro), Option.some.inj hF1⟩)
           · replace hF1 := ite_f hF1 (not_t hc10)
             refine L (.bool false) rfl rfl (congrArg (fun b => some (AV.bool b, _)) hc10) <| L (bA (l.Kind == 4)) rfl rfl rfl <| L (bA (!(l.Kind == 4))) rfl rfl rfl ?_
             obtain ⟨y27, hF2, hF1⟩ := bind_some hF1
             obtain ⟨J27, hJ27⟩ : ∃ J : St → Prop, ∀ st, J st ↔ (∃ (t411 : Bool) (tm28 : Nat → AV) (cb28 : AE.Frame), st = ⟨tm28, ⟨cb28, out, glob⟩⟩ ∧ AllEq tm28 [(1, (.ptr (.fr 0 1) 1 0)), (4, (bA (l.Kind == 3))), (33, (bA false)), (41, (bA t411))] ∧ AllEq cb28 [(1, ⟨1, .cells (c_api_Limit l)⟩)] ∧ t411 = y27) := ⟨_, fun _ => Iff.rfl⟩
             refine WO_cut 6 J27 (fun st hst => ?_) ?_
             · obtain ⟨t411, tm28, cb28, rfl, hT28, hC28, rfl⟩ := (hJ27 st).1 hst
               obtain ⟨tm28, rfl⟩ := allEq hT28
               obtain ⟨cb28, rfl⟩ := allEq hC28
               exact L (bA t411) rfl rfl rfl <| nl ((hJ10 _).2 ⟨t411, _, _, rfl, (And.intro rfl (And.intro rfl (And.intro rfl True.intro))), (And.intro rfl True.intro), Option.some.inj hF1⟩)
             · rcases bool_cases (!(l.Kind == 4)) with hc27 | hc27
               · replace hF2 := ite_t hF2 (hc27)
                 refine L (.bool true) rfl rfl (congrArg (fun b => some (AV.bool b, _)) hc27) <| L (.ptr (.fr 0 1) 1 3) rfl rfl rfl <| L (iA l.Per) rfl rfl (op_load rfl (ld_con (iA l.Per) rfl rfl (cs := (c_api_Limit l)) (con_fr rfl) rfl)) ?_
                 obtain ⟨r393, h29, hF2⟩ := bind_some hF2
                 exact WO_rd (g := 28) (args := [(iA l.Per), (iA 1), (iA 8640000000)]) (r := (bA r393)) _ _ rfl rfl rfl rfl rfl rfl rfl (ok_gateref1_in _ _ _ h29 _ _ ) <| L (bA (!r393)) rfl rfl rfl <| L (bA (!r393)) rfl rfl rfl <| nl ((hJ27 _).2 ⟨!r393, _, _, rfl, (And.intro rfl (And.intro rfl (And.intro rfl (And.intro rfl True.intro)))), (And.intro rfl True.intro), Option.some.inj hF2⟩)
               · replace hF2 := ite_f hF2 (not_t hc27)
                 exact L (.bool false) rfl rfl (congrArg (fun b => some (AV.bool b, _)) hc27) <| WO_no _ rfl rfl <| WO_no _ rfl rfl <| WO_no _ rfl rfl <| WO_no _ rfl rfl <| L (bA false) rfl rfl rfl <| nl ((hJ27 _).2 ⟨false, _, _, rfl, (And.intro rfl (And.intro rfl (And.intro rfl (And.intro rfl True.intro)))), (And.intro rfl True.intro), Option.some.inj hF2⟩)
       · rcases bool_cases (l.Kind == 4) with hc4 | hc4
         · exact L (.bool true) rfl rfl (congrArg (fun b => some (AV.bool b, _)) hc4) <| L (.ptr (.fr 0 1) 1 3) rfl rfl rfl <| L (iA l.Per) rfl rfl (op_load rfl (ld_con (iA l.Per) rfl rfl (cs := (c_api_Limit l)) (con_fr rfl) rfl)) <| L (bA (l.Per != 0)) rfl rfl rfl <| L (bA ((l.Kind == 4) && (l.Per != 0))) rfl rfl (congrArg (fun b => some (AV.bool b, _)) (by rw [hc4]; rfl)) <| nl ((hJ4 _).2 ⟨_, _, rfl, (And.intro rfl (And.intro rfl (And.intro rfl (And.intro rfl True.intro)))), (And.intro rfl True.intro)⟩)
         · exact L (.bool false) rfl rfl (congrArg (fun b => some (AV.bool b, _)) hc4) <| WO_no _ rfl rfl <| WO_no _ rfl rfl <| WO_no _ rfl rfl <| L (bA ((l.Kind == 4) && (l.Per != 0))) rfl rfl (congrArg (fun b => some (AV.bool b, _)) (by rw [hc4]; rfl)) <| nl ((hJ4 _).2 ⟨_, _, rfl, (And.intro rfl (And.intro rfl (And.intro rfl (And.intro rfl True.intro)))), (And.intro rfl True.intro)⟩)

theorem ok_gateref1_LimitsFault (l : (Sl api_Limit)) {r : (Int)} (hF0 : gateref1_LimitsFault l = some r) (out : List AE.Frame) (glob : List AObj) : RdOk Tryd.prog pol true 9 [(Sl.av 5 c_api_Limit l)] out glob (iA r) := by
 unfold gateref1_LimitsFault at hF0
 refine rd_walk Tryd.func9 rfl (Nat.not_lt.2 (Nat.le_of_ble_eq_true rfl)) ?_
 intro ro
 refine sq <| rg <| L (iA 0) rfl rfl rfl <| nl <| sq <| sq <| rg <| L (Sl.av 5 c_api_Limit l) rfl rfl rfl <| L (iA (l.list.length : Int)) rfl rfl (op_len rfl rfl rfl rfl rfl (len_sl _)) <| L (bA (decide ((l.list.length : Int) > 20))) rfl rfl rfl <| nl <| cd (decide ((l.list.length : Int) > 20)) rfl (fun hc21 => ?_) (fun hc21 => ?_)
 · replace hF0 := ite_t hF0 (dec_t hc21)
   refine sq <| rg <| L (iA 2) rfl rfl rfl <| nl <| rt ?_
   obtain rfl := Option.some.inj hF0
   exact rd_leaf (.inr rfl) rfl (retV_pl _ _ (iA 2)) rfl rfl
 · replace hF0 := ite_f hF0 (dec_f hc21)
   refine sk <| sq <| sq <| rg <| L (Sl.av 5 c_api_Limit l) rfl rfl rfl <| L (iA (l.list.length : Int)) rfl rfl (op_len rfl rfl rfl rfl rfl (len_sl _)) <| L (iA 0) rfl rfl rfl <| nl <| bk ?_
   obtain ⟨b1, hb10, hF0⟩ := bind_some hF0
   obtain ⟨hn10, hb10⟩ := ite_none hb10
   obtain ⟨J10, hJ10⟩ : ∃ J : St → Prop, ∀ st, J st ↔ (∃ (tm12 : Nat → AV) (cb12 : AE.Frame), st = ⟨tm12, ⟨cb12, out, glob⟩⟩ ∧ AllEq tm12 [] ∧ AllEq cb12 [] ∧ Res.out () = b1) := ⟨_, fun _ => Iff.rfl⟩
   obtain ⟨R10, hR10⟩ : ∃ R : Nat → (Unit) → St → Prop, ∀ i v st, R i v st ↔ (match v with | () => ∃ (tm11 : Nat → AV) (cb11 : AE.Frame), st = ⟨tm11, ⟨cb11, out, glob⟩⟩ ∧ AllEq tm11 [(0, (Sl.av 5 c_api_Limit l)), (9, (Sl.av 5 c_api_Limit l)), (10, (iA (l.list.length : Int))), (11, (iA ((i : Nat) : Int)))] ∧ AllEq cb11 []) := ⟨_, fun _ _ _ => Iff.rfl⟩
   refine W_loopcut J10 (fun st hst => ?_) ?_
   · obtain ⟨tm12, cb12, rfl, hT12, hC12, rfl⟩ := (hJ10 st).1 hst
     obtain ⟨tm12, rfl⟩ := allEq hT12
     obtain ⟨cb12, rfl⟩ := allEq hC12
     replace hF0 := res_out hF0
     refine sq <| rg <| L (iA 0) rfl rfl rfl <| nl <| rt ?_
     obtain rfl := Option.some.inj hF0
     exact rd_leaf (.inr rfl) rfl (retV_pl _ _ (iA 0)) rfl rfl
   · refine W_rangeL hb10 R10 ((hR10 _ _ _).2 ⟨_, _, rfl, (And.intro rfl (And.intro rfl (And.intro rfl (And.intro rfl True.intro)))), True.intro⟩) ?_ ?_
     · intro i hi10 v st s hr hF1 hD1
       obtain ⟨⟩ := v
       obtain ⟨tm11, cb11, rfl, hT11, hC11⟩ := (hR10 _ _ _).1 hr
       obtain ⟨tm11, rfl⟩ := allEq hT11
       obtain ⟨cb11, rfl⟩ := allEq hC11
       obtain ⟨x3, hx10⟩ : ∃ x, x = l.list[i] := ⟨_, rfl⟩
       rw [← hx10] at hF1
       dsimp only [gateref1_LimitsFault_l0] at hF1
       refine sq (rg ?_)
       refine WO_do (y := (bA (decide (((i : Nat) : Int) < (l.list.length : Int))))) _ rfl rfl rfl (nl ?_)
       refine sq <| cd true (congrArg some (range_lt hi10)) (fun _ => ?_) (fun h => absurd h (by decide))
       refine sk <| sq <| bk <| sq <| rg <| L (iA ((i : Nat) : Int)) rfl rfl rfl <| L (.cptr (c_api_Limit x3)) rfl rfl (op_ix rfl ((ix_at (c := c_api_Limit) rfl rfl hi10).trans (congrArg (fun x => some (AV.cptr (c_api_Limit x))) hx10.symm))) <| L (.agg (c_api_Limit x3)) rfl rfl rfl <| L (.ptr (.fr 0 4) ((cb11 4).ver + 1) 0) (h' := ⟨upd _ 4 ⟨(cb11 4).ver + 1, .cells (c_api_Limit (api_Limit.mk [] 0 0 0 0))⟩, _, _⟩) rfl rfl (op_alloc (c_api_Limit (api_Limit.mk [] 0 0 0 0)) rfl rfl rfl rfl) <| L (iA ((i : Nat) : Int)) rfl rfl rfl <| L (.tup []) (h' := ⟨upd _ 4 ⟨(cb11 4).ver + 1, .cells (c_api_Limit x3)⟩, _, _⟩) rfl rfl (op_store rfl rfl (st_fr (x := (.agg (c_api_Limit x3))) (c_api_Limit x3) rfl rfl (Nat.le_of_ble_eq_true rfl) rfl)) <| nl <| sq <| sq <| rg <| L (.ptr (.fr 0 4) ((cb11 4).ver + 1) 0) rfl rfl rfl <| L (sA x3.Key) rfl rfl (op_load rfl (ld_con (sA x3.Key) rfl rfl (cs := (c_api_Limit x3)) (con_fr rfl) rfl)) ?_
       obtain ⟨r181, h14, hF1⟩ := bind_some hF1
       refine WO_rd (g := 23) (args := [(sA x3.Key)]) (r := (bA r181)) _ _ rfl rfl rfl rfl rfl rfl rfl (ok_gateref2_Key _ h14 _ _ ) <| L (bA (!r181)) rfl rfl rfl <| nl <| cd (!r181) rfl (fun hc20 => ?_) (fun hc20 => ?_)
       · replace hF1 := ite_t hF1 (hc20)
         refine sq <| rg <| L (iA 5) rfl rfl rfl <| nl <| rt ?_
         obtain rfl := hD1 _ (Option.some.inj hF1).symm
         replace hF0 := res_ret hF0
         obtain rfl := Option.some.inj hF0
         exact rd_leaf (.inr rfl) rfl (retV_pl _ _ (iA 5)) rfl rfl
       · replace hF1 := ite_f hF1 (not_t hc20)
         refine sk <| sq <| sq <| dw (by kernel_rfl) <| L (iA ((i : Nat) : Int)) rfl rfl rfl <| L (bA (decide (((i : Nat) : Int) > 0))) rfl rfl rfl ?_
         obtain ⟨y15, hF2, hF1⟩ := bind_some hF1
         obtain ⟨J15, hJ15⟩ : ∃ J : St → Prop, ∀ st, J st ↔ (∃ (t321 : Bool) (tm16 : Nat → AV) (cb16 : AE.Frame), st = ⟨tm16, ⟨cb16, out, glob⟩⟩ ∧ AllEq tm16 [(0, (Sl.av 5 c_api_Limit l)), (4, (.ptr (.fr 0 4) ((cb11 4).ver + 1) 0)), (9, (Sl.av 5 c_api_Limit l)), (10, (iA (l.list.length : Int))), (11, (iA ((i : Nat) : Int))), (32, (bA t321))] ∧ AllEq cb16 [(4, ⟨(cb11 4).ver + 1, .cells (c_api_Limit x3)⟩)] ∧ t321 = y15) := ⟨_, fun _ => Iff.rfl⟩
         refine WO_cut 11 J15 (fun st hst => ?_) ?_
         · obtain ⟨t321, tm16, cb16, rfl, hT16, hC16, rfl⟩ := (hJ15 st).1 hst
           obtain ⟨tm16, rfl⟩ := allEq hT16
           obtain ⟨cb16, rfl⟩ := allEq hC16
           refine nl <| cd t321 rfl (fun hc19 => ?_) (fun hc19 => ?_)
           · replace hF1 := ite_t hF1 (hc19)
             refine sq <| rg <| L (iA 7) rfl rfl rfl <| nl <| rt ?_
             obtain rfl := hD1 _ (Option.some.inj hF1).symm
             replace hF0 := res_ret hF0
             obtain rfl := Option.some.inj hF0
             exact rd_leaf (.inr rfl) rfl (retV_pl _ _ (iA 7)) rfl rfl
           · replace hF1 := ite_f hF1 (not_t hc19)
             refine sk <| sq <| rg <| L (.agg (c_api_Limit x3)) rfl rfl (op_load rfl (ld_con (.agg (c_api_Limit x3)) rfl rfl (cs := (c_api_Limit x3)) (con_fr rfl) rfl)) ?_
             obtain ⟨f1, h17, hF1⟩ := bind_some hF1
             refine WO_rd (g := 24) (args := [(.agg (c_api_Limit x3))]) (r := (iA f1)) _ _ rfl rfl rfl rfl rfl rfl rfl (ok_gateref1_LimitFault _ h17 _ _ ) <| L (iA f1) rfl rfl rfl <| nl <| sq <| rg <| L (iA f1) rfl rfl rfl <| L (bA (f1 != 0)) rfl rfl rfl <| nl <| cd (f1 != 0) rfl (fun hc18 => ?_) (fun hc18 => ?_)
             · replace hF1 := ite_t hF1 (bne_t hc18)
               refine sq <| rg <| L (iA f1) rfl rfl rfl <| L (iA f1) rfl rfl rfl <| nl <| rt ?_
               obtain rfl := hD1 _ (Option.some.inj hF1).symm
               replace hF0 := res_ret hF0
               obtain rfl := Option.some.inj hF0
               exact rd_leaf (.inr rfl) rfl (retV_pl _ _ (iA f1)) rfl rfl
             · replace hF1 := ite_f hF1 (bne_f hc18)
               exact sk <| rg <| WO_do (y := (iA ((i + 1 : Nat) : Int))) _ rfl rfl (congrArg (fun n => some (AV.int .i64 n, _)) (range_len hi10 hn10)) <| WO_do (y := (iA ((i + 1 : Nat) : Int))) _ rfl rfl rfl <| nl <| Exists.intro _ (And.intro (Option.some.inj hF1).symm ((hR10 _ _ _).2 ⟨_, _, rfl, (And.intro rfl (And.intro rfl (And.intro rfl (And.intro rfl True.intro)))), True.intro⟩))
         · rcases bool_cases (decide (((i : Nat) : Int) > 0)) with hc15 | hc15
           · replace hF2 := ite_t hF2 (dec_t hc15)
             refine L (.bool true) rfl rfl (congrArg (fun b => some (AV.bool b, _)) hc15) <| L (.ptr (.fr 0 4) ((cb11 4).ver + 1) 0) rfl rfl rfl <| L (sA x3.Key) rfl rfl (op_load rfl (ld_con (sA x3.Key) rfl rfl (cs := (c_api_Limit x3)) (con_fr rfl) rfl)) <| L (Sl.av 5 c_api_Limit l) rfl rfl rfl <| L (iA ((i : Nat) : Int)) rfl rfl rfl <| L (iA (w64 (((i : Nat) : Int) - 1))) rfl rfl rfl ?_
             obtain ⟨x5, h_x5, hF2⟩ := bind_some hF2
             exact L (.cptr (c_api_Limit x5)) rfl rfl (op_ix rfl (ix_sl (c := c_api_Limit) rfl rfl h_x5)) <| L (.cptr ((c_api_Limit x5).drop 0)) rfl rfl rfl <| L (sA x5.Key) rfl rfl rfl <| L (bA (sle x3.Key x5.Key)) rfl rfl (op_bin rfl bin_sle) <| L (bA (sle x3.Key x5.Key)) rfl rfl rfl <| nl ((hJ15 _).2 ⟨sle x3.Key x5.Key, _, _, rfl, (And.intro rfl (And.intro rfl (And.intro rfl (And.intro rfl (And.intro rfl (And.intro rfl True.intro)))))), (And.intro rfl True.intro), Option.some.inj hF2⟩)
           · replace hF2 := ite_f hF2 (dec_f hc15)
             exact L (.bool false) rfl rfl (congrArg (fun b => some (AV.bool b, _)) hc15) <| WO_no _ rfl rfl <| WO_no _ rfl rfl <| WO_no _ rfl rfl <| WO_no _ rfl rfl <| WO_no _ rfl rfl <| WO_no _ rfl rfl <| WO_no _ rfl rfl <| WO_no _ rfl rfl <| WO_no _ rfl rfl <| L (bA false) rfl rfl rfl <| nl ((hJ15 _).2 ⟨false, _, _, rfl, (And.intro rfl (And.intro rfl (And.intro rfl (And.intro rfl (And.intro rfl (And.intro rfl True.intro)))))), (And.intro rfl True.intro), Option.some.inj hF2⟩)
     · intro v st hr hD1
       obtain ⟨⟩ := v
       obtain ⟨tm11, cb11, rfl, hT11, hC11⟩ := (hR10 _ _ _).1 hr
       obtain ⟨tm11, rfl⟩ := allEq hT11
       obtain ⟨cb11, rfl⟩ := allEq hC11
       refine sq (rg ?_)
       refine WO_do (y := .bool false) _ rfl rfl (congrArg (fun b => some (AV.bool b, _)) (range_ge _)) (nl ?_)
       refine sq <| cd false rfl (fun h => absurd h (by decide)) (fun _ => ?_)
       exact xt <| (hJ10 _).2 ⟨_, _, rfl, True.intro, True.intro, hD1⟩

theorem ok_gateref1_KindWord (kind : Int) {r : (Str)} (hF0 : gateref1_KindWord kind = some r) (out : List AE.Frame) (glob : List AObj) : RdOk Tryd.prog pol true 27 [(iA kind)] out glob (sA r) := by
 unfold gateref1_KindWord at hF0
 refine rd_walk Tryd.func27 rfl (Nat.not_lt.2 (Nat.le_of_ble_eq_true rfl)) ?_
 intro ro
 refine sq <| rg <| L (sA []) rfl rfl rfl <| nl <| sq <| rg <| L (Sl.av 1 c_str (Sl.full [[], [119, 105, 110, 100, 111, 119], [115, 108, 105, 100, 105, 110, 103], [98, 117, 99, 107, 101, 116], [111, 110, 99, 101]] : Sl Str)) rfl rfl (op_sliceN rfl rfl rfl) <| L (iA kind) rfl rfl rfl ?_
 obtain ⟨x, h_x, hF0⟩ := bind_some hF0
 refine L (.cptr [(sA x)]) rfl rfl (op_ix rfl (ix_sl (c := c_str) rfl rfl h_x)) <| L (sA x) rfl rfl rfl <| L (sA x) rfl rfl rfl <| nl <| rt ?_
 obtain rfl := Option.some.inj hF0
 exact rd_leaf (.inr rfl) rfl (retV_pl _ _ (sA x)) rfl rfl

theorem ok_gateref1_LinesOf (l : (Sl api_Limit)) (v_ : api_Verdict) {r : ((Sl api_Header) × Int)} (hF0 : gateref1_LinesOf l v_ = some r) (out : List AE.Frame) (glob : List AObj) : RdOk Tryd.prog pol true 11 [(Sl.av 5 c_api_Limit l), (.agg (c_api_Verdict v_))] out glob (.tup [(Sl.av 2 c_api_Header r.1), (iA r.2)]) := by
 unfold gateref1_LinesOf at hF0
 refine rd_walk Tryd.func11 rfl (Nat.not_lt.2 (Nat.le_of_ble_eq_true rfl)) ?_
 intro ro
 refine sq <| rg <| L (.ptr (.fr 0 3) 1 0) (h' := ⟨upd _ 3 ⟨1, .cells (c_api_Verdict v_)⟩, _, _⟩) rfl rfl (op_box (x' := (.agg (c_api_Verdict v_))) rfl rfl rfl rfl) <| L (Sl.av 2 c_api_Header Sl.nil) rfl rfl rfl <| L (iA 0) rfl rfl rfl <| nl <| sq <| rg <| L (Sl.av 2 c_api_Header Sl.nil) rfl rfl rfl <| nl <| sq <| rg <| L (bA false) rfl rfl rfl <| nl <| sq <| sq <| rg <| L (Sl.av 5 c_api_Limit l) rfl rfl rfl <| L (iA (l.list.length : Int)) rfl rfl (op_len rfl rfl rfl rfl rfl (len_sl _)) <| L (iA 0) rfl rfl rfl <| nl <| bk ?_
 obtain ⟨b1, hb31, hF0⟩ := bind_some hF0
 obtain ⟨hn31, hb31⟩ := ite_none hb31
 obtain ⟨J31, hJ31⟩ : ∃ J : St → Prop, ∀ st, J st ↔ (∃ (out_6 : (Sl api_Header)) (has4 : Bool) (o50066 : AObj) (tm33 : Nat → AV) (cb33 : AE.Frame), st = ⟨tm33, ⟨cb33, out, glob⟩⟩ ∧ AllEq tm33 [(3, (.ptr (.fr 0 3) 1 0)), (6, (Sl.lav (.fr 0 5006) o50066.ver out_6)), (7, (bA has4))] ∧ AllEq cb33 [(3, ⟨1, .cells (c_api_Verdict v_)⟩), (5006, o50066)] ∧ LzF 2 c_api_Header o50066 out_6 ∧ (out_6, has4) = b1) := ⟨_, fun _ => Iff.rfl⟩
 obtain ⟨R31, hR31⟩ : ∃ R : Nat → ((Sl api_Header) × Bool) → St → Prop, ∀ i v st, R i v st ↔ (match v with | (out_5, has3) => ∃ (o50065 : AObj) (tm32 : Nat → AV) (cb32 : AE.Frame), st = ⟨tm32, ⟨cb32, out, glob⟩⟩ ∧ AllEq tm32 [(3, (.ptr (.fr 0 3) 1 0)), (6, (Sl.lav (.fr 0 5006) o50065.ver out_5)), (7, (bA has3)), (12, (Sl.av 5 c_api_Limit l)), (13, (iA (l.list.length : Int))), (14, (iA ((i : Nat) : Int)))] ∧ AllEq cb32 [(3, ⟨1, .cells (c_api_Verdict v_)⟩), (5006, o50065)] ∧ LzF 2 c_api_Header o50065 out_5) := ⟨_, fun _ _ _ => Iff.rfl⟩
 refine W_loopcut J31 (fun st hst => ?_) ?_
 · obtain ⟨out_6, has4, o50066, tm33, cb33, rfl, hT33, hC33, hz33_0, rfl⟩ := (hJ31 st).1 hst
   obtain ⟨tm33, rfl⟩ := allEq hT33
   obtain ⟨cb33, rfl⟩ := allEq hC33
   refine sq <| bk <| sq <| rg <| L (.ptr (.fr 0 3) 1 0) rfl rfl rfl <| L (bA v_.Ok) rfl rfl (op_load rfl (ld_con (bA v_.Ok) rfl rfl (cs := (c_api_Verdict v_)) (con_fr rfl) rfl)) ?_
   obtain ⟨J45, hJ45⟩ : ∃ J : St → Prop, ∀ st, J st ↔ (∃ (tm46 : Nat → AV) (cb46 : AE.Frame), st = ⟨tm46, ⟨cb46, out, glob⟩⟩ ∧ AllEq tm46 [(3, (.ptr (.fr 0 3) 1 0)), (6, (Sl.lav (.fr 0 5006) o50066.ver out_6)), (7, (bA has4)), (64, (bA (v_.Ok && ((v_.By != []) || (v_.Wait != 0)))))] ∧ AllEq cb46 [(3, ⟨1, .cells (c_api_Verdict v_)⟩), (5006, o50066)] ∧ LzF 2 c_api_Header o50066 out_6) := ⟨_, fun _ => Iff.rfl⟩
   refine WO_cut 10 J45 (fun st hst => ?_) ?_
   · obtain ⟨tm46, cb46, rfl, hT46, hC46, hz46_0⟩ := (hJ45 st).1 hst
     obtain ⟨tm46, rfl⟩ := allEq hT46
     obtain ⟨cb46, rfl⟩ := allEq hC46
     refine L (bA (v_.Ok && ((v_.By != []) || (v_.Wait != 0)))) rfl rfl rfl <| nl <| cd (v_.Ok && ((v_.By != []) || (v_.Wait != 0))) rfl (fun hc56 => ?_) (fun hc56 => ?_)
     · replace hF0 := ite_t hF0 (hc56)
       refine sq <| rg <| L (Sl.av 2 c_api_Header Sl.nil) rfl rfl rfl <| L (iA 3) rfl rfl rfl <| nl <| rt ?_
       obtain rfl := Option.some.inj hF0
       exact rd_leaf (.inr rfl) rfl (ret_tup2 (retV_pl _ _ (Sl.av 2 c_api_Header Sl.nil)) (retV_pl _ _ (iA 3))) rfl rfl
     · replace hF0 := ite_f hF0 (not_t hc56)
       refine sq <| rg <| L (.ptr (.fr 0 3) 1 0) rfl rfl rfl <| L (bA v_.Ok) rfl rfl (op_load rfl (ld_con (bA v_.Ok) rfl rfl (cs := (c_api_Verdict v_)) (con_fr rfl) rfl)) <| L (bA v_.Ok) rfl rfl rfl <| nl <| cd v_.Ok rfl (fun hc55 => ?_) (fun hc55 => ?_)
       · replace hF0 := ite_t hF0 (hc55)
         refine sq <| rg <| L (Sl.lav (.fr 0 5006) o50066.ver out_6) rfl rfl rfl <| L (Sl.lav (.fr 0 5006) o50066.ver out_6) rfl rfl rfl <| L (iA 0) rfl rfl rfl <| nl <| rt ?_
         obtain rfl := Option.some.inj hF0
         exact rd_leaf (.inr rfl) rfl (ret_tup2 (ret_lz rfl hz46_0) (retV_pl _ _ (iA 0))) rfl rfl
       · replace hF0 := ite_f hF0 (not_t hc55)
         refine sq <| rg <| L (bA has4) rfl rfl rfl <| L (bA (!has4)) rfl rfl rfl <| L (bA (!has4)) rfl rfl rfl <| nl <| cd (!has4) rfl (fun hc54 => ?_) (fun hc54 => ?_)
         · replace hF0 := ite_t hF0 (hc54)
           refine sq <| rg <| L (Sl.av 2 c_api_Header Sl.nil) rfl rfl rfl <| L (iA 8) rfl rfl rfl <| nl <| rt ?_
           obtain rfl := Option.some.inj hF0
           exact rd_leaf (.inr rfl) rfl (ret_tup2 (retV_pl _ _ (Sl.av 2 c_api_Header Sl.nil)) (retV_pl _ _ (iA 8))) rfl rfl
         · replace hF0 := ite_f hF0 (not_t hc54)
           refine sq <| rg <| L (.ptr (.fr 0 3) 1 2) rfl rfl rfl <| L (iA v_.Wait) rfl rfl (op_load rfl (ld_con (iA v_.Wait) rfl rfl (cs := (c_api_Verdict v_)) (con_fr rfl) rfl)) ?_
           obtain ⟨r75, h47, hF0⟩ := bind_some hF0
           refine WO_rd (g := 28) (args := [(iA v_.Wait), (iA (-1)), (iA 345686400000)]) (r := (bA r75)) _ _ rfl rfl rfl rfl rfl rfl rfl (ok_gateref1_in _ _ _ h47 _ _ ) <| L (bA (!r75)) rfl rfl rfl <| L (bA (!r75)) rfl rfl rfl <| nl <| cd (!r75) rfl (fun hc53 => ?_) (fun hc53 => ?_)
           · replace hF0 := ite_t hF0 (hc53)
             refine sq <| rg <| L (Sl.av 2 c_api_Header Sl.nil) rfl rfl rfl <| L (iA 1) rfl rfl rfl <| nl <| rt ?_
             obtain rfl := Option.some.inj hF0
             exact rd_leaf (.inr rfl) rfl (ret_tup2 (retV_pl _ _ (Sl.av 2 c_api_Header Sl.nil)) (retV_pl _ _ (iA 1))) rfl rfl
           · replace hF0 := ite_f hF0 (not_t hc53)
             refine sk <| sq <| rg <| L (sA [110, 101, 118, 101, 114]) rfl rfl rfl <| nl <| sq <| sq <| rg <| L (.ptr (.fr 0 3) 1 2) rfl rfl rfl <| L (iA v_.Wait) rfl rfl (op_load rfl (ld_con (iA v_.Wait) rfl rfl (cs := (c_api_Verdict v_)) (con_fr rfl) rfl)) <| L (bA (decide (v_.Wait ≥ 0))) rfl rfl rfl <| nl ?_
             obtain ⟨y50, hF1, hF0⟩ := bind_some hF0
             obtain ⟨J50, hJ50⟩ : ∃ J : St → Prop, ∀ st, J st ↔ (∃ (wait1 : Str) (tm49 : Nat → AV) (cb49 : AE.Frame), st = ⟨tm49, ⟨cb49, out, glob⟩⟩ ∧ AllEq tm49 [(3, (.ptr (.fr 0 3) 1 0)), (6, (Sl.lav (.fr 0 5006) o50066.ver out_6)), (11, (sA wait1))] ∧ AllEq cb49 [(3, ⟨1, .cells (c_api_Verdict v_)⟩), (5006, o50066)] ∧ LzF 2 c_api_Header o50066 out_6 ∧ wait1 = y50) := ⟨_, fun _ => Iff.rfl⟩
             refine W_cut J50 (fun st hst => ?_) ?_
             · obtain ⟨wait1, tm49, cb49, rfl, hT49, hC49, hz49_0, rfl⟩ := (hJ50 st).1 hst
               obtain ⟨tm49, rfl⟩ := allEq hT49
               obtain ⟨cb49, rfl⟩ := allEq hC49
               refine sq <| rg <| L (Sl.lav (.fr 0 5006) o50066.ver out_6) rfl rfl rfl <| L (sA wait1) rfl rfl rfl <| L (.agg (c_api_Header (api_Header.mk [114, 101, 116, 114, 121, 45, 97, 102, 116, 101, 114] wait1))) rfl rfl (op_build rfl (build_st (cs := (c_api_Header (api_Header.mk [114, 101, 116, 114, 121, 45, 97, 102, 116, 101, 114] wait1))) rfl rfl rfl (fill_cons (x := (sA [114, 101, 116, 114, 121, 45, 97, 102, 116, 101, 114])) rfl rfl (Nat.le_of_ble_eq_true rfl) (fill_cons (x := (sA wait1)) rfl rfl (Nat.le_of_ble_eq_true rfl) (fill_nil))))) <| L (.ptr (.fr 0 3) 1 1) rfl rfl rfl <| L (sA v_.By) rfl rfl (op_load rfl (ld_con (sA v_.By) rfl rfl (cs := (c_api_Verdict v_)) (con_fr rfl) rfl)) <| L (.agg (c_api_Header (api_Header.mk [120, 45, 108, 105, 109, 105, 116, 101, 100, 45, 98, 121] v_.By))) rfl rfl (op_build rfl (build_st (cs := (c_api_Header (api_Header.mk [120, 45, 108, 105, 109, 105, 116, 101, 100, 45, 98, 121] v_.By))) rfl rfl rfl (fill_cons (x := (sA [120, 45, 108, 105, 109, 105, 116, 101, 100, 45, 98, 121])) rfl rfl (Nat.le_of_ble_eq_true rfl) (fill_cons (x := (sA v_.By)) rfl rfl (Nat.le_of_ble_eq_true rfl) (fill_nil))))) <| L (Sl.av 2 c_api_Header (Sl.full [(api_Header.mk [114, 101, 116, 114, 121, 45, 97, 102, 116, 101, 114] wait1), (api_Header.mk [120, 45, 108, 105, 109, 105, 116, 101, 100, 45, 98, 121] v_.By)] : Sl api_Header)) rfl rfl (op_sliceN rfl rfl rfl) ?_
               obtain ⟨out_8, h_out_8, hF0⟩ := bind_some hF0
               refine WO_lzapp (s := 5006) (x := out_6) (x' := out_8) (o := o50066) (n := 2) (c := c_api_Header) (xs := [(api_Header.mk [114, 101, 116, 114, 121, 45, 97, 102, 116, 101, 114] wait1), (api_Header.mk [120, 45, 108, 105, 109, 105, 116, 101, 100, 45, 98, 121] v_.By)]) (y := (Sl.av 2 c_api_Header (Sl.full [(api_Header.mk [114, 101, 116, 114, 121, 45, 97, 102, 116, 101, 114] wait1), (api_Header.mk [120, 45, 108, 105, 109, 105, 116, 101, 100, 45, 98, 121] v_.By)] : Sl api_Header))) _ rfl rfl rfl rfl rfl rfl rfl rfl rfl rfl rfl rfl (z := (c_api_Header (api_Header.mk [] []))) rfl rfl rfl rfl rfl (by decide) (fun _ => rfl) rfl rfl rfl hz49_0 h_out_8 (fun o50068 hz_52 => ?_)
               refine L (Sl.lav (.fr 0 5006) o50068.ver out_8) rfl rfl rfl <| L (iA 0) rfl rfl rfl <| nl <| rt ?_
               obtain rfl := Option.some.inj hF0
               exact rd_leaf (.inr rfl) rfl (ret_tup2 (ret_lz rfl hz_52) (retV_pl _ _ (iA 0))) rfl rfl
             · refine cd (decide (v_.Wait ≥ 0)) rfl (fun hc51 => ?_) (fun hc51 => ?_)
               · replace hF1 := ite_t hF1 (dec_t hc51)
                 refine rg <| L (.ptr (.fr 0 3) 1 2) rfl rfl rfl <| L (iA v_.Wait) rfl rfl (op_load rfl (ld_con (iA v_.Wait) rfl rfl (cs := (c_api_Verdict v_)) (con_fr rfl) rfl)) <| L (iA (w64 (v_.Wait + 999))) rfl rfl rfl <| L (iA (w64 (Int.tdiv (w64 (v_.Wait + 999)) 1000))) rfl rfl rfl ?_
                 obtain ⟨wait2, h_wait2, hF1⟩ := bind_some hF1
                 exact L (sA wait2) rfl rfl (op_lib _ rfl rfl rfl (x_itoa_eq h_wait2)) <| L (sA wait2) rfl rfl rfl <| nl <| (hJ50 _).2 ⟨wait2, _, _, rfl, (And.intro rfl (And.intro rfl (And.intro rfl True.intro))), (And.intro rfl (And.intro rfl True.intro)), hz46_0, Option.some.inj hF1⟩
               · replace hF1 := ite_f hF1 (dec_f hc51)
                 exact sk <| (hJ50 _).2 ⟨[110, 101, 118, 101, 114], _, _, rfl, (And.intro rfl (And.intro rfl (And.intro rfl True.intro))), (And.intro rfl (And.intro rfl True.intro)), hz46_0, Option.some.inj hF1⟩
   · rcases bool_cases v_.Ok with hc45 | hc45
     · refine L (.bool true) rfl rfl (congrArg (fun b => some (AV.bool b, _)) hc45) <| L (.ptr (.fr 0 3) 1 1) rfl rfl rfl <| L (sA v_.By) rfl rfl (op_load rfl (ld_con (sA v_.By) rfl rfl (cs := (c_api_Verdict v_)) (con_fr rfl) rfl)) <| L (bA (v_.By != [])) rfl rfl (op_bin rfl bin_sne) ?_
       obtain ⟨J57, hJ57⟩ : ∃ J : St → Prop, ∀ st, J st ↔ (∃ (tm58 : Nat → AV) (cb58 : AE.Frame), st = ⟨tm58, ⟨cb58, out, glob⟩⟩ ∧ AllEq tm58 [(3, (.ptr (.fr 0 3) 1 0)), (6, (Sl.lav (.fr 0 5006) o50066.ver out_6)), (7, (bA has4)), (55, (bA true)), (63, (bA ((v_.By != []) || (v_.Wait != 0))))] ∧ AllEq cb58 [(3, ⟨1, .cells (c_api_Verdict v_)⟩), (5006, o50066)] ∧ LzF 2 c_api_Header o50066 out_6) := ⟨_, fun _ => Iff.rfl⟩
       refine WO_cut 5 J57 (fun st hst => ?_) ?_
       · obtain ⟨tm58, cb58, rfl, hT58, hC58, hz58_0⟩ := (hJ57 st).1 hst
         obtain ⟨tm58, rfl⟩ := allEq hT58
         obtain ⟨cb58, rfl⟩ := allEq hC58
         exact L (bA (v_.Ok && ((v_.By != []) || (v_.Wait != 0)))) rfl rfl (congrArg (fun b => some (AV.bool b, _)) (by rw [hc45]; rfl)) <| nl ((hJ45 _).2 ⟨_, _, rfl, (And.intro rfl (And.intro rfl (And.intro rfl (And.intro rfl True.intro)))), (And.intro rfl (And.intro rfl True.intro)), hz58_0⟩)
       · rcases bool_cases (v_.By != []) with hc57 | hc57
         · exact L (.bool true) rfl rfl (congrArg (fun b => some (AV.bool b, _)) hc57) <| WO_no _ rfl rfl <| WO_no _ rfl rfl <| WO_no _ rfl rfl <| L (bA ((v_.By != []) || (v_.Wait != 0))) rfl rfl (congrArg (fun b => some (AV.bool b, _)) (by rw [hc57]; rfl)) <| nl ((hJ57 _).2 ⟨_, _, rfl, (And.intro rfl (And.intro rfl (And.intro rfl (And.intro rfl (And.intro rfl True.intro))))), (And.intro rfl (And.intro rfl True.intro)), hz33_0⟩)
         · exact L (.bool false) rfl rfl (congrArg (fun b => some (AV.bool b, _)) hc57) <| L (.ptr (.fr 0 3) 1 2) rfl rfl rfl <| L (iA v_.Wait) rfl rfl (op_load rfl (ld_con (iA v_.Wait) rfl rfl (cs := (c_api_Verdict v_)) (con_fr rfl) rfl)) <| L (bA (v_.Wait != 0)) rfl rfl rfl <| L (bA ((v_.By != []) || (v_.Wait != 0))) rfl rfl (congrArg (fun b => some (AV.bool b, _)) (by rw [hc57]; rfl)) <| nl ((hJ57 _).2 ⟨_, _, rfl, (And.intro rfl (And.intro rfl (And.intro rfl (And.intro rfl (And.intro rfl True.intro))))), (And.intro rfl (And.intro rfl True.intro)), hz33_0⟩)
     · exact L (.bool false) rfl rfl (congrArg (fun b => some (AV.bool b, _)) hc45) <| WO_no _ rfl rfl <| WO_no _ rfl rfl <| WO_no _ rfl rfl <| WO_no _ rfl rfl <| WO_no _ rfl rfl <| WO_no _ rfl rfl <| WO_no _ rfl rfl <| WO_no _ rfl rfl <| L (bA (v_.Ok && ((v_.By != []) || (v_.Wait != 0)))) rfl rfl (congrArg (fun b => some (AV.bool b, _)) (by rw [hc45]; rfl)) <| nl ((hJ45 _).2 ⟨_, _, rfl, (And.intro rfl (And.intro rfl (And.intro rfl (And.intro rfl True.intro)))), (And.intro rfl (And.intro rfl True.intro)), hz33_0⟩)
 · refine W_rangeL hb31 R31 ((hR31 _ _ _).2 ⟨(⟨0, .gone⟩ : AObj), _, _, rfl, (And.intro rfl (And.intro rfl (And.intro rfl (And.intro rfl (And.intro rfl (And.intro rfl True.intro)))))), (And.intro rfl (And.intro rfl True.intro)), True.intro⟩) ?_ ?_
   · intro i hi31 v st s hr hF1 hD1
     obtain ⟨out_5, has3⟩ := v
     obtain ⟨o50065, tm32, cb32, rfl, hT32, hC32, hz32_0⟩ := (hR31 _ _ _).1 hr
     obtain ⟨tm32, rfl⟩ := allEq hT32
     obtain ⟨cb32, rfl⟩ := allEq hC32
     obtain ⟨x3, hx31⟩ : ∃ x, x = l.list[i] := ⟨_, rfl⟩
     rw [← hx31] at hF1
     dsimp only [gateref1_LinesOf_l0] at hF1
     refine sq (rg ?_)
     refine WO_do (y := (bA (decide (((i : Nat) : Int) < (l.list.length : Int))))) _ rfl rfl rfl (nl ?_)
     refine sq <| cd true (congrArg some (range_lt hi31)) (fun _ => ?_) (fun h => absurd h (by decide))
     refine sk <| sq <| bk <| sq <| rg <| L (.cptr (c_api_Limit x3)) rfl rfl (op_ix rfl ((ix_at (c := c_api_Limit) rfl rfl hi31).trans (congrArg (fun x => some (AV.cptr (c_api_Limit x))) hx31.symm))) <| L (.agg (c_api_Limit x3)) rfl rfl rfl <| L (.ptr (.fr 0 9) ((cb32 9).ver + 1) 0) (h' := ⟨upd _ 9 ⟨(cb32 9).ver + 1, .cells (c_api_Limit (api_Limit.mk [] 0 0 0 0))⟩, _, _⟩) rfl rfl (op_alloc (c_api_Limit (api_Limit.mk [] 0 0 0 0)) rfl rfl rfl rfl) <| L (.tup []) (h' := ⟨upd _ 9 ⟨(cb32 9).ver + 1, .cells (c_api_Limit x3)⟩, _, _⟩) rfl rfl (op_store rfl rfl (st_fr (x := (.agg (c_api_Limit x3))) (c_api_Limit x3) rfl rfl (Nat.le_of_ble_eq_true rfl) rfl)) <| nl <| sq <| dw (by kernel_rfl) <| L (.ptr (.fr 0 9) ((cb32 9).ver + 1) 1) rfl rfl rfl <| L (iA x3.Kind) rfl rfl (op_load rfl (ld_con (iA x3.Kind) rfl rfl (cs := (c_api_Limit x3)) (con_fr rfl) rfl)) ?_
     obtain ⟨r203, h35, hF1⟩ := bind_some hF1
     refine WO_rd (g := 27) (args := [(iA x3.Kind)]) (r := (sA r203)) _ _ rfl rfl rfl rfl rfl rfl rfl (ok_gateref1_KindWord _ h35 _ _ ) ?_
     obtain ⟨r213, h_r213, hF1⟩ := bind_some hF1
     refine L (sA r213) rfl rfl (op_bin rfl (bin_sadd h_r213)) <| L (.ptr (.fr 0 9) ((cb32 9).ver + 1) 2) rfl rfl rfl <| L (iA x3.Most) rfl rfl (op_load rfl (ld_con (iA x3.Most) rfl rfl (cs := (c_api_Limit x3)) (con_fr rfl) rfl)) ?_
     obtain ⟨r243, h_r243, hF1⟩ := bind_some hF1
     refine L (sA r243) rfl rfl (op_lib _ rfl rfl rfl (x_itoa_eq h_r243)) ?_
     obtain ⟨s_12, h_s_12, hF1⟩ := bind_some hF1
     refine L (sA s_12) rfl rfl (op_bin rfl (bin_sadd h_s_12)) <| L (sA s_12) rfl rfl rfl <| nl <| sq <| sq <| rg <| L (.ptr (.fr 0 9) ((cb32 9).ver + 1) 3) rfl rfl rfl <| L (iA x3.Per) rfl rfl (op_load rfl (ld_con (iA x3.Per) rfl rfl (cs := (c_api_Limit x3)) (con_fr rfl) rfl)) <| L (bA (decide (x3.Per > 0))) rfl rfl rfl <| nl ?_
     obtain ⟨y38, hF2, hF1⟩ := bind_some hF1
     obtain ⟨J38, hJ38⟩ : ∃ J : St → Prop, ∀ st, J st ↔ (∃ (s_14 : Str) (tm37 : Nat → AV) (cb37 : AE.Frame), st = ⟨tm37, ⟨cb37, out, glob⟩⟩ ∧ AllEq tm37 [(3, (.ptr (.fr 0 3) 1 0)), (6, (Sl.lav (.fr 0 5006) o50065.ver out_5)), (7, (bA has3)), (9, (.ptr (.fr 0 9) ((cb32 9).ver + 1) 0)), (10, (sA s_14)), (12, (Sl.av 5 c_api_Limit l)), (13, (iA (l.list.length : Int))), (14, (iA ((i : Nat) : Int)))] ∧ AllEq cb37 [(3, ⟨1, .cells (c_api_Verdict v_)⟩), (9, ⟨(cb32 9).ver + 1, .cells (c_api_Limit x3)⟩), (5006, o50065)] ∧ LzF 2 c_api_Header o50065 out_5 ∧ s_14 = y38) := ⟨_, fun _ => Iff.rfl⟩
     refine W_cut J38 (fun st hst => ?_) ?_
     · obtain ⟨s_14, tm37, cb37, rfl, hT37, hC37, hz37_0, rfl⟩ := (hJ38 st).1 hst
       obtain ⟨tm37, rfl⟩ := allEq hT37
       obtain ⟨cb37, rfl⟩ := allEq hC37
       refine sq <| rg <| L (Sl.lav (.fr 0 5006) o50065.ver out_5) rfl rfl rfl <| L (.ptr (.fr 0 9) ((cb32 9).ver + 1) 0) rfl rfl rfl <| L (sA x3.Key) rfl rfl (op_load rfl (ld_con (sA x3.Key) rfl rfl (cs := (c_api_Limit x3)) (con_fr rfl) rfl)) ?_
       obtain ⟨r383, h_r383, hF1⟩ := bind_some hF1
       refine L (sA r383) rfl rfl (op_bin rfl (bin_sadd h_r383)) <| L (sA s_14) rfl rfl rfl <| L (.agg (c_api_Header (api_Header.mk r383 s_14))) rfl rfl (op_build rfl (build_st (cs := (c_api_Header (api_Header.mk r383 s_14))) rfl rfl rfl (fill_cons (x := (sA r383)) rfl rfl (Nat.le_of_ble_eq_true rfl) (fill_cons (x := (sA s_14)) rfl rfl (Nat.le_of_ble_eq_true rfl) (fill_nil))))) <| L (Sl.av 2 c_api_Header (Sl.full [(api_Header.mk r383 s_14)] : Sl api_Header)) rfl rfl (op_sliceN rfl rfl rfl) ?_
       obtain ⟨out_7, h_out_7, hF1⟩ := bind_some hF1
       refine WO_lzapp (s := 5006) (x := out_5) (x' := out_7) (o := o50065) (n := 2) (c := c_api_Header) (xs := [(api_Header.mk r383 s_14)]) (y := (Sl.av 2 c_api_Header (Sl.full [(api_Header.mk r383 s_14)] : Sl api_Header))) _ rfl rfl rfl rfl rfl rfl rfl rfl rfl rfl rfl rfl (z := (c_api_Header (api_Header.mk [] []))) rfl rfl rfl rfl rfl (by decide) (fun _ => rfl) rfl rfl rfl hz37_0 h_out_7 (fun o50067 hz_40 => ?_)
       refine L (Sl.lav (.fr 0 5006) o50067.ver out_7) rfl rfl rfl <| nl <| rg <| L (bA has3) rfl rfl rfl ?_
       obtain ⟨J41, hJ41⟩ : ∃ J : St → Prop, ∀ st, J st ↔ (∃ (tm42 : Nat → AV) (cb42 : AE.Frame), st = ⟨tm42, ⟨cb42, out, glob⟩⟩ ∧ AllEq tm42 [(3, (.ptr (.fr 0 3) 1 0)), (6, (Sl.lav (.fr 0 5006) o50067.ver out_7)), (12, (Sl.av 5 c_api_Limit l)), (13, (iA (l.list.length : Int))), (14, (iA ((i : Nat) : Int))), (50, (bA (has3 || (x3.Key == v_.By))))] ∧ AllEq cb42 [(3, ⟨1, .cells (c_api_Verdict v_)⟩), (5006, o50067)] ∧ LzF 2 c_api_Header o50067 out_7) := ⟨_, fun _ => Iff.rfl⟩
       refine WO_cut 7 J41 (fun st hst => ?_) ?_
       · obtain ⟨tm42, cb42, rfl, hT42, hC42, hz42_0⟩ := (hJ41 st).1 hst
         obtain ⟨tm42, rfl⟩ := allEq hT42
         obtain ⟨cb42, rfl⟩ := allEq hC42
         exact L (bA (has3 || (x3.Key == v_.By))) rfl rfl rfl <| nl <| rg <| WO_do (y := (iA ((i + 1 : Nat) : Int))) _ rfl rfl (congrArg (fun n => some (AV.int .i64 n, _)) (range_len hi31 hn31)) <| WO_do (y := (iA ((i + 1 : Nat) : Int))) _ rfl rfl rfl <| nl <| Exists.intro _ (And.intro (Option.some.inj hF1).symm ((hR31 _ _ _).2 ⟨o50067, _, _, rfl, (And.intro rfl (And.intro rfl (And.intro rfl (And.intro rfl (And.intro rfl (And.intro rfl True.intro)))))), (And.intro rfl (And.intro rfl True.intro)), hz42_0⟩))
       · rcases bool_cases has3 with hc41 | hc41
         · exact L (.bool true) rfl rfl (congrArg (fun b => some (AV.bool b, _)) hc41) <| WO_no _ rfl rfl <| WO_no _ rfl rfl <| WO_no _ rfl rfl <| WO_no _ rfl rfl <| WO_no _ rfl rfl <| L (bA (has3 || (x3.Key == v_.By))) rfl rfl (congrArg (fun b => some (AV.bool b, _)) (by rw [hc41]; rfl)) <| nl ((hJ41 _).2 ⟨_, _, rfl, (And.intro rfl (And.intro rfl (And.intro rfl (And.intro rfl (And.intro rfl (And.intro rfl True.intro)))))), (And.intro rfl (And.intro rfl True.intro)), hz_40⟩)
         · exact L (.bool false) rfl rfl (congrArg (fun b => some (AV.bool b, _)) hc41) <| L (.ptr (.fr 0 9) ((cb32 9).ver + 1) 0) rfl rfl rfl <| L (sA x3.Key) rfl rfl (op_load rfl (ld_con (sA x3.Key) rfl rfl (cs := (c_api_Limit x3)) (con_fr rfl) rfl)) <| L (.ptr (.fr 0 3) 1 1) rfl rfl rfl <| L (sA v_.By) rfl rfl (op_load rfl (ld_con (sA v_.By) rfl rfl (cs := (c_api_Verdict v_)) (con_fr rfl) rfl)) <| L (bA (x3.Key == v_.By)) rfl rfl (op_bin rfl bin_seq) <| L (bA (has3 || (x3.Key == v_.By))) rfl rfl (congrArg (fun b => some (AV.bool b, _)) (by rw [hc41]; rfl)) <| nl ((hJ41 _).2 ⟨_, _, rfl, (And.intro rfl (And.intro rfl (And.intro rfl (And.intro rfl (And.intro rfl (And.intro rfl True.intro)))))), (And.intro rfl (And.intro rfl True.intro)), hz_40⟩)
     · refine cd (decide (x3.Per > 0)) rfl (fun hc39 => ?_) (fun hc39 => ?_)
       · replace hF2 := ite_t hF2 (dec_t hc39)
         refine rg <| L (sA s_12) rfl rfl rfl <| L (.ptr (.fr 0 9) ((cb32 9).ver + 1) 3) rfl rfl rfl <| L (iA x3.Per) rfl rfl (op_load rfl (ld_con (iA x3.Per) rfl rfl (cs := (c_api_Limit x3)) (con_fr rfl) rfl)) ?_
         obtain ⟨r327, h_r327, hF2⟩ := bind_some hF2
         refine L (sA r327) rfl rfl (op_lib _ rfl rfl rfl (x_itoa_eq h_r327)) ?_
         obtain ⟨r337, h_r337, hF2⟩ := bind_some hF2
         refine L (sA r337) rfl rfl (op_bin rfl (bin_sadd h_r337)) ?_
         obtain ⟨s_15, h_s_15, hF2⟩ := bind_some hF2
         exact L (sA s_15) rfl rfl (op_bin rfl (bin_sadd h_s_15)) <| L (sA s_15) rfl rfl rfl <| nl <| (hJ38 _).2 ⟨s_15, _, _, rfl, (And.intro rfl (And.intro rfl (And.intro rfl (And.intro rfl (And.intro rfl (And.intro rfl (And.intro rfl (And.intro rfl True.intro)))))))), (And.intro rfl (And.intro rfl (And.intro rfl True.intro))), hz32_0, Option.some.inj hF2⟩
       · replace hF2 := ite_f hF2 (dec_f hc39)
         exact sk <| (hJ38 _).2 ⟨s_12, _, _, rfl, (And.intro rfl (And.intro rfl (And.intro rfl (And.intro rfl (And.intro rfl (And.intro rfl (And.intro rfl (And.intro rfl True.intro)))))))), (And.intro rfl (And.intro rfl (And.intro rfl True.intro))), hz32_0, Option.some.inj hF2⟩
   · intro v st hr hD1
     obtain ⟨out_5, has3⟩ := v
     obtain ⟨o50065, tm32, cb32, rfl, hT32, hC32, hz32_0⟩ := (hR31 _ _ _).1 hr
     obtain ⟨tm32, rfl⟩ := allEq hT32
     obtain ⟨cb32, rfl⟩ := allEq hC32
     refine sq (rg ?_)
     refine WO_do (y := .bool false) _ rfl rfl (congrArg (fun b => some (AV.bool b, _)) (range_ge _)) (nl ?_)
     refine sq <| cd false rfl (fun h => absurd h (by decide)) (fun _ => ?_)
     exact xt <| (hJ31 _).2 ⟨out_5, has3, o50065, _, _, rfl, (And.intro rfl (And.intro rfl (And.intro rfl True.intro))), (And.intro rfl (And.intro rfl True.intro)), hz32_0, hD1⟩

theorem ok_slices_Equal_api_Header_api_Header (s1 : (Sl api_Header)) (s2 : (Sl api_Header)) {r : (Bool)} (hF0 : slices_Equal_api_Header_api_Header s1 s2 = some r) (out : List AE.Frame) (glob : List AObj) : RdOk Tryd.prog pol true 12 [(Sl.av 2 c_api_Header s1), (Sl.av 2 c_api_Header s2)] out glob (bA r) := by
 unfold slices_Equal_api_Header_api_Header at hF0
 refine rd_walk Tryd.func12 rfl (Nat.not_lt.2 (Nat.le_of_ble_eq_true rfl)) ?_
 intro ro
 refine sq <| rg <| L (bA false) rfl rfl rfl <| nl <| sq <| sq <| rg <| L (Sl.av 2 c_api_Header s1) rfl rfl rfl <| L (iA (s1.list.length : Int)) rfl rfl (op_len rfl rfl rfl rfl rfl (len_sl _)) <| L (Sl.av 2 c_api_Header s2) rfl rfl rfl <| L (iA (s2.list.length : Int)) rfl rfl (op_len rfl rfl rfl rfl rfl (len_sl _)) <| L (bA ((s1.list.length : Int) != (s2.list.length : Int))) rfl rfl rfl <| nl <| cd ((s1.list.length : Int) != (s2.list.length : Int)) rfl (fun hc9 => ?_) (fun hc9 => ?_)
 · replace hF0 := ite_t hF0 (bne_t hc9)
   refine sq <| rg <| L (bA false) rfl rfl rfl <| nl <| rt ?_
   obtain rfl := Option.some.inj hF0
   exact rd_leaf (.inr rfl) rfl (retV_pl _ _ (bA false)) rfl rfl
 · replace hF0 := ite_f hF0 (bne_f hc9)
   refine sk <| sq <| sq <| rg <| L (Sl.av 2 c_api_Header s1) rfl rfl rfl <| L (iA (s1.list.length : Int)) rfl rfl (op_len rfl rfl rfl rfl rfl (len_sl _)) <| L (iA 0) rfl rfl rfl <| nl <| bk ?_
   obtain ⟨b1, hb4, hF0⟩ := bind_some hF0
   obtain ⟨hn4, hb4⟩ := ite_none hb4
   obtain ⟨J4, hJ4⟩ : ∃ J : St → Prop, ∀ st, J st ↔ (∃ (tm6 : Nat → AV) (cb6 : AE.Frame), st = ⟨tm6, ⟨cb6, out, glob⟩⟩ ∧ AllEq tm6 [] ∧ AllEq cb6 [] ∧ Res.out () = b1) := ⟨_, fun _ => Iff.rfl⟩
   obtain ⟨R4, hR4⟩ : ∃ R : Nat → (Unit) → St → Prop, ∀ i v st, R i v st ↔ (match v with | () => ∃ (tm5 : Nat → AV) (cb5 : AE.Frame), st = ⟨tm5, ⟨cb5, out, glob⟩⟩ ∧ AllEq tm5 [(0, (Sl.av 2 c_api_Header s1)), (1, (Sl.av 2 c_api_Header s2)), (12, (iA (s1.list.length : Int))), (13, (iA ((i : Nat) : Int)))] ∧ AllEq cb5 []) := ⟨_, fun _ _ _ => Iff.rfl⟩
   refine W_loopcut J4 (fun st hst => ?_) ?_
   · obtain ⟨tm6, cb6, rfl, hT6, hC6, rfl⟩ := (hJ4 st).1 hst
     obtain ⟨tm6, rfl⟩ := allEq hT6
     obtain ⟨cb6, rfl⟩ := allEq hC6
     replace hF0 := res_out hF0
     refine sq <| rg <| L (bA true) rfl rfl rfl <| nl <| rt ?_
     obtain rfl := Option.some.inj hF0
     exact rd_leaf (.inr rfl) rfl (retV_pl _ _ (bA true)) rfl rfl
   · refine W_rangeL hb4 R4 ((hR4 _ _ _).2 ⟨_, _, rfl, (And.intro rfl (And.intro rfl (And.intro rfl (And.intro rfl True.intro)))), True.intro⟩) ?_ ?_
     · intro i hi4 v st s hr hF1 hD1
       obtain ⟨⟩ := v
       obtain ⟨tm5, cb5, rfl, hT5, hC5⟩ := (hR4 _ _ _).1 hr
       obtain ⟨tm5, rfl⟩ := allEq hT5
       obtain ⟨cb5, rfl⟩ := allEq hC5
       obtain ⟨x2, hx4⟩ : ∃ x, x = s1.list[i] := ⟨_, rfl⟩
       rw [← hx4] at hF1
       dsimp only [slices_Equal_api_Header_api_Header_l0] at hF1
       refine sq (rg ?_)
       refine WO_do (y := (bA (decide (((i : Nat) : Int) < (s1.list.length : Int))))) _ rfl rfl rfl (nl ?_)
       refine sq <| cd true (congrArg some (range_lt hi4)) (fun _ => ?_) (fun h => absurd h (by decide))
       refine sk <| sq <| bk <| sq <| rg <| L (iA ((i : Nat) : Int)) rfl rfl rfl <| L (iA ((i : Nat) : Int)) rfl rfl rfl <| nl <| sq <| dw (by kernel_rfl) <| L (Sl.av 2 c_api_Header s1) rfl rfl rfl <| L (iA ((i : Nat) : Int)) rfl rfl rfl <| L (.cptr (c_api_Header x2)) rfl rfl (op_ix rfl ((ix_at (c := c_api_Header) rfl rfl hi4).trans (congrArg (fun x => some (AV.cptr (c_api_Header x))) hx4.symm))) <| L (.agg (c_api_Header x2)) rfl rfl rfl <| L (Sl.av 2 c_api_Header s2) rfl rfl rfl <| L (iA ((i : Nat) : Int)) rfl rfl rfl ?_
       obtain ⟨x3, h_x3, hF1⟩ := bind_some hF1
       refine L (.cptr (c_api_Header x3)) rfl rfl (op_ix rfl (ix_sl (c := c_api_Header) rfl rfl h_x3)) <| L (.agg (c_api_Header x3)) rfl rfl rfl <| L (bA (!(eq_api_Header x2 x3))) rfl rfl (op_bin rfl (bin_agne (b := eq_api_Header x2 x3) (by kernel_rfl) (by kernel_rfl))) <| nl <| cd (!(eq_api_Header x2 x3)) rfl (fun hc8 => ?_) (fun hc8 => ?_)
       · replace hF1 := ite_t hF1 (hc8)
         refine sq <| rg <| L (bA false) rfl rfl rfl <| nl <| rt ?_
         obtain rfl := hD1 _ (Option.some.inj hF1).symm
         replace hF0 := res_ret hF0
         obtain rfl := Option.some.inj hF0
         exact rd_leaf (.inr rfl) rfl (retV_pl _ _ (bA false)) rfl rfl
       · replace hF1 := ite_f hF1 (not_t hc8)
         exact sk <| rg <| WO_do (y := (iA ((i + 1 : Nat) : Int))) _ rfl rfl (congrArg (fun n => some (AV.int .i64 n, _)) (range_len hi4 hn4)) <| WO_do (y := (iA ((i + 1 : Nat) : Int))) _ rfl rfl rfl <| nl <| Exists.intro _ (And.intro (Option.some.inj hF1).symm ((hR4 _ _ _).2 ⟨_, _, rfl, (And.intro rfl (And.intro rfl (And.intro rfl (And.intro rfl True.intro)))), True.intro⟩))
     · intro v st hr hD1
       obtain ⟨⟩ := v
       obtain ⟨tm5, cb5, rfl, hT5, hC5⟩ := (hR4 _ _ _).1 hr
       obtain ⟨tm5, rfl⟩ := allEq hT5
       obtain ⟨cb5, rfl⟩ := allEq hC5
       refine sq (rg ?_)
       refine WO_do (y := .bool false) _ rfl rfl (congrArg (fun b => some (AV.bool b, _)) (range_ge _)) (nl ?_)
       refine sq <| cd false rfl (fun h => absurd h (by decide)) (fun _ => ?_)
       exact xt <| (hJ4 _).2 ⟨_, _, rfl, True.intro, True.intro, hD1⟩

theorem ok_gatelaw1_LinesWritten (l : (Sl Int)) {r : (Bool)} (hF0 : gatelaw1_LinesWritten l = some r) (out : List AE.Frame) (glob : List AObj) (hglob : glob = []) : ∃ h, A Tryd.prog pol false 3 [(Sl.av 1 c_i64 l)] out glob = some ((bA r), h) := by
 unfold gatelaw1_LinesWritten at hF0
 refine law_walk Tryd.func3 rfl (Nat.not_lt.2 (Nat.le_of_ble_eq_true rfl)) <| sq <| rg <| L (bA false) rfl rfl rfl <| nl <| sq <| rg <| L (Sl.av 1 c_i64 l) rfl rfl rfl <| L (.agg (c_gatemake_Stream (gatemake_Stream.mk l 0))) rfl rfl (op_build rfl (build_st (cs := (c_gatemake_Stream (gatemake_Stream.mk l 0))) rfl rfl rfl (fill_cons (x := (Sl.av 1 c_i64 l)) rfl rfl (Nat.le_of_ble_eq_true rfl) (fill_nil)))) <| L (.ptr (.fr 0 13) 1 0) (h' := ⟨upd _ 13 ⟨1, .cells (c_gatemake_Stream (gatemake_Stream.mk l 0))⟩, _, _⟩) rfl rfl (op_box (x' := (.agg (c_gatemake_Stream (gatemake_Stream.mk l 0)))) rfl rfl rfl rfl) <| L (.ptr (.fr 0 13) 1 0) rfl rfl rfl <| nl <| sq <| rg <| L (.ptr (.fr 0 13) 1 0) rfl rfl rfl ?_
 obtain ⟨⟨x, t13⟩, h1, hF0⟩ := bind_some hF0
 refine WO_mutL (g := 4) (args := fun p => [p]) (t := 13) (v := 1) (r := (Sl.av 5 c_api_Limit x)) _ _ rfl rfl rfl rfl rfl rfl rfl (fun _ _ => inferInstance) rfl (ok_gatemake_Stream_Limits _ h1) <| L (Sl.av 5 c_api_Limit x) rfl rfl rfl <| nl <| sq <| rg <| L (.ptr (.fr 0 13) 1 0) rfl rfl rfl <| L (Sl.av 1 c_str (Sl.full [[108, 97], [108, 98], [108, 99], [122, 122], []] : Sl Str)) rfl rfl (op_sliceN rfl rfl rfl) ?_
 obtain ⟨⟨r18, t131⟩, h2, hF0⟩ := bind_some hF0
 refine WO_mutL (g := 5) (args := fun p => [p, (Sl.av 1 c_str (Sl.full [[108, 97], [108, 98], [108, 99], [122, 122], []] : Sl Str))]) (t := 13) (v := 1) (r := (sA r18)) _ _ rfl rfl rfl rfl rfl rfl rfl (fun _ _ => inferInstance) rfl (ok_gatemake_Stream_Some _ _ h2) <| L (.ptr (.fr 0 13) 1 0) rfl rfl rfl <| L (Sl.av 1 c_i64 (Sl.full [(-1), 0, 1, 999, 1000, 1001, (-2), 345686400000, 345686400001] : Sl Int)) rfl rfl (op_sliceN rfl rfl rfl) ?_
 obtain ⟨⟨r21, t132⟩, h3, hF0⟩ := bind_some hF0
 refine WO_mutL (g := 6) (args := fun p => [p, (Sl.av 1 c_i64 (Sl.full [(-1), 0, 1, 999, 1000, 1001, (-2), 345686400000, 345686400001] : Sl Int))]) (t := 13) (v := 1) (r := (iA r21)) _ _ rfl rfl rfl rfl rfl rfl rfl (fun _ _ => inferInstance) rfl (ok_gatemake_Stream_Pick _ _ h3) <| L (.agg (c_api_Verdict (api_Verdict.mk false r18 r21))) rfl rfl (op_build rfl (build_st (cs := (c_api_Verdict (api_Verdict.mk false r18 r21))) rfl rfl rfl (fill_cons (x := (sA r18)) rfl rfl (Nat.le_of_ble_eq_true rfl) (fill_cons (x := (iA r21)) rfl rfl (Nat.le_of_ble_eq_true rfl) (fill_nil))))) <| L (.ptr (.fr 0 5) 1 0) (h' := ⟨upd _ 5 ⟨1, .cells (c_api_Verdict (api_Verdict.mk false [] 0))⟩, _, _⟩) rfl rfl (op_alloc (c_api_Verdict (api_Verdict.mk false [] 0)) rfl rfl rfl rfl) <| L (.tup []) (h' := ⟨upd _ 5 ⟨1, .cells (c_api_Verdict (api_Verdict.mk false r18 r21))⟩, _, _⟩) rfl rfl (op_store rfl rfl (st_fr (x := (.agg (c_api_Verdict (api_Verdict.mk false r18 r21)))) (c_api_Verdict (api_Verdict.mk false r18 r21)) rfl rfl (Nat.le_of_ble_eq_true rfl) rfl)) <| nl <| sq <| sq <| rg <| L (.ptr (.fr 0 13) 1 0) rfl rfl rfl ?_
 obtain ⟨⟨r24, t133⟩, h4, hF0⟩ := bind_some hF0
 refine WO_mutL (g := 7) (args := fun p => [p, (iA 3)]) (t := 13) (v := 1) (r := (bA r24)) _ _ rfl rfl rfl rfl rfl rfl rfl (fun _ _ => inferInstance) rfl (ok_gatemake_Stream_Flip _ _ h4) <| nl ?_
 obtain ⟨y9, hF1, hF0⟩ := bind_some hF0
 obtain ⟨J9, hJ9⟩ : ∃ J : St → Prop, ∀ st, J st ↔ (∃ (v_ : api_Verdict) (tm8 : Nat → AV) (cb8 : AE.Frame), st = ⟨tm8, ⟨cb8, out, glob⟩⟩ ∧ AllEq tm8 [(4, (Sl.av 5 c_api_Limit x)), (5, (.ptr (.fr 0 5) 1 0))] ∧ AllEq cb8 [(5, ⟨1, .cells (c_api_Verdict v_)⟩)] ∧ v_ = y9) := ⟨_, fun _ => Iff.rfl⟩
 refine W_cut J9 (fun st hst => ?_) ?_
 · obtain ⟨v_, tm8, cb8, rfl, hT8, hC8, rfl⟩ := (hJ9 st).1 hst
   obtain ⟨tm8, rfl⟩ := allEq hT8
   obtain ⟨cb8, rfl⟩ := allEq hC8
   refine sq <| rg <| L (Sl.av 5 c_api_Limit x) rfl rfl rfl <| L (.agg (c_api_Verdict v_)) rfl rfl (op_load rfl (ld_con (.agg (c_api_Verdict v_)) rfl rfl (cs := (c_api_Verdict v_)) (con_fr rfl) rfl)) ?_
   obtain ⟨⟨h, e⟩, h13, hF0⟩ := bind_some hF0
   refine WO_rd (g := 8) (args := [(Sl.av 5 c_api_Limit x), (.agg (c_api_Verdict v_))]) (r := (.tup [(Sl.av 2 c_api_Header h), (iA e)])) _ _ rfl rfl rfl rfl rfl rfl rfl (ok_limit_Lines _ _ h13 _ _ ) <| L (.tup [(Sl.av 2 c_api_Header h), (iA e)]) rfl rfl rfl <| L (Sl.av 2 c_api_Header h) rfl rfl rfl <| L (iA e) rfl rfl rfl <| L (Sl.av 2 c_api_Header h) rfl rfl rfl <| L (iA e) rfl rfl rfl <| nl <| sq <| sq <| rg <| L (Sl.av 5 c_api_Limit x) rfl rfl rfl ?_
   obtain ⟨fault, h14, hF0⟩ := bind_some hF0
   refine WO_rd (g := 9) (args := [(Sl.av 5 c_api_Limit x)]) (r := (iA fault)) _ _ rfl rfl rfl rfl rfl rfl rfl (ok_gateref1_LimitsFault _ h14 _ _ ) <| L (iA fault) rfl rfl rfl <| nl <| sq <| rg <| L (iA fault) rfl rfl rfl <| L (bA (fault != 0)) rfl rfl rfl <| nl <| cd (fault != 0) rfl (fun hc30 => ?_) (fun hc30 => ?_)
   · replace hF0 := ite_t hF0 (bne_t hc30)
     refine sq <| rg <| L (iA e) rfl rfl rfl <| L (iA fault) rfl rfl rfl <| L (bA (e == fault)) rfl rfl rfl ?_
     obtain ⟨J15, hJ15⟩ : ∃ J : St → Prop, ∀ st, J st ↔ (∃ (tm16 : Nat → AV) (cb16 : AE.Frame), st = ⟨tm16, ⟨cb16, out, glob⟩⟩ ∧ AllEq tm16 [(49, (bA ((e == fault) && ((h.list.length : Int) == 0))))] ∧ AllEq cb16 []) := ⟨_, fun _ => Iff.rfl⟩
     refine WO_cut 5 J15 (fun st hst => ?_) ?_
     · obtain ⟨tm16, cb16, rfl, hT16, hC16⟩ := (hJ15 st).1 hst
       obtain ⟨tm16, rfl⟩ := allEq hT16
       obtain ⟨cb16, rfl⟩ := allEq hC16
       obtain ⟨y18, hF1, hF0⟩ := bind_some hF0
       obtain ⟨J18, hJ18⟩ : ∃ J : St → Prop, ∀ st, J st ↔ (∃ (t52 : Bool) (tm19 : Nat → AV) (cb19 : AE.Frame) (globv19 : List AObj), st = ⟨tm19, ⟨cb19, out, globv19⟩⟩ ∧ AllEq tm19 [(52, (bA t52))] ∧ AllEq cb19 [] ∧ t52 = y18) := ⟨_, fun _ => Iff.rfl⟩
       refine WO_cut 3 J18 (fun st hst => ?_) ?_
       · obtain ⟨t52, tm19, cb19, globv19, rfl, hT19, hC19, rfl⟩ := (hJ18 st).1 hst
         obtain ⟨tm19, rfl⟩ := allEq hT19
         obtain ⟨cb19, rfl⟩ := allEq hC19
         refine L (bA t52) rfl rfl rfl <| nl <| rt ?_
         obtain rfl := Option.some.inj hF0
         exact law_leaf (.inr rfl) rfl
       · rcases bool_cases ((e == fault) && ((h.list.length : Int) == 0)) with hc18 | hc18
         · replace hF1 := ite_t hF1 (hc18)
           refine L (.bool true) rfl rfl (congrArg (fun b => some (AV.bool b, _)) hc18) <| WO_lim (g := 10) _ _ rfl rfl rfl rfl rfl rfl rfl rfl hglob lim_limited (fun glob20 => ?_)
           exact L (bA true) rfl rfl rfl <| nl ((hJ18 _).2 ⟨true, _, _, _, rfl, (And.intro rfl True.intro), True.intro, Option.some.inj hF1⟩)
         · replace hF1 := ite_f hF1 (not_t hc18)
           exact L (.bool false) rfl rfl (congrArg (fun b => some (AV.bool b, _)) hc18) <| WO_no _ rfl rfl <| L (bA false) rfl rfl rfl <| nl ((hJ18 _).2 ⟨false, _, _, _, rfl, (And.intro rfl True.intro), True.intro, Option.some.inj hF1⟩)
     · rcases bool_cases (e == fault) with hc15 | hc15
       · exact L (.bool true) rfl rfl (congrArg (fun b => some (AV.bool b, _)) hc15) <| L (Sl.av 2 c_api_Header h) rfl rfl rfl <| L (iA (h.list.length : Int)) rfl rfl (op_len rfl rfl rfl rfl rfl (len_sl _)) <| L (bA ((h.list.length : Int) == 0)) rfl rfl rfl <| L (bA ((e == fault) && ((h.list.length : Int) == 0))) rfl rfl (congrArg (fun b => some (AV.bool b, _)) (by rw [hc15]; rfl)) <| nl ((hJ15 _).2 ⟨_, _, rfl, (And.intro rfl True.intro), True.intro⟩)
       · exact L (.bool false) rfl rfl (congrArg (fun b => some (AV.bool b, _)) hc15) <| WO_no _ rfl rfl <| WO_no _ rfl rfl <| WO_no _ rfl rfl <| L (bA ((e == fault) && ((h.list.length : Int) == 0))) rfl rfl (congrArg (fun b => some (AV.bool b, _)) (by rw [hc15]; rfl)) <| nl ((hJ15 _).2 ⟨_, _, rfl, (And.intro rfl True.intro), True.intro⟩)
   · replace hF0 := ite_f hF0 (bne_f hc30)
     refine sk <| sq <| rg <| L (Sl.av 5 c_api_Limit x) rfl rfl rfl <| L (.agg (c_api_Verdict v_)) rfl rfl (op_load rfl (ld_con (.agg (c_api_Verdict v_)) rfl rfl (cs := (c_api_Verdict v_)) (con_fr rfl) rfl)) ?_
     obtain ⟨⟨y, f⟩, h21, hF0⟩ := bind_some hF0
     refine WO_rd (g := 11) (args := [(Sl.av 5 c_api_Limit x), (.agg (c_api_Verdict v_))]) (r := (.tup [(Sl.av 2 c_api_Header y), (iA f)])) _ _ rfl rfl rfl rfl rfl rfl rfl (ok_gateref1_LinesOf _ _ h21 _ _ ) <| L (.tup [(Sl.av 2 c_api_Header y), (iA f)]) rfl rfl rfl <| L (Sl.av 2 c_api_Header y) rfl rfl rfl <| L (iA f) rfl rfl rfl <| L (Sl.av 2 c_api_Header y) rfl rfl rfl <| L (iA f) rfl rfl rfl <| nl <| sq <| rg <| L (iA e) rfl rfl rfl <| L (iA f) rfl rfl rfl <| L (bA (e == f)) rfl rfl rfl ?_
     obtain ⟨y23, hF1, hF0⟩ := bind_some hF0
     obtain ⟨J23, hJ23⟩ : ∃ J : St → Prop, ∀ st, J st ↔ (∃ (t66 : Bool) (tm24 : Nat → AV) (cb24 : AE.Frame), st = ⟨tm24, ⟨cb24, out, glob⟩⟩ ∧ AllEq tm24 [(66, (bA t66))] ∧ AllEq cb24 [] ∧ t66 = y23) := ⟨_, fun _ => Iff.rfl⟩
     refine WO_cut 5 J23 (fun st hst => ?_) ?_
     · obtain ⟨t66, tm24, cb24, rfl, hT24, hC24, rfl⟩ := (hJ23 st).1 hst
       obtain ⟨tm24, rfl⟩ := allEq hT24
       obtain ⟨cb24, rfl⟩ := allEq hC24
       obtain ⟨y26, hF1, hF0⟩ := bind_some hF0
       obtain ⟨J26, hJ26⟩ : ∃ J : St → Prop, ∀ st, J st ↔ (∃ (t69 : Bool) (tm27 : Nat → AV) (cb27 : AE.Frame) (globv27 : List AObj), st = ⟨tm27, ⟨cb27, out, globv27⟩⟩ ∧ AllEq tm27 [(69, (bA t69))] ∧ AllEq cb27 [] ∧ t69 = y26) := ⟨_, fun _ => Iff.rfl⟩
       refine WO_cut 3 J26 (fun st hst => ?_) ?_
       · obtain ⟨t69, tm27, cb27, globv27, rfl, hT27, hC27, rfl⟩ := (hJ26 st).1 hst
         obtain ⟨tm27, rfl⟩ := allEq hT27
         obtain ⟨cb27, rfl⟩ := allEq hC27
         refine L (bA t69) rfl rfl rfl <| nl <| rt ?_
         obtain rfl := Option.some.inj hF0
         exact law_leaf (.inr rfl) rfl
       · rcases bool_cases t66 with hc26 | hc26
         · replace hF1 := ite_t hF1 (hc26)
           refine L (.bool true) rfl rfl (congrArg (fun b => some (AV.bool b, _)) hc26) <| WO_lim (g := 10) _ _ rfl rfl rfl rfl rfl rfl rfl rfl hglob lim_limited (fun glob28 => ?_)
           exact L (bA true) rfl rfl rfl <| nl ((hJ26 _).2 ⟨true, _, _, _, rfl, (And.intro rfl True.intro), True.intro, Option.some.inj hF1⟩)
         · replace hF1 := ite_f hF1 (not_t hc26)
           exact L (.bool false) rfl rfl (congrArg (fun b => some (AV.bool b, _)) hc26) <| WO_no _ rfl rfl <| L (bA false) rfl rfl rfl <| nl ((hJ26 _).2 ⟨false, _, _, _, rfl, (And.intro rfl True.intro), True.intro, Option.some.inj hF1⟩)
     · rcases bool_cases (e == f) with hc23 | hc23
       · replace hF1 := ite_t hF1 (beq_t hc23)
         refine L (.bool true) rfl rfl (congrArg (fun b => some (AV.bool b, _)) hc23) <| L (Sl.av 2 c_api_Header h) rfl rfl rfl <| L (Sl.av 2 c_api_Header y) rfl rfl rfl ?_
         obtain ⟨r651, h29, hF1⟩ := bind_some hF1
         exact WO_rd (g := 12) (args := [(Sl.av 2 c_api_Header h), (Sl.av 2 c_api_Header y)]) (r := (bA r651)) _ _ rfl rfl rfl rfl rfl rfl rfl (ok_slices_Equal_api_Header_api_Header _ _ h29 _ _ ) <| L (bA r651) rfl rfl rfl <| nl ((hJ23 _).2 ⟨r651, _, _, rfl, (And.intro rfl True.intro), True.intro, Option.some.inj hF1⟩)
       · replace hF1 := ite_f hF1 (beq_f hc23)
         exact L (.bool false) rfl rfl (congrArg (fun b => some (AV.bool b, _)) hc23) <| WO_no _ rfl rfl <| WO_no _ rfl rfl <| WO_no _ rfl rfl <| L (bA false) rfl rfl rfl <| nl ((hJ23 _).2 ⟨false, _, _, rfl, (And.intro rfl True.intro), True.intro, Option.some.inj hF1⟩)
 · refine cd r24 rfl (fun hc12 => ?_) (fun hc12 => ?_)
   · replace hF1 := ite_t hF1 (hc12)
     refine rg <| L (.ptr (.fr 0 13) 1 0) rfl rfl rfl <| L (Sl.av 1 c_str (Sl.full [[], [], [108, 97]] : Sl Str)) rfl rfl (op_sliceN rfl rfl rfl) ?_
     obtain ⟨⟨r271, t136⟩, h10, hF1⟩ := bind_some hF1
     refine WO_mutL (g := 5) (args := fun p => [p, (Sl.av 1 c_str (Sl.full [[], [], [108, 97]] : Sl Str))]) (t := 13) (v := 1) (r := (sA r271)) _ _ rfl rfl rfl rfl rfl rfl rfl (fun _ _ => inferInstance) rfl (ok_gatemake_Stream_Some _ _ h10) <| L (.ptr (.fr 0 13) 1 0) rfl rfl rfl <| L (Sl.av 1 c_i64 (Sl.full [0, 0, 1] : Sl Int)) rfl rfl (op_sliceN rfl rfl rfl) ?_
     obtain ⟨⟨r301, t137⟩, h11, hF1⟩ := bind_some hF1
     exact WO_mutL (g := 6) (args := fun p => [p, (Sl.av 1 c_i64 (Sl.full [0, 0, 1] : Sl Int))]) (t := 13) (v := 1) (r := (iA r301)) _ _ rfl rfl rfl rfl rfl rfl rfl (fun _ _ => inferInstance) rfl (ok_gatemake_Stream_Pick _ _ h11) <| L (.agg (c_api_Verdict (api_Verdict.mk true r271 r301))) rfl rfl (op_build rfl (build_st (cs := (c_api_Verdict (api_Verdict.mk true r271 r301))) rfl rfl rfl (fill_cons (x := (bA true)) rfl rfl (Nat.le_of_ble_eq_true rfl) (fill_cons (x := (sA r271)) rfl rfl (Nat.le_of_ble_eq_true rfl) (fill_cons (x := (iA r301)) rfl rfl (Nat.le_of_ble_eq_true rfl) (fill_nil)))))) <| L (.tup []) (h' := ⟨upd _ 5 ⟨1, .cells (c_api_Verdict (api_Verdict.mk true r271 r301))⟩, _, _⟩) rfl rfl (op_store rfl rfl (st_fr (x := (.agg (c_api_Verdict (api_Verdict.mk true r271 r301)))) (c_api_Verdict (api_Verdict.mk true r271 r301)) rfl rfl (Nat.le_of_ble_eq_true rfl) rfl)) <| nl <| (hJ9 _).2 ⟨(api_Verdict.mk true r271 r301), _, _, rfl, (And.intro rfl (And.intro rfl True.intro)), (And.intro rfl True.intro), Option.some.inj hF1⟩
   · replace hF1 := ite_f hF1 (not_t hc12)
     exact sk <| (hJ9 _).2 ⟨(api_Verdict.mk false r18 r21), _, _, rfl, (And.intro rfl (And.intro rfl True.intro)), (And.intro rfl True.intro), Option.some.inj hF1⟩
end Go.Proofs.YtpadcfhbcdchbaaDoor
