/- The evaluator answers as the typed functions. Printed by gen.py. -/
import Derived.Test.YtdpfbnefkemkiaaGbDefs
import Derived.Test.YtdpfbnefkemkiaaGbFacts
namespace Go.Proofs.Ytdpfbnefkemkiaa
open Go.AE Go.GW
set_option maxRecDepth 100000
theorem ok_gatemake_Below (x : Int) (n : Int) {r : (Int)} (hF0 : gatemake_Below x n = some r) (out : List AE.Frame) (glob : List AObj) : RdOk Try.prog pol true 37 [(iA x), (iA n)] out glob (iA r) := by
 unfold gatemake_Below at hF0
 refine rd_walk Try.func37 rfl (Nat.not_lt.2 (Nat.le_of_ble_eq_true rfl)) ?_
 intro ro
 refine sq <| rg <| L (iA 0) rfl rfl rfl <| nl <| sq <| sq <| rg <| L (iA n) rfl rfl rfl <| L (bA (decide (n < 1))) rfl rfl rfl <| nl <| cd (decide (n < 1)) rfl (fun hc2 => ?_) (fun hc2 => ?_)
 · replace hF0 := ite_t hF0 (dec_t hc2)
   refine sq <| rg <| L (iA 0) rfl rfl rfl <| nl <| rt ?_
   obtain rfl := Option.some.inj hF0
   exact rd_leaf (.inr rfl) rfl (retV_pl _ _ (iA 0)) rfl rfl
 · replace hF0 := ite_f hF0 (dec_f hc2)
   refine sk <| sq <| rg <| L (iA x) rfl rfl rfl <| L (iA n) rfl rfl rfl ?_
   obtain ⟨x1, h_x1, hF0⟩ := bind_some hF0
   refine L (iA x1) rfl rfl (op_bin rfl (bin_rem h_x1)) <| L (iA x1) rfl rfl rfl <| nl <| sq <| sq <| rg <| L (iA x1) rfl rfl rfl <| L (bA (decide (x1 < 0))) rfl rfl rfl <| nl <| cd (decide (x1 < 0)) rfl (fun hc1 => ?_) (fun hc1 => ?_)
   · replace hF0 := ite_t hF0 (dec_t hc1)
     refine rg <| L (iA x1) rfl rfl rfl <| L (iA n) rfl rfl rfl <| L (iA (w64 (x1 + n))) rfl rfl rfl <| L (iA (w64 (x1 + n))) rfl rfl rfl <| nl <| sq <| rg <| L (iA (w64 (x1 + n))) rfl rfl rfl <| L (iA (w64 (x1 + n))) rfl rfl rfl <| nl <| rt ?_
     obtain rfl := Option.some.inj hF0
     exact rd_leaf (.inr rfl) rfl (retV_pl _ _ (iA (w64 (x1 + n)))) rfl rfl
   · replace hF0 := ite_f hF0 (dec_f hc1)
     refine sk <| sq <| rg <| L (iA x1) rfl rfl rfl <| L (iA x1) rfl rfl rfl <| nl <| rt ?_
     obtain rfl := Option.some.inj hF0
     exact rd_leaf (.inr rfl) rfl (retV_pl _ _ (iA x1)) rfl rfl

theorem ok_gatemake_Stream_Next (s_ : gatemake_Stream) (n : Int) {r : (Int × gatemake_Stream)} (hF0 : gatemake_Stream_Next s_ n = some r) : MutOk Try.prog pol 14 (fun p => [p, (iA n)]) (c_gatemake_Stream s_) (iA r.1) (c_gatemake_Stream r.2) := by
 unfold gatemake_Stream_Next at hF0
 refine mut_walk Try.func14 rfl (fun _ => Nat.not_lt.2 (Nat.le_of_ble_eq_true rfl)) ?_
 intro out glob d0 w0 hh0 hk_0
 refine sq <| rg <| L (iA 0) rfl rfl rfl <| nl <| sq <| rg <| L (.ptr d0 w0 0) rfl rfl rfl <| L (.ptr d0 w0 0) rfl rfl rfl <| L (.ptr d0 w0 1) rfl rfl rfl <| L (iA s_.at_) rfl rfl (op_load rfl (ld_con (iA s_.at_) rfl rfl (cs := (c_gatemake_Stream s_)) ((con_con2 _ _ _ _ _ hh0).trans hk_0) rfl)) <| L (iA (w64 (s_.at_ + 1))) rfl rfl rfl <| L (.ptr d0 w0 0) rfl rfl rfl <| L (.ptr d0 w0 1) rfl rfl rfl <| WO_stP (X := (iA (w64 (s_.at_ + 1)))) (cs := (c_gatemake_Stream s_)) (cs' := (c_gatemake_Stream ({ s_ with at_ := w64 (s_.at_ + 1) }))) (off := 1) _ rfl rfl rfl rfl rfl rfl rfl rfl hh0 hk_0 (Nat.le_of_ble_eq_true rfl) rfl (fun out1 glob1 hk1 hs1 => ?_)
 replace hs1 := (Same.refl _ _ _).trans hs1
 refine nl <| sq <| sq <| rg <| L (.ptr d0 w0 0) rfl rfl rfl <| L (.ptr d0 w0 0) rfl rfl rfl <| L (.ptr d0 w0 0) rfl rfl rfl <| L (Sl.av 1 c_i64 s_.L) rfl rfl (op_load rfl (ld_con (Sl.av 1 c_i64 s_.L) rfl rfl (cs := (c_gatemake_Stream ({ s_ with at_ := w64 (s_.at_ + 1) }))) ((con_con2 _ _ _ _ _ hh0).trans hk1) rfl)) <| L (iA (s_.L.list.length : Int)) rfl rfl (op_len rfl rfl rfl rfl rfl (len_sl _)) <| L (bA ((s_.L.list.length : Int) == 0)) rfl rfl rfl <| nl <| cd ((s_.L.list.length : Int) == 0) rfl (fun hc5 => ?_) (fun hc5 => ?_)
 · replace hF0 := ite_t hF0 (beq_t hc5)
   refine sq <| rg <| L (.ptr d0 w0 0) rfl rfl rfl <| L (.ptr d0 w0 0) rfl rfl rfl <| L (.ptr d0 w0 1) rfl rfl rfl <| L (iA (w64 (s_.at_ + 1))) rfl rfl (op_load rfl (ld_con (iA (w64 (s_.at_ + 1))) rfl rfl (cs := (c_gatemake_Stream ({ s_ with at_ := w64 (s_.at_ + 1) }))) ((con_con2 _ _ _ _ _ hh0).trans hk1) rfl)) <| L (iA (w64 ((w64 (s_.at_ + 1)) * 7919))) rfl rfl rfl <| L (iA n) rfl rfl rfl ?_
   obtain ⟨r4, h2, hF0⟩ := bind_some hF0
   refine WO_rd (g := 37) (args := [(iA (w64 ((w64 (s_.at_ + 1)) * 7919))), (iA n)]) (r := (iA r4)) _ _ rfl rfl rfl rfl rfl rfl rfl (ok_gatemake_Below _ _ h2 _ _ ) <| L (iA r4) rfl rfl rfl <| nl <| rt ?_
   obtain rfl := Option.some.inj hF0
   exact mut_leaf (.inr rfl) rfl (retV_pl _ _ (iA r4)) hk1 hs1
 · replace hF0 := ite_f hF0 (beq_f hc5)
   refine sk <| sq <| dw (by kernel_rfl) <| L (.ptr d0 w0 0) rfl rfl rfl <| L (.ptr d0 w0 0) rfl rfl rfl <| L (.ptr d0 w0 1) rfl rfl rfl <| L (iA (w64 (s_.at_ + 1))) rfl rfl (op_load rfl (ld_con (iA (w64 (s_.at_ + 1))) rfl rfl (cs := (c_gatemake_Stream ({ s_ with at_ := w64 (s_.at_ + 1) }))) ((con_con2 _ _ _ _ _ hh0).trans hk1) rfl)) <| L (iA (w64 ((w64 (s_.at_ + 1)) - 1))) rfl rfl rfl <| L (.ptr d0 w0 0) rfl rfl rfl <| L (.ptr d0 w0 0) rfl rfl rfl <| L (.ptr d0 w0 0) rfl rfl rfl <| L (Sl.av 1 c_i64 s_.L) rfl rfl (op_load rfl (ld_con (Sl.av 1 c_i64 s_.L) rfl rfl (cs := (c_gatemake_Stream ({ s_ with at_ := w64 (s_.at_ + 1) }))) ((con_con2 _ _ _ _ _ hh0).trans hk1) rfl)) <| L (iA (s_.L.list.length : Int)) rfl rfl (op_len rfl rfl rfl rfl rfl (len_sl _)) ?_
   obtain ⟨i, h_i, hF0⟩ := bind_some hF0
   refine L (iA i) rfl rfl (op_bin rfl (bin_rem h_i)) <| L (iA i) rfl rfl rfl <| nl <| sq <| dw (by kernel_rfl) <| L (.ptr d0 w0 0) rfl rfl rfl <| L (.ptr d0 w0 0) rfl rfl rfl <| L (.ptr d0 w0 1) rfl rfl rfl <| L (iA (w64 (s_.at_ + 1))) rfl rfl (op_load rfl (ld_con (iA (w64 (s_.at_ + 1))) rfl rfl (cs := (c_gatemake_Stream ({ s_ with at_ := w64 (s_.at_ + 1) }))) ((con_con2 _ _ _ _ _ hh0).trans hk1) rfl)) <| L (iA (w64 ((w64 (s_.at_ + 1)) - 1))) rfl rfl rfl <| L (.ptr d0 w0 0) rfl rfl rfl <| L (.ptr d0 w0 0) rfl rfl rfl <| L (.ptr d0 w0 0) rfl rfl rfl <| L (Sl.av 1 c_i64 s_.L) rfl rfl (op_load rfl (ld_con (Sl.av 1 c_i64 s_.L) rfl rfl (cs := (c_gatemake_Stream ({ s_ with at_ := w64 (s_.at_ + 1) }))) ((con_con2 _ _ _ _ _ hh0).trans hk1) rfl)) <| L (iA (s_.L.list.length : Int)) rfl rfl (op_len rfl rfl rfl rfl rfl (len_sl _)) ?_
   obtain ⟨round, h_round, hF0⟩ := bind_some hF0
   refine L (iA round) rfl rfl (op_bin rfl (bin_quo h_round)) <| L (iA round) rfl rfl rfl <| nl <| sq <| rg <| L (.ptr d0 w0 0) rfl rfl rfl <| L (.ptr d0 w0 0) rfl rfl rfl <| L (.ptr d0 w0 0) rfl rfl rfl <| L (Sl.av 1 c_i64 s_.L) rfl rfl (op_load rfl (ld_con (Sl.av 1 c_i64 s_.L) rfl rfl (cs := (c_gatemake_Stream ({ s_ with at_ := w64 (s_.at_ + 1) }))) ((con_con2 _ _ _ _ _ hh0).trans hk1) rfl)) <| L (iA i) rfl rfl rfl ?_
   obtain ⟨x, h_x, hF0⟩ := bind_some hF0
   refine L (.cptr [(iA x)]) rfl rfl (op_ix rfl (ix_sl (c := c_i64) rfl rfl h_x)) <| L (iA x) rfl rfl rfl ?_
   obtain ⟨r56, h3, hF0⟩ := bind_some hF0
   refine WO_rd (g := 37) (args := [(iA x), (iA 1073741824)]) (r := (iA r56)) _ _ rfl rfl rfl rfl rfl rfl rfl (ok_gatemake_Below _ _ h3 _ _ ) <| L (iA round) rfl rfl rfl <| L (iA i) rfl rfl rfl <| L (iA (w64 (7919 + i))) rfl rfl rfl <| L (iA (w64 (round * (w64 (7919 + i))))) rfl rfl rfl <| L (iA (w64 (r56 + (w64 (round * (w64 (7919 + i))))))) rfl rfl rfl <| L (iA n) rfl rfl rfl ?_
   obtain ⟨r41, h4, hF0⟩ := bind_some hF0
   refine WO_rd (g := 37) (args := [(iA (w64 (r56 + (w64 (round * (w64 (7919 + i))))))), (iA n)]) (r := (iA r41)) _ _ rfl rfl rfl rfl rfl rfl rfl (ok_gatemake_Below _ _ h4 _ _ ) <| L (iA r41) rfl rfl rfl <| nl <| rt ?_
   obtain rfl := Option.some.inj hF0
   exact mut_leaf (.inr rfl) rfl (retV_pl _ _ (iA r41)) hk1 hs1

theorem ok_gatemake_Stream_Range (s_ : gatemake_Stream) (low : Int) (high : Int) {r : (Int × gatemake_Stream)} (hF0 : gatemake_Stream_Range s_ low high = some r) : MutOk Try.prog pol 23 (fun p => [p, (iA low), (iA high)]) (c_gatemake_Stream s_) (iA r.1) (c_gatemake_Stream r.2) := by
 unfold gatemake_Stream_Range at hF0
 refine mut_walk Try.func23 rfl (fun _ => Nat.not_lt.2 (Nat.le_of_ble_eq_true rfl)) ?_
 intro out glob d0 w0 hh0 hk_0
 refine sq <| rg <| L (iA 0) rfl rfl rfl <| nl <| sq <| sq <| rg <| L (iA high) rfl rfl rfl <| L (iA low) rfl rfl rfl <| L (bA (decide (high < low))) rfl rfl rfl <| nl <| cd (decide (high < low)) rfl (fun hc2 => ?_) (fun hc2 => ?_)
 · replace hF0 := ite_t hF0 (dec_t hc2)
   refine sq <| rg <| L (iA low) rfl rfl rfl <| L (iA low) rfl rfl rfl <| nl <| rt ?_
   obtain rfl := Option.some.inj hF0
   exact mut_leaf (.inr rfl) rfl (retV_pl _ _ (iA low)) hk_0 (Same.refl _ _ _)
 · replace hF0 := ite_f hF0 (dec_f hc2)
   refine sk <| sq <| rg <| L (iA low) rfl rfl rfl <| L (.ptr d0 w0 0) rfl rfl rfl <| L (iA high) rfl rfl rfl <| L (iA low) rfl rfl rfl <| L (iA (w64 (high - low))) rfl rfl rfl <| L (iA (w64 ((w64 (high - low)) + 1))) rfl rfl rfl ?_
   obtain ⟨⟨r17, s_1⟩, h1, hF0⟩ := bind_some hF0
   refine WO_mutP (g := 14) (args := fun p => [p, (iA (w64 ((w64 (high - low)) + 1)))]) (d := d0) (v := w0) (r := (iA r17)) _ _ rfl rfl rfl rfl rfl rfl rfl (fun _ _ => inferInstance) hh0 hk_0 (ok_gatemake_Stream_Next _ _ h1) (fun out1 glob1 hk1 hs1 => ?_)
   replace hs1 := (Same.refl _ _ _).trans hs1
   refine L (iA (w64 (low + r17))) rfl rfl rfl <| L (iA (w64 (low + r17))) rfl rfl rfl <| nl <| rt ?_
   obtain rfl := Option.some.inj hF0
   exact mut_leaf (.inr rfl) rfl (retV_pl _ _ (iA (w64 (low + r17)))) hk1 hs1

theorem ok_gatemake_Stream_Pick (s_ : gatemake_Stream) (l : (Sl Int)) {r : (Int × gatemake_Stream)} (hF0 : gatemake_Stream_Pick s_ l = some r) : MutOk Try.prog pol 8 (fun p => [p, (Sl.av 1 c_i64 l)]) (c_gatemake_Stream s_) (iA r.1) (c_gatemake_Stream r.2) := by
 unfold gatemake_Stream_Pick at hF0
 refine mut_walk Try.func8 rfl (fun _ => Nat.not_lt.2 (Nat.le_of_ble_eq_true rfl)) ?_
 intro out glob d0 w0 hh0 hk_0
 refine sq <| rg <| L (iA 0) rfl rfl rfl <| nl <| sq <| rg <| L (Sl.av 1 c_i64 l) rfl rfl rfl <| L (.ptr d0 w0 0) rfl rfl rfl <| L (Sl.av 1 c_i64 l) rfl rfl rfl <| L (iA (l.list.length : Int)) rfl rfl (op_len rfl rfl rfl rfl rfl (len_sl _)) ?_
 obtain ⟨⟨r9, s_1⟩, h1, hF0⟩ := bind_some hF0
 refine WO_mutP (g := 14) (args := fun p => [p, (iA (l.list.length : Int))]) (d := d0) (v := w0) (r := (iA r9)) _ _ rfl rfl rfl rfl rfl rfl rfl (fun _ _ => inferInstance) hh0 hk_0 (ok_gatemake_Stream_Next _ _ h1) (fun out1 glob1 hk1 hs1 => ?_)
 replace hs1 := (Same.refl _ _ _).trans hs1
 obtain ⟨x, h_x, hF0⟩ := bind_some hF0
 refine L (.cptr [(iA x)]) rfl rfl (op_ix rfl (ix_sl (c := c_i64) rfl rfl h_x)) <| L (iA x) rfl rfl rfl <| L (iA x) rfl rfl rfl <| nl <| rt ?_
 obtain rfl := Option.some.inj hF0
 exact mut_leaf (.inr rfl) rfl (retV_pl _ _ (iA x)) hk1 hs1

theorem ok_gatemake_Stream_RightLimit (s_ : gatemake_Stream) (key : Str) {r : (api_Limit × gatemake_Stream)} (hF0 : gatemake_Stream_RightLimit s_ key = some r) : MutOk Try.prog pol 5 (fun p => [p, (sA key)]) (c_gatemake_Stream s_) (.agg (c_api_Limit r.1)) (c_gatemake_Stream r.2) := by
 unfold gatemake_Stream_RightLimit at hF0
 refine mut_walk Try.func5 rfl (fun _ => Nat.not_lt.2 (Nat.le_of_ble_eq_true rfl)) ?_
 intro out glob d0 w0 hh0 hk_0
 refine sq <| rg <| L (.ptr (.fr 0 4) 1 0) (h' := ⟨upd _ 4 ⟨1, .cells (c_api_Limit (api_Limit.mk [] 0 0 0 0))⟩, _, _⟩) rfl rfl (op_alloc (c_api_Limit (api_Limit.mk [] 0 0 0 0)) rfl rfl rfl rfl) <| nl <| sq <| rg <| L (sA key) rfl rfl rfl <| L (.ptr d0 w0 0) rfl rfl rfl ?_
 obtain ⟨⟨r8, s_1⟩, h1, hF0⟩ := bind_some hF0
 refine WO_mutP (g := 23) (args := fun p => [p, (iA 1), (iA 4)]) (d := d0) (v := w0) (r := (iA r8)) _ _ rfl rfl rfl rfl rfl rfl rfl (fun _ _ => inferInstance) hh0 hk_0 (ok_gatemake_Stream_Range _ _ _ h1) (fun out1 glob1 hk1 hs1 => ?_)
 replace hs1 := (Same.refl _ _ _).trans hs1
 refine L (.ptr d0 w0 0) rfl rfl rfl <| L (Sl.av 1 c_i64 (Sl.full [1, 2, 3, 5])) rfl rfl (op_sliceN rfl rfl rfl) ?_
 obtain ⟨⟨r11, s_2⟩, h2, hF0⟩ := bind_some hF0
 refine WO_mutP (g := 8) (args := fun p => [p, (Sl.av 1 c_i64 (Sl.full [1, 2, 3, 5]))]) (d := d0) (v := w0) (r := (iA r11)) _ _ rfl rfl rfl rfl rfl rfl rfl (fun _ _ => inferInstance) hh0 hk1 (ok_gatemake_Stream_Pick _ _ h2) (fun out2 glob2 hk2 hs2 => ?_)
 replace hs2 := hs1.trans hs2
 refine L (.ptr d0 w0 0) rfl rfl rfl <| L (Sl.av 1 c_i64 (Sl.full [1, 7, 10, 50, 100])) rfl rfl (op_sliceN rfl rfl rfl) ?_
 obtain ⟨⟨r14, s_3⟩, h3, hF0⟩ := bind_some hF0
 refine WO_mutP (g := 8) (args := fun p => [p, (Sl.av 1 c_i64 (Sl.full [1, 7, 10, 50, 100]))]) (d := d0) (v := w0) (r := (iA r14)) _ _ rfl rfl rfl rfl rfl rfl rfl (fun _ _ => inferInstance) hh0 hk2 (ok_gatemake_Stream_Pick _ _ h3) (fun out3 glob3 hk3 hs3 => ?_)
 replace hs3 := hs2.trans hs3
 refine L (.agg (c_api_Limit (api_Limit.mk key r8 r11 r14 0))) rfl rfl (op_build rfl (build_st (cs := (c_api_Limit (api_Limit.mk key r8 r11 r14 0))) rfl rfl rfl (fill_cons (x := (sA key)) rfl rfl (Nat.le_of_ble_eq_true rfl) (fill_cons (x := (iA r8)) rfl rfl (Nat.le_of_ble_eq_true rfl) (fill_cons (x := (iA r11)) rfl rfl (Nat.le_of_ble_eq_true rfl) (fill_cons (x := (iA r14)) rfl rfl (Nat.le_of_ble_eq_true rfl) (fill_nil))))))) <| L (.ptr (.fr 0 5) 1 0) (h' := ⟨upd _ 5 ⟨1, .cells (c_api_Limit (api_Limit.mk [] 0 0 0 0))⟩, _, _⟩) rfl rfl (op_alloc (c_api_Limit (api_Limit.mk [] 0 0 0 0)) rfl rfl rfl rfl) <| L (.tup []) (h' := ⟨upd _ 5 ⟨1, .cells (c_api_Limit (api_Limit.mk key r8 r11 r14 0))⟩, _, _⟩) rfl rfl (op_store rfl rfl (st_fr (x := (.agg (c_api_Limit (api_Limit.mk key r8 r11 r14 0)))) (c_api_Limit (api_Limit.mk key r8 r11 r14 0)) rfl rfl (Nat.le_of_ble_eq_true rfl) rfl)) <| nl <| sq <| sq <| rg <| L (.ptr (.fr 0 5) 1 1) rfl rfl rfl <| L (iA r8) rfl rfl (op_load rfl (ld_con (iA r8) rfl rfl (cs := (c_api_Limit (api_Limit.mk key r8 r11 r14 0))) (con_fr rfl) rfl)) <| nl <| bk <| sq <| rg <| L (bA (r8 == 3)) rfl rfl rfl <| L (bA (r8 == 3)) rfl rfl rfl <| nl <| cd (r8 == 3) rfl (fun hc6 => ?_) (fun hc6 => ?_)
 · replace hF0 := ite_t hF0 (beq_t hc6)
   refine rg <| L (.ptr d0 w0 0) rfl rfl rfl <| L (Sl.av 1 c_i64 (Sl.full [1, 2, 5])) rfl rfl (op_sliceN rfl rfl rfl) ?_
   obtain ⟨⟨r22, s_4⟩, h4, hF0⟩ := bind_some hF0
   refine WO_mutP (g := 8) (args := fun p => [p, (Sl.av 1 c_i64 (Sl.full [1, 2, 5]))]) (d := d0) (v := w0) (r := (iA r22)) _ _ rfl rfl rfl rfl rfl rfl rfl (fun _ _ => inferInstance) hh0 hk3 (ok_gatemake_Stream_Pick _ _ h4) (fun out4 glob4 hk4 hs4 => ?_)
   replace hs4 := hs3.trans hs4
   refine L (.ptr (.fr 0 5) 1 4) rfl rfl rfl <| L (.tup []) (h' := ⟨upd _ 5 ⟨1, .cells (c_api_Limit (api_Limit.mk key r8 r11 r14 r22))⟩, _, _⟩) rfl rfl (op_store rfl rfl (st_fr (x := (iA r22)) (c_api_Limit (api_Limit.mk key r8 r11 r14 r22)) rfl rfl (Nat.le_of_ble_eq_true rfl) rfl)) <| nl <| sq <| rg <| L (.agg (c_api_Limit (api_Limit.mk key r8 r11 r14 r22))) rfl rfl (op_load rfl (ld_con (.agg (c_api_Limit (api_Limit.mk key r8 r11 r14 r22))) rfl rfl (cs := (c_api_Limit (api_Limit.mk key r8 r11 r14 r22))) (con_fr rfl) rfl)) <| L (.tup []) (h' := ⟨upd _ 4 ⟨1, .cells (c_api_Limit (api_Limit.mk key r8 r11 r14 r22))⟩, _, _⟩) rfl rfl (op_store rfl rfl (st_fr (x := (.agg (c_api_Limit (api_Limit.mk key r8 r11 r14 r22)))) (c_api_Limit (api_Limit.mk key r8 r11 r14 r22)) rfl rfl (Nat.le_of_ble_eq_true rfl) rfl)) <| nl <| rt ?_
   obtain rfl := Option.some.inj hF0
   exact mut_leaf (.inr rfl) rfl (retV_pl _ _ (.agg (c_api_Limit (api_Limit.mk key r8 r11 r14 r22)))) hk4 hs4
 · replace hF0 := ite_f hF0 (beq_f hc6)
   refine sq <| rg <| L (bA (r8 == 4)) rfl rfl rfl <| L (bA (r8 == 4)) rfl rfl rfl <| nl <| cd (r8 == 4) rfl (fun hc5 => ?_) (fun hc5 => ?_)
   · replace hF0 := ite_t hF0 (beq_t hc5)
     refine rg <| L (.ptr (.fr 0 5) 1 3) rfl rfl rfl <| L (.tup []) (h' := ⟨upd _ 5 ⟨1, .cells (c_api_Limit (api_Limit.mk key r8 r11 0 0))⟩, _, _⟩) rfl rfl (op_store rfl rfl (st_fr (x := (iA 0)) (c_api_Limit (api_Limit.mk key r8 r11 0 0)) rfl rfl (Nat.le_of_ble_eq_true rfl) rfl)) <| nl <| sq <| rg <| L (.agg (c_api_Limit (api_Limit.mk key r8 r11 0 0))) rfl rfl (op_load rfl (ld_con (.agg (c_api_Limit (api_Limit.mk key r8 r11 0 0))) rfl rfl (cs := (c_api_Limit (api_Limit.mk key r8 r11 0 0))) (con_fr rfl) rfl)) <| L (.tup []) (h' := ⟨upd _ 4 ⟨1, .cells (c_api_Limit (api_Limit.mk key r8 r11 0 0))⟩, _, _⟩) rfl rfl (op_store rfl rfl (st_fr (x := (.agg (c_api_Limit (api_Limit.mk key r8 r11 0 0)))) (c_api_Limit (api_Limit.mk key r8 r11 0 0)) rfl rfl (Nat.le_of_ble_eq_true rfl) rfl)) <| nl <| rt ?_
     obtain rfl := Option.some.inj hF0
     exact mut_leaf (.inr rfl) rfl (retV_pl _ _ (.agg (c_api_Limit (api_Limit.mk key r8 r11 0 0)))) hk3 hs3
   · replace hF0 := ite_f hF0 (beq_f hc5)
     refine sk <| sq <| rg <| L (.agg (c_api_Limit (api_Limit.mk key r8 r11 r14 0))) rfl rfl (op_load rfl (ld_con (.agg (c_api_Limit (api_Limit.mk key r8 r11 r14 0))) rfl rfl (cs := (c_api_Limit (api_Limit.mk key r8 r11 r14 0))) (con_fr rfl) rfl)) <| L (.tup []) (h' := ⟨upd _ 4 ⟨1, .cells (c_api_Limit (api_Limit.mk key r8 r11 r14 0))⟩, _, _⟩) rfl rfl (op_store rfl rfl (st_fr (x := (.agg (c_api_Limit (api_Limit.mk key r8 r11 r14 0)))) (c_api_Limit (api_Limit.mk key r8 r11 r14 0)) rfl rfl (Nat.le_of_ble_eq_true rfl) rfl)) <| nl <| rt ?_
     obtain rfl := Option.some.inj hF0
     exact mut_leaf (.inr rfl) rfl (retV_pl _ _ (.agg (c_api_Limit (api_Limit.mk key r8 r11 r14 0)))) hk3 hs3

theorem ok_gatemake_Stream_Flip (s_ : gatemake_Stream) (n : Int) {r : (Bool × gatemake_Stream)} (hF0 : gatemake_Stream_Flip s_ n = some r) : MutOk Try.prog pol 6 (fun p => [p, (iA n)]) (c_gatemake_Stream s_) (bA r.1) (c_gatemake_Stream r.2) := by
 unfold gatemake_Stream_Flip at hF0
 refine mut_walk Try.func6 rfl (fun _ => Nat.not_lt.2 (Nat.le_of_ble_eq_true rfl)) ?_
 intro out glob d0 w0 hh0 hk_0
 refine sq <| rg <| L (bA false) rfl rfl rfl <| nl <| sq <| rg <| L (.ptr d0 w0 0) rfl rfl rfl <| L (iA n) rfl rfl rfl ?_
 obtain ⟨⟨r7, s_1⟩, h1, hF0⟩ := bind_some hF0
 refine WO_mutP (g := 14) (args := fun p => [p, (iA n)]) (d := d0) (v := w0) (r := (iA r7)) _ _ rfl rfl rfl rfl rfl rfl rfl (fun _ _ => inferInstance) hh0 hk_0 (ok_gatemake_Stream_Next _ _ h1) (fun out1 glob1 hk1 hs1 => ?_)
 replace hs1 := (Same.refl _ _ _).trans hs1
 refine L (bA (r7 == 0)) rfl rfl rfl <| L (bA (r7 == 0)) rfl rfl rfl <| nl <| rt ?_
 obtain rfl := Option.some.inj hF0
 exact mut_leaf (.inr rfl) rfl (retV_pl _ _ (bA (r7 == 0))) hk1 hs1

theorem ok_gatemake_Stream_Odd (s_ : gatemake_Stream) (low : Int) (high : Int) {r : (Int × gatemake_Stream)} (hF0 : gatemake_Stream_Odd s_ low high = some r) : MutOk Try.prog pol 7 (fun p => [p, (iA low), (iA high)]) (c_gatemake_Stream s_) (iA r.1) (c_gatemake_Stream r.2) := by
 unfold gatemake_Stream_Odd at hF0
 refine mut_walk Try.func7 rfl (fun _ => Nat.not_lt.2 (Nat.le_of_ble_eq_true rfl)) ?_
 intro out glob d0 w0 hh0 hk_0
 refine sq <| rg <| L (iA 0) rfl rfl rfl <| nl <| sq <| sq <| rg <| L (.ptr d0 w0 0) rfl rfl rfl ?_
 obtain ⟨⟨r8, s_1⟩, h1, hF0⟩ := bind_some hF0
 refine WO_mutP (g := 6) (args := fun p => [p, (iA 12)]) (d := d0) (v := w0) (r := (bA r8)) _ _ rfl rfl rfl rfl rfl rfl rfl (fun _ _ => inferInstance) hh0 hk_0 (ok_gatemake_Stream_Flip _ _ h1) (fun out1 glob1 hk1 hs1 => ?_)
 replace hs1 := (Same.refl _ _ _).trans hs1
 refine nl <| cd r8 rfl (fun hc4 => ?_) (fun hc4 => ?_)
 · replace hF0 := ite_t hF0 (hc4)
   refine sq <| rg <| L (.ptr d0 w0 0) rfl rfl rfl <| L (iA low) rfl rfl rfl <| L (iA (w64 (low - 1))) rfl rfl rfl <| L (iA high) rfl rfl rfl <| L (iA (w64 (high + 1))) rfl rfl rfl <| L (iA low) rfl rfl rfl <| L (iA high) rfl rfl rfl <| L (Sl.av 1 c_i64 (Sl.full [w64 (low - 1), w64 (high + 1), low, high, (-1099511627776), 1099511627776])) rfl rfl (op_sliceN rfl rfl rfl) ?_
   obtain ⟨⟨r6, s_2⟩, h2, hF0⟩ := bind_some hF0
   refine WO_mutP (g := 8) (args := fun p => [p, (Sl.av 1 c_i64 (Sl.full [w64 (low - 1), w64 (high + 1), low, high, (-1099511627776), 1099511627776]))]) (d := d0) (v := w0) (r := (iA r6)) _ _ rfl rfl rfl rfl rfl rfl rfl (fun _ _ => inferInstance) hh0 hk1 (ok_gatemake_Stream_Pick _ _ h2) (fun out2 glob2 hk2 hs2 => ?_)
   replace hs2 := hs1.trans hs2
   refine L (iA r6) rfl rfl rfl <| nl <| rt ?_
   obtain rfl := Option.some.inj hF0
   exact mut_leaf (.inr rfl) rfl (retV_pl _ _ (iA r6)) hk2 hs2
 · replace hF0 := ite_f hF0 (not_t hc4)
   refine sk <| sq <| rg <| L (.ptr d0 w0 0) rfl rfl rfl <| L (iA low) rfl rfl rfl <| L (iA high) rfl rfl rfl ?_
   obtain ⟨⟨r61, s_3⟩, h3, hF0⟩ := bind_some hF0
   refine WO_mutP (g := 23) (args := fun p => [p, (iA low), (iA high)]) (d := d0) (v := w0) (r := (iA r61)) _ _ rfl rfl rfl rfl rfl rfl rfl (fun _ _ => inferInstance) hh0 hk1 (ok_gatemake_Stream_Range _ _ _ h3) (fun out3 glob3 hk3 hs3 => ?_)
   replace hs3 := hs1.trans hs3
   refine L (iA r61) rfl rfl rfl <| nl <| rt ?_
   obtain rfl := Option.some.inj hF0
   exact mut_leaf (.inr rfl) rfl (retV_pl _ _ (iA r61)) hk3 hs3

theorem ok_kit_IsKey (s_ : Str) {r : (Bool)} (hF0 : kit_IsKey s_ = some r) (out : List AE.Frame) (glob : List AObj) : RdOk Try.prog pol true 61 [(sA s_)] out glob (bA r) := by
 unfold kit_IsKey at hF0
 refine rd_walk Try.func61 rfl (Nat.not_lt.2 (Nat.le_of_ble_eq_true rfl)) ?_
 intro ro
 refine sq <| rg <| L (bA false) rfl rfl rfl <| nl <| sq <| sq <| rg <| L (iA 0) rfl rfl rfl <| nl <| bk ?_
 obtain ⟨b1, hb36, hF0⟩ := bind_some hF0
 obtain ⟨J36, hJ36⟩ : ∃ J : St → Prop, ∀ st, J st ↔ (∃ (tm38 : Nat → AV) (cb38 : AE.Frame), st = ⟨tm38, ⟨cb38, out, glob⟩⟩ ∧ AllEq tm38 [(0, (sA s_))] ∧ AllEq cb38 [] ∧ Res.out () = b1) := ⟨_, fun _ => Iff.rfl⟩
 obtain ⟨R36, hR36⟩ : ∃ R : (Int) → St → Prop, ∀ v st, R v st ↔ (match v with | i1 => ∃ (tm37 : Nat → AV) (cb37 : AE.Frame), st = ⟨tm37, ⟨cb37, out, glob⟩⟩ ∧ AllEq tm37 [(0, (sA s_)), (3, (iA i1))] ∧ AllEq cb37 []) := ⟨_, fun _ _ => Iff.rfl⟩
 refine W_loopcut J36 (fun st hst => ?_) ?_
 · obtain ⟨tm38, cb38, rfl, hT38, hC38, rfl⟩ := (hJ36 st).1 hst
   obtain ⟨tm38, rfl⟩ := allEq hT38
   obtain ⟨cb38, rfl⟩ := allEq hC38
   replace hF0 := res_out hF0
   refine sq <| rg <| L (sA s_) rfl rfl rfl <| L (bA (s_ != [])) rfl rfl (op_bin rfl bin_sne) ?_
   obtain ⟨J73, hJ73⟩ : ∃ J : St → Prop, ∀ st, J st ↔ (∃ (tm74 : Nat → AV) (cb74 : AE.Frame), st = ⟨tm74, ⟨cb74, out, glob⟩⟩ ∧ AllEq tm74 [(47, (bA ((s_ != []) && (decide ((s_.length : Int) ≤ 40)))))] ∧ AllEq cb74 []) := ⟨_, fun _ => Iff.rfl⟩
   refine WO_cut 5 J73 (fun st hst => ?_) ?_
   · obtain ⟨tm74, cb74, rfl, hT74, hC74⟩ := (hJ73 st).1 hst
     obtain ⟨tm74, rfl⟩ := allEq hT74
     obtain ⟨cb74, rfl⟩ := allEq hC74
     refine L (bA ((s_ != []) && (decide ((s_.length : Int) ≤ 40)))) rfl rfl rfl <| nl <| rt ?_
     obtain rfl := Option.some.inj hF0
     exact rd_leaf (.inr rfl) rfl (retV_pl _ _ (bA ((s_ != []) && (decide ((s_.length : Int) ≤ 40))))) rfl rfl
   · rcases bool_cases (s_ != []) with hc73 | hc73
     · exact L (.bool true) rfl rfl (congrArg (fun b => some (AV.bool b, _)) hc73) <| L (sA s_) rfl rfl rfl <| L (iA (s_.length : Int)) rfl rfl rfl <| L (bA (decide ((s_.length : Int) ≤ 40))) rfl rfl rfl <| L (bA ((s_ != []) && (decide ((s_.length : Int) ≤ 40)))) rfl rfl (congrArg (fun b => some (AV.bool b, _)) (by rw [hc73]; rfl)) <| nl ((hJ73 _).2 ⟨_, _, rfl, (And.intro rfl True.intro), True.intro⟩)
     · exact L (.bool false) rfl rfl (congrArg (fun b => some (AV.bool b, _)) hc73) <| WO_no _ rfl rfl <| WO_no _ rfl rfl <| WO_no _ rfl rfl <| L (bA ((s_ != []) && (decide ((s_.length : Int) ≤ 40)))) rfl rfl (congrArg (fun b => some (AV.bool b, _)) (by rw [hc73]; rfl)) <| nl ((hJ73 _).2 ⟨_, _, rfl, (And.intro rfl True.intro), True.intro⟩)
 · refine W_loopV hb36 R36 ((hR36 _ _).2 ⟨_, _, rfl, (And.intro rfl (And.intro rfl True.intro)), True.intro⟩) ?_
   intro v st s hr hF1 hD1
   obtain ⟨i1, hv_⟩ : ∃ z, z = v := ⟨_, rfl⟩; subst hv_
   obtain ⟨tm37, cb37, rfl, hT37, hC37⟩ := (hR36 _ _).1 hr
   obtain ⟨tm37, rfl⟩ := allEq hT37
   obtain ⟨cb37, rfl⟩ := allEq hC37
   dsimp only [kit_IsKey_l0] at hF1
   refine sq <| sq <| rg <| L (iA i1) rfl rfl rfl <| L (sA s_) rfl rfl rfl <| L (iA (s_.length : Int)) rfl rfl rfl <| L (bA (decide (i1 < (s_.length : Int)))) rfl rfl rfl <| nl <| cd (decide (i1 < (s_.length : Int))) rfl (fun hc72 => ?_) (fun hc72 => ?_)
   · replace hF1 := ite_t hF1 (dec_t hc72)
     refine sk <| sq <| bk <| sq <| rg <| L (sA s_) rfl rfl rfl <| L (iA i1) rfl rfl rfl ?_
     obtain ⟨c1, h_c1, hF1⟩ := bind_some hF1
     refine L (.int .u8 c1) rfl rfl (op_index rfl (ix_str rfl h_c1)) <| L (.int .u8 c1) rfl rfl rfl <| nl <| sq <| rg <| L (.int .u8 c1) rfl rfl rfl <| L (bA (decide (c1 ≥ 97))) rfl rfl rfl ?_
     obtain ⟨J39, hJ39⟩ : ∃ J : St → Prop, ∀ st, J st ↔ (∃ (tm40 : Nat → AV) (cb40 : AE.Frame), st = ⟨tm40, ⟨cb40, out, glob⟩⟩ ∧ AllEq tm40 [(0, (sA s_)), (3, (iA i1)), (4, (.int .u8 c1)), (19, (bA ((decide (c1 ≥ 97)) && (decide (c1 ≤ 122)))))] ∧ AllEq cb40 []) := ⟨_, fun _ => Iff.rfl⟩
     refine WO_cut 4 J39 (fun st hst => ?_) ?_
     · obtain ⟨tm40, cb40, rfl, hT40, hC40⟩ := (hJ39 st).1 hst
       obtain ⟨tm40, rfl⟩ := allEq hT40
       obtain ⟨cb40, rfl⟩ := allEq hC40
       obtain ⟨J55, hJ55⟩ : ∃ J : St → Prop, ∀ st, J st ↔ (∃ (tm56 : Nat → AV) (cb56 : AE.Frame), st = ⟨tm56, ⟨cb56, out, glob⟩⟩ ∧ AllEq tm56 [(0, (sA s_)), (3, (iA i1)), (39, (bA (((decide (c1 ≥ 97)) && (decide (c1 ≤ 122))) || ((decide (i1 > 0)) && ((((decide (c1 ≥ 48)) && (decide (c1 ≤ 57))) || (c1 == 45)) || (c1 == 95))))))] ∧ AllEq cb56 []) := ⟨_, fun _ => Iff.rfl⟩
       refine WO_cut 20 J55 (fun st hst => ?_) ?_
       · obtain ⟨tm56, cb56, rfl, hT56, hC56⟩ := (hJ55 st).1 hst
         obtain ⟨tm56, rfl⟩ := allEq hT56
         obtain ⟨cb56, rfl⟩ := allEq hC56
         refine L (bA (!(((decide (c1 ≥ 97)) && (decide (c1 ≤ 122))) || ((decide (i1 > 0)) && ((((decide (c1 ≥ 48)) && (decide (c1 ≤ 57))) || (c1 == 45)) || (c1 == 95)))))) rfl rfl rfl <| nl <| cd (!(((decide (c1 ≥ 97)) && (decide (c1 ≤ 122))) || ((decide (i1 > 0)) && ((((decide (c1 ≥ 48)) && (decide (c1 ≤ 57))) || (c1 == 45)) || (c1 == 95))))) rfl (fun hc57 => ?_) (fun hc57 => ?_)
         · replace hF1 := ite_t hF1 (hc57)
           refine sq <| rg <| L (bA false) rfl rfl rfl <| nl <| rt ?_
           obtain rfl := hD1 _ (Option.some.inj hF1).symm
           replace hF0 := res_ret hF0
           obtain rfl := Option.some.inj hF0
           exact rd_leaf (.inr rfl) rfl (retV_pl _ _ (bA false)) rfl rfl
         · replace hF1 := ite_f hF1 (not_t hc57)
           exact sk <| rg <| L (iA i1) rfl rfl rfl <| L (iA (w64 (i1 + 1))) rfl rfl rfl <| L (iA (w64 (i1 + 1))) rfl rfl rfl <| nl <| Exists.intro _ (And.intro (Option.some.inj hF1).symm ((hR36  _ _).2 ⟨_, _, rfl, (And.intro rfl (And.intro rfl True.intro)), True.intro⟩))
       · rcases bool_cases ((decide (c1 ≥ 97)) && (decide (c1 ≤ 122))) with hc55 | hc55
         · exact L (.bool true) rfl rfl (congrArg (fun b => some (AV.bool b, _)) hc55) <| WO_no _ rfl rfl <| WO_no _ rfl rfl <| WO_no _ rfl rfl <| WO_no _ rfl rfl <| WO_no _ rfl rfl <| WO_no _ rfl rfl <| WO_no _ rfl rfl <| WO_no _ rfl rfl <| WO_no _ rfl rfl <| WO_no _ rfl rfl <| WO_no _ rfl rfl <| WO_no _ rfl rfl <| WO_no _ rfl rfl <| WO_no _ rfl rfl <| WO_no _ rfl rfl <| WO_no _ rfl rfl <| WO_no _ rfl rfl <| WO_no _ rfl rfl <| L (bA (((decide (c1 ≥ 97)) && (decide (c1 ≤ 122))) || ((decide (i1 > 0)) && ((((decide (c1 ≥ 48)) && (decide (c1 ≤ 57))) || (c1 == 45)) || (c1 == 95))))) rfl rfl (congrArg (fun b => some (AV.bool b, _)) (by rw [hc55]; rfl)) <| nl ((hJ55 _).2 ⟨_, _, rfl, (And.intro rfl (And.intro rfl (And.intro rfl True.intro))), True.intro⟩)
         · refine L (.bool false) rfl rfl (congrArg (fun b => some (AV.bool b, _)) hc55) <| L (iA i1) rfl rfl rfl <| L (bA (decide (i1 > 0))) rfl rfl rfl ?_
           obtain ⟨J64, hJ64⟩ : ∃ J : St → Prop, ∀ st, J st ↔ (∃ (tm65 : Nat → AV) (cb65 : AE.Frame), st = ⟨tm65, ⟨cb65, out, glob⟩⟩ ∧ AllEq tm65 [(0, (sA s_)), (3, (iA i1)), (20, (bA false)), (21, (iA i1)), (22, (bA (decide (i1 > 0)))), (38, (bA ((decide (i1 > 0)) && ((((decide (c1 ≥ 48)) && (decide (c1 ≤ 57))) || (c1 == 45)) || (c1 == 95)))))] ∧ AllEq cb65 []) := ⟨_, fun _ => Iff.rfl⟩
           refine WO_cut 16 J64 (fun st hst => ?_) ?_
           · obtain ⟨tm65, cb65, rfl, hT65, hC65⟩ := (hJ64 st).1 hst
             obtain ⟨tm65, rfl⟩ := allEq hT65
             obtain ⟨cb65, rfl⟩ := allEq hC65
             exact L (bA (((decide (c1 ≥ 97)) && (decide (c1 ≤ 122))) || ((decide (i1 > 0)) && ((((decide (c1 ≥ 48)) && (decide (c1 ≤ 57))) || (c1 == 45)) || (c1 == 95))))) rfl rfl (congrArg (fun b => some (AV.bool b, _)) (by rw [hc55]; rfl)) <| nl ((hJ55 _).2 ⟨_, _, rfl, (And.intro rfl (And.intro rfl (And.intro rfl True.intro))), True.intro⟩)
           · rcases bool_cases (decide (i1 > 0)) with hc64 | hc64
             · refine L (.bool true) rfl rfl (congrArg (fun b => some (AV.bool b, _)) hc64) <| L (.int .u8 c1) rfl rfl rfl <| L (bA (decide (c1 ≥ 48))) rfl rfl rfl ?_
               obtain ⟨J66, hJ66⟩ : ∃ J : St → Prop, ∀ st, J st ↔ (∃ (tm67 : Nat → AV) (cb67 : AE.Frame), st = ⟨tm67, ⟨cb67, out, glob⟩⟩ ∧ AllEq tm67 [(0, (sA s_)), (3, (iA i1)), (4, (.int .u8 c1)), (20, (bA false)), (21, (iA i1)), (22, (bA (decide (i1 > 0)))), (23, (bA true)), (24, (.int .u8 c1)), (25, (bA (decide (c1 ≥ 48)))), (29, (bA ((decide (c1 ≥ 48)) && (decide (c1 ≤ 57)))))] ∧ AllEq cb67 []) := ⟨_, fun _ => Iff.rfl⟩
               refine WO_cut 4 J66 (fun st hst => ?_) ?_
               · obtain ⟨tm67, cb67, rfl, hT67, hC67⟩ := (hJ66 st).1 hst
                 obtain ⟨tm67, rfl⟩ := allEq hT67
                 obtain ⟨cb67, rfl⟩ := allEq hC67
                 obtain ⟨J68, hJ68⟩ : ∃ J : St → Prop, ∀ st, J st ↔ (∃ (tm69 : Nat → AV) (cb69 : AE.Frame), st = ⟨tm69, ⟨cb69, out, glob⟩⟩ ∧ AllEq tm69 [(0, (sA s_)), (3, (iA i1)), (4, (.int .u8 c1)), (20, (bA false)), (21, (iA i1)), (22, (bA (decide (i1 > 0)))), (23, (bA true)), (24, (.int .u8 c1)), (25, (bA (decide (c1 ≥ 48)))), (29, (bA ((decide (c1 ≥ 48)) && (decide (c1 ≤ 57))))), (33, (bA (((decide (c1 ≥ 48)) && (decide (c1 ≤ 57))) || (c1 == 45))))] ∧ AllEq cb69 []) := ⟨_, fun _ => Iff.rfl⟩
                 refine WO_cut 4 J68 (fun st hst => ?_) ?_
                 · obtain ⟨tm69, cb69, rfl, hT69, hC69⟩ := (hJ68 st).1 hst
                   obtain ⟨tm69, rfl⟩ := allEq hT69
                   obtain ⟨cb69, rfl⟩ := allEq hC69
                   obtain ⟨J70, hJ70⟩ : ∃ J : St → Prop, ∀ st, J st ↔ (∃ (tm71 : Nat → AV) (cb71 : AE.Frame), st = ⟨tm71, ⟨cb71, out, glob⟩⟩ ∧ AllEq tm71 [(0, (sA s_)), (3, (iA i1)), (20, (bA false)), (21, (iA i1)), (22, (bA (decide (i1 > 0)))), (23, (bA true)), (24, (.int .u8 c1)), (25, (bA (decide (c1 ≥ 48)))), (29, (bA ((decide (c1 ≥ 48)) && (decide (c1 ≤ 57))))), (33, (bA (((decide (c1 ≥ 48)) && (decide (c1 ≤ 57))) || (c1 == 45)))), (37, (bA ((((decide (c1 ≥ 48)) && (decide (c1 ≤ 57))) || (c1 == 45)) || (c1 == 95))))] ∧ AllEq cb71 []) := ⟨_, fun _ => Iff.rfl⟩
                   refine WO_cut 4 J70 (fun st hst => ?_) ?_
                   · obtain ⟨tm71, cb71, rfl, hT71, hC71⟩ := (hJ70 st).1 hst
                     obtain ⟨tm71, rfl⟩ := allEq hT71
                     obtain ⟨cb71, rfl⟩ := allEq hC71
                     exact L (bA ((decide (i1 > 0)) && ((((decide (c1 ≥ 48)) && (decide (c1 ≤ 57))) || (c1 == 45)) || (c1 == 95)))) rfl rfl (congrArg (fun b => some (AV.bool b, _)) (by rw [hc64]; rfl)) <| nl ((hJ64 _).2 ⟨_, _, rfl, (And.intro rfl (And.intro rfl (And.intro rfl (And.intro rfl (And.intro rfl (And.intro rfl True.intro)))))), True.intro⟩)
                   · rcases bool_cases (((decide (c1 ≥ 48)) && (decide (c1 ≤ 57))) || (c1 == 45)) with hc70 | hc70
                     · exact L (.bool true) rfl rfl (congrArg (fun b => some (AV.bool b, _)) hc70) <| WO_no _ rfl rfl <| WO_no _ rfl rfl <| L (bA ((((decide (c1 ≥ 48)) && (decide (c1 ≤ 57))) || (c1 == 45)) || (c1 == 95))) rfl rfl (congrArg (fun b => some (AV.bool b, _)) (by rw [hc70]; rfl)) <| nl ((hJ70 _).2 ⟨_, _, rfl, (And.intro rfl (And.intro rfl (And.intro rfl (And.intro rfl (And.intro rfl (And.intro rfl (And.intro rfl (And.intro rfl (And.intro rfl (And.intro rfl (And.intro rfl True.intro))))))))))), True.intro⟩)
                     · exact L (.bool false) rfl rfl (congrArg (fun b => some (AV.bool b, _)) hc70) <| L (.int .u8 c1) rfl rfl rfl <| L (bA (c1 == 95)) rfl rfl rfl <| L (bA ((((decide (c1 ≥ 48)) && (decide (c1 ≤ 57))) || (c1 == 45)) || (c1 == 95))) rfl rfl (congrArg (fun b => some (AV.bool b, _)) (by rw [hc70]; rfl)) <| nl ((hJ70 _).2 ⟨_, _, rfl, (And.intro rfl (And.intro rfl (And.intro rfl (And.intro rfl (And.intro rfl (And.intro rfl (And.intro rfl (And.intro rfl (And.intro rfl (And.intro rfl (And.intro rfl True.intro))))))))))), True.intro⟩)
                 · rcases bool_cases ((decide (c1 ≥ 48)) && (decide (c1 ≤ 57))) with hc68 | hc68
                   · exact L (.bool true) rfl rfl (congrArg (fun b => some (AV.bool b, _)) hc68) <| WO_no _ rfl rfl <| WO_no _ rfl rfl <| L (bA (((decide (c1 ≥ 48)) && (decide (c1 ≤ 57))) || (c1 == 45))) rfl rfl (congrArg (fun b => some (AV.bool b, _)) (by rw [hc68]; rfl)) <| nl ((hJ68 _).2 ⟨_, _, rfl, (And.intro rfl (And.intro rfl (And.intro rfl (And.intro rfl (And.intro rfl (And.intro rfl (And.intro rfl (And.intro rfl (And.intro rfl (And.intro rfl (And.intro rfl True.intro))))))))))), True.intro⟩)
                   · exact L (.bool false) rfl rfl (congrArg (fun b => some (AV.bool b, _)) hc68) <| L (.int .u8 c1) rfl rfl rfl <| L (bA (c1 == 45)) rfl rfl rfl <| L (bA (((decide (c1 ≥ 48)) && (decide (c1 ≤ 57))) || (c1 == 45))) rfl rfl (congrArg (fun b => some (AV.bool b, _)) (by rw [hc68]; rfl)) <| nl ((hJ68 _).2 ⟨_, _, rfl, (And.intro rfl (And.intro rfl (And.intro rfl (And.intro rfl (And.intro rfl (And.intro rfl (And.intro rfl (And.intro rfl (And.intro rfl (And.intro rfl (And.intro rfl True.intro))))))))))), True.intro⟩)
               · rcases bool_cases (decide (c1 ≥ 48)) with hc66 | hc66
                 · exact L (.bool true) rfl rfl (congrArg (fun b => some (AV.bool b, _)) hc66) <| L (.int .u8 c1) rfl rfl rfl <| L (bA (decide (c1 ≤ 57))) rfl rfl rfl <| L (bA ((decide (c1 ≥ 48)) && (decide (c1 ≤ 57)))) rfl rfl (congrArg (fun b => some (AV.bool b, _)) (by rw [hc66]; rfl)) <| nl ((hJ66 _).2 ⟨_, _, rfl, (And.intro rfl (And.intro rfl (And.intro rfl (And.intro rfl (And.intro rfl (And.intro rfl (And.intro rfl (And.intro rfl (And.intro rfl (And.intro rfl True.intro)))))))))), True.intro⟩)
                 · exact L (.bool false) rfl rfl (congrArg (fun b => some (AV.bool b, _)) hc66) <| WO_no _ rfl rfl <| WO_no _ rfl rfl <| L (bA ((decide (c1 ≥ 48)) && (decide (c1 ≤ 57)))) rfl rfl (congrArg (fun b => some (AV.bool b, _)) (by rw [hc66]; rfl)) <| nl ((hJ66 _).2 ⟨_, _, rfl, (And.intro rfl (And.intro rfl (And.intro rfl (And.intro rfl (And.intro rfl (And.intro rfl (And.intro rfl (And.intro rfl (And.intro rfl (And.intro rfl True.intro)))))))))), True.intro⟩)
             · exact L (.bool false) rfl rfl (congrArg (fun b => some (AV.bool b, _)) hc64) <| WO_no _ rfl rfl <| WO_no _ rfl rfl <| WO_no _ rfl rfl <| WO_no _ rfl rfl <| WO_no _ rfl rfl <| WO_no _ rfl rfl <| WO_no _ rfl rfl <| WO_no _ rfl rfl <| WO_no _ rfl rfl <| WO_no _ rfl rfl <| WO_no _ rfl rfl <| WO_no _ rfl rfl <| WO_no _ rfl rfl <| WO_no _ rfl rfl <| L (bA ((decide (i1 > 0)) && ((((decide (c1 ≥ 48)) && (decide (c1 ≤ 57))) || (c1 == 45)) || (c1 == 95)))) rfl rfl (congrArg (fun b => some (AV.bool b, _)) (by rw [hc64]; rfl)) <| nl ((hJ64 _).2 ⟨_, _, rfl, (And.intro rfl (And.intro rfl (And.intro rfl (And.intro rfl (And.intro rfl (And.intro rfl True.intro)))))), True.intro⟩)
     · rcases bool_cases (decide (c1 ≥ 97)) with hc39 | hc39
       · exact L (.bool true) rfl rfl (congrArg (fun b => some (AV.bool b, _)) hc39) <| L (.int .u8 c1) rfl rfl rfl <| L (bA (decide (c1 ≤ 122))) rfl rfl rfl <| L (bA ((decide (c1 ≥ 97)) && (decide (c1 ≤ 122)))) rfl rfl (congrArg (fun b => some (AV.bool b, _)) (by rw [hc39]; rfl)) <| nl ((hJ39 _).2 ⟨_, _, rfl, (And.intro rfl (And.intro rfl (And.intro rfl (And.intro rfl True.intro)))), True.intro⟩)
       · exact L (.bool false) rfl rfl (congrArg (fun b => some (AV.bool b, _)) hc39) <| WO_no _ rfl rfl <| WO_no _ rfl rfl <| L (bA ((decide (c1 ≥ 97)) && (decide (c1 ≤ 122)))) rfl rfl (congrArg (fun b => some (AV.bool b, _)) (by rw [hc39]; rfl)) <| nl ((hJ39 _).2 ⟨_, _, rfl, (And.intro rfl (And.intro rfl (And.intro rfl (And.intro rfl True.intro)))), True.intro⟩)
   · replace hF1 := ite_f hF1 (dec_f hc72)
     exact xt <| (hJ36 _).2 ⟨_, _, rfl, (And.intro rfl True.intro), True.intro, hD1 _ (Option.some.inj hF1).symm⟩

theorem ok_kit_Outside (n : Int) (low : Int) (high : Int) {r : (Bool)} (hF0 : kit_Outside n low high = some r) (out : List AE.Frame) (glob : List AObj) : RdOk Try.prog pol true 31 [(iA n), (iA low), (iA high)] out glob (bA r) := by
 unfold kit_Outside at hF0
 refine rd_walk Try.func31 rfl (Nat.not_lt.2 (Nat.le_of_ble_eq_true rfl)) ?_
 intro ro
 refine sq <| rg <| L (bA false) rfl rfl rfl <| nl <| sq <| rg <| L (iA n) rfl rfl rfl <| L (iA low) rfl rfl rfl <| L (bA (decide (n < low))) rfl rfl rfl ?_
 obtain ⟨J1, hJ1⟩ : ∃ J : St → Prop, ∀ st, J st ↔ (∃ (tm2 : Nat → AV) (cb2 : AE.Frame), st = ⟨tm2, ⟨cb2, out, glob⟩⟩ ∧ AllEq tm2 [(14, (bA ((decide (n < low)) || (decide (n > high)))))] ∧ AllEq cb2 []) := ⟨_, fun _ => Iff.rfl⟩
 refine WO_cut 5 J1 (fun st hst => ?_) ?_
 · obtain ⟨tm2, cb2, rfl, hT2, hC2⟩ := (hJ1 st).1 hst
   obtain ⟨tm2, rfl⟩ := allEq hT2
   obtain ⟨cb2, rfl⟩ := allEq hC2
   refine L (bA ((decide (n < low)) || (decide (n > high)))) rfl rfl rfl <| nl <| rt ?_
   obtain rfl := Option.some.inj hF0
   exact rd_leaf (.inr rfl) rfl (retV_pl _ _ (bA ((decide (n < low)) || (decide (n > high))))) rfl rfl
 · rcases bool_cases (decide (n < low)) with hc1 | hc1
   · exact L (.bool true) rfl rfl (congrArg (fun b => some (AV.bool b, _)) hc1) <| WO_no _ rfl rfl <| WO_no _ rfl rfl <| WO_no _ rfl rfl <| L (bA ((decide (n < low)) || (decide (n > high)))) rfl rfl (congrArg (fun b => some (AV.bool b, _)) (by rw [hc1]; rfl)) <| nl ((hJ1 _).2 ⟨_, _, rfl, (And.intro rfl True.intro), True.intro⟩)
   · exact L (.bool false) rfl rfl (congrArg (fun b => some (AV.bool b, _)) hc1) <| L (iA n) rfl rfl rfl <| L (iA high) rfl rfl rfl <| L (bA (decide (n > high))) rfl rfl rfl <| L (bA ((decide (n < low)) || (decide (n > high)))) rfl rfl (congrArg (fun b => some (AV.bool b, _)) (by rw [hc1]; rfl)) <| nl ((hJ1 _).2 ⟨_, _, rfl, (And.intro rfl True.intro), True.intro⟩)

theorem ok_limit_limitFault (l : (Sl api_Limit)) (i : Int) {r : (Int)} (hF0 : limit_limitFault l i = some r) (out : List AE.Frame) (glob : List AObj) : RdOk Try.prog pol true 54 [(Sl.av 5 c_api_Limit l), (iA i)] out glob (iA r) := by
 unfold limit_limitFault at hF0
 refine rd_walk Try.func54 rfl (Nat.not_lt.2 (Nat.le_of_ble_eq_true rfl)) ?_
 intro ro
 refine sq <| rg <| L (iA 0) rfl rfl rfl <| nl <| sq <| rg <| L (Sl.av 5 c_api_Limit l) rfl rfl rfl <| L (iA i) rfl rfl rfl ?_
 obtain ⟨x, h_x, hF0⟩ := bind_some hF0
 refine L (.cptr (c_api_Limit x)) rfl rfl (op_ix rfl (ix_sl (c := c_api_Limit) rfl rfl h_x)) <| L (.agg (c_api_Limit x)) rfl rfl rfl <| L (.ptr (.fr 0 5) 1 0) (h' := ⟨upd _ 5 ⟨1, .cells (c_api_Limit (api_Limit.mk [] 0 0 0 0))⟩, _, _⟩) rfl rfl (op_alloc (c_api_Limit (api_Limit.mk [] 0 0 0 0)) rfl rfl rfl rfl) <| L (.tup []) (h' := ⟨upd _ 5 ⟨1, .cells (c_api_Limit x)⟩, _, _⟩) rfl rfl (op_store rfl rfl (st_fr (x := (.agg (c_api_Limit x))) (c_api_Limit x) rfl rfl (Nat.le_of_ble_eq_true rfl) rfl)) <| nl <| sq <| dw (by kernel_rfl) <| L (.ptr (.fr 0 5) 1 1) rfl rfl rfl <| L (iA x.Kind) rfl rfl (op_load rfl (ld_con (iA x.Kind) rfl rfl (cs := (c_api_Limit x)) (con_fr rfl) rfl)) <| L (bA (x.Kind == 4)) rfl rfl rfl <| L (.ptr (.fr 0 5) 1 1) rfl rfl rfl <| L (iA x.Kind) rfl rfl (op_load rfl (ld_con (iA x.Kind) rfl rfl (cs := (c_api_Limit x)) (con_fr rfl) rfl)) <| L (bA (x.Kind == 3)) rfl rfl rfl <| L (bA (x.Kind == 4)) rfl rfl rfl <| L (bA (x.Kind == 3)) rfl rfl rfl <| nl <| sq <| bk <| sq <| rg <| L (.ptr (.fr 0 5) 1 0) rfl rfl rfl <| L (sA x.Key) rfl rfl (op_load rfl (ld_con (sA x.Key) rfl rfl (cs := (c_api_Limit x)) (con_fr rfl) rfl)) ?_
 obtain ⟨r21, h1, hF0⟩ := bind_some hF0
 refine WO_rd (g := 61) (args := [(sA x.Key)]) (r := (bA r21)) _ _ rfl rfl rfl rfl rfl rfl rfl (ok_kit_IsKey _ h1 _ _ ) <| L (bA (!r21)) rfl rfl rfl <| L (bA (!r21)) rfl rfl rfl <| nl <| cd (!r21) rfl (fun hc35 => ?_) (fun hc35 => ?_)
 · replace hF0 := ite_t hF0 (hc35)
   refine sq <| rg <| L (iA 5) rfl rfl rfl <| nl <| rt ?_
   obtain rfl := Option.some.inj hF0
   exact rd_leaf (.inr rfl) rfl (retV_pl _ _ (iA 5)) rfl rfl
 · replace hF0 := ite_f hF0 (not_t hc35)
   refine sq <| dw (by kernel_rfl) <| L (iA i) rfl rfl rfl <| L (bA (decide (i > 0))) rfl rfl rfl ?_
   obtain ⟨y2, hF1, hF0⟩ := bind_some hF0
   obtain ⟨J2, hJ2⟩ : ∃ J : St → Prop, ∀ st, J st ↔ (∃ (t36 : Bool) (tm3 : Nat → AV) (cb3 : AE.Frame), st = ⟨tm3, ⟨cb3, out, glob⟩⟩ ∧ AllEq tm3 [(5, (.ptr (.fr 0 5) 1 0)), (6, (bA (x.Kind == 4))), (7, (bA (x.Kind == 3))), (36, (bA t36))] ∧ AllEq cb3 [(5, ⟨1, .cells (c_api_Limit x)⟩)] ∧ t36 = y2) := ⟨_, fun _ => Iff.rfl⟩
   refine WO_cut 11 J2 (fun st hst => ?_) ?_
   · obtain ⟨t36, tm3, cb3, rfl, hT3, hC3, rfl⟩ := (hJ2 st).1 hst
     obtain ⟨tm3, rfl⟩ := allEq hT3
     obtain ⟨cb3, rfl⟩ := allEq hC3
     refine L (bA t36) rfl rfl rfl <| nl <| cd t36 rfl (fun hc34 => ?_) (fun hc34 => ?_)
     · replace hF0 := ite_t hF0 (hc34)
       refine sq <| rg <| L (iA 7) rfl rfl rfl <| nl <| rt ?_
       obtain rfl := Option.some.inj hF0
       exact rd_leaf (.inr rfl) rfl (retV_pl _ _ (iA 7)) rfl rfl
     · replace hF0 := ite_f hF0 (not_t hc34)
       refine sq <| rg <| L (.ptr (.fr 0 5) 1 1) rfl rfl rfl <| L (iA x.Kind) rfl rfl (op_load rfl (ld_con (iA x.Kind) rfl rfl (cs := (c_api_Limit x)) (con_fr rfl) rfl)) ?_
       obtain ⟨r37, h4, hF0⟩ := bind_some hF0
       refine WO_rd (g := 31) (args := [(iA x.Kind), (iA 1), (iA 4)]) (r := (bA r37)) _ _ rfl rfl rfl rfl rfl rfl rfl (ok_kit_Outside _ _ _ h4 _ _ ) <| L (bA r37) rfl rfl rfl <| nl <| cd r37 rfl (fun hc33 => ?_) (fun hc33 => ?_)
       · replace hF0 := ite_t hF0 (hc33)
         refine sq <| rg <| L (iA 4) rfl rfl rfl <| nl <| rt ?_
         obtain rfl := Option.some.inj hF0
         exact rd_leaf (.inr rfl) rfl (retV_pl _ _ (iA 4)) rfl rfl
       · replace hF0 := ite_f hF0 (not_t hc33)
         refine sq <| rg <| L (.ptr (.fr 0 5) 1 2) rfl rfl rfl <| L (iA x.Most) rfl rfl (op_load rfl (ld_con (iA x.Most) rfl rfl (cs := (c_api_Limit x)) (con_fr rfl) rfl)) ?_
         obtain ⟨r41, h5, hF0⟩ := bind_some hF0
         refine WO_rd (g := 31) (args := [(iA x.Most), (iA 1), (iA 1000000000)]) (r := (bA r41)) _ _ rfl rfl rfl rfl rfl rfl rfl (ok_kit_Outside _ _ _ h5 _ _ ) <| L (bA r41) rfl rfl rfl <| nl <| cd r41 rfl (fun hc32 => ?_) (fun hc32 => ?_)
         · replace hF0 := ite_t hF0 (hc32)
           refine sq <| rg <| L (iA 1) rfl rfl rfl <| nl <| rt ?_
           obtain rfl := Option.some.inj hF0
           exact rd_leaf (.inr rfl) rfl (retV_pl _ _ (iA 1)) rfl rfl
         · replace hF0 := ite_f hF0 (not_t hc32)
           refine sq <| rg <| L (bA (x.Kind == 4)) rfl rfl rfl ?_
           obtain ⟨J6, hJ6⟩ : ∃ J : St → Prop, ∀ st, J st ↔ (∃ (tm7 : Nat → AV) (cb7 : AE.Frame), st = ⟨tm7, ⟨cb7, out, glob⟩⟩ ∧ AllEq tm7 [(5, (.ptr (.fr 0 5) 1 0)), (6, (bA (x.Kind == 4))), (7, (bA (x.Kind == 3))), (51, (bA ((x.Kind == 4) && (x.Per != 0))))] ∧ AllEq cb7 [(5, ⟨1, .cells (c_api_Limit x)⟩)]) := ⟨_, fun _ => Iff.rfl⟩
           refine WO_cut 5 J6 (fun st hst => ?_) ?_
           · obtain ⟨tm7, cb7, rfl, hT7, hC7⟩ := (hJ6 st).1 hst
             obtain ⟨tm7, rfl⟩ := allEq hT7
             obtain ⟨cb7, rfl⟩ := allEq hC7
             obtain ⟨y12, hF1, hF0⟩ := bind_some hF0
             obtain ⟨J12, hJ12⟩ : ∃ J : St → Prop, ∀ st, J st ↔ (∃ (t60 : Bool) (tm13 : Nat → AV) (cb13 : AE.Frame), st = ⟨tm13, ⟨cb13, out, glob⟩⟩ ∧ AllEq tm13 [(5, (.ptr (.fr 0 5) 1 0)), (7, (bA (x.Kind == 3))), (60, (bA t60))] ∧ AllEq cb13 [(5, ⟨1, .cells (c_api_Limit x)⟩)] ∧ t60 = y12) := ⟨_, fun _ => Iff.rfl⟩
             refine WO_cut 9 J12 (fun st hst => ?_) ?_
             · obtain ⟨t60, tm13, cb13, rfl, hT13, hC13, rfl⟩ := (hJ12 st).1 hst
               obtain ⟨tm13, rfl⟩ := allEq hT13
               obtain ⟨cb13, rfl⟩ := allEq hC13
               refine L (bA t60) rfl rfl rfl <| nl <| cd t60 rfl (fun hc27 => ?_) (fun hc27 => ?_)
               · replace hF0 := ite_t hF0 (hc27)
                 refine sq <| rg <| L (iA 1) rfl rfl rfl <| nl <| rt ?_
                 obtain rfl := Option.some.inj hF0
                 exact rd_leaf (.inr rfl) rfl (retV_pl _ _ (iA 1)) rfl rfl
               · replace hF0 := ite_f hF0 (not_t hc27)
                 refine sq <| rg <| L (bA (x.Kind == 3)) rfl rfl rfl <| L (bA (!(x.Kind == 3))) rfl rfl rfl ?_
                 obtain ⟨J14, hJ14⟩ : ∃ J : St → Prop, ∀ st, J st ↔ (∃ (tm15 : Nat → AV) (cb15 : AE.Frame), st = ⟨tm15, ⟨cb15, out, glob⟩⟩ ∧ AllEq tm15 [(5, (.ptr (.fr 0 5) 1 0)), (7, (bA (x.Kind == 3))), (68, (bA ((!(x.Kind == 3)) && (x.Burst != 0))))] ∧ AllEq cb15 [(5, ⟨1, .cells (c_api_Limit x)⟩)]) := ⟨_, fun _ => Iff.rfl⟩
                 refine WO_cut 5 J14 (fun st hst => ?_) ?_
                 · obtain ⟨tm15, cb15, rfl, hT15, hC15⟩ := (hJ14 st).1 hst
                   obtain ⟨tm15, rfl⟩ := allEq hT15
                   obtain ⟨cb15, rfl⟩ := allEq hC15
                   obtain ⟨y20, hF1, hF0⟩ := bind_some hF0
                   obtain ⟨J20, hJ20⟩ : ∃ J : St → Prop, ∀ st, J st ↔ (∃ (t76 : Bool) (tm21 : Nat → AV) (cb21 : AE.Frame), st = ⟨tm21, ⟨cb21, out, glob⟩⟩ ∧ AllEq tm21 [(76, (bA t76))] ∧ AllEq cb21 [] ∧ t76 = y20) := ⟨_, fun _ => Iff.rfl⟩
                   refine WO_cut 8 J20 (fun st hst => ?_) ?_
                   · obtain ⟨t76, tm21, cb21, rfl, hT21, hC21, rfl⟩ := (hJ20 st).1 hst
                     obtain ⟨tm21, rfl⟩ := allEq hT21
                     obtain ⟨cb21, rfl⟩ := allEq hC21
                     refine L (bA t76) rfl rfl rfl <| nl <| cd t76 rfl (fun hc22 => ?_) (fun hc22 => ?_)
                     · replace hF0 := ite_t hF0 (hc22)
                       refine sq <| rg <| L (iA 1) rfl rfl rfl <| nl <| rt ?_
                       obtain rfl := Option.some.inj hF0
                       exact rd_leaf (.inr rfl) rfl (retV_pl _ _ (iA 1)) rfl rfl
                     · replace hF0 := ite_f hF0 (not_t hc22)
                       refine sk <| sq <| rg <| L (iA 0) rfl rfl rfl <| nl <| rt ?_
                       obtain rfl := Option.some.inj hF0
                       exact rd_leaf (.inr rfl) rfl (retV_pl _ _ (iA 0)) rfl rfl
                   · rcases bool_cases ((!(x.Kind == 3)) && (x.Burst != 0)) with hc20 | hc20
                     · replace hF1 := ite_t hF1 (hc20)
                       exact L (.bool true) rfl rfl (congrArg (fun b => some (AV.bool b, _)) hc20) <| WO_no _ rfl rfl <| WO_no _ rfl rfl <| WO_no _ rfl rfl <| WO_no _ rfl rfl <| WO_no _ rfl rfl <| WO_no _ rfl rfl <| L (bA true) rfl rfl rfl <| nl ((hJ20 _).2 ⟨true, _, _, rfl, (And.intro rfl True.intro), True.intro, Option.some.inj hF1⟩)
                     · replace hF1 := ite_f hF1 (not_t hc20)
                       refine L (.bool false) rfl rfl (congrArg (fun b => some (AV.bool b, _)) hc20) <| L (bA (x.Kind == 3)) rfl rfl rfl ?_
                       obtain ⟨y24, hF2, hF1⟩ := bind_some hF1
                       obtain ⟨J24, hJ24⟩ : ∃ J : St → Prop, ∀ st, J st ↔ (∃ (t751 : Bool) (tm25 : Nat → AV) (cb25 : AE.Frame), st = ⟨tm25, ⟨cb25, out, glob⟩⟩ ∧ AllEq tm25 [(69, (bA false)), (75, (bA t751))] ∧ AllEq cb25 [] ∧ t751 = y24) := ⟨_, fun _ => Iff.rfl⟩
                       refine WO_cut 5 J24 (fun st hst => ?_) ?_
                       · obtain ⟨t751, tm25, cb25, rfl, hT25, hC25, rfl⟩ := (hJ24 st).1 hst
                         obtain ⟨tm25, rfl⟩ := allEq hT25
                         obtain ⟨cb25, rfl⟩ := allEq hC25
                         exact L (bA t751) rfl rfl rfl <| nl ((hJ20 _).2 ⟨t751, _, _, rfl, (And.intro rfl True.intro), True.intro, Option.some.inj hF1⟩)
                       · rcases bool_cases (x.Kind == 3) with hc24 | hc24
                         · replace hF2 := ite_t hF2 (beq_t hc24)
                           refine L (.bool true) rfl rfl (congrArg (fun b => some (AV.bool b, _)) hc24) <| L (.ptr (.fr 0 5) 1 4) rfl rfl rfl <| L (iA x.Burst) rfl rfl (op_load rfl (ld_con (iA x.Burst) rfl rfl (cs := (c_api_Limit x)) (con_fr rfl) rfl)) ?_
                           obtain ⟨r743, h26, hF2⟩ := bind_some hF2
                           exact WO_rd (g := 31) (args := [(iA x.Burst), (iA 1), (iA 1000000000)]) (r := (bA r743)) _ _ rfl rfl rfl rfl rfl rfl rfl (ok_kit_Outside _ _ _ h26 _ _ ) <| L (bA r743) rfl rfl rfl <| nl ((hJ24 _).2 ⟨r743, _, _, rfl, (And.intro rfl (And.intro rfl True.intro)), True.intro, Option.some.inj hF2⟩)
                         · replace hF2 := ite_f hF2 (beq_f hc24)
                           exact L (.bool false) rfl rfl (congrArg (fun b => some (AV.bool b, _)) hc24) <| WO_no _ rfl rfl <| WO_no _ rfl rfl <| WO_no _ rfl rfl <| L (bA false) rfl rfl rfl <| nl ((hJ24 _).2 ⟨false, _, _, rfl, (And.intro rfl (And.intro rfl True.intro)), True.intro, Option.some.inj hF2⟩)
                 · rcases bool_cases (!(x.Kind == 3)) with hc14 | hc14
                   · exact L (.bool true) rfl rfl (congrArg (fun b => some (AV.bool b, _)) hc14) <| L (.ptr (.fr 0 5) 1 4) rfl rfl rfl <| L (iA x.Burst) rfl rfl (op_load rfl (ld_con (iA x.Burst) rfl rfl (cs := (c_api_Limit x)) (con_fr rfl) rfl)) <| L (bA (x.Burst != 0)) rfl rfl rfl <| L (bA ((!(x.Kind == 3)) && (x.Burst != 0))) rfl rfl (congrArg (fun b => some (AV.bool b, _)) (by rw [hc14]; rfl)) <| nl ((hJ14 _).2 ⟨_, _, rfl, (And.intro rfl (And.intro rfl (And.intro rfl True.intro))), (And.intro rfl True.intro)⟩)
                   · exact L (.bool false) rfl rfl (congrArg (fun b => some (AV.bool b, _)) hc14) <| WO_no _ rfl rfl <| WO_no _ rfl rfl <| WO_no _ rfl rfl <| L (bA ((!(x.Kind == 3)) && (x.Burst != 0))) rfl rfl (congrArg (fun b => some (AV.bool b, _)) (by rw [hc14]; rfl)) <| nl ((hJ14 _).2 ⟨_, _, rfl, (And.intro rfl (And.intro rfl (And.intro rfl True.intro))), (And.intro rfl True.intro)⟩)
             · rcases bool_cases ((x.Kind == 4) && (x.Per != 0)) with hc12 | hc12
               · replace hF1 := ite_t hF1 (hc12)
                 exact L (.bool true) rfl rfl (congrArg (fun b => some (AV.bool b, _)) hc12) <| WO_no _ rfl rfl <| WO_no _ rfl rfl <| WO_no _ rfl rfl <| WO_no _ rfl rfl <| WO_no _ rfl rfl <| WO_no _ rfl rfl <| WO_no _ rfl rfl <| L (bA true) rfl rfl rfl <| nl ((hJ12 _).2 ⟨true, _, _, rfl, (And.intro rfl (And.intro rfl (And.intro rfl True.intro))), (And.intro rfl True.intro), Option.some.inj hF1⟩)
               · replace hF1 := ite_f hF1 (not_t hc12)
                 refine L (.bool false) rfl rfl (congrArg (fun b => some (AV.bool b, _)) hc12) <| L (bA (x.Kind == 4)) rfl rfl rfl <| L (bA (!(x.Kind == 4))) rfl rfl rfl ?_
                 obtain ⟨y29, hF2, hF1⟩ := bind_some hF1
                 obtain ⟨J29, hJ29⟩ : ∃ J : St → Prop, ∀ st, J st ↔ (∃ (t591 : Bool) (tm30 : Nat → AV) (cb30 : AE.Frame), st = ⟨tm30, ⟨cb30, out, glob⟩⟩ ∧ AllEq tm30 [(5, (.ptr (.fr 0 5) 1 0)), (7, (bA (x.Kind == 3))), (52, (bA false)), (59, (bA t591))] ∧ AllEq cb30 [(5, ⟨1, .cells (c_api_Limit x)⟩)] ∧ t591 = y29) := ⟨_, fun _ => Iff.rfl⟩
                 refine WO_cut 5 J29 (fun st hst => ?_) ?_
                 · obtain ⟨t591, tm30, cb30, rfl, hT30, hC30, rfl⟩ := (hJ29 st).1 hst
                   obtain ⟨tm30, rfl⟩ := allEq hT30
                   obtain ⟨cb30, rfl⟩ := allEq hC30
                   exact L (bA t591) rfl rfl rfl <| nl ((hJ12 _).2 ⟨t591, _, _, rfl, (And.intro rfl (And.intro rfl (And.intro rfl True.intro))), (And.intro rfl True.intro), Option.some.inj hF1⟩)
                 · rcases bool_cases (!(x.Kind == 4)) with hc29 | hc29
                   · replace hF2 := ite_t hF2 (hc29)
                     refine L (.bool true) rfl rfl (congrArg (fun b => some (AV.bool b, _)) hc29) <| L (.ptr (.fr 0 5) 1 3) rfl rfl rfl <| L (iA x.Per) rfl rfl (op_load rfl (ld_con (iA x.Per) rfl rfl (cs := (c_api_Limit x)) (con_fr rfl) rfl)) ?_
                     obtain ⟨r583, h31, hF2⟩ := bind_some hF2
                     exact WO_rd (g := 31) (args := [(iA x.Per), (iA 1), (iA 8640000000)]) (r := (bA r583)) _ _ rfl rfl rfl rfl rfl rfl rfl (ok_kit_Outside _ _ _ h31 _ _ ) <| L (bA r583) rfl rfl rfl <| nl ((hJ29 _).2 ⟨r583, _, _, rfl, (And.intro rfl (And.intro rfl (And.intro rfl (And.intro rfl True.intro)))), (And.intro rfl True.intro), Option.some.inj hF2⟩)
                   · replace hF2 := ite_f hF2 (not_t hc29)
                     exact L (.bool false) rfl rfl (congrArg (fun b => some (AV.bool b, _)) hc29) <| WO_no _ rfl rfl <| WO_no _ rfl rfl <| WO_no _ rfl rfl <| L (bA false) rfl rfl rfl <| nl ((hJ29 _).2 ⟨false, _, _, rfl, (And.intro rfl (And.intro rfl (And.intro rfl (And.intro rfl True.intro)))), (And.intro rfl True.intro), Option.some.inj hF2⟩)
           · rcases bool_cases (x.Kind == 4) with hc6 | hc6
             · exact L (.bool true) rfl rfl (congrArg (fun b => some (AV.bool b, _)) hc6) <| L (.ptr (.fr 0 5) 1 3) rfl rfl rfl <| L (iA x.Per) rfl rfl (op_load rfl (ld_con (iA x.Per) rfl rfl (cs := (c_api_Limit x)) (con_fr rfl) rfl)) <| L (bA (x.Per != 0)) rfl rfl rfl <| L (bA ((x.Kind == 4) && (x.Per != 0))) rfl rfl (congrArg (fun b => some (AV.bool b, _)) (by rw [hc6]; rfl)) <| nl ((hJ6 _).2 ⟨_, _, rfl, (And.intro rfl (And.intro rfl (And.intro rfl (And.intro rfl True.intro)))), (And.intro rfl True.intro)⟩)
             · exact L (.bool false) rfl rfl (congrArg (fun b => some (AV.bool b, _)) hc6) <| WO_no _ rfl rfl <| WO_no _ rfl rfl <| WO_no _ rfl rfl <| L (bA ((x.Kind == 4) && (x.Per != 0))) rfl rfl (congrArg (fun b => some (AV.bool b, _)) (by rw [hc6]; rfl)) <| nl ((hJ6 _).2 ⟨_, _, rfl, (And.intro rfl (And.intro rfl (And.intro rfl (And.intro rfl True.intro)))), (And.intro rfl True.intro)⟩)
   · rcases bool_cases (decide (i > 0)) with hc2 | hc2
     · replace hF1 := ite_t hF1 (dec_t hc2)
       refine L (.bool true) rfl rfl (congrArg (fun b => some (AV.bool b, _)) hc2) <| L (.ptr (.fr 0 5) 1 0) rfl rfl rfl <| L (sA x.Key) rfl rfl (op_load rfl (ld_con (sA x.Key) rfl rfl (cs := (c_api_Limit x)) (con_fr rfl) rfl)) <| L (Sl.av 5 c_api_Limit l) rfl rfl rfl <| L (iA i) rfl rfl rfl <| L (iA (w64 (i - 1))) rfl rfl rfl ?_
       obtain ⟨x2, h_x2, hF1⟩ := bind_some hF1
       exact L (.cptr (c_api_Limit x2)) rfl rfl (op_ix rfl (ix_sl (c := c_api_Limit) rfl rfl h_x2)) <| L (.cptr ((c_api_Limit x2).drop 0)) rfl rfl rfl <| L (sA x2.Key) rfl rfl rfl <| L (bA (sle x.Key x2.Key)) rfl rfl (op_bin rfl bin_sle) <| L (bA (sle x.Key x2.Key)) rfl rfl rfl <| nl ((hJ2 _).2 ⟨sle x.Key x2.Key, _, _, rfl, (And.intro rfl (And.intro rfl (And.intro rfl (And.intro rfl True.intro)))), (And.intro rfl True.intro), Option.some.inj hF1⟩)
     · replace hF1 := ite_f hF1 (dec_f hc2)
       exact L (.bool false) rfl rfl (congrArg (fun b => some (AV.bool b, _)) hc2) <| WO_no _ rfl rfl <| WO_no _ rfl rfl <| WO_no _ rfl rfl <| WO_no _ rfl rfl <| WO_no _ rfl rfl <| WO_no _ rfl rfl <| WO_no _ rfl rfl <| WO_no _ rfl rfl <| WO_no _ rfl rfl <| L (bA false) rfl rfl rfl <| nl ((hJ2 _).2 ⟨false, _, _, rfl, (And.intro rfl (And.intro rfl (And.intro rfl (And.intro rfl True.intro)))), (And.intro rfl True.intro), Option.some.inj hF1⟩)

theorem ok_limit_CheckLimits (l : (Sl api_Limit)) {r : (Int)} (hF0 : limit_CheckLimits l = some r) (out : List AE.Frame) (glob : List AObj) : RdOk Try.prog pol true 30 [(Sl.av 5 c_api_Limit l)] out glob (iA r) := by
 unfold limit_CheckLimits at hF0
 refine rd_walk Try.func30 rfl (Nat.not_lt.2 (Nat.le_of_ble_eq_true rfl)) ?_
 intro ro
 refine sq <| rg <| L (iA 0) rfl rfl rfl <| nl <| sq <| sq <| rg <| L (Sl.av 5 c_api_Limit l) rfl rfl rfl <| L (iA (l.list.length : Int)) rfl rfl (op_len rfl rfl rfl rfl rfl (len_sl _)) <| L (bA (decide ((l.list.length : Int) > 20))) rfl rfl rfl <| nl <| cd (decide ((l.list.length : Int) > 20)) rfl (fun hc11 => ?_) (fun hc11 => ?_)
 · replace hF0 := ite_t hF0 (dec_t hc11)
   refine sq <| rg <| L (iA 2) rfl rfl rfl <| nl <| rt ?_
   obtain rfl := Option.some.inj hF0
   exact rd_leaf (.inr rfl) rfl (retV_pl _ _ (iA 2)) rfl rfl
 · replace hF0 := ite_f hF0 (dec_f hc11)
   refine sk <| sq <| sq <| rg <| L (Sl.av 5 c_api_Limit l) rfl rfl rfl <| L (iA (l.list.length : Int)) rfl rfl (op_len rfl rfl rfl rfl rfl (len_sl _)) <| L (iA 0) rfl rfl rfl <| nl <| bk ?_
   obtain ⟨b1, hb5, hF0⟩ := bind_some hF0
   obtain ⟨hn5, hb5⟩ := ite_none hb5
   obtain ⟨J5, hJ5⟩ : ∃ J : St → Prop, ∀ st, J st ↔ (∃ (tm7 : Nat → AV) (cb7 : AE.Frame), st = ⟨tm7, ⟨cb7, out, glob⟩⟩ ∧ AllEq tm7 [] ∧ AllEq cb7 [] ∧ Res.out () = b1) := ⟨_, fun _ => Iff.rfl⟩
   obtain ⟨R5, hR5⟩ : ∃ R : Nat → (Unit) → St → Prop, ∀ i v st, R i v st ↔ (match v with | () => ∃ (tm6 : Nat → AV) (cb6 : AE.Frame), st = ⟨tm6, ⟨cb6, out, glob⟩⟩ ∧ AllEq tm6 [(0, (Sl.av 5 c_api_Limit l)), (9, (iA (l.list.length : Int))), (10, (iA ((i : Nat) : Int)))] ∧ AllEq cb6 []) := ⟨_, fun _ _ _ => Iff.rfl⟩
   refine W_loopcut J5 (fun st hst => ?_) ?_
   · obtain ⟨tm7, cb7, rfl, hT7, hC7, rfl⟩ := (hJ5 st).1 hst
     obtain ⟨tm7, rfl⟩ := allEq hT7
     obtain ⟨cb7, rfl⟩ := allEq hC7
     replace hF0 := res_out hF0
     refine sq <| rg <| L (iA 0) rfl rfl rfl <| nl <| rt ?_
     obtain rfl := Option.some.inj hF0
     exact rd_leaf (.inr rfl) rfl (retV_pl _ _ (iA 0)) rfl rfl
   · refine W_rangeL hb5 R5 ((hR5 _ _ _).2 ⟨_, _, rfl, (And.intro rfl (And.intro rfl (And.intro rfl True.intro))), True.intro⟩) ?_ ?_
     · intro i hi5 v st s hr hF1 hD1
       obtain ⟨⟩ := v
       obtain ⟨tm6, cb6, rfl, hT6, hC6⟩ := (hR5 _ _ _).1 hr
       obtain ⟨tm6, rfl⟩ := allEq hT6
       obtain ⟨cb6, rfl⟩ := allEq hC6
       obtain ⟨x, hx5⟩ : ∃ x, x = l.list[i] := ⟨_, rfl⟩
       rw [← hx5] at hF1
       dsimp only [limit_CheckLimits_l0] at hF1
       refine sq (rg ?_)
       refine WO_do (y := (bA (decide (((i : Nat) : Int) < (l.list.length : Int))))) _ rfl rfl rfl (nl ?_)
       refine sq <| cd true (congrArg some (range_lt hi5)) (fun _ => ?_) (fun h => absurd h (by decide))
       refine sk <| sq <| bk <| sq <| rg <| L (iA ((i : Nat) : Int)) rfl rfl rfl <| L (iA ((i : Nat) : Int)) rfl rfl rfl <| nl <| sq <| rg <| L (Sl.av 5 c_api_Limit l) rfl rfl rfl <| L (iA ((i : Nat) : Int)) rfl rfl rfl ?_
       obtain ⟨e1, h9, hF1⟩ := bind_some hF1
       refine WO_rd (g := 54) (args := [(Sl.av 5 c_api_Limit l), (iA ((i : Nat) : Int))]) (r := (iA e1)) _ _ rfl rfl rfl rfl rfl rfl rfl (ok_limit_limitFault _ _ h9 _ _ ) <| L (iA e1) rfl rfl rfl <| nl <| sq <| rg <| L (iA e1) rfl rfl rfl <| L (bA (e1 != 0)) rfl rfl rfl <| nl <| cd (e1 != 0) rfl (fun hc10 => ?_) (fun hc10 => ?_)
       · replace hF1 := ite_t hF1 (bne_t hc10)
         refine sq <| rg <| L (iA e1) rfl rfl rfl <| L (iA e1) rfl rfl rfl <| nl <| rt ?_
         obtain rfl := hD1 _ (Option.some.inj hF1).symm
         replace hF0 := res_ret hF0
         obtain rfl := Option.some.inj hF0
         exact rd_leaf (.inr rfl) rfl (retV_pl _ _ (iA e1)) rfl rfl
       · replace hF1 := ite_f hF1 (bne_f hc10)
         exact sk <| rg <| WO_do (y := (iA ((i + 1 : Nat) : Int))) _ rfl rfl (congrArg (fun n => some (AV.int .i64 n, _)) (range_len hi5 hn5)) <| WO_do (y := (iA ((i + 1 : Nat) : Int))) _ rfl rfl rfl <| nl <| Exists.intro _ (And.intro (Option.some.inj hF1).symm ((hR5 _ _ _).2 ⟨_, _, rfl, (And.intro rfl (And.intro rfl (And.intro rfl True.intro))), True.intro⟩))
     · intro v st hr hD1
       obtain ⟨⟩ := v
       obtain ⟨tm6, cb6, rfl, hT6, hC6⟩ := (hR5 _ _ _).1 hr
       obtain ⟨tm6, rfl⟩ := allEq hT6
       obtain ⟨cb6, rfl⟩ := allEq hC6
       refine sq (rg ?_)
       refine WO_do (y := .bool false) _ rfl rfl (congrArg (fun b => some (AV.bool b, _)) (range_ge _)) (nl ?_)
       refine sq <| cd false rfl (fun h => absurd h (by decide)) (fun _ => ?_)
       exact xt <| (hJ5 _).2 ⟨_, _, rfl, True.intro, True.intro, hD1⟩

theorem ok_limit_up (a : Int) (b : Int) {r : (Int)} (hF0 : limit_up a b = some r) (out : List AE.Frame) (glob : List AObj) : RdOk Try.prog pol true 32 [(iA a), (iA b)] out glob (iA r) := by
 unfold limit_up at hF0
 refine rd_walk Try.func32 rfl (Nat.not_lt.2 (Nat.le_of_ble_eq_true rfl)) ?_
 intro ro
 refine sq <| rg <| L (iA 0) rfl rfl rfl <| nl <| sq <| rg <| L (iA a) rfl rfl rfl <| L (iA b) rfl rfl rfl ?_
 obtain ⟨n, h_n, hF0⟩ := bind_some hF0
 refine L (iA n) rfl rfl (op_bin rfl (bin_quo h_n)) <| L (iA n) rfl rfl rfl <| nl <| sq <| sq <| rg <| L (iA a) rfl rfl rfl <| L (iA b) rfl rfl rfl ?_
 obtain ⟨r11, h_r11, hF0⟩ := bind_some hF0
 refine L (iA r11) rfl rfl (op_bin rfl (bin_rem h_r11)) <| L (bA (r11 != 0)) rfl rfl rfl <| nl <| cd (r11 != 0) rfl (fun hc1 => ?_) (fun hc1 => ?_)
 · replace hF0 := ite_t hF0 (bne_t hc1)
   refine rg <| L (iA n) rfl rfl rfl <| L (iA (w64 (n + 1))) rfl rfl rfl <| L (iA (w64 (n + 1))) rfl rfl rfl <| nl <| sq <| rg <| L (iA (w64 (n + 1))) rfl rfl rfl <| L (iA (w64 (n + 1))) rfl rfl rfl <| nl <| rt ?_
   obtain rfl := Option.some.inj hF0
   exact rd_leaf (.inr rfl) rfl (retV_pl _ _ (iA (w64 (n + 1)))) rfl rfl
 · replace hF0 := ite_f hF0 (bne_f hc1)
   refine sk <| sq <| rg <| L (iA n) rfl rfl rfl <| L (iA n) rfl rfl rfl <| nl <| rt ?_
   obtain rfl := Option.some.inj hF0
   exact rd_leaf (.inr rfl) rfl (retV_pl _ _ (iA n)) rfl rfl

theorem ok_limit_bucket_now (b : limit_bucket) (at_ : Int) {r : (Int)} (hF0 : limit_bucket_now b at_ = some r) (out : List AE.Frame) (glob : List AObj) (d0 : AE.Loc) (w0 : Nat) (hh0 : d0.here = false) (hk_0 : con2 out glob d0 w0 = .cells (c_limit_bucket b)) : RdOk Try.prog pol true 55 [(.ptr d0 w0 0), (iA at_)] out glob (iA r) := by
 unfold limit_bucket_now at hF0
 refine rd_walk Try.func55 rfl (Nat.not_lt.2 (Nat.le_of_ble_eq_true rfl)) ?_
 intro ro
 refine sq <| rg <| L (iA 0) rfl rfl rfl <| nl <| sq <| dw (by kernel_rfl) <| L (.ptr d0 w0 0) rfl rfl rfl <| L (.ptr d0 w0 0) rfl rfl rfl <| L (.ptr d0 w0 0) rfl rfl rfl <| L (.ptr d0 w0 4) rfl rfl rfl <| L (iA b.l.Burst) rfl rfl (op_load rfl (ld_con (iA b.l.Burst) rfl rfl (cs := (c_limit_bucket b)) ((con_con2 _ _ _ _ _ hh0).trans hk_0) rfl)) <| L (.ptr d0 w0 0) rfl rfl rfl <| L (.ptr d0 w0 0) rfl rfl rfl <| L (.ptr d0 w0 0) rfl rfl rfl <| L (.ptr d0 w0 3) rfl rfl rfl <| L (iA b.l.Per) rfl rfl (op_load rfl (ld_con (iA b.l.Per) rfl rfl (cs := (c_limit_bucket b)) ((con_con2 _ _ _ _ _ hh0).trans hk_0) rfl)) <| L (iA (w64 (b.l.Burst * b.l.Per))) rfl rfl rfl <| L (iA (w64 (b.l.Burst * b.l.Per))) rfl rfl rfl <| nl <| sq <| sq <| dw (by kernel_rfl) <| L (iA at_) rfl rfl rfl <| L (.ptr d0 w0 0) rfl rfl rfl <| L (.ptr d0 w0 0) rfl rfl rfl <| L (.ptr d0 w0 5) rfl rfl rfl <| L (iA b.at_) rfl rfl (op_load rfl (ld_con (iA b.at_) rfl rfl (cs := (c_limit_bucket b)) ((con_con2 _ _ _ _ _ hh0).trans hk_0) rfl)) <| L (iA (w64 (at_ - b.at_))) rfl rfl rfl <| L (iA (w64 (b.l.Burst * b.l.Per))) rfl rfl rfl <| L (.ptr d0 w0 0) rfl rfl rfl <| L (.ptr d0 w0 0) rfl rfl rfl <| L (.ptr d0 w0 6) rfl rfl rfl <| L (iA b.level) rfl rfl (op_load rfl (ld_con (iA b.level) rfl rfl (cs := (c_limit_bucket b)) ((con_con2 _ _ _ _ _ hh0).trans hk_0) rfl)) <| L (iA (w64 ((w64 (b.l.Burst * b.l.Per)) - b.level))) rfl rfl rfl <| L (.ptr d0 w0 0) rfl rfl rfl <| L (.ptr d0 w0 0) rfl rfl rfl <| L (.ptr d0 w0 0) rfl rfl rfl <| L (.ptr d0 w0 2) rfl rfl rfl <| L (iA b.l.Most) rfl rfl (op_load rfl (ld_con (iA b.l.Most) rfl rfl (cs := (c_limit_bucket b)) ((con_con2 _ _ _ _ _ hh0).trans hk_0) rfl)) ?_
 obtain ⟨r34, h1, hF0⟩ := bind_some hF0
 refine WO_rd (g := 32) (args := [(iA (w64 ((w64 (b.l.Burst * b.l.Per)) - b.level))), (iA b.l.Most)]) (r := (iA r34)) _ _ rfl rfl rfl rfl rfl rfl rfl (ok_limit_up _ _ h1 _ _ ) <| L (bA (decide ((w64 (at_ - b.at_)) ≥ r34))) rfl rfl rfl <| nl <| cd (decide ((w64 (at_ - b.at_)) ≥ r34)) rfl (fun hc2 => ?_) (fun hc2 => ?_)
 · replace hF0 := ite_t hF0 (dec_t hc2)
   refine sq <| rg <| L (iA (w64 (b.l.Burst * b.l.Per))) rfl rfl rfl <| L (iA (w64 (b.l.Burst * b.l.Per))) rfl rfl rfl <| nl <| rt ?_
   obtain rfl := Option.some.inj hF0
   exact rd_leaf (.inr rfl) rfl (retV_pl _ _ (iA (w64 (b.l.Burst * b.l.Per)))) rfl rfl
 · replace hF0 := ite_f hF0 (dec_f hc2)
   refine sk <| sq <| dw (by kernel_rfl) <| L (.ptr d0 w0 0) rfl rfl rfl <| L (.ptr d0 w0 0) rfl rfl rfl <| L (.ptr d0 w0 6) rfl rfl rfl <| L (iA b.level) rfl rfl (op_load rfl (ld_con (iA b.level) rfl rfl (cs := (c_limit_bucket b)) ((con_con2 _ _ _ _ _ hh0).trans hk_0) rfl)) <| L (.ptr d0 w0 0) rfl rfl rfl <| L (.ptr d0 w0 0) rfl rfl rfl <| L (.ptr d0 w0 0) rfl rfl rfl <| L (.ptr d0 w0 2) rfl rfl rfl <| L (iA b.l.Most) rfl rfl (op_load rfl (ld_con (iA b.l.Most) rfl rfl (cs := (c_limit_bucket b)) ((con_con2 _ _ _ _ _ hh0).trans hk_0) rfl)) <| L (iA at_) rfl rfl rfl <| L (.ptr d0 w0 0) rfl rfl rfl <| L (.ptr d0 w0 0) rfl rfl rfl <| L (.ptr d0 w0 5) rfl rfl rfl <| L (iA b.at_) rfl rfl (op_load rfl (ld_con (iA b.at_) rfl rfl (cs := (c_limit_bucket b)) ((con_con2 _ _ _ _ _ hh0).trans hk_0) rfl)) <| L (iA (w64 (at_ - b.at_))) rfl rfl rfl <| L (iA (w64 (b.l.Most * (w64 (at_ - b.at_))))) rfl rfl rfl <| L (iA (w64 (b.level + (w64 (b.l.Most * (w64 (at_ - b.at_))))))) rfl rfl rfl <| L (iA (w64 (b.level + (w64 (b.l.Most * (w64 (at_ - b.at_))))))) rfl rfl rfl <| nl <| rt ?_
   obtain rfl := Option.some.inj hF0
   exact rd_leaf (.inr rfl) rfl (retV_pl _ _ (iA (w64 (b.level + (w64 (b.l.Most * (w64 (at_ - b.at_)))))))) rfl rfl

theorem ok_limit_bucket_most (b : limit_bucket) (at_ : Int) {r : (Int)} (hF0 : limit_bucket_most b at_ = some r) (out : List AE.Frame) (glob : List AObj) (d0 : AE.Loc) (w0 : Nat) (hh0 : d0.here = false) (hk_0 : con2 out glob d0 w0 = .cells (c_limit_bucket b)) : RdOk Try.prog pol true 33 [(.ptr d0 w0 0), (iA at_)] out glob (iA r) := by
 unfold limit_bucket_most at hF0
 refine rd_walk Try.func33 rfl (Nat.not_lt.2 (Nat.le_of_ble_eq_true rfl)) ?_
 intro ro
 refine sq <| rg <| L (iA 0) rfl rfl rfl <| nl <| sq <| dw (by kernel_rfl) <| L (.ptr d0 w0 0) rfl rfl rfl <| L (iA at_) rfl rfl rfl ?_
 obtain ⟨r7, h1, hF0⟩ := bind_some hF0
 refine WO_rd (g := 55) (args := [(.ptr d0 w0 0), (iA at_)]) (r := (iA r7)) _ _ rfl rfl rfl rfl rfl rfl rfl (ok_limit_bucket_now _ _ h1 _ _ _ _ (inn_here _) ((con2_inn _ _ _ _ _).trans ((con_con2 _ _ _ _ _ hh0).trans hk_0))) <| L (.ptr d0 w0 0) rfl rfl rfl <| L (.ptr d0 w0 0) rfl rfl rfl <| L (.ptr d0 w0 0) rfl rfl rfl <| L (.ptr d0 w0 3) rfl rfl rfl <| L (iA b.l.Per) rfl rfl (op_load rfl (ld_con (iA b.l.Per) rfl rfl (cs := (c_limit_bucket b)) ((con_con2 _ _ _ _ _ hh0).trans hk_0) rfl)) ?_
 obtain ⟨r4, h_r4, hF0⟩ := bind_some hF0
 refine L (iA r4) rfl rfl (op_bin rfl (bin_quo h_r4)) <| L (iA r4) rfl rfl rfl <| nl <| rt ?_
 obtain rfl := Option.some.inj hF0
 exact rd_leaf (.inr rfl) rfl (retV_pl _ _ (iA r4)) rfl rfl

theorem ok_limit_bucket_add (b : limit_bucket) (at_ : Int) (cost : Int) (a3 : Int) {r : (limit_bucket)} (hF0 : limit_bucket_add b at_ cost a3 = some r) : MutOk Try.prog pol 34 (fun p => [p, (iA at_), (iA cost), (iA a3)]) (c_limit_bucket b) (.tup []) (c_limit_bucket r) := by
 unfold limit_bucket_add at hF0
 refine mut_walk Try.func34 rfl (fun _ => Nat.not_lt.2 (Nat.le_of_ble_eq_true rfl)) ?_
 intro out glob d0 w0 hh0 hk_0
 refine dw (by kernel_rfl) <| L (.ptr d0 w0 0) rfl rfl rfl <| L (.ptr d0 w0 0) rfl rfl rfl <| L (.ptr d0 w0 0) rfl rfl rfl <| L (iA at_) rfl rfl rfl ?_
 obtain ⟨r12, h1, hF0⟩ := bind_some hF0
 refine WO_rd (g := 55) (args := [(.ptr d0 w0 0), (iA at_)]) (r := (iA r12)) _ _ rfl rfl rfl rfl rfl rfl rfl (ok_limit_bucket_now _ _ h1 _ _ _ _ (inn_here _) ((con2_inn _ _ _ _ _).trans ((con_con2 _ _ _ _ _ hh0).trans hk_0))) <| L (iA cost) rfl rfl rfl <| L (.ptr d0 w0 0) rfl rfl rfl <| L (.ptr d0 w0 0) rfl rfl rfl <| L (.ptr d0 w0 0) rfl rfl rfl <| L (.ptr d0 w0 3) rfl rfl rfl <| L (iA b.l.Per) rfl rfl (op_load rfl (ld_con (iA b.l.Per) rfl rfl (cs := (c_limit_bucket b)) ((con_con2 _ _ _ _ _ hh0).trans hk_0) rfl)) <| L (iA (w64 (cost * b.l.Per))) rfl rfl rfl <| L (iA (w64 (r12 - (w64 (cost * b.l.Per))))) rfl rfl rfl <| L (iA at_) rfl rfl rfl <| L (.ptr d0 w0 0) rfl rfl rfl <| L (.ptr d0 w0 6) rfl rfl rfl <| WO_stP (X := (iA (w64 (r12 - (w64 (cost * b.l.Per)))))) (cs := (c_limit_bucket b)) (cs' := (c_limit_bucket ({ b with level := w64 (r12 - (w64 (cost * b.l.Per))) }))) (off := 6) _ rfl rfl rfl rfl (by kernel_rfl) rfl rfl rfl hh0 hk_0 (Nat.le_of_ble_eq_true rfl) rfl (fun out2 glob2 hk2 hs2 => ?_)
 replace hs2 := (Same.refl _ _ _).trans hs2
 refine L (.ptr d0 w0 0) rfl rfl rfl <| L (.ptr d0 w0 5) rfl rfl rfl <| WO_stP (X := (iA at_)) (cs := (c_limit_bucket ({ b with level := w64 (r12 - (w64 (cost * b.l.Per))) }))) (cs' := (c_limit_bucket ({ b with at_ := at_, level := w64 (r12 - (w64 (cost * b.l.Per))) }))) (off := 5) _ rfl rfl rfl rfl (by kernel_rfl) rfl rfl rfl hh0 hk2 (Nat.le_of_ble_eq_true rfl) rfl (fun out3 glob3 hk3 hs3 => ?_)
 replace hs3 := hs2.trans hs3
 refine nl ?_
 obtain rfl := Option.some.inj hF0
 exact mut_leaf (.inl rfl) rfl (rfl) hk3 hs3

theorem ok_limit_Room (l : api_Limit) (long : Int) {r : (Int × Int)} (hF0 : limit_Room l long = some r) (out : List AE.Frame) (glob : List AObj) : RdOk Try.prog pol false 9 [(.agg (c_api_Limit l)), (iA long)] out glob (.tup [(iA r.1), (iA r.2)]) := by
 unfold limit_Room at hF0
 refine rd_walkF Try.func9 rfl (Nat.not_lt.2 (Nat.le_of_ble_eq_true rfl)) <| sq <| rg <| L (.ptr (.fr 0 2) 1 0) (h' := ⟨upd _ 2 ⟨1, .cells (c_api_Limit l)⟩, _, _⟩) rfl rfl (op_box (x' := (.agg (c_api_Limit l))) rfl rfl rfl rfl) <| L (iA 0) rfl rfl rfl <| L (iA 0) rfl rfl rfl <| nl <| sq <| sq <| rg <| L (.agg (c_api_Limit l)) rfl rfl (op_load rfl (ld_con (.agg (c_api_Limit l)) rfl rfl (cs := (c_api_Limit l)) (con_fr rfl) rfl)) <| L (Sl.av 5 c_api_Limit (Sl.full [l])) rfl rfl (op_sliceN rfl rfl rfl) ?_
 obtain ⟨e, h1, hF0⟩ := bind_some hF0
 refine WO_rd (g := 30) (args := [(Sl.av 5 c_api_Limit (Sl.full [l]))]) (r := (iA e)) _ _ rfl rfl rfl rfl rfl rfl rfl (ok_limit_CheckLimits _ h1 _ _ ) <| L (iA e) rfl rfl rfl <| nl <| sq <| rg <| L (iA e) rfl rfl rfl <| L (bA (e != 0)) rfl rfl rfl <| nl <| cd (e != 0) rfl (fun hc23 => ?_) (fun hc23 => ?_)
 · replace hF0 := ite_t hF0 (bne_t hc23)
   refine sq <| rg <| L (iA e) rfl rfl rfl <| L (iA 0) rfl rfl rfl <| L (iA e) rfl rfl rfl <| nl <| rt ?_
   obtain rfl := Option.some.inj hF0
   exact rd_leaf (.inr rfl) rfl (ret_tup2 (retV_pl _ _ (iA 0)) (retV_pl _ _ (iA e))) rfl rfl
 · replace hF0 := ite_f hF0 (bne_f hc23)
   refine sk <| sq <| sq <| rg <| L (.ptr (.fr 0 2) 1 1) rfl rfl rfl <| L (iA l.Kind) rfl rfl (op_load rfl (ld_con (iA l.Kind) rfl rfl (cs := (c_api_Limit l)) (con_fr rfl) rfl)) <| L (bA (l.Kind == 4)) rfl rfl rfl <| nl <| cd (l.Kind == 4) rfl (fun hc22 => ?_) (fun hc22 => ?_)
   · replace hF0 := ite_t hF0 (beq_t hc22)
     refine sq <| rg <| L (iA 0) rfl rfl rfl <| L (iA 10) rfl rfl rfl <| nl <| rt ?_
     obtain rfl := Option.some.inj hF0
     exact rd_leaf (.inr rfl) rfl (ret_tup2 (retV_pl _ _ (iA 0)) (retV_pl _ _ (iA 10))) rfl rfl
   · replace hF0 := ite_f hF0 (beq_f hc22)
     refine sk <| sq <| sq <| rg <| L (iA long) rfl rfl rfl ?_
     obtain ⟨r21, h2, hF0⟩ := bind_some hF0
     refine WO_rd (g := 31) (args := [(iA long), (iA 1), (iA 100000)]) (r := (bA r21)) _ _ rfl rfl rfl rfl rfl rfl rfl (ok_kit_Outside _ _ _ h2 _ _ ) <| nl <| cd r21 rfl (fun hc21 => ?_) (fun hc21 => ?_)
     · replace hF0 := ite_t hF0 (hc21)
       refine sq <| rg <| L (iA 0) rfl rfl rfl <| L (iA 1) rfl rfl rfl <| nl <| rt ?_
       obtain rfl := Option.some.inj hF0
       exact rd_leaf (.inr rfl) rfl (ret_tup2 (retV_pl _ _ (iA 0)) (retV_pl _ _ (iA 1))) rfl rfl
     · replace hF0 := ite_f hF0 (not_t hc21)
       refine sk <| sq <| sq <| rg <| L (.ptr (.fr 0 2) 1 1) rfl rfl rfl <| L (iA l.Kind) rfl rfl (op_load rfl (ld_con (iA l.Kind) rfl rfl (cs := (c_api_Limit l)) (con_fr rfl) rfl)) <| nl <| bk <| sq <| rg <| L (bA (l.Kind == 1)) rfl rfl rfl <| L (bA (l.Kind == 1)) rfl rfl rfl <| nl <| cd (l.Kind == 1) rfl (fun hc20 => ?_) (fun hc20 => ?_)
       · replace hF0 := ite_t hF0 (beq_t hc20)
         refine sq <| dw (by kernel_rfl) <| L (.ptr (.fr 0 2) 1 2) rfl rfl rfl <| L (iA l.Most) rfl rfl (op_load rfl (ld_con (iA l.Most) rfl rfl (cs := (c_api_Limit l)) (con_fr rfl) rfl)) <| L (iA long) rfl rfl rfl <| L (iA (w64 (long - 1))) rfl rfl rfl <| L (.ptr (.fr 0 2) 1 3) rfl rfl rfl <| L (iA l.Per) rfl rfl (op_load rfl (ld_con (iA l.Per) rfl rfl (cs := (c_api_Limit l)) (con_fr rfl) rfl)) ?_
         obtain ⟨r32, h3, hF0⟩ := bind_some hF0
         refine WO_rd (g := 32) (args := [(iA (w64 (long - 1))), (iA l.Per)]) (r := (iA r32)) _ _ rfl rfl rfl rfl rfl rfl rfl (ok_limit_up _ _ h3 _ _ ) <| L (iA (w64 (1 + r32))) rfl rfl rfl <| L (iA (w64 (l.Most * (w64 (1 + r32))))) rfl rfl rfl <| L (iA (w64 (l.Most * (w64 (1 + r32))))) rfl rfl rfl <| L (iA 0) rfl rfl rfl <| nl <| rt ?_
         obtain rfl := Option.some.inj hF0
         exact rd_leaf (.inr rfl) rfl (ret_tup2 (retV_pl _ _ (iA (w64 (l.Most * (w64 (1 + r32)))))) (retV_pl _ _ (iA 0))) rfl rfl
       · replace hF0 := ite_f hF0 (beq_f hc20)
         refine sq <| rg <| L (bA (l.Kind == 2)) rfl rfl rfl <| L (bA (l.Kind == 2)) rfl rfl rfl <| nl <| cd (l.Kind == 2) rfl (fun hc19 => ?_) (fun hc19 => ?_)
         · replace hF0 := ite_t hF0 (beq_t hc19)
           refine sq <| dw (by kernel_rfl) <| L (.ptr (.fr 0 2) 1 2) rfl rfl rfl <| L (iA l.Most) rfl rfl (op_load rfl (ld_con (iA l.Most) rfl rfl (cs := (c_api_Limit l)) (con_fr rfl) rfl)) <| L (iA long) rfl rfl rfl <| L (.ptr (.fr 0 2) 1 3) rfl rfl rfl <| L (iA l.Per) rfl rfl (op_load rfl (ld_con (iA l.Per) rfl rfl (cs := (c_api_Limit l)) (con_fr rfl) rfl)) ?_
           obtain ⟨r42, h4, hF0⟩ := bind_some hF0
           refine WO_rd (g := 32) (args := [(iA long), (iA l.Per)]) (r := (iA r42)) _ _ rfl rfl rfl rfl rfl rfl rfl (ok_limit_up _ _ h4 _ _ ) <| L (iA (w64 (l.Most * r42))) rfl rfl rfl <| L (iA (w64 (l.Most * r42))) rfl rfl rfl <| L (iA 0) rfl rfl rfl <| nl <| rt ?_
           obtain rfl := Option.some.inj hF0
           exact rd_leaf (.inr rfl) rfl (ret_tup2 (retV_pl _ _ (iA (w64 (l.Most * r42)))) (retV_pl _ _ (iA 0))) rfl rfl
         · replace hF0 := ite_f hF0 (beq_f hc19)
           refine sk <| sq <| rg <| L (.agg (c_api_Limit l)) rfl rfl (op_load rfl (ld_con (.agg (c_api_Limit l)) rfl rfl (cs := (c_api_Limit l)) (con_fr rfl) rfl)) <| L (.ptr (.fr 0 2) 1 4) rfl rfl rfl <| L (iA l.Burst) rfl rfl (op_load rfl (ld_con (iA l.Burst) rfl rfl (cs := (c_api_Limit l)) (con_fr rfl) rfl)) <| L (.ptr (.fr 0 2) 1 3) rfl rfl rfl <| L (iA l.Per) rfl rfl (op_load rfl (ld_con (iA l.Per) rfl rfl (cs := (c_api_Limit l)) (con_fr rfl) rfl)) <| L (iA (w64 (l.Burst * l.Per))) rfl rfl rfl <| L (.agg (c_limit_bucket (limit_bucket.mk l 0 (w64 (l.Burst * l.Per))))) rfl rfl (op_build rfl (build_st (cs := (c_limit_bucket (limit_bucket.mk l 0 (w64 (l.Burst * l.Per))))) rfl rfl rfl (fill_cons (x := (.agg (c_api_Limit l))) rfl rfl (Nat.le_of_ble_eq_true rfl) (fill_cons (x := (iA (w64 (l.Burst * l.Per)))) rfl rfl (Nat.le_of_ble_eq_true rfl) (fill_nil))))) <| L (.ptr (.fr 0 51) 1 0) (h' := ⟨upd _ 51 ⟨1, .cells (c_limit_bucket (limit_bucket.mk l 0 (w64 (l.Burst * l.Per))))⟩, _, _⟩) rfl rfl (op_box (x' := (.agg (c_limit_bucket (limit_bucket.mk l 0 (w64 (l.Burst * l.Per)))))) rfl rfl rfl rfl) <| L (.ptr (.fr 0 51) 1 0) rfl rfl rfl <| nl <| sq <| rg <| L (iA 0) rfl rfl rfl <| nl <| sq <| sq <| rg <| L (iA long) rfl rfl rfl <| L (iA 0) rfl rfl rfl <| nl <| bk ?_
           obtain ⟨b1, hb13, hF0⟩ := bind_some hF0
           obtain ⟨hn13, hb13⟩ := ite_none hb13
           obtain ⟨J13, hJ13⟩ : ∃ J : St → Prop, ∀ st, J st ↔ (∃ (sum3 : Int) (tm15 : Nat → AV) (cb15 : AE.Frame), st = ⟨tm15, ⟨cb15, out, glob⟩⟩ ∧ AllEq tm15 [(8, (iA sum3))] ∧ AllEq cb15 [] ∧ sum3 = b1) := ⟨_, fun _ => Iff.rfl⟩
           obtain ⟨R13, hR13⟩ : ∃ R : Nat → (limit_bucket × Int) → St → Prop, ∀ at_ v st, R at_ v st ↔ (match v with | (t513, sum2) => ∃ (tm14 : Nat → AV) (cb14 : AE.Frame), st = ⟨tm14, ⟨cb14, out, glob⟩⟩ ∧ AllEq tm14 [(7, (.ptr (.fr 0 51) 1 0)), (8, (iA sum2)), (52, (iA long)), (53, (iA ((at_ : Nat) : Int)))] ∧ AllEq cb14 [(51, ⟨1, .cells (c_limit_bucket t513)⟩)]) := ⟨_, fun _ _ _ => Iff.rfl⟩
           refine W_loopcut J13 (fun st hst => ?_) ?_
           · obtain ⟨sum3, tm15, cb15, rfl, hT15, hC15, rfl⟩ := (hJ13 st).1 hst
             obtain ⟨tm15, rfl⟩ := allEq hT15
             obtain ⟨cb15, rfl⟩ := allEq hC15
             refine sq <| rg <| L (iA sum3) rfl rfl rfl <| L (iA sum3) rfl rfl rfl <| L (iA 0) rfl rfl rfl <| nl <| rt ?_
             obtain rfl := Option.some.inj hF0
             exact rd_leaf (.inr rfl) rfl (ret_tup2 (retV_pl _ _ (iA sum3)) (retV_pl _ _ (iA 0))) rfl rfl
           · refine W_rangeL hb13 R13 ((hR13 _ _ _).2 ⟨_, _, rfl, (And.intro rfl (And.intro rfl (And.intro rfl (And.intro rfl True.intro)))), (And.intro rfl True.intro)⟩) ?_ ?_
             · intro at_ hi13 v st s hr hF1 hD1
               obtain ⟨t513, sum2⟩ := v
               obtain ⟨tm14, cb14, rfl, hT14, hC14⟩ := (hR13 _ _ _).1 hr
               obtain ⟨tm14, rfl⟩ := allEq hT14
               obtain ⟨cb14, rfl⟩ := allEq hC14
               dsimp only [limit_Room_l0] at hF1
               refine sq (rg ?_)
               refine WO_do (y := (bA (decide (((at_ : Nat) : Int) < long)))) _ rfl rfl rfl (nl ?_)
               refine sq <| cd true (congrArg some (rangeN_lt hi13)) (fun _ => ?_) (fun h => absurd h (by decide))
               refine sk <| sq <| bk <| sq <| rg <| L (iA ((at_ : Nat) : Int)) rfl rfl rfl <| L (iA ((at_ : Nat) : Int)) rfl rfl rfl <| nl <| sq <| rg <| L (.ptr (.fr 0 51) 1 0) rfl rfl rfl <| L (iA ((at_ : Nat) : Int)) rfl rfl rfl ?_
               obtain ⟨n2, h17, hF1⟩ := bind_some hF1
               refine WO_rd (g := 33) (args := [(.ptr (.fr 0 51) 1 0), (iA ((at_ : Nat) : Int))]) (r := (iA n2)) _ _ rfl rfl rfl rfl rfl rfl rfl (ok_limit_bucket_most _ _ h17 _ _ _ _ (inn_here _) ((con2_inn _ _ _ _ _).trans (con_fr rfl))) <| L (iA n2) rfl rfl rfl <| nl <| sq <| rg <| L (.ptr (.fr 0 51) 1 0) rfl rfl rfl <| L (iA ((at_ : Nat) : Int)) rfl rfl rfl <| L (iA n2) rfl rfl rfl ?_
               obtain ⟨t514, h18, hF1⟩ := bind_some hF1
               exact WO_mutL (g := 34) (args := fun p => [p, (iA ((at_ : Nat) : Int)), (iA n2), (iA 0)]) (t := 51) (v := 1) (r := (.tup [])) _ _ rfl rfl rfl rfl rfl rfl rfl (fun _ _ => inferInstance) rfl (ok_limit_bucket_add _ _ _ _ h18) <| nl <| rg <| L (iA sum2) rfl rfl rfl <| L (iA n2) rfl rfl rfl <| L (iA (w64 (sum2 + n2))) rfl rfl rfl <| L (iA (w64 (sum2 + n2))) rfl rfl rfl <| nl <| rg <| WO_do (y := (iA ((at_ + 1 : Nat) : Int))) _ rfl rfl (congrArg (fun n => some (AV.int .i64 n, _)) (rangeN_len hi13 hn13)) <| WO_do (y := (iA ((at_ + 1 : Nat) : Int))) _ rfl rfl rfl <| nl <| Exists.intro _ (And.intro (Option.some.inj hF1).symm ((hR13 _ _ _).2 ⟨_, _, rfl, (And.intro rfl (And.intro rfl (And.intro rfl (And.intro rfl True.intro)))), (And.intro rfl True.intro)⟩))
             · intro v st hr hD1
               obtain ⟨t513, sum2⟩ := v
               obtain ⟨tm14, cb14, rfl, hT14, hC14⟩ := (hR13 _ _ _).1 hr
               obtain ⟨tm14, rfl⟩ := allEq hT14
               obtain ⟨cb14, rfl⟩ := allEq hC14
               refine sq (rg ?_)
               refine WO_do (y := .bool false) _ rfl rfl (congrArg (fun b => some (AV.bool b, _)) (rangeN_ge _)) (nl ?_)
               refine sq <| cd false rfl (fun h => absurd h (by decide)) (fun _ => ?_)
               exact xt <| (hJ13 _).2 ⟨sum2, _, _, rfl, (And.intro rfl True.intro), True.intro, hD1⟩

theorem ok_gateref2_in (n : Int) (low : Int) (high : Int) {r : (Bool)} (hF0 : gateref2_in n low high = some r) (out : List AE.Frame) (glob : List AObj) : RdOk Try.prog pol true 56 [(iA n), (iA low), (iA high)] out glob (bA r) := by
 unfold gateref2_in at hF0
 refine rd_walk Try.func56 rfl (Nat.not_lt.2 (Nat.le_of_ble_eq_true rfl)) ?_
 intro ro
 refine sq <| rg <| L (bA false) rfl rfl rfl <| nl <| sq <| rg <| L (iA low) rfl rfl rfl <| L (iA n) rfl rfl rfl <| L (bA (decide (low ≤ n))) rfl rfl rfl ?_
 obtain ⟨J1, hJ1⟩ : ∃ J : St → Prop, ∀ st, J st ↔ (∃ (tm2 : Nat → AV) (cb2 : AE.Frame), st = ⟨tm2, ⟨cb2, out, glob⟩⟩ ∧ AllEq tm2 [(14, (bA ((decide (low ≤ n)) && (decide (n ≤ high)))))] ∧ AllEq cb2 []) := ⟨_, fun _ => Iff.rfl⟩
 refine WO_cut 5 J1 (fun st hst => ?_) ?_
 · obtain ⟨tm2, cb2, rfl, hT2, hC2⟩ := (hJ1 st).1 hst
   obtain ⟨tm2, rfl⟩ := allEq hT2
   obtain ⟨cb2, rfl⟩ := allEq hC2
   refine L (bA ((decide (low ≤ n)) && (decide (n ≤ high)))) rfl rfl rfl <| nl <| rt ?_
   obtain rfl := Option.some.inj hF0
   exact rd_leaf (.inr rfl) rfl (retV_pl _ _ (bA ((decide (low ≤ n)) && (decide (n ≤ high))))) rfl rfl
 · rcases bool_cases (decide (low ≤ n)) with hc1 | hc1
   · exact L (.bool true) rfl rfl (congrArg (fun b => some (AV.bool b, _)) hc1) <| L (iA n) rfl rfl rfl <| L (iA high) rfl rfl rfl <| L (bA (decide (n ≤ high))) rfl rfl rfl <| L (bA ((decide (low ≤ n)) && (decide (n ≤ high)))) rfl rfl (congrArg (fun b => some (AV.bool b, _)) (by rw [hc1]; rfl)) <| nl ((hJ1 _).2 ⟨_, _, rfl, (And.intro rfl True.intro), True.intro⟩)
   · exact L (.bool false) rfl rfl (congrArg (fun b => some (AV.bool b, _)) hc1) <| WO_no _ rfl rfl <| WO_no _ rfl rfl <| WO_no _ rfl rfl <| L (bA ((decide (low ≤ n)) && (decide (n ≤ high)))) rfl rfl (congrArg (fun b => some (AV.bool b, _)) (by rw [hc1]; rfl)) <| nl ((hJ1 _).2 ⟨_, _, rfl, (And.intro rfl True.intro), True.intro⟩)

theorem ok_stringslite_IndexByte (s_ : Str) (c : Int) {r : (Int)} (hF0 : stringslite_IndexByte s_ c = some r) (out : List AE.Frame) (glob : List AObj) : RdOk Try.prog pol true 70 [(sA s_), (.int .u8 c)] out glob (iA r) := by
 unfold stringslite_IndexByte at hF0
 refine rd_walk Try.func70 rfl (Nat.not_lt.2 (Nat.le_of_ble_eq_true rfl)) ?_
 intro ro
 refine sq <| rg <| L (iA 0) rfl rfl rfl <| nl <| sq <| rg <| L (sA s_) rfl rfl rfl <| L (.int .u8 c) rfl rfl rfl <| L (iA (Go.Lib.indexByte s_ c.toNat.toUInt8)) rfl rfl rfl <| L (iA (Go.Lib.indexByte s_ c.toNat.toUInt8)) rfl rfl rfl <| nl <| rt ?_
 obtain rfl := Option.some.inj hF0
 exact rd_leaf (.inr rfl) rfl (retV_pl _ _ (iA (Go.Lib.indexByte s_ c.toNat.toUInt8))) rfl rfl

theorem ok_strings_IndexByte (s_ : Str) (c : Int) {r : (Int)} (hF0 : strings_IndexByte s_ c = some r) (out : List AE.Frame) (glob : List AObj) : RdOk Try.prog pol true 64 [(sA s_), (.int .u8 c)] out glob (iA r) := by
 unfold strings_IndexByte at hF0
 refine rd_walk Try.func64 rfl (Nat.not_lt.2 (Nat.le_of_ble_eq_true rfl)) ?_
 intro ro
 refine sq <| rg <| L (iA 0) rfl rfl rfl <| nl <| sq <| rg <| L (sA s_) rfl rfl rfl <| L (.int .u8 c) rfl rfl rfl ?_
 obtain ⟨r4, h1, hF0⟩ := bind_some hF0
 refine WO_rd (g := 70) (args := [(sA s_), (.int .u8 c)]) (r := (iA r4)) _ _ rfl rfl rfl rfl rfl rfl rfl (ok_stringslite_IndexByte _ _ h1 _ _ ) <| L (iA r4) rfl rfl rfl <| nl <| rt ?_
 obtain rfl := Option.some.inj hF0
 exact rd_leaf (.inr rfl) rfl (retV_pl _ _ (iA r4)) rfl rfl

theorem ok_gateref2_only (s_ : Str) (some_ : Str) {r : (Bool)} (hF0 : gateref2_only s_ some_ = some r) (out : List AE.Frame) (glob : List AObj) : RdOk Try.prog pol true 57 [(sA s_), (sA some_)] out glob (bA r) := by
 unfold gateref2_only at hF0
 refine rd_walk Try.func57 rfl (Nat.not_lt.2 (Nat.le_of_ble_eq_true rfl)) ?_
 intro ro
 refine sq <| rg <| L (bA false) rfl rfl rfl <| nl <| sq <| sq <| rg <| L (sA s_) rfl rfl rfl <| L (iA (s_.length : Int)) rfl rfl rfl <| L (iA 0) rfl rfl rfl <| nl <| bk ?_
 obtain ⟨b1, hb5, hF0⟩ := bind_some hF0
 obtain ⟨hn5, hb5⟩ := ite_none hb5
 obtain ⟨J5, hJ5⟩ : ∃ J : St → Prop, ∀ st, J st ↔ (∃ (tm7 : Nat → AV) (cb7 : AE.Frame), st = ⟨tm7, ⟨cb7, out, glob⟩⟩ ∧ AllEq tm7 [] ∧ AllEq cb7 [] ∧ Res.out () = b1) := ⟨_, fun _ => Iff.rfl⟩
 obtain ⟨R5, hR5⟩ : ∃ R : Nat → (Unit) → St → Prop, ∀ i v st, R i v st ↔ (match v with | () => ∃ (tm6 : Nat → AV) (cb6 : AE.Frame), st = ⟨tm6, ⟨cb6, out, glob⟩⟩ ∧ AllEq tm6 [(0, (sA s_)), (1, (sA some_)), (7, (iA (s_.length : Int))), (8, (iA ((i : Nat) : Int)))] ∧ AllEq cb6 []) := ⟨_, fun _ _ _ => Iff.rfl⟩
 refine W_loopcut J5 (fun st hst => ?_) ?_
 · obtain ⟨tm7, cb7, rfl, hT7, hC7, rfl⟩ := (hJ5 st).1 hst
   obtain ⟨tm7, rfl⟩ := allEq hT7
   obtain ⟨cb7, rfl⟩ := allEq hC7
   replace hF0 := res_out hF0
   refine sq <| rg <| L (bA true) rfl rfl rfl <| nl <| rt ?_
   obtain rfl := Option.some.inj hF0
   exact rd_leaf (.inr rfl) rfl (retV_pl _ _ (bA true)) rfl rfl
 · refine W_rangeL hb5 R5 ((hR5 _ _ _).2 ⟨_, _, rfl, (And.intro rfl (And.intro rfl (And.intro rfl (And.intro rfl True.intro)))), True.intro⟩) ?_ ?_
   · intro i hi5 v st s hr hF1 hD1
     obtain ⟨⟩ := v
     obtain ⟨tm6, cb6, rfl, hT6, hC6⟩ := (hR5 _ _ _).1 hr
     obtain ⟨tm6, rfl⟩ := allEq hT6
     obtain ⟨cb6, rfl⟩ := allEq hC6
     dsimp only [gateref2_only_l0] at hF1
     refine sq (rg ?_)
     refine WO_do (y := (bA (decide (((i : Nat) : Int) < (s_.length : Int))))) _ rfl rfl rfl (nl ?_)
     refine sq <| cd true (congrArg some (rangeN_lt hi5)) (fun _ => ?_) (fun h => absurd h (by decide))
     refine sk <| sq <| bk <| sq <| rg <| L (iA ((i : Nat) : Int)) rfl rfl rfl <| L (iA ((i : Nat) : Int)) rfl rfl rfl <| nl <| sq <| rg <| L (sA some_) rfl rfl rfl <| L (sA s_) rfl rfl rfl <| L (iA ((i : Nat) : Int)) rfl rfl rfl ?_
     obtain ⟨r141, h_r141, hF1⟩ := bind_some hF1
     refine L (.int .u8 r141) rfl rfl (op_index rfl (ix_str rfl h_r141)) ?_
     obtain ⟨r151, h9, hF1⟩ := bind_some hF1
     refine WO_rd (g := 64) (args := [(sA some_), (.int .u8 r141)]) (r := (iA r151)) _ _ rfl rfl rfl rfl rfl rfl rfl (ok_strings_IndexByte _ _ h9 _ _ ) <| L (bA (decide (r151 < 0))) rfl rfl rfl <| nl <| cd (decide (r151 < 0)) rfl (fun hc10 => ?_) (fun hc10 => ?_)
     · replace hF1 := ite_t hF1 (dec_t hc10)
       refine sq <| rg <| L (bA false) rfl rfl rfl <| nl <| rt ?_
       obtain rfl := hD1 _ (Option.some.inj hF1).symm
       replace hF0 := res_ret hF0
       obtain rfl := Option.some.inj hF0
       exact rd_leaf (.inr rfl) rfl (retV_pl _ _ (bA false)) rfl rfl
     · replace hF1 := ite_f hF1 (dec_f hc10)
       exact sk <| rg <| WO_do (y := (iA ((i + 1 : Nat) : Int))) _ rfl rfl (congrArg (fun n => some (AV.int .i64 n, _)) (rangeN_len hi5 hn5)) <| WO_do (y := (iA ((i + 1 : Nat) : Int))) _ rfl rfl rfl <| nl <| Exists.intro _ (And.intro (Option.some.inj hF1).symm ((hR5 _ _ _).2 ⟨_, _, rfl, (And.intro rfl (And.intro rfl (And.intro rfl (And.intro rfl True.intro)))), True.intro⟩))
   · intro v st hr hD1
     obtain ⟨⟩ := v
     obtain ⟨tm6, cb6, rfl, hT6, hC6⟩ := (hR5 _ _ _).1 hr
     obtain ⟨tm6, rfl⟩ := allEq hT6
     obtain ⟨cb6, rfl⟩ := allEq hC6
     refine sq (rg ?_)
     refine WO_do (y := .bool false) _ rfl rfl (congrArg (fun b => some (AV.bool b, _)) (rangeN_ge _)) (nl ?_)
     refine sq <| cd false rfl (fun h => absurd h (by decide)) (fun _ => ?_)
     exact xt <| (hJ5 _).2 ⟨_, _, rfl, True.intro, True.intro, hD1⟩

theorem ok_gateref2_Key (s_ : Str) {r : (Bool)} (hF0 : gateref2_Key s_ = some r) (out : List AE.Frame) (glob : List AObj) : RdOk Try.prog pol true 35 [(sA s_)] out glob (bA r) := by
 unfold gateref2_Key at hF0
 refine rd_walk Try.func35 rfl (Nat.not_lt.2 (Nat.le_of_ble_eq_true rfl)) ?_
 intro ro
 refine sq <| rg <| L (bA false) rfl rfl rfl <| nl <| sq <| rg <| L (sA s_) rfl rfl rfl <| L (iA (s_.length : Int)) rfl rfl rfl ?_
 obtain ⟨r5, h1, hF0⟩ := bind_some hF0
 refine WO_rd (g := 56) (args := [(iA (s_.length : Int)), (iA 1), (iA 40)]) (r := (bA r5)) _ _ rfl rfl rfl rfl rfl rfl rfl (ok_gateref2_in _ _ _ h1 _ _ ) ?_
 obtain ⟨y3, hF1, hF0⟩ := bind_some hF0
 obtain ⟨J3, hJ3⟩ : ∃ J : St → Prop, ∀ st, J st ↔ (∃ (t10 : Bool) (tm4 : Nat → AV) (cb4 : AE.Frame), st = ⟨tm4, ⟨cb4, out, glob⟩⟩ ∧ AllEq tm4 [(0, (sA s_)), (10, (bA t10))] ∧ AllEq cb4 [] ∧ t10 = y3) := ⟨_, fun _ => Iff.rfl⟩
 refine WO_cut 5 J3 (fun st hst => ?_) ?_
 · obtain ⟨t10, tm4, cb4, rfl, hT4, hC4, rfl⟩ := (hJ3 st).1 hst
   obtain ⟨tm4, rfl⟩ := allEq hT4
   obtain ⟨cb4, rfl⟩ := allEq hC4
   obtain ⟨y6, hF1, hF0⟩ := bind_some hF0
   obtain ⟨J6, hJ6⟩ : ∃ J : St → Prop, ∀ st, J st ↔ (∃ (t14 : Bool) (tm7 : Nat → AV) (cb7 : AE.Frame), st = ⟨tm7, ⟨cb7, out, glob⟩⟩ ∧ AllEq tm7 [(14, (bA t14))] ∧ AllEq cb7 [] ∧ t14 = y6) := ⟨_, fun _ => Iff.rfl⟩
   refine WO_cut 4 J6 (fun st hst => ?_) ?_
   · obtain ⟨t14, tm7, cb7, rfl, hT7, hC7, rfl⟩ := (hJ6 st).1 hst
     obtain ⟨tm7, rfl⟩ := allEq hT7
     obtain ⟨cb7, rfl⟩ := allEq hC7
     refine L (bA t14) rfl rfl rfl <| nl <| rt ?_
     obtain rfl := Option.some.inj hF0
     exact rd_leaf (.inr rfl) rfl (retV_pl _ _ (bA t14)) rfl rfl
   · rcases bool_cases t10 with hc6 | hc6
     · replace hF1 := ite_t hF1 (hc6)
       refine L (.bool true) rfl rfl (congrArg (fun b => some (AV.bool b, _)) hc6) <| L (sA s_) rfl rfl rfl ?_
       obtain ⟨r131, h8, hF1⟩ := bind_some hF1
       exact WO_rd (g := 57) (args := [(sA s_), (sA [97, 98, 99, 100, 101, 102, 103, 104, 105, 106, 107, 108, 109, 110, 111, 112, 113, 114, 115, 116, 117, 118, 119, 120, 121, 122, 48, 49, 50, 51, 52, 53, 54, 55, 56, 57, 45, 95])]) (r := (bA r131)) _ _ rfl rfl rfl rfl rfl rfl rfl (ok_gateref2_only _ _ h8 _ _ ) <| L (bA r131) rfl rfl rfl <| nl ((hJ6 _).2 ⟨r131, _, _, rfl, (And.intro rfl True.intro), True.intro, Option.some.inj hF1⟩)
     · replace hF1 := ite_f hF1 (not_t hc6)
       exact L (.bool false) rfl rfl (congrArg (fun b => some (AV.bool b, _)) hc6) <| WO_no _ rfl rfl <| WO_no _ rfl rfl <| L (bA false) rfl rfl rfl <| nl ((hJ6 _).2 ⟨false, _, _, rfl, (And.intro rfl True.intro), True.intro, Option.some.inj hF1⟩)
 · rcases bool_cases r5 with hc3 | hc3
   · replace hF1 := ite_t hF1 (hc3)
     refine L (.bool true) rfl rfl (congrArg (fun b => some (AV.bool b, _)) hc3) <| L (sA s_) rfl rfl rfl ?_
     obtain ⟨r81, h_r81, hF1⟩ := bind_some hF1
     refine L (sA r81) rfl rfl (op_slice rfl (sl_str (a := 0) (b := 1) rfl rfl rfl h_r81)) ?_
     obtain ⟨r91, h9, hF1⟩ := bind_some hF1
     exact WO_rd (g := 57) (args := [(sA r81), (sA [97, 98, 99, 100, 101, 102, 103, 104, 105, 106, 107, 108, 109, 110, 111, 112, 113, 114, 115, 116, 117, 118, 119, 120, 121, 122])]) (r := (bA r91)) _ _ rfl rfl rfl rfl rfl rfl rfl (ok_gateref2_only _ _ h9 _ _ ) <| L (bA r91) rfl rfl rfl <| nl ((hJ3 _).2 ⟨r91, _, _, rfl, (And.intro rfl (And.intro rfl True.intro)), True.intro, Option.some.inj hF1⟩)
   · replace hF1 := ite_f hF1 (not_t hc3)
     exact L (.bool false) rfl rfl (congrArg (fun b => some (AV.bool b, _)) hc3) <| WO_no _ rfl rfl <| WO_no _ rfl rfl <| WO_no _ rfl rfl <| L (bA false) rfl rfl rfl <| nl ((hJ3 _).2 ⟨false, _, _, rfl, (And.intro rfl (And.intro rfl True.intro)), True.intro, Option.some.inj hF1⟩)

theorem ok_gateref1_in (n : Int) (low : Int) (high : Int) {r : (Bool)} (hF0 : gateref1_in n low high = some r) (out : List AE.Frame) (glob : List AObj) : RdOk Try.prog pol true 40 [(iA n), (iA low), (iA high)] out glob (bA r) := by
 unfold gateref1_in at hF0
 refine rd_walk Try.func40 rfl (Nat.not_lt.2 (Nat.le_of_ble_eq_true rfl)) ?_
 intro ro
 refine sq <| rg <| L (bA false) rfl rfl rfl <| nl <| sq <| rg <| L (iA low) rfl rfl rfl <| L (iA n) rfl rfl rfl <| L (bA (decide (low ≤ n))) rfl rfl rfl ?_
 obtain ⟨J1, hJ1⟩ : ∃ J : St → Prop, ∀ st, J st ↔ (∃ (tm2 : Nat → AV) (cb2 : AE.Frame), st = ⟨tm2, ⟨cb2, out, glob⟩⟩ ∧ AllEq tm2 [(14, (bA ((decide (low ≤ n)) && (decide (n ≤ high)))))] ∧ AllEq cb2 []) := ⟨_, fun _ => Iff.rfl⟩
 refine WO_cut 5 J1 (fun st hst => ?_) ?_
 · obtain ⟨tm2, cb2, rfl, hT2, hC2⟩ := (hJ1 st).1 hst
   obtain ⟨tm2, rfl⟩ := allEq hT2
   obtain ⟨cb2, rfl⟩ := allEq hC2
   refine L (bA ((decide (low ≤ n)) && (decide (n ≤ high)))) rfl rfl rfl <| nl <| rt ?_
   obtain rfl := Option.some.inj hF0
   exact rd_leaf (.inr rfl) rfl (retV_pl _ _ (bA ((decide (low ≤ n)) && (decide (n ≤ high))))) rfl rfl
 · rcases bool_cases (decide (low ≤ n)) with hc1 | hc1
   · exact L (.bool true) rfl rfl (congrArg (fun b => some (AV.bool b, _)) hc1) <| L (iA n) rfl rfl rfl <| L (iA high) rfl rfl rfl <| L (bA (decide (n ≤ high))) rfl rfl rfl <| L (bA ((decide (low ≤ n)) && (decide (n ≤ high)))) rfl rfl (congrArg (fun b => some (AV.bool b, _)) (by rw [hc1]; rfl)) <| nl ((hJ1 _).2 ⟨_, _, rfl, (And.intro rfl True.intro), True.intro⟩)
   · exact L (.bool false) rfl rfl (congrArg (fun b => some (AV.bool b, _)) hc1) <| WO_no _ rfl rfl <| WO_no _ rfl rfl <| WO_no _ rfl rfl <| L (bA ((decide (low ≤ n)) && (decide (n ≤ high)))) rfl rfl (congrArg (fun b => some (AV.bool b, _)) (by rw [hc1]; rfl)) <| nl ((hJ1 _).2 ⟨_, _, rfl, (And.intro rfl True.intro), True.intro⟩)

theorem ok_gateref1_LimitFault (l : api_Limit) {r : (Int)} (hF0 : gateref1_LimitFault l = some r) (out : List AE.Frame) (glob : List AObj) : RdOk Try.prog pol true 36 [(.agg (c_api_Limit l))] out glob (iA r) := by
 unfold gateref1_LimitFault at hF0
 refine rd_walk Try.func36 rfl (Nat.not_lt.2 (Nat.le_of_ble_eq_true rfl)) ?_
 intro ro
 refine sq <| rg <| L (.ptr (.fr 0 1) 1 0) (h' := ⟨upd _ 1 ⟨1, .cells (c_api_Limit l)⟩, _, _⟩) rfl rfl (op_box (x' := (.agg (c_api_Limit l))) rfl rfl rfl rfl) <| L (iA 0) rfl rfl rfl <| nl <| sq <| dw (by kernel_rfl) <| L (.ptr (.fr 0 1) 1 1) rfl rfl rfl <| L (iA l.Kind) rfl rfl (op_load rfl (ld_con (iA l.Kind) rfl rfl (cs := (c_api_Limit l)) (con_fr rfl) rfl)) <| L (bA (l.Kind == 4)) rfl rfl rfl <| L (.ptr (.fr 0 1) 1 1) rfl rfl rfl <| L (iA l.Kind) rfl rfl (op_load rfl (ld_con (iA l.Kind) rfl rfl (cs := (c_api_Limit l)) (con_fr rfl) rfl)) <| L (bA (l.Kind == 3)) rfl rfl rfl <| L (bA (l.Kind == 4)) rfl rfl rfl <| L (bA (l.Kind == 3)) rfl rfl rfl <| nl <| sq <| bk <| sq <| rg <| L (.ptr (.fr 0 1) 1 0) rfl rfl rfl <| L (sA l.Key) rfl rfl (op_load rfl (ld_con (sA l.Key) rfl rfl (cs := (c_api_Limit l)) (con_fr rfl) rfl)) ?_
 obtain ⟨r14, h1, hF0⟩ := bind_some hF0
 refine WO_rd (g := 35) (args := [(sA l.Key)]) (r := (bA r14)) _ _ rfl rfl rfl rfl rfl rfl rfl (ok_gateref2_Key _ h1 _ _ ) <| L (bA (!r14)) rfl rfl rfl <| L (bA (!r14)) rfl rfl rfl <| nl <| cd (!r14) rfl (fun hc32 => ?_) (fun hc32 => ?_)
 · replace hF0 := ite_t hF0 (hc32)
   refine sq <| rg <| L (iA 5) rfl rfl rfl <| nl <| rt ?_
   obtain rfl := Option.some.inj hF0
   exact rd_leaf (.inr rfl) rfl (retV_pl _ _ (iA 5)) rfl rfl
 · replace hF0 := ite_f hF0 (not_t hc32)
   refine sq <| rg <| L (.ptr (.fr 0 1) 1 1) rfl rfl rfl <| L (iA l.Kind) rfl rfl (op_load rfl (ld_con (iA l.Kind) rfl rfl (cs := (c_api_Limit l)) (con_fr rfl) rfl)) ?_
   obtain ⟨r19, h2, hF0⟩ := bind_some hF0
   refine WO_rd (g := 40) (args := [(iA l.Kind), (iA 1), (iA 4)]) (r := (bA r19)) _ _ rfl rfl rfl rfl rfl rfl rfl (ok_gateref1_in _ _ _ h2 _ _ ) <| L (bA (!r19)) rfl rfl rfl <| L (bA (!r19)) rfl rfl rfl <| nl <| cd (!r19) rfl (fun hc31 => ?_) (fun hc31 => ?_)
   · replace hF0 := ite_t hF0 (hc31)
     refine sq <| rg <| L (iA 4) rfl rfl rfl <| nl <| rt ?_
     obtain rfl := Option.some.inj hF0
     exact rd_leaf (.inr rfl) rfl (retV_pl _ _ (iA 4)) rfl rfl
   · replace hF0 := ite_f hF0 (not_t hc31)
     refine sq <| rg <| L (.ptr (.fr 0 1) 1 2) rfl rfl rfl <| L (iA l.Most) rfl rfl (op_load rfl (ld_con (iA l.Most) rfl rfl (cs := (c_api_Limit l)) (con_fr rfl) rfl)) ?_
     obtain ⟨r24, h3, hF0⟩ := bind_some hF0
     refine WO_rd (g := 40) (args := [(iA l.Most), (iA 1), (iA 1000000000)]) (r := (bA r24)) _ _ rfl rfl rfl rfl rfl rfl rfl (ok_gateref1_in _ _ _ h3 _ _ ) <| L (bA (!r24)) rfl rfl rfl <| L (bA (!r24)) rfl rfl rfl <| nl <| cd (!r24) rfl (fun hc30 => ?_) (fun hc30 => ?_)
     · replace hF0 := ite_t hF0 (hc30)
       refine sq <| rg <| L (iA 1) rfl rfl rfl <| nl <| rt ?_
       obtain rfl := Option.some.inj hF0
       exact rd_leaf (.inr rfl) rfl (retV_pl _ _ (iA 1)) rfl rfl
     · replace hF0 := ite_f hF0 (not_t hc30)
       refine sq <| rg <| L (bA (l.Kind == 4)) rfl rfl rfl ?_
       obtain ⟨J4, hJ4⟩ : ∃ J : St → Prop, ∀ st, J st ↔ (∃ (tm5 : Nat → AV) (cb5 : AE.Frame), st = ⟨tm5, ⟨cb5, out, glob⟩⟩ ∧ AllEq tm5 [(1, (.ptr (.fr 0 1) 1 0)), (3, (bA (l.Kind == 4))), (4, (bA (l.Kind == 3))), (32, (bA ((l.Kind == 4) && (l.Per != 0))))] ∧ AllEq cb5 [(1, ⟨1, .cells (c_api_Limit l)⟩)]) := ⟨_, fun _ => Iff.rfl⟩
       refine WO_cut 5 J4 (fun st hst => ?_) ?_
       · obtain ⟨tm5, cb5, rfl, hT5, hC5⟩ := (hJ4 st).1 hst
         obtain ⟨tm5, rfl⟩ := allEq hT5
         obtain ⟨cb5, rfl⟩ := allEq hC5
         obtain ⟨y10, hF1, hF0⟩ := bind_some hF0
         obtain ⟨J10, hJ10⟩ : ∃ J : St → Prop, ∀ st, J st ↔ (∃ (t42 : Bool) (tm11 : Nat → AV) (cb11 : AE.Frame), st = ⟨tm11, ⟨cb11, out, glob⟩⟩ ∧ AllEq tm11 [(1, (.ptr (.fr 0 1) 1 0)), (4, (bA (l.Kind == 3))), (42, (bA t42))] ∧ AllEq cb11 [(1, ⟨1, .cells (c_api_Limit l)⟩)] ∧ t42 = y10) := ⟨_, fun _ => Iff.rfl⟩
         refine WO_cut 10 J10 (fun st hst => ?_) ?_
         · obtain ⟨t42, tm11, cb11, rfl, hT11, hC11, rfl⟩ := (hJ10 st).1 hst
           obtain ⟨tm11, rfl⟩ := allEq hT11
           obtain ⟨cb11, rfl⟩ := allEq hC11
           refine L (bA t42) rfl rfl rfl <| nl <| cd t42 rfl (fun hc25 => ?_) (fun hc25 => ?_)
           · replace hF0 := ite_t hF0 (hc25)
             refine sq <| rg <| L (iA 1) rfl rfl rfl <| nl <| rt ?_
             obtain rfl := Option.some.inj hF0
             exact rd_leaf (.inr rfl) rfl (retV_pl _ _ (iA 1)) rfl rfl
           · replace hF0 := ite_f hF0 (not_t hc25)
             refine sq <| rg <| L (bA (l.Kind == 3)) rfl rfl rfl <| L (bA (!(l.Kind == 3))) rfl rfl rfl ?_
             obtain ⟨J12, hJ12⟩ : ∃ J : St → Prop, ∀ st, J st ↔ (∃ (tm13 : Nat → AV) (cb13 : AE.Frame), st = ⟨tm13, ⟨cb13, out, glob⟩⟩ ∧ AllEq tm13 [(1, (.ptr (.fr 0 1) 1 0)), (4, (bA (l.Kind == 3))), (50, (bA ((!(l.Kind == 3)) && (l.Burst != 0))))] ∧ AllEq cb13 [(1, ⟨1, .cells (c_api_Limit l)⟩)]) := ⟨_, fun _ => Iff.rfl⟩
             refine WO_cut 5 J12 (fun st hst => ?_) ?_
             · obtain ⟨tm13, cb13, rfl, hT13, hC13⟩ := (hJ12 st).1 hst
               obtain ⟨tm13, rfl⟩ := allEq hT13
               obtain ⟨cb13, rfl⟩ := allEq hC13
               obtain ⟨y18, hF1, hF0⟩ := bind_some hF0
               obtain ⟨J18, hJ18⟩ : ∃ J : St → Prop, ∀ st, J st ↔ (∃ (t59 : Bool) (tm19 : Nat → AV) (cb19 : AE.Frame), st = ⟨tm19, ⟨cb19, out, glob⟩⟩ ∧ AllEq tm19 [(59, (bA t59))] ∧ AllEq cb19 [] ∧ t59 = y18) := ⟨_, fun _ => Iff.rfl⟩
               refine WO_cut 9 J18 (fun st hst => ?_) ?_
               · obtain ⟨t59, tm19, cb19, rfl, hT19, hC19, rfl⟩ := (hJ18 st).1 hst
                 obtain ⟨tm19, rfl⟩ := allEq hT19
                 obtain ⟨cb19, rfl⟩ := allEq hC19
                 refine L (bA t59) rfl rfl rfl <| nl <| cd t59 rfl (fun hc20 => ?_) (fun hc20 => ?_)
                 · replace hF0 := ite_t hF0 (hc20)
                   refine sq <| rg <| L (iA 1) rfl rfl rfl <| nl <| rt ?_
                   obtain rfl := Option.some.inj hF0
                   exact rd_leaf (.inr rfl) rfl (retV_pl _ _ (iA 1)) rfl rfl
                 · replace hF0 := ite_f hF0 (not_t hc20)
                   refine sk <| sq <| rg <| L (iA 0) rfl rfl rfl <| nl <| rt ?_
                   obtain rfl := Option.some.inj hF0
                   exact rd_leaf (.inr rfl) rfl (retV_pl _ _ (iA 0)) rfl rfl
               · rcases bool_cases ((!(l.Kind == 3)) && (l.Burst != 0)) with hc18 | hc18
                 · replace hF1 := ite_t hF1 (hc18)
                   exact L (.bool true) rfl rfl (congrArg (fun b => some (AV.bool b, _)) hc18) <| WO_no _ rfl rfl <| WO_no _ rfl rfl <| WO_no _ rfl rfl <| WO_no _ rfl rfl <| WO_no _ rfl rfl <| WO_no _ rfl rfl <| WO_no _ rfl rfl <| L (bA true) rfl rfl rfl <| nl ((hJ18 _).2 ⟨true, _, _, rfl, (And.intro rfl True.intro), True.intro, Option.some.inj hF1⟩)
                 · replace hF1 := ite_f hF1 (not_t hc18)
                   refine L (.bool false) rfl rfl (congrArg (fun b => some (AV.bool b, _)) hc18) <| L (bA (l.Kind == 3)) rfl rfl rfl ?_
                   obtain ⟨y22, hF2, hF1⟩ := bind_some hF1
                   obtain ⟨J22, hJ22⟩ : ∃ J : St → Prop, ∀ st, J st ↔ (∃ (t581 : Bool) (tm23 : Nat → AV) (cb23 : AE.Frame), st = ⟨tm23, ⟨cb23, out, glob⟩⟩ ∧ AllEq tm23 [(51, (bA false)), (58, (bA t581))] ∧ AllEq cb23 [] ∧ t581 = y22) := ⟨_, fun _ => Iff.rfl⟩
                   refine WO_cut 6 J22 (fun st hst => ?_) ?_
                   · obtain ⟨t581, tm23, cb23, rfl, hT23, hC23, rfl⟩ := (hJ22 st).1 hst
                     obtain ⟨tm23, rfl⟩ := allEq hT23
                     obtain ⟨cb23, rfl⟩ := allEq hC23
                     exact L (bA t581) rfl rfl rfl <| nl ((hJ18 _).2 ⟨t581, _, _, rfl, (And.intro rfl True.intro), True.intro, Option.some.inj hF1⟩)
                   · rcases bool_cases (l.Kind == 3) with hc22 | hc22
                     · replace hF2 := ite_t hF2 (beq_t hc22)
                       refine L (.bool true) rfl rfl (congrArg (fun b => some (AV.bool b, _)) hc22) <| L (.ptr (.fr 0 1) 1 4) rfl rfl rfl <| L (iA l.Burst) rfl rfl (op_load rfl (ld_con (iA l.Burst) rfl rfl (cs := (c_api_Limit l)) (con_fr rfl) rfl)) ?_
                       obtain ⟨r563, h24, hF2⟩ := bind_some hF2
                       exact WO_rd (g := 40) (args := [(iA l.Burst), (iA 1), (iA 1000000000)]) (r := (bA r563)) _ _ rfl rfl rfl rfl rfl rfl rfl (ok_gateref1_in _ _ _ h24 _ _ ) <| L (bA (!r563)) rfl rfl rfl <| L (bA (!r563)) rfl rfl rfl <| nl ((hJ22 _).2 ⟨!r563, _, _, rfl, (And.intro rfl (And.intro rfl True.intro)), True.intro, Option.some.inj hF2⟩)
                     · replace hF2 := ite_f hF2 (beq_f hc22)
                       exact L (.bool false) rfl rfl (congrArg (fun b => some (AV.bool b, _)) hc22) <| WO_no _ rfl rfl <| WO_no _ rfl rfl <| WO_no _ rfl rfl <| WO_no _ rfl rfl <| L (bA false) rfl rfl rfl <| nl ((hJ22 _).2 ⟨false, _, _, rfl, (And.intro rfl (And.intro rfl True.intro)), True.intro, Option.some.inj hF2⟩)
             · rcases bool_cases (!(l.Kind == 3)) with hc12 | hc12
               · exact L (.bool true) rfl rfl (congrArg (fun b => some (AV.bool b, _)) hc12) <| L (.ptr (.fr 0 1) 1 4) rfl rfl rfl <| L (iA l.Burst) rfl rfl (op_load rfl (ld_con (iA l.Burst) rfl rfl (cs := (c_api_Limit l)) (con_fr rfl) rfl)) <| L (bA (l.Burst != 0)) rfl rfl rfl <| L (bA ((!(l.Kind == 3)) && (l.Burst != 0))) rfl rfl (congrArg (fun b => some (AV.bool b, _)) (by rw [hc12]; rfl)) <| nl ((hJ12 _).2 ⟨_, _, rfl, (And.intro rfl (And.intro rfl (And.intro rfl True.intro))), (And.intro rfl True.intro)⟩)
               · exact L (.bool false) rfl rfl (congrArg (fun b => some (AV.bool b, _)) hc12) <| WO_no _ rfl rfl <| WO_no _ rfl rfl <| WO_no _ rfl rfl <| L (bA ((!(l.Kind == 3)) && (l.Burst != 0))) rfl rfl (congrArg (fun b => some (AV.bool b, _)) (by rw [hc12]; rfl)) <| nl ((hJ12 _).2 ⟨_, _, rfl, (And.intro rfl (And.intro rfl (And.intro rfl True.intro))), (And.intro rfl True.intro)⟩)
         · rcases bool_cases ((l.Kind == 4) && (l.Per != 0)) with hc10 | hc10
           · replace hF1 := ite_t hF1 (hc10)
             exact L (.bool true) rfl rfl (congrArg (fun b => some (AV.bool b, _)) hc10) <| WO_no _ rfl rfl <| WO_no _ rfl rfl <| WO_no _ rfl rfl <| WO_no _ rfl rfl <| WO_no _ rfl rfl <| WO_no _ rfl rfl <| WO_no _ rfl rfl <| WO_no _ rfl rfl <| L (bA true) rfl rfl rfl <| nl ((hJ10 _).2 ⟨true, _, _, rfl, (And.intro rfl (And.intro rfl (And.intro rfl True.intro))), (And.intro rfl True.intro), Option.some.inj hF1⟩)
           · replace hF1 := ite_f hF1 (not_t hc10)
             refine L (.bool false) rfl rfl (congrArg (fun b => some (AV.bool b, _)) hc10) <| L (bA (l.Kind == 4)) rfl rfl rfl <| L (bA (!(l.Kind == 4))) rfl rfl rfl ?_
             obtain ⟨y27, hF2, hF1⟩ := bind_some hF1
             obtain ⟨J27, hJ27⟩ : ∃ J : St → Prop, ∀ st, J st ↔ (∃ (t411 : Bool) (tm28 : Nat → AV) (cb28 : AE.Frame), st = ⟨tm28, ⟨cb28, out, glob⟩⟩ ∧ AllEq tm28 [(1, (.ptr (.fr 0 1) 1 0)), (4, (bA (l.Kind == 3))), (33, (bA false)), (41, (bA t411))] ∧ AllEq cb28 [(1, ⟨1, .cells (c_api_Limit l)⟩)] ∧ t411 = y27) := ⟨_, fun _ => Iff.rfl⟩
             refine WO_cut 6 J27 (fun st hst => ?_) ?_
             · obtain ⟨t411, tm28, cb28, rfl, hT28, hC28, rfl⟩ := (hJ27 st).1 hst
               obtain ⟨tm28, rfl⟩ := allEq hT28
               obtain ⟨cb28, rfl⟩ := allEq hC28
               exact L (bA t411) rfl rfl rfl <| nl ((hJ10 _).2 ⟨t411, _, _, rfl, (And.intro rfl (And.intro rfl (And.intro rfl True.intro))), (And.intro rfl True.intro), Option.some.inj hF1⟩)
             · rcases bool_cases (!(l.Kind == 4)) with hc27 | hc27
               · replace hF2 := ite_t hF2 (hc27)
                 refine L (.bool true) rfl rfl (congrArg (fun b => some (AV.bool b, _)) hc27) <| L (.ptr (.fr 0 1) 1 3) rfl rfl rfl <| L (iA l.Per) rfl rfl (op_load rfl (ld_con (iA l.Per) rfl rfl (cs := (c_api_Limit l)) (con_fr rfl) rfl)) ?_
                 obtain ⟨r393, h29, hF2⟩ := bind_some hF2
                 exact WO_rd (g := 40) (args := [(iA l.Per), (iA 1), (iA 8640000000)]) (r := (bA r393)) _ _ rfl rfl rfl rfl rfl rfl rfl (ok_gateref1_in _ _ _ h29 _ _ ) <| L (bA (!r393)) rfl rfl rfl <| L (bA (!r393)) rfl rfl rfl <| nl ((hJ27 _).2 ⟨!r393, _, _, rfl, (And.intro rfl (And.intro rfl (And.intro rfl (And.intro rfl True.intro)))), (And.intro rfl True.intro), Option.some.inj hF2⟩)
               · replace hF2 := ite_f hF2 (not_t hc27)
                 exact L (.bool false) rfl rfl (congrArg (fun b => some (AV.bool b, _)) hc27) <| WO_no _ rfl rfl <| WO_no _ rfl rfl <| WO_no _ rfl rfl <| WO_no _ rfl rfl <| L (bA false) rfl rfl rfl <| nl ((hJ27 _).2 ⟨false, _, _, rfl, (And.intro rfl (And.intro rfl (And.intro rfl (And.intro rfl True.intro)))), (And.intro rfl True.intro), Option.some.inj hF2⟩)
       · rcases bool_cases (l.Kind == 4) with hc4 | hc4
         · exact L (.bool true) rfl rfl (congrArg (fun b => some (AV.bool b, _)) hc4) <| L (.ptr (.fr 0 1) 1 3) rfl rfl rfl <| L (iA l.Per) rfl rfl (op_load rfl (ld_con (iA l.Per) rfl rfl (cs := (c_api_Limit l)) (con_fr rfl) rfl)) <| L (bA (l.Per != 0)) rfl rfl rfl <| L (bA ((l.Kind == 4) && (l.Per != 0))) rfl rfl (congrArg (fun b => some (AV.bool b, _)) (by rw [hc4]; rfl)) <| nl ((hJ4 _).2 ⟨_, _, rfl, (And.intro rfl (And.intro rfl (And.intro rfl (And.intro rfl True.intro)))), (And.intro rfl True.intro)⟩)
         · exact L (.bool false) rfl rfl (congrArg (fun b => some (AV.bool b, _)) hc4) <| WO_no _ rfl rfl <| WO_no _ rfl rfl <| WO_no _ rfl rfl <| L (bA ((l.Kind == 4) && (l.Per != 0))) rfl rfl (congrArg (fun b => some (AV.bool b, _)) (by rw [hc4]; rfl)) <| nl ((hJ4 _).2 ⟨_, _, rfl, (And.intro rfl (And.intro rfl (And.intro rfl (And.intro rfl True.intro)))), (And.intro rfl True.intro)⟩)

theorem ok_gateref1_LimitsFault (l : (Sl api_Limit)) {r : (Int)} (hF0 : gateref1_LimitsFault l = some r) (out : List AE.Frame) (glob : List AObj) : RdOk Try.prog pol true 11 [(Sl.av 5 c_api_Limit l)] out glob (iA r) := by
 unfold gateref1_LimitsFault at hF0
 refine rd_walk Try.func11 rfl (Nat.not_lt.2 (Nat.le_of_ble_eq_true rfl)) ?_
 intro ro
 refine sq <| rg <| L (iA 0) rfl rfl rfl <| nl <| sq <| sq <| rg <| L (Sl.av 5 c_api_Limit l) rfl rfl rfl <| L (iA (l.list.length : Int)) rfl rfl (op_len rfl rfl rfl rfl rfl (len_sl _)) <| L (bA (decide ((l.list.length : Int) > 20))) rfl rfl rfl <| nl <| cd (decide ((l.list.length : Int) > 20)) rfl (fun hc21 => ?_) (fun hc21 => ?_)
 · replace hF0 := ite_t hF0 (dec_t hc21)
   refine sq <| rg <| L (iA 2) rfl rfl rfl <| nl <| rt ?_
   obtain rfl := Option.some.inj hF0
   exact rd_leaf (.inr rfl) rfl (retV_pl _ _ (iA 2)) rfl rfl
 · replace hF0 := ite_f hF0 (dec_f hc21)
   refine sk <| sq <| sq <| rg <| L (Sl.av 5 c_api_Limit l) rfl rfl rfl <| L (iA (l.list.length : Int)) rfl rfl (op_len rfl rfl rfl rfl rfl (len_sl _)) <| L (iA 0) rfl rfl rfl <| nl <| bk ?_
   obtain ⟨b1, hb10, hF0⟩ := bind_some hF0
   obtain ⟨hn10, hb10⟩ := ite_none hb10
   obtain ⟨J10, hJ10⟩ : ∃ J : St → Prop, ∀ st, J st ↔ (∃ (tm12 : Nat → AV) (cb12 : AE.Frame), st = ⟨tm12, ⟨cb12, out, glob⟩⟩ ∧ AllEq tm12 [] ∧ AllEq cb12 [] ∧ Res.out () = b1) := ⟨_, fun _ => Iff.rfl⟩
   obtain ⟨R10, hR10⟩ : ∃ R : Nat → (Unit) → St → Prop, ∀ i v st, R i v st ↔ (match v with | () => ∃ (tm11 : Nat → AV) (cb11 : AE.Frame), st = ⟨tm11, ⟨cb11, out, glob⟩⟩ ∧ AllEq tm11 [(0, (Sl.av 5 c_api_Limit l)), (9, (Sl.av 5 c_api_Limit l)), (10, (iA (l.list.length : Int))), (11, (iA ((i : Nat) : Int)))] ∧ AllEq cb11 []) := ⟨_, fun _ _ _ => Iff.rfl⟩
   refine W_loopcut J10 (fun st hst => ?_) ?_
   · obtain ⟨tm12, cb12, rfl, hT12, hC12, rfl⟩ := (hJ10 st).1 hst
     obtain ⟨tm12, rfl⟩ := allEq hT12
     obtain ⟨cb12, rfl⟩ := allEq hC12
     replace hF0 := res_out hF0
     refine sq <| rg <| L (iA 0) rfl rfl rfl <| nl <| rt ?_
     obtain rfl := Option.some.inj hF0
     exact rd_leaf (.inr rfl) rfl (retV_pl _ _ (iA 0)) rfl rfl
   · refine W_rangeL hb10 R10 ((hR10 _ _ _).2 ⟨_, _, rfl, (And.intro rfl (And.intro rfl (And.intro rfl (And.intro rfl True.intro)))), True.intro⟩) ?_ ?_
     · intro i hi10 v st s hr hF1 hD1
       obtain ⟨⟩ := v
       obtain ⟨tm11, cb11, rfl, hT11, hC11⟩ := (hR10 _ _ _).1 hr
       obtain ⟨tm11, rfl⟩ := allEq hT11
       obtain ⟨cb11, rfl⟩ := allEq hC11
       obtain ⟨x3, hx10⟩ : ∃ x, x = l.list[i] := ⟨_, rfl⟩
       rw [← hx10] at hF1
       dsimp only [gateref1_LimitsFault_l0] at hF1
       refine sq (rg ?_)
       refine WO_do (y := (bA (decide (((i : Nat) : Int) < (l.list.length : Int))))) _ rfl rfl rfl (nl ?_)
       refine sq <| cd true (congrArg some (range_lt hi10)) (fun _ => ?_) (fun h => absurd h (by decide))
       refine sk <| sq <| bk <| sq <| rg <| L (iA ((i : Nat) : Int)) rfl rfl rfl <| L (.cptr (c_api_Limit x3)) rfl rfl (op_ix rfl ((ix_at (c := c_api_Limit) rfl rfl hi10).trans (congrArg (fun x => some (AV.cptr (c_api_Limit x))) hx10.symm))) <| L (.agg (c_api_Limit x3)) rfl rfl rfl <| L (.ptr (.fr 0 4) ((cb11 4).ver + 1) 0) (h' := ⟨upd _ 4 ⟨(cb11 4).ver + 1, .cells (c_api_Limit (api_Limit.mk [] 0 0 0 0))⟩, _, _⟩) rfl rfl (op_alloc (c_api_Limit (api_Limit.mk [] 0 0 0 0)) rfl rfl rfl rfl) <| L (iA ((i : Nat) : Int)) rfl rfl rfl <| L (.tup []) (h' := ⟨upd _ 4 ⟨(cb11 4).ver + 1, .cells (c_api_Limit x3)⟩, _, _⟩) rfl rfl (op_store rfl rfl (st_fr (x := (.agg (c_api_Limit x3))) (c_api_Limit x3) rfl rfl (Nat.le_of_ble_eq_true rfl) rfl)) <| nl <| sq <| sq <| rg <| L (.ptr (.fr 0 4) ((cb11 4).ver + 1) 0) rfl rfl rfl <| L (sA x3.Key) rfl rfl (op_load rfl (ld_con (sA x3.Key) rfl rfl (cs := (c_api_Limit x3)) (con_fr rfl) rfl)) ?_
       obtain ⟨r181, h14, hF1⟩ := bind_some hF1
       refine WO_rd (g := 35) (args := [(sA x3.Key)]) (r := (bA r181)) _ _ rfl rfl rfl rfl rfl rfl rfl (ok_gateref2_Key _ h14 _ _ ) <| L (bA (!r181)) rfl rfl rfl <| nl <| cd (!r181) rfl (fun hc20 => ?_) (fun hc20 => ?_)
       · replace hF1 := ite_t hF1 (hc20)
         refine sq <| rg <| L (iA 5) rfl rfl rfl <| nl <| rt ?_
         obtain rfl := hD1 _ (Option.some.inj hF1).symm
         replace hF0 := res_ret hF0
         obtain rfl := Option.some.inj hF0
         exact rd_leaf (.inr rfl) rfl (retV_pl _ _ (iA 5)) rfl rfl
       · replace hF1 := ite_f hF1 (not_t hc20)
         refine sk <| sq <| sq <| dw (by kernel_rfl) <| L (iA ((i : Nat) : Int)) rfl rfl rfl <| L (bA (decide (((i : Nat) : Int) > 0))) rfl rfl rfl ?_
         obtain ⟨y15, hF2, hF1⟩ := bind_some hF1
         obtain ⟨J15, hJ15⟩ : ∃ J : St → Prop, ∀ st, J st ↔ (∃ (t321 : Bool) (tm16 : Nat → AV) (cb16 : AE.Frame), st = ⟨tm16, ⟨cb16, out, glob⟩⟩ ∧ AllEq tm16 [(0, (Sl.av 5 c_api_Limit l)), (4, (.ptr (.fr 0 4) ((cb11 4).ver + 1) 0)), (9, (Sl.av 5 c_api_Limit l)), (10, (iA (l.list.length : Int))), (11, (iA ((i : Nat) : Int))), (32, (bA t321))] ∧ AllEq cb16 [(4, ⟨(cb11 4).ver + 1, .cells (c_api_Limit x3)⟩)] ∧ t321 = y15) := ⟨_, fun _ => Iff.rfl⟩
         refine WO_cut 11 J15 (fun st hst => ?_) ?_
         · obtain ⟨t321, tm16, cb16, rfl, hT16, hC16, rfl⟩ := (hJ15 st).1 hst
           obtain ⟨tm16, rfl⟩ := allEq hT16
           obtain ⟨cb16, rfl⟩ := allEq hC16
           refine nl <| cd t321 rfl (fun hc19 => ?_) (fun hc19 => ?_)
           · replace hF1 := ite_t hF1 (hc19)
             refine sq <| rg <| L (iA 7) rfl rfl rfl <| nl <| rt ?_
             obtain rfl := hD1 _ (Option.some.inj hF1).symm
             replace hF0 := res_ret hF0
             obtain rfl := Option.some.inj hF0
             exact rd_leaf (.inr rfl) rfl (retV_pl _ _ (iA 7)) rfl rfl
           · replace hF1 := ite_f hF1 (not_t hc19)
             refine sk <| sq <| rg <| L (.agg (c_api_Limit x3)) rfl rfl (op_load rfl (ld_con (.agg (c_api_Limit x3)) rfl rfl (cs := (c_api_Limit x3)) (con_fr rfl) rfl)) ?_
             obtain ⟨f1, h17, hF1⟩ := bind_some hF1
             refine WO_rd (g := 36) (args := [(.agg (c_api_Limit x3))]) (r := (iA f1)) _ _ rfl rfl rfl rfl rfl rfl rfl (ok_gateref1_LimitFault _ h17 _ _ ) <| L (iA f1) rfl rfl rfl <| nl <| sq <| rg <| L (iA f1) rfl rfl rfl <| L (bA (f1 != 0)) rfl rfl rfl <| nl <| cd (f1 != 0) rfl (fun hc18 => ?_) (fun hc18 => ?_)
             · replace hF1 := ite_t hF1 (bne_t hc18)
               refine sq <| rg <| L (iA f1) rfl rfl rfl <| L (iA f1) rfl rfl rfl <| nl <| rt ?_
               obtain rfl := hD1 _ (Option.some.inj hF1).symm
               replace hF0 := res_ret hF0
               obtain rfl := Option.some.inj hF0
               exact rd_leaf (.inr rfl) rfl (retV_pl _ _ (iA f1)) rfl rfl
             · replace hF1 := ite_f hF1 (bne_f hc18)
               exact sk <| rg <| WO_do (y := (iA ((i + 1 : Nat) : Int))) _ rfl rfl (congrArg (fun n => some (AV.int .i64 n, _)) (range_len hi10 hn10)) <| WO_do (y := (iA ((i + 1 : Nat) : Int))) _ rfl rfl rfl <| nl <| Exists.intro _ (And.intro (Option.some.inj hF1).symm ((hR10 _ _ _).2 ⟨_, _, rfl, (And.intro rfl (And.intro rfl (And.intro rfl (And.intro rfl True.intro)))), True.intro⟩))
         · rcases bool_cases (decide (((i : Nat) : Int) > 0)) with hc15 | hc15
           · replace hF2 := ite_t hF2 (dec_t hc15)
             refine L (.bool true) rfl rfl (congrArg (fun b => some (AV.bool b, _)) hc15) <| L (.ptr (.fr 0 4) ((cb11 4).ver + 1) 0) rfl rfl rfl <| L (sA x3.Key) rfl rfl (op_load rfl (ld_con (sA x3.Key) rfl rfl (cs := (c_api_Limit x3)) (con_fr rfl) rfl)) <| L (Sl.av 5 c_api_Limit l) rfl rfl rfl <| L (iA ((i : Nat) : Int)) rfl rfl rfl <| L (iA (w64 (((i : Nat) : Int) - 1))) rfl rfl rfl ?_
             obtain ⟨x5, h_x5, hF2⟩ := bind_some hF2
             exact L (.cptr (c_api_Limit x5)) rfl rfl (op_ix rfl (ix_sl (c := c_api_Limit) rfl rfl h_x5)) <| L (.cptr ((c_api_Limit x5).drop 0)) rfl rfl rfl <| L (sA x5.Key) rfl rfl rfl <| L (bA (sle x3.Key x5.Key)) rfl rfl (op_bin rfl bin_sle) <| L (bA (sle x3.Key x5.Key)) rfl rfl rfl <| nl ((hJ15 _).2 ⟨sle x3.Key x5.Key, _, _, rfl, (And.intro rfl (And.intro rfl (And.intro rfl (And.intro rfl (And.intro rfl (And.intro rfl True.intro)))))), (And.intro rfl True.intro), Option.some.inj hF2⟩)
           · replace hF2 := ite_f hF2 (dec_f hc15)
             exact L (.bool false) rfl rfl (congrArg (fun b => some (AV.bool b, _)) hc15) <| WO_no _ rfl rfl <| WO_no _ rfl rfl <| WO_no _ rfl rfl <| WO_no _ rfl rfl <| WO_no _ rfl rfl <| WO_no _ rfl rfl <| WO_no _ rfl rfl <| WO_no _ rfl rfl <| WO_no _ rfl rfl <| L (bA false) rfl rfl rfl <| nl ((hJ15 _).2 ⟨false, _, _, rfl, (And.intro rfl (And.intro rfl (And.intro rfl (And.intro rfl (And.intro rfl (And.intro rfl True.intro)))))), (And.intro rfl True.intro), Option.some.inj hF2⟩)
     · intro v st hr hD1
       obtain ⟨⟩ := v
       obtain ⟨tm11, cb11, rfl, hT11, hC11⟩ := (hR10 _ _ _).1 hr
       obtain ⟨tm11, rfl⟩ := allEq hT11
       obtain ⟨cb11, rfl⟩ := allEq hC11
       refine sq (rg ?_)
       refine WO_do (y := .bool false) _ rfl rfl (congrArg (fun b => some (AV.bool b, _)) (range_ge _)) (nl ?_)
       refine sq <| cd false rfl (fun h => absurd h (by decide)) (fun _ => ?_)
       exact xt <| (hJ10 _).2 ⟨_, _, rfl, True.intro, True.intro, hD1⟩

theorem ok_gatelaw1_when (is : Bool) (e : Int) {r : (Int)} (hF0 : gatelaw1_when is e = some r) (out : List AE.Frame) (glob : List AObj) : RdOk Try.prog pol true 12 [(bA is), (iA e)] out glob (iA r) := by
 unfold gatelaw1_when at hF0
 refine rd_walk Try.func12 rfl (Nat.not_lt.2 (Nat.le_of_ble_eq_true rfl)) ?_
 intro ro
 refine sq <| rg <| L (iA 0) rfl rfl rfl <| nl <| sq <| sq <| rg <| L (bA is) rfl rfl rfl <| nl <| cd is rfl (fun hc1 => ?_) (fun hc1 => ?_)
 · replace hF0 := ite_t hF0 (hc1)
   refine sq <| rg <| L (iA e) rfl rfl rfl <| L (iA e) rfl rfl rfl <| nl <| rt ?_
   obtain rfl := Option.some.inj hF0
   exact rd_leaf (.inr rfl) rfl (retV_pl _ _ (iA e)) rfl rfl
 · replace hF0 := ite_f hF0 (not_t hc1)
   refine sk <| sq <| rg <| L (iA 0) rfl rfl rfl <| nl <| rt ?_
   obtain rfl := Option.some.inj hF0
   exact rd_leaf (.inr rfl) rfl (retV_pl _ _ (iA 0)) rfl rfl

theorem ok_cmp_Or_api_Errno (vals : (Sl Int)) {r : (Int)} (hF0 : cmp_Or_api_Errno vals = some r) (out : List AE.Frame) (glob : List AObj) : RdOk Try.prog pol true 10 [(Sl.av 1 c_i64 vals)] out glob (iA r) := by
 unfold cmp_Or_api_Errno at hF0
 refine rd_walk Try.func10 rfl (Nat.not_lt.2 (Nat.le_of_ble_eq_true rfl)) ?_
 intro ro
 refine sq <| rg <| L (iA 0) rfl rfl rfl <| nl <| sq <| rg <| L (iA 0) rfl rfl rfl <| nl <| sq <| sq <| rg <| L (Sl.av 1 c_i64 vals) rfl rfl rfl <| L (iA (vals.list.length : Int)) rfl rfl (op_len rfl rfl rfl rfl rfl (len_sl _)) <| L (iA 0) rfl rfl rfl <| nl <| bk ?_
 obtain ⟨b1, hb4, hF0⟩ := bind_some hF0
 obtain ⟨hn4, hb4⟩ := ite_none hb4
 obtain ⟨J4, hJ4⟩ : ∃ J : St → Prop, ∀ st, J st ↔ (∃ (tm6 : Nat → AV) (cb6 : AE.Frame), st = ⟨tm6, ⟨cb6, out, glob⟩⟩ ∧ AllEq tm6 [(3, (iA 0))] ∧ AllEq cb6 [] ∧ Res.out () = b1) := ⟨_, fun _ => Iff.rfl⟩
 obtain ⟨R4, hR4⟩ : ∃ R : Nat → (Unit) → St → Prop, ∀ i v st, R i v st ↔ (match v with | () => ∃ (tm5 : Nat → AV) (cb5 : AE.Frame), st = ⟨tm5, ⟨cb5, out, glob⟩⟩ ∧ AllEq tm5 [(3, (iA 0)), (6, (Sl.av 1 c_i64 vals)), (7, (iA (vals.list.length : Int))), (8, (iA ((i : Nat) : Int)))] ∧ AllEq cb5 []) := ⟨_, fun _ _ _ => Iff.rfl⟩
 refine W_loopcut J4 (fun st hst => ?_) ?_
 · obtain ⟨tm6, cb6, rfl, hT6, hC6, rfl⟩ := (hJ4 st).1 hst
   obtain ⟨tm6, rfl⟩ := allEq hT6
   obtain ⟨cb6, rfl⟩ := allEq hC6
   replace hF0 := res_out hF0
   refine sq <| rg <| L (iA 0) rfl rfl rfl <| L (iA 0) rfl rfl rfl <| nl <| rt ?_
   obtain rfl := Option.some.inj hF0
   exact rd_leaf (.inr rfl) rfl (retV_pl _ _ (iA 0)) rfl rfl
 · refine W_rangeL hb4 R4 ((hR4 _ _ _).2 ⟨_, _, rfl, (And.intro rfl (And.intro rfl (And.intro rfl (And.intro rfl True.intro)))), True.intro⟩) ?_ ?_
   · intro i hi4 v st s hr hF1 hD1
     obtain ⟨⟩ := v
     obtain ⟨tm5, cb5, rfl, hT5, hC5⟩ := (hR4 _ _ _).1 hr
     obtain ⟨tm5, rfl⟩ := allEq hT5
     obtain ⟨cb5, rfl⟩ := allEq hC5
     obtain ⟨val, hx4⟩ : ∃ x, x = vals.list[i] := ⟨_, rfl⟩
     rw [← hx4] at hF1
     dsimp only [cmp_Or_api_Errno_l0] at hF1
     refine sq (rg ?_)
     refine WO_do (y := (bA (decide (((i : Nat) : Int) < (vals.list.length : Int))))) _ rfl rfl rfl (nl ?_)
     refine sq <| cd true (congrArg some (range_lt hi4)) (fun _ => ?_) (fun h => absurd h (by decide))
     refine sk <| sq <| bk <| sq <| rg <| L (.cptr [(iA val)]) rfl rfl (op_ix rfl ((ix_at (c := c_i64) rfl rfl hi4).trans (congrArg (fun x => some (AV.cptr (c_i64 x))) hx4.symm))) <| L (iA val) rfl rfl rfl <| L (iA val) rfl rfl rfl <| nl <| sq <| rg <| L (iA val) rfl rfl rfl <| L (iA 0) rfl rfl rfl <| L (bA (val != 0)) rfl rfl rfl <| nl <| cd (val != 0) rfl (fun hc8 => ?_) (fun hc8 => ?_)
     · replace hF1 := ite_t hF1 (bne_t hc8)
       refine sq <| rg <| L (iA val) rfl rfl rfl <| L (iA val) rfl rfl rfl <| nl <| rt ?_
       obtain rfl := hD1 _ (Option.some.inj hF1).symm
       replace hF0 := res_ret hF0
       obtain rfl := Option.some.inj hF0
       exact rd_leaf (.inr rfl) rfl (retV_pl _ _ (iA val)) rfl rfl
     · replace hF1 := ite_f hF1 (bne_f hc8)
       exact sk <| rg <| WO_do (y := (iA ((i + 1 : Nat) : Int))) _ rfl rfl (congrArg (fun n => some (AV.int .i64 n, _)) (range_len hi4 hn4)) <| WO_do (y := (iA ((i + 1 : Nat) : Int))) _ rfl rfl rfl <| nl <| Exists.intro _ (And.intro (Option.some.inj hF1).symm ((hR4 _ _ _).2 ⟨_, _, rfl, (And.intro rfl (And.intro rfl (And.intro rfl (And.intro rfl True.intro)))), True.intro⟩))
   · intro v st hr hD1
     obtain ⟨⟩ := v
     obtain ⟨tm5, cb5, rfl, hT5, hC5⟩ := (hR4 _ _ _).1 hr
     obtain ⟨tm5, rfl⟩ := allEq hT5
     obtain ⟨cb5, rfl⟩ := allEq hC5
     refine sq (rg ?_)
     refine WO_do (y := .bool false) _ rfl rfl (congrArg (fun b => some (AV.bool b, _)) (range_ge _)) (nl ?_)
     refine sq <| cd false rfl (fun h => absurd h (by decide)) (fun _ => ?_)
     exact xt <| (hJ4 _).2 ⟨_, _, rfl, (And.intro rfl True.intro), True.intro, hD1⟩

theorem ok_gateref1_RoomOf (l : api_Limit) (long : Int) {r : (Int)} (hF0 : gateref1_RoomOf l long = some r) (out : List AE.Frame) (glob : List AObj) : RdOk Try.prog pol true 13 [(.agg (c_api_Limit l)), (iA long)] out glob (iA r) := by
 unfold gateref1_RoomOf at hF0
 refine rd_walk Try.func13 rfl (Nat.not_lt.2 (Nat.le_of_ble_eq_true rfl)) ?_
 intro ro
 refine sq <| rg <| L (.ptr (.fr 0 2) 1 0) (h' := ⟨upd _ 2 ⟨1, .cells (c_api_Limit l)⟩, _, _⟩) rfl rfl (op_box (x' := (.agg (c_api_Limit l))) rfl rfl rfl rfl) <| L (iA 0) rfl rfl rfl <| nl <| sq <| sq <| rg <| L (.ptr (.fr 0 2) 1 1) rfl rfl rfl <| L (iA l.Kind) rfl rfl (op_load rfl (ld_con (iA l.Kind) rfl rfl (cs := (c_api_Limit l)) (con_fr rfl) rfl)) <| nl <| bk <| sq <| rg <| L (bA (l.Kind == 1)) rfl rfl rfl <| L (bA (l.Kind == 1)) rfl rfl rfl <| nl <| cd (l.Kind == 1) rfl (fun hc14 => ?_) (fun hc14 => ?_)
 · replace hF0 := ite_t hF0 (beq_t hc14)
   refine sq <| rg <| L (iA 1) rfl rfl rfl <| nl <| sq <| sq <| rg <| L (iA long) rfl rfl rfl <| L (iA (w64 (long - 2))) rfl rfl rfl <| L (iA (w64 (long - 2))) rfl rfl rfl <| nl <| bk ?_
   obtain ⟨b1, hb3, hF0⟩ := bind_some hF0
   obtain ⟨J3, hJ3⟩ : ∃ J : St → Prop, ∀ st, J st ↔ (∃ (windows2 : Int) (tm5 : Nat → AV) (cb5 : AE.Frame), st = ⟨tm5, ⟨cb5, out, glob⟩⟩ ∧ AllEq tm5 [(2, (.ptr (.fr 0 2) 1 0)), (5, (iA windows2))] ∧ AllEq cb5 [(2, ⟨1, .cells (c_api_Limit l)⟩)] ∧ windows2 = b1) := ⟨_, fun _ => Iff.rfl⟩
   obtain ⟨R3, hR3⟩ : ∃ R : (Int × Int) → St → Prop, ∀ v st, R v st ↔ (match v with | (windows1, n1) => ∃ (tm4 : Nat → AV) (cb4 : AE.Frame), st = ⟨tm4, ⟨cb4, out, glob⟩⟩ ∧ AllEq tm4 [(2, (.ptr (.fr 0 2) 1 0)), (5, (iA windows1)), (6, (iA n1))] ∧ AllEq cb4 [(2, ⟨1, .cells (c_api_Limit l)⟩)]) := ⟨_, fun _ _ => Iff.rfl⟩
   refine W_loopcut J3 (fun st hst => ?_) ?_
   · obtain ⟨windows2, tm5, cb5, rfl, hT5, hC5, rfl⟩ := (hJ3 st).1 hst
     obtain ⟨tm5, rfl⟩ := allEq hT5
     obtain ⟨cb5, rfl⟩ := allEq hC5
     refine sq <| rg <| L (iA windows2) rfl rfl rfl <| L (.ptr (.fr 0 2) 1 2) rfl rfl rfl <| L (iA l.Most) rfl rfl (op_load rfl (ld_con (iA l.Most) rfl rfl (cs := (c_api_Limit l)) (con_fr rfl) rfl)) <| L (iA (w64 (windows2 * l.Most))) rfl rfl rfl <| L (iA (w64 (windows2 * l.Most))) rfl rfl rfl <| nl <| rt ?_
     obtain rfl := Option.some.inj hF0
     exact rd_leaf (.inr rfl) rfl (retV_pl _ _ (iA (w64 (windows2 * l.Most)))) rfl rfl
   · refine W_loopV hb3 R3 ((hR3 _ _).2 ⟨_, _, rfl, (And.intro rfl (And.intro rfl (And.intro rfl True.intro))), (And.intro rfl True.intro)⟩) ?_
     intro v st s hr hF1 hD1
     obtain ⟨windows1, n1⟩ := v
     obtain ⟨tm4, cb4, rfl, hT4, hC4⟩ := (hR3 _ _).1 hr
     obtain ⟨tm4, rfl⟩ := allEq hT4
     obtain ⟨cb4, rfl⟩ := allEq hC4
     dsimp only [gateref1_RoomOf_l0] at hF1
     refine sq <| sq <| rg <| L (iA n1) rfl rfl rfl <| L (bA (decide (n1 ≥ 0))) rfl rfl rfl <| nl <| cd (decide (n1 ≥ 0)) rfl (fun hc6 => ?_) (fun hc6 => ?_)
     · replace hF1 := ite_t hF1 (dec_t hc6)
       exact sk <| sq <| bk <| rg <| L (iA windows1) rfl rfl rfl <| L (iA (w64 (windows1 + 1))) rfl rfl rfl <| L (iA (w64 (windows1 + 1))) rfl rfl rfl <| nl <| rg <| L (iA n1) rfl rfl rfl <| L (.ptr (.fr 0 2) 1 3) rfl rfl rfl <| L (iA l.Per) rfl rfl (op_load rfl (ld_con (iA l.Per) rfl rfl (cs := (c_api_Limit l)) (con_fr rfl) rfl)) <| L (iA (w64 (n1 - l.Per))) rfl rfl rfl <| L (iA (w64 (n1 - l.Per))) rfl rfl rfl <| nl <| Exists.intro _ (And.intro (Option.some.inj hF1).symm ((hR3  _ _).2 ⟨_, _, rfl, (And.intro rfl (And.intro rfl (And.intro rfl True.intro))), (And.intro rfl True.intro)⟩))
     · replace hF1 := ite_f hF1 (dec_f hc6)
       exact xt <| (hJ3 _).2 ⟨windows1, _, _, rfl, (And.intro rfl (And.intro rfl True.intro)), (And.intro rfl True.intro), hD1 _ (Option.some.inj hF1).symm⟩
 · replace hF0 := ite_f hF0 (beq_f hc14)
   refine sq <| rg <| L (bA (l.Kind == 2)) rfl rfl rfl <| L (bA (l.Kind == 2)) rfl rfl rfl <| nl <| cd (l.Kind == 2) rfl (fun hc13 => ?_) (fun hc13 => ?_)
   · replace hF0 := ite_t hF0 (beq_t hc13)
     refine sq <| dw (by kernel_rfl) <| L (iA long) rfl rfl rfl <| L (.ptr (.fr 0 2) 1 3) rfl rfl rfl <| L (iA l.Per) rfl rfl (op_load rfl (ld_con (iA l.Per) rfl rfl (cs := (c_api_Limit l)) (con_fr rfl) rfl)) <| L (iA (w64 (long + l.Per))) rfl rfl rfl <| L (iA (w64 ((w64 (long + l.Per)) - 1))) rfl rfl rfl <| L (.ptr (.fr 0 2) 1 3) rfl rfl rfl <| L (iA l.Per) rfl rfl (op_load rfl (ld_con (iA l.Per) rfl rfl (cs := (c_api_Limit l)) (con_fr rfl) rfl)) ?_
     obtain ⟨r36, h_r36, hF0⟩ := bind_some hF0
     refine L (iA r36) rfl rfl (op_bin rfl (bin_quo h_r36)) <| L (.ptr (.fr 0 2) 1 2) rfl rfl rfl <| L (iA l.Most) rfl rfl (op_load rfl (ld_con (iA l.Most) rfl rfl (cs := (c_api_Limit l)) (con_fr rfl) rfl)) <| L (iA (w64 (r36 * l.Most))) rfl rfl rfl <| L (iA (w64 (r36 * l.Most))) rfl rfl rfl <| nl <| rt ?_
     obtain rfl := Option.some.inj hF0
     exact rd_leaf (.inr rfl) rfl (retV_pl _ _ (iA (w64 (r36 * l.Most)))) rfl rfl
   · replace hF0 := ite_f hF0 (beq_f hc13)
     refine sk <| sq <| rg <| L (.ptr (.fr 0 2) 1 4) rfl rfl rfl <| L (iA l.Burst) rfl rfl (op_load rfl (ld_con (iA l.Burst) rfl rfl (cs := (c_api_Limit l)) (con_fr rfl) rfl)) <| L (.ptr (.fr 0 2) 1 3) rfl rfl rfl <| L (iA l.Per) rfl rfl (op_load rfl (ld_con (iA l.Per) rfl rfl (cs := (c_api_Limit l)) (con_fr rfl) rfl)) <| L (iA (w64 (l.Burst * l.Per))) rfl rfl rfl <| L (iA (w64 (l.Burst * l.Per))) rfl rfl rfl <| L (iA 0) rfl rfl rfl <| nl <| sq <| sq <| rg <| L (iA long) rfl rfl rfl <| L (iA 0) rfl rfl rfl <| nl <| bk ?_
     obtain ⟨b1, hb9, hF0⟩ := bind_some hF0
     obtain ⟨hn9, hb9⟩ := ite_none hb9
     obtain ⟨J9, hJ9⟩ : ∃ J : St → Prop, ∀ st, J st ↔ (∃ (sum2 : Int) (tm11 : Nat → AV) (cb11 : AE.Frame), st = ⟨tm11, ⟨cb11, out, glob⟩⟩ ∧ AllEq tm11 [(8, (iA sum2))] ∧ AllEq cb11 [] ∧ sum2 = b1) := ⟨_, fun _ => Iff.rfl⟩
     obtain ⟨R9, hR9⟩ : ∃ R : Nat → (Int × Int) → St → Prop, ∀ i v st, R i v st ↔ (match v with | (n3, sum1) => ∃ (tm10 : Nat → AV) (cb10 : AE.Frame), st = ⟨tm10, ⟨cb10, out, glob⟩⟩ ∧ AllEq tm10 [(2, (.ptr (.fr 0 2) 1 0)), (7, (iA n3)), (8, (iA sum1)), (45, (iA long)), (46, (iA ((i : Nat) : Int)))] ∧ AllEq cb10 [(2, ⟨1, .cells (c_api_Limit l)⟩)]) := ⟨_, fun _ _ _ => Iff.rfl⟩
     refine W_loopcut J9 (fun st hst => ?_) ?_
     · obtain ⟨sum2, tm11, cb11, rfl, hT11, hC11, rfl⟩ := (hJ9 st).1 hst
       obtain ⟨tm11, rfl⟩ := allEq hT11
       obtain ⟨cb11, rfl⟩ := allEq hC11
       refine sq <| rg <| L (iA sum2) rfl rfl rfl <| L (iA sum2) rfl rfl rfl <| nl <| rt ?_
       obtain rfl := Option.some.inj hF0
       exact rd_leaf (.inr rfl) rfl (retV_pl _ _ (iA sum2)) rfl rfl
     · refine W_rangeL hb9 R9 ((hR9 _ _ _).2 ⟨_, _, rfl, (And.intro rfl (And.intro rfl (And.intro rfl (And.intro rfl (And.intro rfl True.intro))))), (And.intro rfl True.intro)⟩) ?_ ?_
       · intro i hi9 v st s hr hF1 hD1
         obtain ⟨n3, sum1⟩ := v
         obtain ⟨tm10, cb10, rfl, hT10, hC10⟩ := (hR9 _ _ _).1 hr
         obtain ⟨tm10, rfl⟩ := allEq hT10
         obtain ⟨cb10, rfl⟩ := allEq hC10
         dsimp only [gateref1_RoomOf_l1] at hF1
         refine sq (rg ?_)
         refine WO_do (y := (bA (decide (((i : Nat) : Int) < long)))) _ rfl rfl rfl (nl ?_)
         refine sq <| cd true (congrArg some (rangeN_lt hi9)) (fun _ => ?_) (fun h => absurd h (by decide))
         refine sk <| sq <| bk <| sq <| rg <| L (iA sum1) rfl rfl rfl <| L (iA n3) rfl rfl rfl <| L (.ptr (.fr 0 2) 1 3) rfl rfl rfl <| L (iA l.Per) rfl rfl (op_load rfl (ld_con (iA l.Per) rfl rfl (cs := (c_api_Limit l)) (con_fr rfl) rfl)) ?_
         obtain ⟨r521, h_r521, hF1⟩ := bind_some hF1
         refine L (iA r521) rfl rfl (op_bin rfl (bin_quo h_r521)) <| L (iA (w64 (sum1 + r521))) rfl rfl rfl <| L (iA (w64 (sum1 + r521))) rfl rfl rfl <| nl <| dw (by kernel_rfl) <| L (.ptr (.fr 0 2) 1 4) rfl rfl rfl <| L (iA l.Burst) rfl rfl (op_load rfl (ld_con (iA l.Burst) rfl rfl (cs := (c_api_Limit l)) (con_fr rfl) rfl)) <| L (.ptr (.fr 0 2) 1 3) rfl rfl rfl <| L (iA l.Per) rfl rfl (op_load rfl (ld_con (iA l.Per) rfl rfl (cs := (c_api_Limit l)) (con_fr rfl) rfl)) <| L (iA (w64 (l.Burst * l.Per))) rfl rfl rfl <| L (iA n3) rfl rfl rfl <| L (.ptr (.fr 0 2) 1 3) rfl rfl rfl <| L (iA l.Per) rfl rfl (op_load rfl (ld_con (iA l.Per) rfl rfl (cs := (c_api_Limit l)) (con_fr rfl) rfl)) ?_
         obtain ⟨r621, h_r621, hF1⟩ := bind_some hF1
         exact L (iA r621) rfl rfl (op_bin rfl (bin_rem h_r621)) <| L (.ptr (.fr 0 2) 1 2) rfl rfl rfl <| L (iA l.Most) rfl rfl (op_load rfl (ld_con (iA l.Most) rfl rfl (cs := (c_api_Limit l)) (con_fr rfl) rfl)) <| L (iA (w64 (r621 + l.Most))) rfl rfl rfl <| L (iA (imin (w64 (l.Burst * l.Per)) (w64 (r621 + l.Most)))) rfl rfl rfl <| L (iA (imin (w64 (l.Burst * l.Per)) (w64 (r621 + l.Most)))) rfl rfl rfl <| nl <| rg <| WO_do (y := (iA ((i + 1 : Nat) : Int))) _ rfl rfl (congrArg (fun n => some (AV.int .i64 n, _)) (rangeN_len hi9 hn9)) <| WO_do (y := (iA ((i + 1 : Nat) : Int))) _ rfl rfl rfl <| nl <| Exists.intro _ (And.intro (Option.some.inj hF1).symm ((hR9 _ _ _).2 ⟨_, _, rfl, (And.intro rfl (And.intro rfl (And.intro rfl (And.intro rfl (And.intro rfl True.intro))))), (And.intro rfl True.intro)⟩))
       · intro v st hr hD1
         obtain ⟨n3, sum1⟩ := v
         obtain ⟨tm10, cb10, rfl, hT10, hC10⟩ := (hR9 _ _ _).1 hr
         obtain ⟨tm10, rfl⟩ := allEq hT10
         obtain ⟨cb10, rfl⟩ := allEq hC10
         refine sq (rg ?_)
         refine WO_do (y := .bool false) _ rfl rfl (congrArg (fun b => some (AV.bool b, _)) (rangeN_ge _)) (nl ?_)
         refine sq <| cd false rfl (fun h => absurd h (by decide)) (fun _ => ?_)
         exact xt <| (hJ9 _).2 ⟨sum1, _, _, rfl, (And.intro rfl True.intro), True.intro, hD1⟩

theorem ok_limit_shareFault (most : Int) (wants : (Sl Int)) (weights : (Sl Int)) {r : (Int)} (hF0 : limit_shareFault most wants weights = some r) (out : List AE.Frame) (glob : List AObj) : RdOk Try.prog pol true 38 [(iA most), (Sl.av 1 c_i64 wants), (Sl.av 1 c_i64 weights)] out glob (iA r) := by
 unfold limit_shareFault at hF0
 refine rd_walk Try.func38 rfl (Nat.not_lt.2 (Nat.le_of_ble_eq_true rfl)) ?_
 intro ro
 refine sq <| rg <| L (iA 0) rfl rfl rfl <| nl <| sq <| sq <| rg <| L (iA most) rfl rfl rfl ?_
 obtain ⟨r10, h1, hF0⟩ := bind_some hF0
 refine WO_rd (g := 31) (args := [(iA most), (iA 0), (iA 1000000000)]) (r := (bA r10)) _ _ rfl rfl rfl rfl rfl rfl rfl (ok_kit_Outside _ _ _ h1 _ _ ) <| nl <| cd r10 rfl (fun hc22 => ?_) (fun hc22 => ?_)
 · replace hF0 := ite_t hF0 (hc22)
   refine sq <| rg <| L (iA 1) rfl rfl rfl <| nl <| rt ?_
   obtain rfl := Option.some.inj hF0
   exact rd_leaf (.inr rfl) rfl (retV_pl _ _ (iA 1)) rfl rfl
 · replace hF0 := ite_f hF0 (not_t hc22)
   refine sk <| sq <| sq <| rg <| L (Sl.av 1 c_i64 wants) rfl rfl rfl <| L (iA (wants.list.length : Int)) rfl rfl (op_len rfl rfl rfl rfl rfl (len_sl _)) <| L (bA (decide ((wants.list.length : Int) > 500))) rfl rfl rfl <| nl <| cd (decide ((wants.list.length : Int) > 500)) rfl (fun hc21 => ?_) (fun hc21 => ?_)
   · replace hF0 := ite_t hF0 (dec_t hc21)
     refine sq <| rg <| L (iA 2) rfl rfl rfl <| nl <| rt ?_
     obtain rfl := Option.some.inj hF0
     exact rd_leaf (.inr rfl) rfl (retV_pl _ _ (iA 2)) rfl rfl
   · replace hF0 := ite_f hF0 (dec_f hc21)
     refine sk <| sq <| sq <| rg <| L (Sl.av 1 c_i64 weights) rfl rfl rfl <| L (iA (weights.list.length : Int)) rfl rfl (op_len rfl rfl rfl rfl rfl (len_sl _)) <| L (Sl.av 1 c_i64 wants) rfl rfl rfl <| L (iA (wants.list.length : Int)) rfl rfl (op_len rfl rfl rfl rfl rfl (len_sl _)) <| L (bA ((weights.list.length : Int) != (wants.list.length : Int))) rfl rfl rfl <| nl <| cd ((weights.list.length : Int) != (wants.list.length : Int)) rfl (fun hc20 => ?_) (fun hc20 => ?_)
     · replace hF0 := ite_t hF0 (bne_t hc20)
       refine sq <| rg <| L (iA 3) rfl rfl rfl <| nl <| rt ?_
       obtain rfl := Option.some.inj hF0
       exact rd_leaf (.inr rfl) rfl (retV_pl _ _ (iA 3)) rfl rfl
     · replace hF0 := ite_f hF0 (bne_f hc20)
       refine sk <| sq <| sq <| rg <| L (Sl.av 1 c_i64 wants) rfl rfl rfl <| L (iA (wants.list.length : Int)) rfl rfl (op_len rfl rfl rfl rfl rfl (len_sl _)) <| L (iA 0) rfl rfl rfl <| nl <| bk ?_
       obtain ⟨b1, hb10, hF0⟩ := bind_some hF0
       obtain ⟨hn10, hb10⟩ := ite_none hb10
       obtain ⟨J10, hJ10⟩ : ∃ J : St → Prop, ∀ st, J st ↔ (∃ (tm12 : Nat → AV) (cb12 : AE.Frame), st = ⟨tm12, ⟨cb12, out, glob⟩⟩ ∧ AllEq tm12 [] ∧ AllEq cb12 [] ∧ Res.out () = b1) := ⟨_, fun _ => Iff.rfl⟩
       obtain ⟨R10, hR10⟩ : ∃ R : Nat → (Unit) → St → Prop, ∀ i v st, R i v st ↔ (match v with | () => ∃ (tm11 : Nat → AV) (cb11 : AE.Frame), st = ⟨tm11, ⟨cb11, out, glob⟩⟩ ∧ AllEq tm11 [(2, (Sl.av 1 c_i64 weights)), (19, (Sl.av 1 c_i64 wants)), (20, (iA (wants.list.length : Int))), (21, (iA ((i : Nat) : Int)))] ∧ AllEq cb11 []) := ⟨_, fun _ _ _ => Iff.rfl⟩
       refine W_loopcut J10 (fun st hst => ?_) ?_
       · obtain ⟨tm12, cb12, rfl, hT12, hC12, rfl⟩ := (hJ10 st).1 hst
         obtain ⟨tm12, rfl⟩ := allEq hT12
         obtain ⟨cb12, rfl⟩ := allEq hC12
         replace hF0 := res_out hF0
         refine sq <| rg <| L (iA 0) rfl rfl rfl <| nl <| rt ?_
         obtain rfl := Option.some.inj hF0
         exact rd_leaf (.inr rfl) rfl (retV_pl _ _ (iA 0)) rfl rfl
       · refine W_rangeL hb10 R10 ((hR10 _ _ _).2 ⟨_, _, rfl, (And.intro rfl (And.intro rfl (And.intro rfl (And.intro rfl True.intro)))), True.intro⟩) ?_ ?_
         · intro i hi10 v st s hr hF1 hD1
           obtain ⟨⟩ := v
           obtain ⟨tm11, cb11, rfl, hT11, hC11⟩ := (hR10 _ _ _).1 hr
           obtain ⟨tm11, rfl⟩ := allEq hT11
           obtain ⟨cb11, rfl⟩ := allEq hC11
           obtain ⟨n, hx10⟩ : ∃ x, x = wants.list[i] := ⟨_, rfl⟩
           rw [← hx10] at hF1
           dsimp only [limit_shareFault_l0] at hF1
           refine sq (rg ?_)
           refine WO_do (y := (bA (decide (((i : Nat) : Int) < (wants.list.length : Int))))) _ rfl rfl rfl (nl ?_)
           refine sq <| cd true (congrArg some (range_lt hi10)) (fun _ => ?_) (fun h => absurd h (by decide))
           refine sk <| sq <| bk <| sq <| rg <| L (iA ((i : Nat) : Int)) rfl rfl rfl <| L (.cptr [(iA n)]) rfl rfl (op_ix rfl ((ix_at (c := c_i64) rfl rfl hi10).trans (congrArg (fun x => some (AV.cptr (c_i64 x))) hx10.symm))) <| L (iA n) rfl rfl rfl <| L (iA ((i : Nat) : Int)) rfl rfl rfl <| L (iA n) rfl rfl rfl <| nl <| sq <| rg <| L (iA n) rfl rfl rfl ?_
           obtain ⟨r271, h14, hF1⟩ := bind_some hF1
           refine WO_rd (g := 31) (args := [(iA n), (iA 0), (iA 1000000000)]) (r := (bA r271)) _ _ rfl rfl rfl rfl rfl rfl rfl (ok_kit_Outside _ _ _ h14 _ _ ) ?_
           obtain ⟨y16, hF2, hF1⟩ := bind_some hF1
           obtain ⟨J16, hJ16⟩ : ∃ J : St → Prop, ∀ st, J st ↔ (∃ (t341 : Bool) (tm17 : Nat → AV) (cb17 : AE.Frame), st = ⟨tm17, ⟨cb17, out, glob⟩⟩ ∧ AllEq tm17 [(2, (Sl.av 1 c_i64 weights)), (19, (Sl.av 1 c_i64 wants)), (20, (iA (wants.list.length : Int))), (21, (iA ((i : Nat) : Int))), (34, (bA t341))] ∧ AllEq cb17 [] ∧ t341 = y16) := ⟨_, fun _ => Iff.rfl⟩
           refine WO_cut 7 J16 (fun st hst => ?_) ?_
           · obtain ⟨t341, tm17, cb17, rfl, hT17, hC17, rfl⟩ := (hJ16 st).1 hst
             obtain ⟨tm17, rfl⟩ := allEq hT17
             obtain ⟨cb17, rfl⟩ := allEq hC17
             refine nl <| cd t341 rfl (fun hc18 => ?_) (fun hc18 => ?_)
             · replace hF1 := ite_t hF1 (hc18)
               refine sq <| rg <| L (iA 1) rfl rfl rfl <| nl <| rt ?_
               obtain rfl := hD1 _ (Option.some.inj hF1).symm
               replace hF0 := res_ret hF0
               obtain rfl := Option.some.inj hF0
               exact rd_leaf (.inr rfl) rfl (retV_pl _ _ (iA 1)) rfl rfl
             · replace hF1 := ite_f hF1 (not_t hc18)
               exact sk <| rg <| WO_do (y := (iA ((i + 1 : Nat) : Int))) _ rfl rfl (congrArg (fun n => some (AV.int .i64 n, _)) (range_len hi10 hn10)) <| WO_do (y := (iA ((i + 1 : Nat) : Int))) _ rfl rfl rfl <| nl <| Exists.intro _ (And.intro (Option.some.inj hF1).symm ((hR10 _ _ _).2 ⟨_, _, rfl, (And.intro rfl (And.intro rfl (And.intro rfl (And.intro rfl True.intro)))), True.intro⟩))
           · rcases bool_cases r271 with hc16 | hc16
             · replace hF2 := ite_t hF2 (hc16)
               exact L (.bool true) rfl rfl (congrArg (fun b => some (AV.bool b, _)) hc16) <| WO_no _ rfl rfl <| WO_no _ rfl rfl <| WO_no _ rfl rfl <| WO_no _ rfl rfl <| WO_no _ rfl rfl <| L (bA true) rfl rfl rfl <| nl ((hJ16 _).2 ⟨true, _, _, rfl, (And.intro rfl (And.intro rfl (And.intro rfl (And.intro rfl (And.intro rfl True.intro))))), True.intro, Option.some.inj hF2⟩)
             · replace hF2 := ite_f hF2 (not_t hc16)
               refine L (.bool false) rfl rfl (congrArg (fun b => some (AV.bool b, _)) hc16) <| L (Sl.av 1 c_i64 weights) rfl rfl rfl <| L (iA ((i : Nat) : Int)) rfl rfl rfl ?_
               obtain ⟨x4, h_x4, hF2⟩ := bind_some hF2
               refine L (.cptr [(iA x4)]) rfl rfl (op_ix rfl (ix_sl (c := c_i64) rfl rfl h_x4)) <| L (iA x4) rfl rfl rfl ?_
               obtain ⟨r333, h19, hF2⟩ := bind_some hF2
               exact WO_rd (g := 31) (args := [(iA x4), (iA 1), (iA 1000)]) (r := (bA r333)) _ _ rfl rfl rfl rfl rfl rfl rfl (ok_kit_Outside _ _ _ h19 _ _ ) <| L (bA r333) rfl rfl rfl <| nl ((hJ16 _).2 ⟨r333, _, _, rfl, (And.intro rfl (And.intro rfl (And.intro rfl (And.intro rfl (And.intro rfl True.intro))))), True.intro, Option.some.inj hF2⟩)
         · intro v st hr hD1
           obtain ⟨⟩ := v
           obtain ⟨tm11, cb11, rfl, hT11, hC11⟩ := (hR10 _ _ _).1 hr
           obtain ⟨tm11, rfl⟩ := allEq hT11
           obtain ⟨cb11, rfl⟩ := allEq hC11
           refine sq (rg ?_)
           refine WO_do (y := .bool false) _ rfl rfl (congrArg (fun b => some (AV.bool b, _)) (range_ge _)) (nl ?_)
           refine sq <| cd false rfl (fun h => absurd h (by decide)) (fun _ => ?_)
           exact xt <| (hJ10 _).2 ⟨_, _, rfl, True.intro, True.intro, hD1⟩

theorem ok_limit_shares (wants : (Sl Int)) (weights : (Sl Int)) (level : Int) {r : ((Sl Int) × Int)} (hF0 : limit_shares wants weights level = some r) (out : List AE.Frame) (glob : List AObj) : RdOk Try.prog pol true 39 [(Sl.av 1 c_i64 wants), (Sl.av 1 c_i64 weights), (iA level)] out glob (.tup [(Sl.av 1 c_i64 r.1), (iA r.2)]) := by
 unfold limit_shares at hF0
 refine rd_walk Try.func39 rfl (Nat.not_lt.2 (Nat.le_of_ble_eq_true rfl)) ?_
 intro ro
 refine sq <| rg <| L (Sl.av 1 c_i64 Sl.nil) rfl rfl rfl <| L (iA 0) rfl rfl rfl <| nl <| sq <| rg <| L (.rsl (.fr 0 8) 1 0 0) (h' := ⟨upd _ 8 ⟨1, .arr true 0 []⟩, _, _⟩) rfl rfl (op_muNil rfl rfl rfl rfl) <| nl <| sq <| rg <| L (iA 0) rfl rfl rfl <| nl <| sq <| sq <| rg <| L (Sl.av 1 c_i64 wants) rfl rfl rfl <| L (iA (wants.list.length : Int)) rfl rfl (op_len rfl rfl rfl rfl rfl (len_sl _)) <| L (iA 0) rfl rfl rfl <| nl <| bk ?_
 obtain ⟨b1, hb5, hF0⟩ := bind_some hF0
 obtain ⟨hn5, hb5⟩ := ite_none hb5
 obtain ⟨J5, hJ5⟩ : ∃ J : St → Prop, ∀ st, J st ↔ (∃ (out_4 : (Ar Int)) (sum3 : Int) (v82 : Nat) (tm7 : Nat → AV) (cb7 : AE.Frame), st = ⟨tm7, ⟨cb7, out, glob⟩⟩ ∧ AllEq tm7 [(8, (.rsl (.fr 0 8) v82 0 out_4.list.length)), (9, (iA sum3))] ∧ AllEq cb7 [(8, ⟨v82, Ar.con 1 c_i64 out_4⟩)] ∧ (out_4, sum3) = b1) := ⟨_, fun _ => Iff.rfl⟩
 obtain ⟨R5, hR5⟩ : ∃ R : Nat → ((Ar Int) × Int) → St → Prop, ∀ i v st, R i v st ↔ (match v with | (out_3, sum2) => ∃ (v81 : Nat) (tm6 : Nat → AV) (cb6 : AE.Frame), st = ⟨tm6, ⟨cb6, out, glob⟩⟩ ∧ AllEq tm6 [(1, (Sl.av 1 c_i64 weights)), (2, (iA level)), (8, (.rsl (.fr 0 8) v81 0 out_3.list.length)), (9, (iA sum2)), (13, (Sl.av 1 c_i64 wants)), (14, (iA (wants.list.length : Int))), (15, (iA ((i : Nat) : Int)))] ∧ AllEq cb6 [(8, ⟨v81, Ar.con 1 c_i64 out_3⟩)]) := ⟨_, fun _ _ _ => Iff.rfl⟩
 refine W_loopcut J5 (fun st hst => ?_) ?_
 · obtain ⟨out_4, sum3, v82, tm7, cb7, rfl, hT7, hC7, rfl⟩ := (hJ5 st).1 hst
   obtain ⟨tm7, rfl⟩ := allEq hT7
   obtain ⟨cb7, rfl⟩ := allEq hC7
   refine sq <| rg <| L (.rsl (.fr 0 8) v82 0 out_4.list.length) rfl rfl rfl <| L (iA sum3) rfl rfl rfl <| L (.rsl (.fr 0 8) v82 0 out_4.list.length) rfl rfl rfl <| L (iA sum3) rfl rfl rfl <| nl <| rt ?_
   obtain rfl := Option.some.inj hF0
   exact rd_leaf (.inr rfl) rfl (ret_tup2 (ret_arr rfl) (retV_pl _ _ (iA sum3))) rfl rfl
 · refine W_rangeL hb5 R5 ((hR5 _ _ _).2 ⟨1, _, _, rfl, (And.intro rfl (And.intro rfl (And.intro rfl (And.intro rfl (And.intro rfl (And.intro rfl (And.intro rfl True.intro))))))), (And.intro rfl True.intro)⟩) ?_ ?_
   · intro i hi5 v st s hr hF1 hD1
     obtain ⟨out_3, sum2⟩ := v
     obtain ⟨v81, tm6, cb6, rfl, hT6, hC6⟩ := (hR5 _ _ _).1 hr
     obtain ⟨tm6, rfl⟩ := allEq hT6
     obtain ⟨cb6, rfl⟩ := allEq hC6
     obtain ⟨n, hx5⟩ : ∃ x, x = wants.list[i] := ⟨_, rfl⟩
     rw [← hx5] at hF1
     dsimp only [limit_shares_l0] at hF1
     refine sq (rg ?_)
     refine WO_do (y := (bA (decide (((i : Nat) : Int) < (wants.list.length : Int))))) _ rfl rfl rfl (nl ?_)
     refine sq <| cd true (congrArg some (range_lt hi5)) (fun _ => ?_) (fun h => absurd h (by decide))
     refine sk <| sq <| bk <| sq <| rg <| L (iA ((i : Nat) : Int)) rfl rfl rfl <| L (.cptr [(iA n)]) rfl rfl (op_ix rfl ((ix_at (c := c_i64) rfl rfl hi5).trans (congrArg (fun x => some (AV.cptr (c_i64 x))) hx5.symm))) <| L (iA n) rfl rfl rfl <| L (iA ((i : Nat) : Int)) rfl rfl rfl <| L (iA n) rfl rfl rfl <| nl <| sq <| rg <| L (iA n) rfl rfl rfl <| L (Sl.av 1 c_i64 weights) rfl rfl rfl <| L (iA ((i : Nat) : Int)) rfl rfl rfl ?_
     obtain ⟨x4, h_x4, hF1⟩ := bind_some hF1
     refine L (.cptr [(iA x4)]) rfl rfl (op_ix rfl (ix_sl (c := c_i64) rfl rfl h_x4)) <| L (iA x4) rfl rfl rfl <| L (iA level) rfl rfl rfl <| L (iA (w64 (x4 * level))) rfl rfl rfl <| L (iA (imin n (w64 (x4 * level)))) rfl rfl rfl <| L (iA (imin n (w64 (x4 * level)))) rfl rfl rfl <| nl <| sq <| rg <| L (.rsl (.fr 0 8) v81 0 out_3.list.length) rfl rfl rfl <| L (iA (imin n (w64 (x4 * level)))) rfl rfl rfl <| L (Sl.av 1 c_i64 (Sl.full [imin n (w64 (x4 * level))])) rfl rfl (op_sliceN rfl rfl rfl) ?_
     obtain ⟨out_5, h_out_5, hF1⟩ := bind_some hF1
     exact L (.rsl (.fr 0 8) (v81 + 1) 0 out_5.list.length) (h' := ⟨upd _ 8 ⟨v81 + 1, Ar.con 1 c_i64 out_5⟩, _, _⟩) rfl rfl (op_append rfl rfl rfl rfl rfl (arr_app (a := out_3) (a' := out_5) (n := 1) (c := c_i64) (z := [(iA 0)]) rfl rfl rfl rfl rfl (by decide) (fun _ => rfl) rfl rfl rfl rfl h_out_5)) <| L (.rsl (.fr 0 8) (v81 + 1) 0 out_5.list.length) rfl rfl rfl <| nl <| rg <| L (iA sum2) rfl rfl rfl <| L (iA (imin n (w64 (x4 * level)))) rfl rfl rfl <| L (iA (w64 (sum2 + (imin n (w64 (x4 * level)))))) rfl rfl rfl <| L (iA (w64 (sum2 + (imin n (w64 (x4 * level)))))) rfl rfl rfl <| nl <| rg <| WO_do (y := (iA ((i + 1 : Nat) : Int))) _ rfl rfl (congrArg (fun n => some (AV.int .i64 n, _)) (range_len hi5 hn5)) <| WO_do (y := (iA ((i + 1 : Nat) : Int))) _ rfl rfl rfl <| nl <| Exists.intro _ (And.intro (Option.some.inj hF1).symm ((hR5 _ _ _).2 ⟨v81 + 1, _, _, rfl, (And.intro rfl (And.intro rfl (And.intro rfl (And.intro rfl (And.intro rfl (And.intro rfl (And.intro rfl True.intro))))))), (And.intro rfl True.intro)⟩))
   · intro v st hr hD1
     obtain ⟨out_3, sum2⟩ := v
     obtain ⟨v81, tm6, cb6, rfl, hT6, hC6⟩ := (hR5 _ _ _).1 hr
     obtain ⟨tm6, rfl⟩ := allEq hT6
     obtain ⟨cb6, rfl⟩ := allEq hC6
     refine sq (rg ?_)
     refine WO_do (y := .bool false) _ rfl rfl (congrArg (fun b => some (AV.bool b, _)) (range_ge _)) (nl ?_)
     refine sq <| cd false rfl (fun h => absurd h (by decide)) (fun _ => ?_)
     exact xt <| (hJ5 _).2 ⟨out_3, sum2, v81, _, _, rfl, (And.intro rfl (And.intro rfl True.intro)), (And.intro rfl True.intro), hD1⟩

theorem okm_limit_shares (wants : (Sl Int)) (weights : (Sl Int)) (level : Int) {r : ((Sl Int) × Int)} (hF0 : limit_shares wants weights level = some r) {a : Ar Int} (ha : r.1.ar? = some a) (out : List AE.Frame) (glob : List AObj) : RdM Try.prog pol true 39 [(Sl.av 1 c_i64 wants), (Sl.av 1 c_i64 weights), (iA level)] out glob 1 c_i64 a [(iA r.2)] := by
 unfold limit_shares at hF0
 refine rdm_walk Try.func39 rfl (Nat.not_lt.2 (Nat.le_of_ble_eq_true rfl)) ?_
 intro ro
 refine sq <| rg <| L (Sl.av 1 c_i64 Sl.nil) rfl rfl rfl <| L (iA 0) rfl rfl rfl <| nl <| sq <| rg <| L (.rsl (.fr 0 8) 1 0 0) (h' := ⟨upd _ 8 ⟨1, .arr true 0 []⟩, _, _⟩) rfl rfl (op_muNil rfl rfl rfl rfl) <| nl <| sq <| rg <| L (iA 0) rfl rfl rfl <| nl <| sq <| sq <| rg <| L (Sl.av 1 c_i64 wants) rfl rfl rfl <| L (iA (wants.list.length : Int)) rfl rfl (op_len rfl rfl rfl rfl rfl (len_sl _)) <| L (iA 0) rfl rfl rfl <| nl <| bk ?_
 obtain ⟨b1, hb5, hF0⟩ := bind_some hF0
 obtain ⟨hn5, hb5⟩ := ite_none hb5
 obtain ⟨J5, hJ5⟩ : ∃ J : St → Prop, ∀ st, J st ↔ (∃ (out_4 : (Ar Int)) (sum3 : Int) (v82 : Nat) (tm7 : Nat → AV) (cb7 : AE.Frame), st = ⟨tm7, ⟨cb7, out, glob⟩⟩ ∧ AllEq tm7 [(8, (.rsl (.fr 0 8) v82 0 out_4.list.length)), (9, (iA sum3))] ∧ AllEq cb7 [(8, ⟨v82, Ar.con 1 c_i64 out_4⟩)] ∧ (out_4, sum3) = b1) := ⟨_, fun _ => Iff.rfl⟩
 obtain ⟨R5, hR5⟩ : ∃ R : Nat → ((Ar Int) × Int) → St → Prop, ∀ i v st, R i v st ↔ (match v with | (out_3, sum2) => ∃ (v81 : Nat) (tm6 : Nat → AV) (cb6 : AE.Frame), st = ⟨tm6, ⟨cb6, out, glob⟩⟩ ∧ AllEq tm6 [(1, (Sl.av 1 c_i64 weights)), (2, (iA level)), (8, (.rsl (.fr 0 8) v81 0 out_3.list.length)), (9, (iA sum2)), (13, (Sl.av 1 c_i64 wants)), (14, (iA (wants.list.length : Int))), (15, (iA ((i : Nat) : Int)))] ∧ AllEq cb6 [(8, ⟨v81, Ar.con 1 c_i64 out_3⟩)]) := ⟨_, fun _ _ _ => Iff.rfl⟩
 refine W_loopcut J5 (fun st hst => ?_) ?_
 · obtain ⟨out_4, sum3, v82, tm7, cb7, rfl, hT7, hC7, rfl⟩ := (hJ5 st).1 hst
   obtain ⟨tm7, rfl⟩ := allEq hT7
   obtain ⟨cb7, rfl⟩ := allEq hC7
   refine sq <| rg <| L (.rsl (.fr 0 8) v82 0 out_4.list.length) rfl rfl rfl <| L (iA sum3) rfl rfl rfl <| L (.rsl (.fr 0 8) v82 0 out_4.list.length) rfl rfl rfl <| L (iA sum3) rfl rfl rfl <| nl <| rt ?_
   obtain rfl := Option.some.inj hF0
   obtain rfl := Option.some.inj ((Ar.ar_sl out_4).symm.trans ha)
   exact rdm_leaf (.inr rfl) rfl rfl rfl rfl
 · refine W_rangeL hb5 R5 ((hR5 _ _ _).2 ⟨1, _, _, rfl, (And.intro rfl (And.intro rfl (And.intro rfl (And.intro rfl (And.intro rfl (And.intro rfl (And.intro rfl True.intro))))))), (And.intro rfl True.intro)⟩) ?_ ?_
   · intro i hi5 v st s hr hF1 hD1
     obtain ⟨out_3, sum2⟩ := v
     obtain ⟨v81, tm6, cb6, rfl, hT6, hC6⟩ := (hR5 _ _ _).1 hr
     obtain ⟨tm6, rfl⟩ := allEq hT6
     obtain ⟨cb6, rfl⟩ := allEq hC6
     obtain ⟨n, hx5⟩ : ∃ x, x = wants.list[i] := ⟨_, rfl⟩
     rw [← hx5] at hF1
     dsimp only [limit_shares_l0] at hF1
     refine sq (rg ?_)
     refine WO_do (y := (bA (decide (((i : Nat) : Int) < (wants.list.length : Int))))) _ rfl rfl rfl (nl ?_)
     refine sq <| cd true (congrArg some (range_lt hi5)) (fun _ => ?_) (fun h => absurd h (by decide))
     refine sk <| sq <| bk <| sq <| rg <| L (iA ((i : Nat) : Int)) rfl rfl rfl <| L (.cptr [(iA n)]) rfl rfl (op_ix rfl ((ix_at (c := c_i64) rfl rfl hi5).trans (congrArg (fun x => some (AV.cptr (c_i64 x))) hx5.symm))) <| L (iA n) rfl rfl rfl <| L (iA ((i : Nat) : Int)) rfl rfl rfl <| L (iA n) rfl rfl rfl <| nl <| sq <| rg <| L (iA n) rfl rfl rfl <| L (Sl.av 1 c_i64 weights) rfl rfl rfl <| L (iA ((i : Nat) : Int)) rfl rfl rfl ?_
     obtain ⟨x4, h_x4, hF1⟩ := bind_some hF1
     refine L (.cptr [(iA x4)]) rfl rfl (op_ix rfl (ix_sl (c := c_i64) rfl rfl h_x4)) <| L (iA x4) rfl rfl rfl <| L (iA level) rfl rfl rfl <| L (iA (w64 (x4 * level))) rfl rfl rfl <| L (iA (imin n (w64 (x4 * level)))) rfl rfl rfl <| L (iA (imin n (w64 (x4 * level)))) rfl rfl rfl <| nl <| sq <| rg <| L (.rsl (.fr 0 8) v81 0 out_3.list.length) rfl rfl rfl <| L (iA (imin n (w64 (x4 * level)))) rfl rfl rfl <| L (Sl.av 1 c_i64 (Sl.full [imin n (w64 (x4 * level))])) rfl rfl (op_sliceN rfl rfl rfl) ?_
     obtain ⟨out_5, h_out_5, hF1⟩ := bind_some hF1
     exact L (.rsl (.fr 0 8) (v81 + 1) 0 out_5.list.length) (h' := ⟨upd _ 8 ⟨v81 + 1, Ar.con 1 c_i64 out_5⟩, _, _⟩) rfl rfl (op_append rfl rfl rfl rfl rfl (arr_app (a := out_3) (a' := out_5) (n := 1) (c := c_i64) (z := [(iA 0)]) rfl rfl rfl rfl rfl (by decide) (fun _ => rfl) rfl rfl rfl rfl h_out_5)) <| L (.rsl (.fr 0 8) (v81 + 1) 0 out_5.list.length) rfl rfl rfl <| nl <| rg <| L (iA sum2) rfl rfl rfl <| L (iA (imin n (w64 (x4 * level)))) rfl rfl rfl <| L (iA (w64 (sum2 + (imin n (w64 (x4 * level)))))) rfl rfl rfl <| L (iA (w64 (sum2 + (imin n (w64 (x4 * level)))))) rfl rfl rfl <| nl <| rg <| WO_do (y := (iA ((i + 1 : Nat) : Int))) _ rfl rfl (congrArg (fun n => some (AV.int .i64 n, _)) (range_len hi5 hn5)) <| WO_do (y := (iA ((i + 1 : Nat) : Int))) _ rfl rfl rfl <| nl <| Exists.intro _ (And.intro (Option.some.inj hF1).symm ((hR5 _ _ _).2 ⟨v81 + 1, _, _, rfl, (And.intro rfl (And.intro rfl (And.intro rfl (And.intro rfl (And.intro rfl (And.intro rfl (And.intro rfl True.intro))))))), (And.intro rfl True.intro)⟩))
   · intro v st hr hD1
     obtain ⟨out_3, sum2⟩ := v
     obtain ⟨v81, tm6, cb6, rfl, hT6, hC6⟩ := (hR5 _ _ _).1 hr
     obtain ⟨tm6, rfl⟩ := allEq hT6
     obtain ⟨cb6, rfl⟩ := allEq hC6
     refine sq (rg ?_)
     refine WO_do (y := .bool false) _ rfl rfl (congrArg (fun b => some (AV.bool b, _)) (range_ge _)) (nl ?_)
     refine sq <| cd false rfl (fun h => absurd h (by decide)) (fun _ => ?_)
     exact xt <| (hJ5 _).2 ⟨out_3, sum2, v81, _, _, rfl, (And.intro rfl (And.intro rfl True.intro)), (And.intro rfl True.intro), hD1⟩

theorem ok_limit_Fair (most : Int) (wants : (Sl Int)) (weights : (Sl Int)) {r : ((Sl Int) × Int)} (hF0 : limit_Fair most wants weights = some r) (out : List AE.Frame) (glob : List AObj) : RdOk Try.prog pol true 15 [(iA most), (Sl.av 1 c_i64 wants), (Sl.av 1 c_i64 weights)] out glob (.tup [(Sl.av 1 c_i64 r.1), (iA r.2)]) := by
 unfold limit_Fair at hF0
 refine rd_walk Try.func15 rfl (Nat.not_lt.2 (Nat.le_of_ble_eq_true rfl)) ?_
 intro ro
 refine sq <| rg <| L (Sl.av 1 c_i64 Sl.nil) rfl rfl rfl <| L (iA 0) rfl rfl rfl <| nl <| sq <| sq <| rg <| L (iA most) rfl rfl rfl <| L (Sl.av 1 c_i64 wants) rfl rfl rfl <| L (Sl.av 1 c_i64 weights) rfl rfl rfl ?_
 obtain ⟨e, h1, hF0⟩ := bind_some hF0
 refine WO_rd (g := 38) (args := [(iA most), (Sl.av 1 c_i64 wants), (Sl.av 1 c_i64 weights)]) (r := (iA e)) _ _ rfl rfl rfl rfl rfl rfl rfl (ok_limit_shareFault _ _ _ h1 _ _ ) <| L (iA e) rfl rfl rfl <| nl <| sq <| rg <| L (iA e) rfl rfl rfl <| L (bA (e != 0)) rfl rfl rfl <| nl <| cd (e != 0) rfl (fun hc23 => ?_) (fun hc23 => ?_)
 · replace hF0 := ite_t hF0 (bne_t hc23)
   refine sq <| rg <| L (iA e) rfl rfl rfl <| L (Sl.av 1 c_i64 Sl.nil) rfl rfl rfl <| L (iA e) rfl rfl rfl <| nl <| rt ?_
   obtain rfl := Option.some.inj hF0
   exact rd_leaf (.inr rfl) rfl (ret_tup2 (retV_pl _ _ (Sl.av 1 c_i64 Sl.nil)) (retV_pl _ _ (iA e))) rfl rfl
 · replace hF0 := ite_f hF0 (bne_f hc23)
   refine sk <| sq <| rg <| L (Sl.av 1 c_i64 wants) rfl rfl rfl <| L (Sl.av 1 c_i64 weights) rfl rfl rfl ?_
   obtain ⟨⟨out_1, sum⟩, h2, hF0⟩ := bind_some hF0
   obtain ⟨out_2, h_out_2, hF0⟩ := bind_some hF0
   refine WO_muR (g := 39) (args := [(Sl.av 1 c_i64 wants), (Sl.av 1 c_i64 weights), (iA 1000000000)]) (y := (.tup [(.rsl (.fr 0 1029) 1 0 out_2.list.length), (iA sum)])) (h' := ⟨upd _ 1029 ⟨1, Ar.con 1 c_i64 out_2⟩, _, _⟩) _ _ rfl rfl rfl rfl rfl rfl rfl rfl (okm_limit_shares _ _ _ h2 h_out_2 _ _ ) rfl rfl <| L (.tup [(.rsl (.fr 0 1029) 1 0 out_2.list.length), (iA sum)]) rfl rfl rfl <| L (.rsl (.fr 0 1029) 1 0 out_2.list.length) rfl rfl rfl <| L (iA sum) rfl rfl rfl <| L (.rsl (.fr 0 1029) 1 0 out_2.list.length) rfl rfl rfl <| L (iA sum) rfl rfl rfl <| nl <| sq <| sq <| rg <| L (iA sum) rfl rfl rfl <| L (iA most) rfl rfl rfl <| L (bA (decide (sum ≤ most))) rfl rfl rfl <| nl <| cd (decide (sum ≤ most)) rfl (fun hc22 => ?_) (fun hc22 => ?_)
   · replace hF0 := ite_t hF0 (dec_t hc22)
     refine sq <| rg <| L (.rsl (.fr 0 1029) 1 0 out_2.list.length) rfl rfl rfl <| L (.rsl (.fr 0 1029) 1 0 out_2.list.length) rfl rfl rfl <| L (iA 0) rfl rfl rfl <| nl <| rt ?_
     obtain rfl := Option.some.inj hF0
     exact rd_leaf (.inr rfl) rfl (ret_tup2 (ret_arr rfl) (retV_pl _ _ (iA 0))) rfl rfl
   · replace hF0 := ite_f hF0 (dec_f hc22)
     refine sk <| sq <| rg <| L (iA 0) rfl rfl rfl <| L (iA 1000000000) rfl rfl rfl <| nl <| sq <| bk ?_
     obtain ⟨b1, hb7, hF0⟩ := bind_some hF0
     obtain ⟨J7, hJ7⟩ : ∃ J : St → Prop, ∀ st, J st ↔ (∃ (low2 : Int) (tm9 : Nat → AV) (cb9 : AE.Frame), st = ⟨tm9, ⟨cb9, out, glob⟩⟩ ∧ AllEq tm9 [(0, (iA most)), (1, (Sl.av 1 c_i64 wants)), (2, (Sl.av 1 c_i64 weights)), (11, (iA low2))] ∧ AllEq cb9 [] ∧ low2 = b1) := ⟨_, fun _ => Iff.rfl⟩
     obtain ⟨R7, hR7⟩ : ∃ R : (Int × Int) → St → Prop, ∀ v st, R v st ↔ (match v with | (low1, high1) => ∃ (tm8 : Nat → AV) (cb8 : AE.Frame), st = ⟨tm8, ⟨cb8, out, glob⟩⟩ ∧ AllEq tm8 [(0, (iA most)), (1, (Sl.av 1 c_i64 wants)), (2, (Sl.av 1 c_i64 weights)), (11, (iA low1)), (12, (iA high1))] ∧ AllEq cb8 []) := ⟨_, fun _ _ => Iff.rfl⟩
     refine W_loopcut J7 (fun st hst => ?_) ?_
     · obtain ⟨low2, tm9, cb9, rfl, hT9, hC9, rfl⟩ := (hJ7 st).1 hst
       obtain ⟨tm9, rfl⟩ := allEq hT9
       obtain ⟨cb9, rfl⟩ := allEq hC9
       refine sq <| rg <| L (Sl.av 1 c_i64 wants) rfl rfl rfl <| L (Sl.av 1 c_i64 weights) rfl rfl rfl <| L (iA low2) rfl rfl rfl ?_
       obtain ⟨⟨out_31, sum3⟩, h13, hF0⟩ := bind_some hF0
       obtain ⟨out_32, h_out_32, hF0⟩ := bind_some hF0
       refine WO_muR (g := 39) (args := [(Sl.av 1 c_i64 wants), (Sl.av 1 c_i64 weights), (iA low2)]) (y := (.tup [(.rsl (.fr 0 1060) ((cb9 1060).ver + 1) 0 out_32.list.length), (iA sum3)])) (h' := ⟨upd _ 1060 ⟨(cb9 1060).ver + 1, Ar.con 1 c_i64 out_32⟩, _, _⟩) _ _ rfl rfl rfl rfl rfl rfl rfl rfl (okm_limit_shares _ _ _ h13 h_out_32 _ _ ) rfl rfl <| L (.tup [(.rsl (.fr 0 1060) ((cb9 1060).ver + 1) 0 out_32.list.length), (iA sum3)]) rfl rfl rfl <| L (.rsl (.fr 0 1060) ((cb9 1060).ver + 1) 0 out_32.list.length) rfl rfl rfl <| L (iA sum3) rfl rfl rfl <| L (.rsl (.fr 0 1060) ((cb9 1060).ver + 1) 0 out_32.list.length) rfl rfl rfl <| L (iA sum3) rfl rfl rfl <| nl <| sq <| sq <| rg <| L (Sl.av 1 c_i64 wants) rfl rfl rfl <| L (iA (wants.list.length : Int)) rfl rfl (op_len rfl rfl rfl rfl rfl (len_sl _)) <| L (iA 0) rfl rfl rfl <| nl <| bk ?_
       obtain ⟨b1, hb18, hF0⟩ := bind_some hF0
       obtain ⟨hn18, hb18⟩ := ite_none hb18
       obtain ⟨J18, hJ18⟩ : ∃ J : St → Prop, ∀ st, J st ↔ (∃ (out_37 : (Ar Int)) (v10602 : Nat) (tm20 : Nat → AV) (cb20 : AE.Frame), st = ⟨tm20, ⟨cb20, out, glob⟩⟩ ∧ AllEq tm20 [(9, (.rsl (.fr 0 1060) v10602 0 out_37.list.length))] ∧ AllEq cb20 [(1060, ⟨v10602, Ar.con 1 c_i64 out_37⟩)] ∧ out_37 = b1) := ⟨_, fun _ => Iff.rfl⟩
       obtain ⟨R18, hR18⟩ : ∃ R : Nat → ((Ar Int) × Int) → St → Prop, ∀ i v st, R i v st ↔ (match v with | (out_36, sum6) => ∃ (v10601 : Nat) (tm19 : Nat → AV) (cb19 : AE.Frame), st = ⟨tm19, ⟨cb19, out, glob⟩⟩ ∧ AllEq tm19 [(0, (iA most)), (2, (Sl.av 1 c_i64 weights)), (9, (.rsl (.fr 0 1060) v10601 0 out_36.list.length)), (10, (iA sum6)), (63, (Sl.av 1 c_i64 wants)), (64, (iA (wants.list.length : Int))), (65, (iA ((i : Nat) : Int)))] ∧ AllEq cb19 [(1060, ⟨v10601, Ar.con 1 c_i64 out_36⟩)]) := ⟨_, fun _ _ _ => Iff.rfl⟩
       refine W_loopcut J18 (fun st hst => ?_) ?_
       · obtain ⟨out_37, v10602, tm20, cb20, rfl, hT20, hC20, rfl⟩ := (hJ18 st).1 hst
         obtain ⟨tm20, rfl⟩ := allEq hT20
         obtain ⟨cb20, rfl⟩ := allEq hC20
         refine sq <| rg <| L (.rsl (.fr 0 1060) v10602 0 out_37.list.length) rfl rfl rfl <| L (.rsl (.fr 0 1060) v10602 0 out_37.list.length) rfl rfl rfl <| L (iA 0) rfl rfl rfl <| nl <| rt ?_
         obtain rfl := Option.some.inj hF0
         exact rd_leaf (.inr rfl) rfl (ret_tup2 (ret_arr rfl) (retV_pl _ _ (iA 0))) rfl rfl
       · refine W_rangeL hb18 R18 ((hR18 _ _ _).2 ⟨(cb9 1060).ver + 1, _, _, rfl, (And.intro rfl (And.intro rfl (And.intro rfl (And.intro rfl (And.intro rfl (And.intro rfl (And.intro rfl True.intro))))))), (And.intro rfl True.intro)⟩) ?_ ?_
         · intro i hi18 v st s hr hF1 hD1
           obtain ⟨out_36, sum6⟩ := v
           obtain ⟨v10601, tm19, cb19, rfl, hT19, hC19⟩ := (hR18 _ _ _).1 hr
           obtain ⟨tm19, rfl⟩ := allEq hT19
           obtain ⟨cb19, rfl⟩ := allEq hC19
           obtain ⟨n, hx18⟩ : ∃ x, x = wants.list[i] := ⟨_, rfl⟩
           rw [← hx18] at hF1
           dsimp only [limit_Fair_l1] at hF1
           refine sq (rg ?_)
           refine WO_do (y := (bA (decide (((i : Nat) : Int) < (wants.list.length : Int))))) _ rfl rfl rfl (nl ?_)
           refine sq <| cd true (congrArg some (range_lt hi18)) (fun _ => ?_) (fun h => absurd h (by decide))
           refine sk <| sq <| bk <| sq <| rg <| L (iA ((i : Nat) : Int)) rfl rfl rfl <| L (.cptr [(iA n)]) rfl rfl (op_ix rfl ((ix_at (c := c_i64) rfl rfl hi18).trans (congrArg (fun x => some (AV.cptr (c_i64 x))) hx18.symm))) <| L (iA n) rfl rfl rfl <| L (iA ((i : Nat) : Int)) rfl rfl rfl <| L (iA n) rfl rfl rfl <| nl <| sq <| dw (by kernel_rfl) <| L (iA n) rfl rfl rfl <| L (.rsl (.fr 0 1060) v10601 0 out_36.list.length) rfl rfl rfl <| L (iA ((i : Nat) : Int)) rfl rfl rfl ?_
           obtain ⟨x10, h_x10, hF1⟩ := bind_some hF1
           refine L (.eptr (.fr 0 1060) v10601 (((i : Nat) : Int) : Int).toNat 0) rfl rfl (op_ix rfl (ix_arr (a := out_36) (n := 1) (c := c_i64) rfl rfl rfl h_x10)) <| L (iA x10) rfl rfl (op_load rfl (ld_arr (a := out_36) (n := 1) (c := c_i64) (iA x10) rfl rfl rfl h_x10 rfl)) <| L (iA (w64 (n - x10))) rfl rfl rfl <| L (Sl.av 1 c_i64 weights) rfl rfl rfl <| L (iA ((i : Nat) : Int)) rfl rfl rfl ?_
           obtain ⟨x11, h_x11, hF1⟩ := bind_some hF1
           refine L (.cptr [(iA x11)]) rfl rfl (op_ix rfl (ix_sl (c := c_i64) rfl rfl h_x11)) <| L (iA x11) rfl rfl rfl <| L (iA most) rfl rfl rfl <| L (iA sum6) rfl rfl rfl <| L (iA (w64 (most - sum6))) rfl rfl rfl <| L (iA (imin (imin (w64 (n - x10)) x11) (w64 (most - sum6)))) rfl rfl rfl <| L (iA (imin (imin (w64 (n - x10)) x11) (w64 (most - sum6)))) rfl rfl rfl <| nl <| sq <| rg <| L (.rsl (.fr 0 1060) v10601 0 out_36.list.length) rfl rfl rfl <| L (iA ((i : Nat) : Int)) rfl rfl rfl ?_
           obtain ⟨x12, h_x12, hF1⟩ := bind_some hF1
           refine L (.eptr (.fr 0 1060) v10601 (((i : Nat) : Int) : Int).toNat 0) rfl rfl (op_ix rfl (ix_arr (a := out_36) (n := 1) (c := c_i64) rfl rfl rfl h_x12)) <| L (iA x12) rfl rfl (op_load rfl (ld_arr (a := out_36) (n := 1) (c := c_i64) (iA x12) rfl rfl rfl h_x12 rfl)) <| L (iA (imin (imin (w64 (n - x10)) x11) (w64 (most - sum6)))) rfl rfl rfl <| L (iA (w64 (x12 + (imin (imin (w64 (n - x10)) x11) (w64 (most - sum6)))))) rfl rfl rfl ?_
           obtain ⟨x13, h_x13, hF1⟩ := bind_some hF1
           refine L (.eptr (.fr 0 1060) v10601 (((i : Nat) : Int) : Int).toNat 0) rfl rfl (op_ix rfl (ix_arr (a := out_36) (n := 1) (c := c_i64) rfl rfl rfl h_x13)) ?_
           obtain ⟨out_38, h_out_38, hF1⟩ := bind_some hF1
           refine L (.tup []) (h' := ⟨upd _ 1060 ⟨v10601, Ar.con 1 c_i64 out_38⟩, _, _⟩) rfl rfl (op_store rfl rfl (st_arr (a := out_36) (a' := out_38) (n := 1) (c := c_i64) (x := x13) (x' := w64 (x12 + (imin (imin (w64 (n - x10)) x11) (w64 (most - sum6))))) (y := (iA (w64 (x12 + (imin (imin (w64 (n - x10)) x11) (w64 (most - sum6))))))) rfl rfl h_x13 (Nat.le_of_ble_eq_true rfl) rfl h_out_38)) ?_
           rw [← Ar.set_len h_out_38]
           exact nl <| rg <| L (iA sum6) rfl rfl rfl <| L (iA (imin (imin (w64 (n - x10)) x11) (w64 (most - sum6)))) rfl rfl rfl <| L (iA (w64 (sum6 + (imin (imin (w64 (n - x10)) x11) (w64 (most - sum6)))))) rfl rfl rfl <| L (iA (w64 (sum6 + (imin (imin (w64 (n - x10)) x11) (w64 (most - sum6)))))) rfl rfl rfl <| nl <| rg <| WO_do (y := (iA ((i + 1 : Nat) : Int))) _ rfl rfl (congrArg (fun n => some (AV.int .i64 n, _)) (range_len hi18 hn18)) <| WO_do (y := (iA ((i + 1 : Nat) : Int))) _ rfl rfl rfl <| nl <| Exists.intro _ (And.intro (Option.some.inj hF1).symm ((hR18 _ _ _).2 ⟨v10601, _, _, rfl, (And.intro rfl (And.intro rfl (And.intro rfl (And.intro rfl (And.intro rfl (And.intro rfl (And.intro rfl True.intro))))))), (And.intro rfl True.intro)⟩))
         · intro v st hr hD1
           obtain ⟨out_36, sum6⟩ := v
           obtain ⟨v10601, tm19, cb19, rfl, hT19, hC19⟩ := (hR18 _ _ _).1 hr
           obtain ⟨tm19, rfl⟩ := allEq hT19
           obtain ⟨cb19, rfl⟩ := allEq hC19
           refine sq (rg ?_)
           refine WO_do (y := .bool false) _ rfl rfl (congrArg (fun b => some (AV.bool b, _)) (range_ge _)) (nl ?_)
           refine sq <| cd false rfl (fun h => absurd h (by decide)) (fun _ => ?_)
           exact xt <| (hJ18 _).2 ⟨out_36, v10601, _, _, rfl, (And.intro rfl True.intro), (And.intro rfl True.intro), hD1⟩
     · refine W_loopV hb7 R7 ((hR7 _ _).2 ⟨_, _, rfl, (And.intro rfl (And.intro rfl (And.intro rfl (And.intro rfl (And.intro rfl True.intro))))), True.intro⟩) ?_
       intro v st s hr hF1 hD1
       obtain ⟨low1, high1⟩ := v
       obtain ⟨tm8, cb8, rfl, hT8, hC8⟩ := (hR7 _ _).1 hr
       obtain ⟨tm8, rfl⟩ := allEq hT8
       obtain ⟨cb8, rfl⟩ := allEq hC8
       dsimp only [limit_Fair_l0] at hF1
       refine sq <| sq <| rg <| L (iA high1) rfl rfl rfl <| L (iA low1) rfl rfl rfl <| L (iA (w64 (high1 - low1))) rfl rfl rfl <| L (bA (decide ((w64 (high1 - low1)) > 1))) rfl rfl rfl <| nl <| cd (decide ((w64 (high1 - low1)) > 1)) rfl (fun hc12 => ?_) (fun hc12 => ?_)
       · replace hF1 := ite_t hF1 (dec_t hc12)
         refine sk <| bk <| sq <| rg <| L (iA low1) rfl rfl rfl <| L (iA high1) rfl rfl rfl <| L (iA (w64 (low1 + high1))) rfl rfl rfl <| L (iA (w64 (Int.tdiv (w64 (low1 + high1)) 2))) rfl rfl rfl <| L (iA (w64 (Int.tdiv (w64 (low1 + high1)) 2))) rfl rfl rfl <| nl <| sq <| rg <| L (Sl.av 1 c_i64 wants) rfl rfl rfl <| L (Sl.av 1 c_i64 weights) rfl rfl rfl <| L (iA (w64 (Int.tdiv (w64 (low1 + high1)) 2))) rfl rfl rfl ?_
         obtain ⟨⟨t141, sum2⟩, h10, hF1⟩ := bind_some hF1
         refine WO_rd (g := 39) (args := [(Sl.av 1 c_i64 wants), (Sl.av 1 c_i64 weights), (iA (w64 (Int.tdiv (w64 (low1 + high1)) 2)))]) (r := (.tup [(Sl.av 1 c_i64 t141), (iA sum2)])) _ _ rfl rfl rfl rfl rfl rfl rfl (ok_limit_shares _ _ _ h10 _ _ ) <| L (.tup [(Sl.av 1 c_i64 t141), (iA sum2)]) rfl rfl rfl <| L (Sl.av 1 c_i64 t141) rfl rfl rfl <| L (iA sum2) rfl rfl rfl <| L (Sl.av 1 c_i64 t141) rfl rfl rfl <| L (iA sum2) rfl rfl rfl <| nl <| sq <| rg <| L (iA sum2) rfl rfl rfl <| L (iA most) rfl rfl rfl <| L (bA (decide (sum2 ≤ most))) rfl rfl rfl <| nl <| cd (decide (sum2 ≤ most)) rfl (fun hc11 => ?_) (fun hc11 => ?_)
         · replace hF1 := ite_t hF1 (dec_t hc11)
           exact rg <| L (iA (w64 (Int.tdiv (w64 (low1 + high1)) 2))) rfl rfl rfl <| L (iA (w64 (Int.tdiv (w64 (low1 + high1)) 2))) rfl rfl rfl <| nl <| Exists.intro _ (And.intro (Option.some.inj hF1).symm ((hR7  _ _).2 ⟨_, _, rfl, (And.intro rfl (And.intro rfl (And.intro rfl (And.intro rfl (And.intro rfl True.intro))))), True.intro⟩))
         · replace hF1 := ite_f hF1 (dec_f hc11)
           exact rg <| L (iA (w64 (Int.tdiv (w64 (low1 + high1)) 2))) rfl rfl rfl <| L (iA (w64 (Int.tdiv (w64 (low1 + high1)) 2))) rfl rfl rfl <| nl <| Exists.intro _ (And.intro (Option.some.inj hF1).symm ((hR7  _ _).2 ⟨_, _, rfl, (And.intro rfl (And.intro rfl (And.intro rfl (And.intro rfl (And.intro rfl True.intro))))), True.intro⟩))
       · replace hF1 := ite_f hF1 (dec_f hc12)
         exact xt <| (hJ7 _).2 ⟨low1, _, _, rfl, (And.intro rfl (And.intro rfl (And.intro rfl (And.intro rfl True.intro)))), True.intro, hD1 _ (Option.some.inj hF1).symm⟩

theorem ok_gateref1_FairFault (most : Int) (wants : (Sl Int)) (weights : (Sl Int)) {r : (Int)} (hF0 : gateref1_FairFault most wants weights = some r) (out : List AE.Frame) (glob : List AObj) : RdOk Try.prog pol true 16 [(iA most), (Sl.av 1 c_i64 wants), (Sl.av 1 c_i64 weights)] out glob (iA r) := by
 unfold gateref1_FairFault at hF0
 refine rd_walk Try.func16 rfl (Nat.not_lt.2 (Nat.le_of_ble_eq_true rfl)) ?_
 intro ro
 refine sq <| rg <| L (iA 0) rfl rfl rfl <| nl <| sq <| bk <| sq <| rg <| L (iA most) rfl rfl rfl ?_
 obtain ⟨r11, h1, hF0⟩ := bind_some hF0
 refine WO_rd (g := 40) (args := [(iA most), (iA 0), (iA 1000000000)]) (r := (bA r11)) _ _ rfl rfl rfl rfl rfl rfl rfl (ok_gateref1_in _ _ _ h1 _ _ ) <| L (bA (!r11)) rfl rfl rfl <| L (bA (!r11)) rfl rfl rfl <| nl <| cd (!r11) rfl (fun hc22 => ?_) (fun hc22 => ?_)
 · replace hF0 := ite_t hF0 (hc22)
   refine sq <| rg <| L (iA 1) rfl rfl rfl <| nl <| rt ?_
   obtain rfl := Option.some.inj hF0
   exact rd_leaf (.inr rfl) rfl (retV_pl _ _ (iA 1)) rfl rfl
 · replace hF0 := ite_f hF0 (not_t hc22)
   refine sq <| rg <| L (Sl.av 1 c_i64 wants) rfl rfl rfl <| L (iA (wants.list.length : Int)) rfl rfl (op_len rfl rfl rfl rfl rfl (len_sl _)) <| L (bA (decide ((wants.list.length : Int) > 500))) rfl rfl rfl <| L (bA (decide ((wants.list.length : Int) > 500))) rfl rfl rfl <| nl <| cd (decide ((wants.list.length : Int) > 500)) rfl (fun hc21 => ?_) (fun hc21 => ?_)
   · replace hF0 := ite_t hF0 (dec_t hc21)
     refine sq <| rg <| L (iA 2) rfl rfl rfl <| nl <| rt ?_
     obtain rfl := Option.some.inj hF0
     exact rd_leaf (.inr rfl) rfl (retV_pl _ _ (iA 2)) rfl rfl
   · replace hF0 := ite_f hF0 (dec_f hc21)
     refine sq <| rg <| L (Sl.av 1 c_i64 wants) rfl rfl rfl <| L (iA (wants.list.length : Int)) rfl rfl (op_len rfl rfl rfl rfl rfl (len_sl _)) <| L (Sl.av 1 c_i64 weights) rfl rfl rfl <| L (iA (weights.list.length : Int)) rfl rfl (op_len rfl rfl rfl rfl rfl (len_sl _)) <| L (bA ((wants.list.length : Int) != (weights.list.length : Int))) rfl rfl rfl <| L (bA ((wants.list.length : Int) != (weights.list.length : Int))) rfl rfl rfl <| nl <| cd ((wants.list.length : Int) != (weights.list.length : Int)) rfl (fun hc20 => ?_) (fun hc20 => ?_)
     · replace hF0 := ite_t hF0 (bne_t hc20)
       refine sq <| rg <| L (iA 3) rfl rfl rfl <| nl <| rt ?_
       obtain rfl := Option.some.inj hF0
       exact rd_leaf (.inr rfl) rfl (retV_pl _ _ (iA 3)) rfl rfl
     · replace hF0 := ite_f hF0 (bne_f hc20)
       refine sk <| sq <| sq <| rg <| L (Sl.av 1 c_i64 wants) rfl rfl rfl <| L (iA (wants.list.length : Int)) rfl rfl (op_len rfl rfl rfl rfl rfl (len_sl _)) <| L (iA 0) rfl rfl rfl <| nl <| bk ?_
       obtain ⟨b1, hb10, hF0⟩ := bind_some hF0
       obtain ⟨hn10, hb10⟩ := ite_none hb10
       obtain ⟨J10, hJ10⟩ : ∃ J : St → Prop, ∀ st, J st ↔ (∃ (tm12 : Nat → AV) (cb12 : AE.Frame), st = ⟨tm12, ⟨cb12, out, glob⟩⟩ ∧ AllEq tm12 [] ∧ AllEq cb12 [] ∧ Res.out () = b1) := ⟨_, fun _ => Iff.rfl⟩
       obtain ⟨R10, hR10⟩ : ∃ R : Nat → (Unit) → St → Prop, ∀ i v st, R i v st ↔ (match v with | () => ∃ (tm11 : Nat → AV) (cb11 : AE.Frame), st = ⟨tm11, ⟨cb11, out, glob⟩⟩ ∧ AllEq tm11 [(2, (Sl.av 1 c_i64 weights)), (23, (Sl.av 1 c_i64 wants)), (24, (iA (wants.list.length : Int))), (25, (iA ((i : Nat) : Int)))] ∧ AllEq cb11 []) := ⟨_, fun _ _ _ => Iff.rfl⟩
       refine W_loopcut J10 (fun st hst => ?_) ?_
       · obtain ⟨tm12, cb12, rfl, hT12, hC12, rfl⟩ := (hJ10 st).1 hst
         obtain ⟨tm12, rfl⟩ := allEq hT12
         obtain ⟨cb12, rfl⟩ := allEq hC12
         replace hF0 := res_out hF0
         refine sq <| rg <| L (iA 0) rfl rfl rfl <| nl <| rt ?_
         obtain rfl := Option.some.inj hF0
         exact rd_leaf (.inr rfl) rfl (retV_pl _ _ (iA 0)) rfl rfl
       · refine W_rangeL hb10 R10 ((hR10 _ _ _).2 ⟨_, _, rfl, (And.intro rfl (And.intro rfl (And.intro rfl (And.intro rfl True.intro)))), True.intro⟩) ?_ ?_
         · intro i hi10 v st s hr hF1 hD1
           obtain ⟨⟩ := v
           obtain ⟨tm11, cb11, rfl, hT11, hC11⟩ := (hR10 _ _ _).1 hr
           obtain ⟨tm11, rfl⟩ := allEq hT11
           obtain ⟨cb11, rfl⟩ := allEq hC11
           obtain ⟨w, hx10⟩ : ∃ x, x = wants.list[i] := ⟨_, rfl⟩
           rw [← hx10] at hF1
           dsimp only [gateref1_FairFault_l0] at hF1
           refine sq (rg ?_)
           refine WO_do (y := (bA (decide (((i : Nat) : Int) < (wants.list.length : Int))))) _ rfl rfl rfl (nl ?_)
           refine sq <| cd true (congrArg some (range_lt hi10)) (fun _ => ?_) (fun h => absurd h (by decide))
           refine sk <| sq <| bk <| sq <| rg <| L (iA ((i : Nat) : Int)) rfl rfl rfl <| L (.cptr [(iA w)]) rfl rfl (op_ix rfl ((ix_at (c := c_i64) rfl rfl hi10).trans (congrArg (fun x => some (AV.cptr (c_i64 x))) hx10.symm))) <| L (iA w) rfl rfl rfl <| L (iA ((i : Nat) : Int)) rfl rfl rfl <| L (iA w) rfl rfl rfl <| nl <| sq <| rg <| L (iA w) rfl rfl rfl ?_
           obtain ⟨r311, h14, hF1⟩ := bind_some hF1
           refine WO_rd (g := 40) (args := [(iA w), (iA 0), (iA 1000000000)]) (r := (bA r311)) _ _ rfl rfl rfl rfl rfl rfl rfl (ok_gateref1_in _ _ _ h14 _ _ ) <| L (bA (!r311)) rfl rfl rfl ?_
           obtain ⟨y16, hF2, hF1⟩ := bind_some hF1
           obtain ⟨J16, hJ16⟩ : ∃ J : St → Prop, ∀ st, J st ↔ (∃ (t401 : Bool) (tm17 : Nat → AV) (cb17 : AE.Frame), st = ⟨tm17, ⟨cb17, out, glob⟩⟩ ∧ AllEq tm17 [(2, (Sl.av 1 c_i64 weights)), (23, (Sl.av 1 c_i64 wants)), (24, (iA (wants.list.length : Int))), (25, (iA ((i : Nat) : Int))), (40, (bA t401))] ∧ AllEq cb17 [] ∧ t401 = y16) := ⟨_, fun _ => Iff.rfl⟩
           refine WO_cut 8 J16 (fun st hst => ?_) ?_
           · obtain ⟨t401, tm17, cb17, rfl, hT17, hC17, rfl⟩ := (hJ16 st).1 hst
             obtain ⟨tm17, rfl⟩ := allEq hT17
             obtain ⟨cb17, rfl⟩ := allEq hC17
             refine nl <| cd t401 rfl (fun hc18 => ?_) (fun hc18 => ?_)
             · replace hF1 := ite_t hF1 (hc18)
               refine sq <| rg <| L (iA 1) rfl rfl rfl <| nl <| rt ?_
               obtain rfl := hD1 _ (Option.some.inj hF1).symm
               replace hF0 := res_ret hF0
               obtain rfl := Option.some.inj hF0
               exact rd_leaf (.inr rfl) rfl (retV_pl _ _ (iA 1)) rfl rfl
             · replace hF1 := ite_f hF1 (not_t hc18)
               exact sk <| rg <| WO_do (y := (iA ((i + 1 : Nat) : Int))) _ rfl rfl (congrArg (fun n => some (AV.int .i64 n, _)) (range_len hi10 hn10)) <| WO_do (y := (iA ((i + 1 : Nat) : Int))) _ rfl rfl rfl <| nl <| Exists.intro _ (And.intro (Option.some.inj hF1).symm ((hR10 _ _ _).2 ⟨_, _, rfl, (And.intro rfl (And.intro rfl (And.intro rfl (And.intro rfl True.intro)))), True.intro⟩))
           · rcases bool_cases (!r311) with hc16 | hc16
             · replace hF2 := ite_t hF2 (hc16)
               exact L (.bool true) rfl rfl (congrArg (fun b => some (AV.bool b, _)) hc16) <| WO_no _ rfl rfl <| WO_no _ rfl rfl <| WO_no _ rfl rfl <| WO_no _ rfl rfl <| WO_no _ rfl rfl <| WO_no _ rfl rfl <| L (bA true) rfl rfl rfl <| nl ((hJ16 _).2 ⟨true, _, _, rfl, (And.intro rfl (And.intro rfl (And.intro rfl (And.intro rfl (And.intro rfl True.intro))))), True.intro, Option.some.inj hF2⟩)
             · replace hF2 := ite_f hF2 (not_t hc16)
               refine L (.bool false) rfl rfl (congrArg (fun b => some (AV.bool b, _)) hc16) <| L (Sl.av 1 c_i64 weights) rfl rfl rfl <| L (iA ((i : Nat) : Int)) rfl rfl rfl ?_
               obtain ⟨x4, h_x4, hF2⟩ := bind_some hF2
               refine L (.cptr [(iA x4)]) rfl rfl (op_ix rfl (ix_sl (c := c_i64) rfl rfl h_x4)) <| L (iA x4) rfl rfl rfl ?_
               obtain ⟨r383, h19, hF2⟩ := bind_some hF2
               exact WO_rd (g := 40) (args := [(iA x4), (iA 1), (iA 1000)]) (r := (bA r383)) _ _ rfl rfl rfl rfl rfl rfl rfl (ok_gateref1_in _ _ _ h19 _ _ ) <| L (bA (!r383)) rfl rfl rfl <| L (bA (!r383)) rfl rfl rfl <| nl ((hJ16 _).2 ⟨!r383, _, _, rfl, (And.intro rfl (And.intro rfl (And.intro rfl (And.intro rfl (And.intro rfl True.intro))))), True.intro, Option.some.inj hF2⟩)
         · intro v st hr hD1
           obtain ⟨⟩ := v
           obtain ⟨tm11, cb11, rfl, hT11, hC11⟩ := (hR10 _ _ _).1 hr
           obtain ⟨tm11, rfl⟩ := allEq hT11
           obtain ⟨cb11, rfl⟩ := allEq hC11
           refine sq (rg ?_)
           refine WO_do (y := .bool false) _ rfl rfl (congrArg (fun b => some (AV.bool b, _)) (range_ge _)) (nl ?_)
           refine sq <| cd false rfl (fun h => absurd h (by decide)) (fun _ => ?_)
           exact xt <| (hJ10 _).2 ⟨_, _, rfl, True.intro, True.intro, hD1⟩

theorem ok_gateref1_FairOf_1 (t : Int) (cap1 : (Sl Int)) (cap2 : (Sl Int)) {r : ((Sl Int) × Int)} (hF0 : gateref1_FairOf_1 t cap1 cap2 = some r) (out : List AE.Frame) (glob : List AObj) (d1 : AE.Loc) (w1 : Nat) (hh1 : d1.here = false) (hk_1 : con2 out glob d1 w1 = .cells [(Sl.av 1 c_i64 cap1)]) (d2 : AE.Loc) (w2 : Nat) (hh2 : d2.here = false) (hk_2 : con2 out glob d2 w2 = .cells [(Sl.av 1 c_i64 cap2)]) : RdOk Try.prog pol true 43 [(iA t), (.ptr d1 w1 0), (.ptr d2 w2 0)] out glob (.tup [(Sl.av 1 c_i64 r.1), (iA r.2)]) := by
 unfold gateref1_FairOf_1 at hF0
 refine rd_walk Try.func43 rfl (Nat.not_lt.2 (Nat.le_of_ble_eq_true rfl)) ?_
 intro ro
 refine sq <| rg <| L (Sl.av 1 c_i64 Sl.nil) rfl rfl rfl <| L (iA 0) rfl rfl rfl <| nl <| sq <| rg <| L (.rsl (.fr 0 6) 1 0 0) (h' := ⟨upd _ 6 ⟨1, .arr true 0 []⟩, _, _⟩) rfl rfl (op_muNil rfl rfl rfl rfl) <| nl <| sq <| rg <| L (iA 0) rfl rfl rfl <| nl <| sq <| sq <| rg <| L (Sl.av 1 c_i64 cap1) rfl rfl (op_load rfl (ld_con (Sl.av 1 c_i64 cap1) rfl rfl (cs := [(Sl.av 1 c_i64 cap1)]) ((con_con2 _ _ _ _ _ hh1).trans hk_1) rfl)) <| L (iA (cap1.list.length : Int)) rfl rfl (op_len rfl rfl rfl rfl rfl (len_sl _)) <| L (iA 0) rfl rfl rfl <| nl <| bk ?_
 obtain ⟨b1, hb5, hF0⟩ := bind_some hF0
 obtain ⟨hn5, hb5⟩ := ite_none hb5
 obtain ⟨J5, hJ5⟩ : ∃ J : St → Prop, ∀ st, J st ↔ (∃ (out_4 : (Ar Int)) (sum3 : Int) (v62 : Nat) (tm7 : Nat → AV) (cb7 : AE.Frame), st = ⟨tm7, ⟨cb7, out, glob⟩⟩ ∧ AllEq tm7 [(6, (.rsl (.fr 0 6) v62 0 out_4.list.length)), (7, (iA sum3))] ∧ AllEq cb7 [(6, ⟨v62, Ar.con 1 c_i64 out_4⟩)] ∧ (out_4, sum3) = b1) := ⟨_, fun _ => Iff.rfl⟩
 obtain ⟨R5, hR5⟩ : ∃ R : Nat → ((Ar Int) × Int) → St → Prop, ∀ i v st, R i v st ↔ (match v with | (out_3, sum2) => ∃ (v61 : Nat) (tm6 : Nat → AV) (cb6 : AE.Frame), st = ⟨tm6, ⟨cb6, out, glob⟩⟩ ∧ AllEq tm6 [(0, (iA t)), (2, (.ptr d2 w2 0)), (6, (.rsl (.fr 0 6) v61 0 out_3.list.length)), (7, (iA sum2)), (10, (Sl.av 1 c_i64 cap1)), (11, (iA (cap1.list.length : Int))), (12, (iA ((i : Nat) : Int)))] ∧ AllEq cb6 [(6, ⟨v61, Ar.con 1 c_i64 out_3⟩)]) := ⟨_, fun _ _ _ => Iff.rfl⟩
 refine W_loopcut J5 (fun st hst => ?_) ?_
 · obtain ⟨out_4, sum3, v62, tm7, cb7, rfl, hT7, hC7, rfl⟩ := (hJ5 st).1 hst
   obtain ⟨tm7, rfl⟩ := allEq hT7
   obtain ⟨cb7, rfl⟩ := allEq hC7
   refine sq <| rg <| L (.rsl (.fr 0 6) v62 0 out_4.list.length) rfl rfl rfl <| L (iA sum3) rfl rfl rfl <| L (.rsl (.fr 0 6) v62 0 out_4.list.length) rfl rfl rfl <| L (iA sum3) rfl rfl rfl <| nl <| rt ?_
   obtain rfl := Option.some.inj hF0
   exact rd_leaf (.inr rfl) rfl (ret_tup2 (ret_arr rfl) (retV_pl _ _ (iA sum3))) rfl rfl
 · refine W_rangeL hb5 R5 ((hR5 _ _ _).2 ⟨1, _, _, rfl, (And.intro rfl (And.intro rfl (And.intro rfl (And.intro rfl (And.intro rfl (And.intro rfl (And.intro rfl True.intro))))))), (And.intro rfl True.intro)⟩) ?_ ?_
   · intro i hi5 v st s hr hF1 hD1
     obtain ⟨out_3, sum2⟩ := v
     obtain ⟨v61, tm6, cb6, rfl, hT6, hC6⟩ := (hR5 _ _ _).1 hr
     obtain ⟨tm6, rfl⟩ := allEq hT6
     obtain ⟨cb6, rfl⟩ := allEq hC6
     obtain ⟨w, hx5⟩ : ∃ x, x = cap1.list[i] := ⟨_, rfl⟩
     rw [← hx5] at hF1
     dsimp only [gateref1_FairOf_1_l0] at hF1
     refine sq (rg ?_)
     refine WO_do (y := (bA (decide (((i : Nat) : Int) < (cap1.list.length : Int))))) _ rfl rfl rfl (nl ?_)
     refine sq <| cd true (congrArg some (range_lt hi5)) (fun _ => ?_) (fun h => absurd h (by decide))
     refine sk <| sq <| bk <| sq <| rg <| L (iA ((i : Nat) : Int)) rfl rfl rfl <| L (.cptr [(iA w)]) rfl rfl (op_ix rfl ((ix_at (c := c_i64) rfl rfl hi5).trans (congrArg (fun x => some (AV.cptr (c_i64 x))) hx5.symm))) <| L (iA w) rfl rfl rfl <| L (iA ((i : Nat) : Int)) rfl rfl rfl <| L (iA w) rfl rfl rfl <| nl <| sq <| rg <| L (.rsl (.fr 0 6) v61 0 out_3.list.length) rfl rfl rfl <| L (iA w) rfl rfl rfl <| L (Sl.av 1 c_i64 cap2) rfl rfl (op_load rfl (ld_con (Sl.av 1 c_i64 cap2) rfl rfl (cs := [(Sl.av 1 c_i64 cap2)]) ((con_con2 _ _ _ _ _ hh2).trans hk_2) rfl)) <| L (iA ((i : Nat) : Int)) rfl rfl rfl ?_
     obtain ⟨x6, h_x6, hF1⟩ := bind_some hF1
     refine L (.cptr [(iA x6)]) rfl rfl (op_ix rfl (ix_sl (c := c_i64) rfl rfl h_x6)) <| L (iA x6) rfl rfl rfl <| L (iA t) rfl rfl rfl <| L (iA (w64 (x6 * t))) rfl rfl rfl <| L (iA (imin w (w64 (x6 * t)))) rfl rfl rfl <| L (Sl.av 1 c_i64 (Sl.full [imin w (w64 (x6 * t))])) rfl rfl (op_sliceN rfl rfl rfl) ?_
     obtain ⟨out_5, h_out_5, hF1⟩ := bind_some hF1
     refine L (.rsl (.fr 0 6) (v61 + 1) 0 out_5.list.length) (h' := ⟨upd _ 6 ⟨v61 + 1, Ar.con 1 c_i64 out_5⟩, _, _⟩) rfl rfl (op_append rfl rfl rfl rfl rfl (arr_app (a := out_3) (a' := out_5) (n := 1) (c := c_i64) (z := [(iA 0)]) rfl rfl rfl rfl rfl (by decide) (fun _ => rfl) rfl rfl rfl rfl h_out_5)) <| L (.rsl (.fr 0 6) (v61 + 1) 0 out_5.list.length) rfl rfl rfl <| nl <| rg <| L (iA sum2) rfl rfl rfl <| L (.rsl (.fr 0 6) (v61 + 1) 0 out_5.list.length) rfl rfl rfl <| L (iA ((i : Nat) : Int)) rfl rfl rfl ?_
     obtain ⟨x7, h_x7, hF1⟩ := bind_some hF1
     exact L (.eptr (.fr 0 6) (v61 + 1) (((i : Nat) : Int) : Int).toNat 0) rfl rfl (op_ix rfl (ix_arr (a := out_5) (n := 1) (c := c_i64) rfl rfl rfl h_x7)) <| L (iA x7) rfl rfl (op_load rfl (ld_arr (a := out_5) (n := 1) (c := c_i64) (iA x7) rfl rfl rfl h_x7 rfl)) <| L (iA (w64 (sum2 + x7))) rfl rfl rfl <| L (iA (w64 (sum2 + x7))) rfl rfl rfl <| nl <| rg <| WO_do (y := (iA ((i + 1 : Nat) : Int))) _ rfl rfl (congrArg (fun n => some (AV.int .i64 n, _)) (range_len hi5 hn5)) <| WO_do (y := (iA ((i + 1 : Nat) : Int))) _ rfl rfl rfl <| nl <| Exists.intro _ (And.intro (Option.some.inj hF1).symm ((hR5 _ _ _).2 ⟨v61 + 1, _, _, rfl, (And.intro rfl (And.intro rfl (And.intro rfl (And.intro rfl (And.intro rfl (And.intro rfl (And.intro rfl True.intro))))))), (And.intro rfl True.intro)⟩))
   · intro v st hr hD1
     obtain ⟨out_3, sum2⟩ := v
     obtain ⟨v61, tm6, cb6, rfl, hT6, hC6⟩ := (hR5 _ _ _).1 hr
     obtain ⟨tm6, rfl⟩ := allEq hT6
     obtain ⟨cb6, rfl⟩ := allEq hC6
     refine sq (rg ?_)
     refine WO_do (y := .bool false) _ rfl rfl (congrArg (fun b => some (AV.bool b, _)) (range_ge _)) (nl ?_)
     refine sq <| cd false rfl (fun h => absurd h (by decide)) (fun _ => ?_)
     exact xt <| (hJ5 _).2 ⟨out_3, sum2, v61, _, _, rfl, (And.intro rfl (And.intro rfl True.intro)), (And.intro rfl True.intro), hD1⟩

theorem okm_gateref1_FairOf_1 (t : Int) (cap1 : (Sl Int)) (cap2 : (Sl Int)) {r : ((Sl Int) × Int)} (hF0 : gateref1_FairOf_1 t cap1 cap2 = some r) {a : Ar Int} (ha : r.1.ar? = some a) (out : List AE.Frame) (glob : List AObj) (d1 : AE.Loc) (w1 : Nat) (hh1 : d1.here = false) (hk_1 : con2 out glob d1 w1 = .cells [(Sl.av 1 c_i64 cap1)]) (d2 : AE.Loc) (w2 : Nat) (hh2 : d2.here = false) (hk_2 : con2 out glob d2 w2 = .cells [(Sl.av 1 c_i64 cap2)]) : RdM Try.prog pol true 43 [(iA t), (.ptr d1 w1 0), (.ptr d2 w2 0)] out glob 1 c_i64 a [(iA r.2)] := by
 unfold gateref1_FairOf_1 at hF0
 refine rdm_walk Try.func43 rfl (Nat.not_lt.2 (Nat.le_of_ble_eq_true rfl)) ?_
 intro ro
 refine sq <| rg <| L (Sl.av 1 c_i64 Sl.nil) rfl rfl rfl <| L (iA 0) rfl rfl rfl <| nl <| sq <| rg <| L (.rsl (.fr 0 6) 1 0 0) (h' := ⟨upd _ 6 ⟨1, .arr true 0 []⟩, _, _⟩) rfl rfl (op_muNil rfl rfl rfl rfl) <| nl <| sq <| rg <| L (iA 0) rfl rfl rfl <| nl <| sq <| sq <| rg <| L (Sl.av 1 c_i64 cap1) rfl rfl (op_load rfl (ld_con (Sl.av 1 c_i64 cap1) rfl rfl (cs := [(Sl.av 1 c_i64 cap1)]) ((con_con2 _ _ _ _ _ hh1).trans hk_1) rfl)) <| L (iA (cap1.list.length : Int)) rfl rfl (op_len rfl rfl rfl rfl rfl (len_sl _)) <| L (iA 0) rfl rfl rfl <| nl <| bk ?_
 obtain ⟨b1, hb5, hF0⟩ := bind_some hF0
 obtain ⟨hn5, hb5⟩ := ite_none hb5
 obtain ⟨J5, hJ5⟩ : ∃ J : St → Prop, ∀ st, J st ↔ (∃ (out_4 : (Ar Int)) (sum3 : Int) (v62 : Nat) (tm7 : Nat → AV) (cb7 : AE.Frame), st = ⟨tm7, ⟨cb7, out, glob⟩⟩ ∧ AllEq tm7 [(6, (.rsl (.fr 0 6) v62 0 out_4.list.length)), (7, (iA sum3))] ∧ AllEq cb7 [(6, ⟨v62, Ar.con 1 c_i64 out_4⟩)] ∧ (out_4, sum3) = b1) := ⟨_, fun _ => Iff.rfl⟩
 obtain ⟨R5, hR5⟩ : ∃ R : Nat → ((Ar Int) × Int) → St → Prop, ∀ i v st, R i v st ↔ (match v with | (out_3, sum2) => ∃ (v61 : Nat) (tm6 : Nat → AV) (cb6 : AE.Frame), st = ⟨tm6, ⟨cb6, out, glob⟩⟩ ∧ AllEq tm6 [(0, (iA t)), (2, (.ptr d2 w2 0)), (6, (.rsl (.fr 0 6) v61 0 out_3.list.length)), (7, (iA sum2)), (10, (Sl.av 1 c_i64 cap1)), (11, (iA (cap1.list.length : Int))), (12, (iA ((i : Nat) : Int)))] ∧ AllEq cb6 [(6, ⟨v61, Ar.con 1 c_i64 out_3⟩)]) := ⟨_, fun _ _ _ => Iff.rfl⟩
 refine W_loopcut J5 (fun st hst => ?_) ?_
 · obtain ⟨out_4, sum3, v62, tm7, cb7, rfl, hT7, hC7, rfl⟩ := (hJ5 st).1 hst
   obtain ⟨tm7, rfl⟩ := allEq hT7
   obtain ⟨cb7, rfl⟩ := allEq hC7
   refine sq <| rg <| L (.rsl (.fr 0 6) v62 0 out_4.list.length) rfl rfl rfl <| L (iA sum3) rfl rfl rfl <| L (.rsl (.fr 0 6) v62 0 out_4.list.length) rfl rfl rfl <| L (iA sum3) rfl rfl rfl <| nl <| rt ?_
   obtain rfl := Option.some.inj hF0
   obtain rfl := Option.some.inj ((Ar.ar_sl out_4).symm.trans ha)
   exact rdm_leaf (.inr rfl) rfl rfl rfl rfl
 · refine W_rangeL hb5 R5 ((hR5 _ _ _).2 ⟨1, _, _, rfl, (And.intro rfl (And.intro rfl (And.intro rfl (And.intro rfl (And.intro rfl (And.intro rfl (And.intro rfl True.intro))))))), (And.intro rfl True.intro)⟩) ?_ ?_
   · intro i hi5 v st s hr hF1 hD1
     obtain ⟨out_3, sum2⟩ := v
     obtain ⟨v61, tm6, cb6, rfl, hT6, hC6⟩ := (hR5 _ _ _).1 hr
     obtain ⟨tm6, rfl⟩ := allEq hT6
     obtain ⟨cb6, rfl⟩ := allEq hC6
     obtain ⟨w, hx5⟩ : ∃ x, x = cap1.list[i] := ⟨_, rfl⟩
     rw [← hx5] at hF1
     dsimp only [gateref1_FairOf_1_l0] at hF1
     refine sq (rg ?_)
     refine WO_do (y := (bA (decide (((i : Nat) : Int) < (cap1.list.length : Int))))) _ rfl rfl rfl (nl ?_)
     refine sq <| cd true (congrArg some (range_lt hi5)) (fun _ => ?_) (fun h => absurd h (by decide))
     refine sk <| sq <| bk <| sq <| rg <| L (iA ((i : Nat) : Int)) rfl rfl rfl <| L (.cptr [(iA w)]) rfl rfl (op_ix rfl ((ix_at (c := c_i64) rfl rfl hi5).trans (congrArg (fun x => some (AV.cptr (c_i64 x))) hx5.symm))) <| L (iA w) rfl rfl rfl <| L (iA ((i : Nat) : Int)) rfl rfl rfl <| L (iA w) rfl rfl rfl <| nl <| sq <| rg <| L (.rsl (.fr 0 6) v61 0 out_3.list.length) rfl rfl rfl <| L (iA w) rfl rfl rfl <| L (Sl.av 1 c_i64 cap2) rfl rfl (op_load rfl (ld_con (Sl.av 1 c_i64 cap2) rfl rfl (cs := [(Sl.av 1 c_i64 cap2)]) ((con_con2 _ _ _ _ _ hh2).trans hk_2) rfl)) <| L (iA ((i : Nat) : Int)) rfl rfl rfl ?_
     obtain ⟨x6, h_x6, hF1⟩ := bind_some hF1
     refine L (.cptr [(iA x6)]) rfl rfl (op_ix rfl (ix_sl (c := c_i64) rfl rfl h_x6)) <| L (iA x6) rfl rfl rfl <| L (iA t) rfl rfl rfl <| L (iA (w64 (x6 * t))) rfl rfl rfl <| L (iA (imin w (w64 (x6 * t)))) rfl rfl rfl <| L (Sl.av 1 c_i64 (Sl.full [imin w (w64 (x6 * t))])) rfl rfl (op_sliceN rfl rfl rfl) ?_
     obtain ⟨out_5, h_out_5, hF1⟩ := bind_some hF1
     refine L (.rsl (.fr 0 6) (v61 + 1) 0 out_5.list.length) (h' := ⟨upd _ 6 ⟨v61 + 1, Ar.con 1 c_i64 out_5⟩, _, _⟩) rfl rfl (op_append rfl rfl rfl rfl rfl (arr_app (a := out_3) (a' := out_5) (n := 1) (c := c_i64) (z := [(iA 0)]) rfl rfl rfl rfl rfl (by decide) (fun _ => rfl) rfl rfl rfl rfl h_out_5)) <| L (.rsl (.fr 0 6) (v61 + 1) 0 out_5.list.length) rfl rfl rfl <| nl <| rg <| L (iA sum2) rfl rfl rfl <| L (.rsl (.fr 0 6) (v61 + 1) 0 out_5.list.length) rfl rfl rfl <| L (iA ((i : Nat) : Int)) rfl rfl rfl ?_
     obtain ⟨x7, h_x7, hF1⟩ := bind_some hF1
     exact L (.eptr (.fr 0 6) (v61 + 1) (((i : Nat) : Int) : Int).toNat 0) rfl rfl (op_ix rfl (ix_arr (a := out_5) (n := 1) (c := c_i64) rfl rfl rfl h_x7)) <| L (iA x7) rfl rfl (op_load rfl (ld_arr (a := out_5) (n := 1) (c := c_i64) (iA x7) rfl rfl rfl h_x7 rfl)) <| L (iA (w64 (sum2 + x7))) rfl rfl rfl <| L (iA (w64 (sum2 + x7))) rfl rfl rfl <| nl <| rg <| WO_do (y := (iA ((i + 1 : Nat) : Int))) _ rfl rfl (congrArg (fun n => some (AV.int .i64 n, _)) (range_len hi5 hn5)) <| WO_do (y := (iA ((i + 1 : Nat) : Int))) _ rfl rfl rfl <| nl <| Exists.intro _ (And.intro (Option.some.inj hF1).symm ((hR5 _ _ _).2 ⟨v61 + 1, _, _, rfl, (And.intro rfl (And.intro rfl (And.intro rfl (And.intro rfl (And.intro rfl (And.intro rfl (And.intro rfl True.intro))))))), (And.intro rfl True.intro)⟩))
   · intro v st hr hD1
     obtain ⟨out_3, sum2⟩ := v
     obtain ⟨v61, tm6, cb6, rfl, hT6, hC6⟩ := (hR5 _ _ _).1 hr
     obtain ⟨tm6, rfl⟩ := allEq hT6
     obtain ⟨cb6, rfl⟩ := allEq hC6
     refine sq (rg ?_)
     refine WO_do (y := .bool false) _ rfl rfl (congrArg (fun b => some (AV.bool b, _)) (range_ge _)) (nl ?_)
     refine sq <| cd false rfl (fun h => absurd h (by decide)) (fun _ => ?_)
     exact xt <| (hJ5 _).2 ⟨out_3, sum2, v61, _, _, rfl, (And.intro rfl (And.intro rfl True.intro)), (And.intro rfl True.intro), hD1⟩

theorem ok_gateref1_FairOf (most : Int) (wants : (Sl Int)) (weights : (Sl Int)) {r : ((Sl Int))} (hF0 : gateref1_FairOf most wants weights = some r) (out : List AE.Frame) (glob : List AObj) : RdOk Try.prog pol true 19 [(iA most), (Sl.av 1 c_i64 wants), (Sl.av 1 c_i64 weights)] out glob (Sl.av 1 c_i64 r) := by
 unfold gateref1_FairOf at hF0
 refine rd_walk Try.func19 rfl (Nat.not_lt.2 (Nat.le_of_ble_eq_true rfl)) ?_
 intro ro
 refine sq <| rg <| L (.ptr (.fr 0 4) 1 0) (h' := ⟨upd _ 4 ⟨1, .cells [(Sl.av 1 c_i64 wants)]⟩, _, _⟩) rfl rfl (op_box (x' := (Sl.av 1 c_i64 wants)) rfl rfl rfl rfl) <| L (.ptr (.fr 0 5) 1 0) (h' := ⟨upd _ 5 ⟨1, .cells [(Sl.av 1 c_i64 weights)]⟩, _, _⟩) rfl rfl (op_box (x' := (Sl.av 1 c_i64 weights)) rfl rfl rfl rfl) <| L (Sl.av 1 c_i64 Sl.nil) rfl rfl rfl <| nl <| sq <| rg <| L (.fn (.func 43) [] [(.ptr (.fr 0 4) 1 0), (.ptr (.fr 0 5) 1 0)]) rfl rfl rfl <| L (.fn (.func 43) [] [(.ptr (.fr 0 4) 1 0), (.ptr (.fr 0 5) 1 0)]) rfl rfl rfl <| nl <| sq <| sq <| rg <| L (.fn (.func 43) [] [(.ptr (.fr 0 4) 1 0), (.ptr (.fr 0 5) 1 0)]) rfl rfl rfl ?_
 obtain ⟨⟨all, sum⟩, h1, hF0⟩ := bind_some hF0
 refine WO_rd (g := 43) (args := [(iA 1000000000), (.ptr (.fr 0 4) 1 0), (.ptr (.fr 0 5) 1 0)]) (r := (.tup [(Sl.av 1 c_i64 all), (iA sum)])) _ _ rfl rfl rfl rfl rfl rfl rfl (ok_gateref1_FairOf_1 _ _ _ h1 _ _ _ _ (inn_here _) ((con2_inn _ _ _ _ _).trans (con_fr rfl)) _ _ (inn_here _) ((con2_inn _ _ _ _ _).trans (con_fr rfl))) <| L (.tup [(Sl.av 1 c_i64 all), (iA sum)]) rfl rfl rfl <| L (Sl.av 1 c_i64 all) rfl rfl rfl <| L (iA sum) rfl rfl rfl <| L (Sl.av 1 c_i64 all) rfl rfl rfl <| L (iA sum) rfl rfl rfl <| nl <| sq <| rg <| L (iA sum) rfl rfl rfl <| L (iA most) rfl rfl rfl <| L (bA (decide (sum ≤ most))) rfl rfl rfl <| nl <| cd (decide (sum ≤ most)) rfl (fun hc21 => ?_) (fun hc21 => ?_)
 · replace hF0 := ite_t hF0 (dec_t hc21)
   refine sq <| rg <| L (Sl.av 1 c_i64 all) rfl rfl rfl <| L (Sl.av 1 c_i64 all) rfl rfl rfl <| nl <| rt ?_
   obtain rfl := Option.some.inj hF0
   exact rd_leaf (.inr rfl) rfl (retV_pl _ _ (Sl.av 1 c_i64 all)) rfl rfl
 · replace hF0 := ite_f hF0 (dec_f hc21)
   refine sk <| sq <| rg <| L (iA 0) rfl rfl rfl <| L (iA 1000000000) rfl rfl rfl <| nl <| sq <| bk ?_
   obtain ⟨b1, hb6, hF0⟩ := bind_some hF0
   obtain ⟨J6, hJ6⟩ : ∃ J : St → Prop, ∀ st, J st ↔ (∃ (low2 : Int) (tm8 : Nat → AV) (cb8 : AE.Frame), st = ⟨tm8, ⟨cb8, out, glob⟩⟩ ∧ AllEq tm8 [(0, (iA most)), (4, (.ptr (.fr 0 4) 1 0)), (5, (.ptr (.fr 0 5) 1 0)), (7, (.fn (.func 43) [] [(.ptr (.fr 0 4) 1 0), (.ptr (.fr 0 5) 1 0)])), (10, (iA low2))] ∧ AllEq cb8 [(4, ⟨1, .cells [(Sl.av 1 c_i64 wants)]⟩), (5, ⟨1, .cells [(Sl.av 1 c_i64 weights)]⟩)] ∧ low2 = b1) := ⟨_, fun _ => Iff.rfl⟩
   obtain ⟨R6, hR6⟩ : ∃ R : (Int × Int) → St → Prop, ∀ v st, R v st ↔ (match v with | (low1, high1) => ∃ (tm7 : Nat → AV) (cb7 : AE.Frame), st = ⟨tm7, ⟨cb7, out, glob⟩⟩ ∧ AllEq tm7 [(0, (iA most)), (4, (.ptr (.fr 0 4) 1 0)), (5, (.ptr (.fr 0 5) 1 0)), (7, (.fn (.func 43) [] [(.ptr (.fr 0 4) 1 0), (.ptr (.fr 0 5) 1 0)])), (10, (iA low1)), (11, (iA high1))] ∧ AllEq cb7 [(4, ⟨1, .cells [(Sl.av 1 c_i64 wants)]⟩), (5, ⟨1, .cells [(Sl.av 1 c_i64 weights)]⟩)]) := ⟨_, fun _ _ => Iff.rfl⟩
   refine W_loopcut J6 (fun st hst => ?_) ?_
   · obtain ⟨low2, tm8, cb8, rfl, hT8, hC8, rfl⟩ := (hJ6 st).1 hst
     obtain ⟨tm8, rfl⟩ := allEq hT8
     obtain ⟨cb8, rfl⟩ := allEq hC8
     refine sq <| rg <| L (.fn (.func 43) [] [(.ptr (.fr 0 4) 1 0), (.ptr (.fr 0 5) 1 0)]) rfl rfl rfl <| L (iA low2) rfl rfl rfl ?_
     obtain ⟨⟨out_1, sum3⟩, h12, hF0⟩ := bind_some hF0
     obtain ⟨out_2, h_out_2, hF0⟩ := bind_some hF0
     refine WO_muR (g := 43) (args := [(iA low2), (.ptr (.fr 0 4) 1 0), (.ptr (.fr 0 5) 1 0)]) (y := (.tup [(.rsl (.fr 0 1052) ((cb8 1052).ver + 1) 0 out_2.list.length), (iA sum3)])) (h' := ⟨upd _ 1052 ⟨(cb8 1052).ver + 1, Ar.con 1 c_i64 out_2⟩, _, _⟩) _ _ rfl rfl rfl rfl rfl rfl rfl rfl (okm_gateref1_FairOf_1 _ _ _ h12 h_out_2 _ _ _ _ (inn_here _) ((con2_inn _ _ _ _ _).trans (con_fr rfl)) _ _ (inn_here _) ((con2_inn _ _ _ _ _).trans (con_fr rfl))) rfl rfl <| L (.tup [(.rsl (.fr 0 1052) ((cb8 1052).ver + 1) 0 out_2.list.length), (iA sum3)]) rfl rfl rfl <| L (.rsl (.fr 0 1052) ((cb8 1052).ver + 1) 0 out_2.list.length) rfl rfl rfl <| L (iA sum3) rfl rfl rfl <| L (.rsl (.fr 0 1052) ((cb8 1052).ver + 1) 0 out_2.list.length) rfl rfl rfl <| L (iA sum3) rfl rfl rfl <| nl <| sq <| sq <| rg <| L (Sl.av 1 c_i64 wants) rfl rfl (op_load rfl (ld_con (Sl.av 1 c_i64 wants) rfl rfl (cs := [(Sl.av 1 c_i64 wants)]) (con_fr rfl) rfl)) <| L (iA (wants.list.length : Int)) rfl rfl (op_len rfl rfl rfl rfl rfl (len_sl _)) <| L (iA 0) rfl rfl rfl <| nl <| bk ?_
     obtain ⟨b1, hb17, hF0⟩ := bind_some hF0
     obtain ⟨hn17, hb17⟩ := ite_none hb17
     obtain ⟨J17, hJ17⟩ : ∃ J : St → Prop, ∀ st, J st ↔ (∃ (out_7 : (Ar Int)) (v10522 : Nat) (tm19 : Nat → AV) (cb19 : AE.Frame), st = ⟨tm19, ⟨cb19, out, glob⟩⟩ ∧ AllEq tm19 [(15, (.rsl (.fr 0 1052) v10522 0 out_7.list.length))] ∧ AllEq cb19 [(1052, ⟨v10522, Ar.con 1 c_i64 out_7⟩)] ∧ out_7 = b1) := ⟨_, fun _ => Iff.rfl⟩
     obtain ⟨R17, hR17⟩ : ∃ R : Nat → ((Ar Int) × Int) → St → Prop, ∀ i v st, R i v st ↔ (match v with | (out_6, sum6) => ∃ (v10521 : Nat) (tm18 : Nat → AV) (cb18 : AE.Frame), st = ⟨tm18, ⟨cb18, out, glob⟩⟩ ∧ AllEq tm18 [(0, (iA most)), (5, (.ptr (.fr 0 5) 1 0)), (15, (.rsl (.fr 0 1052) v10521 0 out_6.list.length)), (16, (iA sum6)), (55, (Sl.av 1 c_i64 wants)), (56, (iA (wants.list.length : Int))), (57, (iA ((i : Nat) : Int)))] ∧ AllEq cb18 [(5, ⟨1, .cells [(Sl.av 1 c_i64 weights)]⟩), (1052, ⟨v10521, Ar.con 1 c_i64 out_6⟩)]) := ⟨_, fun _ _ _ => Iff.rfl⟩
     refine W_loopcut J17 (fun st hst => ?_) ?_
     · obtain ⟨out_7, v10522, tm19, cb19, rfl, hT19, hC19, rfl⟩ := (hJ17 st).1 hst
       obtain ⟨tm19, rfl⟩ := allEq hT19
       obtain ⟨cb19, rfl⟩ := allEq hC19
       refine sq <| rg <| L (.rsl (.fr 0 1052) v10522 0 out_7.list.length) rfl rfl rfl <| L (.rsl (.fr 0 1052) v10522 0 out_7.list.length) rfl rfl rfl <| nl <| rt ?_
       obtain rfl := Option.some.inj hF0
       exact rd_leaf (.inr rfl) rfl (ret_arr rfl) rfl rfl
     · refine W_rangeL hb17 R17 ((hR17 _ _ _).2 ⟨(cb8 1052).ver + 1, _, _, rfl, (And.intro rfl (And.intro rfl (And.intro rfl (And.intro rfl (And.intro rfl (And.intro rfl (And.intro rfl True.intro))))))), (And.intro rfl (And.intro rfl True.intro))⟩) ?_ ?_
       · intro i hi17 v st s hr hF1 hD1
         obtain ⟨out_6, sum6⟩ := v
         obtain ⟨v10521, tm18, cb18, rfl, hT18, hC18⟩ := (hR17 _ _ _).1 hr
         obtain ⟨tm18, rfl⟩ := allEq hT18
         obtain ⟨cb18, rfl⟩ := allEq hC18
         obtain ⟨w, hx17⟩ : ∃ x, x = wants.list[i] := ⟨_, rfl⟩
         rw [← hx17] at hF1
         dsimp only [gateref1_FairOf_l1] at hF1
         refine sq (rg ?_)
         refine WO_do (y := (bA (decide (((i : Nat) : Int) < (wants.list.length : Int))))) _ rfl rfl rfl (nl ?_)
         refine sq <| cd true (congrArg some (range_lt hi17)) (fun _ => ?_) (fun h => absurd h (by decide))
         refine sk <| sq <| bk <| sq <| rg <| L (iA ((i : Nat) : Int)) rfl rfl rfl <| L (.cptr [(iA w)]) rfl rfl (op_ix rfl ((ix_at (c := c_i64) rfl rfl hi17).trans (congrArg (fun x => some (AV.cptr (c_i64 x))) hx17.symm))) <| L (iA w) rfl rfl rfl <| L (iA ((i : Nat) : Int)) rfl rfl rfl <| L (iA w) rfl rfl rfl <| nl <| sq <| dw (by kernel_rfl) <| L (iA w) rfl rfl rfl <| L (.rsl (.fr 0 1052) v10521 0 out_6.list.length) rfl rfl rfl <| L (iA ((i : Nat) : Int)) rfl rfl rfl ?_
         obtain ⟨x10, h_x10, hF1⟩ := bind_some hF1
         refine L (.eptr (.fr 0 1052) v10521 (((i : Nat) : Int) : Int).toNat 0) rfl rfl (op_ix rfl (ix_arr (a := out_6) (n := 1) (c := c_i64) rfl rfl rfl h_x10)) <| L (iA x10) rfl rfl (op_load rfl (ld_arr (a := out_6) (n := 1) (c := c_i64) (iA x10) rfl rfl rfl h_x10 rfl)) <| L (iA (w64 (w - x10))) rfl rfl rfl <| L (Sl.av 1 c_i64 weights) rfl rfl (op_load rfl (ld_con (Sl.av 1 c_i64 weights) rfl rfl (cs := [(Sl.av 1 c_i64 weights)]) (con_fr rfl) rfl)) <| L (iA ((i : Nat) : Int)) rfl rfl rfl ?_
         obtain ⟨x11, h_x11, hF1⟩ := bind_some hF1
         refine L (.cptr [(iA x11)]) rfl rfl (op_ix rfl (ix_sl (c := c_i64) rfl rfl h_x11)) <| L (iA x11) rfl rfl rfl <| L (iA most) rfl rfl rfl <| L (iA sum6) rfl rfl rfl <| L (iA (w64 (most - sum6))) rfl rfl rfl <| L (iA (imin (imin (w64 (w - x10)) x11) (w64 (most - sum6)))) rfl rfl rfl <| L (iA (imin (imin (w64 (w - x10)) x11) (w64 (most - sum6)))) rfl rfl rfl <| nl <| rg <| L (.rsl (.fr 0 1052) v10521 0 out_6.list.length) rfl rfl rfl <| L (iA ((i : Nat) : Int)) rfl rfl rfl <| L (.rsl (.fr 0 1052) v10521 0 out_6.list.length) rfl rfl rfl <| L (iA ((i : Nat) : Int)) rfl rfl rfl ?_
         obtain ⟨x12, h_x12, hF1⟩ := bind_some hF1
         refine L (.eptr (.fr 0 1052) v10521 (((i : Nat) : Int) : Int).toNat 0) rfl rfl (op_ix rfl (ix_arr (a := out_6) (n := 1) (c := c_i64) rfl rfl rfl h_x12)) <| L (iA x12) rfl rfl (op_load rfl (ld_arr (a := out_6) (n := 1) (c := c_i64) (iA x12) rfl rfl rfl h_x12 rfl)) <| L (iA (imin (imin (w64 (w - x10)) x11) (w64 (most - sum6)))) rfl rfl rfl <| L (iA (w64 (x12 + (imin (imin (w64 (w - x10)) x11) (w64 (most - sum6)))))) rfl rfl rfl <| L (iA sum6) rfl rfl rfl <| L (iA (imin (imin (w64 (w - x10)) x11) (w64 (most - sum6)))) rfl rfl rfl <| L (iA (w64 (sum6 + (imin (imin (w64 (w - x10)) x11) (w64 (most - sum6)))))) rfl rfl rfl ?_
         obtain ⟨x13, h_x13, hF1⟩ := bind_some hF1
         refine L (.eptr (.fr 0 1052) v10521 (((i : Nat) : Int) : Int).toNat 0) rfl rfl (op_ix rfl (ix_arr (a := out_6) (n := 1) (c := c_i64) rfl rfl rfl h_x13)) ?_
         obtain ⟨out_8, h_out_8, hF1⟩ := bind_some hF1
         refine L (.tup []) (h' := ⟨upd _ 1052 ⟨v10521, Ar.con 1 c_i64 out_8⟩, _, _⟩) rfl rfl (op_store rfl rfl (st_arr (a := out_6) (a' := out_8) (n := 1) (c := c_i64) (x := x13) (x' := w64 (x12 + (imin (imin (w64 (w - x10)) x11) (w64 (most - sum6))))) (y := (iA (w64 (x12 + (imin (imin (w64 (w - x10)) x11) (w64 (most - sum6))))))) rfl rfl h_x13 (Nat.le_of_ble_eq_true rfl) rfl h_out_8)) ?_
         rw [← Ar.set_len h_out_8]
         exact L (iA (w64 (sum6 + (imin (imin (w64 (w - x10)) x11) (w64 (most - sum6)))))) rfl rfl rfl <| nl <| rg <| WO_do (y := (iA ((i + 1 : Nat) : Int))) _ rfl rfl (congrArg (fun n => some (AV.int .i64 n, _)) (range_len hi17 hn17)) <| WO_do (y := (iA ((i + 1 : Nat) : Int))) _ rfl rfl rfl <| nl <| Exists.intro _ (And.intro (Option.some.inj hF1).symm ((hR17 _ _ _).2 ⟨v10521, _, _, rfl, (And.intro rfl (And.intro rfl (And.intro rfl (And.intro rfl (And.intro rfl (And.intro rfl (And.intro rfl True.intro))))))), (And.intro rfl (And.intro rfl True.intro))⟩))
       · intro v st hr hD1
         obtain ⟨out_6, sum6⟩ := v
         obtain ⟨v10521, tm18, cb18, rfl, hT18, hC18⟩ := (hR17 _ _ _).1 hr
         obtain ⟨tm18, rfl⟩ := allEq hT18
         obtain ⟨cb18, rfl⟩ := allEq hC18
         refine sq (rg ?_)
         refine WO_do (y := .bool false) _ rfl rfl (congrArg (fun b => some (AV.bool b, _)) (range_ge _)) (nl ?_)
         refine sq <| cd false rfl (fun h => absurd h (by decide)) (fun _ => ?_)
         exact xt <| (hJ17 _).2 ⟨out_6, v10521, _, _, rfl, (And.intro rfl True.intro), (And.intro rfl True.intro), hD1⟩
   · refine W_loopV hb6 R6 ((hR6 _ _).2 ⟨_, _, rfl, (And.intro rfl (And.intro rfl (And.intro rfl (And.intro rfl (And.intro rfl (And.intro rfl True.intro)))))), (And.intro rfl (And.intro rfl True.intro))⟩) ?_
     intro v st s hr hF1 hD1
     obtain ⟨low1, high1⟩ := v
     obtain ⟨tm7, cb7, rfl, hT7, hC7⟩ := (hR6 _ _).1 hr
     obtain ⟨tm7, rfl⟩ := allEq hT7
     obtain ⟨cb7, rfl⟩ := allEq hC7
     dsimp only [gateref1_FairOf_l0] at hF1
     refine sq <| sq <| rg <| L (iA high1) rfl rfl rfl <| L (iA low1) rfl rfl rfl <| L (iA (w64 (high1 - low1))) rfl rfl rfl <| L (bA (decide ((w64 (high1 - low1)) > 1))) rfl rfl rfl <| nl <| cd (decide ((w64 (high1 - low1)) > 1)) rfl (fun hc11 => ?_) (fun hc11 => ?_)
     · replace hF1 := ite_t hF1 (dec_t hc11)
       refine sk <| bk <| sq <| rg <| L (iA low1) rfl rfl rfl <| L (iA high1) rfl rfl rfl <| L (iA (w64 (low1 + high1))) rfl rfl rfl <| L (iA (w64 (Int.tdiv (w64 (low1 + high1)) 2))) rfl rfl rfl <| L (iA (w64 (Int.tdiv (w64 (low1 + high1)) 2))) rfl rfl rfl <| nl <| sq <| rg <| L (.fn (.func 43) [] [(.ptr (.fr 0 4) 1 0), (.ptr (.fr 0 5) 1 0)]) rfl rfl rfl <| L (iA (w64 (Int.tdiv (w64 (low1 + high1)) 2))) rfl rfl rfl ?_
       obtain ⟨⟨t131, sum2⟩, h9, hF1⟩ := bind_some hF1
       refine WO_rd (g := 43) (args := [(iA (w64 (Int.tdiv (w64 (low1 + high1)) 2))), (.ptr (.fr 0 4) 1 0), (.ptr (.fr 0 5) 1 0)]) (r := (.tup [(Sl.av 1 c_i64 t131), (iA sum2)])) _ _ rfl rfl rfl rfl rfl rfl rfl (ok_gateref1_FairOf_1 _ _ _ h9 _ _ _ _ (inn_here _) ((con2_inn _ _ _ _ _).trans (con_fr rfl)) _ _ (inn_here _) ((con2_inn _ _ _ _ _).trans (con_fr rfl))) <| L (.tup [(Sl.av 1 c_i64 t131), (iA sum2)]) rfl rfl rfl <| L (Sl.av 1 c_i64 t131) rfl rfl rfl <| L (iA sum2) rfl rfl rfl <| L (Sl.av 1 c_i64 t131) rfl rfl rfl <| L (iA sum2) rfl rfl rfl <| nl <| sq <| rg <| L (iA sum2) rfl rfl rfl <| L (iA most) rfl rfl rfl <| L (bA (decide (sum2 ≤ most))) rfl rfl rfl <| nl <| cd (decide (sum2 ≤ most)) rfl (fun hc10 => ?_) (fun hc10 => ?_)
       · replace hF1 := ite_t hF1 (dec_t hc10)
         exact rg <| L (iA (w64 (Int.tdiv (w64 (low1 + high1)) 2))) rfl rfl rfl <| L (iA (w64 (Int.tdiv (w64 (low1 + high1)) 2))) rfl rfl rfl <| nl <| Exists.intro _ (And.intro (Option.some.inj hF1).symm ((hR6  _ _).2 ⟨_, _, rfl, (And.intro rfl (And.intro rfl (And.intro rfl (And.intro rfl (And.intro rfl (And.intro rfl True.intro)))))), (And.intro rfl (And.intro rfl True.intro))⟩))
       · replace hF1 := ite_f hF1 (dec_f hc10)
         exact rg <| L (iA (w64 (Int.tdiv (w64 (low1 + high1)) 2))) rfl rfl rfl <| L (iA (w64 (Int.tdiv (w64 (low1 + high1)) 2))) rfl rfl rfl <| nl <| Exists.intro _ (And.intro (Option.some.inj hF1).symm ((hR6  _ _).2 ⟨_, _, rfl, (And.intro rfl (And.intro rfl (And.intro rfl (And.intro rfl (And.intro rfl (And.intro rfl True.intro)))))), (And.intro rfl (And.intro rfl True.intro))⟩))
     · replace hF1 := ite_f hF1 (dec_f hc11)
       exact xt <| (hJ6 _).2 ⟨low1, _, _, rfl, (And.intro rfl (And.intro rfl (And.intro rfl (And.intro rfl (And.intro rfl True.intro))))), (And.intro rfl (And.intro rfl True.intro)), hD1 _ (Option.some.inj hF1).symm⟩

theorem ok_slices_Equal_int_int (s1 : (Sl Int)) (s2 : (Sl Int)) {r : (Bool)} (hF0 : slices_Equal_int_int s1 s2 = some r) (out : List AE.Frame) (glob : List AObj) : RdOk Try.prog pol true 18 [(Sl.av 1 c_i64 s1), (Sl.av 1 c_i64 s2)] out glob (bA r) := by
 unfold slices_Equal_int_int at hF0
 refine rd_walk Try.func18 rfl (Nat.not_lt.2 (Nat.le_of_ble_eq_true rfl)) ?_
 intro ro
 refine sq <| rg <| L (bA false) rfl rfl rfl <| nl <| sq <| sq <| rg <| L (Sl.av 1 c_i64 s1) rfl rfl rfl <| L (iA (s1.list.length : Int)) rfl rfl (op_len rfl rfl rfl rfl rfl (len_sl _)) <| L (Sl.av 1 c_i64 s2) rfl rfl rfl <| L (iA (s2.list.length : Int)) rfl rfl (op_len rfl rfl rfl rfl rfl (len_sl _)) <| L (bA ((s1.list.length : Int) != (s2.list.length : Int))) rfl rfl rfl <| nl <| cd ((s1.list.length : Int) != (s2.list.length : Int)) rfl (fun hc9 => ?_) (fun hc9 => ?_)
 · replace hF0 := ite_t hF0 (bne_t hc9)
   refine sq <| rg <| L (bA false) rfl rfl rfl <| nl <| rt ?_
   obtain rfl := Option.some.inj hF0
   exact rd_leaf (.inr rfl) rfl (retV_pl _ _ (bA false)) rfl rfl
 · replace hF0 := ite_f hF0 (bne_f hc9)
   refine sk <| sq <| sq <| rg <| L (Sl.av 1 c_i64 s1) rfl rfl rfl <| L (iA (s1.list.length : Int)) rfl rfl (op_len rfl rfl rfl rfl rfl (len_sl _)) <| L (iA 0) rfl rfl rfl <| nl <| bk ?_
   obtain ⟨b1, hb4, hF0⟩ := bind_some hF0
   obtain ⟨hn4, hb4⟩ := ite_none hb4
   obtain ⟨J4, hJ4⟩ : ∃ J : St → Prop, ∀ st, J st ↔ (∃ (tm6 : Nat → AV) (cb6 : AE.Frame), st = ⟨tm6, ⟨cb6, out, glob⟩⟩ ∧ AllEq tm6 [] ∧ AllEq cb6 [] ∧ Res.out () = b1) := ⟨_, fun _ => Iff.rfl⟩
   obtain ⟨R4, hR4⟩ : ∃ R : Nat → (Unit) → St → Prop, ∀ i v st, R i v st ↔ (match v with | () => ∃ (tm5 : Nat → AV) (cb5 : AE.Frame), st = ⟨tm5, ⟨cb5, out, glob⟩⟩ ∧ AllEq tm5 [(0, (Sl.av 1 c_i64 s1)), (1, (Sl.av 1 c_i64 s2)), (12, (iA (s1.list.length : Int))), (13, (iA ((i : Nat) : Int)))] ∧ AllEq cb5 []) := ⟨_, fun _ _ _ => Iff.rfl⟩
   refine W_loopcut J4 (fun st hst => ?_) ?_
   · obtain ⟨tm6, cb6, rfl, hT6, hC6, rfl⟩ := (hJ4 st).1 hst
     obtain ⟨tm6, rfl⟩ := allEq hT6
     obtain ⟨cb6, rfl⟩ := allEq hC6
     replace hF0 := res_out hF0
     refine sq <| rg <| L (bA true) rfl rfl rfl <| nl <| rt ?_
     obtain rfl := Option.some.inj hF0
     exact rd_leaf (.inr rfl) rfl (retV_pl _ _ (bA true)) rfl rfl
   · refine W_rangeL hb4 R4 ((hR4 _ _ _).2 ⟨_, _, rfl, (And.intro rfl (And.intro rfl (And.intro rfl (And.intro rfl True.intro)))), True.intro⟩) ?_ ?_
     · intro i hi4 v st s hr hF1 hD1
       obtain ⟨⟩ := v
       obtain ⟨tm5, cb5, rfl, hT5, hC5⟩ := (hR4 _ _ _).1 hr
       obtain ⟨tm5, rfl⟩ := allEq hT5
       obtain ⟨cb5, rfl⟩ := allEq hC5
       obtain ⟨x2, hx4⟩ : ∃ x, x = s1.list[i] := ⟨_, rfl⟩
       rw [← hx4] at hF1
       dsimp only [slices_Equal_int_int_l0] at hF1
       refine sq (rg ?_)
       refine WO_do (y := (bA (decide (((i : Nat) : Int) < (s1.list.length : Int))))) _ rfl rfl rfl (nl ?_)
       refine sq <| cd true (congrArg some (range_lt hi4)) (fun _ => ?_) (fun h => absurd h (by decide))
       refine sk <| sq <| bk <| sq <| rg <| L (iA ((i : Nat) : Int)) rfl rfl rfl <| L (iA ((i : Nat) : Int)) rfl rfl rfl <| nl <| sq <| dw (by kernel_rfl) <| L (Sl.av 1 c_i64 s1) rfl rfl rfl <| L (iA ((i : Nat) : Int)) rfl rfl rfl <| L (.cptr [(iA x2)]) rfl rfl (op_ix rfl ((ix_at (c := c_i64) rfl rfl hi4).trans (congrArg (fun x => some (AV.cptr (c_i64 x))) hx4.symm))) <| L (iA x2) rfl rfl rfl <| L (Sl.av 1 c_i64 s2) rfl rfl rfl <| L (iA ((i : Nat) : Int)) rfl rfl rfl ?_
       obtain ⟨x3, h_x3, hF1⟩ := bind_some hF1
       refine L (.cptr [(iA x3)]) rfl rfl (op_ix rfl (ix_sl (c := c_i64) rfl rfl h_x3)) <| L (iA x3) rfl rfl rfl <| L (bA (x2 != x3)) rfl rfl rfl <| nl <| cd (x2 != x3) rfl (fun hc8 => ?_) (fun hc8 => ?_)
       · replace hF1 := ite_t hF1 (bne_t hc8)
         refine sq <| rg <| L (bA false) rfl rfl rfl <| nl <| rt ?_
         obtain rfl := hD1 _ (Option.some.inj hF1).symm
         replace hF0 := res_ret hF0
         obtain rfl := Option.some.inj hF0
         exact rd_leaf (.inr rfl) rfl (retV_pl _ _ (bA false)) rfl rfl
       · replace hF1 := ite_f hF1 (bne_f hc8)
         exact sk <| rg <| WO_do (y := (iA ((i + 1 : Nat) : Int))) _ rfl rfl (congrArg (fun n => some (AV.int .i64 n, _)) (range_len hi4 hn4)) <| WO_do (y := (iA ((i + 1 : Nat) : Int))) _ rfl rfl rfl <| nl <| Exists.intro _ (And.intro (Option.some.inj hF1).symm ((hR4 _ _ _).2 ⟨_, _, rfl, (And.intro rfl (And.intro rfl (And.intro rfl (And.intro rfl True.intro)))), True.intro⟩))
     · intro v st hr hD1
       obtain ⟨⟩ := v
       obtain ⟨tm5, cb5, rfl, hT5, hC5⟩ := (hR4 _ _ _).1 hr
       obtain ⟨tm5, rfl⟩ := allEq hT5
       obtain ⟨cb5, rfl⟩ := allEq hC5
       refine sq (rg ?_)
       refine WO_do (y := .bool false) _ rfl rfl (congrArg (fun b => some (AV.bool b, _)) (range_ge _)) (nl ?_)
       refine sq <| cd false rfl (fun h => absurd h (by decide)) (fun _ => ?_)
       exact xt <| (hJ4 _).2 ⟨_, _, rfl, True.intro, True.intro, hD1⟩

theorem ok_gatelaw1_RoomsCounted (l : (Sl Int)) {r : (Bool)} (hF0 : gatelaw1_RoomsCounted l = some r) (out : List AE.Frame) (glob : List AObj) (hglob : glob = []) : ∃ h, A Try.prog pol false 3 [(Sl.av 1 c_i64 l)] out glob = some ((bA r), h) := by
 unfold gatelaw1_RoomsCounted at hF0
 refine law_walk Try.func3 rfl (Nat.not_lt.2 (Nat.le_of_ble_eq_true rfl)) <| sq <| rg <| L (bA false) rfl rfl rfl <| nl <| sq <| rg <| L (Sl.av 1 c_i64 l) rfl rfl rfl <| L (.agg (c_gatemake_Stream (gatemake_Stream.mk l 0))) rfl rfl (op_build rfl (build_st (cs := (c_gatemake_Stream (gatemake_Stream.mk l 0))) rfl rfl rfl (fill_cons (x := (Sl.av 1 c_i64 l)) rfl rfl (Nat.le_of_ble_eq_true rfl) (fill_nil)))) <| L (.ptr (.fr 0 16) 1 0) (h' := ⟨upd _ 16 ⟨1, .cells (c_gatemake_Stream (gatemake_Stream.mk l 0))⟩, _, _⟩) rfl rfl (op_box (x' := (.agg (c_gatemake_Stream (gatemake_Stream.mk l 0)))) rfl rfl rfl rfl) <| L (.ptr (.fr 0 16) 1 0) rfl rfl rfl <| nl <| sq <| rg <| L (.ptr (.fr 0 16) 1 0) rfl rfl rfl ?_
 obtain ⟨⟨r18, t16⟩, h1, hF0⟩ := bind_some hF0
 refine WO_mutL (g := 5) (args := fun p => [p, (sA [108, 97])]) (t := 16) (v := 1) (r := (.agg (c_api_Limit r18))) _ _ rfl rfl rfl rfl rfl rfl rfl (fun _ _ => inferInstance) rfl (ok_gatemake_Stream_RightLimit _ _ h1) <| L (.ptr (.fr 0 4) 1 0) (h' := ⟨upd _ 4 ⟨1, .cells (c_api_Limit (api_Limit.mk [] 0 0 0 0))⟩, _, _⟩) rfl rfl (op_alloc (c_api_Limit (api_Limit.mk [] 0 0 0 0)) rfl rfl rfl rfl) <| L (.tup []) (h' := ⟨upd _ 4 ⟨1, .cells (c_api_Limit r18)⟩, _, _⟩) rfl rfl (op_store rfl rfl (st_fr (x := (.agg (c_api_Limit r18))) (c_api_Limit r18) rfl rfl (Nat.le_of_ble_eq_true rfl) rfl)) <| nl <| sq <| sq <| rg <| L (.ptr (.fr 0 16) 1 0) rfl rfl rfl ?_
 obtain ⟨⟨r20, t161⟩, h2, hF0⟩ := bind_some hF0
 refine WO_mutL (g := 6) (args := fun p => [p, (iA 12)]) (t := 16) (v := 1) (r := (bA r20)) _ _ rfl rfl rfl rfl rfl rfl rfl (fun _ _ => inferInstance) rfl (ok_gatemake_Stream_Flip _ _ h2) <| nl ?_
 obtain ⟨y7, hF1, hF0⟩ := bind_some hF0
 obtain ⟨J7, hJ7⟩ : ∃ J : St → Prop, ∀ st, J st ↔ (∃ (t164 : gatemake_Stream) (x : api_Limit) (tm6 : Nat → AV) (cb6 : AE.Frame), st = ⟨tm6, ⟨cb6, out, glob⟩⟩ ∧ AllEq tm6 [(3, (.ptr (.fr 0 16) 1 0)), (4, (.ptr (.fr 0 4) 1 0))] ∧ AllEq cb6 [(16, ⟨1, .cells (c_gatemake_Stream t164)⟩), (4, ⟨1, .cells (c_api_Limit x)⟩)] ∧ (t164, x) = y7) := ⟨_, fun _ => Iff.rfl⟩
 refine W_cut J7 (fun st hst => ?_) ?_
 · obtain ⟨t164, x, tm6, cb6, rfl, hT6, hC6, rfl⟩ := (hJ7 st).1 hst
   obtain ⟨tm6, rfl⟩ := allEq hT6
   obtain ⟨cb6, rfl⟩ := allEq hC6
   refine sq <| rg <| L (.ptr (.fr 0 16) 1 0) rfl rfl rfl <| L (Sl.av 1 c_i64 (Sl.full [1, 2, 3, 7, 8, 11, 100, 101, 0, 100000, 100001])) rfl rfl (op_sliceN rfl rfl rfl) ?_
   obtain ⟨⟨long, t167⟩, h11, hF0⟩ := bind_some hF0
   refine WO_mutL (g := 8) (args := fun p => [p, (Sl.av 1 c_i64 (Sl.full [1, 2, 3, 7, 8, 11, 100, 101, 0, 100000, 100001]))]) (t := 16) (v := 1) (r := (iA long)) _ _ rfl rfl rfl rfl rfl rfl rfl (fun _ _ => inferInstance) rfl (ok_gatemake_Stream_Pick _ _ h11) <| L (iA long) rfl rfl rfl <| nl <| sq <| rg <| L (.agg (c_api_Limit x)) rfl rfl (op_load rfl (ld_con (.agg (c_api_Limit x)) rfl rfl (cs := (c_api_Limit x)) (con_fr rfl) rfl)) <| L (iA long) rfl rfl rfl ?_
   obtain ⟨⟨n, e⟩, h12, hF0⟩ := bind_some hF0
   refine WO_rd (g := 9) (args := [(.agg (c_api_Limit x)), (iA long)]) (r := (.tup [(iA n), (iA e)])) _ _ rfl rfl rfl rfl rfl rfl rfl (ok_limit_Room _ _ h12 _ _ ) <| L (.tup [(iA n), (iA e)]) rfl rfl rfl <| L (iA n) rfl rfl rfl <| L (iA e) rfl rfl rfl <| L (iA n) rfl rfl rfl <| L (iA e) rfl rfl rfl <| nl <| sq <| dw (by kernel_rfl) <| L (.agg (c_api_Limit x)) rfl rfl (op_load rfl (ld_con (.agg (c_api_Limit x)) rfl rfl (cs := (c_api_Limit x)) (con_fr rfl) rfl)) <| L (Sl.av 5 c_api_Limit (Sl.full [x])) rfl rfl (op_sliceN rfl rfl rfl) ?_
   obtain ⟨r38, h13, hF0⟩ := bind_some hF0
   refine WO_rd (g := 11) (args := [(Sl.av 5 c_api_Limit (Sl.full [x]))]) (r := (iA r38)) _ _ rfl rfl rfl rfl rfl rfl rfl (ok_gateref1_LimitsFault _ h13 _ _ ) <| L (.ptr (.fr 0 4) 1 1) rfl rfl rfl <| L (iA x.Kind) rfl rfl (op_load rfl (ld_con (iA x.Kind) rfl rfl (cs := (c_api_Limit x)) (con_fr rfl) rfl)) <| L (bA (x.Kind == 4)) rfl rfl rfl ?_
   obtain ⟨r42, h14, hF0⟩ := bind_some hF0
   refine WO_rd (g := 12) (args := [(bA (x.Kind == 4)), (iA 10)]) (r := (iA r42)) _ _ rfl rfl rfl rfl rfl rfl rfl (ok_gatelaw1_when _ _ h14 _ _ ) <| L (iA long) rfl rfl rfl <| L (bA (decide (long < 1))) rfl rfl rfl ?_
   obtain ⟨J15, hJ15⟩ : ∃ J : St → Prop, ∀ st, J st ↔ (∃ (tm16 : Nat → AV) (cb16 : AE.Frame), st = ⟨tm16, ⟨cb16, out, glob⟩⟩ ∧ AllEq tm16 [(3, (.ptr (.fr 0 16) 1 0)), (4, (.ptr (.fr 0 4) 1 0)), (5, (iA long)), (6, (iA n)), (7, (iA e)), (38, (iA r38)), (42, (iA r42)), (48, (bA ((decide (long < 1)) || (decide (long > 100000)))))] ∧ AllEq cb16 [(16, ⟨1, .cells (c_gatemake_Stream t167)⟩), (4, ⟨1, .cells (c_api_Limit x)⟩)]) := ⟨_, fun _ => Iff.rfl⟩
   refine WO_cut 4 J15 (fun st hst => ?_) ?_
   · obtain ⟨tm16, cb16, rfl, hT16, hC16⟩ := (hJ15 st).1 hst
     obtain ⟨tm16, rfl⟩ := allEq hT16
     obtain ⟨cb16, rfl⟩ := allEq hC16
     obtain ⟨r49, h17, hF0⟩ := bind_some hF0
     refine WO_rd (g := 12) (args := [(bA ((decide (long < 1)) || (decide (long > 100000)))), (iA 1)]) (r := (iA r49)) _ _ rfl rfl rfl rfl rfl rfl rfl (ok_gatelaw1_when _ _ h17 _ _ ) <| L (Sl.av 1 c_i64 (Sl.full [r38, r42, r49])) rfl rfl (op_sliceN rfl rfl rfl) ?_
     obtain ⟨fault, h18, hF0⟩ := bind_some hF0
     refine WO_rd (g := 10) (args := [(Sl.av 1 c_i64 (Sl.full [r38, r42, r49]))]) (r := (iA fault)) _ _ rfl rfl rfl rfl rfl rfl rfl (ok_cmp_Or_api_Errno _ h18 _ _ ) <| L (iA fault) rfl rfl rfl <| nl <| sq <| sq <| rg <| L (iA e) rfl rfl rfl <| L (iA fault) rfl rfl rfl <| L (bA (e != fault)) rfl rfl rfl ?_
     obtain ⟨y23, hF1, hF0⟩ := bind_some hF0
     obtain ⟨J23, hJ23⟩ : ∃ J : St → Prop, ∀ st, J st ↔ (∃ (t65 : Bool) (tm24 : Nat → AV) (cb24 : AE.Frame), st = ⟨tm24, ⟨cb24, out, glob⟩⟩ ∧ AllEq tm24 [(3, (.ptr (.fr 0 16) 1 0)), (65, (bA t65))] ∧ AllEq cb24 [(16, ⟨1, .cells (c_gatemake_Stream t167)⟩)] ∧ t65 = y23) := ⟨_, fun _ => Iff.rfl⟩
     refine WO_cut 11 J23 (fun st hst => ?_) ?_
     · obtain ⟨t65, tm24, cb24, rfl, hT24, hC24, rfl⟩ := (hJ23 st).1 hst
       obtain ⟨tm24, rfl⟩ := allEq hT24
       obtain ⟨cb24, rfl⟩ := allEq hC24
       refine nl <| cd t65 rfl (fun hc77 => ?_) (fun hc77 => ?_)
       · replace hF0 := ite_t hF0 (hc77)
         refine sq <| rg <| L (bA false) rfl rfl rfl <| nl <| rt ?_
         obtain rfl := Option.some.inj hF0
         exact law_leaf (.inr rfl) rfl
       · replace hF0 := ite_f hF0 (not_t hc77)
         refine sk <| sq <| rg <| L (.ptr (.fr 0 16) 1 0) rfl rfl rfl <| L (Sl.av 1 c_i64 (Sl.full [0, 1, 7, 10, 30, 100, 1000000000, (-1)])) rfl rfl (op_sliceN rfl rfl rfl) ?_
         obtain ⟨⟨most, t168⟩, h25, hF0⟩ := bind_some hF0
         refine WO_mutL (g := 8) (args := fun p => [p, (Sl.av 1 c_i64 (Sl.full [0, 1, 7, 10, 30, 100, 1000000000, (-1)]))]) (t := 16) (v := 1) (r := (iA most)) _ _ rfl rfl rfl rfl rfl rfl rfl (fun _ _ => inferInstance) rfl (ok_gatemake_Stream_Pick _ _ h25) <| L (iA most) rfl rfl rfl <| nl <| sq <| rg <| L (.rsl (.fr 0 10) ((cb24 10).ver + 1) 0 0) (h' := ⟨upd _ 10 ⟨(cb24 10).ver + 1, .arr true 0 []⟩, _, _⟩) rfl rfl (op_muNil rfl rfl rfl rfl) <| L (.rsl (.fr 0 11) ((cb24 11).ver + 1) 0 0) (h' := ⟨upd _ 11 ⟨(cb24 11).ver + 1, .arr true 0 []⟩, _, _⟩) rfl rfl (op_muNil rfl rfl rfl rfl) <| nl <| sq <| sq <| rg <| L (.ptr (.fr 0 16) 1 0) rfl rfl rfl ?_
         obtain ⟨⟨r70, t169⟩, h26, hF0⟩ := bind_some hF0
         refine WO_mutL (g := 14) (args := fun p => [p, (iA 6)]) (t := 16) (v := 1) (r := (iA r70)) _ _ rfl rfl rfl rfl rfl rfl rfl (fun _ _ => inferInstance) rfl (ok_gatemake_Stream_Next _ _ h26) <| L (iA 0) rfl rfl rfl <| nl <| bk ?_
         obtain ⟨b1, hb35, hF0⟩ := bind_some hF0
         obtain ⟨hn35, hb35⟩ := ite_none hb35
         obtain ⟨J35, hJ35⟩ : ∃ J : St → Prop, ∀ st, J st ↔ (∃ (t1616 : gatemake_Stream) (wants4 : (Ar Int)) (weights4 : (Ar Int)) (v102 : Nat) (v112 : Nat) (tm37 : Nat → AV) (cb37 : AE.Frame), st = ⟨tm37, ⟨cb37, out, glob⟩⟩ ∧ AllEq tm37 [(3, (.ptr (.fr 0 16) 1 0)), (9, (iA most)), (10, (.rsl (.fr 0 10) v102 0 wants4.list.length)), (11, (.rsl (.fr 0 11) v112 0 weights4.list.length))] ∧ AllEq cb37 [(16, ⟨1, .cells (c_gatemake_Stream t1616)⟩), (10, ⟨v102, Ar.con 1 c_i64 wants4⟩), (11, ⟨v112, Ar.con 1 c_i64 weights4⟩)] ∧ (t1616, wants4, weights4) = b1) := ⟨_, fun _ => Iff.rfl⟩
         obtain ⟨R35, hR35⟩ : ∃ R : Nat → (gatemake_Stream × (Ar Int) × (Ar Int)) → St → Prop, ∀ i v st, R i v st ↔ (match v with | (t1615, wants3, weights3) => ∃ (v101 : Nat) (v111 : Nat) (tm36 : Nat → AV) (cb36 : AE.Frame), st = ⟨tm36, ⟨cb36, out, glob⟩⟩ ∧ AllEq tm36 [(3, (.ptr (.fr 0 16) 1 0)), (9, (iA most)), (10, (.rsl (.fr 0 10) v101 0 wants3.list.length)), (11, (.rsl (.fr 0 11) v111 0 weights3.list.length)), (70, (iA r70)), (71, (iA ((i : Nat) : Int)))] ∧ AllEq cb36 [(16, ⟨1, .cells (c_gatemake_Stream t1615)⟩), (10, ⟨v101, Ar.con 1 c_i64 wants3⟩), (11, ⟨v111, Ar.con 1 c_i64 weights3⟩)]) := ⟨_, fun _ _ _ => Iff.rfl⟩
         refine W_loopcut J35 (fun st hst => ?_) ?_
         · obtain ⟨t1616, wants4, weights4, v102, v112, tm37, cb37, rfl, hT37, hC37, rfl⟩ := (hJ35 st).1 hst
           obtain ⟨tm37, rfl⟩ := allEq hT37
           obtain ⟨cb37, rfl⟩ := allEq hC37
           refine sq <| sq <| rg <| L (.rsl (.fr 0 10) v102 0 wants4.list.length) rfl rfl rfl <| L (iA (wants4.list.length : Int)) rfl rfl (op_len rfl rfl rfl rfl rfl rfl) <| L (bA (decide ((wants4.list.length : Int) > 0))) rfl rfl rfl ?_
           obtain ⟨y42, hF1, hF0⟩ := bind_some hF0
           obtain ⟨J42, hJ42⟩ : ∃ J : St → Prop, ∀ st, J st ↔ (∃ (t1620 : gatemake_Stream) (t92 : Bool) (tm43 : Nat → AV) (cb43 : AE.Frame), st = ⟨tm43, ⟨cb43, out, glob⟩⟩ ∧ AllEq tm43 [(3, (.ptr (.fr 0 16) 1 0)), (9, (iA most)), (10, (.rsl (.fr 0 10) v102 0 wants4.list.length)), (11, (.rsl (.fr 0 11) v112 0 weights4.list.length)), (92, (bA t92))] ∧ AllEq cb43 [(16, ⟨1, .cells (c_gatemake_Stream t1620)⟩), (10, ⟨v102, Ar.con 1 c_i64 wants4⟩), (11, ⟨v112, Ar.con 1 c_i64 weights4⟩)] ∧ (t1620, t92) = y42) := ⟨_, fun _ => Iff.rfl⟩
           refine WO_cut 4 J42 (fun st hst => ?_) ?_
           · obtain ⟨t1620, t92, tm43, cb43, rfl, hT43, hC43, rfl⟩ := (hJ42 st).1 hst
             obtain ⟨tm43, rfl⟩ := allEq hT43
             obtain ⟨cb43, rfl⟩ := allEq hC43
             refine nl ?_
             obtain ⟨y48, hF1, hF0⟩ := bind_some hF0
             obtain ⟨J48, hJ48⟩ : ∃ J : St → Prop, ∀ st, J st ↔ (∃ (t1623 : gatemake_Stream) (wants7 : (Ar Int)) (weights7 : (Ar Int)) (tm47 : Nat → AV) (cb47 : AE.Frame), st = ⟨tm47, ⟨cb47, out, glob⟩⟩ ∧ AllEq tm47 [(3, (.ptr (.fr 0 16) 1 0)), (9, (iA most)), (10, (.rsl (.fr 0 10) v102 0 wants7.list.length)), (11, (.rsl (.fr 0 11) v112 0 weights7.list.length))] ∧ AllEq cb47 [(16, ⟨1, .cells (c_gatemake_Stream t1623)⟩), (10, ⟨v102, Ar.con 1 c_i64 wants7⟩), (11, ⟨v112, Ar.con 1 c_i64 weights7⟩)] ∧ (t1623, wants7, weights7) = y48) := ⟨_, fun _ => Iff.rfl⟩
             refine W_cut J48 (fun st hst => ?_) ?_
             · obtain ⟨t1623, wants7, weights7, tm47, cb47, rfl, hT47, hC47, rfl⟩ := (hJ48 st).1 hst
               obtain ⟨tm47, rfl⟩ := allEq hT47
               obtain ⟨cb47, rfl⟩ := allEq hC47
               refine sq <| sq <| rg <| L (.ptr (.fr 0 16) 1 0) rfl rfl rfl ?_
               obtain ⟨⟨r102, t1626⟩, h52, hF0⟩ := bind_some hF0
               refine WO_mutL (g := 6) (args := fun p => [p, (iA 20)]) (t := 16) (v := 1) (r := (bA r102)) _ _ rfl rfl rfl rfl rfl rfl rfl (fun _ _ => inferInstance) rfl (ok_gatemake_Stream_Flip _ _ h52) <| nl ?_
               obtain ⟨y55, hF1, hF0⟩ := bind_some hF0
               obtain ⟨J55, hJ55⟩ : ∃ J : St → Prop, ∀ st, J st ↔ (∃ (wants10 : (Ar Int)) (v103 : Nat) (tm54 : Nat → AV) (cb54 : AE.Frame), st = ⟨tm54, ⟨cb54, out, glob⟩⟩ ∧ AllEq tm54 [(9, (iA most)), (10, (.rsl (.fr 0 10) v103 0 wants10.list.length)), (11, (.rsl (.fr 0 11) v112 0 weights7.list.length))] ∧ AllEq cb54 [(10, ⟨v103, Ar.con 1 c_i64 wants10⟩), (11, ⟨v112, Ar.con 1 c_i64 weights7⟩)] ∧ wants10 = y55) := ⟨_, fun _ => Iff.rfl⟩
               refine W_cut J55 (fun st hst => ?_) ?_
               · obtain ⟨wants10, v103, tm54, cb54, rfl, hT54, hC54, rfl⟩ := (hJ55 st).1 hst
                 obtain ⟨tm54, rfl⟩ := allEq hT54
                 obtain ⟨cb54, rfl⟩ := allEq hC54
                 refine sq <| rg <| L (iA most) rfl rfl rfl <| L (Sl.av 1 c_i64 wants10.sl) (h' := ⟨upd _ 10 ⟨v103, Ar.fcon 1 c_i64 wants10⟩, _, _⟩) rfl rfl (op_frz (a := wants10) (n := 1) (c := c_i64) rfl rfl rfl rfl rfl rfl) <| L (Sl.av 1 c_i64 weights7.sl) (h' := ⟨upd _ 11 ⟨v112, Ar.fcon 1 c_i64 weights7⟩, _, _⟩) rfl rfl (op_frz (a := weights7) (n := 1) (c := c_i64) rfl rfl rfl rfl rfl rfl) ?_
                 obtain ⟨⟨y, f⟩, h57, hF0⟩ := bind_some hF0
                 refine WO_rd (g := 15) (args := [(iA most), (Sl.av 1 c_i64 wants10.sl), (Sl.av 1 c_i64 weights7.sl)]) (r := (.tup [(Sl.av 1 c_i64 y), (iA f)])) _ _ rfl rfl rfl rfl rfl rfl rfl (ok_limit_Fair _ _ _ h57 _ _ ) <| L (.tup [(Sl.av 1 c_i64 y), (iA f)]) rfl rfl rfl <| L (Sl.av 1 c_i64 y) rfl rfl rfl <| L (iA f) rfl rfl rfl <| L (Sl.av 1 c_i64 y) rfl rfl rfl <| L (iA f) rfl rfl rfl <| nl <| sq <| sq <| rg <| L (iA most) rfl rfl rfl <| L (Sl.av 1 c_i64 wants10.sl) (h' := ⟨upd _ 10 ⟨v103, Ar.fcon 1 c_i64 wants10⟩, _, _⟩) rfl rfl (op_frz2 (a := wants10) (n := 1) (c := c_i64) rfl rfl rfl rfl rfl rfl) <| L (Sl.av 1 c_i64 weights7.sl) (h' := ⟨upd _ 11 ⟨v112, Ar.fcon 1 c_i64 weights7⟩, _, _⟩) rfl rfl (op_frz2 (a := weights7) (n := 1) (c := c_i64) rfl rfl rfl rfl rfl rfl) ?_
                 obtain ⟨fault1, h58, hF0⟩ := bind_some hF0
                 refine WO_rd (g := 16) (args := [(iA most), (Sl.av 1 c_i64 wants10.sl), (Sl.av 1 c_i64 weights7.sl)]) (r := (iA fault1)) _ _ rfl rfl rfl rfl rfl rfl rfl (ok_gateref1_FairFault _ _ _ h58 _ _ ) <| L (iA fault1) rfl rfl rfl <| nl <| sq <| rg <| L (iA fault1) rfl rfl rfl <| L (bA (fault1 != 0)) rfl rfl rfl <| nl <| cd (fault1 != 0) rfl (fun hc75 => ?_) (fun hc75 => ?_)
                 · replace hF0 := ite_t hF0 (bne_t hc75)
                   refine sq <| rg <| L (iA f) rfl rfl rfl <| L (iA fault1) rfl rfl rfl <| L (bA (f == fault1)) rfl rfl rfl ?_
                   obtain ⟨J59, hJ59⟩ : ∃ J : St → Prop, ∀ st, J st ↔ (∃ (tm60 : Nat → AV) (cb60 : AE.Frame), st = ⟨tm60, ⟨cb60, out, glob⟩⟩ ∧ AllEq tm60 [(126, (bA ((f == fault1) && ((y.list.length : Int) == 0))))] ∧ AllEq cb60 []) := ⟨_, fun _ => Iff.rfl⟩
                   refine WO_cut 5 J59 (fun st hst => ?_) ?_
                   · obtain ⟨tm60, cb60, rfl, hT60, hC60⟩ := (hJ59 st).1 hst
                     obtain ⟨tm60, rfl⟩ := allEq hT60
                     obtain ⟨cb60, rfl⟩ := allEq hC60
                     obtain ⟨y62, hF1, hF0⟩ := bind_some hF0
                     obtain ⟨J62, hJ62⟩ : ∃ J : St → Prop, ∀ st, J st ↔ (∃ (t129 : Bool) (tm63 : Nat → AV) (cb63 : AE.Frame) (globv63 : List AObj), st = ⟨tm63, ⟨cb63, out, globv63⟩⟩ ∧ AllEq tm63 [(129, (bA t129))] ∧ AllEq cb63 [] ∧ t129 = y62) := ⟨_, fun _ => Iff.rfl⟩
                     refine WO_cut 3 J62 (fun st hst => ?_) ?_
                     · obtain ⟨t129, tm63, cb63, globv63, rfl, hT63, hC63, rfl⟩ := (hJ62 st).1 hst
                       obtain ⟨tm63, rfl⟩ := allEq hT63
                       obtain ⟨cb63, rfl⟩ := allEq hC63
                       refine L (bA t129) rfl rfl rfl <| nl <| rt ?_
                       obtain rfl := Option.some.inj hF0
                       exact law_leaf (.inr rfl) rfl
                     · rcases bool_cases ((f == fault1) && ((y.list.length : Int) == 0)) with hc62 | hc62
                       · replace hF1 := ite_t hF1 (hc62)
                         refine L (.bool true) rfl rfl (congrArg (fun b => some (AV.bool b, _)) hc62) <| WO_lim (g := 17) _ _ rfl rfl rfl rfl rfl rfl rfl rfl hglob lim_limited (fun glob64 => ?_)
                         exact L (bA true) rfl rfl rfl <| nl ((hJ62 _).2 ⟨true, _, _, _, rfl, (And.intro rfl True.intro), True.intro, Option.some.inj hF1⟩)
                       · replace hF1 := ite_f hF1 (not_t hc62)
                         exact L (.bool false) rfl rfl (congrArg (fun b => some (AV.bool b, _)) hc62) <| WO_no _ rfl rfl <| L (bA false) rfl rfl rfl <| nl ((hJ62 _).2 ⟨false, _, _, _, rfl, (And.intro rfl True.intro), True.intro, Option.some.inj hF1⟩)
                   · rcases bool_cases (f == fault1) with hc59 | hc59
                     · exact L (.bool true) rfl rfl (congrArg (fun b => some (AV.bool b, _)) hc59) <| L (Sl.av 1 c_i64 y) rfl rfl rfl <| L (iA (y.list.length : Int)) rfl rfl (op_len rfl rfl rfl rfl rfl (len_sl _)) <| L (bA ((y.list.length : Int) == 0)) rfl rfl rfl <| L (bA ((f == fault1) && ((y.list.length : Int) == 0))) rfl rfl (congrArg (fun b => some (AV.bool b, _)) (by rw [hc59]; rfl)) <| nl ((hJ59 _).2 ⟨_, _, rfl, (And.intro rfl True.intro), True.intro⟩)
                     · exact L (.bool false) rfl rfl (congrArg (fun b => some (AV.bool b, _)) hc59) <| WO_no _ rfl rfl <| WO_no _ rfl rfl <| WO_no _ rfl rfl <| L (bA ((f == fault1) && ((y.list.length : Int) == 0))) rfl rfl (congrArg (fun b => some (AV.bool b, _)) (by rw [hc59]; rfl)) <| nl ((hJ59 _).2 ⟨_, _, rfl, (And.intro rfl True.intro), True.intro⟩)
                 · replace hF0 := ite_f hF0 (bne_f hc75)
                   refine sk <| sq <| rg <| L (iA f) rfl rfl rfl <| L (bA (f == 0)) rfl rfl rfl ?_
                   obtain ⟨y67, hF1, hF0⟩ := bind_some hF0
                   obtain ⟨J67, hJ67⟩ : ∃ J : St → Prop, ∀ st, J st ↔ (∃ (t139 : Bool) (tm68 : Nat → AV) (cb68 : AE.Frame), st = ⟨tm68, ⟨cb68, out, glob⟩⟩ ∧ AllEq tm68 [(139, (bA t139))] ∧ AllEq cb68 [] ∧ t139 = y67) := ⟨_, fun _ => Iff.rfl⟩
                   refine WO_cut 8 J67 (fun st hst => ?_) ?_
                   · obtain ⟨t139, tm68, cb68, rfl, hT68, hC68, rfl⟩ := (hJ67 st).1 hst
                     obtain ⟨tm68, rfl⟩ := allEq hT68
                     obtain ⟨cb68, rfl⟩ := allEq hC68
                     obtain ⟨y70, hF1, hF0⟩ := bind_some hF0
                     obtain ⟨J70, hJ70⟩ : ∃ J : St → Prop, ∀ st, J st ↔ (∃ (t142 : Bool) (tm71 : Nat → AV) (cb71 : AE.Frame) (globv71 : List AObj), st = ⟨tm71, ⟨cb71, out, globv71⟩⟩ ∧ AllEq tm71 [(142, (bA t142))] ∧ AllEq cb71 [] ∧ t142 = y70) := ⟨_, fun _ => Iff.rfl⟩
                     refine WO_cut 3 J70 (fun st hst => ?_) ?_
                     · obtain ⟨t142, tm71, cb71, globv71, rfl, hT71, hC71, rfl⟩ := (hJ70 st).1 hst
                       obtain ⟨tm71, rfl⟩ := allEq hT71
                       obtain ⟨cb71, rfl⟩ := allEq hC71
                       refine L (bA t142) rfl rfl rfl <| nl <| rt ?_
                       obtain rfl := Option.some.inj hF0
                       exact law_leaf (.inr rfl) rfl
                     · rcases bool_cases t139 with hc70 | hc70
                       · replace hF1 := ite_t hF1 (hc70)
                         refine L (.bool true) rfl rfl (congrArg (fun b => some (AV.bool b, _)) hc70) <| WO_lim (g := 17) _ _ rfl rfl rfl rfl rfl rfl rfl rfl hglob lim_limited (fun glob72 => ?_)
                         exact L (bA true) rfl rfl rfl <| nl ((hJ70 _).2 ⟨true, _, _, _, rfl, (And.intro rfl True.intro), True.intro, Option.some.inj hF1⟩)
                       · replace hF1 := ite_f hF1 (not_t hc70)
                         exact L (.bool false) rfl rfl (congrArg (fun b => some (AV.bool b, _)) hc70) <| WO_no _ rfl rfl <| L (bA false) rfl rfl rfl <| nl ((hJ70 _).2 ⟨false, _, _, _, rfl, (And.intro rfl True.intro), True.intro, Option.some.inj hF1⟩)
                   · rcases bool_cases (f == 0) with hc67 | hc67
                     · replace hF1 := ite_t hF1 (beq_t hc67)
                       refine L (.bool true) rfl rfl (congrArg (fun b => some (AV.bool b, _)) hc67) <| L (Sl.av 1 c_i64 y) rfl rfl rfl <| L (iA most) rfl rfl rfl <| L (Sl.av 1 c_i64 wants10.sl) (h' := ⟨upd _ 10 ⟨v103, Ar.fcon 1 c_i64 wants10⟩, _, _⟩) rfl rfl (op_frz2 (a := wants10) (n := 1) (c := c_i64) rfl rfl rfl rfl rfl rfl) <| L (Sl.av 1 c_i64 weights7.sl) (h' := ⟨upd _ 11 ⟨v112, Ar.fcon 1 c_i64 weights7⟩, _, _⟩) rfl rfl (op_frz2 (a := weights7) (n := 1) (c := c_i64) rfl rfl rfl rfl rfl rfl) ?_
                       obtain ⟨r1371, h73, hF1⟩ := bind_some hF1
                       refine WO_rd (g := 19) (args := [(iA most), (Sl.av 1 c_i64 wants10.sl), (Sl.av 1 c_i64 weights7.sl)]) (r := (Sl.av 1 c_i64 r1371)) _ _ rfl rfl rfl rfl rfl rfl rfl (ok_gateref1_FairOf _ _ _ h73 _ _ ) ?_
                       obtain ⟨r1381, h74, hF1⟩ := bind_some hF1
                       exact WO_rd (g := 18) (args := [(Sl.av 1 c_i64 y), (Sl.av 1 c_i64 r1371)]) (r := (bA r1381)) _ _ rfl rfl rfl rfl rfl rfl rfl (ok_slices_Equal_int_int _ _ h74 _ _ ) <| L (bA r1381) rfl rfl rfl <| nl ((hJ67 _).2 ⟨r1381, _, _, rfl, (And.intro rfl True.intro), True.intro, Option.some.inj hF1⟩)
                     · replace hF1 := ite_f hF1 (beq_f hc67)
                       exact L (.bool false) rfl rfl (congrArg (fun b => some (AV.bool b, _)) hc67) <| WO_no _ rfl rfl <| WO_no _ rfl rfl <| WO_no _ rfl rfl <| WO_no _ rfl rfl <| WO_no _ rfl rfl <| WO_no _ rfl rfl <| L (bA false) rfl rfl rfl <| nl ((hJ67 _).2 ⟨false, _, _, rfl, (And.intro rfl True.intro), True.intro, Option.some.inj hF1⟩)
               · refine cd r102 rfl (fun hc56 => ?_) (fun hc56 => ?_)
                 · replace hF1 := ite_t hF1 (hc56)
                   refine rg <| L (.rsl (.fr 0 10) v102 0 wants7.list.length) rfl rfl rfl <| L (Sl.av 1 c_i64 (Sl.full [1])) rfl rfl (op_sliceN rfl rfl rfl) ?_
                   obtain ⟨wants11, h_wants11, hF1⟩ := bind_some hF1
                   exact L (.rsl (.fr 0 10) (v102 + 1) 0 wants11.list.length) (h' := ⟨upd _ 10 ⟨v102 + 1, Ar.con 1 c_i64 wants11⟩, _, _⟩) rfl rfl (op_append rfl rfl rfl rfl rfl (arr_app (a := wants7) (a' := wants11) (n := 1) (c := c_i64) (z := [(iA 0)]) rfl rfl rfl rfl rfl (by decide) (fun _ => rfl) rfl rfl rfl rfl h_wants11)) <| L (.rsl (.fr 0 10) (v102 + 1) 0 wants11.list.length) rfl rfl rfl <| nl <| (hJ55 _).2 ⟨wants11, v102 + 1, _, _, rfl, (And.intro rfl (And.intro rfl (And.intro rfl True.intro))), (And.intro rfl (And.intro rfl True.intro)), Option.some.inj hF1⟩
                 · replace hF1 := ite_f hF1 (not_t hc56)
                   exact sk <| (hJ55 _).2 ⟨wants7, v102, _, _, rfl, (And.intro rfl (And.intro rfl (And.intro rfl True.intro))), (And.intro rfl (And.intro rfl True.intro)), Option.some.inj hF1⟩
             · refine cd t92 rfl (fun hc51 => ?_) (fun hc51 => ?_)
               · replace hF1 := ite_t hF1 (hc51)
                 refine rg <| L (.rsl (.fr 0 10) v102 0 wants4.list.length) rfl rfl rfl <| L (.rsl (.fr 0 11) v112 0 weights4.list.length) rfl rfl rfl <| L (.ptr (.fr 0 16) 1 0) rfl rfl rfl ?_
                 obtain ⟨⟨r961, t1624⟩, h49, hF1⟩ := bind_some hF1
                 refine WO_mutL (g := 7) (args := fun p => [p, (iA 0), (iA 1000000000)]) (t := 16) (v := 1) (r := (iA r961)) _ _ rfl rfl rfl rfl rfl rfl rfl (fun _ _ => inferInstance) rfl (ok_gatemake_Stream_Odd _ _ _ h49) <| L (.ptr (.fr 0 16) 1 0) rfl rfl rfl ?_
                 obtain ⟨⟨r981, t1625⟩, h50, hF1⟩ := bind_some hF1
                 refine WO_mutL (g := 7) (args := fun p => [p, (iA 1), (iA 1000)]) (t := 16) (v := 1) (r := (iA r981)) _ _ rfl rfl rfl rfl rfl rfl rfl (fun _ _ => inferInstance) rfl (ok_gatemake_Stream_Odd _ _ _ h50) ?_
                 obtain ⟨x3, h_x3, hF1⟩ := bind_some hF1
                 refine L (.eptr (.fr 0 10) v102 (0 : Int).toNat 0) rfl rfl (op_ix rfl (ix_arr (a := wants4) (n := 1) (c := c_i64) rfl rfl rfl h_x3)) ?_
                 obtain ⟨wants8, h_wants8, hF1⟩ := bind_some hF1
                 refine L (.tup []) (h' := ⟨upd _ 10 ⟨v102, Ar.con 1 c_i64 wants8⟩, _, _⟩) rfl rfl (op_store rfl rfl (st_arr (a := wants4) (a' := wants8) (n := 1) (c := c_i64) (x := x3) (x' := r961) (y := (iA r961)) rfl rfl h_x3 (Nat.le_of_ble_eq_true rfl) rfl h_wants8)) ?_
                 rw [← Ar.set_len h_wants8]
                 obtain ⟨x4, h_x4, hF1⟩ := bind_some hF1
                 refine L (.eptr (.fr 0 11) v112 (0 : Int).toNat 0) rfl rfl (op_ix rfl (ix_arr (a := weights4) (n := 1) (c := c_i64) rfl rfl rfl h_x4)) ?_
                 obtain ⟨weights8, h_weights8, hF1⟩ := bind_some hF1
                 refine L (.tup []) (h' := ⟨upd _ 11 ⟨v112, Ar.con 1 c_i64 weights8⟩, _, _⟩) rfl rfl (op_store rfl rfl (st_arr (a := weights4) (a' := weights8) (n := 1) (c := c_i64) (x := x4) (x' := r981) (y := (iA r981)) rfl rfl h_x4 (Nat.le_of_ble_eq_true rfl) rfl h_weights8)) ?_
                 rw [← Ar.set_len h_weights8]
                 exact nl <| (hJ48 _).2 ⟨t1625, wants8, weights8, _, _, rfl, (And.intro rfl (And.intro rfl (And.intro rfl (And.intro rfl True.intro)))), (And.intro rfl (And.intro rfl (And.intro rfl True.intro))), Option.some.inj hF1⟩
               · replace hF1 := ite_f hF1 (not_t hc51)
                 exact sk <| (hJ48 _).2 ⟨t1620, wants4, weights4, _, _, rfl, (And.intro rfl (And.intro rfl (And.intro rfl (And.intro rfl True.intro)))), (And.intro rfl (And.intro rfl (And.intro rfl True.intro))), Option.some.inj hF1⟩
           · rcases bool_cases (decide ((wants4.list.length : Int) > 0)) with hc42 | hc42
             · replace hF1 := ite_t hF1 (dec_t hc42)
               refine L (.bool true) rfl rfl (congrArg (fun b => some (AV.bool b, _)) hc42) <| L (.ptr (.fr 0 16) 1 0) rfl rfl rfl ?_
               obtain ⟨⟨r911, t1627⟩, h76, hF1⟩ := bind_some hF1
               exact WO_mutL (g := 6) (args := fun p => [p, (iA 20)]) (t := 16) (v := 1) (r := (bA r911)) _ _ rfl rfl rfl rfl rfl rfl rfl (fun _ _ => inferInstance) rfl (ok_gatemake_Stream_Flip _ _ h76) <| L (bA r911) rfl rfl rfl <| nl ((hJ42 _).2 ⟨t1627, r911, _, _, rfl, (And.intro rfl (And.intro rfl (And.intro rfl (And.intro rfl (And.intro rfl True.intro))))), (And.intro rfl (And.intro rfl (And.intro rfl True.intro))), Option.some.inj hF1⟩)
             · replace hF1 := ite_f hF1 (dec_f hc42)
               exact L (.bool false) rfl rfl (congrArg (fun b => some (AV.bool b, _)) hc42) <| WO_no _ rfl rfl <| WO_no _ rfl rfl <| L (bA false) rfl rfl rfl <| nl ((hJ42 _).2 ⟨t1616, false, _, _, rfl, (And.intro rfl (And.intro rfl (And.intro rfl (And.intro rfl (And.intro rfl True.intro))))), (And.intro rfl (And.intro rfl (And.intro rfl True.intro))), Option.some.inj hF1⟩)
         · refine W_rangeL hb35 R35 ((hR35 _ _ _).2 ⟨(cb24 10).ver + 1, (cb24 11).ver + 1, _, _, rfl, (And.intro rfl (And.intro rfl (And.intro rfl (And.intro rfl (And.intro rfl (And.intro rfl True.intro)))))), (And.intro rfl (And.intro rfl (And.intro rfl True.intro)))⟩) ?_ ?_
           · intro i hi35 v st s hr hF1 hD1
             obtain ⟨t1615, wants3, weights3⟩ := v
             obtain ⟨v101, v111, tm36, cb36, rfl, hT36, hC36⟩ := (hR35 _ _ _).1 hr
             obtain ⟨tm36, rfl⟩ := allEq hT36
             obtain ⟨cb36, rfl⟩ := allEq hC36
             dsimp only [gatelaw1_RoomsCounted_l0] at hF1
             refine sq (rg ?_)
             refine WO_do (y := (bA (decide (((i : Nat) : Int) < r70)))) _ rfl rfl rfl (nl ?_)
             refine sq <| cd true (congrArg some (rangeN_lt hi35)) (fun _ => ?_) (fun h => absurd h (by decide))
             refine sk <| sq <| bk <| rg <| L (.rsl (.fr 0 10) v101 0 wants3.list.length) rfl rfl rfl <| L (.ptr (.fr 0 16) 1 0) rfl rfl rfl <| L (Sl.av 1 c_i64 (Sl.full [0, 1, 3, 9, 20, 1000000000])) rfl rfl (op_sliceN rfl rfl rfl) ?_
             obtain ⟨⟨r762, t1617⟩, h39, hF1⟩ := bind_some hF1
             refine WO_mutL (g := 8) (args := fun p => [p, (Sl.av 1 c_i64 (Sl.full [0, 1, 3, 9, 20, 1000000000]))]) (t := 16) (v := 1) (r := (iA r762)) _ _ rfl rfl rfl rfl rfl rfl rfl (fun _ _ => inferInstance) rfl (ok_gatemake_Stream_Pick _ _ h39) <| L (Sl.av 1 c_i64 (Sl.full [r762])) rfl rfl (op_sliceN rfl rfl rfl) ?_
             obtain ⟨wants5, h_wants5, hF1⟩ := bind_some hF1
             refine L (.rsl (.fr 0 10) (v101 + 1) 0 wants5.list.length) (h' := ⟨upd _ 10 ⟨v101 + 1, Ar.con 1 c_i64 wants5⟩, _, _⟩) rfl rfl (op_append rfl rfl rfl rfl rfl (arr_app (a := wants3) (a' := wants5) (n := 1) (c := c_i64) (z := [(iA 0)]) rfl rfl rfl rfl rfl (by decide) (fun _ => rfl) rfl rfl rfl rfl h_wants5)) <| L (.rsl (.fr 0 11) v111 0 weights3.list.length) rfl rfl rfl <| L (.ptr (.fr 0 16) 1 0) rfl rfl rfl <| L (Sl.av 1 c_i64 (Sl.full [1, 1, 2, 5, 1000])) rfl rfl (op_sliceN rfl rfl rfl) ?_
             obtain ⟨⟨r822, t1618⟩, h40, hF1⟩ := bind_some hF1
             refine WO_mutL (g := 8) (args := fun p => [p, (Sl.av 1 c_i64 (Sl.full [1, 1, 2, 5, 1000]))]) (t := 16) (v := 1) (r := (iA r822)) _ _ rfl rfl rfl rfl rfl rfl rfl (fun _ _ => inferInstance) rfl (ok_gatemake_Stream_Pick _ _ h40) <| L (Sl.av 1 c_i64 (Sl.full [r822])) rfl rfl (op_sliceN rfl rfl rfl) ?_
             obtain ⟨weights5, h_weights5, hF1⟩ := bind_some hF1
             exact L (.rsl (.fr 0 11) (v111 + 1) 0 weights5.list.length) (h' := ⟨upd _ 11 ⟨v111 + 1, Ar.con 1 c_i64 weights5⟩, _, _⟩) rfl rfl (op_append rfl rfl rfl rfl rfl (arr_app (a := weights3) (a' := weights5) (n := 1) (c := c_i64) (z := [(iA 0)]) rfl rfl rfl rfl rfl (by decide) (fun _ => rfl) rfl rfl rfl rfl h_weights5)) <| L (.rsl (.fr 0 10) (v101 + 1) 0 wants5.list.length) rfl rfl rfl <| L (.rsl (.fr 0 11) (v111 + 1) 0 weights5.list.length) rfl rfl rfl <| nl <| rg <| WO_do (y := (iA ((i + 1 : Nat) : Int))) _ rfl rfl (congrArg (fun n => some (AV.int .i64 n, _)) (rangeN_len hi35 hn35)) <| WO_do (y := (iA ((i + 1 : Nat) : Int))) _ rfl rfl rfl <| nl <| Exists.intro _ (And.intro (Option.some.inj hF1).symm ((hR35 _ _ _).2 ⟨v101 + 1, v111 + 1, _, _, rfl, (And.intro rfl (And.intro rfl (And.intro rfl (And.intro rfl (And.intro rfl (And.intro rfl True.intro)))))), (And.intro rfl (And.intro rfl (And.intro rfl True.intro)))⟩))
           · intro v st hr hD1
             obtain ⟨t1615, wants3, weights3⟩ := v
             obtain ⟨v101, v111, tm36, cb36, rfl, hT36, hC36⟩ := (hR35 _ _ _).1 hr
             obtain ⟨tm36, rfl⟩ := allEq hT36
             obtain ⟨cb36, rfl⟩ := allEq hC36
             refine sq (rg ?_)
             refine WO_do (y := .bool false) _ rfl rfl (congrArg (fun b => some (AV.bool b, _)) (rangeN_ge _)) (nl ?_)
             refine sq <| cd false rfl (fun h => absurd h (by decide)) (fun _ => ?_)
             exact xt <| (hJ35 _).2 ⟨t1615, wants3, weights3, v101, v111, _, _, rfl, (And.intro rfl (And.intro rfl (And.intro rfl (And.intro rfl True.intro)))), (And.intro rfl (And.intro rfl (And.intro rfl True.intro))), hD1⟩
     · rcases bool_cases (e != fault) with hc23 | hc23
       · replace hF1 := ite_t hF1 (bne_t hc23)
         exact L (.bool true) rfl rfl (congrArg (fun b => some (AV.bool b, _)) hc23) <| WO_no _ rfl rfl <| WO_no _ rfl rfl <| WO_no _ rfl rfl <| WO_no _ rfl rfl <| WO_no _ rfl rfl <| WO_no _ rfl rfl <| WO_no _ rfl rfl <| WO_no _ rfl rfl <| WO_no _ rfl rfl <| L (bA true) rfl rfl rfl <| nl ((hJ23 _).2 ⟨true, _, _, rfl, (And.intro rfl (And.intro rfl True.intro)), (And.intro rfl True.intro), Option.some.inj hF1⟩)
       · replace hF1 := ite_f hF1 (bne_f hc23)
         refine L (.bool false) rfl rfl (congrArg (fun b => some (AV.bool b, _)) hc23) <| L (iA fault) rfl rfl rfl <| L (bA (fault == 0)) rfl rfl rfl ?_
         obtain ⟨y79, hF2, hF1⟩ := bind_some hF1
         obtain ⟨J79, hJ79⟩ : ∃ J : St → Prop, ∀ st, J st ↔ (∃ (t641 : Bool) (tm80 : Nat → AV) (cb80 : AE.Frame), st = ⟨tm80, ⟨cb80, out, glob⟩⟩ ∧ AllEq tm80 [(3, (.ptr (.fr 0 16) 1 0)), (55, (bA false)), (64, (bA t641))] ∧ AllEq cb80 [(16, ⟨1, .cells (c_gatemake_Stream t167)⟩)] ∧ t641 = y79) := ⟨_, fun _ => Iff.rfl⟩
         refine WO_cut 7 J79 (fun st hst => ?_) ?_
         · obtain ⟨t641, tm80, cb80, rfl, hT80, hC80, rfl⟩ := (hJ79 st).1 hst
           obtain ⟨tm80, rfl⟩ := allEq hT80
           obtain ⟨cb80, rfl⟩ := allEq hC80
           exact L (bA t641) rfl rfl rfl <| nl ((hJ23 _).2 ⟨t641, _, _, rfl, (And.intro rfl (And.intro rfl True.intro)), (And.intro rfl True.intro), Option.some.inj hF1⟩)
         · rcases bool_cases (fault == 0) with hc79 | hc79
           · replace hF2 := ite_t hF2 (beq_t hc79)
             refine L (.bool true) rfl rfl (congrArg (fun b => some (AV.bool b, _)) hc79) <| L (iA n) rfl rfl rfl <| L (.agg (c_api_Limit x)) rfl rfl (op_load rfl (ld_con (.agg (c_api_Limit x)) rfl rfl (cs := (c_api_Limit x)) (con_fr rfl) rfl)) <| L (iA long) rfl rfl rfl ?_
             obtain ⟨r623, h81, hF2⟩ := bind_some hF2
             exact WO_rd (g := 13) (args := [(.agg (c_api_Limit x)), (iA long)]) (r := (iA r623)) _ _ rfl rfl rfl rfl rfl rfl rfl (ok_gateref1_RoomOf _ _ h81 _ _ ) <| L (bA (n != r623)) rfl rfl rfl <| L (bA (n != r623)) rfl rfl rfl <| nl ((hJ79 _).2 ⟨n != r623, _, _, rfl, (And.intro rfl (And.intro rfl (And.intro rfl True.intro))), (And.intro rfl True.intro), Option.some.inj hF2⟩)
           · replace hF2 := ite_f hF2 (beq_f hc79)
             exact L (.bool false) rfl rfl (congrArg (fun b => some (AV.bool b, _)) hc79) <| WO_no _ rfl rfl <| WO_no _ rfl rfl <| WO_no _ rfl rfl <| WO_no _ rfl rfl <| WO_no _ rfl rfl <| L (bA false) rfl rfl rfl <| nl ((hJ79 _).2 ⟨false, _, _, rfl, (And.intro rfl (And.intro rfl (And.intro rfl True.intro))), (And.intro rfl True.intro), Option.some.inj hF2⟩)
   · rcases bool_cases (decide (long < 1)) with hc15 | hc15
     · exact L (.bool true) rfl rfl (congrArg (fun b => some (AV.bool b, _)) hc15) <| WO_no _ rfl rfl <| WO_no _ rfl rfl <| L (bA ((decide (long < 1)) || (decide (long > 100000)))) rfl rfl (congrArg (fun b => some (AV.bool b, _)) (by rw [hc15]; rfl)) <| nl ((hJ15 _).2 ⟨_, _, rfl, (And.intro rfl (And.intro rfl (And.intro rfl (And.intro rfl (And.intro rfl (And.intro rfl (And.intro rfl (And.intro rfl True.intro)))))))), (And.intro rfl (And.intro rfl True.intro))⟩)
     · exact L (.bool false) rfl rfl (congrArg (fun b => some (AV.bool b, _)) hc15) <| L (iA long) rfl rfl rfl <| L (bA (decide (long > 100000))) rfl rfl rfl <| L (bA ((decide (long < 1)) || (decide (long > 100000)))) rfl rfl (congrArg (fun b => some (AV.bool b, _)) (by rw [hc15]; rfl)) <| nl ((hJ15 _).2 ⟨_, _, rfl, (And.intro rfl (And.intro rfl (And.intro rfl (And.intro rfl (And.intro rfl (And.intro rfl (And.intro rfl (And.intro rfl True.intro)))))))), (And.intro rfl (And.intro rfl True.intro))⟩)
 · refine cd r20 rfl (fun hc10 => ?_) (fun hc10 => ?_)
   · replace hF1 := ite_t hF1 (hc10)
     refine rg <| L (.ptr (.fr 0 16) 1 0) rfl rfl rfl ?_
     obtain ⟨⟨r221, t165⟩, h8, hF1⟩ := bind_some hF1
     refine WO_mutL (g := 7) (args := fun p => [p, (iA 1), (iA 1000000000)]) (t := 16) (v := 1) (r := (iA r221)) _ _ rfl rfl rfl rfl rfl rfl rfl (fun _ _ => inferInstance) rfl (ok_gatemake_Stream_Odd _ _ _ h8) <| L (.ptr (.fr 0 16) 1 0) rfl rfl rfl ?_
     obtain ⟨⟨r241, t166⟩, h9, hF1⟩ := bind_some hF1
     exact WO_mutL (g := 7) (args := fun p => [p, (iA 1), (iA 8640000000)]) (t := 16) (v := 1) (r := (iA r241)) _ _ rfl rfl rfl rfl rfl rfl rfl (fun _ _ => inferInstance) rfl (ok_gatemake_Stream_Odd _ _ _ h9) <| L (.ptr (.fr 0 4) 1 2) rfl rfl rfl <| L (.tup []) (h' := ⟨upd _ 4 ⟨1, .cells (c_api_Limit ({ r18 with Most := r221 }))⟩, _, _⟩) rfl rfl (op_store rfl rfl (st_fr (x := (iA r221)) (c_api_Limit ({ r18 with Most := r221 })) rfl rfl (Nat.le_of_ble_eq_true rfl) rfl)) <| L (.ptr (.fr 0 4) 1 3) rfl rfl rfl <| L (.tup []) (h' := ⟨upd _ 4 ⟨1, .cells (c_api_Limit ({ r18 with Most := r221, Per := r241 }))⟩, _, _⟩) rfl rfl (op_store rfl rfl (st_fr (x := (iA r241)) (c_api_Limit ({ r18 with Most := r221, Per := r241 })) rfl rfl (Nat.le_of_ble_eq_true rfl) rfl)) <| nl <| (hJ7 _).2 ⟨t166, { r18 with Most := r221, Per := r241 }, _, _, rfl, (And.intro rfl (And.intro rfl True.intro)), (And.intro rfl (And.intro rfl True.intro)), Option.some.inj hF1⟩
   · replace hF1 := ite_f hF1 (not_t hc10)
     exact sk <| (hJ7 _).2 ⟨t161, r18, _, _, rfl, (And.intro rfl (And.intro rfl True.intro)), (And.intro rfl (And.intro rfl True.intro)), Option.some.inj hF1⟩
end Go.Proofs.Ytdpfbnefkemkiaa
