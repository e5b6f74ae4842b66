/- The evaluator answers as the typed functions. Printed by gen.py. -/
import Derived.Test.YtimnggioioeehaaGreatDoorGrDefs
import Derived.Test.YtimnggioioeehaaGreatDoorGrFacts
namespace Go.Proofs.YtimnggioioeehaaGreatDoor
open Go.AE Go.GW
set_option maxRecDepth 100000
set_option linter.unusedVariables false
theorem ok_gatemake_Below (x : Int) (n : Int) {r : (Int)} (hF0 : gatemake_Below x n = some r) (out : List AE.Frame) (glob : List AObj) : RdOk Tryz.prog pol true 36 [(iA x), (iA n)] out glob (iA r) := by
 unfold gatemake_Below at hF0
 refine rd_walk Tryz.func36 rfl (Nat.not_lt.2 (Nat.le_of_ble_eq_true rfl)) ?_
 intro ro
 refine sq <| rg <| L (iA 0) rfl rfl rfl <| nl <| sq <| sq <| rg <| L (iA n) rfl rfl rfl <| L (bA (decide (n < 1))) rfl rfl rfl <| nl <| cd (decide (n < 1)) rfl (fun hc2 => ?_) (fun hc2 => ?_)
 · replace hF0 := ite_t hF0 (dec_t hc2)
   refine sq <| rg <| L (iA 0) rfl rfl rfl <| nl <| rt ?_
   obtain rfl := Option.some.inj hF0
   exact rd_leaf (.inr rfl) rfl (retV_pl _ _ (iA 0)) rfl rfl
 · replace hF0 := ite_f hF0 (dec_f hc2)
   refine sk <| sq <| rg <| L (iA x) rfl rfl rfl <| L (iA n) rfl rfl rfl ?_
   obtain ⟨x1, h_x1, hF0⟩ := bind_some hF0
   refine L (iA x1) rfl rfl (op_bin rfl (bin_rem h_x1)) <| L (iA x1) rfl rfl rfl <| nl <| sq <| sq <| rg <| L (iA x1) rfl rfl rfl <| L (bA (decide (x1 < 0))) rfl rfl rfl <| nl <| cd (decide (x1 < 0)) rfl (fun hc1 => ?_) (fun hc1 => ?_)
   · replace hF0 := ite_t hF0 (dec_t hc1)
     refine rg <| L (iA x1) rfl rfl rfl <| L (iA n) rfl rfl rfl <| L (iA (w64 (x1 + n))) rfl rfl rfl <| L (iA (w64 (x1 + n))) rfl rfl rfl <| nl <| sq <| rg <| L (iA (w64 (x1 + n))) rfl rfl rfl <| L (iA (w64 (x1 + n))) rfl rfl rfl <| nl <| rt ?_
     obtain rfl := Option.some.inj hF0
     exact rd_leaf (.inr rfl) rfl (retV_pl _ _ (iA (w64 (x1 + n)))) rfl rfl
   · replace hF0 := ite_f hF0 (dec_f hc1)
     refine sk <| sq <| rg <| L (iA x1) rfl rfl rfl <| L (iA x1) rfl rfl rfl <| nl <| rt ?_
     obtain rfl := Option.some.inj hF0
     exact rd_leaf (.inr rfl) rfl (retV_pl _ _ (iA x1)) rfl rfl

theorem ok_gatemake_Stream_Next (s_ : gatemake_Stream) (n : Int) {r : (Int × gatemake_Stream)} (hF0 : gatemake_Stream_Next s_ n = some r) : MutOk Tryz.prog pol 14 (fun p => [p, (iA n)]) (c_gatemake_Stream s_) (iA r.1) (c_gatemake_Stream r.2) := by
 unfold gatemake_Stream_Next at hF0
 refine mut_walk Tryz.func14 rfl (fun _ => Nat.not_lt.2 (Nat.le_of_ble_eq_true rfl)) ?_
 intro out glob d0 w0 hh0 hk_0
 refine sq <| rg <| L (iA 0) rfl rfl rfl <| nl <| sq <| rg <| L (.ptr d0 w0 0) rfl rfl rfl <| L (.ptr d0 w0 0) rfl rfl rfl <| L (.ptr d0 w0 1) rfl rfl rfl <| L (iA s_.at_) rfl rfl (op_load rfl (ld_con (iA s_.at_) rfl rfl (cs := (c_gatemake_Stream s_)) ((con_con2 _ _ _ _ _ hh0).trans hk_0) rfl)) <| L (iA (w64 (s_.at_ + 1))) rfl rfl rfl <| L (.ptr d0 w0 0) rfl rfl rfl <| L (.ptr d0 w0 1) rfl rfl rfl <| WO_stP (X := (iA (w64 (s_.at_ + 1)))) (cs := (c_gatemake_Stream s_)) (cs' := (c_gatemake_Stream ({ s_ with at_ := w64 (s_.at_ + 1) }))) (off := 1) _ rfl rfl rfl rfl rfl rfl rfl rfl hh0 hk_0 (Nat.le_of_ble_eq_true rfl) rfl (fun out1 glob1 hk1 hs1 => ?_)
 replace hs1 := (Same.refl _ _ _).trans hs1
 refine nl <| sq <| sq <| rg <| L (.ptr d0 w0 0) rfl rfl rfl <| L (.ptr d0 w0 0) rfl rfl rfl <| L (.ptr d0 w0 0) rfl rfl rfl <| L (Sl.av 1 c_i64 s_.L) rfl rfl (op_load rfl (ld_con (Sl.av 1 c_i64 s_.L) rfl rfl (cs := (c_gatemake_Stream ({ s_ with at_ := w64 (s_.at_ + 1) }))) ((con_con2 _ _ _ _ _ hh0).trans hk1) rfl)) <| L (iA (s_.L.list.length : Int)) rfl rfl (op_len rfl rfl rfl rfl rfl (len_sl _)) <| L (bA ((s_.L.list.length : Int) == 0)) rfl rfl rfl <| nl <| cd ((s_.L.list.length : Int) == 0) rfl (fun hc5 => ?_) (fun hc5 => ?_)
 · replace hF0 := ite_t hF0 (beq_t hc5)
   refine sq <| rg <| L (.ptr d0 w0 0) rfl rfl rfl <| L (.ptr d0 w0 0) rfl rfl rfl <| L (.ptr d0 w0 1) rfl rfl rfl <| L (iA (w64 (s_.at_ + 1))) rfl rfl (op_load rfl (ld_con (iA (w64 (s_.at_ + 1))) rfl rfl (cs := (c_gatemake_Stream ({ s_ with at_ := w64 (s_.at_ + 1) }))) ((con_con2 _ _ _ _ _ hh0).trans hk1) rfl)) <| L (iA (w64 ((w64 (s_.at_ + 1)) * 7919))) rfl rfl rfl <| L (iA n) rfl rfl rfl ?_
   obtain ⟨r4, h2, hF0⟩ := bind_some hF0
   refine WO_rd (g := 36) (args := [(iA (w64 ((w64 (s_.at_ + 1)) * 7919))), (iA n)]) (r := (iA r4)) _ _ rfl rfl rfl rfl rfl rfl rfl (ok_gatemake_Below _ _ h2 _ _ ) <| L (iA r4) rfl rfl rfl <| nl <| rt ?_
   obtain rfl := Option.some.inj hF0
   exact mut_leaf (.inr rfl) rfl (retV_pl _ _ (iA r4)) hk1 hs1
 · replace hF0 := ite_f hF0 (beq_f hc5)
   refine sk <| sq <| dw (by kernel_rfl) <| L (.ptr d0 w0 0) rfl rfl rfl <| L (.ptr d0 w0 0) rfl rfl rfl <| L (.ptr d0 w0 1) rfl rfl rfl <| L (iA (w64 (s_.at_ + 1))) rfl rfl (op_load rfl (ld_con (iA (w64 (s_.at_ + 1))) rfl rfl (cs := (c_gatemake_Stream ({ s_ with at_ := w64 (s_.at_ + 1) }))) ((con_con2 _ _ _ _ _ hh0).trans hk1) rfl)) <| L (iA (w64 ((w64 (s_.at_ + 1)) - 1))) rfl rfl rfl <| L (.ptr d0 w0 0) rfl rfl rfl <| L (.ptr d0 w0 0) rfl rfl rfl <| L (.ptr d0 w0 0) rfl rfl rfl <| L (Sl.av 1 c_i64 s_.L) rfl rfl (op_load rfl (ld_con (Sl.av 1 c_i64 s_.L) rfl rfl (cs := (c_gatemake_Stream ({ s_ with at_ := w64 (s_.at_ + 1) }))) ((con_con2 _ _ _ _ _ hh0).trans hk1) rfl)) <| L (iA (s_.L.list.length : Int)) rfl rfl (op_len rfl rfl rfl rfl rfl (len_sl _)) ?_
   obtain ⟨i, h_i, hF0⟩ := bind_some hF0
   refine L (iA i) rfl rfl (op_bin rfl (bin_rem h_i)) <| L (iA i) rfl rfl rfl <| nl <| sq <| dw (by kernel_rfl) <| L (.ptr d0 w0 0) rfl rfl rfl <| L (.ptr d0 w0 0) rfl rfl rfl <| L (.ptr d0 w0 1) rfl rfl rfl <| L (iA (w64 (s_.at_ + 1))) rfl rfl (op_load rfl (ld_con (iA (w64 (s_.at_ + 1))) rfl rfl (cs := (c_gatemake_Stream ({ s_ with at_ := w64 (s_.at_ + 1) }))) ((con_con2 _ _ _ _ _ hh0).trans hk1) rfl)) <| L (iA (w64 ((w64 (s_.at_ + 1)) - 1))) rfl rfl rfl <| L (.ptr d0 w0 0) rfl rfl rfl <| L (.ptr d0 w0 0) rfl rfl rfl <| L (.ptr d0 w0 0) rfl rfl rfl <| L (Sl.av 1 c_i64 s_.L) rfl rfl (op_load rfl (ld_con (Sl.av 1 c_i64 s_.L) rfl rfl (cs := (c_gatemake_Stream ({ s_ with at_ := w64 (s_.at_ + 1) }))) ((con_con2 _ _ _ _ _ hh0).trans hk1) rfl)) <| L (iA (s_.L.list.length : Int)) rfl rfl (op_len rfl rfl rfl rfl rfl (len_sl _)) ?_
   obtain ⟨round, h_round, hF0⟩ := bind_some hF0
   refine L (iA round) rfl rfl (op_bin rfl (bin_quo h_round)) <| L (iA round) rfl rfl rfl <| nl <| sq <| rg <| L (.ptr d0 w0 0) rfl rfl rfl <| L (.ptr d0 w0 0) rfl rfl rfl <| L (.ptr d0 w0 0) rfl rfl rfl <| L (Sl.av 1 c_i64 s_.L) rfl rfl (op_load rfl (ld_con (Sl.av 1 c_i64 s_.L) rfl rfl (cs := (c_gatemake_Stream ({ s_ with at_ := w64 (s_.at_ + 1) }))) ((con_con2 _ _ _ _ _ hh0).trans hk1) rfl)) <| L (iA i) rfl rfl rfl ?_
   obtain ⟨x, h_x, hF0⟩ := bind_some hF0
   refine L (.cptr [(iA x)]) rfl rfl (op_ix rfl (ix_sl (c := c_i64) rfl rfl h_x)) <| L (iA x) rfl rfl rfl ?_
   obtain ⟨r56, h3, hF0⟩ := bind_some hF0
   refine WO_rd (g := 36) (args := [(iA x), (iA 1073741824)]) (r := (iA r56)) _ _ rfl rfl rfl rfl rfl rfl rfl (ok_gatemake_Below _ _ h3 _ _ ) <| L (iA round) rfl rfl rfl <| L (iA i) rfl rfl rfl <| L (iA (w64 (7919 + i))) rfl rfl rfl <| L (iA (w64 (round * (w64 (7919 + i))))) rfl rfl rfl <| L (iA (w64 (r56 + (w64 (round * (w64 (7919 + i))))))) rfl rfl rfl <| L (iA n) rfl rfl rfl ?_
   obtain ⟨r41, h4, hF0⟩ := bind_some hF0
   refine WO_rd (g := 36) (args := [(iA (w64 (r56 + (w64 (round * (w64 (7919 + i))))))), (iA n)]) (r := (iA r41)) _ _ rfl rfl rfl rfl rfl rfl rfl (ok_gatemake_Below _ _ h4 _ _ ) <| L (iA r41) rfl rfl rfl <| nl <| rt ?_
   obtain rfl := Option.some.inj hF0
   exact mut_leaf (.inr rfl) rfl (retV_pl _ _ (iA r41)) hk1 hs1

theorem ok_gatemake_Stream_Range (s_ : gatemake_Stream) (low : Int) (high : Int) {r : (Int × gatemake_Stream)} (hF0 : gatemake_Stream_Range s_ low high = some r) : MutOk Tryz.prog pol 5 (fun p => [p, (iA low), (iA high)]) (c_gatemake_Stream s_) (iA r.1) (c_gatemake_Stream r.2) := by
 unfold gatemake_Stream_Range at hF0
 refine mut_walk Tryz.func5 rfl (fun _ => Nat.not_lt.2 (Nat.le_of_ble_eq_true rfl)) ?_
 intro out glob d0 w0 hh0 hk_0
 refine sq <| rg <| L (iA 0) rfl rfl rfl <| nl <| sq <| sq <| rg <| L (iA high) rfl rfl rfl <| L (iA low) rfl rfl rfl <| L (bA (decide (high < low))) rfl rfl rfl <| nl <| cd (decide (high < low)) rfl (fun hc2 => ?_) (fun hc2 => ?_)
 · replace hF0 := ite_t hF0 (dec_t hc2)
   refine sq <| rg <| L (iA low) rfl rfl rfl <| L (iA low) rfl rfl rfl <| nl <| rt ?_
   obtain rfl := Option.some.inj hF0
   exact mut_leaf (.inr rfl) rfl (retV_pl _ _ (iA low)) hk_0 (Same.refl _ _ _)
 · replace hF0 := ite_f hF0 (dec_f hc2)
   refine sk <| sq <| rg <| L (iA low) rfl rfl rfl <| L (.ptr d0 w0 0) rfl rfl rfl <| L (iA high) rfl rfl rfl <| L (iA low) rfl rfl rfl <| L (iA (w64 (high - low))) rfl rfl rfl <| L (iA (w64 ((w64 (high - low)) + 1))) rfl rfl rfl ?_
   obtain ⟨⟨r17, s_1⟩, h1, hF0⟩ := bind_some hF0
   refine WO_mutP (g := 14) (args := fun p => [p, (iA (w64 ((w64 (high - low)) + 1)))]) (d := d0) (v := w0) (r := (iA r17)) _ _ rfl rfl rfl rfl rfl rfl rfl (fun _ _ => inferInstance) hh0 hk_0 (ok_gatemake_Stream_Next _ _ h1) (fun out1 glob1 hk1 hs1 => ?_)
   replace hs1 := (Same.refl _ _ _).trans hs1
   refine L (iA (w64 (low + r17))) rfl rfl rfl <| L (iA (w64 (low + r17))) rfl rfl rfl <| nl <| rt ?_
   obtain rfl := Option.some.inj hF0
   exact mut_leaf (.inr rfl) rfl (retV_pl _ _ (iA (w64 (low + r17)))) hk1 hs1

theorem ok_gatemake_Stream_Some (s_ : gatemake_Stream) (l : (Sl Str)) {r : (Str × gatemake_Stream)} (hF0 : gatemake_Stream_Some s_ l = some r) : MutOk Tryz.prog pol 15 (fun p => [p, (Sl.av 1 c_str l)]) (c_gatemake_Stream s_) (sA r.1) (c_gatemake_Stream r.2) := by
 unfold gatemake_Stream_Some at hF0
 refine mut_walk Tryz.func15 rfl (fun _ => Nat.not_lt.2 (Nat.le_of_ble_eq_true rfl)) ?_
 intro out glob d0 w0 hh0 hk_0
 refine sq <| rg <| L (sA []) rfl rfl rfl <| nl <| sq <| rg <| L (Sl.av 1 c_str l) rfl rfl rfl <| L (.ptr d0 w0 0) rfl rfl rfl <| L (Sl.av 1 c_str l) rfl rfl rfl <| L (iA (l.list.length : Int)) rfl rfl (op_len rfl rfl rfl rfl rfl (len_sl _)) ?_
 obtain ⟨⟨r9, s_1⟩, h1, hF0⟩ := bind_some hF0
 refine WO_mutP (g := 14) (args := fun p => [p, (iA (l.list.length : Int))]) (d := d0) (v := w0) (r := (iA r9)) _ _ rfl rfl rfl rfl rfl rfl rfl (fun _ _ => inferInstance) hh0 hk_0 (ok_gatemake_Stream_Next _ _ h1) (fun out1 glob1 hk1 hs1 => ?_)
 replace hs1 := (Same.refl _ _ _).trans hs1
 obtain ⟨x, h_x, hF0⟩ := bind_some hF0
 refine L (.cptr [(sA x)]) rfl rfl (op_ix rfl (ix_sl (c := c_str) rfl rfl h_x)) <| L (sA x) rfl rfl rfl <| L (sA x) rfl rfl rfl <| nl <| rt ?_
 obtain rfl := Option.some.inj hF0
 exact mut_leaf (.inr rfl) rfl (retV_pl _ _ (sA x)) hk1 hs1

theorem ok_gatemake_Stream_Pick (s_ : gatemake_Stream) (l : (Sl Int)) {r : (Int × gatemake_Stream)} (hF0 : gatemake_Stream_Pick s_ l = some r) : MutOk Tryz.prog pol 16 (fun p => [p, (Sl.av 1 c_i64 l)]) (c_gatemake_Stream s_) (iA r.1) (c_gatemake_Stream r.2) := by
 unfold gatemake_Stream_Pick at hF0
 refine mut_walk Tryz.func16 rfl (fun _ => Nat.not_lt.2 (Nat.le_of_ble_eq_true rfl)) ?_
 intro out glob d0 w0 hh0 hk_0
 refine sq <| rg <| L (iA 0) rfl rfl rfl <| nl <| sq <| rg <| L (Sl.av 1 c_i64 l) rfl rfl rfl <| L (.ptr d0 w0 0) rfl rfl rfl <| L (Sl.av 1 c_i64 l) rfl rfl rfl <| L (iA (l.list.length : Int)) rfl rfl (op_len rfl rfl rfl rfl rfl (len_sl _)) ?_
 obtain ⟨⟨r9, s_1⟩, h1, hF0⟩ := bind_some hF0
 refine WO_mutP (g := 14) (args := fun p => [p, (iA (l.list.length : Int))]) (d := d0) (v := w0) (r := (iA r9)) _ _ rfl rfl rfl rfl rfl rfl rfl (fun _ _ => inferInstance) hh0 hk_0 (ok_gatemake_Stream_Next _ _ h1) (fun out1 glob1 hk1 hs1 => ?_)
 replace hs1 := (Same.refl _ _ _).trans hs1
 obtain ⟨x, h_x, hF0⟩ := bind_some hF0
 refine L (.cptr [(iA x)]) rfl rfl (op_ix rfl (ix_sl (c := c_i64) rfl rfl h_x)) <| L (iA x) rfl rfl rfl <| L (iA x) rfl rfl rfl <| nl <| rt ?_
 obtain rfl := Option.some.inj hF0
 exact mut_leaf (.inr rfl) rfl (retV_pl _ _ (iA x)) hk1 hs1

theorem ok_gatemake_Stream_Flip (s_ : gatemake_Stream) (n : Int) {r : (Bool × gatemake_Stream)} (hF0 : gatemake_Stream_Flip s_ n = some r) : MutOk Tryz.prog pol 17 (fun p => [p, (iA n)]) (c_gatemake_Stream s_) (bA r.1) (c_gatemake_Stream r.2) := by
 unfold gatemake_Stream_Flip at hF0
 refine mut_walk Tryz.func17 rfl (fun _ => Nat.not_lt.2 (Nat.le_of_ble_eq_true rfl)) ?_
 intro out glob d0 w0 hh0 hk_0
 refine sq <| rg <| L (bA false) rfl rfl rfl <| nl <| sq <| rg <| L (.ptr d0 w0 0) rfl rfl rfl <| L (iA n) rfl rfl rfl ?_
 obtain ⟨⟨r7, s_1⟩, h1, hF0⟩ := bind_some hF0
 refine WO_mutP (g := 14) (args := fun p => [p, (iA n)]) (d := d0) (v := w0) (r := (iA r7)) _ _ rfl rfl rfl rfl rfl rfl rfl (fun _ _ => inferInstance) hh0 hk_0 (ok_gatemake_Stream_Next _ _ h1) (fun out1 glob1 hk1 hs1 => ?_)
 replace hs1 := (Same.refl _ _ _).trans hs1
 refine L (bA (r7 == 0)) rfl rfl rfl <| L (bA (r7 == 0)) rfl rfl rfl <| nl <| rt ?_
 obtain rfl := Option.some.inj hF0
 exact mut_leaf (.inr rfl) rfl (retV_pl _ _ (bA (r7 == 0))) hk1 hs1

theorem ok_gatemake_Stream_Odd (s_ : gatemake_Stream) (low : Int) (high : Int) {r : (Int × gatemake_Stream)} (hF0 : gatemake_Stream_Odd s_ low high = some r) : MutOk Tryz.prog pol 18 (fun p => [p, (iA low), (iA high)]) (c_gatemake_Stream s_) (iA r.1) (c_gatemake_Stream r.2) := by
 unfold gatemake_Stream_Odd at hF0
 refine mut_walk Tryz.func18 rfl (fun _ => Nat.not_lt.2 (Nat.le_of_ble_eq_true rfl)) ?_
 intro out glob d0 w0 hh0 hk_0
 refine sq <| rg <| L (iA 0) rfl rfl rfl <| nl <| sq <| sq <| rg <| L (.ptr d0 w0 0) rfl rfl rfl ?_
 obtain ⟨⟨r8, s_1⟩, h1, hF0⟩ := bind_some hF0
 refine WO_mutP (g := 17) (args := fun p => [p, (iA 12)]) (d := d0) (v := w0) (r := (bA r8)) _ _ rfl rfl rfl rfl rfl rfl rfl (fun _ _ => inferInstance) hh0 hk_0 (ok_gatemake_Stream_Flip _ _ h1) (fun out1 glob1 hk1 hs1 => ?_)
 replace hs1 := (Same.refl _ _ _).trans hs1
 refine nl <| cd r8 rfl (fun hc4 => ?_) (fun hc4 => ?_)
 · replace hF0 := ite_t hF0 (hc4)
   refine sq <| rg <| L (.ptr d0 w0 0) rfl rfl rfl <| L (iA low) rfl rfl rfl <| L (iA (w64 (low - 1))) rfl rfl rfl <| L (iA high) rfl rfl rfl <| L (iA (w64 (high + 1))) rfl rfl rfl <| L (iA low) rfl rfl rfl <| L (iA high) rfl rfl rfl <| L (Sl.av 1 c_i64 (Sl.full [w64 (low - 1), w64 (high + 1), low, high, (-1099511627776), 1099511627776] : Sl Int)) rfl rfl (op_sliceN rfl rfl rfl) ?_
   obtain ⟨⟨r6, s_2⟩, h2, hF0⟩ := bind_some hF0
   refine WO_mutP (g := 16) (args := fun p => [p, (Sl.av 1 c_i64 (Sl.full [w64 (low - 1), w64 (high + 1), low, high, (-1099511627776), 1099511627776] : Sl Int))]) (d := d0) (v := w0) (r := (iA r6)) _ _ rfl rfl rfl rfl rfl rfl rfl (fun _ _ => inferInstance) hh0 hk1 (ok_gatemake_Stream_Pick _ _ h2) (fun out2 glob2 hk2 hs2 => ?_)
   replace hs2 := hs1.trans hs2
   refine L (iA r6) rfl rfl rfl <| nl <| rt ?_
   obtain rfl := Option.some.inj hF0
   exact mut_leaf (.inr rfl) rfl (retV_pl _ _ (iA r6)) hk2 hs2
 · replace hF0 := ite_f hF0 (not_t hc4)
   refine sk <| sq <| rg <| L (.ptr d0 w0 0) rfl rfl rfl <| L (iA low) rfl rfl rfl <| L (iA high) rfl rfl rfl ?_
   obtain ⟨⟨r61, s_3⟩, h3, hF0⟩ := bind_some hF0
   refine WO_mutP (g := 5) (args := fun p => [p, (iA low), (iA high)]) (d := d0) (v := w0) (r := (iA r61)) _ _ rfl rfl rfl rfl rfl rfl rfl (fun _ _ => inferInstance) hh0 hk1 (ok_gatemake_Stream_Range _ _ _ h3) (fun out3 glob3 hk3 hs3 => ?_)
   replace hs3 := hs1.trans hs3
   refine L (iA r61) rfl rfl rfl <| nl <| rt ?_
   obtain rfl := Option.some.inj hF0
   exact mut_leaf (.inr rfl) rfl (retV_pl _ _ (iA r61)) hk3 hs3

theorem ok_gatemake_Stream_GateRecords (s_ : gatemake_Stream) (many : Int) {r : ((Sl api_Record) × gatemake_Stream)} (hF0 : gatemake_Stream_GateRecords s_ many = some r) : MutOk Tryz.prog pol 4 (fun p => [p, (iA many)]) (c_gatemake_Stream s_) (Sl.av 7 c_api_Record r.1) (c_gatemake_Stream r.2) := by
 unfold gatemake_Stream_GateRecords at hF0
 refine mut_walk Tryz.func4 rfl (fun _ => Nat.not_lt.2 (Nat.le_of_ble_eq_true rfl)) ?_
 intro out glob d0 w0 hh0 hk_0
 refine sq <| rg <| L (Sl.av 7 c_api_Record Sl.nil) rfl rfl rfl <| nl <| sq <| rg <| L (Sl.av 7 c_api_Record Sl.nil) rfl rfl rfl <| nl <| sq <| rg <| L (.ptr d0 w0 0) rfl rfl rfl ?_
 obtain ⟨⟨at_, s_1⟩, h1, hF0⟩ := bind_some hF0
 refine WO_mutP (g := 14) (args := fun p => [p, (iA 20)]) (d := d0) (v := w0) (r := (iA at_)) _ _ rfl rfl rfl rfl rfl rfl rfl (fun _ _ => inferInstance) hh0 hk_0 (ok_gatemake_Stream_Next _ _ h1) (fun out1 glob1 hk1 hs1 => ?_)
 replace hs1 := (Same.refl _ _ _).trans hs1
 refine L (iA at_) rfl rfl rfl <| nl <| sq <| sq <| rg <| L (iA many) rfl rfl rfl <| L (iA 0) rfl rfl rfl <| nl <| bk ?_
 obtain ⟨b1, hb32, hF0⟩ := bind_some hF0
 obtain ⟨hn32, hb32⟩ := ite_none hb32
 obtain ⟨J32, hJ32⟩ : ∃ J : St → Prop, ∀ st, J st ↔ (∃ (s_26 : gatemake_Stream) (out_6 : (Sl api_Record)) (o50056 : AObj) (tm34 : Nat → AV) (cb34 : AE.Frame) (out34 : List AE.Frame) (glob34 : List AObj), st = ⟨tm34, ⟨cb34, out34, glob34⟩⟩ ∧ AllEq tm34 [(0, (.ptr d0 w0 0)), (5, (Sl.lav (.fr 0 5005) o50056.ver out_6))] ∧ AllEq cb34 [(5005, o50056)] ∧ LzF 7 c_api_Record o50056 out_6 ∧ con2 out34 glob34 d0 w0 = .cells (c_gatemake_Stream s_26) ∧ Same d0 out glob out34 glob34 ∧ (s_26, out_6) = b1) := ⟨_, fun _ => Iff.rfl⟩
 obtain ⟨R32, hR32⟩ : ∃ R : Nat → (gatemake_Stream × (Sl api_Record) × Int) → St → Prop, ∀ i v st, R i v st ↔ (match v with | (s_25, out_5, at_4) => ∃ (o50055 : AObj) (tm33 : Nat → AV) (cb33 : AE.Frame) (out33 : List AE.Frame) (glob33 : List AObj), st = ⟨tm33, ⟨cb33, out33, glob33⟩⟩ ∧ AllEq tm33 [(0, (.ptr d0 w0 0)), (5, (Sl.lav (.fr 0 5005) o50055.ver out_5)), (6, (iA at_4)), (10, (iA many)), (11, (iA ((i : Nat) : Int)))] ∧ AllEq cb33 [(5005, o50055)] ∧ LzF 7 c_api_Record o50055 out_5 ∧ con2 out33 glob33 d0 w0 = .cells (c_gatemake_Stream s_25) ∧ Same d0 out glob out33 glob33) := ⟨_, fun _ _ _ => Iff.rfl⟩
 refine W_loopcut J32 (fun st hst => ?_) ?_
 · obtain ⟨s_26, out_6, o50056, tm34, cb34, out34, glob34, rfl, hT34, hC34, hz34_0, hk34, hs34, rfl⟩ := (hJ32 st).1 hst
   obtain ⟨tm34, rfl⟩ := allEq hT34
   obtain ⟨cb34, rfl⟩ := allEq hC34
   refine sq <| sq <| rg <| L (Sl.lav (.fr 0 5005) o50056.ver out_6) rfl rfl rfl <| L (iA (out_6.list.length : Int)) rfl rfl (op_len rfl rfl rfl rfl rfl (lz_len _ _ _)) <| L (bA (decide ((out_6.list.length : Int) > 0))) rfl rfl rfl ?_
   obtain ⟨y45, hF1, hF0⟩ := bind_some hF0
   obtain ⟨J45, hJ45⟩ : ∃ J : St → Prop, ∀ st, J st ↔ (∃ (s_35 : gatemake_Stream) (t48 : Bool) (tm46 : Nat → AV) (cb46 : AE.Frame) (out46 : List AE.Frame) (glob46 : List AObj), st = ⟨tm46, ⟨cb46, out46, glob46⟩⟩ ∧ AllEq tm46 [(0, (.ptr d0 w0 0)), (5, (Sl.lav (.fr 0 5005) o50056.ver out_6)), (48, (bA t48))] ∧ AllEq cb46 [(5005, o50056)] ∧ LzF 7 c_api_Record o50056 out_6 ∧ con2 out46 glob46 d0 w0 = .cells (c_gatemake_Stream s_35) ∧ Same d0 out glob out46 glob46 ∧ (s_35, t48) = y45) := ⟨_, fun _ => Iff.rfl⟩
   refine WO_cut 4 J45 (fun st hst => ?_) ?_
   · obtain ⟨s_35, t48, tm46, cb46, out46, glob46, rfl, hT46, hC46, hz46_0, hk46, hs46, rfl⟩ := (hJ45 st).1 hst
     obtain ⟨tm46, rfl⟩ := allEq hT46
     obtain ⟨cb46, rfl⟩ := allEq hC46
     refine nl <| cd t48 rfl (fun hc56 => ?_) (fun hc56 => ?_)
     · replace hF0 := ite_t hF0 (hc56)
       refine sq <| rg <| L (Sl.lav (.fr 0 5005) o50056.ver out_6) rfl rfl rfl <| L (.ptr d0 w0 0) rfl rfl rfl <| L (Sl.lav (.fr 0 5005) o50056.ver out_6) rfl rfl rfl <| L (iA (out_6.list.length : Int)) rfl rfl (op_len rfl rfl rfl rfl rfl (lz_len _ _ _)) ?_
       obtain ⟨⟨r53, s_36⟩, h47, hF0⟩ := bind_some hF0
       refine WO_mutP (g := 14) (args := fun p => [p, (iA (out_6.list.length : Int))]) (d := d0) (v := w0) (r := (iA r53)) _ _ rfl rfl rfl rfl rfl rfl rfl (fun _ _ => inferInstance) hh0 hk46 (ok_gatemake_Stream_Next _ _ h47) (fun out47 glob47 hk47 hs47 => ?_)
       replace hs47 := hs46.trans hs47
       obtain ⟨x, h_x, hF0⟩ := bind_some hF0
       refine L (.eptr (.fr 0 5005) o50056.ver (r53 : Int).toNat 0) rfl rfl (op_ix rfl (ix_lz (x := out_6) (o := o50056) (n := 7) (c := c_api_Record) rfl rfl rfl hz46_0 h_x)) <| L (.eptr (.fr 0 5005) o50056.ver (r53 : Int).toNat 0) rfl rfl rfl <| nl <| rg <| L (.eptr (.fr 0 5005) o50056.ver (r53 : Int).toNat 0) rfl rfl rfl <| L (.eptr (.fr 0 5005) o50056.ver (r53 : Int).toNat 0) rfl rfl rfl <| L (.eptr (.fr 0 5005) o50056.ver (r53 : Int).toNat 0) rfl rfl rfl <| L (.eptr (.fr 0 5005) o50056.ver (r53 : Int).toNat 0) rfl rfl rfl <| L (.ptr d0 w0 0) rfl rfl rfl <| L (.eptr (.fr 0 5005) o50056.ver (r53 : Int).toNat 0) rfl rfl rfl <| L (.eptr (.fr 0 5005) o50056.ver (r53 : Int).toNat 0) rfl rfl rfl <| L (.eptr (.fr 0 5005) o50056.ver (r53 : Int).toNat 0) rfl rfl rfl <| L (iA x.At) rfl rfl (op_load rfl (ld_lz (x := out_6) (o := o50056) (n := 7) (c := c_api_Record) (iA x.At) rfl rfl rfl hz46_0 h_x rfl)) <| L (Sl.av 1 c_i64 (Sl.full [x.At, (-1), 0, 345686400000] : Sl Int)) rfl rfl (op_sliceN rfl rfl rfl) ?_
       obtain ⟨⟨r65, s_37⟩, h48, hF0⟩ := bind_some hF0
       refine WO_mutP (g := 16) (args := fun p => [p, (Sl.av 1 c_i64 (Sl.full [x.At, (-1), 0, 345686400000] : Sl Int))]) (d := d0) (v := w0) (r := (iA r65)) _ _ rfl rfl rfl rfl rfl rfl rfl (fun _ _ => inferInstance) hh0 hk47 (ok_gatemake_Stream_Pick _ _ h48) (fun out48 glob48 hk48 hs48 => ?_)
       replace hs48 := hs47.trans hs48
       refine L (.ptr d0 w0 0) rfl rfl rfl <| L (Sl.av 1 c_str (Sl.full [[114, 97], [65], [45]] : Sl Str)) rfl rfl (op_sliceN rfl rfl rfl) ?_
       obtain ⟨⟨r68, s_38⟩, h49, hF0⟩ := bind_some hF0
       refine WO_mutP (g := 15) (args := fun p => [p, (Sl.av 1 c_str (Sl.full [[114, 97], [65], [45]] : Sl Str))]) (d := d0) (v := w0) (r := (sA r68)) _ _ rfl rfl rfl rfl rfl rfl rfl (fun _ _ => inferInstance) hh0 hk48 (ok_gatemake_Stream_Some _ _ h49) (fun out49 glob49 hk49 hs49 => ?_)
       replace hs49 := hs48.trans hs49
       refine L (.ptr d0 w0 0) rfl rfl rfl ?_
       obtain ⟨⟨r70, s_39⟩, h50, hF0⟩ := bind_some hF0
       refine WO_mutP (g := 18) (args := fun p => [p, (iA 100), (iA 599)]) (d := d0) (v := w0) (r := (iA r70)) _ _ rfl rfl rfl rfl rfl rfl rfl (fun _ _ => inferInstance) hh0 hk49 (ok_gatemake_Stream_Odd _ _ _ h50) (fun out50 glob50 hk50 hs50 => ?_)
       replace hs50 := hs49.trans hs50
       refine L (.ptr d0 w0 0) rfl rfl rfl ?_
       obtain ⟨⟨r72, s_40⟩, h51, hF0⟩ := bind_some hF0
       refine WO_mutP (g := 18) (args := fun p => [p, (iA 0), (iA 4)]) (d := d0) (v := w0) (r := (iA r72)) _ _ rfl rfl rfl rfl rfl rfl rfl (fun _ _ => inferInstance) hh0 hk50 (ok_gatemake_Stream_Odd _ _ _ h51) (fun out51 glob51 hk51 hs51 => ?_)
       replace hs51 := hs50.trans hs51
       refine L (.eptr (.fr 0 5005) o50056.ver (r53 : Int).toNat 0) rfl rfl rfl <| L (.eptr (.fr 0 5005) o50056.ver (r53 : Int).toNat 0) rfl rfl rfl ?_
       obtain ⟨out_8, h_out_8, hF0⟩ := bind_some hF0
       refine WO_lzset (s := 5005) (x := out_6) (x' := out_8) (o := o50056) (n := 7) (c := c_api_Record) (y := x) (y' := { x with At := r65 }) (k := 0) (w := (iA r65)) _ rfl rfl rfl rfl rfl rfl rfl rfl hz46_0 h_x (Nat.le_of_ble_eq_true rfl) rfl h_out_8 (fun o50058 hz_52 hv52 => ?_)
       rw [lav_set h_out_8 hv52, ← hv52]
       refine L (.eptr (.fr 0 5005) o50058.ver (r53 : Int).toNat 0) rfl rfl rfl <| L (.eptr (.fr 0 5005) o50058.ver (r53 : Int).toNat 1) rfl rfl rfl ?_
       obtain ⟨out_9, h_out_9, hF0⟩ := bind_some hF0
       refine WO_lzset (s := 5005) (x := out_8) (x' := out_9) (o := o50058) (n := 7) (c := c_api_Record) (y := { x with At := r65 }) (y' := { x with At := r65, Route := r68 }) (k := 1) (w := (sA r68)) _ rfl rfl rfl rfl rfl rfl rfl rfl hz_52 (get_set h_out_8) (Nat.le_of_ble_eq_true rfl) rfl h_out_9 (fun o50059 hz_53 hv53 => ?_)
       rw [lav_set h_out_9 hv53, ← hv53]
       refine L (.eptr (.fr 0 5005) o50059.ver (r53 : Int).toNat 0) rfl rfl rfl <| L (.eptr (.fr 0 5005) o50059.ver (r53 : Int).toNat 5) rfl rfl rfl ?_
       obtain ⟨out_10, h_out_10, hF0⟩ := bind_some hF0
       refine WO_lzset (s := 5005) (x := out_9) (x' := out_10) (o := o50059) (n := 7) (c := c_api_Record) (y := { x with At := r65, Route := r68 }) (y' := { x with At := r65, Route := r68, Status := r70 }) (k := 5) (w := (iA r70)) _ rfl rfl rfl rfl rfl rfl rfl rfl hz_53 (get_set h_out_9) (Nat.le_of_ble_eq_true rfl) rfl h_out_10 (fun o500510 hz_54 hv54 => ?_)
       rw [lav_set h_out_10 hv54, ← hv54]
       refine L (.eptr (.fr 0 5005) o500510.ver (r53 : Int).toNat 0) rfl rfl rfl <| L (.eptr (.fr 0 5005) o500510.ver (r53 : Int).toNat 6) rfl rfl rfl ?_
       obtain ⟨out_11, h_out_11, hF0⟩ := bind_some hF0
       refine WO_lzset (s := 5005) (x := out_10) (x' := out_11) (o := o500510) (n := 7) (c := c_api_Record) (y := { x with At := r65, Route := r68, Status := r70 }) (y' := { x with At := r65, Route := r68, Status := r70, Found := r72 }) (k := 6) (w := (iA r72)) _ rfl rfl rfl rfl rfl rfl rfl rfl hz_54 (get_set h_out_10) (Nat.le_of_ble_eq_true rfl) rfl h_out_11 (fun o500511 hz_55 hv55 => ?_)
       rw [lav_set h_out_11 hv55, ← hv55]
       refine nl <| sq <| rg <| L (Sl.lav (.fr 0 5005) o500511.ver out_11) rfl rfl rfl <| L (Sl.lav (.fr 0 5005) o500511.ver out_11) rfl rfl rfl <| nl <| rt ?_
       obtain rfl := Option.some.inj hF0
       exact mut_leaf (.inr rfl) rfl (ret_lz rfl hz_55) hk51 hs51
     · replace hF0 := ite_f hF0 (not_t hc56)
       refine sk <| sq <| rg <| L (Sl.lav (.fr 0 5005) o50056.ver out_6) rfl rfl rfl <| L (Sl.lav (.fr 0 5005) o50056.ver out_6) rfl rfl rfl <| nl <| rt ?_
       obtain rfl := Option.some.inj hF0
       exact mut_leaf (.inr rfl) rfl (ret_lz rfl hz46_0) hk46 hs46
   · rcases bool_cases (decide ((out_6.list.length : Int) > 0)) with hc45 | hc45
     · replace hF1 := ite_t hF1 (dec_t hc45)
       refine L (.bool true) rfl rfl (congrArg (fun b => some (AV.bool b, _)) hc45) <| L (.ptr d0 w0 0) rfl rfl rfl ?_
       obtain ⟨⟨r471, s_41⟩, h57, hF1⟩ := bind_some hF1
       refine WO_mutP (g := 17) (args := fun p => [p, (iA 15)]) (d := d0) (v := w0) (r := (bA r471)) _ _ rfl rfl rfl rfl rfl rfl rfl (fun _ _ => inferInstance) hh0 hk34 (ok_gatemake_Stream_Flip _ _ h57) (fun out57 glob57 hk57 hs57 => ?_)
       replace hs57 := hs34.trans hs57
       exact L (bA r471) rfl rfl rfl <| nl ((hJ45 _).2 ⟨s_41, r471, _, _, _, _, rfl, (And.intro rfl (And.intro rfl (And.intro rfl True.intro))), (And.intro rfl True.intro), hz34_0, hk57, hs57, Option.some.inj hF1⟩)
     · replace hF1 := ite_f hF1 (dec_f hc45)
       exact L (.bool false) rfl rfl (congrArg (fun b => some (AV.bool b, _)) hc45) <| WO_no _ rfl rfl <| WO_no _ rfl rfl <| L (bA false) rfl rfl rfl <| nl ((hJ45 _).2 ⟨s_26, false, _, _, _, _, rfl, (And.intro rfl (And.intro rfl (And.intro rfl True.intro))), (And.intro rfl True.intro), hz34_0, hk34, hs34, Option.some.inj hF1⟩)
 · refine W_rangeL hb32 R32 ((hR32 _ _ _).2 ⟨(⟨0, .gone⟩ : AObj), _, _, _, _, rfl, (And.intro rfl (And.intro rfl (And.intro rfl (And.intro rfl (And.intro rfl True.intro))))), (And.intro rfl True.intro), True.intro, hk1, hs1⟩) ?_ ?_
   · intro i hi32 v st s hr hF1 hD1
     obtain ⟨s_25, out_5, at_4⟩ := v
     obtain ⟨o50055, tm33, cb33, out33, glob33, rfl, hT33, hC33, hz33_0, hk33, hs33⟩ := (hR32 _ _ _).1 hr
     obtain ⟨tm33, rfl⟩ := allEq hT33
     obtain ⟨cb33, rfl⟩ := allEq hC33
     dsimp only [gatemake_Stream_GateRecords_l0] at hF1
     refine sq (rg ?_)
     refine WO_do (y := (bA (decide (((i : Nat) : Int) < many)))) _ rfl rfl rfl (nl ?_)
     refine sq <| cd true (congrArg some (rangeN_lt hi32)) (fun _ => ?_) (fun h => absurd h (by decide))
     refine sk <| sq <| bk <| sq <| rg <| L (Sl.lav (.fr 0 5005) o50055.ver out_5) rfl rfl rfl <| L (iA at_4) rfl rfl rfl <| L (.ptr d0 w0 0) rfl rfl rfl <| L (Sl.av 1 c_str (Sl.full [[114, 97], [114, 98], [], [122, 122]] : Sl Str)) rfl rfl (op_sliceN rfl rfl rfl) ?_
     obtain ⟨⟨r173, s_27⟩, h36, hF1⟩ := bind_some hF1
     refine WO_mutP (g := 15) (args := fun p => [p, (Sl.av 1 c_str (Sl.full [[114, 97], [114, 98], [], [122, 122]] : Sl Str))]) (d := d0) (v := w0) (r := (sA r173)) _ _ rfl rfl rfl rfl rfl rfl rfl (fun _ _ => inferInstance) hh0 hk33 (ok_gatemake_Stream_Some _ _ h36) (fun out36 glob36 hk36 hs36 => ?_)
     replace hs36 := hs33.trans hs36
     refine L (.ptr d0 w0 0) rfl rfl rfl <| L (Sl.av 1 c_str (Sl.full [[97, 112, 112, 49], [97, 112, 112, 50], []] : Sl Str)) rfl rfl (op_sliceN rfl rfl rfl) ?_
     obtain ⟨⟨r203, s_28⟩, h37, hF1⟩ := bind_some hF1
     refine WO_mutP (g := 15) (args := fun p => [p, (Sl.av 1 c_str (Sl.full [[97, 112, 112, 49], [97, 112, 112, 50], []] : Sl Str))]) (d := d0) (v := w0) (r := (sA r203)) _ _ rfl rfl rfl rfl rfl rfl rfl (fun _ _ => inferInstance) hh0 hk36 (ok_gatemake_Stream_Some _ _ h37) (fun out37 glob37 hk37 hs37 => ?_)
     replace hs37 := hs36.trans hs37
     refine L (.ptr d0 w0 0) rfl rfl rfl <| L (Sl.av 1 c_str (Sl.full [[], [111, 110, 101]] : Sl Str)) rfl rfl (op_sliceN rfl rfl rfl) ?_
     obtain ⟨⟨r233, s_29⟩, h38, hF1⟩ := bind_some hF1
     refine WO_mutP (g := 15) (args := fun p => [p, (Sl.av 1 c_str (Sl.full [[], [111, 110, 101]] : Sl Str))]) (d := d0) (v := w0) (r := (sA r233)) _ _ rfl rfl rfl rfl rfl rfl rfl (fun _ _ => inferInstance) hh0 hk37 (ok_gatemake_Stream_Some _ _ h38) (fun out38 glob38 hk38 hs38 => ?_)
     replace hs38 := hs37.trans hs38
     refine L (.ptr d0 w0 0) rfl rfl rfl <| L (Sl.av 1 c_str (Sl.full [[105, 97], []] : Sl Str)) rfl rfl (op_sliceN rfl rfl rfl) ?_
     obtain ⟨⟨r263, s_30⟩, h39, hF1⟩ := bind_some hF1
     refine WO_mutP (g := 15) (args := fun p => [p, (Sl.av 1 c_str (Sl.full [[105, 97], []] : Sl Str))]) (d := d0) (v := w0) (r := (sA r263)) _ _ rfl rfl rfl rfl rfl rfl rfl (fun _ _ => inferInstance) hh0 hk38 (ok_gatemake_Stream_Some _ _ h39) (fun out39 glob39 hk39 hs39 => ?_)
     replace hs39 := hs38.trans hs39
     refine L (.ptr d0 w0 0) rfl rfl rfl <| L (Sl.av 1 c_i64 (Sl.full [200, 200, 304, 404, 429] : Sl Int)) rfl rfl (op_sliceN rfl rfl rfl) ?_
     obtain ⟨⟨r293, s_31⟩, h40, hF1⟩ := bind_some hF1
     refine WO_mutP (g := 16) (args := fun p => [p, (Sl.av 1 c_i64 (Sl.full [200, 200, 304, 404, 429] : Sl Int))]) (d := d0) (v := w0) (r := (iA r293)) _ _ rfl rfl rfl rfl rfl rfl rfl (fun _ _ => inferInstance) hh0 hk39 (ok_gatemake_Stream_Pick _ _ h40) (fun out40 glob40 hk40 hs40 => ?_)
     replace hs40 := hs39.trans hs40
     refine L (.ptr d0 w0 0) rfl rfl rfl <| L (Sl.av 1 c_i64 (Sl.full [0, 0, 1] : Sl Int)) rfl rfl (op_sliceN rfl rfl rfl) ?_
     obtain ⟨⟨r323, s_32⟩, h41, hF1⟩ := bind_some hF1
     refine WO_mutP (g := 16) (args := fun p => [p, (Sl.av 1 c_i64 (Sl.full [0, 0, 1] : Sl Int))]) (d := d0) (v := w0) (r := (iA r323)) _ _ rfl rfl rfl rfl rfl rfl rfl (fun _ _ => inferInstance) hh0 hk40 (ok_gatemake_Stream_Pick _ _ h41) (fun out41 glob41 hk41 hs41 => ?_)
     replace hs41 := hs40.trans hs41
     refine L (.agg (c_api_Record (api_Record.mk at_4 r173 r203 r233 r263 r293 r323))) rfl rfl (op_build rfl (build_st (cs := (c_api_Record (api_Record.mk at_4 r173 r203 r233 r263 r293 r323))) rfl rfl rfl (fill_cons (x := (iA at_4)) rfl rfl (Nat.le_of_ble_eq_true rfl) (fill_cons (x := (sA r173)) rfl rfl (Nat.le_of_ble_eq_true rfl) (fill_cons (x := (sA r203)) rfl rfl (Nat.le_of_ble_eq_true rfl) (fill_cons (x := (sA r233)) rfl rfl (Nat.le_of_ble_eq_true rfl) (fill_cons (x := (sA r263)) rfl rfl (Nat.le_of_ble_eq_true rfl) (fill_cons (x := (iA r293)) rfl rfl (Nat.le_of_ble_eq_true rfl) (fill_cons (x := (iA r323)) rfl rfl (Nat.le_of_ble_eq_true rfl) (fill_nil)))))))))) <| L (Sl.av 7 c_api_Record (Sl.full [(api_Record.mk at_4 r173 r203 r233 r263 r293 r323)] : Sl api_Record)) rfl rfl (op_sliceN rfl rfl rfl) ?_
     obtain ⟨out_7, h_out_7, hF1⟩ := bind_some hF1
     refine WO_lzapp (s := 5005) (x := out_5) (x' := out_7) (o := o50055) (n := 7) (c := c_api_Record) (xs := [(api_Record.mk at_4 r173 r203 r233 r263 r293 r323)]) (y := (Sl.av 7 c_api_Record (Sl.full [(api_Record.mk at_4 r173 r203 r233 r263 r293 r323)] : Sl api_Record))) _ rfl rfl rfl rfl rfl rfl rfl rfl rfl rfl rfl rfl (z := (c_api_Record (api_Record.mk 0 [] [] [] [] 0 0))) rfl rfl rfl rfl rfl (by decide) (fun _ => rfl) rfl rfl rfl hz33_0 h_out_7 (fun o50057 hz_42 => ?_)
     refine L (Sl.lav (.fr 0 5005) o50057.ver out_7) rfl rfl rfl <| nl <| rg <| L (iA at_4) rfl rfl rfl <| L (.ptr d0 w0 0) rfl rfl rfl <| L (Sl.av 1 c_i64 (Sl.full [0, 1, 1296000000, 2592000000] : Sl Int)) rfl rfl (op_sliceN rfl rfl rfl) ?_
     obtain ⟨⟨r393, s_33⟩, h43, hF1⟩ := bind_some hF1
     refine WO_mutP (g := 16) (args := fun p => [p, (Sl.av 1 c_i64 (Sl.full [0, 1, 1296000000, 2592000000] : Sl Int))]) (d := d0) (v := w0) (r := (iA r393)) _ _ rfl rfl rfl rfl rfl rfl rfl (fun _ _ => inferInstance) hh0 hk41 (ok_gatemake_Stream_Pick _ _ h43) (fun out43 glob43 hk43 hs43 => ?_)
     replace hs43 := hs41.trans hs43
     exact L (iA (w64 (at_4 + r393))) rfl rfl rfl <| L (iA (w64 (at_4 + r393))) rfl rfl rfl <| nl <| rg <| WO_do (y := (iA ((i + 1 : Nat) : Int))) _ rfl rfl (congrArg (fun n => some (AV.int .i64 n, _)) (rangeN_len hi32 hn32)) <| WO_do (y := (iA ((i + 1 : Nat) : Int))) _ rfl rfl rfl <| nl <| Exists.intro _ (And.intro (Option.some.inj hF1).symm ((hR32 _ _ _).2 ⟨o50057, _, _, _, _, rfl, (And.intro rfl (And.intro rfl (And.intro rfl (And.intro rfl (And.intro rfl True.intro))))), (And.intro rfl True.intro), hz_42, hk43, hs43⟩))
   · intro v st hr hD1
     obtain ⟨s_25, out_5, at_4⟩ := v
     obtain ⟨o50055, tm33, cb33, out33, glob33, rfl, hT33, hC33, hz33_0, hk33, hs33⟩ := (hR32 _ _ _).1 hr
     obtain ⟨tm33, rfl⟩ := allEq hT33
     obtain ⟨cb33, rfl⟩ := allEq hC33
     refine sq (rg ?_)
     refine WO_do (y := .bool false) _ rfl rfl (congrArg (fun b => some (AV.bool b, _)) (rangeN_ge _)) (nl ?_)
     refine sq <| cd false rfl (fun h => absurd h (by decide)) (fun _ => ?_)
     exact xt <| (hJ32 _).2 ⟨s_25, out_5, o50055, _, _, _, _, rfl, (And.intro rfl (And.intro rfl True.intro)), (And.intro rfl True.intro), hz33_0, hk33, hs33, hD1⟩

theorem ok_kit_IsMoment (n : Int) {r : (Bool)} (hF0 : kit_IsMoment n = some r) (out : List AE.Frame) (glob : List AObj) : RdOk Tryz.prog pol true 37 [(iA n)] out glob (bA r) := by
 unfold kit_IsMoment at hF0
 refine rd_walk Tryz.func37 rfl (Nat.not_lt.2 (Nat.le_of_ble_eq_true rfl)) ?_
 intro ro
 refine sq <| rg <| L (bA false) rfl rfl rfl <| nl <| sq <| rg <| L (iA n) rfl rfl rfl <| L (bA (decide (n ≥ 0))) rfl rfl rfl ?_
 obtain ⟨J1, hJ1⟩ : ∃ J : St → Prop, ∀ st, J st ↔ (∃ (tm2 : Nat → AV) (cb2 : AE.Frame), st = ⟨tm2, ⟨cb2, out, glob⟩⟩ ∧ AllEq tm2 [(8, (bA ((decide (n ≥ 0)) && (decide (n < 345686400000)))))] ∧ AllEq cb2 []) := ⟨_, fun _ => Iff.rfl⟩
 refine WO_cut 4 J1 (fun st hst => ?_) ?_
 · obtain ⟨tm2, cb2, rfl, hT2, hC2⟩ := (hJ1 st).1 hst
   obtain ⟨tm2, rfl⟩ := allEq hT2
   obtain ⟨cb2, rfl⟩ := allEq hC2
   refine L (bA ((decide (n ≥ 0)) && (decide (n < 345686400000)))) rfl rfl rfl <| nl <| rt ?_
   obtain rfl := Option.some.inj hF0
   exact rd_leaf (.inr rfl) rfl (retV_pl _ _ (bA ((decide (n ≥ 0)) && (decide (n < 345686400000))))) rfl rfl
 · rcases bool_cases (decide (n ≥ 0)) with hc1 | hc1
   · exact L (.bool true) rfl rfl (congrArg (fun b => some (AV.bool b, _)) hc1) <| L (iA n) rfl rfl rfl <| L (bA (decide (n < 345686400000))) rfl rfl rfl <| L (bA ((decide (n ≥ 0)) && (decide (n < 345686400000)))) rfl rfl (congrArg (fun b => some (AV.bool b, _)) (by rw [hc1]; rfl)) <| nl ((hJ1 _).2 ⟨_, _, rfl, (And.intro rfl True.intro), True.intro⟩)
   · exact L (.bool false) rfl rfl (congrArg (fun b => some (AV.bool b, _)) hc1) <| WO_no _ rfl rfl <| WO_no _ rfl rfl <| L (bA ((decide (n ≥ 0)) && (decide (n < 345686400000)))) rfl rfl (congrArg (fun b => some (AV.bool b, _)) (by rw [hc1]; rfl)) <| nl ((hJ1 _).2 ⟨_, _, rfl, (And.intro rfl True.intro), True.intro⟩)

theorem ok_kit_IsKey (s_ : Str) {r : (Bool)} (hF0 : kit_IsKey s_ = some r) (out : List AE.Frame) (glob : List AObj) : RdOk Tryz.prog pol true 38 [(sA s_)] out glob (bA r) := by
 unfold kit_IsKey at hF0
 refine rd_walk Tryz.func38 rfl (Nat.not_lt.2 (Nat.le_of_ble_eq_true rfl)) ?_
 intro ro
 refine sq <| rg <| L (bA false) rfl rfl rfl <| nl <| sq <| sq <| rg <| L (iA 0) rfl rfl rfl <| nl <| bk ?_
 obtain ⟨b1, hb36, hF0⟩ := bind_some hF0
 obtain ⟨J36, hJ36⟩ : ∃ J : St → Prop, ∀ st, J st ↔ (∃ (tm38 : Nat → AV) (cb38 : AE.Frame), st = ⟨tm38, ⟨cb38, out, glob⟩⟩ ∧ AllEq tm38 [(0, (sA s_))] ∧ AllEq cb38 [] ∧ Res.out () = b1) := ⟨_, fun _ => Iff.rfl⟩
 obtain ⟨R36, hR36⟩ : ∃ R : (Int) → St → Prop, ∀ v st, R v st ↔ (match v with | i1 => ∃ (tm37 : Nat → AV) (cb37 : AE.Frame), st = ⟨tm37, ⟨cb37, out, glob⟩⟩ ∧ AllEq tm37 [(0, (sA s_)), (3, (iA i1))] ∧ AllEq cb37 []) := ⟨_, fun _ _ => Iff.rfl⟩
 refine W_loopcut J36 (fun st hst => ?_) ?_
 · obtain ⟨tm38, cb38, rfl, hT38, hC38, rfl⟩ := (hJ36 st).1 hst
   obtain ⟨tm38, rfl⟩ := allEq hT38
   obtain ⟨cb38, rfl⟩ := allEq hC38
   replace hF0 := res_out hF0
   refine sq <| rg <| L (sA s_) rfl rfl rfl <| L (bA (s_ != [])) rfl rfl (op_bin rfl bin_sne) ?_
   obtain ⟨J73, hJ73⟩ : ∃ J : St → Prop, ∀ st, J st ↔ (∃ (tm74 : Nat → AV) (cb74 : AE.Frame), st = ⟨tm74, ⟨cb74, out, glob⟩⟩ ∧ AllEq tm74 [(47, (bA ((s_ != []) && (decide ((s_.length : Int) ≤ 40)))))] ∧ AllEq cb74 []) := ⟨_, fun _ => Iff.rfl⟩
   refine WO_cut 5 J73 (fun st hst => ?_) ?_
   · obtain ⟨tm74, cb74, rfl, hT74, hC74⟩ := (hJ73 st).1 hst
     obtain ⟨tm74, rfl⟩ := allEq hT74
     obtain ⟨cb74, rfl⟩ := allEq hC74
     refine L (bA ((s_ != []) && (decide ((s_.length : Int) ≤ 40)))) rfl rfl rfl <| nl <| rt ?_
     obtain rfl := Option.some.inj hF0
     exact rd_leaf (.inr rfl) rfl (retV_pl _ _ (bA ((s_ != []) && (decide ((s_.length : Int) ≤ 40))))) rfl rfl
   · rcases bool_cases (s_ != []) with hc73 | hc73
     · exact L (.bool true) rfl rfl (congrArg (fun b => some (AV.bool b, _)) hc73) <| L (sA s_) rfl rfl rfl <| L (iA (s_.length : Int)) rfl rfl rfl <| L (bA (decide ((s_.length : Int) ≤ 40))) rfl rfl rfl <| L (bA ((s_ != []) && (decide ((s_.length : Int) ≤ 40)))) rfl rfl (congrArg (fun b => some (AV.bool b, _)) (by rw [hc73]; rfl)) <| nl ((hJ73 _).2 ⟨_, _, rfl, (And.intro rfl True.intro), True.intro⟩)
     · exact L (.bool false) rfl rfl (congrArg (fun b => some (AV.bool b, _)) hc73) <| WO_no _ rfl rfl <| WO_no _ rfl rfl <| WO_no _ rfl rfl <| L (bA ((s_ != []) && (decide ((s_.length : Int) ≤ 40)))) rfl rfl (congrArg (fun b => some (AV.bool b, _)) (by rw [hc73]; rfl)) <| nl ((hJ73 _).2 ⟨_, _, rfl, (And.intro rfl True.intro), True.intro⟩)
 · refine W_loopV hb36 R36 ((hR36 _ _).2 ⟨_, _, rfl, (And.intro rfl (And.intro rfl True.intro)), True.intro⟩) ?_
   intro v st s hr hF1 hD1
   obtain ⟨i1, hv_⟩ : ∃ z, z = v := ⟨_, rfl⟩; subst hv_
   obtain ⟨tm37, cb37, rfl, hT37, hC37⟩ := (hR36 _ _).1 hr
   obtain ⟨tm37, rfl⟩ := allEq hT37
   obtain ⟨cb37, rfl⟩ := allEq hC37
   dsimp only [kit_IsKey_l0] at hF1
   refine sq <| sq <| rg <| L (iA i1) rfl rfl rfl <| L (sA s_) rfl rfl rfl <| L (iA (s_.length : Int)) rfl rfl rfl <| L (bA (decide (i1 < (s_.length : Int)))) rfl rfl rfl <| nl <| cd (decide (i1 < (s_.length : Int))) rfl (fun hc72 => ?_) (fun hc72 => ?_)
   · replace hF1 := ite_t hF1 (dec_t hc72)
     refine sk <| sq <| bk <| sq <| rg <| L (sA s_) rfl rfl rfl <| L (iA i1) rfl rfl rfl ?_
     obtain ⟨c1, h_c1, hF1⟩ := bind_some hF1
     refine L (.int .u8 c1) rfl rfl (op_index rfl (ix_str rfl h_c1)) <| L (.int .u8 c1) rfl rfl rfl <| nl <| sq <| rg <| L (.int .u8 c1) rfl rfl rfl <| L (bA (decide (c1 ≥ 97))) rfl rfl rfl ?_
     obtain ⟨J39, hJ39⟩ : ∃ J : St → Prop, ∀ st, J st ↔ (∃ (tm40 : Nat → AV) (cb40 : AE.Frame), st = ⟨tm40, ⟨cb40, out, glob⟩⟩ ∧ AllEq tm40 [(0, (sA s_)), (3, (iA i1)), (4, (.int .u8 c1)), (19, (bA ((decide (c1 ≥ 97)) && (decide (c1 ≤ 122)))))] ∧ AllEq cb40 []) := ⟨_, fun _ => Iff.rfl⟩
     refine WO_cut 4 J39 (fun st hst => ?_) ?_
     · obtain ⟨tm40, cb40, rfl, hT40, hC40⟩ := (hJ39 st).1 hst
       obtain ⟨tm40, rfl⟩ := allEq hT40
       obtain ⟨cb40, rfl⟩ := allEq hC40
       obtain ⟨J55, hJ55⟩ : ∃ J : St → Prop, ∀ st, J st ↔ (∃ (tm56 : Nat → AV) (cb56 : AE.Frame), st = ⟨tm56, ⟨cb56, out, glob⟩⟩ ∧ AllEq tm56 [(0, (sA s_)), (3, (iA i1)), (39, (bA (((decide (c1 ≥ 97)) && (decide (c1 ≤ 122))) || ((decide (i1 > 0)) && ((((decide (c1 ≥ 48)) && (decide (c1 ≤ 57))) || (c1 == 45)) || (c1 == 95))))))] ∧ AllEq cb56 []) := ⟨_, fun _ => Iff.rfl⟩
       refine WO_cut 20 J55 (fun st hst => ?_) ?_
       · obtain ⟨tm56, cb56, rfl, hT56, hC56⟩ := (hJ55 st).1 hst
         obtain ⟨tm56, rfl⟩ := allEq hT56
         obtain ⟨cb56, rfl⟩ := allEq hC56
         refine L (bA (!(((decide (c1 ≥ 97)) && (decide (c1 ≤ 122))) || ((decide (i1 > 0)) && ((((decide (c1 ≥ 48)) && (decide (c1 ≤ 57))) || (c1 == 45)) || (c1 == 95)))))) rfl rfl rfl <| nl <| cd (!(((decide (c1 ≥ 97)) && (decide (c1 ≤ 122))) || ((decide (i1 > 0)) && ((((decide (c1 ≥ 48)) && (decide (c1 ≤ 57))) || (c1 == 45)) || (c1 == 95))))) rfl (fun hc57 => ?_) (fun hc57 => ?_)
         · replace hF1 := ite_t hF1 (hc57)
           refine sq <| rg <| L (bA false) rfl rfl rfl <| nl <| rt ?_
           obtain rfl := hD1 _ (Option.some.inj hF1).symm
           replace hF0 := res_ret hF0
           obtain rfl := Option.some.inj hF0
           exact rd_leaf (.inr rfl) rfl (retV_pl _ _ (bA false)) rfl rfl
         · replace hF1 := ite_f hF1 (not_t hc57)
           exact sk <| rg <| L (iA i1) rfl rfl rfl <| L (iA (w64 (i1 + 1))) rfl rfl rfl <| L (iA (w64 (i1 + 1))) rfl rfl rfl <| nl <| Exists.intro _ (And.intro (Option.some.inj hF1).symm ((hR36  _ _).2 ⟨_, _, rfl, (And.intro rfl (And.intro rfl True.intro)), True.intro⟩))
       · rcases bool_cases ((decide (c1 ≥ 97)) && (decide (c1 ≤ 122))) with hc55 | hc55
         · exact L (.bool true) rfl rfl (congrArg (fun b => some (AV.bool b, _)) hc55) <| WO_no _ rfl rfl <| WO_no _ rfl rfl <| WO_no _ rfl rfl <| WO_no _ rfl rfl <| WO_no _ rfl rfl <| WO_no _ rfl rfl <| WO_no _ rfl rfl <| WO_no _ rfl rfl <| WO_no _ rfl rfl <| WO_no _ rfl rfl <| WO_no _ rfl rfl <| WO_no _ rfl rfl <| WO_no _ rfl rfl <| WO_no _ rfl rfl <| WO_no _ rfl rfl <| WO_no _ rfl rfl <| WO_no _ rfl rfl <| WO_no _ rfl rfl <| L (bA (((decide (c1 ≥ 97)) && (decide (c1 ≤ 122))) || ((decide (i1 > 0)) && ((((decide (c1 ≥ 48)) && (decide (c1 ≤ 57))) || (c1 == 45)) || (c1 == 95))))) rfl rfl (congrArg (fun b => some (AV.bool b, _)) (by rw [hc55]; rfl)) <| nl ((hJ55 _).2 ⟨_, _, rfl, (And.intro rfl (And.intro rfl (And.intro rfl True.intro))), True.intro⟩)
         · refine L (.bool false) rfl rfl (congrArg (fun b => some (AV.bool b, _)) hc55) <| L (iA i1) rfl rfl rfl <| L (bA (decide (i1 > 0))) rfl rfl rfl ?_
           obtain ⟨J64, hJ64⟩ : ∃ J : St → Prop, ∀ st, J st ↔ (∃ (tm65 : Nat → AV) (cb65 : AE.Frame), st = ⟨tm65, ⟨cb65, out, glob⟩⟩ ∧ AllEq tm65 [(0, (sA s_)), (3, (iA i1)), (20, (bA false)), (21, (iA i1)), (22, (bA (decide (i1 > 0)))), (38, (bA ((decide (i1 > 0)) && ((((decide (c1 ≥ 48)) && (decide (c1 ≤ 57))) || (c1 == 45)) || (c1 == 95)))))] ∧ AllEq cb65 []) := ⟨_, fun _ => Iff.rfl⟩
           refine WO_cut 16 J64 (fun st hst => ?_) ?_
           · obtain ⟨tm65, cb65, rfl, hT65, hC65⟩ := (hJ64 st).1 hst
             obtain ⟨tm65, rfl⟩ := allEq hT65
             obtain ⟨cb65, rfl⟩ := allEq hC65
             exact L (bA (((decide (c1 ≥ 97)) && (decide (c1 ≤ 122))) || ((decide (i1 > 0)) && ((((decide (c1 ≥ 48)) && (decide (c1 ≤ 57))) || (c1 == 45)) || (c1 == 95))))) rfl rfl (congrArg (fun b => some (AV.bool b, _)) (by rw [hc55]; rfl)) <| nl ((hJ55 _).2 ⟨_, _, rfl, (And.intro rfl (And.intro rfl (And.intro rfl True.intro))), True.intro⟩)
           · rcases bool_cases (decide (i1 > 0)) with hc64 | hc64
             · refine L (.bool true) rfl rfl (congrArg (fun b => some (AV.bool b, _)) hc64) <| L (.int .u8 c1) rfl rfl rfl <| L (bA (decide (c1 ≥ 48))) rfl rfl rfl ?_
               obtain ⟨J66, hJ66⟩ : ∃ J : St → Prop, ∀ st, J st ↔ (∃ (tm67 : Nat → AV) (cb67 : AE.Frame), st = ⟨tm67, ⟨cb67, out, glob⟩⟩ ∧ AllEq tm67 [(0, (sA s_)), (3, (iA i1)), (4, (.int .u8 c1)), (20, (bA false)), (21, (iA i1)), (22, (bA (decide (i1 > 0)))), (23, (bA true)), (24, (.int .u8 c1)), (25, (bA (decide (c1 ≥ 48)))), (29, (bA ((decide (c1 ≥ 48)) && (decide (c1 ≤ 57)))))] ∧ AllEq cb67 []) := ⟨_, fun _ => Iff.rfl⟩
               refine WO_cut 4 J66 (fun st hst => ?_) ?_
               · obtain ⟨tm67, cb67, rfl, hT67, hC67⟩ := (hJ66 st).1 hst
                 obtain ⟨tm67, rfl⟩ := allEq hT67
                 obtain ⟨cb67, rfl⟩ := allEq hC67
                 obtain ⟨J68, hJ68⟩ : ∃ J : St → Prop, ∀ st, J st ↔ (∃ (tm69 : Nat → AV) (cb69 : AE.Frame), st = ⟨tm69, ⟨cb69, out, glob⟩⟩ ∧ AllEq tm69 [(0, (sA s_)), (3, (iA i1)), (4, (.int .u8 c1)), (20, (bA false)), (21, (iA i1)), (22, (bA (decide (i1 > 0)))), (23, (bA true)), (24, (.int .u8 c1)), (25, (bA (decide (c1 ≥ 48)))), (29, (bA ((decide (c1 ≥ 48)) && (decide (c1 ≤ 57))))), (33, (bA (((decide (c1 ≥ 48)) && (decide (c1 ≤ 57))) || (c1 == 45))))] ∧ AllEq cb69 []) := ⟨_, fun _ => Iff.rfl⟩
                 refine WO_cut 4 J68 (fun st hst => ?_) ?_
                 · obtain ⟨tm69, cb69, rfl, hT69, hC69⟩ := (hJ68 st).1 hst
                   obtain ⟨tm69, rfl⟩ := allEq hT69
                   obtain ⟨cb69, rfl⟩ := allEq hC69
                   obtain ⟨J70, hJ70⟩ : ∃ J : St → Prop, ∀ st, J st ↔ (∃ (tm71 : Nat → AV) (cb71 : AE.Frame), st = ⟨tm71, ⟨cb71, out, glob⟩⟩ ∧ AllEq tm71 [(0, (sA s_)), (3, (iA i1)), (20, (bA false)), (21, (iA i1)), (22, (bA (decide (i1 > 0)))), (23, (bA true)), (24, (.int .u8 c1)), (25, (bA (decide (c1 ≥ 48)))), (29, (bA ((decide (c1 ≥ 48)) && (decide (c1 ≤ 57))))), (33, (bA (((decide (c1 ≥ 48)) && (decide (c1 ≤ 57))) || (c1 == 45)))), (37, (bA ((((decide (c1 ≥ 48)) && (decide (c1 ≤ 57))) || (c1 == 45)) || (c1 == 95))))] ∧ AllEq cb71 []) := ⟨_, fun _ => Iff.rfl⟩
                   refine WO_cut 4 J70 (fun st hst => ?_) ?_
                   · obtain ⟨tm71, cb71, rfl, hT71, hC71⟩ := (hJ70 st).1 hst
                     obtain ⟨tm71, rfl⟩ := allEq hT71
                     obtain ⟨cb71, rfl⟩ := allEq hC71
                     exact L (bA ((decide (i1 > 0)) && ((((decide (c1 ≥ 48)) && (decide (c1 ≤ 57))) || (c1 == 45)) || (c1 == 95)))) rfl rfl (congrArg (fun b => some (AV.bool b, _)) (by rw [hc64]; rfl)) <| nl ((hJ64 _).2 ⟨_, _, rfl, (And.intro rfl (And.intro rfl (And.intro rfl (And.intro rfl (And.intro rfl (And.intro rfl True.intro)))))), True.intro⟩)
                   · rcases bool_cases (((decide (c1 ≥ 48)) && (decide (c1 ≤ 57))) || (c1 == 45)) with hc70 | hc70
                     · exact L (.bool true) rfl rfl (congrArg (fun b => some (AV.bool b, _)) hc70) <| WO_no _ rfl rfl <| WO_no _ rfl rfl <| L (bA ((((decide (c1 ≥ 48)) && (decide (c1 ≤ 57))) || (c1 == 45)) || (c1 == 95))) rfl rfl (congrArg (fun b => some (AV.bool b, _)) (by rw [hc70]; rfl)) <| nl ((hJ70 _).2 ⟨_, _, rfl, (And.intro rfl (And.intro rfl (And.intro rfl (And.intro rfl (And.intro rfl (And.intro rfl (And.intro rfl (And.intro rfl (And.intro rfl (And.intro rfl (And.intro rfl True.intro))))))))))), True.intro⟩)
                     · exact L (.bool false) rfl rfl (congrArg (fun b => some (AV.bool b, _)) hc70) <| L (.int .u8 c1) rfl rfl rfl <| L (bA (c1 == 95)) rfl rfl rfl <| L (bA ((((decide (c1 ≥ 48)) && (decide (c1 ≤ 57))) || (c1 == 45)) || (c1 == 95))) rfl rfl (congrArg (fun b => some (AV.bool b, _)) (by rw [hc70]; rfl)) <| nl ((hJ70 _).2 ⟨_, _, rfl, (And.intro rfl (And.intro rfl (And.intro rfl (And.intro rfl (And.intro rfl (And.intro rfl (And.intro rfl (And.intro rfl (And.intro rfl (And.intro rfl (And.intro rfl True.intro))))))))))), True.intro⟩)
                 · rcases bool_cases ((decide (c1 ≥ 48)) && (decide (c1 ≤ 57))) with hc68 | hc68
                   · exact L (.bool true) rfl rfl (congrArg (fun b => some (AV.bool b, _)) hc68) <| WO_no _ rfl rfl <| WO_no _ rfl rfl <| L (bA (((decide (c1 ≥ 48)) && (decide (c1 ≤ 57))) || (c1 == 45))) rfl rfl (congrArg (fun b => some (AV.bool b, _)) (by rw [hc68]; rfl)) <| nl ((hJ68 _).2 ⟨_, _, rfl, (And.intro rfl (And.intro rfl (And.intro rfl (And.intro rfl (And.intro rfl (And.intro rfl (And.intro rfl (And.intro rfl (And.intro rfl (And.intro rfl (And.intro rfl True.intro))))))))))), True.intro⟩)
                   · exact L (.bool false) rfl rfl (congrArg (fun b => some (AV.bool b, _)) hc68) <| L (.int .u8 c1) rfl rfl rfl <| L (bA (c1 == 45)) rfl rfl rfl <| L (bA (((decide (c1 ≥ 48)) && (decide (c1 ≤ 57))) || (c1 == 45))) rfl rfl (congrArg (fun b => some (AV.bool b, _)) (by rw [hc68]; rfl)) <| nl ((hJ68 _).2 ⟨_, _, rfl, (And.intro rfl (And.intro rfl (And.intro rfl (And.intro rfl (And.intro rfl (And.intro rfl (And.intro rfl (And.intro rfl (And.intro rfl (And.intro rfl (And.intro rfl True.intro))))))))))), True.intro⟩)
               · rcases bool_cases (decide (c1 ≥ 48)) with hc66 | hc66
                 · exact L (.bool true) rfl rfl (congrArg (fun b => some (AV.bool b, _)) hc66) <| L (.int .u8 c1) rfl rfl rfl <| L (bA (decide (c1 ≤ 57))) rfl rfl rfl <| L (bA ((decide (c1 ≥ 48)) && (decide (c1 ≤ 57)))) rfl rfl (congrArg (fun b => some (AV.bool b, _)) (by rw [hc66]; rfl)) <| nl ((hJ66 _).2 ⟨_, _, rfl, (And.intro rfl (And.intro rfl (And.intro rfl (And.intro rfl (And.intro rfl (And.intro rfl (And.intro rfl (And.intro rfl (And.intro rfl (And.intro rfl True.intro)))))))))), True.intro⟩)
                 · exact L (.bool false) rfl rfl (congrArg (fun b => some (AV.bool b, _)) hc66) <| WO_no _ rfl rfl <| WO_no _ rfl rfl <| L (bA ((decide (c1 ≥ 48)) && (decide (c1 ≤ 57)))) rfl rfl (congrArg (fun b => some (AV.bool b, _)) (by rw [hc66]; rfl)) <| nl ((hJ66 _).2 ⟨_, _, rfl, (And.intro rfl (And.intro rfl (And.intro rfl (And.intro rfl (And.intro rfl (And.intro rfl (And.intro rfl (And.intro rfl (And.intro rfl (And.intro rfl True.intro)))))))))), True.intro⟩)
             · exact L (.bool false) rfl rfl (congrArg (fun b => some (AV.bool b, _)) hc64) <| WO_no _ rfl rfl <| WO_no _ rfl rfl <| WO_no _ rfl rfl <| WO_no _ rfl rfl <| WO_no _ rfl rfl <| WO_no _ rfl rfl <| WO_no _ rfl rfl <| WO_no _ rfl rfl <| WO_no _ rfl rfl <| WO_no _ rfl rfl <| WO_no _ rfl rfl <| WO_no _ rfl rfl <| WO_no _ rfl rfl <| WO_no _ rfl rfl <| L (bA ((decide (i1 > 0)) && ((((decide (c1 ≥ 48)) && (decide (c1 ≤ 57))) || (c1 == 45)) || (c1 == 95)))) rfl rfl (congrArg (fun b => some (AV.bool b, _)) (by rw [hc64]; rfl)) <| nl ((hJ64 _).2 ⟨_, _, rfl, (And.intro rfl (And.intro rfl (And.intro rfl (And.intro rfl (And.intro rfl (And.intro rfl True.intro)))))), True.intro⟩)
     · rcases bool_cases (decide (c1 ≥ 97)) with hc39 | hc39
       · exact L (.bool true) rfl rfl (congrArg (fun b => some (AV.bool b, _)) hc39) <| L (.int .u8 c1) rfl rfl rfl <| L (bA (decide (c1 ≤ 122))) rfl rfl rfl <| L (bA ((decide (c1 ≥ 97)) && (decide (c1 ≤ 122)))) rfl rfl (congrArg (fun b => some (AV.bool b, _)) (by rw [hc39]; rfl)) <| nl ((hJ39 _).2 ⟨_, _, rfl, (And.intro rfl (And.intro rfl (And.intro rfl (And.intro rfl True.intro)))), True.intro⟩)
       · exact L (.bool false) rfl rfl (congrArg (fun b => some (AV.bool b, _)) hc39) <| WO_no _ rfl rfl <| WO_no _ rfl rfl <| L (bA ((decide (c1 ≥ 97)) && (decide (c1 ≤ 122)))) rfl rfl (congrArg (fun b => some (AV.bool b, _)) (by rw [hc39]; rfl)) <| nl ((hJ39 _).2 ⟨_, _, rfl, (And.intro rfl (And.intro rfl (And.intro rfl (And.intro rfl True.intro)))), True.intro⟩)
   · replace hF1 := ite_f hF1 (dec_f hc72)
     exact xt <| (hJ36 _).2 ⟨_, _, rfl, (And.intro rfl True.intro), True.intro, hD1 _ (Option.some.inj hF1).symm⟩

theorem ok_kit_Outside (n : Int) (low : Int) (high : Int) {r : (Bool)} (hF0 : kit_Outside n low high = some r) (out : List AE.Frame) (glob : List AObj) : RdOk Tryz.prog pol true 39 [(iA n), (iA low), (iA high)] out glob (bA r) := by
 unfold kit_Outside at hF0
 refine rd_walk Tryz.func39 rfl (Nat.not_lt.2 (Nat.le_of_ble_eq_true rfl)) ?_
 intro ro
 refine sq <| rg <| L (bA false) rfl rfl rfl <| nl <| sq <| rg <| L (iA n) rfl rfl rfl <| L (iA low) rfl rfl rfl <| L (bA (decide (n < low))) rfl rfl rfl ?_
 obtain ⟨J1, hJ1⟩ : ∃ J : St → Prop, ∀ st, J st ↔ (∃ (tm2 : Nat → AV) (cb2 : AE.Frame), st = ⟨tm2, ⟨cb2, out, glob⟩⟩ ∧ AllEq tm2 [(14, (bA ((decide (n < low)) || (decide (n > high)))))] ∧ AllEq cb2 []) := ⟨_, fun _ => Iff.rfl⟩
 refine WO_cut 5 J1 (fun st hst => ?_) ?_
 · obtain ⟨tm2, cb2, rfl, hT2, hC2⟩ := (hJ1 st).1 hst
   obtain ⟨tm2, rfl⟩ := allEq hT2
   obtain ⟨cb2, rfl⟩ := allEq hC2
   refine L (bA ((decide (n < low)) || (decide (n > high)))) rfl rfl rfl <| nl <| rt ?_
   obtain rfl := Option.some.inj hF0
   exact rd_leaf (.inr rfl) rfl (retV_pl _ _ (bA ((decide (n < low)) || (decide (n > high))))) rfl rfl
 · rcases bool_cases (decide (n < low)) with hc1 | hc1
   · exact L (.bool true) rfl rfl (congrArg (fun b => some (AV.bool b, _)) hc1) <| WO_no _ rfl rfl <| WO_no _ rfl rfl <| WO_no _ rfl rfl <| L (bA ((decide (n < low)) || (decide (n > high)))) rfl rfl (congrArg (fun b => some (AV.bool b, _)) (by rw [hc1]; rfl)) <| nl ((hJ1 _).2 ⟨_, _, rfl, (And.intro rfl True.intro), True.intro⟩)
   · exact L (.bool false) rfl rfl (congrArg (fun b => some (AV.bool b, _)) hc1) <| L (iA n) rfl rfl rfl <| L (iA high) rfl rfl rfl <| L (bA (decide (n > high))) rfl rfl rfl <| L (bA ((decide (n < low)) || (decide (n > high)))) rfl rfl (congrArg (fun b => some (AV.bool b, _)) (by rw [hc1]; rfl)) <| nl ((hJ1 _).2 ⟨_, _, rfl, (And.intro rfl True.intro), True.intro⟩)

theorem ok_gate_CheckRecords (l : (Sl api_Record)) {r : (Int)} (hF0 : gate_CheckRecords l = some r) (out : List AE.Frame) (glob : List AObj) : RdOk Tryz.prog pol true 19 [(Sl.av 7 c_api_Record l)] out glob (iA r) := by
 unfold gate_CheckRecords at hF0
 refine rd_walk Tryz.func19 rfl (Nat.not_lt.2 (Nat.le_of_ble_eq_true rfl)) ?_
 intro ro
 refine sq <| rg <| L (iA 0) rfl rfl rfl <| nl <| sq <| sq <| rg <| L (Sl.av 7 c_api_Record l) rfl rfl rfl <| L (iA (l.list.length : Int)) rfl rfl (op_len rfl rfl rfl rfl rfl (len_sl _)) <| L (bA (decide ((l.list.length : Int) > 3000))) rfl rfl rfl <| nl <| cd (decide ((l.list.length : Int) > 3000)) rfl (fun hc61 => ?_) (fun hc61 => ?_)
 · replace hF0 := ite_t hF0 (dec_t hc61)
   refine sq <| rg <| L (iA 2) rfl rfl rfl <| nl <| rt ?_
   obtain rfl := Option.some.inj hF0
   exact rd_leaf (.inr rfl) rfl (retV_pl _ _ (iA 2)) rfl rfl
 · replace hF0 := ite_f hF0 (dec_f hc61)
   refine sk <| sq <| sq <| rg <| L (Sl.av 7 c_api_Record l) rfl rfl rfl <| L (iA (l.list.length : Int)) rfl rfl (op_len rfl rfl rfl rfl rfl (len_sl _)) <| L (iA 0) rfl rfl rfl <| nl <| bk ?_
   obtain ⟨b1, hb30, hF0⟩ := bind_some hF0
   obtain ⟨hn30, hb30⟩ := ite_none hb30
   obtain ⟨J30, hJ30⟩ : ∃ J : St → Prop, ∀ st, J st ↔ (∃ (tm32 : Nat → AV) (cb32 : AE.Frame), st = ⟨tm32, ⟨cb32, out, glob⟩⟩ ∧ AllEq tm32 [] ∧ AllEq cb32 [] ∧ Res.out () = b1) := ⟨_, fun _ => Iff.rfl⟩
   obtain ⟨R30, hR30⟩ : ∃ R : Nat → (Unit) → St → Prop, ∀ i1 v st, R i1 v st ↔ (match v with | () => ∃ (tm31 : Nat → AV) (cb31 : AE.Frame), st = ⟨tm31, ⟨cb31, out, glob⟩⟩ ∧ AllEq tm31 [(0, (Sl.av 7 c_api_Record l)), (10, (Sl.av 7 c_api_Record l)), (11, (iA (l.list.length : Int))), (12, (iA ((i1 : Nat) : Int)))] ∧ AllEq cb31 []) := ⟨_, fun _ _ _ => Iff.rfl⟩
   refine W_loopcut J30 (fun st hst => ?_) ?_
   · obtain ⟨tm32, cb32, rfl, hT32, hC32, rfl⟩ := (hJ30 st).1 hst
     obtain ⟨tm32, rfl⟩ := allEq hT32
     obtain ⟨cb32, rfl⟩ := allEq hC32
     replace hF0 := res_out hF0
     refine sq <| rg <| L (iA 0) rfl rfl rfl <| nl <| rt ?_
     obtain rfl := Option.some.inj hF0
     exact rd_leaf (.inr rfl) rfl (retV_pl _ _ (iA 0)) rfl rfl
   · refine W_rangeL hb30 R30 ((hR30 _ _ _).2 ⟨_, _, rfl, (And.intro rfl (And.intro rfl (And.intro rfl (And.intro rfl True.intro)))), True.intro⟩) ?_ ?_
     · intro i1 hi30 v st s hr hF1 hD1
       obtain ⟨⟩ := v
       obtain ⟨tm31, cb31, rfl, hT31, hC31⟩ := (hR30 _ _ _).1 hr
       obtain ⟨tm31, rfl⟩ := allEq hT31
       obtain ⟨cb31, rfl⟩ := allEq hC31
       obtain ⟨x4, hx30⟩ : ∃ x, x = l.list[i1] := ⟨_, rfl⟩
       rw [← hx30] at hF1
       dsimp only [gate_CheckRecords_l0] at hF1
       refine sq (rg ?_)
       refine WO_do (y := (bA (decide (((i1 : Nat) : Int) < (l.list.length : Int))))) _ rfl rfl rfl (nl ?_)
       refine sq <| cd true (congrArg some (range_lt hi30)) (fun _ => ?_) (fun h => absurd h (by decide))
       refine sk <| sq <| bk <| sq <| rg <| L (iA ((i1 : Nat) : Int)) rfl rfl rfl <| L (.cptr (c_api_Record x4)) rfl rfl (op_ix rfl ((ix_at (c := c_api_Record) rfl rfl hi30).trans (congrArg (fun x => some (AV.cptr (c_api_Record x))) hx30.symm))) <| L (.agg (c_api_Record x4)) rfl rfl rfl <| L (.ptr (.fr 0 4) ((cb31 4).ver + 1) 0) (h' := ⟨upd _ 4 ⟨(cb31 4).ver + 1, .cells (c_api_Record (api_Record.mk 0 [] [] [] [] 0 0))⟩, _, _⟩) rfl rfl (op_alloc (c_api_Record (api_Record.mk 0 [] [] [] [] 0 0)) rfl rfl rfl rfl) <| L (iA ((i1 : Nat) : Int)) rfl rfl rfl <| L (.tup []) (h' := ⟨upd _ 4 ⟨(cb31 4).ver + 1, .cells (c_api_Record x4)⟩, _, _⟩) rfl rfl (op_store rfl rfl (st_fr (x := (.agg (c_api_Record x4))) (cs := (c_api_Record (api_Record.mk 0 [] [] [] [] 0 0))) (c_api_Record x4) rfl rfl (Nat.le_of_ble_eq_true rfl) rfl)) <| nl <| sq <| sq <| rg <| L (.ptr (.fr 0 4) ((cb31 4).ver + 1) 0) rfl rfl rfl <| L (iA x4.At) rfl rfl (op_load rfl (ld_con (iA x4.At) rfl rfl (cs := (c_api_Record x4)) (con_fr rfl) rfl)) ?_
       obtain ⟨r191, h34, hF1⟩ := bind_some hF1
       refine WO_rd (g := 37) (args := [(iA x4.At)]) (r := (bA r191)) _ _ rfl rfl rfl rfl rfl rfl rfl (ok_kit_IsMoment _ h34 _ _ ) <| L (bA (!r191)) rfl rfl rfl <| nl <| cd (!r191) rfl (fun hc60 => ?_) (fun hc60 => ?_)
       · replace hF1 := ite_t hF1 (hc60)
         refine sq <| rg <| L (iA 1) rfl rfl rfl <| nl <| rt ?_
         obtain rfl := hD1 _ (Option.some.inj hF1).symm
         replace hF0 := res_ret hF0
         obtain rfl := Option.some.inj hF0
         exact rd_leaf (.inr rfl) rfl (retV_pl _ _ (iA 1)) rfl rfl
       · replace hF1 := ite_f hF1 (not_t hc60)
         refine sk <| sq <| sq <| rg <| L (.ptr (.fr 0 4) ((cb31 4).ver + 1) 1) rfl rfl rfl <| L (sA x4.Route) rfl rfl (op_load rfl (ld_con (sA x4.Route) rfl rfl (cs := (c_api_Record x4)) (con_fr rfl) rfl)) <| L (.ptr (.fr 0 4) ((cb31 4).ver + 1) 2) rfl rfl rfl <| L (sA x4.Caller) rfl rfl (op_load rfl (ld_con (sA x4.Caller) rfl rfl (cs := (c_api_Record x4)) (con_fr rfl) rfl)) <| L (.ptr (.fr 0 4) ((cb31 4).ver + 1) 3) rfl rfl rfl <| L (sA x4.Act) rfl rfl (op_load rfl (ld_con (sA x4.Act) rfl rfl (cs := (c_api_Record x4)) (con_fr rfl) rfl)) <| L (.ptr (.fr 0 4) ((cb31 4).ver + 1) 4) rfl rfl rfl <| L (sA x4.Instance) rfl rfl (op_load rfl (ld_con (sA x4.Instance) rfl rfl (cs := (c_api_Record x4)) (con_fr rfl) rfl)) <| L (Sl.av 1 c_str (Sl.full [x4.Route, x4.Caller, x4.Act, x4.Instance] : Sl Str)) rfl rfl (op_sliceN rfl rfl rfl) <| L (iA ((Sl.full [x4.Route, x4.Caller, x4.Act, x4.Instance] : Sl Str).list.length : Int)) rfl rfl (op_len rfl rfl rfl rfl rfl rfl) <| L (iA 0) rfl rfl rfl <| nl <| bk ?_
         obtain ⟨b2, hb42, hF1⟩ := bind_some hF1
         obtain ⟨hn42, hb42⟩ := ite_none hb42
         obtain ⟨J42, hJ42⟩ : ∃ J : St → Prop, ∀ st, J st ↔ (∃ (tm44 : Nat → AV) (cb44 : AE.Frame), st = ⟨tm44, ⟨cb44, out, glob⟩⟩ ∧ AllEq tm44 [(0, (Sl.av 7 c_api_Record l)), (3, (iA ((i1 : Nat) : Int))), (4, (.ptr (.fr 0 4) ((cb31 4).ver + 1) 0)), (10, (Sl.av 7 c_api_Record l)), (11, (iA (l.list.length : Int))), (12, (iA ((i1 : Nat) : Int)))] ∧ AllEq cb44 [(4, ⟨(cb31 4).ver + 1, .cells (c_api_Record x4)⟩)] ∧ Res.out () = b2) := ⟨_, fun _ => Iff.rfl⟩
         obtain ⟨R42, hR42⟩ : ∃ R : Nat → (Unit) → St → Prop, ∀ i2 v st, R i2 v st ↔ (match v with | () => ∃ (tm43 : Nat → AV) (cb43 : AE.Frame), st = ⟨tm43, ⟨cb43, out, glob⟩⟩ ∧ AllEq tm43 [(0, (Sl.av 7 c_api_Record l)), (3, (iA ((i1 : Nat) : Int))), (4, (.ptr (.fr 0 4) ((cb31 4).ver + 1) 0)), (10, (Sl.av 7 c_api_Record l)), (11, (iA (l.list.length : Int))), (12, (iA ((i1 : Nat) : Int))), (29, (Sl.av 1 c_str (Sl.full [x4.Route, x4.Caller, x4.Act, x4.Instance] : Sl Str))), (30, (iA ((Sl.full [x4.Route, x4.Caller, x4.Act, x4.Instance] : Sl Str).list.length : Int))), (31, (iA ((i2 : Nat) : Int)))] ∧ AllEq cb43 [(4, ⟨(cb31 4).ver + 1, .cells (c_api_Record x4)⟩)]) := ⟨_, fun _ _ _ => Iff.rfl⟩
         refine W_loopcut J42 (fun st hst => ?_) ?_
         · obtain ⟨tm44, cb44, rfl, hT44, hC44, rfl⟩ := (hJ42 st).1 hst
           obtain ⟨tm44, rfl⟩ := allEq hT44
           obtain ⟨cb44, rfl⟩ := allEq hC44
           replace hF1 := res_out hF1
           refine sq <| sq <| rg <| L (.ptr (.fr 0 4) ((cb31 4).ver + 1) 5) rfl rfl rfl <| L (iA x4.Status) rfl rfl (op_load rfl (ld_con (iA x4.Status) rfl rfl (cs := (c_api_Record x4)) (con_fr rfl) rfl)) ?_
           obtain ⟨r451, h51, hF1⟩ := bind_some hF1
           refine WO_rd (g := 39) (args := [(iA x4.Status), (iA 100), (iA 599)]) (r := (bA r451)) _ _ rfl rfl rfl rfl rfl rfl rfl (ok_kit_Outside _ _ _ h51 _ _ ) ?_
           obtain ⟨y53, hF2, hF1⟩ := bind_some hF1
           obtain ⟨J53, hJ53⟩ : ∃ J : St → Prop, ∀ st, J st ↔ (∃ (t501 : Bool) (tm54 : Nat → AV) (cb54 : AE.Frame), st = ⟨tm54, ⟨cb54, out, glob⟩⟩ ∧ AllEq tm54 [(0, (Sl.av 7 c_api_Record l)), (3, (iA ((i1 : Nat) : Int))), (4, (.ptr (.fr 0 4) ((cb31 4).ver + 1) 0)), (10, (Sl.av 7 c_api_Record l)), (11, (iA (l.list.length : Int))), (12, (iA ((i1 : Nat) : Int))), (50, (bA t501))] ∧ AllEq cb54 [(4, ⟨(cb31 4).ver + 1, .cells (c_api_Record x4)⟩)] ∧ t501 = y53) := ⟨_, fun _ => Iff.rfl⟩
           refine WO_cut 5 J53 (fun st hst => ?_) ?_
           · obtain ⟨t501, tm54, cb54, rfl, hT54, hC54, rfl⟩ := (hJ53 st).1 hst
             obtain ⟨tm54, rfl⟩ := allEq hT54
             obtain ⟨cb54, rfl⟩ := allEq hC54
             refine nl <| cd t501 rfl (fun hc58 => ?_) (fun hc58 => ?_)
             · replace hF1 := ite_t hF1 (hc58)
               refine sq <| rg <| L (iA 1) rfl rfl rfl <| nl <| rt ?_
               obtain rfl := hD1 _ (Option.some.inj hF1).symm
               replace hF0 := res_ret hF0
               obtain rfl := Option.some.inj hF0
               exact rd_leaf (.inr rfl) rfl (retV_pl _ _ (iA 1)) rfl rfl
             · replace hF1 := ite_f hF1 (not_t hc58)
               refine sk <| sq <| dw (by kernel_rfl) <| L (iA ((i1 : Nat) : Int)) rfl rfl rfl <| L (bA (decide (((i1 : Nat) : Int) > 0))) rfl rfl rfl ?_
               obtain ⟨y55, hF2, hF1⟩ := bind_some hF1
               obtain ⟨J55, hJ55⟩ : ∃ J : St → Prop, ∀ st, J st ↔ (∃ (t631 : Bool) (tm56 : Nat → AV) (cb56 : AE.Frame), st = ⟨tm56, ⟨cb56, out, glob⟩⟩ ∧ AllEq tm56 [(0, (Sl.av 7 c_api_Record l)), (10, (Sl.av 7 c_api_Record l)), (11, (iA (l.list.length : Int))), (12, (iA ((i1 : Nat) : Int))), (63, (bA t631))] ∧ AllEq cb56 [] ∧ t631 = y55) := ⟨_, fun _ => Iff.rfl⟩
               refine WO_cut 11 J55 (fun st hst => ?_) ?_
               · obtain ⟨t631, tm56, cb56, rfl, hT56, hC56, rfl⟩ := (hJ55 st).1 hst
                 obtain ⟨tm56, rfl⟩ := allEq hT56
                 obtain ⟨cb56, rfl⟩ := allEq hC56
                 refine nl <| cd t631 rfl (fun hc57 => ?_) (fun hc57 => ?_)
                 · replace hF1 := ite_t hF1 (hc57)
                   refine sq <| rg <| L (iA 7) rfl rfl rfl <| nl <| rt ?_
                   obtain rfl := hD1 _ (Option.some.inj hF1).symm
                   replace hF0 := res_ret hF0
                   obtain rfl := Option.some.inj hF0
                   exact rd_leaf (.inr rfl) rfl (retV_pl _ _ (iA 7)) rfl rfl
                 · replace hF1 := ite_f hF1 (not_t hc57)
                   exact sk <| rg <| WO_do (y := (iA ((i1 + 1 : Nat) : Int))) _ rfl rfl (congrArg (fun n => some (AV.int .i64 n, _)) (range_len hi30 hn30)) <| WO_do (y := (iA ((i1 + 1 : Nat) : Int))) _ rfl rfl rfl <| nl <| Exists.intro _ (And.intro (Option.some.inj hF1).symm ((hR30 _ _ _).2 ⟨_, _, rfl, (And.intro rfl (And.intro rfl (And.intro rfl (And.intro rfl True.intro)))), True.intro⟩))
               · rcases bool_cases (decide (((i1 : Nat) : Int) > 0)) with hc55 | hc55
                 · replace hF2 := ite_t hF2 (dec_t hc55)
                   refine L (.bool true) rfl rfl (congrArg (fun b => some (AV.bool b, _)) hc55) <| L (.ptr (.fr 0 4) ((cb31 4).ver + 1) 0) rfl rfl rfl <| L (iA x4.At) rfl rfl (op_load rfl (ld_con (iA x4.At) rfl rfl (cs := (c_api_Record x4)) (con_fr rfl) rfl)) <| L (Sl.av 7 c_api_Record l) rfl rfl rfl <| L (iA ((i1 : Nat) : Int)) rfl rfl rfl <| L (iA (w64 (((i1 : Nat) : Int) - 1))) rfl rfl rfl ?_
                   obtain ⟨x7, h_x7, hF2⟩ := bind_some hF2
                   exact L (.cptr (c_api_Record x7)) rfl rfl (op_ix rfl (ix_sl (c := c_api_Record) rfl rfl h_x7)) <| L (.cptr ((c_api_Record x7).drop 0)) rfl rfl rfl <| L (iA x7.At) rfl rfl rfl <| L (bA (decide (x4.At < x7.At))) rfl rfl rfl <| L (bA (decide (x4.At < x7.At))) rfl rfl rfl <| nl ((hJ55 _).2 ⟨decide (x4.At < x7.At), _, _, rfl, (And.intro rfl (And.intro rfl (And.intro rfl (And.intro rfl (And.intro rfl True.intro))))), True.intro, Option.some.inj hF2⟩)
                 · replace hF2 := ite_f hF2 (dec_f hc55)
                   exact L (.bool false) rfl rfl (congrArg (fun b => some (AV.bool b, _)) hc55) <| WO_no _ rfl rfl <| WO_no _ rfl rfl <| WO_no _ rfl rfl <| WO_no _ rfl rfl <| WO_no _ rfl rfl <| WO_no _ rfl rfl <| WO_no _ rfl rfl <| WO_no _ rfl rfl <| WO_no _ rfl rfl <| L (bA false) rfl rfl rfl <| nl ((hJ55 _).2 ⟨false, _, _, rfl, (And.intro rfl (And.intro rfl (And.intro rfl (And.intro rfl (And.intro rfl True.intro))))), True.intro, Option.some.inj hF2⟩)
           · rcases bool_cases r451 with hc53 | hc53
             · replace hF2 := ite_t hF2 (hc53)
               exact L (.bool true) rfl rfl (congrArg (fun b => some (AV.bool b, _)) hc53) <| WO_no _ rfl rfl <| WO_no _ rfl rfl <| WO_no _ rfl rfl <| L (bA true) rfl rfl rfl <| nl ((hJ53 _).2 ⟨true, _, _, rfl, (And.intro rfl (And.intro rfl (And.intro rfl (And.intro rfl (And.intro rfl (And.intro rfl (And.intro rfl True.intro))))))), (And.intro rfl True.intro), Option.some.inj hF2⟩)
             · replace hF2 := ite_f hF2 (not_t hc53)
               refine L (.bool false) rfl rfl (congrArg (fun b => some (AV.bool b, _)) hc53) <| L (.ptr (.fr 0 4) ((cb31 4).ver + 1) 6) rfl rfl rfl <| L (iA x4.Found) rfl rfl (op_load rfl (ld_con (iA x4.Found) rfl rfl (cs := (c_api_Record x4)) (con_fr rfl) rfl)) ?_
               obtain ⟨r493, h59, hF2⟩ := bind_some hF2
               exact WO_rd (g := 39) (args := [(iA x4.Found), (iA 0), (iA 4)]) (r := (bA r493)) _ _ rfl rfl rfl rfl rfl rfl rfl (ok_kit_Outside _ _ _ h59 _ _ ) <| L (bA r493) rfl rfl rfl <| nl ((hJ53 _).2 ⟨r493, _, _, rfl, (And.intro rfl (And.intro rfl (And.intro rfl (And.intro rfl (And.intro rfl (And.intro rfl (And.intro rfl True.intro))))))), (And.intro rfl True.intro), Option.some.inj hF2⟩)
         · refine W_rangeL hb42 R42 ((hR42 _ _ _).2 ⟨_, _, rfl, (And.intro rfl (And.intro rfl (And.intro rfl (And.intro rfl (And.intro rfl (And.intro rfl (And.intro rfl (And.intro rfl (And.intro rfl True.intro))))))))), (And.intro rfl True.intro)⟩) ?_ ?_
           · intro i2 hi42 v st s hr hF2 hD2
             obtain ⟨⟩ := v
             obtain ⟨tm43, cb43, rfl, hT43, hC43⟩ := (hR42 _ _ _).1 hr
             obtain ⟨tm43, rfl⟩ := allEq hT43
             obtain ⟨cb43, rfl⟩ := allEq hC43
             obtain ⟨s_1, hx42⟩ : ∃ x, x = (Sl.full [x4.Route, x4.Caller, x4.Act, x4.Instance] : Sl Str).list[i2] := ⟨_, rfl⟩
             rw [← hx42] at hF2
             dsimp only [gate_CheckRecords_l1] at hF2
             refine sq (rg ?_)
             refine WO_do (y := (bA (decide (((i2 : Nat) : Int) < ((Sl.full [x4.Route, x4.Caller, x4.Act, x4.Instance] : Sl Str).list.length : Int))))) _ rfl rfl rfl (nl ?_)
             refine sq <| cd true (congrArg some (range_lt hi42)) (fun _ => ?_) (fun h => absurd h (by decide))
             refine sk <| sq <| bk <| sq <| rg <| L (.cptr [(sA s_1)]) rfl rfl (op_ix rfl ((ix_at (c := c_str) rfl rfl hi42).trans (congrArg (fun x => some (AV.cptr (c_str x))) hx42.symm))) <| L (sA s_1) rfl rfl rfl <| L (sA s_1) rfl rfl rfl <| nl <| sq <| rg <| L (sA s_1) rfl rfl rfl <| L (bA (s_1 != [])) rfl rfl (op_bin rfl bin_sne) ?_
             obtain ⟨y47, hF3, hF2⟩ := bind_some hF2
             obtain ⟨J47, hJ47⟩ : ∃ J : St → Prop, ∀ st, J st ↔ (∃ (t413 : Bool) (tm48 : Nat → AV) (cb48 : AE.Frame), st = ⟨tm48, ⟨cb48, out, glob⟩⟩ ∧ AllEq tm48 [(0, (Sl.av 7 c_api_Record l)), (3, (iA ((i1 : Nat) : Int))), (4, (.ptr (.fr 0 4) ((cb31 4).ver + 1) 0)), (10, (Sl.av 7 c_api_Record l)), (11, (iA (l.list.length : Int))), (12, (iA ((i1 : Nat) : Int))), (29, (Sl.av 1 c_str (Sl.full [x4.Route, x4.Caller, x4.Act, x4.Instance] : Sl Str))), (30, (iA ((Sl.full [x4.Route, x4.Caller, x4.Act, x4.Instance] : Sl Str).list.length : Int))), (31, (iA ((i2 : Nat) : Int))), (41, (bA t413))] ∧ AllEq cb48 [(4, ⟨(cb31 4).ver + 1, .cells (c_api_Record x4)⟩)] ∧ t413 = y47) := ⟨_, fun _ => Iff.rfl⟩
             refine WO_cut 5 J47 (fun st hst => ?_) ?_
             · obtain ⟨t413, tm48, cb48, rfl, hT48, hC48, rfl⟩ := (hJ47 st).1 hst
               obtain ⟨tm48, rfl⟩ := allEq hT48
               obtain ⟨cb48, rfl⟩ := allEq hC48
               refine nl <| cd t413 rfl (fun hc49 => ?_) (fun hc49 => ?_)
               · replace hF2 := ite_t hF2 (hc49)
                 refine sq <| rg <| L (iA 5) rfl rfl rfl <| nl <| rt ?_
                 obtain rfl := hD2 _ (Option.some.inj hF2).symm
                 replace hF1 := res_ret hF1
                 obtain rfl := hD1 _ (Option.some.inj hF1).symm
                 replace hF0 := res_ret hF0
                 obtain rfl := Option.some.inj hF0
                 exact rd_leaf (.inr rfl) rfl (retV_pl _ _ (iA 5)) rfl rfl
               · replace hF2 := ite_f hF2 (not_t hc49)
                 exact sk <| rg <| WO_do (y := (iA ((i2 + 1 : Nat) : Int))) _ rfl rfl (congrArg (fun n => some (AV.int .i64 n, _)) (range_len hi42 hn42)) <| WO_do (y := (iA ((i2 + 1 : Nat) : Int))) _ rfl rfl rfl <| nl <| Exists.intro _ (And.intro (Option.some.inj hF2).symm ((hR42 _ _ _).2 ⟨_, _, rfl, (And.intro rfl (And.intro rfl (And.intro rfl (And.intro rfl (And.intro rfl (And.intro rfl (And.intro rfl (And.intro rfl (And.intro rfl True.intro))))))))), (And.intro rfl True.intro)⟩))
             · rcases bool_cases (s_1 != []) with hc47 | hc47
               · replace hF3 := ite_t hF3 (sne_t hc47)
                 refine L (.bool true) rfl rfl (congrArg (fun b => some (AV.bool b, _)) hc47) <| L (sA s_1) rfl rfl rfl ?_
                 obtain ⟨r397, h50, hF3⟩ := bind_some hF3
                 exact WO_rd (g := 38) (args := [(sA s_1)]) (r := (bA r397)) _ _ rfl rfl rfl rfl rfl rfl rfl (ok_kit_IsKey _ h50 _ _ ) <| L (bA (!r397)) rfl rfl rfl <| L (bA (!r397)) rfl rfl rfl <| nl ((hJ47 _).2 ⟨!r397, _, _, rfl, (And.intro rfl (And.intro rfl (And.intro rfl (And.intro rfl (And.intro rfl (And.intro rfl (And.intro rfl (And.intro rfl (And.intro rfl (And.intro rfl True.intro)))))))))), (And.intro rfl True.intro), Option.some.inj hF3⟩)
               · replace hF3 := ite_f hF3 (sne_f hc47)
                 exact L (.bool false) rfl rfl (congrArg (fun b => some (AV.bool b, _)) hc47) <| WO_no _ rfl rfl <| WO_no _ rfl rfl <| WO_no _ rfl rfl <| L (bA false) rfl rfl rfl <| nl ((hJ47 _).2 ⟨false, _, _, rfl, (And.intro rfl (And.intro rfl (And.intro rfl (And.intro rfl (And.intro rfl (And.intro rfl (And.intro rfl (And.intro rfl (And.intro rfl (And.intro rfl True.intro)))))))))), (And.intro rfl True.intro), Option.some.inj hF3⟩)
           · intro v st hr hD2
             obtain ⟨⟩ := v
             obtain ⟨tm43, cb43, rfl, hT43, hC43⟩ := (hR42 _ _ _).1 hr
             obtain ⟨tm43, rfl⟩ := allEq hT43
             obtain ⟨cb43, rfl⟩ := allEq hC43
             refine sq (rg ?_)
             refine WO_do (y := .bool false) _ rfl rfl (congrArg (fun b => some (AV.bool b, _)) (range_ge _)) (nl ?_)
             refine sq <| cd false rfl (fun h => absurd h (by decide)) (fun _ => ?_)
             exact xt <| (hJ42 _).2 ⟨_, _, rfl, (And.intro rfl (And.intro rfl (And.intro rfl (And.intro rfl (And.intro rfl (And.intro rfl True.intro)))))), (And.intro rfl True.intro), hD2⟩
     · intro v st hr hD1
       obtain ⟨⟩ := v
       obtain ⟨tm31, cb31, rfl, hT31, hC31⟩ := (hR30 _ _ _).1 hr
       obtain ⟨tm31, rfl⟩ := allEq hT31
       obtain ⟨cb31, rfl⟩ := allEq hC31
       refine sq (rg ?_)
       refine WO_do (y := .bool false) _ rfl rfl (congrArg (fun b => some (AV.bool b, _)) (range_ge _)) (nl ?_)
       refine sq <| cd false rfl (fun h => absurd h (by decide)) (fun _ => ?_)
       exact xt <| (hJ30 _).2 ⟨_, _, rfl, True.intro, True.intro, hD1⟩

theorem ok_gate_dash (s_ : Str) {r : (Str)} (hF0 : gate_dash s_ = some r) (out : List AE.Frame) (glob : List AObj) : RdOk Tryz.prog pol true 43 [(sA s_)] out glob (sA r) := by
 unfold gate_dash at hF0
 refine rd_walk Tryz.func43 rfl (Nat.not_lt.2 (Nat.le_of_ble_eq_true rfl)) ?_
 intro ro
 refine sq <| rg <| L (sA []) rfl rfl rfl <| nl <| sq <| sq <| rg <| L (sA s_) rfl rfl rfl ?_
 obtain ⟨r4, h1, hF0⟩ := bind_some hF0
 refine WO_rd (g := 38) (args := [(sA s_)]) (r := (bA r4)) _ _ rfl rfl rfl rfl rfl rfl rfl (ok_kit_IsKey _ h1 _ _ ) <| L (bA (!r4)) rfl rfl rfl <| nl <| cd (!r4) rfl (fun hc2 => ?_) (fun hc2 => ?_)
 · replace hF0 := ite_t hF0 (hc2)
   refine sq <| rg <| L (sA [45]) rfl rfl rfl <| nl <| rt ?_
   obtain rfl := Option.some.inj hF0
   exact rd_leaf (.inr rfl) rfl (retV_pl _ _ (sA [45])) rfl rfl
 · replace hF0 := ite_f hF0 (not_t hc2)
   refine sk <| sq <| rg <| L (sA s_) rfl rfl rfl <| L (sA s_) rfl rfl rfl <| nl <| rt ?_
   obtain rfl := Option.some.inj hF0
   exact rd_leaf (.inr rfl) rfl (retV_pl _ _ (sA s_)) rfl rfl

theorem ok_gate_recordText (r_ : api_Record) {r : (Str)} (hF0 : gate_recordText r_ = some r) (out : List AE.Frame) (glob : List AObj) : RdOk Tryz.prog pol true 21 [(.agg (c_api_Record r_))] out glob (sA r) := by
 unfold gate_recordText at hF0
 refine rd_walk Tryz.func21 rfl (Nat.not_lt.2 (Nat.le_of_ble_eq_true rfl)) ?_
 intro ro
 refine sq <| rg <| L (.ptr (.fr 0 1) 1 0) (h' := ⟨upd _ 1 ⟨1, .cells (c_api_Record r_)⟩, _, _⟩) rfl rfl (op_box (x' := (.agg (c_api_Record r_))) rfl rfl rfl rfl) <| L (sA []) rfl rfl rfl <| nl <| sq <| dw (by kernel_rfl) <| L (.ptr (.fr 0 1) 1 0) rfl rfl rfl <| L (iA r_.At) rfl rfl (op_load rfl (ld_con (iA r_.At) rfl rfl (cs := (c_api_Record r_)) (con_fr rfl) rfl)) ?_
 obtain ⟨r5, h_r5, hF0⟩ := bind_some hF0
 refine L (sA r5) rfl rfl (op_lib _ rfl rfl rfl (x_itoa_eq h_r5)) <| L (.ptr (.fr 0 1) 1 1) rfl rfl rfl <| L (sA r_.Route) rfl rfl (op_load rfl (ld_con (sA r_.Route) rfl rfl (cs := (c_api_Record r_)) (con_fr rfl) rfl)) ?_
 obtain ⟨r8, h1, hF0⟩ := bind_some hF0
 refine WO_rd (g := 43) (args := [(sA r_.Route)]) (r := (sA r8)) _ _ rfl rfl rfl rfl rfl rfl rfl (ok_gate_dash _ h1 _ _ ) <| L (.ptr (.fr 0 1) 1 2) rfl rfl rfl <| L (sA r_.Caller) rfl rfl (op_load rfl (ld_con (sA r_.Caller) rfl rfl (cs := (c_api_Record r_)) (con_fr rfl) rfl)) ?_
 obtain ⟨r11, h2, hF0⟩ := bind_some hF0
 refine WO_rd (g := 43) (args := [(sA r_.Caller)]) (r := (sA r11)) _ _ rfl rfl rfl rfl rfl rfl rfl (ok_gate_dash _ h2 _ _ ) <| L (.ptr (.fr 0 1) 1 3) rfl rfl rfl <| L (sA r_.Act) rfl rfl (op_load rfl (ld_con (sA r_.Act) rfl rfl (cs := (c_api_Record r_)) (con_fr rfl) rfl)) ?_
 obtain ⟨r14, h3, hF0⟩ := bind_some hF0
 refine WO_rd (g := 43) (args := [(sA r_.Act)]) (r := (sA r14)) _ _ rfl rfl rfl rfl rfl rfl rfl (ok_gate_dash _ h3 _ _ ) <| L (.ptr (.fr 0 1) 1 4) rfl rfl rfl <| L (sA r_.Instance) rfl rfl (op_load rfl (ld_con (sA r_.Instance) rfl rfl (cs := (c_api_Record r_)) (con_fr rfl) rfl)) ?_
 obtain ⟨r17, h4, hF0⟩ := bind_some hF0
 refine WO_rd (g := 43) (args := [(sA r_.Instance)]) (r := (sA r17)) _ _ rfl rfl rfl rfl rfl rfl rfl (ok_gate_dash _ h4 _ _ ) <| L (.ptr (.fr 0 1) 1 5) rfl rfl rfl <| L (iA r_.Status) rfl rfl (op_load rfl (ld_con (iA r_.Status) rfl rfl (cs := (c_api_Record r_)) (con_fr rfl) rfl)) ?_
 obtain ⟨r20, h_r20, hF0⟩ := bind_some hF0
 refine L (sA r20) rfl rfl (op_lib _ rfl rfl rfl (x_itoa_eq h_r20)) <| L (.ptr (.fr 0 1) 1 6) rfl rfl rfl <| L (iA r_.Found) rfl rfl (op_load rfl (ld_con (iA r_.Found) rfl rfl (cs := (c_api_Record r_)) (con_fr rfl) rfl)) ?_
 obtain ⟨r23, h_r23, hF0⟩ := bind_some hF0
 refine L (sA r23) rfl rfl (op_lib _ rfl rfl rfl (x_itoa_eq h_r23)) <| L (Sl.av 1 c_str (Sl.full [r5, r8, r11, r14, r17, r20, r23] : Sl Str)) rfl rfl (op_sliceN rfl rfl rfl) ?_
 obtain ⟨r25, h_r25, hF0⟩ := bind_some hF0
 refine L (sA r25) rfl rfl (op_lib _ rfl rfl rfl (x_join_eq h_r25)) ?_
 obtain ⟨r2, h_r2, hF0⟩ := bind_some hF0
 refine L (sA r2) rfl rfl (op_bin rfl (bin_sadd h_r2)) <| L (sA r2) rfl rfl rfl <| nl <| rt ?_
 obtain rfl := Option.some.inj hF0
 exact rd_leaf (.inr rfl) rfl (retV_pl _ _ (sA r2)) rfl rfl

theorem ok_strings_Builder_WriteString (b : (Ar UInt8)) (s_ : Str) {r : (Int × Unit × (Ar UInt8))} (hF0 : strings_Builder_WriteString b s_ = some r) : MutA Tryz.prog pol 20 (fun p => [p, (sA s_)]) 0 (some 5) (fun sl u => [(.bmark 50), (rf sl u b.list.length)]) (Ar.con 1 c_byte b) (.tup [(iA r.1), .nili]) (fun sl u => [(.bmark 50), (rf sl u r.2.2.list.length)]) (Ar.con 1 c_byte r.2.2) := by
 unfold strings_Builder_WriteString at hF0
 refine mutA_walk Tryz.func20 rfl (fun _ => Nat.not_lt.2 (Nat.le_of_ble_eq_true rfl)) ?_
 intro out glob d0 w0 e0 sl0 u0 hh0 hsub0 hbt0 hk_0 hka_0
 refine sq <| rg <| L (iA 0) rfl rfl rfl <| L .nili rfl rfl rfl <| nl <| sq <| rg <| L (.ptr d0 w0 0) rfl rfl rfl <| L (.tup []) rfl rfl (opF_H _ rfl rfl rfl rfl rfl rfl rfl (x_check_eq (cs := [(.bmark 50), (rf sl0 u0 b.list.length)]) ((con_con2 _ _ _ _ _ hh0).trans hk_0) rfl (by kernel_rfl))) <| nl <| sq <| rg <| L (.ptr d0 w0 0) rfl rfl rfl <| L (.ptr d0 w0 0) rfl rfl rfl <| L (.ptr d0 w0 0) rfl rfl rfl <| L (.ptr d0 w0 1) rfl rfl rfl <| L (rf e0 u0 b.list.length) rfl rfl (op_load rfl (ld_pa (cs := [(.bmark 50), (rf sl0 u0 b.list.length)]) hsub0 rfl rfl ((con_con2 _ _ _ _ _ hh0).trans hk_0) rfl)) <| L (sA s_) rfl rfl rfl ?_
 obtain ⟨buf, h_buf, hF0⟩ := bind_some hF0
 refine WO_arappP (cc := e0) (u := u0) (a := b) (a' := buf) (n := 1) (c := c_byte) (xs := s_) (y := (sA s_)) _ rfl rfl rfl rfl rfl rfl rfl rfl rfl rfl (z := [.int .u8 0]) rfl rfl rfl rfl rfl (by decide) (fun _ => rfl) rfl hbt0 rfl hsub0.eh (elems_str _ _) hka_0 rfl h_buf (fun out1 glob1 hka1 hq1 => ?_)
 have hk1 := hq1.con hsub0.ne hh0 hk_0
 have hs1 := (Same2.refl d0 e0 _ _).ofR hq1
 refine L (.ptr d0 w0 0) rfl rfl rfl <| L (.ptr d0 w0 1) rfl rfl rfl <| WO_stPA (cs := [(.bmark 50), (rf sl0 u0 b.list.length)]) (cs' := [(.bmark 50), (rf sl0 (u0 + 1) buf.list.length)]) (off := 1) (dd := d0) (v := w0) _ rfl rfl rfl rfl rfl rfl rfl rfl hh0 hsub0 hk1 (Nat.le_of_ble_eq_true rfl) rfl (fun out2 glob2 hk2 hq2 => ?_)
 have hka2 := hq2.con hsub0.ne.symm hsub0.eh hka1
 have hs2 := hs1.ofL hq2
 refine nl <| sq <| rg <| L (sA s_) rfl rfl rfl <| L (iA (s_.length : Int)) rfl rfl rfl <| L (iA (s_.length : Int)) rfl rfl rfl <| L .nili rfl rfl rfl <| nl <| rt ?_
 obtain rfl := Option.some.inj hF0
 exact mutA_leaf (.inr rfl) rfl (ret_tup2 (retV_pl _ _ (iA (s_.length : Int))) (retV_pl _ _ .nili)) hk2 hka2 hs2

theorem ok_strings_Builder_Len (b : (Ar UInt8)) {r : (Int)} (hF0 : strings_Builder_Len b = some r) (out : List AE.Frame) (glob : List AObj) (d0 : AE.Loc) (w0 : Nat) (e0 sl0 : AE.Loc) (u0 : Nat) (hh0 : d0.here = false) (hsub0 : Sub d0 e0 sl0) (hbt0 : e0.bt = some 5) (hk_0 : con2 out glob d0 w0 = .cells [(.bmark 50), (rf sl0 u0 b.list.length)]) (hka_0 : con2 out glob e0 u0 = (Ar.con 1 c_byte b)) : RdOk Tryz.prog pol true 22 [(.ptr d0 w0 0)] out glob (iA r) := by
 unfold strings_Builder_Len at hF0
 refine rd_walk Tryz.func22 rfl (Nat.not_lt.2 (Nat.le_of_ble_eq_true rfl)) ?_
 intro ro
 refine sq <| rg <| L (iA 0) rfl rfl rfl <| nl <| sq <| rg <| L (.ptr d0 w0 0) rfl rfl rfl <| L (.ptr d0 w0 0) rfl rfl rfl <| L (.ptr d0 w0 1) rfl rfl rfl <| L (rf e0 u0 b.list.length) rfl rfl (op_load rfl (ld_pa (cs := [(.bmark 50), (rf sl0 u0 b.list.length)]) hsub0 rfl rfl ((con_con2 _ _ _ _ _ hh0).trans hk_0) rfl)) <| L (iA (b.list.length : Int)) rfl rfl (op_len rfl rfl rfl rfl rfl rfl) <| L (iA (b.list.length : Int)) rfl rfl rfl <| nl <| rt ?_
 obtain rfl := Option.some.inj hF0
 exact rd_leaf (.inr rfl) rfl (retV_pl _ _ (iA (b.list.length : Int))) rfl rfl

theorem ok_gate_Text (l : (Sl api_Record)) {r : (Str × Int)} (hF0 : gate_Text l = some r) (out : List AE.Frame) (glob : List AObj) : RdOk Tryz.prog pol false 6 [(Sl.av 7 c_api_Record l)] out glob (.tup [(sA r.1), (iA r.2)]) := by
 unfold gate_Text at hF0
 refine rd_walkF Tryz.func6 rfl (Nat.not_lt.2 (Nat.le_of_ble_eq_true rfl)) <| sq <| rg <| L (sA []) rfl rfl rfl <| L (iA 0) rfl rfl rfl <| nl <| sq <| sq <| rg <| L (Sl.av 7 c_api_Record l) rfl rfl (op_movS rfl rfl rfl) ?_
 obtain ⟨e, h1, hF0⟩ := bind_some hF0
 refine WO_rd (g := 19) (args := [(Sl.av 7 c_api_Record l)]) (r := (iA e)) _ _ rfl rfl rfl rfl rfl rfl rfl (ok_gate_CheckRecords _ h1 _ _ ) <| L (iA e) rfl rfl rfl <| nl <| sq <| rg <| L (iA e) rfl rfl rfl <| L (bA (e != 0)) rfl rfl rfl <| nl <| cd (e != 0) rfl (fun hc18 => ?_) (fun hc18 => ?_)
 · replace hF0 := ite_t hF0 (bne_t hc18)
   refine sq <| rg <| L (iA e) rfl rfl rfl <| L (sA []) rfl rfl rfl <| L (iA e) rfl rfl rfl <| nl <| rt ?_
   obtain rfl := Option.some.inj hF0
   exact rd_leaf (.inr rfl) rfl (ret_tup2 (retV_pl _ _ (sA [])) (retV_pl _ _ (iA e))) rfl rfl
 · replace hF0 := ite_f hF0 (bne_f hc18)
   refine sk <| sq <| rg <| L (.ptr (.fr 0 5) 1 0) (h' := ⟨upd (upd _ 1050005 ⟨1, (Ar.con 1 c_byte (Ar.nil : Ar UInt8))⟩) 5 ⟨1, .cells [(.bmark 50), (rf (.fr 0 1050005) 1 (Ar.nil : Ar UInt8).list.length)]⟩, _, _⟩) rfl rfl (op_allocA [.nilp, (Sl.av 1 c_u8 Sl.nil)] rfl rfl rfl rfl rfl (List.cons_ne_nil _ _) (fld_mark rfl (fld_arr rfl (by decide) fld_nil))) <| nl <| sq <| sq <| rg <| L (Sl.av 7 c_api_Record l) rfl rfl rfl <| L (iA (l.list.length : Int)) rfl rfl (op_len rfl rfl rfl rfl rfl (len_sl _)) <| L (iA 0) rfl rfl rfl <| nl <| bk ?_
   obtain ⟨b1, hb10, hF0⟩ := bind_some hF0
   obtain ⟨hn10, hb10⟩ := ite_none hb10
   obtain ⟨J10, hJ10⟩ : ∃ J : St → Prop, ∀ st, J st ↔ (∃ (b4 : (Ar UInt8)) (u2 : Nat) (tm12 : Nat → AV) (cb12 : AE.Frame), st = ⟨tm12, ⟨cb12, out, glob⟩⟩ ∧ AllEq tm12 [(5, (.ptr (.fr 0 5) 1 0))] ∧ AllEq cb12 [(5, ⟨1, .cells [(.bmark 50), (rf (.fr 0 1050005) u2 b4.list.length)]⟩), (1050005, ⟨u2, (Ar.con 1 c_byte b4)⟩)] ∧ b4 = b1) := ⟨_, fun _ => Iff.rfl⟩
   obtain ⟨R10, hR10⟩ : ∃ R : Nat → ((Ar UInt8)) → St → Prop, ∀ i v st, R i v st ↔ (match v with | b3 => ∃ (u1 : Nat) (tm11 : Nat → AV) (cb11 : AE.Frame), st = ⟨tm11, ⟨cb11, out, glob⟩⟩ ∧ AllEq tm11 [(5, (.ptr (.fr 0 5) 1 0)), (13, (Sl.av 7 c_api_Record l)), (14, (iA (l.list.length : Int))), (15, (iA ((i : Nat) : Int)))] ∧ AllEq cb11 [(5, ⟨1, .cells [(.bmark 50), (rf (.fr 0 1050005) u1 b3.list.length)]⟩), (1050005, ⟨u1, (Ar.con 1 c_byte b3)⟩)]) := ⟨_, fun _ _ _ => Iff.rfl⟩
   refine W_loopcut J10 (fun st hst => ?_) ?_
   · obtain ⟨b4, u2, tm12, cb12, rfl, hT12, hC12, rfl⟩ := (hJ10 st).1 hst
     obtain ⟨tm12, rfl⟩ := allEq hT12
     obtain ⟨cb12, rfl⟩ := allEq hC12
     refine sq <| sq <| rg ?_
     obtain ⟨r23, h16, hF0⟩ := bind_some hF0
     refine WO_rd (g := 22) (args := [(.ptr (.fr 0 5) 1 0)]) (r := (iA r23)) _ _ rfl rfl rfl rfl rfl rfl rfl (ok_strings_Builder_Len _ h16 _ _ (.fr 1 5) 1 (.fr 1 1050005) (.fr 0 1050005) u2 rfl (Sub.own (by decide)) rfl (con2_own _ _ _ rfl) (con2_own _ _ _ rfl)) <| L (bA (decide (r23 > 200000))) rfl rfl rfl <| nl <| cd (decide (r23 > 200000)) rfl (fun hc17 => ?_) (fun hc17 => ?_)
     · replace hF0 := ite_t hF0 (dec_t hc17)
       refine sq <| rg <| L (sA []) rfl rfl rfl <| L (iA 2) rfl rfl rfl <| nl <| rt ?_
       obtain rfl := Option.some.inj hF0
       exact rd_leaf (.inr rfl) rfl (ret_tup2 (retV_pl _ _ (sA [])) (retV_pl _ _ (iA 2))) rfl rfl
     · replace hF0 := ite_f hF0 (dec_f hc17)
       refine sk <| sq <| rg ?_
       obtain ⟨r2, h_r2, hF0⟩ := bind_some hF0
       refine L (sA r2) rfl rfl (opF_H _ rfl rfl rfl rfl rfl rfl rfl (x_string_eq (cs := [(.bmark 50), (rf (.fr 0 1050005) u2 b4.list.length)]) (a := b4) (con_fr rfl) rfl (from_fr0 _ _) (con_fr rfl) rfl rfl h_r2)) <| L (sA r2) rfl rfl rfl <| L (iA 0) rfl rfl rfl <| nl <| rt ?_
       obtain rfl := Option.some.inj hF0
       exact rd_leaf (.inr rfl) rfl (ret_tup2 (retV_pl _ _ (sA r2)) (retV_pl _ _ (iA 0))) rfl rfl
   · refine W_rangeL hb10 R10 ((hR10 _ _ _).2 ⟨1, _, _, rfl, (And.intro rfl (And.intro rfl (And.intro rfl (And.intro rfl True.intro)))), (And.intro rfl (And.intro rfl True.intro))⟩) ?_ ?_
     · intro i hi10 v st s hr hF1 hD1
       obtain ⟨b3, hv_⟩ : ∃ z, z = v := ⟨_, rfl⟩; subst hv_
       obtain ⟨u1, tm11, cb11, rfl, hT11, hC11⟩ := (hR10 _ _ _).1 hr
       obtain ⟨tm11, rfl⟩ := allEq hT11
       obtain ⟨cb11, rfl⟩ := allEq hC11
       obtain ⟨x2, hx10⟩ : ∃ x, x = l.list[i] := ⟨_, rfl⟩
       rw [← hx10] at hF1
       dsimp only [gate_Text_l0] at hF1
       refine sq (rg ?_)
       refine WO_do (y := (bA (decide (((i : Nat) : Int) < (l.list.length : Int))))) _ rfl rfl rfl (nl ?_)
       refine sq <| cd true (congrArg some (range_lt hi10)) (fun _ => ?_) (fun h => absurd h (by decide))
       refine sk <| sq <| bk <| sq <| rg <| L (.cptr (c_api_Record x2)) rfl rfl (op_ix rfl ((ix_at (c := c_api_Record) rfl rfl hi10).trans (congrArg (fun x => some (AV.cptr (c_api_Record x))) hx10.symm))) <| L (.agg (c_api_Record x2)) rfl rfl rfl <| L (.ptr (.fr 0 7) ((cb11 7).ver + 1) 0) (h' := ⟨upd _ 7 ⟨(cb11 7).ver + 1, .cells (c_api_Record (api_Record.mk 0 [] [] [] [] 0 0))⟩, _, _⟩) rfl rfl (op_alloc (c_api_Record (api_Record.mk 0 [] [] [] [] 0 0)) rfl rfl rfl rfl) <| L (.tup []) (h' := ⟨upd _ 7 ⟨(cb11 7).ver + 1, .cells (c_api_Record x2)⟩, _, _⟩) rfl rfl (op_store rfl rfl (st_fr (x := (.agg (c_api_Record x2))) (cs := (c_api_Record (api_Record.mk 0 [] [] [] [] 0 0))) (c_api_Record x2) rfl rfl (Nat.le_of_ble_eq_true rfl) rfl)) <| nl <| rg <| L (.agg (c_api_Record x2)) rfl rfl (op_load rfl (ld_con (.agg (c_api_Record x2)) rfl rfl (cs := (c_api_Record x2)) (con_fr rfl) rfl)) ?_
       obtain ⟨r202, h14, hF1⟩ := bind_some hF1
       refine WO_rd (g := 21) (args := [(.agg (c_api_Record x2))]) (r := (sA r202)) _ _ rfl rfl rfl rfl rfl rfl rfl (ok_gate_recordText _ h14 _ _ ) ?_
       obtain ⟨⟨q02, q12, b5⟩, h15, hF1⟩ := bind_some hF1
       refine WO_mutAL (g := 20) (args := fun p => [p, (sA r202)]) (off := 0) (s := 5) (b := 1050005) (v := 1) (u := u1) (cs := fun sl u => [(.bmark 50), (rf sl u b3.list.length)]) (a := (Ar.con 1 c_byte b3)) (r := (.tup [(iA q02), .nili])) _ _ rfl rfl rfl rfl rfl rfl rfl (fun _ _ => inferInstance) rfl rfl (by decide) rfl Ar.con_live (ok_strings_Builder_WriteString _ _ h15) (fun u15 => ?_)
       exact nl <| rg <| WO_do (y := (iA ((i + 1 : Nat) : Int))) _ rfl rfl (congrArg (fun n => some (AV.int .i64 n, _)) (range_len hi10 hn10)) <| WO_do (y := (iA ((i + 1 : Nat) : Int))) _ rfl rfl rfl <| nl <| Exists.intro _ (And.intro (Option.some.inj hF1).symm ((hR10 _ _ _).2 ⟨u15, _, _, rfl, (And.intro rfl (And.intro rfl (And.intro rfl (And.intro rfl True.intro)))), (And.intro rfl (And.intro rfl True.intro))⟩))
     · intro v st hr hD1
       obtain ⟨b3, hv_⟩ : ∃ z, z = v := ⟨_, rfl⟩; subst hv_
       obtain ⟨u1, tm11, cb11, rfl, hT11, hC11⟩ := (hR10 _ _ _).1 hr
       obtain ⟨tm11, rfl⟩ := allEq hT11
       obtain ⟨cb11, rfl⟩ := allEq hC11
       refine sq (rg ?_)
       refine WO_do (y := .bool false) _ rfl rfl (congrArg (fun b => some (AV.bool b, _)) (range_ge _)) (nl ?_)
       refine sq <| cd false rfl (fun h => absurd h (by decide)) (fun _ => ?_)
       exact xt <| (hJ10 _).2 ⟨b3, u1, _, _, rfl, (And.intro rfl True.intro), (And.intro rfl (And.intro rfl True.intro)), hD1⟩

theorem ok_gateref2_in (n : Int) (low : Int) (high : Int) {r : (Bool)} (hF0 : gateref2_in n low high = some r) (out : List AE.Frame) (glob : List AObj) : RdOk Tryz.prog pol true 44 [(iA n), (iA low), (iA high)] out glob (bA r) := by
 unfold gateref2_in at hF0
 refine rd_walk Tryz.func44 rfl (Nat.not_lt.2 (Nat.le_of_ble_eq_true rfl)) ?_
 intro ro
 refine sq <| rg <| L (bA false) rfl rfl rfl <| nl <| sq <| rg <| L (iA low) rfl rfl rfl <| L (iA n) rfl rfl rfl <| L (bA (decide (low ≤ n))) rfl rfl rfl ?_
 obtain ⟨J1, hJ1⟩ : ∃ J : St → Prop, ∀ st, J st ↔ (∃ (tm2 : Nat → AV) (cb2 : AE.Frame), st = ⟨tm2, ⟨cb2, out, glob⟩⟩ ∧ AllEq tm2 [(14, (bA ((decide (low ≤ n)) && (decide (n ≤ high)))))] ∧ AllEq cb2 []) := ⟨_, fun _ => Iff.rfl⟩
 refine WO_cut 5 J1 (fun st hst => ?_) ?_
 · obtain ⟨tm2, cb2, rfl, hT2, hC2⟩ := (hJ1 st).1 hst
   obtain ⟨tm2, rfl⟩ := allEq hT2
   obtain ⟨cb2, rfl⟩ := allEq hC2
   refine L (bA ((decide (low ≤ n)) && (decide (n ≤ high)))) rfl rfl rfl <| nl <| rt ?_
   obtain rfl := Option.some.inj hF0
   exact rd_leaf (.inr rfl) rfl (retV_pl _ _ (bA ((decide (low ≤ n)) && (decide (n ≤ high))))) rfl rfl
 · rcases bool_cases (decide (low ≤ n)) with hc1 | hc1
   · exact L (.bool true) rfl rfl (congrArg (fun b => some (AV.bool b, _)) hc1) <| L (iA n) rfl rfl rfl <| L (iA high) rfl rfl rfl <| L (bA (decide (n ≤ high))) rfl rfl rfl <| L (bA ((decide (low ≤ n)) && (decide (n ≤ high)))) rfl rfl (congrArg (fun b => some (AV.bool b, _)) (by rw [hc1]; rfl)) <| nl ((hJ1 _).2 ⟨_, _, rfl, (And.intro rfl True.intro), True.intro⟩)
   · exact L (.bool false) rfl rfl (congrArg (fun b => some (AV.bool b, _)) hc1) <| WO_no _ rfl rfl <| WO_no _ rfl rfl <| WO_no _ rfl rfl <| L (bA ((decide (low ≤ n)) && (decide (n ≤ high)))) rfl rfl (congrArg (fun b => some (AV.bool b, _)) (by rw [hc1]; rfl)) <| nl ((hJ1 _).2 ⟨_, _, rfl, (And.intro rfl True.intro), True.intro⟩)

theorem ok_gateref2_Moment (at_ : Int) {r : (Bool)} (hF0 : gateref2_Moment at_ = some r) (out : List AE.Frame) (glob : List AObj) : RdOk Tryz.prog pol true 24 [(iA at_)] out glob (bA r) := by
 unfold gateref2_Moment at hF0
 refine rd_walk Tryz.func24 rfl (Nat.not_lt.2 (Nat.le_of_ble_eq_true rfl)) ?_
 intro ro
 refine sq <| rg <| L (bA false) rfl rfl rfl <| nl <| sq <| rg <| L (iA at_) rfl rfl rfl ?_
 obtain ⟨r2, h1, hF0⟩ := bind_some hF0
 refine WO_rd (g := 44) (args := [(iA at_), (iA 0), (iA 345686399999)]) (r := (bA r2)) _ _ rfl rfl rfl rfl rfl rfl rfl (ok_gateref2_in _ _ _ h1 _ _ ) <| L (bA r2) rfl rfl rfl <| nl <| rt ?_
 obtain rfl := Option.some.inj hF0
 exact rd_leaf (.inr rfl) rfl (retV_pl _ _ (bA r2)) rfl rfl

theorem ok_stringslite_IndexByte (s_ : Str) (c : Int) {r : (Int)} (hF0 : stringslite_IndexByte s_ c = some r) (out : List AE.Frame) (glob : List AObj) : RdOk Tryz.prog pol true 67 [(sA s_), (.int .u8 c)] out glob (iA r) := by
 unfold stringslite_IndexByte at hF0
 refine rd_walk Tryz.func67 rfl (Nat.not_lt.2 (Nat.le_of_ble_eq_true rfl)) ?_
 intro ro
 refine sq <| rg <| L (iA 0) rfl rfl rfl <| nl <| sq <| rg <| L (sA s_) rfl rfl rfl <| L (.int .u8 c) rfl rfl rfl <| L (iA (Go.Lib.indexByte s_ c.toNat.toUInt8)) rfl rfl rfl <| L (iA (Go.Lib.indexByte s_ c.toNat.toUInt8)) rfl rfl rfl <| nl <| rt ?_
 obtain rfl := Option.some.inj hF0
 exact rd_leaf (.inr rfl) rfl (retV_pl _ _ (iA (Go.Lib.indexByte s_ c.toNat.toUInt8))) rfl rfl

theorem ok_strings_IndexByte (s_ : Str) (c : Int) {r : (Int)} (hF0 : strings_IndexByte s_ c = some r) (out : List AE.Frame) (glob : List AObj) : RdOk Tryz.prog pol true 57 [(sA s_), (.int .u8 c)] out glob (iA r) := by
 unfold strings_IndexByte at hF0
 refine rd_walk Tryz.func57 rfl (Nat.not_lt.2 (Nat.le_of_ble_eq_true rfl)) ?_
 intro ro
 refine sq <| rg <| L (iA 0) rfl rfl rfl <| nl <| sq <| rg <| L (sA s_) rfl rfl rfl <| L (.int .u8 c) rfl rfl rfl ?_
 obtain ⟨r4, h1, hF0⟩ := bind_some hF0
 refine WO_rd (g := 67) (args := [(sA s_), (.int .u8 c)]) (r := (iA r4)) _ _ rfl rfl rfl rfl rfl rfl rfl (ok_stringslite_IndexByte _ _ h1 _ _ ) <| L (iA r4) rfl rfl rfl <| nl <| rt ?_
 obtain rfl := Option.some.inj hF0
 exact rd_leaf (.inr rfl) rfl (retV_pl _ _ (iA r4)) rfl rfl

theorem ok_gateref2_only (s_ : Str) (some_ : Str) {r : (Bool)} (hF0 : gateref2_only s_ some_ = some r) (out : List AE.Frame) (glob : List AObj) : RdOk Tryz.prog pol true 45 [(sA s_), (sA some_)] out glob (bA r) := by
 unfold gateref2_only at hF0
 refine rd_walk Tryz.func45 rfl (Nat.not_lt.2 (Nat.le_of_ble_eq_true rfl)) ?_
 intro ro
 refine sq <| rg <| L (bA false) rfl rfl rfl <| nl <| sq <| sq <| rg <| L (sA s_) rfl rfl rfl <| L (iA (s_.length : Int)) rfl rfl rfl <| L (iA 0) rfl rfl rfl <| nl <| bk ?_
 obtain ⟨b1, hb5, hF0⟩ := bind_some hF0
 obtain ⟨hn5, hb5⟩ := ite_none hb5
 obtain ⟨J5, hJ5⟩ : ∃ J : St → Prop, ∀ st, J st ↔ (∃ (tm7 : Nat → AV) (cb7 : AE.Frame), st = ⟨tm7, ⟨cb7, out, glob⟩⟩ ∧ AllEq tm7 [] ∧ AllEq cb7 [] ∧ Res.out () = b1) := ⟨_, fun _ => Iff.rfl⟩
 obtain ⟨R5, hR5⟩ : ∃ R : Nat → (Unit) → St → Prop, ∀ i v st, R i v st ↔ (match v with | () => ∃ (tm6 : Nat → AV) (cb6 : AE.Frame), st = ⟨tm6, ⟨cb6, out, glob⟩⟩ ∧ AllEq tm6 [(0, (sA s_)), (1, (sA some_)), (7, (iA (s_.length : Int))), (8, (iA ((i : Nat) : Int)))] ∧ AllEq cb6 []) := ⟨_, fun _ _ _ => Iff.rfl⟩
 refine W_loopcut J5 (fun st hst => ?_) ?_
 · obtain ⟨tm7, cb7, rfl, hT7, hC7, rfl⟩ := (hJ5 st).1 hst
   obtain ⟨tm7, rfl⟩ := allEq hT7
   obtain ⟨cb7, rfl⟩ := allEq hC7
   replace hF0 := res_out hF0
   refine sq <| rg <| L (bA true) rfl rfl rfl <| nl <| rt ?_
   obtain rfl := Option.some.inj hF0
   exact rd_leaf (.inr rfl) rfl (retV_pl _ _ (bA true)) rfl rfl
 · refine W_rangeL hb5 R5 ((hR5 _ _ _).2 ⟨_, _, rfl, (And.intro rfl (And.intro rfl (And.intro rfl (And.intro rfl True.intro)))), True.intro⟩) ?_ ?_
   · intro i hi5 v st s hr hF1 hD1
     obtain ⟨⟩ := v
     obtain ⟨tm6, cb6, rfl, hT6, hC6⟩ := (hR5 _ _ _).1 hr
     obtain ⟨tm6, rfl⟩ := allEq hT6
     obtain ⟨cb6, rfl⟩ := allEq hC6
     dsimp only [gateref2_only_l0] at hF1
     refine sq (rg ?_)
     refine WO_do (y := (bA (decide (((i : Nat) : Int) < (s_.length : Int))))) _ rfl rfl rfl (nl ?_)
     refine sq <| cd true (congrArg some (rangeN_lt hi5)) (fun _ => ?_) (fun h => absurd h (by decide))
     refine sk <| sq <| bk <| sq <| rg <| L (iA ((i : Nat) : Int)) rfl rfl rfl <| L (iA ((i : Nat) : Int)) rfl rfl rfl <| nl <| sq <| rg <| L (sA some_) rfl rfl rfl <| L (sA s_) rfl rfl rfl <| L (iA ((i : Nat) : Int)) rfl rfl rfl ?_
     obtain ⟨r141, h_r141, hF1⟩ := bind_some hF1
     refine L (.int .u8 r141) rfl rfl (op_index rfl (ix_str rfl h_r141)) ?_
     obtain ⟨r151, h9, hF1⟩ := bind_some hF1
     refine WO_rd (g := 57) (args := [(sA some_), (.int .u8 r141)]) (r := (iA r151)) _ _ rfl rfl rfl rfl rfl rfl rfl (ok_strings_IndexByte _ _ h9 _ _ ) <| L (bA (decide (r151 < 0))) rfl rfl rfl <| nl <| cd (decide (r151 < 0)) rfl (fun hc10 => ?_) (fun hc10 => ?_)
     · replace hF1 := ite_t hF1 (dec_t hc10)
       refine sq <| rg <| L (bA false) rfl rfl rfl <| nl <| rt ?_
       obtain rfl := hD1 _ (Option.some.inj hF1).symm
       replace hF0 := res_ret hF0
       obtain rfl := Option.some.inj hF0
       exact rd_leaf (.inr rfl) rfl (retV_pl _ _ (bA false)) rfl rfl
     · replace hF1 := ite_f hF1 (dec_f hc10)
       exact sk <| rg <| WO_do (y := (iA ((i + 1 : Nat) : Int))) _ rfl rfl (congrArg (fun n => some (AV.int .i64 n, _)) (rangeN_len hi5 hn5)) <| WO_do (y := (iA ((i + 1 : Nat) : Int))) _ rfl rfl rfl <| nl <| Exists.intro _ (And.intro (Option.some.inj hF1).symm ((hR5 _ _ _).2 ⟨_, _, rfl, (And.intro rfl (And.intro rfl (And.intro rfl (And.intro rfl True.intro)))), True.intro⟩))
   · intro v st hr hD1
     obtain ⟨⟩ := v
     obtain ⟨tm6, cb6, rfl, hT6, hC6⟩ := (hR5 _ _ _).1 hr
     obtain ⟨tm6, rfl⟩ := allEq hT6
     obtain ⟨cb6, rfl⟩ := allEq hC6
     refine sq (rg ?_)
     refine WO_do (y := .bool false) _ rfl rfl (congrArg (fun b => some (AV.bool b, _)) (rangeN_ge _)) (nl ?_)
     refine sq <| cd false rfl (fun h => absurd h (by decide)) (fun _ => ?_)
     exact xt <| (hJ5 _).2 ⟨_, _, rfl, True.intro, True.intro, hD1⟩

theorem ok_gateref2_Key (s_ : Str) {r : (Bool)} (hF0 : gateref2_Key s_ = some r) (out : List AE.Frame) (glob : List AObj) : RdOk Tryz.prog pol true 25 [(sA s_)] out glob (bA r) := by
 unfold gateref2_Key at hF0
 refine rd_walk Tryz.func25 rfl (Nat.not_lt.2 (Nat.le_of_ble_eq_true rfl)) ?_
 intro ro
 refine sq <| rg <| L (bA false) rfl rfl rfl <| nl <| sq <| rg <| L (sA s_) rfl rfl rfl <| L (iA (s_.length : Int)) rfl rfl rfl ?_
 obtain ⟨r5, h1, hF0⟩ := bind_some hF0
 refine WO_rd (g := 44) (args := [(iA (s_.length : Int)), (iA 1), (iA 40)]) (r := (bA r5)) _ _ rfl rfl rfl rfl rfl rfl rfl (ok_gateref2_in _ _ _ h1 _ _ ) ?_
 obtain ⟨y3, hF1, hF0⟩ := bind_some hF0
 obtain ⟨J3, hJ3⟩ : ∃ J : St → Prop, ∀ st, J st ↔ (∃ (t10 : Bool) (tm4 : Nat → AV) (cb4 : AE.Frame), st = ⟨tm4, ⟨cb4, out, glob⟩⟩ ∧ AllEq tm4 [(0, (sA s_)), (10, (bA t10))] ∧ AllEq cb4 [] ∧ t10 = y3) := ⟨_, fun _ => Iff.rfl⟩
 refine WO_cut 5 J3 (fun st hst => ?_) ?_
 · obtain ⟨t10, tm4, cb4, rfl, hT4, hC4, rfl⟩ := (hJ3 st).1 hst
   obtain ⟨tm4, rfl⟩ := allEq hT4
   obtain ⟨cb4, rfl⟩ := allEq hC4
   obtain ⟨y6, hF1, hF0⟩ := bind_some hF0
   obtain ⟨J6, hJ6⟩ : ∃ J : St → Prop, ∀ st, J st ↔ (∃ (t14 : Bool) (tm7 : Nat → AV) (cb7 : AE.Frame), st = ⟨tm7, ⟨cb7, out, glob⟩⟩ ∧ AllEq tm7 [(14, (bA t14))] ∧ AllEq cb7 [] ∧ t14 = y6) := ⟨_, fun _ => Iff.rfl⟩
   refine WO_cut 4 J6 (fun st hst => ?_) ?_
   · obtain ⟨t14, tm7, cb7, rfl, hT7, hC7, rfl⟩ := (hJ6 st).1 hst
     obtain ⟨tm7, rfl⟩ := allEq hT7
     obtain ⟨cb7, rfl⟩ := allEq hC7
     refine L (bA t14) rfl rfl rfl <| nl <| rt ?_
     obtain rfl := Option.some.inj hF0
     exact rd_leaf (.inr rfl) rfl (retV_pl _ _ (bA t14)) rfl rfl
   · rcases bool_cases t10 with hc6 | hc6
     · replace hF1 := ite_t hF1 (hc6)
       refine L (.bool true) rfl rfl (congrArg (fun b => some (AV.bool b, _)) hc6) <| L (sA s_) rfl rfl rfl ?_
       obtain ⟨r131, h8, hF1⟩ := bind_some hF1
       exact WO_rd (g := 45) (args := [(sA s_), (sA [97, 98, 99, 100, 101, 102, 103, 104, 105, 106, 107, 108, 109, 110, 111, 112, 113, 114, 115, 116, 117, 118, 119, 120, 121, 122, 48, 49, 50, 51, 52, 53, 54, 55, 56, 57, 45, 95])]) (r := (bA r131)) _ _ rfl rfl rfl rfl rfl rfl rfl (ok_gateref2_only _ _ h8 _ _ ) <| L (bA r131) rfl rfl rfl <| nl ((hJ6 _).2 ⟨r131, _, _, rfl, (And.intro rfl True.intro), True.intro, Option.some.inj hF1⟩)
     · replace hF1 := ite_f hF1 (not_t hc6)
       exact L (.bool false) rfl rfl (congrArg (fun b => some (AV.bool b, _)) hc6) <| WO_no _ rfl rfl <| WO_no _ rfl rfl <| L (bA false) rfl rfl rfl <| nl ((hJ6 _).2 ⟨false, _, _, rfl, (And.intro rfl True.intro), True.intro, Option.some.inj hF1⟩)
 · rcases bool_cases r5 with hc3 | hc3
   · replace hF1 := ite_t hF1 (hc3)
     refine L (.bool true) rfl rfl (congrArg (fun b => some (AV.bool b, _)) hc3) <| L (sA s_) rfl rfl rfl ?_
     obtain ⟨r81, h_r81, hF1⟩ := bind_some hF1
     refine L (sA r81) rfl rfl (op_slice rfl (sl_str (a := 0) (b := 1) rfl rfl rfl h_r81)) ?_
     obtain ⟨r91, h9, hF1⟩ := bind_some hF1
     exact WO_rd (g := 45) (args := [(sA r81), (sA [97, 98, 99, 100, 101, 102, 103, 104, 105, 106, 107, 108, 109, 110, 111, 112, 113, 114, 115, 116, 117, 118, 119, 120, 121, 122])]) (r := (bA r91)) _ _ rfl rfl rfl rfl rfl rfl rfl (ok_gateref2_only _ _ h9 _ _ ) <| L (bA r91) rfl rfl rfl <| nl ((hJ3 _).2 ⟨r91, _, _, rfl, (And.intro rfl (And.intro rfl True.intro)), True.intro, Option.some.inj hF1⟩)
   · replace hF1 := ite_f hF1 (not_t hc3)
     exact L (.bool false) rfl rfl (congrArg (fun b => some (AV.bool b, _)) hc3) <| WO_no _ rfl rfl <| WO_no _ rfl rfl <| WO_no _ rfl rfl <| L (bA false) rfl rfl rfl <| nl ((hJ3 _).2 ⟨false, _, _, rfl, (And.intro rfl (And.intro rfl True.intro)), True.intro, Option.some.inj hF1⟩)

theorem ok_gateref1_in (n : Int) (low : Int) (high : Int) {r : (Bool)} (hF0 : gateref1_in n low high = some r) (out : List AE.Frame) (glob : List AObj) : RdOk Tryz.prog pol true 26 [(iA n), (iA low), (iA high)] out glob (bA r) := by
 unfold gateref1_in at hF0
 refine rd_walk Tryz.func26 rfl (Nat.not_lt.2 (Nat.le_of_ble_eq_true rfl)) ?_
 intro ro
 refine sq <| rg <| L (bA false) rfl rfl rfl <| nl <| sq <| rg <| L (iA low) rfl rfl rfl <| L (iA n) rfl rfl rfl <| L (bA (decide (low ≤ n))) rfl rfl rfl ?_
 obtain ⟨J1, hJ1⟩ : ∃ J : St → Prop, ∀ st, J st ↔ (∃ (tm2 : Nat → AV) (cb2 : AE.Frame), st = ⟨tm2, ⟨cb2, out, glob⟩⟩ ∧ AllEq tm2 [(14, (bA ((decide (low ≤ n)) && (decide (n ≤ high)))))] ∧ AllEq cb2 []) := ⟨_, fun _ => Iff.rfl⟩
 refine WO_cut 5 J1 (fun st hst => ?_) ?_
 · obtain ⟨tm2, cb2, rfl, hT2, hC2⟩ := (hJ1 st).1 hst
   obtain ⟨tm2, rfl⟩ := allEq hT2
   obtain ⟨cb2, rfl⟩ := allEq hC2
   refine L (bA ((decide (low ≤ n)) && (decide (n ≤ high)))) rfl rfl rfl <| nl <| rt ?_
   obtain rfl := Option.some.inj hF0
   exact rd_leaf (.inr rfl) rfl (retV_pl _ _ (bA ((decide (low ≤ n)) && (decide (n ≤ high))))) rfl rfl
 · rcases bool_cases (decide (low ≤ n)) with hc1 | hc1
   · exact L (.bool true) rfl rfl (congrArg (fun b => some (AV.bool b, _)) hc1) <| L (iA n) rfl rfl rfl <| L (iA high) rfl rfl rfl <| L (bA (decide (n ≤ high))) rfl rfl rfl <| L (bA ((decide (low ≤ n)) && (decide (n ≤ high)))) rfl rfl (congrArg (fun b => some (AV.bool b, _)) (by rw [hc1]; rfl)) <| nl ((hJ1 _).2 ⟨_, _, rfl, (And.intro rfl True.intro), True.intro⟩)
   · exact L (.bool false) rfl rfl (congrArg (fun b => some (AV.bool b, _)) hc1) <| WO_no _ rfl rfl <| WO_no _ rfl rfl <| WO_no _ rfl rfl <| L (bA ((decide (low ≤ n)) && (decide (n ≤ high)))) rfl rfl (congrArg (fun b => some (AV.bool b, _)) (by rw [hc1]; rfl)) <| nl ((hJ1 _).2 ⟨_, _, rfl, (And.intro rfl True.intro), True.intro⟩)

theorem ok_gateref1_RecordsFault (l : (Sl api_Record)) {r : (Int)} (hF0 : gateref1_RecordsFault l = some r) (out : List AE.Frame) (glob : List AObj) : RdOk Tryz.prog pol true 7 [(Sl.av 7 c_api_Record l)] out glob (iA r) := by
 unfold gateref1_RecordsFault at hF0
 refine rd_walk Tryz.func7 rfl (Nat.not_lt.2 (Nat.le_of_ble_eq_true rfl)) ?_
 intro ro
 refine sq <| rg <| L (iA 0) rfl rfl rfl <| nl <| sq <| sq <| rg <| L (Sl.av 7 c_api_Record l) rfl rfl rfl <| L (iA (l.list.length : Int)) rfl rfl (op_len rfl rfl rfl rfl rfl (len_sl _)) <| L (bA (decide ((l.list.length : Int) > 3000))) rfl rfl rfl <| nl <| cd (decide ((l.list.length : Int) > 3000)) rfl (fun hc61 => ?_) (fun hc61 => ?_)
 · replace hF0 := ite_t hF0 (dec_t hc61)
   refine sq <| rg <| L (iA 2) rfl rfl rfl <| nl <| rt ?_
   obtain rfl := Option.some.inj hF0
   exact rd_leaf (.inr rfl) rfl (retV_pl _ _ (iA 2)) rfl rfl
 · replace hF0 := ite_f hF0 (dec_f hc61)
   refine sk <| sq <| sq <| rg <| L (Sl.av 7 c_api_Record l) rfl rfl rfl <| L (iA (l.list.length : Int)) rfl rfl (op_len rfl rfl rfl rfl rfl (len_sl _)) <| L (iA 0) rfl rfl rfl <| nl <| bk ?_
   obtain ⟨b1, hb30, hF0⟩ := bind_some hF0
   obtain ⟨hn30, hb30⟩ := ite_none hb30
   obtain ⟨J30, hJ30⟩ : ∃ J : St → Prop, ∀ st, J st ↔ (∃ (tm32 : Nat → AV) (cb32 : AE.Frame), st = ⟨tm32, ⟨cb32, out, glob⟩⟩ ∧ AllEq tm32 [] ∧ AllEq cb32 [] ∧ Res.out () = b1) := ⟨_, fun _ => Iff.rfl⟩
   obtain ⟨R30, hR30⟩ : ∃ R : Nat → (Unit) → St → Prop, ∀ i1 v st, R i1 v st ↔ (match v with | () => ∃ (tm31 : Nat → AV) (cb31 : AE.Frame), st = ⟨tm31, ⟨cb31, out, glob⟩⟩ ∧ AllEq tm31 [(0, (Sl.av 7 c_api_Record l)), (10, (Sl.av 7 c_api_Record l)), (11, (iA (l.list.length : Int))), (12, (iA ((i1 : Nat) : Int)))] ∧ AllEq cb31 []) := ⟨_, fun _ _ _ => Iff.rfl⟩
   refine W_loopcut J30 (fun st hst => ?_) ?_
   · obtain ⟨tm32, cb32, rfl, hT32, hC32, rfl⟩ := (hJ30 st).1 hst
     obtain ⟨tm32, rfl⟩ := allEq hT32
     obtain ⟨cb32, rfl⟩ := allEq hC32
     replace hF0 := res_out hF0
     refine sq <| rg <| L (iA 0) rfl rfl rfl <| nl <| rt ?_
     obtain rfl := Option.some.inj hF0
     exact rd_leaf (.inr rfl) rfl (retV_pl _ _ (iA 0)) rfl rfl
   · refine W_rangeL hb30 R30 ((hR30 _ _ _).2 ⟨_, _, rfl, (And.intro rfl (And.intro rfl (And.intro rfl (And.intro rfl True.intro)))), True.intro⟩) ?_ ?_
     · intro i1 hi30 v st s hr hF1 hD1
       obtain ⟨⟩ := v
       obtain ⟨tm31, cb31, rfl, hT31, hC31⟩ := (hR30 _ _ _).1 hr
       obtain ⟨tm31, rfl⟩ := allEq hT31
       obtain ⟨cb31, rfl⟩ := allEq hC31
       obtain ⟨x4, hx30⟩ : ∃ x, x = l.list[i1] := ⟨_, rfl⟩
       rw [← hx30] at hF1
       dsimp only [gateref1_RecordsFault_l0] at hF1
       refine sq (rg ?_)
       refine WO_do (y := (bA (decide (((i1 : Nat) : Int) < (l.list.length : Int))))) _ rfl rfl rfl (nl ?_)
       refine sq <| cd true (congrArg some (range_lt hi30)) (fun _ => ?_) (fun h => absurd h (by decide))
       refine sk <| sq <| bk <| sq <| rg <| L (iA ((i1 : Nat) : Int)) rfl rfl rfl <| L (.cptr (c_api_Record x4)) rfl rfl (op_ix rfl ((ix_at (c := c_api_Record) rfl rfl hi30).trans (congrArg (fun x => some (AV.cptr (c_api_Record x))) hx30.symm))) <| L (.agg (c_api_Record x4)) rfl rfl rfl <| L (.ptr (.fr 0 4) ((cb31 4).ver + 1) 0) (h' := ⟨upd _ 4 ⟨(cb31 4).ver + 1, .cells (c_api_Record (api_Record.mk 0 [] [] [] [] 0 0))⟩, _, _⟩) rfl rfl (op_alloc (c_api_Record (api_Record.mk 0 [] [] [] [] 0 0)) rfl rfl rfl rfl) <| L (iA ((i1 : Nat) : Int)) rfl rfl rfl <| L (.tup []) (h' := ⟨upd _ 4 ⟨(cb31 4).ver + 1, .cells (c_api_Record x4)⟩, _, _⟩) rfl rfl (op_store rfl rfl (st_fr (x := (.agg (c_api_Record x4))) (cs := (c_api_Record (api_Record.mk 0 [] [] [] [] 0 0))) (c_api_Record x4) rfl rfl (Nat.le_of_ble_eq_true rfl) rfl)) <| nl <| sq <| sq <| rg <| L (.ptr (.fr 0 4) ((cb31 4).ver + 1) 0) rfl rfl rfl <| L (iA x4.At) rfl rfl (op_load rfl (ld_con (iA x4.At) rfl rfl (cs := (c_api_Record x4)) (con_fr rfl) rfl)) ?_
       obtain ⟨r191, h34, hF1⟩ := bind_some hF1
       refine WO_rd (g := 24) (args := [(iA x4.At)]) (r := (bA r191)) _ _ rfl rfl rfl rfl rfl rfl rfl (ok_gateref2_Moment _ h34 _ _ ) <| L (bA (!r191)) rfl rfl rfl <| nl <| cd (!r191) rfl (fun hc60 => ?_) (fun hc60 => ?_)
       · replace hF1 := ite_t hF1 (hc60)
         refine sq <| rg <| L (iA 1) rfl rfl rfl <| nl <| rt ?_
         obtain rfl := hD1 _ (Option.some.inj hF1).symm
         replace hF0 := res_ret hF0
         obtain rfl := Option.some.inj hF0
         exact rd_leaf (.inr rfl) rfl (retV_pl _ _ (iA 1)) rfl rfl
       · replace hF1 := ite_f hF1 (not_t hc60)
         refine sk <| sq <| sq <| rg <| L (.ptr (.fr 0 4) ((cb31 4).ver + 1) 1) rfl rfl rfl <| L (sA x4.Route) rfl rfl (op_load rfl (ld_con (sA x4.Route) rfl rfl (cs := (c_api_Record x4)) (con_fr rfl) rfl)) <| L (.ptr (.fr 0 4) ((cb31 4).ver + 1) 2) rfl rfl rfl <| L (sA x4.Caller) rfl rfl (op_load rfl (ld_con (sA x4.Caller) rfl rfl (cs := (c_api_Record x4)) (con_fr rfl) rfl)) <| L (.ptr (.fr 0 4) ((cb31 4).ver + 1) 3) rfl rfl rfl <| L (sA x4.Act) rfl rfl (op_load rfl (ld_con (sA x4.Act) rfl rfl (cs := (c_api_Record x4)) (con_fr rfl) rfl)) <| L (.ptr (.fr 0 4) ((cb31 4).ver + 1) 4) rfl rfl rfl <| L (sA x4.Instance) rfl rfl (op_load rfl (ld_con (sA x4.Instance) rfl rfl (cs := (c_api_Record x4)) (con_fr rfl) rfl)) <| L (Sl.av 1 c_str (Sl.full [x4.Route, x4.Caller, x4.Act, x4.Instance] : Sl Str)) rfl rfl (op_sliceN rfl rfl rfl) <| L (iA ((Sl.full [x4.Route, x4.Caller, x4.Act, x4.Instance] : Sl Str).list.length : Int)) rfl rfl (op_len rfl rfl rfl rfl rfl rfl) <| L (iA 0) rfl rfl rfl <| nl <| bk ?_
         obtain ⟨b2, hb42, hF1⟩ := bind_some hF1
         obtain ⟨hn42, hb42⟩ := ite_none hb42
         obtain ⟨J42, hJ42⟩ : ∃ J : St → Prop, ∀ st, J st ↔ (∃ (tm44 : Nat → AV) (cb44 : AE.Frame), st = ⟨tm44, ⟨cb44, out, glob⟩⟩ ∧ AllEq tm44 [(0, (Sl.av 7 c_api_Record l)), (3, (iA ((i1 : Nat) : Int))), (4, (.ptr (.fr 0 4) ((cb31 4).ver + 1) 0)), (10, (Sl.av 7 c_api_Record l)), (11, (iA (l.list.length : Int))), (12, (iA ((i1 : Nat) : Int)))] ∧ AllEq cb44 [(4, ⟨(cb31 4).ver + 1, .cells (c_api_Record x4)⟩)] ∧ Res.out () = b2) := ⟨_, fun _ => Iff.rfl⟩
         obtain ⟨R42, hR42⟩ : ∃ R : Nat → (Unit) → St → Prop, ∀ i2 v st, R i2 v st ↔ (match v with | () => ∃ (tm43 : Nat → AV) (cb43 : AE.Frame), st = ⟨tm43, ⟨cb43, out, glob⟩⟩ ∧ AllEq tm43 [(0, (Sl.av 7 c_api_Record l)), (3, (iA ((i1 : Nat) : Int))), (4, (.ptr (.fr 0 4) ((cb31 4).ver + 1) 0)), (10, (Sl.av 7 c_api_Record l)), (11, (iA (l.list.length : Int))), (12, (iA ((i1 : Nat) : Int))), (29, (Sl.av 1 c_str (Sl.full [x4.Route, x4.Caller, x4.Act, x4.Instance] : Sl Str))), (30, (iA ((Sl.full [x4.Route, x4.Caller, x4.Act, x4.Instance] : Sl Str).list.length : Int))), (31, (iA ((i2 : Nat) : Int)))] ∧ AllEq cb43 [(4, ⟨(cb31 4).ver + 1, .cells (c_api_Record x4)⟩)]) := ⟨_, fun _ _ _ => Iff.rfl⟩
         refine W_loopcut J42 (fun st hst => ?_) ?_
         · obtain ⟨tm44, cb44, rfl, hT44, hC44, rfl⟩ := (hJ42 st).1 hst
           obtain ⟨tm44, rfl⟩ := allEq hT44
           obtain ⟨cb44, rfl⟩ := allEq hC44
           replace hF1 := res_out hF1
           refine sq <| sq <| rg <| L (.ptr (.fr 0 4) ((cb31 4).ver + 1) 5) rfl rfl rfl <| L (iA x4.Status) rfl rfl (op_load rfl (ld_con (iA x4.Status) rfl rfl (cs := (c_api_Record x4)) (con_fr rfl) rfl)) ?_
           obtain ⟨r451, h51, hF1⟩ := bind_some hF1
           refine WO_rd (g := 26) (args := [(iA x4.Status), (iA 100), (iA 599)]) (r := (bA r451)) _ _ rfl rfl rfl rfl rfl rfl rfl (ok_gateref1_in _ _ _ h51 _ _ ) <| L (bA (!r451)) rfl rfl rfl ?_
           obtain ⟨y53, hF2, hF1⟩ := bind_some hF1
           obtain ⟨J53, hJ53⟩ : ∃ J : St → Prop, ∀ st, J st ↔ (∃ (t521 : Bool) (tm54 : Nat → AV) (cb54 : AE.Frame), st = ⟨tm54, ⟨cb54, out, glob⟩⟩ ∧ AllEq tm54 [(0, (Sl.av 7 c_api_Record l)), (3, (iA ((i1 : Nat) : Int))), (4, (.ptr (.fr 0 4) ((cb31 4).ver + 1) 0)), (10, (Sl.av 7 c_api_Record l)), (11, (iA (l.list.length : Int))), (12, (iA ((i1 : Nat) : Int))), (52, (bA t521))] ∧ AllEq cb54 [(4, ⟨(cb31 4).ver + 1, .cells (c_api_Record x4)⟩)] ∧ t521 = y53) := ⟨_, fun _ => Iff.rfl⟩
           refine WO_cut 6 J53 (fun st hst => ?_) ?_
           · obtain ⟨t521, tm54, cb54, rfl, hT54, hC54, rfl⟩ := (hJ53 st).1 hst
             obtain ⟨tm54, rfl⟩ := allEq hT54
             obtain ⟨cb54, rfl⟩ := allEq hC54
             refine nl <| cd t521 rfl (fun hc58 => ?_) (fun hc58 => ?_)
             · replace hF1 := ite_t hF1 (hc58)
               refine sq <| rg <| L (iA 1) rfl rfl rfl <| nl <| rt ?_
               obtain rfl := hD1 _ (Option.some.inj hF1).symm
               replace hF0 := res_ret hF0
               obtain rfl := Option.some.inj hF0
               exact rd_leaf (.inr rfl) rfl (retV_pl _ _ (iA 1)) rfl rfl
             · replace hF1 := ite_f hF1 (not_t hc58)
               refine sk <| sq <| dw (by kernel_rfl) <| L (iA ((i1 : Nat) : Int)) rfl rfl rfl <| L (bA (decide (((i1 : Nat) : Int) > 0))) rfl rfl rfl ?_
               obtain ⟨y55, hF2, hF1⟩ := bind_some hF1
               obtain ⟨J55, hJ55⟩ : ∃ J : St → Prop, ∀ st, J st ↔ (∃ (t651 : Bool) (tm56 : Nat → AV) (cb56 : AE.Frame), st = ⟨tm56, ⟨cb56, out, glob⟩⟩ ∧ AllEq tm56 [(0, (Sl.av 7 c_api_Record l)), (10, (Sl.av 7 c_api_Record l)), (11, (iA (l.list.length : Int))), (12, (iA ((i1 : Nat) : Int))), (65, (bA t651))] ∧ AllEq cb56 [] ∧ t651 = y55) := ⟨_, fun _ => Iff.rfl⟩
               refine WO_cut 11 J55 (fun st hst => ?_) ?_
               · obtain ⟨t651, tm56, cb56, rfl, hT56, hC56, rfl⟩ := (hJ55 st).1 hst
                 obtain ⟨tm56, rfl⟩ := allEq hT56
                 obtain ⟨cb56, rfl⟩ := allEq hC56
                 refine nl <| cd t651 rfl (fun hc57 => ?_) (fun hc57 => ?_)
                 · replace hF1 := ite_t hF1 (hc57)
                   refine sq <| rg <| L (iA 7) rfl rfl rfl <| nl <| rt ?_
                   obtain rfl := hD1 _ (Option.some.inj hF1).symm
                   replace hF0 := res_ret hF0
                   obtain rfl := Option.some.inj hF0
                   exact rd_leaf (.inr rfl) rfl (retV_pl _ _ (iA 7)) rfl rfl
                 · replace hF1 := ite_f hF1 (not_t hc57)
                   exact sk <| rg <| WO_do (y := (iA ((i1 + 1 : Nat) : Int))) _ rfl rfl (congrArg (fun n => some (AV.int .i64 n, _)) (range_len hi30 hn30)) <| WO_do (y := (iA ((i1 + 1 : Nat) : Int))) _ rfl rfl rfl <| nl <| Exists.intro _ (And.intro (Option.some.inj hF1).symm ((hR30 _ _ _).2 ⟨_, _, rfl, (And.intro rfl (And.intro rfl (And.intro rfl (And.intro rfl True.intro)))), True.intro⟩))
               · rcases bool_cases (decide (((i1 : Nat) : Int) > 0)) with hc55 | hc55
                 · replace hF2 := ite_t hF2 (dec_t hc55)
                   refine L (.bool true) rfl rfl (congrArg (fun b => some (AV.bool b, _)) hc55) <| L (.ptr (.fr 0 4) ((cb31 4).ver + 1) 0) rfl rfl rfl <| L (iA x4.At) rfl rfl (op_load rfl (ld_con (iA x4.At) rfl rfl (cs := (c_api_Record x4)) (con_fr rfl) rfl)) <| L (Sl.av 7 c_api_Record l) rfl rfl rfl <| L (iA ((i1 : Nat) : Int)) rfl rfl rfl <| L (iA (w64 (((i1 : Nat) : Int) - 1))) rfl rfl rfl ?_
                   obtain ⟨x7, h_x7, hF2⟩ := bind_some hF2
                   exact L (.cptr (c_api_Record x7)) rfl rfl (op_ix rfl (ix_sl (c := c_api_Record) rfl rfl h_x7)) <| L (.cptr ((c_api_Record x7).drop 0)) rfl rfl rfl <| L (iA x7.At) rfl rfl rfl <| L (bA (decide (x4.At < x7.At))) rfl rfl rfl <| L (bA (decide (x4.At < x7.At))) rfl rfl rfl <| nl ((hJ55 _).2 ⟨decide (x4.At < x7.At), _, _, rfl, (And.intro rfl (And.intro rfl (And.intro rfl (And.intro rfl (And.intro rfl True.intro))))), True.intro, Option.some.inj hF2⟩)
                 · replace hF2 := ite_f hF2 (dec_f hc55)
                   exact L (.bool false) rfl rfl (congrArg (fun b => some (AV.bool b, _)) hc55) <| WO_no _ rfl rfl <| WO_no _ rfl rfl <| WO_no _ rfl rfl <| WO_no _ rfl rfl <| WO_no _ rfl rfl <| WO_no _ rfl rfl <| WO_no _ rfl rfl <| WO_no _ rfl rfl <| WO_no _ rfl rfl <| L (bA false) rfl rfl rfl <| nl ((hJ55 _).2 ⟨false, _, _, rfl, (And.intro rfl (And.intro rfl (And.intro rfl (And.intro rfl (And.intro rfl True.intro))))), True.intro, Option.some.inj hF2⟩)
           · rcases bool_cases (!r451) with hc53 | hc53
             · replace hF2 := ite_t hF2 (hc53)
               exact L (.bool true) rfl rfl (congrArg (fun b => some (AV.bool b, _)) hc53) <| WO_no _ rfl rfl <| WO_no _ rfl rfl <| WO_no _ rfl rfl <| WO_no _ rfl rfl <| L (bA true) rfl rfl rfl <| nl ((hJ53 _).2 ⟨true, _, _, rfl, (And.intro rfl (And.intro rfl (And.intro rfl (And.intro rfl (And.intro rfl (And.intro rfl (And.intro rfl True.intro))))))), (And.intro rfl True.intro), Option.some.inj hF2⟩)
             · replace hF2 := ite_f hF2 (not_t hc53)
               refine L (.bool false) rfl rfl (congrArg (fun b => some (AV.bool b, _)) hc53) <| L (.ptr (.fr 0 4) ((cb31 4).ver + 1) 6) rfl rfl rfl <| L (iA x4.Found) rfl rfl (op_load rfl (ld_con (iA x4.Found) rfl rfl (cs := (c_api_Record x4)) (con_fr rfl) rfl)) ?_
               obtain ⟨r503, h59, hF2⟩ := bind_some hF2
               exact WO_rd (g := 26) (args := [(iA x4.Found), (iA 0), (iA 4)]) (r := (bA r503)) _ _ rfl rfl rfl rfl rfl rfl rfl (ok_gateref1_in _ _ _ h59 _ _ ) <| L (bA (!r503)) rfl rfl rfl <| L (bA (!r503)) rfl rfl rfl <| nl ((hJ53 _).2 ⟨!r503, _, _, rfl, (And.intro rfl (And.intro rfl (And.intro rfl (And.intro rfl (And.intro rfl (And.intro rfl (And.intro rfl True.intro))))))), (And.intro rfl True.intro), Option.some.inj hF2⟩)
         · refine W_rangeL hb42 R42 ((hR42 _ _ _).2 ⟨_, _, rfl, (And.intro rfl (And.intro rfl (And.intro rfl (And.intro rfl (And.intro rfl (And.intro rfl (And.intro rfl (And.intro rfl (And.intro rfl True.intro))))))))), (And.intro rfl True.intro)⟩) ?_ ?_
           · intro i2 hi42 v st s hr hF2 hD2
             obtain ⟨⟩ := v
             obtain ⟨tm43, cb43, rfl, hT43, hC43⟩ := (hR42 _ _ _).1 hr
             obtain ⟨tm43, rfl⟩ := allEq hT43
             obtain ⟨cb43, rfl⟩ := allEq hC43
             obtain ⟨s_1, hx42⟩ : ∃ x, x = (Sl.full [x4.Route, x4.Caller, x4.Act, x4.Instance] : Sl Str).list[i2] := ⟨_, rfl⟩
             rw [← hx42] at hF2
             dsimp only [gateref1_RecordsFault_l1] at hF2
             refine sq (rg ?_)
             refine WO_do (y := (bA (decide (((i2 : Nat) : Int) < ((Sl.full [x4.Route, x4.Caller, x4.Act, x4.Instance] : Sl Str).list.length : Int))))) _ rfl rfl rfl (nl ?_)
             refine sq <| cd true (congrArg some (range_lt hi42)) (fun _ => ?_) (fun h => absurd h (by decide))
             refine sk <| sq <| bk <| sq <| rg <| L (.cptr [(sA s_1)]) rfl rfl (op_ix rfl ((ix_at (c := c_str) rfl rfl hi42).trans (congrArg (fun x => some (AV.cptr (c_str x))) hx42.symm))) <| L (sA s_1) rfl rfl rfl <| L (sA s_1) rfl rfl rfl <| nl <| sq <| rg <| L (sA s_1) rfl rfl rfl <| L (bA (s_1 != [])) rfl rfl (op_bin rfl bin_sne) ?_
             obtain ⟨y47, hF3, hF2⟩ := bind_some hF2
             obtain ⟨J47, hJ47⟩ : ∃ J : St → Prop, ∀ st, J st ↔ (∃ (t413 : Bool) (tm48 : Nat → AV) (cb48 : AE.Frame), st = ⟨tm48, ⟨cb48, out, glob⟩⟩ ∧ AllEq tm48 [(0, (Sl.av 7 c_api_Record l)), (3, (iA ((i1 : Nat) : Int))), (4, (.ptr (.fr 0 4) ((cb31 4).ver + 1) 0)), (10, (Sl.av 7 c_api_Record l)), (11, (iA (l.list.length : Int))), (12, (iA ((i1 : Nat) : Int))), (29, (Sl.av 1 c_str (Sl.full [x4.Route, x4.Caller, x4.Act, x4.Instance] : Sl Str))), (30, (iA ((Sl.full [x4.Route, x4.Caller, x4.Act, x4.Instance] : Sl Str).list.length : Int))), (31, (iA ((i2 : Nat) : Int))), (41, (bA t413))] ∧ AllEq cb48 [(4, ⟨(cb31 4).ver + 1, .cells (c_api_Record x4)⟩)] ∧ t413 = y47) := ⟨_, fun _ => Iff.rfl⟩
             refine WO_cut 5 J47 (fun st hst => ?_) ?_
             · obtain ⟨t413, tm48, cb48, rfl, hT48, hC48, rfl⟩ := (hJ47 st).1 hst
               obtain ⟨tm48, rfl⟩ := allEq hT48
               obtain ⟨cb48, rfl⟩ := allEq hC48
               refine nl <| cd t413 rfl (fun hc49 => ?_) (fun hc49 => ?_)
               · replace hF2 := ite_t hF2 (hc49)
                 refine sq <| rg <| L (iA 5) rfl rfl rfl <| nl <| rt ?_
                 obtain rfl := hD2 _ (Option.some.inj hF2).symm
                 replace hF1 := res_ret hF1
                 obtain rfl := hD1 _ (Option.some.inj hF1).symm
                 replace hF0 := res_ret hF0
                 obtain rfl := Option.some.inj hF0
                 exact rd_leaf (.inr rfl) rfl (retV_pl _ _ (iA 5)) rfl rfl
               · replace hF2 := ite_f hF2 (not_t hc49)
                 exact sk <| rg <| WO_do (y := (iA ((i2 + 1 : Nat) : Int))) _ rfl rfl (congrArg (fun n => some (AV.int .i64 n, _)) (range_len hi42 hn42)) <| WO_do (y := (iA ((i2 + 1 : Nat) : Int))) _ rfl rfl rfl <| nl <| Exists.intro _ (And.intro (Option.some.inj hF2).symm ((hR42 _ _ _).2 ⟨_, _, rfl, (And.intro rfl (And.intro rfl (And.intro rfl (And.intro rfl (And.intro rfl (And.intro rfl (And.intro rfl (And.intro rfl (And.intro rfl True.intro))))))))), (And.intro rfl True.intro)⟩))
             · rcases bool_cases (s_1 != []) with hc47 | hc47
               · replace hF3 := ite_t hF3 (sne_t hc47)
                 refine L (.bool true) rfl rfl (congrArg (fun b => some (AV.bool b, _)) hc47) <| L (sA s_1) rfl rfl rfl ?_
                 obtain ⟨r397, h50, hF3⟩ := bind_some hF3
                 exact WO_rd (g := 25) (args := [(sA s_1)]) (r := (bA r397)) _ _ rfl rfl rfl rfl rfl rfl rfl (ok_gateref2_Key _ h50 _ _ ) <| L (bA (!r397)) rfl rfl rfl <| L (bA (!r397)) rfl rfl rfl <| nl ((hJ47 _).2 ⟨!r397, _, _, rfl, (And.intro rfl (And.intro rfl (And.intro rfl (And.intro rfl (And.intro rfl (And.intro rfl (And.intro rfl (And.intro rfl (And.intro rfl (And.intro rfl True.intro)))))))))), (And.intro rfl True.intro), Option.some.inj hF3⟩)
               · replace hF3 := ite_f hF3 (sne_f hc47)
                 exact L (.bool false) rfl rfl (congrArg (fun b => some (AV.bool b, _)) hc47) <| WO_no _ rfl rfl <| WO_no _ rfl rfl <| WO_no _ rfl rfl <| L (bA false) rfl rfl rfl <| nl ((hJ47 _).2 ⟨false, _, _, rfl, (And.intro rfl (And.intro rfl (And.intro rfl (And.intro rfl (And.intro rfl (And.intro rfl (And.intro rfl (And.intro rfl (And.intro rfl (And.intro rfl True.intro)))))))))), (And.intro rfl True.intro), Option.some.inj hF3⟩)
           · intro v st hr hD2
             obtain ⟨⟩ := v
             obtain ⟨tm43, cb43, rfl, hT43, hC43⟩ := (hR42 _ _ _).1 hr
             obtain ⟨tm43, rfl⟩ := allEq hT43
             obtain ⟨cb43, rfl⟩ := allEq hC43
             refine sq (rg ?_)
             refine WO_do (y := .bool false) _ rfl rfl (congrArg (fun b => some (AV.bool b, _)) (range_ge _)) (nl ?_)
             refine sq <| cd false rfl (fun h => absurd h (by decide)) (fun _ => ?_)
             exact xt <| (hJ42 _).2 ⟨_, _, rfl, (And.intro rfl (And.intro rfl (And.intro rfl (And.intro rfl (And.intro rfl (And.intro rfl True.intro)))))), (And.intro rfl True.intro), hD2⟩
     · intro v st hr hD1
       obtain ⟨⟩ := v
       obtain ⟨tm31, cb31, rfl, hT31, hC31⟩ := (hR30 _ _ _).1 hr
       obtain ⟨tm31, rfl⟩ := allEq hT31
       obtain ⟨cb31, rfl⟩ := allEq hC31
       refine sq (rg ?_)
       refine WO_do (y := .bool false) _ rfl rfl (congrArg (fun b => some (AV.bool b, _)) (range_ge _)) (nl ?_)
       refine sq <| cd false rfl (fun h => absurd h (by decide)) (fun _ => ?_)
       exact xt <| (hJ30 _).2 ⟨_, _, rfl, True.intro, True.intro, hD1⟩

theorem ok_gateref1_dash (s_ : Str) {r : (Str)} (hF0 : gateref1_dash s_ = some r) (out : List AE.Frame) (glob : List AObj) : RdOk Tryz.prog pol true 46 [(sA s_)] out glob (sA r) := by
 unfold gateref1_dash at hF0
 refine rd_walk Tryz.func46 rfl (Nat.not_lt.2 (Nat.le_of_ble_eq_true rfl)) ?_
 intro ro
 refine sq <| rg <| L (sA []) rfl rfl rfl <| nl <| sq <| sq <| rg <| L (sA s_) rfl rfl rfl <| L (bA (s_ == [])) rfl rfl (op_bin rfl bin_seq) <| nl <| cd (s_ == []) rfl (fun hc1 => ?_) (fun hc1 => ?_)
 · replace hF0 := ite_t hF0 (seq_t hc1)
   refine sq <| rg <| L (sA [45]) rfl rfl rfl <| nl <| rt ?_
   obtain rfl := Option.some.inj hF0
   exact rd_leaf (.inr rfl) rfl (retV_pl _ _ (sA [45])) rfl rfl
 · replace hF0 := ite_f hF0 (seq_f hc1)
   refine sk <| sq <| rg <| L (sA s_) rfl rfl rfl <| L (sA s_) rfl rfl rfl <| nl <| rt ?_
   obtain rfl := Option.some.inj hF0
   exact rd_leaf (.inr rfl) rfl (retV_pl _ _ (sA s_)) rfl rfl

theorem ok_gateref1_RecordLine (r_ : api_Record) {r : (Str)} (hF0 : gateref1_RecordLine r_ = some r) (out : List AE.Frame) (glob : List AObj) : RdOk Tryz.prog pol true 27 [(.agg (c_api_Record r_))] out glob (sA r) := by
 unfold gateref1_RecordLine at hF0
 refine rd_walk Tryz.func27 rfl (Nat.not_lt.2 (Nat.le_of_ble_eq_true rfl)) ?_
 intro ro
 refine sq <| rg <| L (.ptr (.fr 0 1) 1 0) (h' := ⟨upd _ 1 ⟨1, .cells (c_api_Record r_)⟩, _, _⟩) rfl rfl (op_box (x' := (.agg (c_api_Record r_))) rfl rfl rfl rfl) <| L (sA []) rfl rfl rfl <| nl <| sq <| rg <| L (.fn (.func 42) [] []) rfl rfl rfl <| nl <| sq <| dw (by kernel_rfl) <| L (.fn (.func 42) [] []) rfl rfl rfl <| L (.ptr (.fr 0 1) 1 0) rfl rfl rfl <| L (iA r_.At) rfl rfl (op_load rfl (ld_con (iA r_.At) rfl rfl (cs := (c_api_Record r_)) (con_fr rfl) rfl)) ?_
 obtain ⟨r7, h_r7, hF0⟩ := bind_some hF0
 refine L (sA r7) rfl rfl (op_lib _ rfl rfl rfl (x_itoa_eq h_r7)) <| L (.ptr (.fr 0 1) 1 1) rfl rfl rfl <| L (sA r_.Route) rfl rfl (op_load rfl (ld_con (sA r_.Route) rfl rfl (cs := (c_api_Record r_)) (con_fr rfl) rfl)) ?_
 obtain ⟨r10, h1, hF0⟩ := bind_some hF0
 refine WO_rd (g := 46) (args := [(sA r_.Route)]) (r := (sA r10)) _ _ rfl rfl rfl rfl rfl rfl rfl (ok_gateref1_dash _ h1 _ _ ) <| L (.ptr (.fr 0 1) 1 2) rfl rfl rfl <| L (sA r_.Caller) rfl rfl (op_load rfl (ld_con (sA r_.Caller) rfl rfl (cs := (c_api_Record r_)) (con_fr rfl) rfl)) ?_
 obtain ⟨r13, h2, hF0⟩ := bind_some hF0
 refine WO_rd (g := 46) (args := [(sA r_.Caller)]) (r := (sA r13)) _ _ rfl rfl rfl rfl rfl rfl rfl (ok_gateref1_dash _ h2 _ _ ) <| L (.ptr (.fr 0 1) 1 3) rfl rfl rfl <| L (sA r_.Act) rfl rfl (op_load rfl (ld_con (sA r_.Act) rfl rfl (cs := (c_api_Record r_)) (con_fr rfl) rfl)) ?_
 obtain ⟨r16, h3, hF0⟩ := bind_some hF0
 refine WO_rd (g := 46) (args := [(sA r_.Act)]) (r := (sA r16)) _ _ rfl rfl rfl rfl rfl rfl rfl (ok_gateref1_dash _ h3 _ _ ) <| L (.ptr (.fr 0 1) 1 4) rfl rfl rfl <| L (sA r_.Instance) rfl rfl (op_load rfl (ld_con (sA r_.Instance) rfl rfl (cs := (c_api_Record r_)) (con_fr rfl) rfl)) ?_
 obtain ⟨r19, h4, hF0⟩ := bind_some hF0
 refine WO_rd (g := 46) (args := [(sA r_.Instance)]) (r := (sA r19)) _ _ rfl rfl rfl rfl rfl rfl rfl (ok_gateref1_dash _ h4 _ _ ) <| L (.fn (.func 42) [] []) rfl rfl rfl <| L (.ptr (.fr 0 1) 1 5) rfl rfl rfl <| L (iA r_.Status) rfl rfl (op_load rfl (ld_con (iA r_.Status) rfl rfl (cs := (c_api_Record r_)) (con_fr rfl) rfl)) ?_
 obtain ⟨r23, h_r23, hF0⟩ := bind_some hF0
 refine L (sA r23) rfl rfl (op_lib _ rfl rfl rfl (x_itoa_eq h_r23)) <| L (.fn (.func 42) [] []) rfl rfl rfl <| L (.ptr (.fr 0 1) 1 6) rfl rfl rfl <| L (iA r_.Found) rfl rfl (op_load rfl (ld_con (iA r_.Found) rfl rfl (cs := (c_api_Record r_)) (con_fr rfl) rfl)) ?_
 obtain ⟨r27, h_r27, hF0⟩ := bind_some hF0
 refine L (sA r27) rfl rfl (op_lib _ rfl rfl rfl (x_itoa_eq h_r27)) <| L (Sl.av 1 c_str (Sl.full [r7, r10, r13, r16, r19, r23, r27] : Sl Str)) rfl rfl (op_sliceN rfl rfl rfl) ?_
 obtain ⟨r29, h_r29, hF0⟩ := bind_some hF0
 refine L (sA r29) rfl rfl (op_lib _ rfl rfl rfl (x_join_eq h_r29)) ?_
 obtain ⟨r2, h_r2, hF0⟩ := bind_some hF0
 refine L (sA r2) rfl rfl (op_bin rfl (bin_sadd h_r2)) <| L (sA r2) rfl rfl rfl <| nl <| rt ?_
 obtain rfl := Option.some.inj hF0
 exact rd_leaf (.inr rfl) rfl (retV_pl _ _ (sA r2)) rfl rfl

theorem ok_gateref1_RecordLines (l : (Sl api_Record)) {r : (Str)} (hF0 : gateref1_RecordLines l = some r) (out : List AE.Frame) (glob : List AObj) : RdOk Tryz.prog pol false 8 [(Sl.av 7 c_api_Record l)] out glob (sA r) := by
 unfold gateref1_RecordLines at hF0
 refine rd_walkF Tryz.func8 rfl (Nat.not_lt.2 (Nat.le_of_ble_eq_true rfl)) <| sq <| rg <| L (sA []) rfl rfl rfl <| nl <| sq <| rg <| L (.ptr (.fr 0 3) 1 0) (h' := ⟨upd (upd _ 1030005 ⟨1, (Ar.con 1 c_byte (Ar.nil : Ar UInt8))⟩) 3 ⟨1, .cells [(.bmark 50), (rf (.fr 0 1030005) 1 (Ar.nil : Ar UInt8).list.length)]⟩, _, _⟩) rfl rfl (op_allocA [.nilp, (Sl.av 1 c_u8 Sl.nil)] rfl rfl rfl rfl rfl (List.cons_ne_nil _ _) (fld_mark rfl (fld_arr rfl (by decide) fld_nil))) <| nl <| sq <| sq <| rg <| L (Sl.av 7 c_api_Record l) rfl rfl rfl <| L (iA (l.list.length : Int)) rfl rfl (op_len rfl rfl rfl rfl rfl (len_sl _)) <| L (iA 0) rfl rfl rfl <| nl <| bk ?_
 obtain ⟨b1, hb9, hF0⟩ := bind_some hF0
 obtain ⟨hn9, hb9⟩ := ite_none hb9
 obtain ⟨J9, hJ9⟩ : ∃ J : St → Prop, ∀ st, J st ↔ (∃ (b4 : (Ar UInt8)) (u2 : Nat) (tm11 : Nat → AV) (cb11 : AE.Frame), st = ⟨tm11, ⟨cb11, out, glob⟩⟩ ∧ AllEq tm11 [(3, (.ptr (.fr 0 3) 1 0))] ∧ AllEq cb11 [(3, ⟨1, .cells [(.bmark 50), (rf (.fr 0 1030005) u2 b4.list.length)]⟩), (1030005, ⟨u2, (Ar.con 1 c_byte b4)⟩)] ∧ b4 = b1) := ⟨_, fun _ => Iff.rfl⟩
 obtain ⟨R9, hR9⟩ : ∃ R : Nat → ((Ar UInt8)) → St → Prop, ∀ i v st, R i v st ↔ (match v with | b3 => ∃ (u1 : Nat) (tm10 : Nat → AV) (cb10 : AE.Frame), st = ⟨tm10, ⟨cb10, out, glob⟩⟩ ∧ AllEq tm10 [(3, (.ptr (.fr 0 3) 1 0)), (6, (Sl.av 7 c_api_Record l)), (7, (iA (l.list.length : Int))), (8, (iA ((i : Nat) : Int)))] ∧ AllEq cb10 [(3, ⟨1, .cells [(.bmark 50), (rf (.fr 0 1030005) u1 b3.list.length)]⟩), (1030005, ⟨u1, (Ar.con 1 c_byte b3)⟩)]) := ⟨_, fun _ _ _ => Iff.rfl⟩
 refine W_loopcut J9 (fun st hst => ?_) ?_
 · obtain ⟨b4, u2, tm11, cb11, rfl, hT11, hC11, rfl⟩ := (hJ9 st).1 hst
   obtain ⟨tm11, rfl⟩ := allEq hT11
   obtain ⟨cb11, rfl⟩ := allEq hC11
   refine sq <| rg ?_
   obtain ⟨r2, h_r2, hF0⟩ := bind_some hF0
   refine L (sA r2) rfl rfl (opF_H _ rfl rfl rfl rfl rfl rfl rfl (x_string_eq (cs := [(.bmark 50), (rf (.fr 0 1030005) u2 b4.list.length)]) (a := b4) (con_fr rfl) rfl (from_fr0 _ _) (con_fr rfl) rfl rfl h_r2)) <| L (sA r2) rfl rfl rfl <| nl <| rt ?_
   obtain rfl := Option.some.inj hF0
   exact rd_leaf (.inr rfl) rfl (retV_pl _ _ (sA r2)) rfl rfl
 · refine W_rangeL hb9 R9 ((hR9 _ _ _).2 ⟨1, _, _, rfl, (And.intro rfl (And.intro rfl (And.intro rfl (And.intro rfl True.intro)))), (And.intro rfl (And.intro rfl True.intro))⟩) ?_ ?_
   · intro i hi9 v st s hr hF1 hD1
     obtain ⟨b3, hv_⟩ : ∃ z, z = v := ⟨_, rfl⟩; subst hv_
     obtain ⟨u1, tm10, cb10, rfl, hT10, hC10⟩ := (hR9 _ _ _).1 hr
     obtain ⟨tm10, rfl⟩ := allEq hT10
     obtain ⟨cb10, rfl⟩ := allEq hC10
     obtain ⟨x2, hx9⟩ : ∃ x, x = l.list[i] := ⟨_, rfl⟩
     rw [← hx9] at hF1
     dsimp only [gateref1_RecordLines_l0] at hF1
     refine sq (rg ?_)
     refine WO_do (y := (bA (decide (((i : Nat) : Int) < (l.list.length : Int))))) _ rfl rfl rfl (nl ?_)
     refine sq <| cd true (congrArg some (range_lt hi9)) (fun _ => ?_) (fun h => absurd h (by decide))
     refine sk <| sq <| bk <| sq <| rg <| L (.cptr (c_api_Record x2)) rfl rfl (op_ix rfl ((ix_at (c := c_api_Record) rfl rfl hi9).trans (congrArg (fun x => some (AV.cptr (c_api_Record x))) hx9.symm))) <| L (.agg (c_api_Record x2)) rfl rfl rfl <| L (.ptr (.fr 0 5) ((cb10 5).ver + 1) 0) (h' := ⟨upd _ 5 ⟨(cb10 5).ver + 1, .cells (c_api_Record (api_Record.mk 0 [] [] [] [] 0 0))⟩, _, _⟩) rfl rfl (op_alloc (c_api_Record (api_Record.mk 0 [] [] [] [] 0 0)) rfl rfl rfl rfl) <| L (.tup []) (h' := ⟨upd _ 5 ⟨(cb10 5).ver + 1, .cells (c_api_Record x2)⟩, _, _⟩) rfl rfl (op_store rfl rfl (st_fr (x := (.agg (c_api_Record x2))) (cs := (c_api_Record (api_Record.mk 0 [] [] [] [] 0 0))) (c_api_Record x2) rfl rfl (Nat.le_of_ble_eq_true rfl) rfl)) <| nl <| rg <| L (.agg (c_api_Record x2)) rfl rfl (op_load rfl (ld_con (.agg (c_api_Record x2)) rfl rfl (cs := (c_api_Record x2)) (con_fr rfl) rfl)) ?_
     obtain ⟨r132, h13, hF1⟩ := bind_some hF1
     refine WO_rd (g := 27) (args := [(.agg (c_api_Record x2))]) (r := (sA r132)) _ _ rfl rfl rfl rfl rfl rfl rfl (ok_gateref1_RecordLine _ h13 _ _ ) ?_
     obtain ⟨⟨q02, q12, b5⟩, h14, hF1⟩ := bind_some hF1
     refine WO_mutAL (g := 20) (args := fun p => [p, (sA r132)]) (off := 0) (s := 3) (b := 1030005) (v := 1) (u := u1) (cs := fun sl u => [(.bmark 50), (rf sl u b3.list.length)]) (a := (Ar.con 1 c_byte b3)) (r := (.tup [(iA q02), .nili])) _ _ rfl rfl rfl rfl rfl rfl rfl (fun _ _ => inferInstance) rfl rfl (by decide) rfl Ar.con_live (ok_strings_Builder_WriteString _ _ h14) (fun u14 => ?_)
     exact nl <| rg <| WO_do (y := (iA ((i + 1 : Nat) : Int))) _ rfl rfl (congrArg (fun n => some (AV.int .i64 n, _)) (range_len hi9 hn9)) <| WO_do (y := (iA ((i + 1 : Nat) : Int))) _ rfl rfl rfl <| nl <| Exists.intro _ (And.intro (Option.some.inj hF1).symm ((hR9 _ _ _).2 ⟨u14, _, _, rfl, (And.intro rfl (And.intro rfl (And.intro rfl (And.intro rfl True.intro)))), (And.intro rfl (And.intro rfl True.intro))⟩))
   · intro v st hr hD1
     obtain ⟨b3, hv_⟩ : ∃ z, z = v := ⟨_, rfl⟩; subst hv_
     obtain ⟨u1, tm10, cb10, rfl, hT10, hC10⟩ := (hR9 _ _ _).1 hr
     obtain ⟨tm10, rfl⟩ := allEq hT10
     obtain ⟨cb10, rfl⟩ := allEq hC10
     refine sq (rg ?_)
     refine WO_do (y := .bool false) _ rfl rfl (congrArg (fun b => some (AV.bool b, _)) (range_ge _)) (nl ?_)
     refine sq <| cd false rfl (fun h => absurd h (by decide)) (fun _ => ?_)
     exact xt <| (hJ9 _).2 ⟨b3, u1, _, _, rfl, (And.intro rfl True.intro), (And.intro rfl (And.intro rfl True.intro)), hD1⟩

theorem ok_gatemake_Stream_Changed (s_ : gatemake_Stream) (t : Str) (with_ : Str) {r : (Str × gatemake_Stream)} (hF0 : gatemake_Stream_Changed s_ t with_ = some r) : MutOk Tryz.prog pol 28 (fun p => [p, (sA t), (sA with_)]) (c_gatemake_Stream s_) (sA r.1) (c_gatemake_Stream r.2) := by
 unfold gatemake_Stream_Changed at hF0
 refine mut_walk Tryz.func28 rfl (fun _ => Nat.not_lt.2 (Nat.le_of_ble_eq_true rfl)) ?_
 intro out glob d0 w0 hh0 hk_0
 refine sq <| rg <| L (sA []) rfl rfl rfl <| nl <| sq <| sq <| rg <| L (sA t) rfl rfl rfl <| L (bA (t == [])) rfl rfl (op_bin rfl bin_seq) ?_
 obtain ⟨J1, hJ1⟩ : ∃ J : St → Prop, ∀ st, J st ↔ (∃ (tm2 : Nat → AV) (cb2 : AE.Frame) (out2 : List AE.Frame) (glob2 : List AObj), st = ⟨tm2, ⟨cb2, out2, glob2⟩⟩ ∧ AllEq tm2 [(0, (.ptr d0 w0 0)), (1, (sA t)), (2, (sA with_)), (14, (bA ((t == []) || (with_ == []))))] ∧ AllEq cb2 [] ∧ con2 out2 glob2 d0 w0 = .cells (c_gatemake_Stream s_) ∧ Same d0 out glob out2 glob2) := ⟨_, fun _ => Iff.rfl⟩
 refine WO_cut 4 J1 (fun st hst => ?_) ?_
 · obtain ⟨tm2, cb2, out2, glob2, rfl, hT2, hC2, hk2, hs2⟩ := (hJ1 st).1 hst
   obtain ⟨tm2, rfl⟩ := allEq hT2
   obtain ⟨cb2, rfl⟩ := allEq hC2
   refine nl <| cd ((t == []) || (with_ == [])) rfl (fun hc8 => ?_) (fun hc8 => ?_)
   · replace hF0 := ite_t hF0 (hc8)
     refine sq <| rg <| L (sA with_) rfl rfl rfl <| L (sA with_) rfl rfl rfl <| nl <| rt ?_
     obtain rfl := Option.some.inj hF0
     exact mut_leaf (.inr rfl) rfl (retV_pl _ _ (sA with_)) hk2 hs2
   · replace hF0 := ite_f hF0 (not_t hc8)
     refine sk <| sq <| rg <| L (.ptr d0 w0 0) rfl rfl rfl <| L (sA t) rfl rfl rfl <| L (iA (t.length : Int)) rfl rfl rfl ?_
     obtain ⟨⟨i, s_1⟩, h3, hF0⟩ := bind_some hF0
     refine WO_mutP (g := 14) (args := fun p => [p, (iA (t.length : Int))]) (d := d0) (v := w0) (r := (iA i)) _ _ rfl rfl rfl rfl rfl rfl rfl (fun _ _ => inferInstance) hh0 hk2 (ok_gatemake_Stream_Next _ _ h3) (fun out3 glob3 hk3 hs3 => ?_)
     replace hs3 := hs2.trans hs3
     refine L (iA i) rfl rfl rfl <| nl <| sq <| rg <| L (sA with_) rfl rfl rfl <| L (.ptr d0 w0 0) rfl rfl rfl <| L (sA with_) rfl rfl rfl <| L (iA (with_.length : Int)) rfl rfl rfl ?_
     obtain ⟨⟨r24, s_2⟩, h4, hF0⟩ := bind_some hF0
     refine WO_mutP (g := 14) (args := fun p => [p, (iA (with_.length : Int))]) (d := d0) (v := w0) (r := (iA r24)) _ _ rfl rfl rfl rfl rfl rfl rfl (fun _ _ => inferInstance) hh0 hk3 (ok_gatemake_Stream_Next _ _ h4) (fun out4 glob4 hk4 hs4 => ?_)
     replace hs4 := hs3.trans hs4
     obtain ⟨c, h_c, hF0⟩ := bind_some hF0
     refine L (.int .u8 c) rfl rfl (op_index rfl (ix_str rfl h_c)) <| L (.int .u8 c) rfl rfl rfl <| nl <| sq <| sq <| rg <| L (.ptr d0 w0 0) rfl rfl rfl ?_
     obtain ⟨⟨r27, s_3⟩, h5, hF0⟩ := bind_some hF0
     refine WO_mutP (g := 14) (args := fun p => [p, (iA 3)]) (d := d0) (v := w0) (r := (iA r27)) _ _ rfl rfl rfl rfl rfl rfl rfl (fun _ _ => inferInstance) hh0 hk4 (ok_gatemake_Stream_Next _ _ h5) (fun out5 glob5 hk5 hs5 => ?_)
     replace hs5 := hs4.trans hs5
     refine nl <| bk <| sq <| rg <| L (bA (r27 == 0)) rfl rfl rfl <| L (bA (r27 == 0)) rfl rfl rfl <| nl <| cd (r27 == 0) rfl (fun hc7 => ?_) (fun hc7 => ?_)
     · replace hF0 := ite_t hF0 (beq_t hc7)
       refine sq <| dw (by kernel_rfl) <| L (sA t) rfl rfl rfl <| L (iA i) rfl rfl rfl ?_
       obtain ⟨r32, h_r32, hF0⟩ := bind_some hF0
       refine L (sA r32) rfl rfl (op_slice rfl (sl_str (a := 0) (b := i) rfl rfl rfl h_r32)) ?_
       refine L (.int .u8 c) rfl rfl rfl <| L (.int .i32 (IntKind.i32.wrap (c))) rfl rfl rfl <| L (sA (utf8 (IntKind.i32.wrap (c)))) rfl rfl (op_conv rfl (conv_utf8 rfl rfl)) ?_
       obtain ⟨r36, h_r36, hF0⟩ := bind_some hF0
       refine L (sA r36) rfl rfl (op_bin rfl (bin_sadd h_r36)) <| L (sA t) rfl rfl rfl <| L (iA i) rfl rfl rfl <| L (iA (w64 (i + 1))) rfl rfl rfl ?_
       obtain ⟨r40, h_r40, hF0⟩ := bind_some hF0
       refine L (sA r40) rfl rfl (op_slice rfl (sl_str (a := w64 (i + 1)) (b := (t.length : Int)) rfl rfl rfl h_r40)) ?_
       obtain ⟨r6, h_r6, hF0⟩ := bind_some hF0
       refine L (sA r6) rfl rfl (op_bin rfl (bin_sadd h_r6)) <| L (sA r6) rfl rfl rfl <| nl <| rt ?_
       obtain rfl := Option.some.inj hF0
       exact mut_leaf (.inr rfl) rfl (retV_pl _ _ (sA r6)) hk5 hs5
     · replace hF0 := ite_f hF0 (beq_f hc7)
       refine sq <| rg <| L (bA (r27 == 1)) rfl rfl rfl <| L (bA (r27 == 1)) rfl rfl rfl <| nl <| cd (r27 == 1) rfl (fun hc6 => ?_) (fun hc6 => ?_)
       · replace hF0 := ite_t hF0 (beq_t hc6)
         refine sq <| dw (by kernel_rfl) <| L (sA t) rfl rfl rfl <| L (iA i) rfl rfl rfl ?_
         obtain ⟨r46, h_r46, hF0⟩ := bind_some hF0
         refine L (sA r46) rfl rfl (op_slice rfl (sl_str (a := 0) (b := i) rfl rfl rfl h_r46)) ?_
         refine L (.int .u8 c) rfl rfl rfl <| L (.int .i32 (IntKind.i32.wrap (c))) rfl rfl rfl <| L (sA (utf8 (IntKind.i32.wrap (c)))) rfl rfl (op_conv rfl (conv_utf8 rfl rfl)) ?_
         obtain ⟨r50, h_r50, hF0⟩ := bind_some hF0
         refine L (sA r50) rfl rfl (op_bin rfl (bin_sadd h_r50)) <| L (sA t) rfl rfl rfl <| L (iA i) rfl rfl rfl ?_
         obtain ⟨r53, h_r53, hF0⟩ := bind_some hF0
         refine L (sA r53) rfl rfl (op_slice rfl (sl_str (a := i) (b := (t.length : Int)) rfl rfl rfl h_r53)) ?_
         obtain ⟨r61, h_r61, hF0⟩ := bind_some hF0
         refine L (sA r61) rfl rfl (op_bin rfl (bin_sadd h_r61)) <| L (sA r61) rfl rfl rfl <| nl <| rt ?_
         obtain rfl := Option.some.inj hF0
         exact mut_leaf (.inr rfl) rfl (retV_pl _ _ (sA r61)) hk5 hs5
       · replace hF0 := ite_f hF0 (beq_f hc6)
         refine sk <| sq <| dw (by kernel_rfl) <| L (sA t) rfl rfl rfl <| L (iA i) rfl rfl rfl ?_
         obtain ⟨r57, h_r57, hF0⟩ := bind_some hF0
         refine L (sA r57) rfl rfl (op_slice rfl (sl_str (a := 0) (b := i) rfl rfl rfl h_r57)) ?_
         refine L (sA t) rfl rfl rfl <| L (iA i) rfl rfl rfl <| L (iA (w64 (i + 1))) rfl rfl rfl ?_
         obtain ⟨r611, h_r611, hF0⟩ := bind_some hF0
         refine L (sA r611) rfl rfl (op_slice rfl (sl_str (a := w64 (i + 1)) (b := (t.length : Int)) rfl rfl rfl h_r611)) ?_
         obtain ⟨r62, h_r62, hF0⟩ := bind_some hF0
         refine L (sA r62) rfl rfl (op_bin rfl (bin_sadd h_r62)) <| L (sA r62) rfl rfl rfl <| nl <| rt ?_
         obtain rfl := Option.some.inj hF0
         exact mut_leaf (.inr rfl) rfl (retV_pl _ _ (sA r62)) hk5 hs5
 · rcases bool_cases (t == []) with hc1 | hc1
   · exact L (.bool true) rfl rfl (congrArg (fun b => some (AV.bool b, _)) hc1) <| WO_no _ rfl rfl <| WO_no _ rfl rfl <| L (bA ((t == []) || (with_ == []))) rfl rfl (congrArg (fun b => some (AV.bool b, _)) (by rw [hc1]; rfl)) <| nl ((hJ1 _).2 ⟨_, _, _, _, rfl, (And.intro rfl (And.intro rfl (And.intro rfl (And.intro rfl True.intro)))), True.intro, hk_0, (Same.refl _ _ _)⟩)
   · exact L (.bool false) rfl rfl (congrArg (fun b => some (AV.bool b, _)) hc1) <| L (sA with_) rfl rfl rfl <| L (bA (with_ == [])) rfl rfl (op_bin rfl bin_seq) <| L (bA ((t == []) || (with_ == []))) rfl rfl (congrArg (fun b => some (AV.bool b, _)) (by rw [hc1]; rfl)) <| nl ((hJ1 _).2 ⟨_, _, _, _, rfl, (And.intro rfl (And.intro rfl (And.intro rfl (And.intro rfl True.intro)))), True.intro, hk_0, (Same.refl _ _ _)⟩)

theorem ok_gatemake_Stream_RecordString (s_ : gatemake_Stream) {r : (Str × gatemake_Stream)} (hF0 : gatemake_Stream_RecordString s_ = some r) : MutOk Tryz.prog pol 9 (fun p => [p]) (c_gatemake_Stream s_) (sA r.1) (c_gatemake_Stream r.2) := by
 unfold gatemake_Stream_RecordString at hF0
 refine mut_walk Tryz.func9 rfl (fun _ => Nat.not_lt.2 (Nat.le_of_ble_eq_true rfl)) ?_
 intro out glob d0 w0 hh0 hk_0
 refine sq <| rg <| L (sA []) rfl rfl rfl <| nl <| sq <| rg <| L (.ptr d0 w0 0) rfl rfl rfl <| L (.ptr d0 w0 0) rfl rfl rfl ?_
 obtain ⟨⟨r6, s_1⟩, h1, hF0⟩ := bind_some hF0
 refine WO_mutP (g := 5) (args := fun p => [p, (iA 0), (iA 3)]) (d := d0) (v := w0) (r := (iA r6)) _ _ rfl rfl rfl rfl rfl rfl rfl (fun _ _ => inferInstance) hh0 hk_0 (ok_gatemake_Stream_Range _ _ _ h1) (fun out1 glob1 hk1 hs1 => ?_)
 replace hs1 := (Same.refl _ _ _).trans hs1
 obtain ⟨⟨r7, s_2⟩, h2, hF0⟩ := bind_some hF0
 refine WO_mutP (g := 4) (args := fun p => [p, (iA r6)]) (d := d0) (v := w0) (r := (Sl.av 7 c_api_Record r7)) _ _ rfl rfl rfl rfl rfl rfl rfl (fun _ _ => inferInstance) hh0 hk1 (ok_gatemake_Stream_GateRecords _ _ h2) (fun out2 glob2 hk2 hs2 => ?_)
 replace hs2 := hs1.trans hs2
 obtain ⟨t, h3, hF0⟩ := bind_some hF0
 refine WO_rd (g := 8) (args := [(Sl.av 7 c_api_Record r7)]) (r := (sA t)) _ _ rfl rfl rfl rfl rfl rfl rfl (ok_gateref1_RecordLines _ h3 _ _ ) <| L (sA t) rfl rfl rfl <| nl <| sq <| sq <| rg <| L (.ptr d0 w0 0) rfl rfl rfl <| L (Sl.av 1 c_i64 (Sl.full [0, 0, 1, 2] : Sl Int)) rfl rfl (op_sliceN rfl rfl rfl) ?_
 obtain ⟨⟨r11, s_3⟩, h4, hF0⟩ := bind_some hF0
 refine WO_mutP (g := 16) (args := fun p => [p, (Sl.av 1 c_i64 (Sl.full [0, 0, 1, 2] : Sl Int))]) (d := d0) (v := w0) (r := (iA r11)) _ _ rfl rfl rfl rfl rfl rfl rfl (fun _ _ => inferInstance) hh0 hk2 (ok_gatemake_Stream_Pick _ _ h4) (fun out4 glob4 hk4 hs4 => ?_)
 replace hs4 := hs2.trans hs4
 refine L (iA 0) rfl rfl rfl <| nl <| bk ?_
 obtain ⟨b1, hb11, hF0⟩ := bind_some hF0
 obtain ⟨hn11, hb11⟩ := ite_none hb11
 obtain ⟨J11, hJ11⟩ : ∃ J : St → Prop, ∀ st, J st ↔ (∃ (s_8 : gatemake_Stream) (t6 : Str) (tm13 : Nat → AV) (cb13 : AE.Frame) (out13 : List AE.Frame) (glob13 : List AObj), st = ⟨tm13, ⟨cb13, out13, glob13⟩⟩ ∧ AllEq tm13 [(3, (sA t6))] ∧ AllEq cb13 [] ∧ con2 out13 glob13 d0 w0 = .cells (c_gatemake_Stream s_8) ∧ Same d0 out glob out13 glob13 ∧ (s_8, t6) = b1) := ⟨_, fun _ => Iff.rfl⟩
 obtain ⟨R11, hR11⟩ : ∃ R : Nat → (gatemake_Stream × Str) → St → Prop, ∀ i v st, R i v st ↔ (match v with | (s_7, t5) => ∃ (tm12 : Nat → AV) (cb12 : AE.Frame) (out12 : List AE.Frame) (glob12 : List AObj), st = ⟨tm12, ⟨cb12, out12, glob12⟩⟩ ∧ AllEq tm12 [(0, (.ptr d0 w0 0)), (3, (sA t5)), (11, (iA r11)), (12, (iA ((i : Nat) : Int)))] ∧ AllEq cb12 [] ∧ con2 out12 glob12 d0 w0 = .cells (c_gatemake_Stream s_7) ∧ Same d0 out glob out12 glob12) := ⟨_, fun _ _ _ => Iff.rfl⟩
 refine W_loopcut J11 (fun st hst => ?_) ?_
 · obtain ⟨s_8, t6, tm13, cb13, out13, glob13, rfl, hT13, hC13, hk13, hs13, rfl⟩ := (hJ11 st).1 hst
   obtain ⟨tm13, rfl⟩ := allEq hT13
   obtain ⟨cb13, rfl⟩ := allEq hC13
   refine sq <| rg <| L (sA t6) rfl rfl rfl <| L (sA t6) rfl rfl rfl <| nl <| rt ?_
   obtain rfl := Option.some.inj hF0
   exact mut_leaf (.inr rfl) rfl (retV_pl _ _ (sA t6)) hk13 hs13
 · refine W_rangeL hb11 R11 ((hR11 _ _ _).2 ⟨_, _, _, _, rfl, (And.intro rfl (And.intro rfl (And.intro rfl (And.intro rfl True.intro)))), True.intro, hk4, hs4⟩) ?_ ?_
   · intro i hi11 v st s hr hF1 hD1
     obtain ⟨s_7, t5⟩ := v
     obtain ⟨tm12, cb12, out12, glob12, rfl, hT12, hC12, hk12, hs12⟩ := (hR11 _ _ _).1 hr
     obtain ⟨tm12, rfl⟩ := allEq hT12
     obtain ⟨cb12, rfl⟩ := allEq hC12
     dsimp only [gatemake_Stream_RecordString_l0] at hF1
     refine sq (rg ?_)
     refine WO_do (y := (bA (decide (((i : Nat) : Int) < r11)))) _ rfl rfl rfl (nl ?_)
     refine sq <| cd true (congrArg some (rangeN_lt hi11)) (fun _ => ?_) (fun h => absurd h (by decide))
     refine sk <| sq <| bk <| rg <| L (.ptr d0 w0 0) rfl rfl rfl <| L (sA t5) rfl rfl rfl ?_
     obtain ⟨⟨t7, s_9⟩, h15, hF1⟩ := bind_some hF1
     refine WO_mutP (g := 28) (args := fun p => [p, (sA t5), (sA [32, 10, 45, 48, 49, 57, 97])]) (d := d0) (v := w0) (r := (sA t7)) _ _ rfl rfl rfl rfl rfl rfl rfl (fun _ _ => inferInstance) hh0 hk12 (ok_gatemake_Stream_Changed _ _ _ h15) (fun out15 glob15 hk15 hs15 => ?_)
     replace hs15 := hs12.trans hs15
     exact L (sA t7) rfl rfl rfl <| nl <| rg <| WO_do (y := (iA ((i + 1 : Nat) : Int))) _ rfl rfl (congrArg (fun n => some (AV.int .i64 n, _)) (rangeN_len hi11 hn11)) <| WO_do (y := (iA ((i + 1 : Nat) : Int))) _ rfl rfl rfl <| nl <| Exists.intro _ (And.intro (Option.some.inj hF1).symm ((hR11 _ _ _).2 ⟨_, _, _, _, rfl, (And.intro rfl (And.intro rfl (And.intro rfl (And.intro rfl True.intro)))), True.intro, hk15, hs15⟩))
   · intro v st hr hD1
     obtain ⟨s_7, t5⟩ := v
     obtain ⟨tm12, cb12, out12, glob12, rfl, hT12, hC12, hk12, hs12⟩ := (hR11 _ _ _).1 hr
     obtain ⟨tm12, rfl⟩ := allEq hT12
     obtain ⟨cb12, rfl⟩ := allEq hC12
     refine sq (rg ?_)
     refine WO_do (y := .bool false) _ rfl rfl (congrArg (fun b => some (AV.bool b, _)) (rangeN_ge _)) (nl ?_)
     refine sq <| cd false rfl (fun h => absurd h (by decide)) (fun _ => ?_)
     exact xt <| (hJ11 _).2 ⟨s_7, t5, _, _, _, _, rfl, (And.intro rfl True.intro), True.intro, hk12, hs12, hD1⟩

theorem ok_kit_Lines (s_ : Str) {r : ((Sl Str) × Bool)} (hF0 : kit_Lines s_ = some r) (out : List AE.Frame) (glob : List AObj) : RdOk Tryz.prog pol false 29 [(sA s_)] out glob (.tup [(Sl.av 1 c_str r.1), (bA r.2)]) := by
 unfold kit_Lines at hF0
 refine rd_walkF Tryz.func29 rfl (Nat.not_lt.2 (Nat.le_of_ble_eq_true rfl)) <| sq <| rg <| L (Sl.av 1 c_str Sl.nil) rfl rfl rfl <| L (bA false) rfl rfl rfl <| nl <| sq <| rg <| L (sA s_) rfl rfl rfl ?_
 obtain ⟨l, h_l, hF0⟩ := bind_some hF0
 refine WO_splitH (s := s_) (t := [10]) (y := l) _ _ rfl rfl rfl rfl rfl rfl rfl rfl rfl h_l (fun o900000 hz_1 => ?_)
 refine L (Sl.lav (.fr 0 900000) o900000.ver l) rfl rfl rfl <| nl <| sq <| rg <| L (Sl.lav (.fr 0 900000) o900000.ver l) rfl rfl rfl <| L (iA (l.list.length : Int)) rfl rfl (op_len rfl rfl rfl rfl rfl (lz_len _ _ _)) <| L (iA (w64 ((l.list.length : Int) - 1))) rfl rfl rfl <| L (iA (w64 ((l.list.length : Int) - 1))) rfl rfl rfl <| nl <| sq <| sq <| rg <| L (Sl.lav (.fr 0 900000) o900000.ver l) rfl rfl rfl <| L (iA (w64 ((l.list.length : Int) - 1))) rfl rfl rfl ?_
 obtain ⟨x, h_x, hF0⟩ := bind_some hF0
 refine L (.eptr (.fr 0 900000) o900000.ver (w64 ((l.list.length : Int) - 1) : Int).toNat 0) rfl rfl (op_ix rfl (ix_lz (x := l) (o := o900000) (n := 1) (c := c_str) rfl rfl rfl hz_1 h_x)) <| L (sA x) rfl rfl (op_load rfl (ld_lz (x := l) (o := o900000) (n := 1) (c := c_str) (sA x) rfl rfl rfl hz_1 h_x rfl)) <| L (bA (x == [])) rfl rfl (op_bin rfl bin_seq) <| nl <| cd (x == []) rfl (fun hc3 => ?_) (fun hc3 => ?_)
 · replace hF0 := ite_t hF0 (seq_t hc3)
   refine sq <| rg <| WO_lzfrz (s := 900000) (n := 1) (c := c_str) (x := l) (o := o900000) _ rfl rfl rfl rfl rfl rfl rfl (.inl hz_1) (fun o9000001 hz_2 hv2 => ?_)
   rw [← hv2]
   refine L (iA (w64 ((l.list.length : Int) - 1))) rfl rfl rfl ?_
   obtain ⟨l1, h_l1, hF0⟩ := bind_some hF0
   refine L (Sl.av 1 c_str l1) rfl rfl (op_slice rfl (sl_sl (c := c_str) (a := 0) (b := w64 ((l.list.length : Int) - 1)) rfl rfl rfl rfl h_l1)) ?_
   refine L (Sl.av 1 c_str l1) rfl rfl rfl <| L (bA true) rfl rfl rfl <| nl <| rt ?_
   obtain rfl := Option.some.inj hF0
   exact rd_leaf (.inr rfl) rfl (ret_tup2 (retV_pl _ _ (Sl.av 1 c_str l1)) (retV_pl _ _ (bA true))) rfl rfl
 · replace hF0 := ite_f hF0 (seq_f hc3)
   refine sk <| sq <| rg <| L (Sl.lav (.fr 0 900000) o900000.ver l) rfl rfl rfl <| L (Sl.lav (.fr 0 900000) o900000.ver l) rfl rfl rfl <| L (bA false) rfl rfl rfl <| nl <| rt ?_
   obtain rfl := Option.some.inj hF0
   exact rd_leaf (.inr rfl) rfl (ret_tup2 (ret_lz rfl hz_1) (retV_pl _ _ (bA false))) rfl rfl

theorem ok_slices_Index_string_string__r0 (s_ : (Sl Str)) (v_ : Str) {r : (Int)} (hF0 : slices_Index_string_string__r0 s_ v_ = some r) (out : List AE.Frame) (glob : List AObj) (d0 : AE.Loc) (w0 : Nat) (hh0 : d0.here = false) (hk_0 : LdF out glob d0 w0 1 c_str s_) : RdOk Tryz.prog pol true 51 [(Sl.lav d0 w0 s_), (sA v_)] out glob (iA r) := by
 unfold slices_Index_string_string__r0 at hF0
 refine rd_walk Tryz.func51 rfl (Nat.not_lt.2 (Nat.le_of_ble_eq_true rfl)) ?_
 intro ro
 refine sq <| rg <| L (iA 0) rfl rfl rfl <| nl <| sq <| sq <| rg <| L (Sl.lav d0 w0 s_) rfl rfl rfl <| L (iA (s_.list.length : Int)) rfl rfl (op_len rfl rfl rfl rfl rfl (lz_len _ _ _)) <| L (iA 0) rfl rfl rfl <| nl <| bk ?_
 obtain ⟨b1, hb4, hF0⟩ := bind_some hF0
 obtain ⟨hn4, hb4⟩ := ite_none hb4
 obtain ⟨J4, hJ4⟩ : ∃ J : St → Prop, ∀ st, J st ↔ (∃ (tm6 : Nat → AV) (cb6 : AE.Frame), st = ⟨tm6, ⟨cb6, out, glob⟩⟩ ∧ AllEq tm6 [] ∧ AllEq cb6 [] ∧ Res.out () = b1) := ⟨_, fun _ => Iff.rfl⟩
 obtain ⟨R4, hR4⟩ : ∃ R : Nat → (Unit) → St → Prop, ∀ i v st, R i v st ↔ (match v with | () => ∃ (tm5 : Nat → AV) (cb5 : AE.Frame), st = ⟨tm5, ⟨cb5, out, glob⟩⟩ ∧ AllEq tm5 [(0, (Sl.lav d0 w0 s_)), (1, (sA v_)), (7, (iA (s_.list.length : Int))), (8, (iA ((i : Nat) : Int)))] ∧ AllEq cb5 []) := ⟨_, fun _ _ _ => Iff.rfl⟩
 refine W_loopcut J4 (fun st hst => ?_) ?_
 · obtain ⟨tm6, cb6, rfl, hT6, hC6, rfl⟩ := (hJ4 st).1 hst
   obtain ⟨tm6, rfl⟩ := allEq hT6
   obtain ⟨cb6, rfl⟩ := allEq hC6
   replace hF0 := res_out hF0
   refine sq <| rg <| L (iA (-1)) rfl rfl rfl <| nl <| rt ?_
   obtain rfl := Option.some.inj hF0
   exact rd_leaf (.inr rfl) rfl (retV_pl _ _ (iA (-1))) rfl rfl
 · refine W_rangeL hb4 R4 ((hR4 _ _ _).2 ⟨_, _, rfl, (And.intro rfl (And.intro rfl (And.intro rfl (And.intro rfl True.intro)))), True.intro⟩) ?_ ?_
   · intro i hi4 v st s hr hF1 hD1
     obtain ⟨⟩ := v
     obtain ⟨tm5, cb5, rfl, hT5, hC5⟩ := (hR4 _ _ _).1 hr
     obtain ⟨tm5, rfl⟩ := allEq hT5
     obtain ⟨cb5, rfl⟩ := allEq hC5
     dsimp only [slices_Index_string_string__r0_l0] at hF1
     refine sq (rg ?_)
     refine WO_do (y := (bA (decide (((i : Nat) : Int) < (s_.list.length : Int))))) _ rfl rfl rfl (nl ?_)
     refine sq <| cd true (congrArg some (rangeN_lt hi4)) (fun _ => ?_) (fun h => absurd h (by decide))
     refine sk <| sq <| bk <| sq <| rg <| L (iA ((i : Nat) : Int)) rfl rfl rfl <| L (iA ((i : Nat) : Int)) rfl rfl rfl <| nl <| sq <| rg <| L (sA v_) rfl rfl rfl <| L (Sl.lav d0 w0 s_) rfl rfl rfl <| L (iA ((i : Nat) : Int)) rfl rfl rfl ?_
     obtain ⟨x1, h_x1, hF1⟩ := bind_some hF1
     refine L (.eptr d0 w0 (((i : Nat) : Int) : Int).toNat 0) rfl rfl (op_ix rfl (ix_ld (x := s_) (n := 1) (c := c_str) rfl rfl hh0 hk_0 h_x1)) <| L (sA x1) rfl rfl (op_load rfl (ld_ld (x := s_) (n := 1) (c := c_str) (sA x1) rfl rfl hh0 hk_0 h_x1 rfl)) <| L (bA (v_ == x1)) rfl rfl (op_bin rfl bin_seq) <| nl <| cd (v_ == x1) rfl (fun hc8 => ?_) (fun hc8 => ?_)
     · replace hF1 := ite_t hF1 (seq_t hc8)
       refine sq <| rg <| L (iA ((i : Nat) : Int)) rfl rfl rfl <| L (iA ((i : Nat) : Int)) rfl rfl rfl <| nl <| rt ?_
       obtain rfl := hD1 _ (Option.some.inj hF1).symm
       replace hF0 := res_ret hF0
       obtain rfl := Option.some.inj hF0
       exact rd_leaf (.inr rfl) rfl (retV_pl _ _ (iA ((i : Nat) : Int))) rfl rfl
     · replace hF1 := ite_f hF1 (seq_f hc8)
       exact sk <| rg <| WO_do (y := (iA ((i + 1 : Nat) : Int))) _ rfl rfl (congrArg (fun n => some (AV.int .i64 n, _)) (rangeN_len hi4 hn4)) <| WO_do (y := (iA ((i + 1 : Nat) : Int))) _ rfl rfl rfl <| nl <| Exists.intro _ (And.intro (Option.some.inj hF1).symm ((hR4 _ _ _).2 ⟨_, _, rfl, (And.intro rfl (And.intro rfl (And.intro rfl (And.intro rfl True.intro)))), True.intro⟩))
   · intro v st hr hD1
     obtain ⟨⟩ := v
     obtain ⟨tm5, cb5, rfl, hT5, hC5⟩ := (hR4 _ _ _).1 hr
     obtain ⟨tm5, rfl⟩ := allEq hT5
     obtain ⟨cb5, rfl⟩ := allEq hC5
     refine sq (rg ?_)
     refine WO_do (y := .bool false) _ rfl rfl (congrArg (fun b => some (AV.bool b, _)) (rangeN_ge _)) (nl ?_)
     refine sq <| cd false rfl (fun h => absurd h (by decide)) (fun _ => ?_)
     exact xt <| (hJ4 _).2 ⟨_, _, rfl, True.intro, True.intro, hD1⟩

theorem ok_slices_Contains_string_string__r0 (s_ : (Sl Str)) (v_ : Str) {r : (Bool)} (hF0 : slices_Contains_string_string__r0 s_ v_ = some r) (out : List AE.Frame) (glob : List AObj) (d0 : AE.Loc) (w0 : Nat) (hh0 : d0.here = false) (hk_0 : LdF out glob d0 w0 1 c_str s_) : RdOk Tryz.prog pol true 34 [(Sl.lav d0 w0 s_), (sA v_)] out glob (bA r) := by
 unfold slices_Contains_string_string__r0 at hF0
 refine rd_walk Tryz.func34 rfl (Nat.not_lt.2 (Nat.le_of_ble_eq_true rfl)) ?_
 intro ro
 refine sq <| rg <| L (bA false) rfl rfl rfl <| nl <| sq <| rg <| L (Sl.lav d0 w0 s_) rfl rfl rfl <| L (sA v_) rfl rfl rfl ?_
 obtain ⟨r7, h1, hF0⟩ := bind_some hF0
 refine WO_rd (g := 51) (args := [(Sl.lav d0 w0 s_), (sA v_)]) (r := (iA r7)) _ _ rfl rfl rfl rfl rfl rfl rfl (ok_slices_Index_string_string__r0 _ _ h1 _ _ d0.inn w0 (inn_here _) (LdF.inn hh0 hk_0)) <| L (bA (decide (r7 ≥ 0))) rfl rfl rfl <| L (bA (decide (r7 ≥ 0))) rfl rfl rfl <| nl <| rt ?_
 obtain rfl := Option.some.inj hF0
 exact rd_leaf (.inr rfl) rfl (retV_pl _ _ (bA (decide (r7 ≥ 0)))) rfl rfl

theorem ok_kit_Words (s_ : Str) {r : ((Sl Str) × Bool)} (hF0 : kit_Words s_ = some r) (out : List AE.Frame) (glob : List AObj) : RdOk Tryz.prog pol false 47 [(sA s_)] out glob (.tup [(Sl.av 1 c_str r.1), (bA r.2)]) := by
 unfold kit_Words at hF0
 refine rd_walkF Tryz.func47 rfl (Nat.not_lt.2 (Nat.le_of_ble_eq_true rfl)) <| sq <| rg <| L (Sl.av 1 c_str Sl.nil) rfl rfl rfl <| L (bA false) rfl rfl rfl <| nl <| sq <| rg <| L (sA s_) rfl rfl rfl ?_
 obtain ⟨l, h_l, hF0⟩ := bind_some hF0
 refine WO_splitH (s := s_) (t := [32]) (y := l) _ _ rfl rfl rfl rfl rfl rfl rfl rfl rfl h_l (fun o900000 hz_1 => ?_)
 refine L (Sl.lav (.fr 0 900000) o900000.ver l) rfl rfl rfl <| nl <| sq <| rg <| L (Sl.lav (.fr 0 900000) o900000.ver l) rfl rfl rfl <| L (Sl.lav (.fr 0 900000) o900000.ver l) rfl rfl rfl ?_
 obtain ⟨r9, h2, hF0⟩ := bind_some hF0
 refine WO_rd (g := 34) (args := [(Sl.lav (.fr 0 900000) o900000.ver l), (sA [])]) (r := (bA r9)) _ _ rfl rfl rfl rfl rfl rfl rfl (ok_slices_Contains_string_string__r0 _ _ h2 _ _ (.fr 1 900000) o900000.ver rfl (LdF.own rfl hz_1)) <| L (bA (!r9)) rfl rfl rfl <| L (Sl.lav (.fr 0 900000) o900000.ver l) rfl rfl rfl <| L (bA (!r9)) rfl rfl rfl <| nl <| rt ?_
 obtain rfl := Option.some.inj hF0
 exact rd_leaf (.inr rfl) rfl (ret_tup2 (ret_lz rfl hz_1) (retV_pl _ _ (bA (!r9)))) rfl rfl

theorem okm_kit_Words (s_ : Str) {r : ((Sl Str) × Bool)} (hF0 : kit_Words s_ = some r) (out : List AE.Frame) (glob : List AObj) : RdZ Tryz.prog pol false 47 [(sA s_)] out glob 1 c_str r.1 [(bA r.2)] := by
 unfold kit_Words at hF0
 refine rdz_walkF Tryz.func47 rfl (Nat.not_lt.2 (Nat.le_of_ble_eq_true rfl)) <| sq <| rg <| L (Sl.av 1 c_str Sl.nil) rfl rfl rfl <| L (bA false) rfl rfl rfl <| nl <| sq <| rg <| L (sA s_) rfl rfl rfl ?_
 obtain ⟨l, h_l, hF0⟩ := bind_some hF0
 refine WO_splitH (s := s_) (t := [32]) (y := l) _ _ rfl rfl rfl rfl rfl rfl rfl rfl rfl h_l (fun o900000 hz_1 => ?_)
 refine L (Sl.lav (.fr 0 900000) o900000.ver l) rfl rfl rfl <| nl <| sq <| rg <| L (Sl.lav (.fr 0 900000) o900000.ver l) rfl rfl rfl <| L (Sl.lav (.fr 0 900000) o900000.ver l) rfl rfl rfl ?_
 obtain ⟨r9, h2, hF0⟩ := bind_some hF0
 refine WO_rd (g := 34) (args := [(Sl.lav (.fr 0 900000) o900000.ver l), (sA [])]) (r := (bA r9)) _ _ rfl rfl rfl rfl rfl rfl rfl (ok_slices_Contains_string_string__r0 _ _ h2 _ _ (.fr 1 900000) o900000.ver rfl (LdF.own rfl hz_1)) <| L (bA (!r9)) rfl rfl rfl <| L (Sl.lav (.fr 0 900000) o900000.ver l) rfl rfl rfl <| L (bA (!r9)) rfl rfl rfl <| nl <| rt ?_
 obtain rfl := Option.some.inj hF0
 exact rdz_leaf (.inr rfl) rfl rfl hz_1 rfl rfl

theorem ok_stringslite_HasPrefix (s_ : Str) (prefix_ : Str) {r : (Bool)} (hF0 : stringslite_HasPrefix s_ prefix_ = some r) (out : List AE.Frame) (glob : List AObj) : RdOk Tryz.prog pol true 72 [(sA s_), (sA prefix_)] out glob (bA r) := by
 unfold stringslite_HasPrefix at hF0
 refine rd_walk Tryz.func72 rfl (Nat.not_lt.2 (Nat.le_of_ble_eq_true rfl)) ?_
 intro ro
 refine sq <| rg <| L (bA false) rfl rfl rfl <| nl <| sq <| rg <| L (sA s_) rfl rfl rfl <| L (iA (s_.length : Int)) rfl rfl rfl <| L (sA prefix_) rfl rfl rfl <| L (iA (prefix_.length : Int)) rfl rfl rfl <| L (bA (decide ((s_.length : Int) ≥ (prefix_.length : Int)))) rfl rfl rfl ?_
 obtain ⟨y1, hF1, hF0⟩ := bind_some hF0
 obtain ⟨J1, hJ1⟩ : ∃ J : St → Prop, ∀ st, J st ↔ (∃ (t17 : Bool) (tm2 : Nat → AV) (cb2 : AE.Frame), st = ⟨tm2, ⟨cb2, out, glob⟩⟩ ∧ AllEq tm2 [(17, (bA t17))] ∧ AllEq cb2 [] ∧ t17 = y1) := ⟨_, fun _ => Iff.rfl⟩
 refine WO_cut 8 J1 (fun st hst => ?_) ?_
 · obtain ⟨t17, tm2, cb2, rfl, hT2, hC2, rfl⟩ := (hJ1 st).1 hst
   obtain ⟨tm2, rfl⟩ := allEq hT2
   obtain ⟨cb2, rfl⟩ := allEq hC2
   refine L (bA t17) rfl rfl rfl <| nl <| rt ?_
   obtain rfl := Option.some.inj hF0
   exact rd_leaf (.inr rfl) rfl (retV_pl _ _ (bA t17)) rfl rfl
 · rcases bool_cases (decide ((s_.length : Int) ≥ (prefix_.length : Int))) with hc1 | hc1
   · replace hF1 := ite_t hF1 (dec_t hc1)
     refine L (.bool true) rfl rfl (congrArg (fun b => some (AV.bool b, _)) hc1) <| L (sA s_) rfl rfl rfl <| L (sA prefix_) rfl rfl rfl <| L (iA (prefix_.length : Int)) rfl rfl rfl ?_
     obtain ⟨r141, h_r141, hF1⟩ := bind_some hF1
     refine L (sA r141) rfl rfl (op_slice rfl (sl_str (a := 0) (b := (prefix_.length : Int)) rfl rfl rfl h_r141)) ?_
     exact L (sA prefix_) rfl rfl rfl <| L (bA (r141 == prefix_)) rfl rfl (op_bin rfl bin_seq) <| L (bA (r141 == prefix_)) rfl rfl rfl <| nl ((hJ1 _).2 ⟨r141 == prefix_, _, _, rfl, (And.intro rfl True.intro), True.intro, Option.some.inj hF1⟩)
   · replace hF1 := ite_f hF1 (dec_f hc1)
     exact L (.bool false) rfl rfl (congrArg (fun b => some (AV.bool b, _)) hc1) <| WO_no _ rfl rfl <| WO_no _ rfl rfl <| WO_no _ rfl rfl <| WO_no _ rfl rfl <| WO_no _ rfl rfl <| WO_no _ rfl rfl <| L (bA false) rfl rfl rfl <| nl ((hJ1 _).2 ⟨false, _, _, rfl, (And.intro rfl True.intro), True.intro, Option.some.inj hF1⟩)

theorem ok_stringslite_TrimPrefix (s_ : Str) (prefix_ : Str) {r : (Str)} (hF0 : stringslite_TrimPrefix s_ prefix_ = some r) (out : List AE.Frame) (glob : List AObj) : RdOk Tryz.prog pol true 62 [(sA s_), (sA prefix_)] out glob (sA r) := by
 unfold stringslite_TrimPrefix at hF0
 refine rd_walk Tryz.func62 rfl (Nat.not_lt.2 (Nat.le_of_ble_eq_true rfl)) ?_
 intro ro
 refine sq <| rg <| L (sA []) rfl rfl rfl <| nl <| sq <| sq <| rg <| L (sA s_) rfl rfl rfl <| L (sA prefix_) rfl rfl rfl ?_
 obtain ⟨r7, h1, hF0⟩ := bind_some hF0
 refine WO_rd (g := 72) (args := [(sA s_), (sA prefix_)]) (r := (bA r7)) _ _ rfl rfl rfl rfl rfl rfl rfl (ok_stringslite_HasPrefix _ _ h1 _ _ ) <| nl <| cd r7 rfl (fun hc2 => ?_) (fun hc2 => ?_)
 · replace hF0 := ite_t hF0 (hc2)
   refine sq <| rg <| L (sA s_) rfl rfl rfl <| L (sA prefix_) rfl rfl rfl <| L (iA (prefix_.length : Int)) rfl rfl rfl ?_
   obtain ⟨r4, h_r4, hF0⟩ := bind_some hF0
   refine L (sA r4) rfl rfl (op_slice rfl (sl_str (a := (prefix_.length : Int)) (b := (s_.length : Int)) rfl rfl rfl h_r4)) ?_
   refine L (sA r4) rfl rfl rfl <| nl <| rt ?_
   obtain rfl := Option.some.inj hF0
   exact rd_leaf (.inr rfl) rfl (retV_pl _ _ (sA r4)) rfl rfl
 · replace hF0 := ite_f hF0 (not_t hc2)
   refine sk <| sq <| rg <| L (sA s_) rfl rfl rfl <| L (sA s_) rfl rfl rfl <| nl <| rt ?_
   obtain rfl := Option.some.inj hF0
   exact rd_leaf (.inr rfl) rfl (retV_pl _ _ (sA s_)) rfl rfl

theorem ok_strings_TrimPrefix (s_ : Str) (prefix_ : Str) {r : (Str)} (hF0 : strings_TrimPrefix s_ prefix_ = some r) (out : List AE.Frame) (glob : List AObj) : RdOk Tryz.prog pol true 52 [(sA s_), (sA prefix_)] out glob (sA r) := by
 unfold strings_TrimPrefix at hF0
 refine rd_walk Tryz.func52 rfl (Nat.not_lt.2 (Nat.le_of_ble_eq_true rfl)) ?_
 intro ro
 refine sq <| rg <| L (sA []) rfl rfl rfl <| nl <| sq <| rg <| L (sA s_) rfl rfl rfl <| L (sA prefix_) rfl rfl rfl ?_
 obtain ⟨r4, h1, hF0⟩ := bind_some hF0
 refine WO_rd (g := 62) (args := [(sA s_), (sA prefix_)]) (r := (sA r4)) _ _ rfl rfl rfl rfl rfl rfl rfl (ok_stringslite_TrimPrefix _ _ h1 _ _ ) <| L (sA r4) rfl rfl rfl <| nl <| rt ?_
 obtain rfl := Option.some.inj hF0
 exact rd_leaf (.inr rfl) rfl (retV_pl _ _ (sA r4)) rfl rfl

theorem ok_kit_Number (s_ : Str) (most : Int) {r : (Int × Bool)} (hF0 : kit_Number s_ most = some r) (out : List AE.Frame) (glob : List AObj) : RdOk Tryz.prog pol true 48 [(sA s_), (iA most)] out glob (.tup [(iA r.1), (bA r.2)]) := by
 unfold kit_Number at hF0
 refine rd_walk Tryz.func48 rfl (Nat.not_lt.2 (Nat.le_of_ble_eq_true rfl)) ?_
 intro ro
 refine sq <| rg <| L (iA 0) rfl rfl rfl <| L (bA false) rfl rfl rfl <| nl <| sq <| rg <| L (sA s_) rfl rfl rfl ?_
 obtain ⟨digits, h1, hF0⟩ := bind_some hF0
 refine WO_rd (g := 52) (args := [(sA s_), (sA [45])]) (r := (sA digits)) _ _ rfl rfl rfl rfl rfl rfl rfl (ok_strings_TrimPrefix _ _ h1 _ _ ) <| L (sA digits) rfl rfl rfl <| nl <| sq <| sq <| rg <| L (sA digits) rfl rfl rfl <| L (bA (digits == [])) rfl rfl (op_bin rfl bin_seq) ?_
 obtain ⟨J2, hJ2⟩ : ∃ J : St → Prop, ∀ st, J st ↔ (∃ (tm3 : Nat → AV) (cb3 : AE.Frame), st = ⟨tm3, ⟨cb3, out, glob⟩⟩ ∧ AllEq tm3 [(0, (sA s_)), (6, (sA digits)), (19, (bA ((digits == []) || (decide ((digits.length : Int) > most)))))] ∧ AllEq cb3 []) := ⟨_, fun _ => Iff.rfl⟩
 refine WO_cut 6 J2 (fun st hst => ?_) ?_
 · obtain ⟨tm3, cb3, rfl, hT3, hC3⟩ := (hJ2 st).1 hst
   obtain ⟨tm3, rfl⟩ := allEq hT3
   obtain ⟨cb3, rfl⟩ := allEq hC3
   obtain ⟨y6, hF1, hF0⟩ := bind_some hF0
   obtain ⟨J6, hJ6⟩ : ∃ J : St → Prop, ∀ st, J st ↔ (∃ (t28 : Bool) (tm7 : Nat → AV) (cb7 : AE.Frame), st = ⟨tm7, ⟨cb7, out, glob⟩⟩ ∧ AllEq tm7 [(0, (sA s_)), (6, (sA digits)), (28, (bA t28))] ∧ AllEq cb7 [] ∧ t28 = y6) := ⟨_, fun _ => Iff.rfl⟩
   refine WO_cut 9 J6 (fun st hst => ?_) ?_
   · obtain ⟨t28, tm7, cb7, rfl, hT7, hC7, rfl⟩ := (hJ6 st).1 hst
     obtain ⟨tm7, rfl⟩ := allEq hT7
     obtain ⟨cb7, rfl⟩ := allEq hC7
     refine nl <| cd t28 rfl (fun hc20 => ?_) (fun hc20 => ?_)
     · replace hF0 := ite_t hF0 (hc20)
       refine sq <| rg <| L (iA 0) rfl rfl rfl <| L (bA false) rfl rfl rfl <| nl <| rt ?_
       obtain rfl := Option.some.inj hF0
       exact rd_leaf (.inr rfl) rfl (ret_tup2 (retV_pl _ _ (iA 0)) (retV_pl _ _ (bA false))) rfl rfl
     · replace hF0 := ite_f hF0 (not_t hc20)
       refine sk <| sq <| sq <| rg <| L (iA 0) rfl rfl rfl <| nl <| bk ?_
       obtain ⟨b1, hb13, hF0⟩ := bind_some hF0
       obtain ⟨J13, hJ13⟩ : ∃ J : St → Prop, ∀ st, J st ↔ (∃ (tm15 : Nat → AV) (cb15 : AE.Frame), st = ⟨tm15, ⟨cb15, out, glob⟩⟩ ∧ AllEq tm15 [(0, (sA s_))] ∧ AllEq cb15 [] ∧ Res.out () = b1) := ⟨_, fun _ => Iff.rfl⟩
       obtain ⟨R13, hR13⟩ : ∃ R : (Int) → St → Prop, ∀ v st, R v st ↔ (match v with | i1 => ∃ (tm14 : Nat → AV) (cb14 : AE.Frame), st = ⟨tm14, ⟨cb14, out, glob⟩⟩ ∧ AllEq tm14 [(0, (sA s_)), (6, (sA digits)), (7, (iA i1))] ∧ AllEq cb14 []) := ⟨_, fun _ _ => Iff.rfl⟩
       refine W_loopcut J13 (fun st hst => ?_) ?_
       · obtain ⟨tm15, cb15, rfl, hT15, hC15, rfl⟩ := (hJ13 st).1 hst
         obtain ⟨tm15, rfl⟩ := allEq hT15
         obtain ⟨cb15, rfl⟩ := allEq hC15
         replace hF0 := res_out hF0
         refine sq <| rg <| L (sA s_) rfl rfl rfl ?_
         obtain ⟨r47, h_r47, hF0⟩ := bind_some hF0
         refine L (.tup [(iA r47), .nili]) rfl rfl (op_lib _ rfl rfl rfl (x_atoi_eq h_r47)) <| L (.tup [(iA r47), .nili]) rfl rfl rfl <| L (iA r47) rfl rfl rfl <| L .nili rfl rfl rfl <| L (iA r47) rfl rfl rfl <| L .nili rfl rfl rfl <| nl <| sq <| dw (by kernel_rfl) <| L (iA r47) rfl rfl rfl <| L .nili rfl rfl rfl <| L (bA true) rfl rfl (op_bin rfl rfl) <| L (iA r47) rfl rfl rfl <| L (bA true) rfl rfl rfl <| nl <| rt ?_
         obtain rfl := Option.some.inj hF0
         exact rd_leaf (.inr rfl) rfl (ret_tup2 (retV_pl _ _ (iA r47)) (retV_pl _ _ (bA true))) rfl rfl
       · refine W_loopV hb13 R13 ((hR13 _ _).2 ⟨_, _, rfl, (And.intro rfl (And.intro rfl (And.intro rfl True.intro))), True.intro⟩) ?_
         intro v st s hr hF1 hD1
         obtain ⟨i1, hv_⟩ : ∃ z, z = v := ⟨_, rfl⟩; subst hv_
         obtain ⟨tm14, cb14, rfl, hT14, hC14⟩ := (hR13 _ _).1 hr
         obtain ⟨tm14, rfl⟩ := allEq hT14
         obtain ⟨cb14, rfl⟩ := allEq hC14
         dsimp only [kit_Number_l0] at hF1
         refine sq <| sq <| rg <| L (iA i1) rfl rfl rfl <| L (sA digits) rfl rfl rfl <| L (iA (digits.length : Int)) rfl rfl rfl <| L (bA (decide (i1 < (digits.length : Int)))) rfl rfl rfl <| nl <| cd (decide (i1 < (digits.length : Int))) rfl (fun hc19 => ?_) (fun hc19 => ?_)
         · replace hF1 := ite_t hF1 (dec_t hc19)
           refine sk <| sq <| bk <| sq <| rg <| L (sA digits) rfl rfl rfl <| L (iA i1) rfl rfl rfl ?_
           obtain ⟨r371, h_r371, hF1⟩ := bind_some hF1
           refine L (.int .u8 r371) rfl rfl (op_index rfl (ix_str rfl h_r371)) <| L (bA (decide (r371 < 48))) rfl rfl rfl ?_
           obtain ⟨y16, hF2, hF1⟩ := bind_some hF1
           obtain ⟨J16, hJ16⟩ : ∃ J : St → Prop, ∀ st, J st ↔ (∃ (t441 : Bool) (tm17 : Nat → AV) (cb17 : AE.Frame), st = ⟨tm17, ⟨cb17, out, glob⟩⟩ ∧ AllEq tm17 [(0, (sA s_)), (6, (sA digits)), (7, (iA i1)), (44, (bA t441))] ∧ AllEq cb17 [] ∧ t441 = y16) := ⟨_, fun _ => Iff.rfl⟩
           refine WO_cut 6 J16 (fun st hst => ?_) ?_
           · obtain ⟨t441, tm17, cb17, rfl, hT17, hC17, rfl⟩ := (hJ16 st).1 hst
             obtain ⟨tm17, rfl⟩ := allEq hT17
             obtain ⟨cb17, rfl⟩ := allEq hC17
             refine nl <| cd t441 rfl (fun hc18 => ?_) (fun hc18 => ?_)
             · replace hF1 := ite_t hF1 (hc18)
               refine sq <| rg <| L (iA 0) rfl rfl rfl <| L (bA false) rfl rfl rfl <| nl <| rt ?_
               obtain rfl := hD1 _ (Option.some.inj hF1).symm
               replace hF0 := res_ret hF0
               obtain rfl := Option.some.inj hF0
               exact rd_leaf (.inr rfl) rfl (ret_tup2 (retV_pl _ _ (iA 0)) (retV_pl _ _ (bA false))) rfl rfl
             · replace hF1 := ite_f hF1 (not_t hc18)
               exact sk <| rg <| L (iA i1) rfl rfl rfl <| L (iA (w64 (i1 + 1))) rfl rfl rfl <| L (iA (w64 (i1 + 1))) rfl rfl rfl <| nl <| Exists.intro _ (And.intro (Option.some.inj hF1).symm ((hR13  _ _).2 ⟨_, _, rfl, (And.intro rfl (And.intro rfl (And.intro rfl True.intro))), True.intro⟩))
           · rcases bool_cases (decide (r371 < 48)) with hc16 | hc16
             · replace hF2 := ite_t hF2 (dec_t hc16)
               exact L (.bool true) rfl rfl (congrArg (fun b => some (AV.bool b, _)) hc16) <| WO_no _ rfl rfl <| WO_no _ rfl rfl <| WO_no _ rfl rfl <| WO_no _ rfl rfl <| L (bA true) rfl rfl rfl <| nl ((hJ16 _).2 ⟨true, _, _, rfl, (And.intro rfl (And.intro rfl (And.intro rfl (And.intro rfl True.intro)))), True.intro, Option.some.inj hF2⟩)
             · replace hF2 := ite_f hF2 (dec_f hc16)
               refine L (.bool false) rfl rfl (congrArg (fun b => some (AV.bool b, _)) hc16) <| L (sA digits) rfl rfl rfl <| L (iA i1) rfl rfl rfl ?_
               obtain ⟨r423, h_r423, hF2⟩ := bind_some hF2
               exact L (.int .u8 r423) rfl rfl (op_index rfl (ix_str rfl h_r423)) <| L (bA (decide (r423 > 57))) rfl rfl rfl <| L (bA (decide (r423 > 57))) rfl rfl rfl <| nl ((hJ16 _).2 ⟨decide (r423 > 57), _, _, rfl, (And.intro rfl (And.intro rfl (And.intro rfl (And.intro rfl True.intro)))), True.intro, Option.some.inj hF2⟩)
         · replace hF1 := ite_f hF1 (dec_f hc19)
           exact xt <| (hJ13 _).2 ⟨_, _, rfl, (And.intro rfl True.intro), True.intro, hD1 _ (Option.some.inj hF1).symm⟩
   · rcases bool_cases ((digits == []) || (decide ((digits.length : Int) > most))) with hc6 | hc6
     · replace hF1 := ite_t hF1 (hc6)
       exact L (.bool true) rfl rfl (congrArg (fun b => some (AV.bool b, _)) hc6) <| WO_no _ rfl rfl <| WO_no _ rfl rfl <| WO_no _ rfl rfl <| WO_no _ rfl rfl <| WO_no _ rfl rfl <| WO_no _ rfl rfl <| WO_no _ rfl rfl <| L (bA true) rfl rfl rfl <| nl ((hJ6 _).2 ⟨true, _, _, rfl, (And.intro rfl (And.intro rfl (And.intro rfl True.intro))), True.intro, Option.some.inj hF1⟩)
     · replace hF1 := ite_f hF1 (not_t hc6)
       refine L (.bool false) rfl rfl (congrArg (fun b => some (AV.bool b, _)) hc6) <| L (sA digits) rfl rfl rfl ?_
       obtain ⟨r221, h_r221, hF1⟩ := bind_some hF1
       refine L (.int .u8 r221) rfl rfl (op_index rfl (ix_str rfl h_r221)) <| L (bA (r221 == 48)) rfl rfl rfl ?_
       obtain ⟨J21, hJ21⟩ : ∃ J : St → Prop, ∀ st, J st ↔ (∃ (tm22 : Nat → AV) (cb22 : AE.Frame), st = ⟨tm22, ⟨cb22, out, glob⟩⟩ ∧ AllEq tm22 [(0, (sA s_)), (6, (sA digits)), (20, (bA false)), (27, (bA ((r221 == 48) && (s_ != [48]))))] ∧ AllEq cb22 []) := ⟨_, fun _ => Iff.rfl⟩
       refine WO_cut 4 J21 (fun st hst => ?_) ?_
       · obtain ⟨tm22, cb22, rfl, hT22, hC22⟩ := (hJ21 st).1 hst
         obtain ⟨tm22, rfl⟩ := allEq hT22
         obtain ⟨cb22, rfl⟩ := allEq hC22
         exact L (bA ((r221 == 48) && (s_ != [48]))) rfl rfl rfl <| nl ((hJ6 _).2 ⟨((r221 == 48) && (s_ != [48])), _, _, rfl, (And.intro rfl (And.intro rfl (And.intro rfl True.intro))), True.intro, Option.some.inj hF1⟩)
       · rcases bool_cases (r221 == 48) with hc21 | hc21
         · exact L (.bool true) rfl rfl (congrArg (fun b => some (AV.bool b, _)) hc21) <| L (sA s_) rfl rfl rfl <| L (bA (s_ != [48])) rfl rfl (op_bin rfl bin_sne) <| L (bA ((r221 == 48) && (s_ != [48]))) rfl rfl (congrArg (fun b => some (AV.bool b, _)) (by rw [hc21]; rfl)) <| nl ((hJ21 _).2 ⟨_, _, rfl, (And.intro rfl (And.intro rfl (And.intro rfl (And.intro rfl True.intro)))), True.intro⟩)
         · exact L (.bool false) rfl rfl (congrArg (fun b => some (AV.bool b, _)) hc21) <| WO_no _ rfl rfl <| WO_no _ rfl rfl <| L (bA ((r221 == 48) && (s_ != [48]))) rfl rfl (congrArg (fun b => some (AV.bool b, _)) (by rw [hc21]; rfl)) <| nl ((hJ21 _).2 ⟨_, _, rfl, (And.intro rfl (And.intro rfl (And.intro rfl (And.intro rfl True.intro)))), True.intro⟩)
 · rcases bool_cases (digits == []) with hc2 | hc2
   · exact L (.bool true) rfl rfl (congrArg (fun b => some (AV.bool b, _)) hc2) <| WO_no _ rfl rfl <| WO_no _ rfl rfl <| WO_no _ rfl rfl <| WO_no _ rfl rfl <| L (bA ((digits == []) || (decide ((digits.length : Int) > most)))) rfl rfl (congrArg (fun b => some (AV.bool b, _)) (by rw [hc2]; rfl)) <| nl ((hJ2 _).2 ⟨_, _, rfl, (And.intro rfl (And.intro rfl (And.intro rfl True.intro))), True.intro⟩)
   · exact L (.bool false) rfl rfl (congrArg (fun b => some (AV.bool b, _)) hc2) <| L (sA digits) rfl rfl rfl <| L (iA (digits.length : Int)) rfl rfl rfl <| L (iA most) rfl rfl rfl <| L (bA (decide ((digits.length : Int) > most))) rfl rfl rfl <| L (bA ((digits == []) || (decide ((digits.length : Int) > most)))) rfl rfl (congrArg (fun b => some (AV.bool b, _)) (by rw [hc2]; rfl)) <| nl ((hJ2 _).2 ⟨_, _, rfl, (And.intro rfl (And.intro rfl (And.intro rfl True.intro))), True.intro⟩)

theorem ok_gate_readRecord (line : Str) {r : (api_Record × Bool)} (hF0 : gate_readRecord line = some r) (out : List AE.Frame) (glob : List AObj) : RdOk Tryz.prog pol false 30 [(sA line)] out glob (.tup [(.agg (c_api_Record r.1)), (bA r.2)]) := by
 unfold gate_readRecord at hF0
 refine rd_walkF Tryz.func30 rfl (Nat.not_lt.2 (Nat.le_of_ble_eq_true rfl)) <| sq <| rg <| L (.ptr (.fr 0 2) 1 0) (h' := ⟨upd _ 2 ⟨1, .cells (c_api_Record (api_Record.mk 0 [] [] [] [] 0 0))⟩, _, _⟩) rfl rfl (op_alloc (c_api_Record (api_Record.mk 0 [] [] [] [] 0 0)) rfl rfl rfl rfl) <| L (bA false) rfl rfl rfl <| nl <| sq <| rg <| L (sA line) rfl rfl rfl ?_
 obtain ⟨⟨w, ok_⟩, h2, hF0⟩ := bind_some hF0
 refine WO_zR (g := 47) (args := [(sA line)]) (s := 5004) _ _ rfl rfl rfl rfl rfl rfl rfl rfl rfl (okm_kit_Words _ h2 _ _ ) (fun o5004 hz_1 => ?_)
 refine L (.tup [(Sl.lav (.fr 0 5004) o5004.ver w), (bA ok_)]) rfl rfl rfl <| L (Sl.lav (.fr 0 5004) o5004.ver w) rfl rfl rfl <| L (bA ok_) rfl rfl rfl <| L (Sl.lav (.fr 0 5004) o5004.ver w) rfl rfl rfl <| L (bA ok_) rfl rfl rfl <| nl <| sq <| sq <| rg <| L (bA ok_) rfl rfl rfl <| L (bA (!ok_)) rfl rfl rfl ?_
 obtain ⟨J3, hJ3⟩ : ∃ J : St → Prop, ∀ st, J st ↔ (∃ (tm4 : Nat → AV) (cb4 : AE.Frame), st = ⟨tm4, ⟨cb4, out, glob⟩⟩ ∧ AllEq tm4 [(2, (.ptr (.fr 0 2) 1 0)), (4, (Sl.lav (.fr 0 5004) o5004.ver w)), (24, (bA ((!ok_) || ((w.list.length : Int) != 7))))] ∧ AllEq cb4 [(2, ⟨1, .cells (c_api_Record (api_Record.mk 0 [] [] [] [] 0 0))⟩), (5004, o5004)] ∧ LzF 1 c_str o5004 w) := ⟨_, fun _ => Iff.rfl⟩
 refine WO_cut 5 J3 (fun st hst => ?_) ?_
 · obtain ⟨tm4, cb4, rfl, hT4, hC4, hz4_0⟩ := (hJ3 st).1 hst
   obtain ⟨tm4, rfl⟩ := allEq hT4
   obtain ⟨cb4, rfl⟩ := allEq hC4
   refine nl <| cd ((!ok_) || ((w.list.length : Int) != 7)) rfl (fun hc26 => ?_) (fun hc26 => ?_)
   · replace hF0 := ite_t hF0 (hc26)
     refine sq <| rg <| L (.agg (c_api_Record (api_Record.mk 0 [] [] [] [] 0 0))) rfl rfl (op_build rfl (build_st (cs := (c_api_Record (api_Record.mk 0 [] [] [] [] 0 0))) rfl rfl rfl (fill_nil))) <| L (.tup []) (h' := ⟨upd _ 2 ⟨1, .cells (c_api_Record (api_Record.mk 0 [] [] [] [] 0 0))⟩, _, _⟩) rfl rfl (op_store rfl rfl (st_fr (x := (.agg (c_api_Record (api_Record.mk 0 [] [] [] [] 0 0)))) (cs := (c_api_Record (api_Record.mk 0 [] [] [] [] 0 0))) (c_api_Record (api_Record.mk 0 [] [] [] [] 0 0)) rfl rfl (Nat.le_of_ble_eq_true rfl) rfl)) <| L (bA false) rfl rfl rfl <| nl <| rt ?_
     obtain rfl := Option.some.inj hF0
     exact rd_leaf (.inr rfl) (res_cell (ld_fr (y := (.agg (c_api_Record (api_Record.mk 0 [] [] [] [] 0 0)))) rfl rfl (cs := (c_api_Record (api_Record.mk 0 [] [] [] [] 0 0))) rfl rfl) (res_tmp (bA false) rfl (res_nil))) (ret_tup2 (retV_pl _ _ (.agg (c_api_Record (api_Record.mk 0 [] [] [] [] 0 0)))) (retV_pl _ _ (bA false))) rfl rfl
   · replace hF0 := ite_f hF0 (not_t hc26)
     refine sk <| sq <| sq <| rg <| L (iA 1) rfl rfl rfl <| nl <| bk ?_
     obtain ⟨b1, hb13, hF0⟩ := bind_some hF0
     obtain ⟨J13, hJ13⟩ : ∃ J : St → Prop, ∀ st, J st ↔ (∃ (w5 : (Sl Str)) (o50045 : AObj) (tm15 : Nat → AV) (cb15 : AE.Frame), st = ⟨tm15, ⟨cb15, out, glob⟩⟩ ∧ AllEq tm15 [(2, (.ptr (.fr 0 2) 1 0)), (4, (Sl.lav (.fr 0 5004) o50045.ver w5))] ∧ AllEq cb15 [(2, ⟨1, .cells (c_api_Record (api_Record.mk 0 [] [] [] [] 0 0))⟩), (5004, o50045)] ∧ LzF 1 c_str o50045 w5 ∧ w5 = b1) := ⟨_, fun _ => Iff.rfl⟩
     obtain ⟨R13, hR13⟩ : ∃ R : ((Sl Str) × Int) → St → Prop, ∀ v st, R v st ↔ (match v with | (w4, i2) => ∃ (o50044 : AObj) (tm14 : Nat → AV) (cb14 : AE.Frame), st = ⟨tm14, ⟨cb14, out, glob⟩⟩ ∧ AllEq tm14 [(2, (.ptr (.fr 0 2) 1 0)), (4, (Sl.lav (.fr 0 5004) o50044.ver w4)), (6, (iA i2))] ∧ AllEq cb14 [(2, ⟨1, .cells (c_api_Record (api_Record.mk 0 [] [] [] [] 0 0))⟩), (5004, o50044)] ∧ LzF 1 c_str o50044 w4) := ⟨_, fun _ _ => Iff.rfl⟩
     refine W_loopcut J13 (fun st hst => ?_) ?_
     · obtain ⟨w5, o50045, tm15, cb15, rfl, hT15, hC15, hz15_0, rfl⟩ := (hJ13 st).1 hst
       obtain ⟨tm15, rfl⟩ := allEq hT15
       obtain ⟨cb15, rfl⟩ := allEq hC15
       refine sq <| rg <| L (Sl.lav (.fr 0 5004) o50045.ver w5) rfl rfl rfl ?_
       obtain ⟨x6, h_x6, hF0⟩ := bind_some hF0
       refine L (.eptr (.fr 0 5004) o50045.ver (0 : Int).toNat 0) rfl rfl (op_ix rfl (ix_lz (x := w5) (o := o50045) (n := 1) (c := c_str) rfl rfl rfl hz15_0 h_x6)) <| L (sA x6) rfl rfl (op_load rfl (ld_lz (x := w5) (o := o50045) (n := 1) (c := c_str) (sA x6) rfl rfl rfl hz15_0 h_x6 rfl)) ?_
       obtain ⟨⟨at_, one⟩, h19, hF0⟩ := bind_some hF0
       refine WO_rd (g := 48) (args := [(sA x6), (iA 15)]) (r := (.tup [(iA at_), (bA one)])) _ _ rfl rfl rfl rfl rfl rfl rfl (ok_kit_Number _ _ h19 _ _ ) <| L (.tup [(iA at_), (bA one)]) rfl rfl rfl <| L (iA at_) rfl rfl rfl <| L (bA one) rfl rfl rfl <| L (iA at_) rfl rfl rfl <| L (bA one) rfl rfl rfl <| nl <| sq <| rg <| L (Sl.lav (.fr 0 5004) o50045.ver w5) rfl rfl rfl ?_
       obtain ⟨x7, h_x7, hF0⟩ := bind_some hF0
       refine L (.eptr (.fr 0 5004) o50045.ver (5 : Int).toNat 0) rfl rfl (op_ix rfl (ix_lz (x := w5) (o := o50045) (n := 1) (c := c_str) rfl rfl rfl hz15_0 h_x7)) <| L (sA x7) rfl rfl (op_load rfl (ld_lz (x := w5) (o := o50045) (n := 1) (c := c_str) (sA x7) rfl rfl rfl hz15_0 h_x7 rfl)) ?_
       obtain ⟨⟨status, two⟩, h20, hF0⟩ := bind_some hF0
       refine WO_rd (g := 48) (args := [(sA x7), (iA 15)]) (r := (.tup [(iA status), (bA two)])) _ _ rfl rfl rfl rfl rfl rfl rfl (ok_kit_Number _ _ h20 _ _ ) <| L (.tup [(iA status), (bA two)]) rfl rfl rfl <| L (iA status) rfl rfl rfl <| L (bA two) rfl rfl rfl <| L (iA status) rfl rfl rfl <| L (bA two) rfl rfl rfl <| nl <| sq <| rg <| L (Sl.lav (.fr 0 5004) o50045.ver w5) rfl rfl rfl ?_
       obtain ⟨x8, h_x8, hF0⟩ := bind_some hF0
       refine L (.eptr (.fr 0 5004) o50045.ver (6 : Int).toNat 0) rfl rfl (op_ix rfl (ix_lz (x := w5) (o := o50045) (n := 1) (c := c_str) rfl rfl rfl hz15_0 h_x8)) <| L (sA x8) rfl rfl (op_load rfl (ld_lz (x := w5) (o := o50045) (n := 1) (c := c_str) (sA x8) rfl rfl rfl hz15_0 h_x8 rfl)) ?_
       obtain ⟨⟨found, three⟩, h21, hF0⟩ := bind_some hF0
       refine WO_rd (g := 48) (args := [(sA x8), (iA 15)]) (r := (.tup [(iA found), (bA three)])) _ _ rfl rfl rfl rfl rfl rfl rfl (ok_kit_Number _ _ h21 _ _ ) <| L (.tup [(iA found), (bA three)]) rfl rfl rfl <| L (iA found) rfl rfl rfl <| L (bA three) rfl rfl rfl <| L (iA found) rfl rfl rfl <| L (bA three) rfl rfl rfl <| nl <| sq <| dw (by kernel_rfl) <| L (iA at_) rfl rfl rfl <| L (Sl.lav (.fr 0 5004) o50045.ver w5) rfl rfl rfl ?_
       obtain ⟨x9, h_x9, hF0⟩ := bind_some hF0
       refine L (.eptr (.fr 0 5004) o50045.ver (1 : Int).toNat 0) rfl rfl (op_ix rfl (ix_lz (x := w5) (o := o50045) (n := 1) (c := c_str) rfl rfl rfl hz15_0 h_x9)) <| L (sA x9) rfl rfl (op_load rfl (ld_lz (x := w5) (o := o50045) (n := 1) (c := c_str) (sA x9) rfl rfl rfl hz15_0 h_x9 rfl)) <| L (Sl.lav (.fr 0 5004) o50045.ver w5) rfl rfl rfl ?_
       obtain ⟨x10, h_x10, hF0⟩ := bind_some hF0
       refine L (.eptr (.fr 0 5004) o50045.ver (2 : Int).toNat 0) rfl rfl (op_ix rfl (ix_lz (x := w5) (o := o50045) (n := 1) (c := c_str) rfl rfl rfl hz15_0 h_x10)) <| L (sA x10) rfl rfl (op_load rfl (ld_lz (x := w5) (o := o50045) (n := 1) (c := c_str) (sA x10) rfl rfl rfl hz15_0 h_x10 rfl)) <| L (Sl.lav (.fr 0 5004) o50045.ver w5) rfl rfl rfl ?_
       obtain ⟨x11, h_x11, hF0⟩ := bind_some hF0
       refine L (.eptr (.fr 0 5004) o50045.ver (3 : Int).toNat 0) rfl rfl (op_ix rfl (ix_lz (x := w5) (o := o50045) (n := 1) (c := c_str) rfl rfl rfl hz15_0 h_x11)) <| L (sA x11) rfl rfl (op_load rfl (ld_lz (x := w5) (o := o50045) (n := 1) (c := c_str) (sA x11) rfl rfl rfl hz15_0 h_x11 rfl)) <| L (Sl.lav (.fr 0 5004) o50045.ver w5) rfl rfl rfl ?_
       obtain ⟨x12, h_x12, hF0⟩ := bind_some hF0
       refine L (.eptr (.fr 0 5004) o50045.ver (4 : Int).toNat 0) rfl rfl (op_ix rfl (ix_lz (x := w5) (o := o50045) (n := 1) (c := c_str) rfl rfl rfl hz15_0 h_x12)) <| L (sA x12) rfl rfl (op_load rfl (ld_lz (x := w5) (o := o50045) (n := 1) (c := c_str) (sA x12) rfl rfl rfl hz15_0 h_x12 rfl)) <| L (iA status) rfl rfl rfl <| L (iA found) rfl rfl rfl <| L (.agg (c_api_Record (api_Record.mk at_ x9 x10 x11 x12 status found))) rfl rfl (op_build rfl (build_st (cs := (c_api_Record (api_Record.mk at_ x9 x10 x11 x12 status found))) rfl rfl rfl (fill_cons (x := (iA at_)) rfl rfl (Nat.le_of_ble_eq_true rfl) (fill_cons (x := (sA x9)) rfl rfl (Nat.le_of_ble_eq_true rfl) (fill_cons (x := (sA x10)) rfl rfl (Nat.le_of_ble_eq_true rfl) (fill_cons (x := (sA x11)) rfl rfl (Nat.le_of_ble_eq_true rfl) (fill_cons (x := (sA x12)) rfl rfl (Nat.le_of_ble_eq_true rfl) (fill_cons (x := (iA status)) rfl rfl (Nat.le_of_ble_eq_true rfl) (fill_cons (x := (iA found)) rfl rfl (Nat.le_of_ble_eq_true rfl) (fill_nil)))))))))) <| L (bA one) rfl rfl rfl ?_
       obtain ⟨J22, hJ22⟩ : ∃ J : St → Prop, ∀ st, J st ↔ (∃ (tm23 : Nat → AV) (cb23 : AE.Frame), st = ⟨tm23, ⟨cb23, out, glob⟩⟩ ∧ AllEq tm23 [(2, (.ptr (.fr 0 2) 1 0)), (12, (bA three)), (74, (.agg (c_api_Record (api_Record.mk at_ x9 x10 x11 x12 status found)))), (78, (bA (one && two)))] ∧ AllEq cb23 [(2, ⟨1, .cells (c_api_Record (api_Record.mk 0 [] [] [] [] 0 0))⟩)]) := ⟨_, fun _ => Iff.rfl⟩
       refine WO_cut 3 J22 (fun st hst => ?_) ?_
       · obtain ⟨tm23, cb23, rfl, hT23, hC23⟩ := (hJ22 st).1 hst
         obtain ⟨tm23, rfl⟩ := allEq hT23
         obtain ⟨cb23, rfl⟩ := allEq hC23
         obtain ⟨J24, hJ24⟩ : ∃ J : St → Prop, ∀ st, J st ↔ (∃ (tm25 : Nat → AV) (cb25 : AE.Frame), st = ⟨tm25, ⟨cb25, out, glob⟩⟩ ∧ AllEq tm25 [(2, (.ptr (.fr 0 2) 1 0)), (74, (.agg (c_api_Record (api_Record.mk at_ x9 x10 x11 x12 status found)))), (81, (bA ((one && two) && three)))] ∧ AllEq cb25 [(2, ⟨1, .cells (c_api_Record (api_Record.mk 0 [] [] [] [] 0 0))⟩)]) := ⟨_, fun _ => Iff.rfl⟩
         refine WO_cut 3 J24 (fun st hst => ?_) ?_
         · obtain ⟨tm25, cb25, rfl, hT25, hC25⟩ := (hJ24 st).1 hst
           obtain ⟨tm25, rfl⟩ := allEq hT25
           obtain ⟨cb25, rfl⟩ := allEq hC25
           refine L (.tup []) (h' := ⟨upd _ 2 ⟨1, .cells (c_api_Record (api_Record.mk at_ x9 x10 x11 x12 status found))⟩, _, _⟩) rfl rfl (op_store rfl (by kernel_rfl) (st_fr (x := (.agg (c_api_Record (api_Record.mk at_ x9 x10 x11 x12 status found)))) (cs := (c_api_Record (api_Record.mk 0 [] [] [] [] 0 0))) (c_api_Record (api_Record.mk at_ x9 x10 x11 x12 status found)) rfl rfl (Nat.le_of_ble_eq_true rfl) rfl)) <| L (bA ((one && two) && three)) rfl rfl rfl <| nl <| rt ?_
           obtain rfl := Option.some.inj hF0
           exact rd_leaf (.inr rfl) (res_cell (ld_fr (y := (.agg (c_api_Record (api_Record.mk at_ x9 x10 x11 x12 status found)))) rfl rfl (cs := (c_api_Record (api_Record.mk at_ x9 x10 x11 x12 status found))) rfl rfl) (res_tmp (bA ((one && two) && three)) rfl (res_nil))) (ret_tup2 (retV_pl _ _ (.agg (c_api_Record (api_Record.mk at_ x9 x10 x11 x12 status found)))) (retV_pl _ _ (bA ((one && two) && three)))) rfl rfl
         · rcases bool_cases (one && two) with hc24 | hc24
           · exact L (.bool true) rfl rfl (congrArg (fun b => some (AV.bool b, _)) hc24) <| L (bA three) rfl rfl rfl <| L (bA ((one && two) && three)) rfl rfl (congrArg (fun b => some (AV.bool b, _)) (by rw [hc24]; rfl)) <| nl ((hJ24 _).2 ⟨_, _, rfl, (And.intro rfl (And.intro rfl (And.intro rfl True.intro))), (And.intro rfl True.intro)⟩)
           · exact L (.bool false) rfl rfl (congrArg (fun b => some (AV.bool b, _)) hc24) <| WO_no _ rfl rfl <| L (bA ((one && two) && three)) rfl rfl (congrArg (fun b => some (AV.bool b, _)) (by rw [hc24]; rfl)) <| nl ((hJ24 _).2 ⟨_, _, rfl, (And.intro rfl (And.intro rfl (And.intro rfl True.intro))), (And.intro rfl True.intro)⟩)
       · rcases bool_cases one with hc22 | hc22
         · exact L (.bool true) rfl rfl (congrArg (fun b => some (AV.bool b, _)) hc22) <| L (bA two) rfl rfl rfl <| L (bA (one && two)) rfl rfl (congrArg (fun b => some (AV.bool b, _)) (by rw [hc22]; rfl)) <| nl ((hJ22 _).2 ⟨_, _, rfl, (And.intro rfl (And.intro rfl (And.intro rfl (And.intro rfl True.intro)))), (And.intro rfl True.intro)⟩)
         · exact L (.bool false) rfl rfl (congrArg (fun b => some (AV.bool b, _)) hc22) <| WO_no _ rfl rfl <| L (bA (one && two)) rfl rfl (congrArg (fun b => some (AV.bool b, _)) (by rw [hc22]; rfl)) <| nl ((hJ22 _).2 ⟨_, _, rfl, (And.intro rfl (And.intro rfl (And.intro rfl (And.intro rfl True.intro)))), (And.intro rfl True.intro)⟩)
     · refine W_loopV hb13 R13 ((hR13 _ _).2 ⟨o5004, _, _, rfl, (And.intro rfl (And.intro rfl (And.intro rfl True.intro))), (And.intro rfl (And.intro rfl True.intro)), hz4_0⟩) ?_
       intro v st s hr hF1 hD1
       obtain ⟨w4, i2⟩ := v
       obtain ⟨o50044, tm14, cb14, rfl, hT14, hC14, hz14_0⟩ := (hR13 _ _).1 hr
       obtain ⟨tm14, rfl⟩ := allEq hT14
       obtain ⟨cb14, rfl⟩ := allEq hC14
       dsimp only [gate_readRecord_l0] at hF1
       refine sq <| sq <| rg <| L (iA i2) rfl rfl rfl <| L (bA (decide (i2 ≤ 4))) rfl rfl rfl <| nl <| cd (decide (i2 ≤ 4)) rfl (fun hc18 => ?_) (fun hc18 => ?_)
       · replace hF1 := ite_t hF1 (dec_t hc18)
         refine sk <| sq <| bk <| sq <| rg <| L (Sl.lav (.fr 0 5004) o50044.ver w4) rfl rfl rfl <| L (iA i2) rfl rfl rfl ?_
         obtain ⟨x4, h_x4, hF1⟩ := bind_some hF1
         refine L (.eptr (.fr 0 5004) o50044.ver (i2 : Int).toNat 0) rfl rfl (op_ix rfl (ix_lz (x := w4) (o := o50044) (n := 1) (c := c_str) rfl rfl rfl hz14_0 h_x4)) <| L (sA x4) rfl rfl (op_load rfl (ld_lz (x := w4) (o := o50044) (n := 1) (c := c_str) (sA x4) rfl rfl rfl hz14_0 h_x4 rfl)) <| L (bA (x4 == [45])) rfl rfl (op_bin rfl bin_seq) <| nl <| cd (x4 == [45]) rfl (fun hc17 => ?_) (fun hc17 => ?_)
         · replace hF1 := ite_t hF1 (seq_t hc17)
           refine rg <| L (Sl.lav (.fr 0 5004) o50044.ver w4) rfl rfl rfl <| L (iA i2) rfl rfl rfl ?_
           obtain ⟨x5, h_x5, hF1⟩ := bind_some hF1
           refine L (.eptr (.fr 0 5004) o50044.ver (i2 : Int).toNat 0) rfl rfl (op_ix rfl (ix_lz (x := w4) (o := o50044) (n := 1) (c := c_str) rfl rfl rfl hz14_0 h_x5)) ?_
           obtain ⟨w6, h_w6, hF1⟩ := bind_some hF1
           refine WO_lzset (s := 5004) (x := w4) (x' := w6) (o := o50044) (n := 1) (c := c_str) (y := x5) (y' := []) (k := 0) (w := (sA [])) _ rfl rfl rfl rfl rfl rfl rfl rfl hz14_0 h_x5 (Nat.le_of_ble_eq_true rfl) rfl h_w6 (fun o50046 hz_16 hv16 => ?_)
           rw [lav_set h_w6 hv16, ← hv16]
           exact nl <| rg <| L (iA i2) rfl rfl rfl <| L (iA (w64 (i2 + 1))) rfl rfl rfl <| L (iA (w64 (i2 + 1))) rfl rfl rfl <| nl <| Exists.intro _ (And.intro (Option.some.inj hF1).symm ((hR13  _ _).2 ⟨o50046, _, _, rfl, (And.intro rfl (And.intro rfl (And.intro rfl True.intro))), (And.intro rfl (And.intro rfl True.intro)), hz_16⟩))
         · replace hF1 := ite_f hF1 (seq_f hc17)
           exact sk <| rg <| L (iA i2) rfl rfl rfl <| L (iA (w64 (i2 + 1))) rfl rfl rfl <| L (iA (w64 (i2 + 1))) rfl rfl rfl <| nl <| Exists.intro _ (And.intro (Option.some.inj hF1).symm ((hR13  _ _).2 ⟨o50044, _, _, rfl, (And.intro rfl (And.intro rfl (And.intro rfl True.intro))), (And.intro rfl (And.intro rfl True.intro)), hz14_0⟩))
       · replace hF1 := ite_f hF1 (dec_f hc18)
         exact xt <| (hJ13 _).2 ⟨w4, o50044, _, _, rfl, (And.intro rfl (And.intro rfl True.intro)), (And.intro rfl (And.intro rfl True.intro)), hz14_0, hD1 _ (Option.some.inj hF1).symm⟩
 · rcases bool_cases (!ok_) with hc3 | hc3
   · exact L (.bool true) rfl rfl (congrArg (fun b => some (AV.bool b, _)) hc3) <| WO_no _ rfl rfl <| WO_no _ rfl rfl <| WO_no _ rfl rfl <| L (bA ((!ok_) || ((w.list.length : Int) != 7))) rfl rfl (congrArg (fun b => some (AV.bool b, _)) (by rw [hc3]; rfl)) <| nl ((hJ3 _).2 ⟨_, _, rfl, (And.intro rfl (And.intro rfl (And.intro rfl True.intro))), (And.intro rfl (And.intro rfl True.intro)), hz_1⟩)
   · exact L (.bool false) rfl rfl (congrArg (fun b => some (AV.bool b, _)) hc3) <| L (Sl.lav (.fr 0 5004) o5004.ver w) rfl rfl rfl <| L (iA (w.list.length : Int)) rfl rfl (op_len rfl rfl rfl rfl rfl (lz_len _ _ _)) <| L (bA ((w.list.length : Int) != 7)) rfl rfl rfl <| L (bA ((!ok_) || ((w.list.length : Int) != 7))) rfl rfl (congrArg (fun b => some (AV.bool b, _)) (by rw [hc3]; rfl)) <| nl ((hJ3 _).2 ⟨_, _, rfl, (And.intro rfl (And.intro rfl (And.intro rfl True.intro))), (And.intro rfl (And.intro rfl True.intro)), hz_1⟩)

theorem ok_gate_Read (text : Str) {r : ((Sl api_Record) × Int × Int)} (hF0 : gate_Read text = some r) (out : List AE.Frame) (glob : List AObj) : RdOk Tryz.prog pol false 10 [(sA text)] out glob (.tup [(Sl.av 7 c_api_Record r.1), (iA r.2.1), (iA r.2.2)]) := by
 unfold gate_Read at hF0
 refine rd_walkF Tryz.func10 rfl (Nat.not_lt.2 (Nat.le_of_ble_eq_true rfl)) <| sq <| rg <| L (Sl.av 7 c_api_Record Sl.nil) rfl rfl rfl <| L (iA 0) rfl rfl rfl <| L (iA 0) rfl rfl rfl <| nl <| sq <| sq <| rg <| L (sA text) rfl rfl rfl <| L (iA (text.length : Int)) rfl rfl rfl <| L (bA (decide ((text.length : Int) > 200000))) rfl rfl rfl <| nl <| cd (decide ((text.length : Int) > 200000)) rfl (fun hc51 => ?_) (fun hc51 => ?_)
 · replace hF0 := ite_t hF0 (dec_t hc51)
   refine sq <| rg <| L (Sl.av 7 c_api_Record Sl.nil) rfl rfl rfl <| L (iA 0) rfl rfl rfl <| L (iA 2) rfl rfl rfl <| nl <| rt ?_
   obtain rfl := Option.some.inj hF0
   exact rd_leaf (.inr rfl) rfl (ret_tup3 (retV_pl _ _ (Sl.av 7 c_api_Record Sl.nil)) (retV_pl _ _ (iA 0)) (retV_pl _ _ (iA 2))) rfl rfl
 · replace hF0 := ite_f hF0 (dec_f hc51)
   refine sk <| sq <| rg <| L (sA text) rfl rfl rfl ?_
   obtain ⟨⟨lines, ended⟩, h1, hF0⟩ := bind_some hF0
   refine WO_rd (g := 29) (args := [(sA text)]) (r := (.tup [(Sl.av 1 c_str lines), (bA ended)])) _ _ rfl rfl rfl rfl rfl rfl rfl (ok_kit_Lines _ h1 _ _ ) <| L (.tup [(Sl.av 1 c_str lines), (bA ended)]) rfl rfl rfl <| L (Sl.av 1 c_str lines) rfl rfl rfl <| L (bA ended) rfl rfl rfl <| L (Sl.av 1 c_str lines) rfl rfl rfl <| L (bA ended) rfl rfl rfl <| nl <| sq <| rg <| L (Sl.av 7 c_api_Record Sl.nil) rfl rfl rfl <| nl <| sq <| sq <| rg <| L (Sl.av 1 c_str lines) rfl rfl rfl <| L (iA (lines.list.length : Int)) rfl rfl (op_len rfl rfl rfl rfl rfl (len_sl _)) <| L (iA 0) rfl rfl rfl <| nl <| bk ?_
   obtain ⟨b1, hb35, hF0⟩ := bind_some hF0
   obtain ⟨hn35, hb35⟩ := ite_none hb35
   obtain ⟨J35, hJ35⟩ : ∃ J : St → Prop, ∀ st, J st ↔ (∃ (out_6 : (Sl api_Record)) (o50076 : AObj) (tm37 : Nat → AV) (cb37 : AE.Frame), st = ⟨tm37, ⟨cb37, out, glob⟩⟩ ∧ AllEq tm37 [(7, (Sl.lav (.fr 0 5007) o50076.ver out_6))] ∧ AllEq cb37 [(5007, o50076)] ∧ LzF 7 c_api_Record o50076 out_6 ∧ Res.out out_6 = b1) := ⟨_, fun _ => Iff.rfl⟩
   obtain ⟨R35, hR35⟩ : ∃ R : Nat → ((Sl api_Record)) → St → Prop, ∀ i v st, R i v st ↔ (match v with | out_5 => ∃ (o50075 : AObj) (tm36 : Nat → AV) (cb36 : AE.Frame), st = ⟨tm36, ⟨cb36, out, glob⟩⟩ ∧ AllEq tm36 [(5, (Sl.av 1 c_str lines)), (6, (bA ended)), (7, (Sl.lav (.fr 0 5007) o50075.ver out_5)), (21, (Sl.av 1 c_str lines)), (22, (iA (lines.list.length : Int))), (23, (iA ((i : Nat) : Int)))] ∧ AllEq cb36 [(5007, o50075)] ∧ LzF 7 c_api_Record o50075 out_5) := ⟨_, fun _ _ _ => Iff.rfl⟩
   refine W_loopcut J35 (fun st hst => ?_) ?_
   · obtain ⟨out_6, o50076, tm37, cb37, rfl, hT37, hC37, hz37_0, rfl⟩ := (hJ35 st).1 hst
     obtain ⟨tm37, rfl⟩ := allEq hT37
     obtain ⟨cb37, rfl⟩ := allEq hC37
     replace hF0 := res_out hF0
     refine sq <| sq <| rg <| WO_lzfrz (s := 5007) (n := 7) (c := c_api_Record) (x := out_6) (o := o50076) _ rfl rfl rfl rfl rfl rfl rfl (.inl hz37_0) (fun o50078 hz_48 hv48 => ?_)
     rw [← hv48]
     obtain ⟨e, h49, hF0⟩ := bind_some hF0
     refine WO_rd (g := 19) (args := [(Sl.av 7 c_api_Record out_6)]) (r := (iA e)) _ _ rfl rfl rfl rfl rfl rfl rfl (ok_gate_CheckRecords _ h49 _ _ ) <| L (iA e) rfl rfl rfl <| nl <| sq <| rg <| L (iA e) rfl rfl rfl <| L (bA (e != 0)) rfl rfl rfl <| nl <| cd (e != 0) rfl (fun hc50 => ?_) (fun hc50 => ?_)
     · replace hF0 := ite_t hF0 (bne_t hc50)
       refine sq <| rg <| L (iA e) rfl rfl rfl <| L (Sl.av 7 c_api_Record Sl.nil) rfl rfl rfl <| L (iA 0) rfl rfl rfl <| L (iA e) rfl rfl rfl <| nl <| rt ?_
       obtain rfl := Option.some.inj hF0
       exact rd_leaf (.inr rfl) rfl (ret_tup3 (retV_pl _ _ (Sl.av 7 c_api_Record Sl.nil)) (retV_pl _ _ (iA 0)) (retV_pl _ _ (iA e))) rfl rfl
     · replace hF0 := ite_f hF0 (bne_f hc50)
       refine sk <| sq <| rg <| L (Sl.lav (.fr 0 5007) o50078.ver out_6) rfl rfl rfl <| L (Sl.lav (.fr 0 5007) o50078.ver out_6) rfl rfl rfl <| L (iA 0) rfl rfl rfl <| L (iA 0) rfl rfl rfl <| nl <| rt ?_
       obtain rfl := Option.some.inj hF0
       exact rd_leaf (.inr rfl) rfl (ret_tup3 (ret_lf rfl hz_48) (retV_pl _ _ (iA 0)) (retV_pl _ _ (iA 0))) rfl rfl
   · refine W_rangeL hb35 R35 ((hR35 _ _ _).2 ⟨(⟨0, .gone⟩ : AObj), _, _, rfl, (And.intro rfl (And.intro rfl (And.intro rfl (And.intro rfl (And.intro rfl (And.intro rfl True.intro)))))), (And.intro rfl True.intro), True.intro⟩) ?_ ?_
     · intro i hi35 v st s hr hF1 hD1
       obtain ⟨out_5, hv_⟩ : ∃ z, z = v := ⟨_, rfl⟩; subst hv_
       obtain ⟨o50075, tm36, cb36, rfl, hT36, hC36, hz36_0⟩ := (hR35 _ _ _).1 hr
       obtain ⟨tm36, rfl⟩ := allEq hT36
       obtain ⟨cb36, rfl⟩ := allEq hC36
       obtain ⟨line, hx35⟩ : ∃ x, x = lines.list[i] := ⟨_, rfl⟩
       rw [← hx35] at hF1
       dsimp only [gate_Read_l0] at hF1
       refine sq (rg ?_)
       refine WO_do (y := (bA (decide (((i : Nat) : Int) < (lines.list.length : Int))))) _ rfl rfl rfl (nl ?_)
       refine sq <| cd true (congrArg some (range_lt hi35)) (fun _ => ?_) (fun h => absurd h (by decide))
       refine sk <| sq <| bk <| sq <| rg <| L (iA ((i : Nat) : Int)) rfl rfl rfl <| L (.cptr [(sA line)]) rfl rfl (op_ix rfl ((ix_at (c := c_str) rfl rfl hi35).trans (congrArg (fun x => some (AV.cptr (c_str x))) hx35.symm))) <| L (sA line) rfl rfl rfl <| L (iA ((i : Nat) : Int)) rfl rfl rfl <| L (sA line) rfl rfl rfl <| nl <| sq <| rg <| L (sA line) rfl rfl rfl ?_
       obtain ⟨⟨q03, ok_3⟩, h39, hF1⟩ := bind_some hF1
       refine WO_rd (g := 30) (args := [(sA line)]) (r := (.tup [(.agg (c_api_Record q03)), (bA ok_3)])) _ _ rfl rfl rfl rfl rfl rfl rfl (ok_gate_readRecord _ h39 _ _ ) <| L (.tup [(.agg (c_api_Record q03)), (bA ok_3)]) rfl rfl rfl <| L (.agg (c_api_Record q03)) rfl rfl rfl <| L (bA ok_3) rfl rfl rfl <| L (.ptr (.fr 0 10) ((cb36 10).ver + 1) 0) (h' := ⟨upd _ 10 ⟨(cb36 10).ver + 1, .cells (c_api_Record (api_Record.mk 0 [] [] [] [] 0 0))⟩, _, _⟩) rfl rfl (op_alloc (c_api_Record (api_Record.mk 0 [] [] [] [] 0 0)) rfl rfl rfl rfl) <| L (.tup []) (h' := ⟨upd _ 10 ⟨(cb36 10).ver + 1, .cells (c_api_Record q03)⟩, _, _⟩) rfl rfl (op_store rfl rfl (st_fr (x := (.agg (c_api_Record q03))) (cs := (c_api_Record (api_Record.mk 0 [] [] [] [] 0 0))) (c_api_Record q03) rfl rfl (Nat.le_of_ble_eq_true rfl) rfl)) <| L (bA ok_3) rfl rfl rfl <| nl <| sq <| sq <| rg <| L (bA ok_3) rfl rfl rfl <| L (bA (!ok_3)) rfl rfl rfl ?_
       obtain ⟨J42, hJ42⟩ : ∃ J : St → Prop, ∀ st, J st ↔ (∃ (tm43 : Nat → AV) (cb43 : AE.Frame), st = ⟨tm43, ⟨cb43, out, glob⟩⟩ ∧ AllEq tm43 [(5, (Sl.av 1 c_str lines)), (6, (bA ended)), (7, (Sl.lav (.fr 0 5007) o50075.ver out_5)), (8, (iA ((i : Nat) : Int))), (10, (.ptr (.fr 0 10) ((cb36 10).ver + 1) 0)), (21, (Sl.av 1 c_str lines)), (22, (iA (lines.list.length : Int))), (23, (iA ((i : Nat) : Int))), (45, (bA ((!ok_3) || ((!ended) && (((i : Nat) : Int) == (w64 ((lines.list.length : Int) - 1)))))))] ∧ AllEq cb43 [(10, ⟨(cb36 10).ver + 1, .cells (c_api_Record q03)⟩), (5007, o50075)] ∧ LzF 7 c_api_Record o50075 out_5) := ⟨_, fun _ => Iff.rfl⟩
       refine WO_cut 11 J42 (fun st hst => ?_) ?_
       · obtain ⟨tm43, cb43, rfl, hT43, hC43, hz43_0⟩ := (hJ42 st).1 hst
         obtain ⟨tm43, rfl⟩ := allEq hT43
         obtain ⟨cb43, rfl⟩ := allEq hC43
         refine nl <| cd ((!ok_3) || ((!ended) && (((i : Nat) : Int) == (w64 ((lines.list.length : Int) - 1))))) rfl (fun hc45 => ?_) (fun hc45 => ?_)
         · replace hF1 := ite_t hF1 (hc45)
           refine sq <| rg <| L (iA ((i : Nat) : Int)) rfl rfl rfl <| L (Sl.av 7 c_api_Record Sl.nil) rfl rfl rfl <| L (iA ((i : Nat) : Int)) rfl rfl rfl <| L (iA 9) rfl rfl rfl <| nl <| rt ?_
           obtain rfl := hD1 _ (Option.some.inj hF1).symm
           replace hF0 := res_ret hF0
           obtain rfl := Option.some.inj hF0
           exact rd_leaf (.inr rfl) rfl (ret_tup3 (retV_pl _ _ (Sl.av 7 c_api_Record Sl.nil)) (retV_pl _ _ (iA ((i : Nat) : Int))) (retV_pl _ _ (iA 9))) rfl rfl
         · replace hF1 := ite_f hF1 (not_t hc45)
           refine sk <| rg <| L (Sl.lav (.fr 0 5007) o50075.ver out_5) rfl rfl rfl <| L (.agg (c_api_Record q03)) rfl rfl (op_load rfl (ld_con (.agg (c_api_Record q03)) rfl rfl (cs := (c_api_Record q03)) (con_fr rfl) rfl)) <| L (Sl.av 7 c_api_Record (Sl.full [q03] : Sl api_Record)) rfl rfl (op_sliceN rfl rfl rfl) ?_
           obtain ⟨out_7, h_out_7, hF1⟩ := bind_some hF1
           refine WO_lzapp (s := 5007) (x := out_5) (x' := out_7) (o := o50075) (n := 7) (c := c_api_Record) (xs := [q03]) (y := (Sl.av 7 c_api_Record (Sl.full [q03] : Sl api_Record))) _ rfl rfl rfl rfl rfl rfl rfl rfl rfl rfl rfl rfl (z := (c_api_Record (api_Record.mk 0 [] [] [] [] 0 0))) rfl rfl rfl rfl rfl (by decide) (fun _ => rfl) rfl rfl rfl hz43_0 h_out_7 (fun o50077 hz_44 => ?_)
           exact L (Sl.lav (.fr 0 5007) o50077.ver out_7) rfl rfl rfl <| nl <| rg <| WO_do (y := (iA ((i + 1 : Nat) : Int))) _ rfl rfl (congrArg (fun n => some (AV.int .i64 n, _)) (range_len hi35 hn35)) <| WO_do (y := (iA ((i + 1 : Nat) : Int))) _ rfl rfl rfl <| nl <| Exists.intro _ (And.intro (Option.some.inj hF1).symm ((hR35 _ _ _).2 ⟨o50077, _, _, rfl, (And.intro rfl (And.intro rfl (And.intro rfl (And.intro rfl (And.intro rfl (And.intro rfl True.intro)))))), (And.intro rfl True.intro), hz_44⟩))
       · rcases bool_cases (!ok_3) with hc42 | hc42
         · exact L (.bool true) rfl rfl (congrArg (fun b => some (AV.bool b, _)) hc42) <| WO_no _ rfl rfl <| WO_no _ rfl rfl <| WO_no _ rfl rfl <| WO_no _ rfl rfl <| WO_no _ rfl rfl <| WO_no _ rfl rfl <| WO_no _ rfl rfl <| WO_no _ rfl rfl <| WO_no _ rfl rfl <| L (bA ((!ok_3) || ((!ended) && (((i : Nat) : Int) == (w64 ((lines.list.length : Int) - 1)))))) rfl rfl (congrArg (fun b => some (AV.bool b, _)) (by rw [hc42]; rfl)) <| nl ((hJ42 _).2 ⟨_, _, rfl, (And.intro rfl (And.intro rfl (And.intro rfl (And.intro rfl (And.intro rfl (And.intro rfl (And.intro rfl (And.intro rfl (And.intro rfl True.intro))))))))), (And.intro rfl (And.intro rfl True.intro)), hz36_0⟩)
         · refine L (.bool false) rfl rfl (congrArg (fun b => some (AV.bool b, _)) hc42) <| L (bA ended) rfl rfl rfl <| L (bA (!ended)) rfl rfl rfl ?_
           obtain ⟨J46, hJ46⟩ : ∃ J : St → Prop, ∀ st, J st ↔ (∃ (tm47 : Nat → AV) (cb47 : AE.Frame), st = ⟨tm47, ⟨cb47, out, glob⟩⟩ ∧ AllEq tm47 [(5, (Sl.av 1 c_str lines)), (6, (bA ended)), (7, (Sl.lav (.fr 0 5007) o50075.ver out_5)), (8, (iA ((i : Nat) : Int))), (10, (.ptr (.fr 0 10) ((cb36 10).ver + 1) 0)), (21, (Sl.av 1 c_str lines)), (22, (iA (lines.list.length : Int))), (23, (iA ((i : Nat) : Int))), (35, (bA false)), (36, (bA ended)), (37, (bA (!ended))), (44, (bA ((!ended) && (((i : Nat) : Int) == (w64 ((lines.list.length : Int) - 1))))))] ∧ AllEq cb47 [(10, ⟨(cb36 10).ver + 1, .cells (c_api_Record q03)⟩), (5007, o50075)] ∧ LzF 7 c_api_Record o50075 out_5) := ⟨_, fun _ => Iff.rfl⟩
           refine WO_cut 7 J46 (fun st hst => ?_) ?_
           · obtain ⟨tm47, cb47, rfl, hT47, hC47, hz47_0⟩ := (hJ46 st).1 hst
             obtain ⟨tm47, rfl⟩ := allEq hT47
             obtain ⟨cb47, rfl⟩ := allEq hC47
             exact L (bA ((!ok_3) || ((!ended) && (((i : Nat) : Int) == (w64 ((lines.list.length : Int) - 1)))))) rfl rfl (congrArg (fun b => some (AV.bool b, _)) (by rw [hc42]; rfl)) <| nl ((hJ42 _).2 ⟨_, _, rfl, (And.intro rfl (And.intro rfl (And.intro rfl (And.intro rfl (And.intro rfl (And.intro rfl (And.intro rfl (And.intro rfl (And.intro rfl True.intro))))))))), (And.intro rfl (And.intro rfl True.intro)), hz47_0⟩)
           · rcases bool_cases (!ended) with hc46 | hc46
             · exact L (.bool true) rfl rfl (congrArg (fun b => some (AV.bool b, _)) hc46) <| L (iA ((i : Nat) : Int)) rfl rfl rfl <| L (Sl.av 1 c_str lines) rfl rfl rfl <| L (iA (lines.list.length : Int)) rfl rfl (op_len rfl rfl rfl rfl rfl (len_sl _)) <| L (iA (w64 ((lines.list.length : Int) - 1))) rfl rfl rfl <| L (bA (((i : Nat) : Int) == (w64 ((lines.list.length : Int) - 1)))) rfl rfl rfl <| L (bA ((!ended) && (((i : Nat) : Int) == (w64 ((lines.list.length : Int) - 1))))) rfl rfl (congrArg (fun b => some (AV.bool b, _)) (by rw [hc46]; rfl)) <| nl ((hJ46 _).2 ⟨_, _, rfl, (And.intro rfl (And.intro rfl (And.intro rfl (And.intro rfl (And.intro rfl (And.intro rfl (And.intro rfl (And.intro rfl (And.intro rfl (And.intro rfl (And.intro rfl (And.intro rfl True.intro)))))))))))), (And.intro rfl (And.intro rfl True.intro)), hz36_0⟩)
             · exact L (.bool false) rfl rfl (congrArg (fun b => some (AV.bool b, _)) hc46) <| WO_no _ rfl rfl <| WO_no _ rfl rfl <| WO_no _ rfl rfl <| WO_no _ rfl rfl <| WO_no _ rfl rfl <| L (bA ((!ended) && (((i : Nat) : Int) == (w64 ((lines.list.length : Int) - 1))))) rfl rfl (congrArg (fun b => some (AV.bool b, _)) (by rw [hc46]; rfl)) <| nl ((hJ46 _).2 ⟨_, _, rfl, (And.intro rfl (And.intro rfl (And.intro rfl (And.intro rfl (And.intro rfl (And.intro rfl (And.intro rfl (And.intro rfl (And.intro rfl (And.intro rfl (And.intro rfl (And.intro rfl True.intro)))))))))))), (And.intro rfl (And.intro rfl True.intro)), hz36_0⟩)
     · intro v st hr hD1
       obtain ⟨out_5, hv_⟩ : ∃ z, z = v := ⟨_, rfl⟩; subst hv_
       obtain ⟨o50075, tm36, cb36, rfl, hT36, hC36, hz36_0⟩ := (hR35 _ _ _).1 hr
       obtain ⟨tm36, rfl⟩ := allEq hT36
       obtain ⟨cb36, rfl⟩ := allEq hC36
       refine sq (rg ?_)
       refine WO_do (y := .bool false) _ rfl rfl (congrArg (fun b => some (AV.bool b, _)) (range_ge _)) (nl ?_)
       refine sq <| cd false rfl (fun h => absurd h (by decide)) (fun _ => ?_)
       exact xt <| (hJ35 _).2 ⟨out_5, o50075, _, _, rfl, (And.intro rfl True.intro), (And.intro rfl True.intro), hz36_0, hD1⟩

theorem ok_gateref2_Number (s_ : Str) (most : Int) {r : (Int × Bool)} (hF0 : gateref2_Number s_ most = some r) (out : List AE.Frame) (glob : List AObj) : RdOk Tryz.prog pol true 35 [(sA s_), (iA most)] out glob (.tup [(iA r.1), (bA r.2)]) := by
 unfold gateref2_Number at hF0
 refine rd_walk Tryz.func35 rfl (Nat.not_lt.2 (Nat.le_of_ble_eq_true rfl)) ?_
 intro ro
 refine sq <| rg <| L (iA 0) rfl rfl rfl <| L (bA false) rfl rfl rfl <| nl <| sq <| rg <| L (sA s_) rfl rfl rfl ?_
 obtain ⟨t, h1, hF0⟩ := bind_some hF0
 refine WO_rd (g := 52) (args := [(sA s_), (sA [45])]) (r := (sA t)) _ _ rfl rfl rfl rfl rfl rfl rfl (ok_strings_TrimPrefix _ _ h1 _ _ ) <| L (sA t) rfl rfl rfl <| nl <| sq <| sq <| rg <| L (sA t) rfl rfl rfl <| L (bA (t == [])) rfl rfl (op_bin rfl bin_seq) ?_
 obtain ⟨J2, hJ2⟩ : ∃ J : St → Prop, ∀ st, J st ↔ (∃ (tm3 : Nat → AV) (cb3 : AE.Frame), st = ⟨tm3, ⟨cb3, out, glob⟩⟩ ∧ AllEq tm3 [(0, (sA s_)), (6, (sA t)), (18, (bA ((t == []) || (decide ((t.length : Int) > most)))))] ∧ AllEq cb3 []) := ⟨_, fun _ => Iff.rfl⟩
 refine WO_cut 6 J2 (fun st hst => ?_) ?_
 · obtain ⟨tm3, cb3, rfl, hT3, hC3⟩ := (hJ2 st).1 hst
   obtain ⟨tm3, rfl⟩ := allEq hT3
   obtain ⟨cb3, rfl⟩ := allEq hC3
   obtain ⟨y5, hF1, hF0⟩ := bind_some hF0
   obtain ⟨J5, hJ5⟩ : ∃ J : St → Prop, ∀ st, J st ↔ (∃ (t23 : Bool) (tm6 : Nat → AV) (cb6 : AE.Frame), st = ⟨tm6, ⟨cb6, out, glob⟩⟩ ∧ AllEq tm6 [(0, (sA s_)), (23, (bA t23))] ∧ AllEq cb6 [] ∧ t23 = y5) := ⟨_, fun _ => Iff.rfl⟩
   refine WO_cut 5 J5 (fun st hst => ?_) ?_
   · obtain ⟨t23, tm6, cb6, rfl, hT6, hC6, rfl⟩ := (hJ5 st).1 hst
     obtain ⟨tm6, rfl⟩ := allEq hT6
     obtain ⟨cb6, rfl⟩ := allEq hC6
     refine nl <| cd t23 rfl (fun hc9 => ?_) (fun hc9 => ?_)
     · replace hF0 := ite_t hF0 (hc9)
       refine sq <| rg <| L (iA 0) rfl rfl rfl <| L (bA false) rfl rfl rfl <| nl <| rt ?_
       obtain rfl := Option.some.inj hF0
       exact rd_leaf (.inr rfl) rfl (ret_tup2 (retV_pl _ _ (iA 0)) (retV_pl _ _ (bA false))) rfl rfl
     · replace hF0 := ite_f hF0 (not_t hc9)
       refine sk <| sq <| rg <| L (sA s_) rfl rfl rfl ?_
       obtain ⟨r26, h_r26, hF0⟩ := bind_some hF0
       refine L (.tup [(iA r26), .nili]) rfl rfl (op_lib _ rfl rfl rfl (x_atoi_eq h_r26)) <| L (.tup [(iA r26), .nili]) rfl rfl rfl <| L (iA r26) rfl rfl rfl <| L .nili rfl rfl rfl <| L (iA r26) rfl rfl rfl <| L .nili rfl rfl rfl <| nl <| sq <| rg <| L (iA r26) rfl rfl rfl <| L .nili rfl rfl rfl <| L (bA true) rfl rfl (op_bin rfl rfl) ?_
       obtain ⟨y7, hF1, hF0⟩ := bind_some hF0
       obtain ⟨J7, hJ7⟩ : ∃ J : St → Prop, ∀ st, J st ↔ (∃ (t37 : Bool) (tm8 : Nat → AV) (cb8 : AE.Frame), st = ⟨tm8, ⟨cb8, out, glob⟩⟩ ∧ AllEq tm8 [(29, (iA r26)), (37, (bA t37))] ∧ AllEq cb8 [] ∧ t37 = y7) := ⟨_, fun _ => Iff.rfl⟩
       refine WO_cut 6 J7 (fun st hst => ?_) ?_
       · obtain ⟨t37, tm8, cb8, rfl, hT8, hC8, rfl⟩ := (hJ7 st).1 hst
         obtain ⟨tm8, rfl⟩ := allEq hT8
         obtain ⟨cb8, rfl⟩ := allEq hC8
         refine L (iA r26) rfl rfl rfl <| L (bA t37) rfl rfl rfl <| nl <| rt ?_
         obtain rfl := Option.some.inj hF0
         exact rd_leaf (.inr rfl) rfl (ret_tup2 (retV_pl _ _ (iA r26)) (retV_pl _ _ (bA t37))) rfl rfl
       · rcases bool_cases true with hc7 | hc7
         · replace hF1 := ite_t hF1 (hc7)
           refine L (.bool true) rfl rfl (congrArg (fun b => some (AV.bool b, _)) hc7) <| L (iA r26) rfl rfl rfl ?_
           obtain ⟨r341, h_r341, hF1⟩ := bind_some hF1
           exact L (sA r341) rfl rfl (op_lib _ rfl rfl rfl (x_itoa_eq h_r341)) <| L (sA s_) rfl rfl rfl <| L (bA (r341 == s_)) rfl rfl (op_bin rfl bin_seq) <| L (bA (r341 == s_)) rfl rfl rfl <| nl ((hJ7 _).2 ⟨r341 == s_, _, _, rfl, (And.intro rfl (And.intro rfl True.intro)), True.intro, Option.some.inj hF1⟩)
         · replace hF1 := ite_f hF1 (not_t hc7)
           exact L (.bool false) rfl rfl (congrArg (fun b => some (AV.bool b, _)) hc7) <| WO_no _ rfl rfl <| WO_no _ rfl rfl <| WO_no _ rfl rfl <| WO_no _ rfl rfl <| L (bA false) rfl rfl rfl <| nl ((hJ7 _).2 ⟨false, _, _, rfl, (And.intro rfl (And.intro rfl True.intro)), True.intro, Option.some.inj hF1⟩)
   · rcases bool_cases ((t == []) || (decide ((t.length : Int) > most))) with hc5 | hc5
     · replace hF1 := ite_t hF1 (hc5)
       exact L (.bool true) rfl rfl (congrArg (fun b => some (AV.bool b, _)) hc5) <| WO_no _ rfl rfl <| WO_no _ rfl rfl <| WO_no _ rfl rfl <| L (bA true) rfl rfl rfl <| nl ((hJ5 _).2 ⟨true, _, _, rfl, (And.intro rfl (And.intro rfl True.intro)), True.intro, Option.some.inj hF1⟩)
     · replace hF1 := ite_f hF1 (not_t hc5)
       refine L (.bool false) rfl rfl (congrArg (fun b => some (AV.bool b, _)) hc5) <| L (sA t) rfl rfl rfl ?_
       obtain ⟨r211, h10, hF1⟩ := bind_some hF1
       exact WO_rd (g := 45) (args := [(sA t), (sA [48, 49, 50, 51, 52, 53, 54, 55, 56, 57])]) (r := (bA r211)) _ _ rfl rfl rfl rfl rfl rfl rfl (ok_gateref2_only _ _ h10 _ _ ) <| L (bA (!r211)) rfl rfl rfl <| L (bA (!r211)) rfl rfl rfl <| nl ((hJ5 _).2 ⟨!r211, _, _, rfl, (And.intro rfl (And.intro rfl True.intro)), True.intro, Option.some.inj hF1⟩)
 · rcases bool_cases (t == []) with hc2 | hc2
   · exact L (.bool true) rfl rfl (congrArg (fun b => some (AV.bool b, _)) hc2) <| WO_no _ rfl rfl <| WO_no _ rfl rfl <| WO_no _ rfl rfl <| WO_no _ rfl rfl <| L (bA ((t == []) || (decide ((t.length : Int) > most)))) rfl rfl (congrArg (fun b => some (AV.bool b, _)) (by rw [hc2]; rfl)) <| nl ((hJ2 _).2 ⟨_, _, rfl, (And.intro rfl (And.intro rfl (And.intro rfl True.intro))), True.intro⟩)
   · exact L (.bool false) rfl rfl (congrArg (fun b => some (AV.bool b, _)) hc2) <| L (sA t) rfl rfl rfl <| L (iA (t.length : Int)) rfl rfl rfl <| L (iA most) rfl rfl rfl <| L (bA (decide ((t.length : Int) > most))) rfl rfl rfl <| L (bA ((t == []) || (decide ((t.length : Int) > most)))) rfl rfl (congrArg (fun b => some (AV.bool b, _)) (by rw [hc2]; rfl)) <| nl ((hJ2 _).2 ⟨_, _, rfl, (And.intro rfl (And.intro rfl (And.intro rfl True.intro))), True.intro⟩)

theorem ok_gateref1_RecordsRead_1 (line : Str) (cap1 : (Ar api_Record)) {r : (Bool × (Ar api_Record))} (hF0 : gateref1_RecordsRead_1 line cap1 = some r) : MutA Tryz.prog pol 32 (fun p => [(sA line), p]) 0 (some 39) (fun sl u => [(rf sl u cap1.list.length)]) (Ar.con 7 c_api_Record cap1) (bA r.1) (fun sl u => [(rf sl u r.2.list.length)]) (Ar.con 7 c_api_Record r.2) := by
 unfold gateref1_RecordsRead_1 at hF0
 refine mutA_walk Tryz.func32 rfl (fun _ => Nat.not_lt.2 (Nat.le_of_ble_eq_true rfl)) ?_
 intro out glob d1 w1 e1 sl1 u1 hh1 hsub1 hbt1 hk_1 hka_1
 refine sq <| rg <| L (bA false) rfl rfl rfl <| nl <| sq <| rg <| L (sA line) rfl rfl rfl ?_
 obtain ⟨w, h_w, hF0⟩ := bind_some hF0
 refine WO_splitH (s := line) (t := [32]) (y := w) _ _ rfl rfl rfl rfl rfl rfl rfl rfl rfl h_w (fun o900000 hz_1 => ?_)
 refine L (Sl.lav (.fr 0 900000) o900000.ver w) rfl rfl rfl <| nl <| sq <| sq <| rg <| L (Sl.lav (.fr 0 900000) o900000.ver w) rfl rfl rfl <| L (iA (w.list.length : Int)) rfl rfl (op_len rfl rfl rfl rfl rfl (lz_len _ _ _)) <| L (bA ((w.list.length : Int) != 7)) rfl rfl rfl ?_
 obtain ⟨y3, hF1, hF0⟩ := bind_some hF0
 obtain ⟨J3, hJ3⟩ : ∃ J : St → Prop, ∀ st, J st ↔ (∃ (t18 : Bool) (tm4 : Nat → AV) (cb4 : AE.Frame) (out4 : List AE.Frame) (glob4 : List AObj), st = ⟨tm4, ⟨cb4, out4, glob4⟩⟩ ∧ AllEq tm4 [(1, (.ptr d1 w1 0)), (4, (Sl.lav (.fr 0 900000) o900000.ver w)), (18, (bA t18))] ∧ AllEq cb4 [(900000, o900000)] ∧ LzF 1 c_str o900000 w ∧ con2 out4 glob4 d1 w1 = .cells [(rf sl1 u1 cap1.list.length)] ∧ con2 out4 glob4 e1 u1 = (Ar.con 7 c_api_Record cap1) ∧ Same2 d1 e1 out glob out4 glob4 ∧ t18 = y3) := ⟨_, fun _ => Iff.rfl⟩
 refine WO_cut 4 J3 (fun st hst => ?_) ?_
 · obtain ⟨t18, tm4, cb4, out4, glob4, rfl, hT4, hC4, hz4_0, hk4, hka4, hs4, rfl⟩ := (hJ3 st).1 hst
   obtain ⟨tm4, rfl⟩ := allEq hT4
   obtain ⟨cb4, rfl⟩ := allEq hC4
   refine nl <| cd t18 rfl (fun hc35 => ?_) (fun hc35 => ?_)
   · replace hF0 := ite_t hF0 (hc35)
     refine sq <| rg <| L (bA false) rfl rfl rfl <| nl <| rt ?_
     obtain rfl := Option.some.inj hF0
     exact mutA_leaf (.inr rfl) rfl (retV_pl _ _ (bA false)) hk4 hka4 hs4
   · replace hF0 := ite_f hF0 (not_t hc35)
     refine sk <| sq <| rg <| L (.ptr (.fr 0 5) ((cb4 5).ver + 1) 0) (h' := ⟨upd _ 5 ⟨(cb4 5).ver + 1, .cells (List.map iA [0, 0, 0])⟩, _, _⟩) rfl rfl (op_alloc (List.map iA [0, 0, 0]) rfl rfl rfl rfl) <| nl <| sq <| sq <| rg <| L (Sl.av 1 c_i64 (Sl.full [0, 5, 6] : Sl Int)) rfl rfl (op_sliceN rfl rfl rfl) <| L (iA ((Sl.full [0, 5, 6] : Sl Int).list.length : Int)) rfl rfl (op_len rfl rfl rfl rfl rfl rfl) <| L (iA 0) rfl rfl rfl <| nl <| bk ?_
     obtain ⟨b1, hb13, hF0⟩ := bind_some hF0
     obtain ⟨hn13, hb13⟩ := ite_none hb13
     obtain ⟨J13, hJ13⟩ : ∃ J : St → Prop, ∀ st, J st ↔ (∃ (n4 : (List Int)) (tm15 : Nat → AV) (cb15 : AE.Frame) (out15 : List AE.Frame) (glob15 : List AObj), st = ⟨tm15, ⟨cb15, out15, glob15⟩⟩ ∧ AllEq tm15 [(1, (.ptr d1 w1 0)), (4, (Sl.lav (.fr 0 900000) o900000.ver w)), (5, (.ptr (.fr 0 5) ((cb4 5).ver + 1) 0))] ∧ AllEq cb15 [(5, ⟨(cb4 5).ver + 1, .cells (List.map iA n4)⟩), (900000, o900000)] ∧ LzF 1 c_str o900000 w ∧ con2 out15 glob15 d1 w1 = .cells [(rf sl1 u1 cap1.list.length)] ∧ con2 out15 glob15 e1 u1 = (Ar.con 7 c_api_Record cap1) ∧ Same2 d1 e1 out glob out15 glob15 ∧ Res.out n4 = b1) := ⟨_, fun _ => Iff.rfl⟩
     obtain ⟨R13, hR13⟩ : ∃ R : Nat → ((List Int)) → St → Prop, ∀ i v st, R i v st ↔ (match v with | n3 => ∃ (tm14 : Nat → AV) (cb14 : AE.Frame) (out14 : List AE.Frame) (glob14 : List AObj), st = ⟨tm14, ⟨cb14, out14, glob14⟩⟩ ∧ AllEq tm14 [(1, (.ptr d1 w1 0)), (4, (Sl.lav (.fr 0 900000) o900000.ver w)), (5, (.ptr (.fr 0 5) ((cb4 5).ver + 1) 0)), (19, (Sl.av 1 c_i64 (Sl.full [0, 5, 6] : Sl Int))), (20, (iA ((Sl.full [0, 5, 6] : Sl Int).list.length : Int))), (21, (iA ((i : Nat) : Int)))] ∧ AllEq cb14 [(5, ⟨(cb4 5).ver + 1, .cells (List.map iA n3)⟩), (900000, o900000)] ∧ LzF 1 c_str o900000 w ∧ con2 out14 glob14 d1 w1 = .cells [(rf sl1 u1 cap1.list.length)] ∧ con2 out14 glob14 e1 u1 = (Ar.con 7 c_api_Record cap1) ∧ Same2 d1 e1 out glob out14 glob14) := ⟨_, fun _ _ _ => Iff.rfl⟩
     refine W_loopcut J13 (fun st hst => ?_) ?_
     · obtain ⟨n4, tm15, cb15, out15, glob15, rfl, hT15, hC15, hz15_0, hk15, hka15, hs15, rfl⟩ := (hJ13 st).1 hst
       obtain ⟨tm15, rfl⟩ := allEq hT15
       obtain ⟨cb15, rfl⟩ := allEq hC15
       replace hF0 := res_out hF0
       refine sq <| sq <| rg <| L (Sl.lav (.fr 0 900000) o900000.ver w) rfl rfl rfl <| L (iA (w.list.length : Int)) rfl rfl (op_len rfl rfl rfl rfl rfl (lz_len _ _ _)) <| L (iA 0) rfl rfl rfl <| nl <| bk ?_
       obtain ⟨b1, hb27, hF0⟩ := bind_some hF0
       obtain ⟨hn27, hb27⟩ := ite_none hb27
       obtain ⟨J27, hJ27⟩ : ∃ J : St → Prop, ∀ st, J st ↔ (∃ (w5 : (Sl Str)) (o9000005 : AObj) (tm29 : Nat → AV) (cb29 : AE.Frame) (out29 : List AE.Frame) (glob29 : List AObj), st = ⟨tm29, ⟨cb29, out29, glob29⟩⟩ ∧ AllEq tm29 [(1, (.ptr d1 w1 0)), (4, (Sl.lav (.fr 0 900000) o9000005.ver w5)), (5, (.ptr (.fr 0 5) ((cb4 5).ver + 1) 0))] ∧ AllEq cb29 [(5, ⟨(cb4 5).ver + 1, .cells (List.map iA n4)⟩), (900000, o9000005)] ∧ LzF 1 c_str o9000005 w5 ∧ con2 out29 glob29 d1 w1 = .cells [(rf sl1 u1 cap1.list.length)] ∧ con2 out29 glob29 e1 u1 = (Ar.con 7 c_api_Record cap1) ∧ Same2 d1 e1 out glob out29 glob29 ∧ w5 = b1) := ⟨_, fun _ => Iff.rfl⟩
       obtain ⟨R27, hR27⟩ : ∃ R : Nat → ((Sl Str)) → St → Prop, ∀ i1 v st, R i1 v st ↔ (match v with | w4 => ∃ (o9000004 : AObj) (tm28 : Nat → AV) (cb28 : AE.Frame) (out28 : List AE.Frame) (glob28 : List AObj), st = ⟨tm28, ⟨cb28, out28, glob28⟩⟩ ∧ AllEq tm28 [(1, (.ptr d1 w1 0)), (4, (Sl.lav (.fr 0 900000) o9000004.ver w4)), (5, (.ptr (.fr 0 5) ((cb4 5).ver + 1) 0)), (40, (iA (w.list.length : Int))), (41, (iA ((i1 : Nat) : Int)))] ∧ AllEq cb28 [(5, ⟨(cb4 5).ver + 1, .cells (List.map iA n4)⟩), (900000, o9000004)] ∧ LzF 1 c_str o9000004 w4 ∧ con2 out28 glob28 d1 w1 = .cells [(rf sl1 u1 cap1.list.length)] ∧ con2 out28 glob28 e1 u1 = (Ar.con 7 c_api_Record cap1) ∧ Same2 d1 e1 out glob out28 glob28) := ⟨_, fun _ _ _ => Iff.rfl⟩
       refine W_loopcut J27 (fun st hst => ?_) ?_
       · obtain ⟨w5, o9000005, tm29, cb29, out29, glob29, rfl, hT29, hC29, hz29_0, hk29, hka29, hs29, rfl⟩ := (hJ27 st).1 hst
         obtain ⟨tm29, rfl⟩ := allEq hT29
         obtain ⟨cb29, rfl⟩ := allEq hC29
         refine sq <| dw (by kernel_rfl) <| L (rf e1 u1 cap1.list.length) rfl rfl (op_load rfl (ld_pa (cs := [(rf sl1 u1 cap1.list.length)]) hsub1 rfl rfl ((con_con2 _ _ _ _ _ hh1).trans hk29) rfl)) ?_
         obtain ⟨j3, h_j3, hF0⟩ := bind_some hF0
         refine L (.ptr (.fr 0 5) ((cb4 5).ver + 1) j3) rfl rfl (op_ix rfl (ix_ary rfl rfl rfl rfl h_j3)) ?_
         obtain ⟨r55, h_r55, hF0⟩ := bind_some hF0
         refine L (iA r55) rfl rfl (op_load rfl (ld_ary (l := n4) rfl rfl rfl (con_fr rfl) h_r55)) <| L (Sl.lav (.fr 0 900000) o9000005.ver w5) rfl rfl rfl ?_
         obtain ⟨x11, h_x11, hF0⟩ := bind_some hF0
         refine L (.eptr (.fr 0 900000) o9000005.ver (1 : Int).toNat 0) rfl rfl (op_ix rfl (ix_lz (x := w5) (o := o9000005) (n := 1) (c := c_str) rfl rfl rfl hz29_0 h_x11)) <| L (sA x11) rfl rfl (op_load rfl (ld_lz (x := w5) (o := o9000005) (n := 1) (c := c_str) (sA x11) rfl rfl rfl hz29_0 h_x11 rfl)) <| L (Sl.lav (.fr 0 900000) o9000005.ver w5) rfl rfl rfl ?_
         obtain ⟨x12, h_x12, hF0⟩ := bind_some hF0
         refine L (.eptr (.fr 0 900000) o9000005.ver (2 : Int).toNat 0) rfl rfl (op_ix rfl (ix_lz (x := w5) (o := o9000005) (n := 1) (c := c_str) rfl rfl rfl hz29_0 h_x12)) <| L (sA x12) rfl rfl (op_load rfl (ld_lz (x := w5) (o := o9000005) (n := 1) (c := c_str) (sA x12) rfl rfl rfl hz29_0 h_x12 rfl)) <| L (Sl.lav (.fr 0 900000) o9000005.ver w5) rfl rfl rfl ?_
         obtain ⟨x13, h_x13, hF0⟩ := bind_some hF0
         refine L (.eptr (.fr 0 900000) o9000005.ver (3 : Int).toNat 0) rfl rfl (op_ix rfl (ix_lz (x := w5) (o := o9000005) (n := 1) (c := c_str) rfl rfl rfl hz29_0 h_x13)) <| L (sA x13) rfl rfl (op_load rfl (ld_lz (x := w5) (o := o9000005) (n := 1) (c := c_str) (sA x13) rfl rfl rfl hz29_0 h_x13 rfl)) <| L (Sl.lav (.fr 0 900000) o9000005.ver w5) rfl rfl rfl ?_
         obtain ⟨x14, h_x14, hF0⟩ := bind_some hF0
         refine L (.eptr (.fr 0 900000) o9000005.ver (4 : Int).toNat 0) rfl rfl (op_ix rfl (ix_lz (x := w5) (o := o9000005) (n := 1) (c := c_str) rfl rfl rfl hz29_0 h_x14)) <| L (sA x14) rfl rfl (op_load rfl (ld_lz (x := w5) (o := o9000005) (n := 1) (c := c_str) (sA x14) rfl rfl rfl hz29_0 h_x14 rfl)) ?_
         obtain ⟨j4, h_j4, hF0⟩ := bind_some hF0
         refine L (.ptr (.fr 0 5) ((cb4 5).ver + 1) j4) rfl rfl (op_ix rfl (ix_ary rfl rfl rfl rfl h_j4)) ?_
         obtain ⟨r69, h_r69, hF0⟩ := bind_some hF0
         refine L (iA r69) rfl rfl (op_load rfl (ld_ary (l := n4) rfl rfl rfl (con_fr rfl) h_r69)) ?_
         obtain ⟨j5, h_j5, hF0⟩ := bind_some hF0
         refine L (.ptr (.fr 0 5) ((cb4 5).ver + 1) j5) rfl rfl (op_ix rfl (ix_ary rfl rfl rfl rfl h_j5)) ?_
         obtain ⟨r71, h_r71, hF0⟩ := bind_some hF0
         refine L (iA r71) rfl rfl (op_load rfl (ld_ary (l := n4) rfl rfl rfl (con_fr rfl) h_r71)) <| L (.agg (c_api_Record (api_Record.mk r55 x11 x12 x13 x14 r69 r71))) rfl rfl (op_build rfl (build_st (cs := (c_api_Record (api_Record.mk r55 x11 x12 x13 x14 r69 r71))) rfl rfl rfl (fill_cons (x := (iA r55)) rfl rfl (Nat.le_of_ble_eq_true rfl) (fill_cons (x := (sA x11)) rfl rfl (Nat.le_of_ble_eq_true rfl) (fill_cons (x := (sA x12)) rfl rfl (Nat.le_of_ble_eq_true rfl) (fill_cons (x := (sA x13)) rfl rfl (Nat.le_of_ble_eq_true rfl) (fill_cons (x := (sA x14)) rfl rfl (Nat.le_of_ble_eq_true rfl) (fill_cons (x := (iA r69)) rfl rfl (Nat.le_of_ble_eq_true rfl) (fill_cons (x := (iA r71)) rfl rfl (Nat.le_of_ble_eq_true rfl) (fill_nil)))))))))) <| L (Sl.av 7 c_api_Record (Sl.full [(api_Record.mk r55 x11 x12 x13 x14 r69 r71)] : Sl api_Record)) rfl rfl (op_sliceN rfl rfl rfl) ?_
         obtain ⟨buf, h_buf, hF0⟩ := bind_some hF0
         refine WO_arappP (cc := e1) (u := u1) (a := cap1) (a' := buf) (n := 7) (c := c_api_Record) (xs := [(api_Record.mk r55 x11 x12 x13 x14 r69 r71)]) (y := (Sl.av 7 c_api_Record (Sl.full [(api_Record.mk r55 x11 x12 x13 x14 r69 r71)] : Sl api_Record))) _ rfl rfl rfl rfl rfl rfl (by kernel_rfl) rfl rfl rfl (z := (c_api_Record (api_Record.mk 0 [] [] [] [] 0 0))) rfl rfl rfl rfl rfl (by decide) (fun _ => rfl) rfl hbt1 rfl hsub1.eh rfl hka29 rfl h_buf (fun out33 glob33 hka33 hq33 => ?_)
         have hk33 := hq33.con hsub1.ne hh1 hk29
         have hs33 := hs29.ofR hq33
         refine WO_stPA (cs := [(rf sl1 u1 cap1.list.length)]) (cs' := [(rf sl1 (u1 + 1) buf.list.length)]) (off := 0) (dd := d1) (v := w1) _ rfl rfl rfl (by kernel_rfl) rfl rfl rfl rfl hh1 hsub1 hk33 (Nat.le_of_ble_eq_true rfl) rfl (fun out34 glob34 hk34 hq34 => ?_)
         have hka34 := hq34.con hsub1.ne.symm hsub1.eh hka33
         have hs34 := hs33.ofL hq34
         refine nl <| sq <| rg <| L (bA true) rfl rfl rfl <| nl <| rt ?_
         obtain rfl := Option.some.inj hF0
         exact mutA_leaf (.inr rfl) rfl (retV_pl _ _ (bA true)) hk34 hka34 hs34
       · refine W_rangeL hb27 R27 ((hR27 _ _ _).2 ⟨o900000, _, _, _, _, rfl, (And.intro rfl (And.intro rfl (And.intro rfl (And.intro rfl (And.intro rfl True.intro))))), (And.intro rfl (And.intro rfl True.intro)), hz15_0, hk15, hka15, hs15⟩) ?_ ?_
         · intro i1 hi27 v st s hr hF1 hD1
           obtain ⟨w4, hv_⟩ : ∃ z, z = v := ⟨_, rfl⟩; subst hv_
           obtain ⟨o9000004, tm28, cb28, out28, glob28, rfl, hT28, hC28, hz28_0, hk28, hka28, hs28⟩ := (hR27 _ _ _).1 hr
           obtain ⟨tm28, rfl⟩ := allEq hT28
           obtain ⟨cb28, rfl⟩ := allEq hC28
           dsimp only [gateref1_RecordsRead_1_l1] at hF1
           refine sq (rg ?_)
           refine WO_do (y := (bA (decide (((i1 : Nat) : Int) < (w.list.length : Int))))) _ rfl rfl rfl (nl ?_)
           refine sq <| cd true (congrArg some (rangeN_lt hi27)) (fun _ => ?_) (fun h => absurd h (by decide))
           refine sk <| sq <| bk <| sq <| rg <| L (iA ((i1 : Nat) : Int)) rfl rfl rfl <| L (iA ((i1 : Nat) : Int)) rfl rfl rfl <| nl <| sq <| rg <| L (Sl.lav (.fr 0 900000) o9000004.ver w4) rfl rfl rfl <| L (iA ((i1 : Nat) : Int)) rfl rfl rfl ?_
           obtain ⟨x9, h_x9, hF1⟩ := bind_some hF1
           refine L (.eptr (.fr 0 900000) o9000004.ver (((i1 : Nat) : Int) : Int).toNat 0) rfl rfl (op_ix rfl (ix_lz (x := w4) (o := o9000004) (n := 1) (c := c_str) rfl rfl rfl hz28_0 h_x9)) <| L (sA x9) rfl rfl (op_load rfl (ld_lz (x := w4) (o := o9000004) (n := 1) (c := c_str) (sA x9) rfl rfl rfl hz28_0 h_x9 rfl)) <| L (bA (x9 == [45])) rfl rfl (op_bin rfl bin_seq) <| nl <| cd (x9 == [45]) rfl (fun hc32 => ?_) (fun hc32 => ?_)
           · replace hF1 := ite_t hF1 (seq_t hc32)
             refine rg <| L (Sl.lav (.fr 0 900000) o9000004.ver w4) rfl rfl rfl <| L (iA ((i1 : Nat) : Int)) rfl rfl rfl ?_
             obtain ⟨x10, h_x10, hF1⟩ := bind_some hF1
             refine L (.eptr (.fr 0 900000) o9000004.ver (((i1 : Nat) : Int) : Int).toNat 0) rfl rfl (op_ix rfl (ix_lz (x := w4) (o := o9000004) (n := 1) (c := c_str) rfl rfl rfl hz28_0 h_x10)) ?_
             obtain ⟨w6, h_w6, hF1⟩ := bind_some hF1
             refine WO_lzset (s := 900000) (x := w4) (x' := w6) (o := o9000004) (n := 1) (c := c_str) (y := x10) (y' := []) (k := 0) (w := (sA [])) _ rfl rfl rfl rfl rfl rfl rfl rfl hz28_0 h_x10 (Nat.le_of_ble_eq_true rfl) rfl h_w6 (fun o9000006 hz_31 hv31 => ?_)
             rw [lav_set h_w6 hv31, ← hv31]
             exact nl <| rg <| WO_do (y := (iA ((i1 + 1 : Nat) : Int))) _ rfl rfl (congrArg (fun n => some (AV.int .i64 n, _)) (rangeN_len hi27 hn27)) <| WO_do (y := (iA ((i1 + 1 : Nat) : Int))) _ rfl rfl rfl <| nl <| Exists.intro _ (And.intro (Option.some.inj hF1).symm ((hR27 _ _ _).2 ⟨o9000006, _, _, _, _, rfl, (And.intro rfl (And.intro rfl (And.intro rfl (And.intro rfl (And.intro rfl True.intro))))), (And.intro rfl (And.intro rfl True.intro)), hz_31, hk28, hka28, hs28⟩))
           · replace hF1 := ite_f hF1 (seq_f hc32)
             exact sk <| rg <| WO_do (y := (iA ((i1 + 1 : Nat) : Int))) _ rfl rfl (congrArg (fun n => some (AV.int .i64 n, _)) (rangeN_len hi27 hn27)) <| WO_do (y := (iA ((i1 + 1 : Nat) : Int))) _ rfl rfl rfl <| nl <| Exists.intro _ (And.intro (Option.some.inj hF1).symm ((hR27 _ _ _).2 ⟨o9000004, _, _, _, _, rfl, (And.intro rfl (And.intro rfl (And.intro rfl (And.intro rfl (And.intro rfl True.intro))))), (And.intro rfl (And.intro rfl True.intro)), hz28_0, hk28, hka28, hs28⟩))
         · intro v st hr hD1
           obtain ⟨w4, hv_⟩ : ∃ z, z = v := ⟨_, rfl⟩; subst hv_
           obtain ⟨o9000004, tm28, cb28, out28, glob28, rfl, hT28, hC28, hz28_0, hk28, hka28, hs28⟩ := (hR27 _ _ _).1 hr
           obtain ⟨tm28, rfl⟩ := allEq hT28
           obtain ⟨cb28, rfl⟩ := allEq hC28
           refine sq (rg ?_)
           refine WO_do (y := .bool false) _ rfl rfl (congrArg (fun b => some (AV.bool b, _)) (rangeN_ge _)) (nl ?_)
           refine sq <| cd false rfl (fun h => absurd h (by decide)) (fun _ => ?_)
           exact xt <| (hJ27 _).2 ⟨w4, o9000004, _, _, _, _, rfl, (And.intro rfl (And.intro rfl (And.intro rfl True.intro))), (And.intro rfl (And.intro rfl True.intro)), hz28_0, hk28, hka28, hs28, hD1⟩
     · refine W_rangeL hb13 R13 ((hR13 _ _ _).2 ⟨_, _, _, _, rfl, (And.intro rfl (And.intro rfl (And.intro rfl (And.intro rfl (And.intro rfl (And.intro rfl True.intro)))))), (And.intro rfl (And.intro rfl True.intro)), hz4_0, hk4, hka4, hs4⟩) ?_ ?_
       · intro i hi13 v st s hr hF1 hD1
         obtain ⟨n3, hv_⟩ : ∃ z, z = v := ⟨_, rfl⟩; subst hv_
         obtain ⟨tm14, cb14, out14, glob14, rfl, hT14, hC14, hz14_0, hk14, hka14, hs14⟩ := (hR13 _ _ _).1 hr
         obtain ⟨tm14, rfl⟩ := allEq hT14
         obtain ⟨cb14, rfl⟩ := allEq hC14
         obtain ⟨k1, hx13⟩ : ∃ x, x = (Sl.full [0, 5, 6] : Sl Int).list[i] := ⟨_, rfl⟩
         rw [← hx13] at hF1
         dsimp only [gateref1_RecordsRead_1_l0] at hF1
         refine sq (rg ?_)
         refine WO_do (y := (bA (decide (((i : Nat) : Int) < ((Sl.full [0, 5, 6] : Sl Int).list.length : Int))))) _ rfl rfl rfl (nl ?_)
         refine sq <| cd true (congrArg some (range_lt hi13)) (fun _ => ?_) (fun h => absurd h (by decide))
         refine sk <| sq <| bk <| sq <| rg <| L (iA ((i : Nat) : Int)) rfl rfl rfl <| L (.cptr [(iA k1)]) rfl rfl (op_ix rfl ((ix_at (c := c_i64) rfl rfl hi13).trans (congrArg (fun x => some (AV.cptr (c_i64 x))) hx13.symm))) <| L (iA k1) rfl rfl rfl <| L (iA ((i : Nat) : Int)) rfl rfl rfl <| L (iA k1) rfl rfl rfl <| nl <| sq <| rg <| L (bA false) rfl rfl rfl <| nl <| sq <| rg <| L (iA ((i : Nat) : Int)) rfl rfl rfl <| L (Sl.lav (.fr 0 900000) o900000.ver w) rfl rfl rfl <| L (iA k1) rfl rfl rfl ?_
         obtain ⟨x4, h_x4, hF1⟩ := bind_some hF1
         refine L (.eptr (.fr 0 900000) o900000.ver (k1 : Int).toNat 0) rfl rfl (op_ix rfl (ix_lz (x := w) (o := o900000) (n := 1) (c := c_str) rfl rfl rfl hz14_0 h_x4)) <| L (sA x4) rfl rfl (op_load rfl (ld_lz (x := w) (o := o900000) (n := 1) (c := c_str) (sA x4) rfl rfl rfl hz14_0 h_x4 rfl)) ?_
         obtain ⟨⟨q02, good2⟩, h17, hF1⟩ := bind_some hF1
         refine WO_rd (g := 35) (args := [(sA x4), (iA 15)]) (r := (.tup [(iA q02), (bA good2)])) _ _ rfl rfl rfl rfl rfl rfl rfl (ok_gateref2_Number _ _ h17 _ _ ) <| L (.tup [(iA q02), (bA good2)]) rfl rfl rfl <| L (iA q02) rfl rfl rfl <| L (bA good2) rfl rfl rfl ?_
         obtain ⟨j2, h_j2, hF1⟩ := bind_some hF1
         refine L (.ptr (.fr 0 5) ((cb4 5).ver + 1) j2) rfl rfl (op_ix rfl (ix_ary rfl rfl rfl rfl h_j2)) ?_
         obtain ⟨n5, h_n5, hF1⟩ := bind_some hF1
         refine L (.tup []) (h' := ⟨upd _ 5 ⟨(cb4 5).ver + 1, .cells (List.map iA n5)⟩, _, _⟩) rfl rfl (op_store rfl rfl (st_ary (l := n3) rfl rfl rfl rfl h_n5)) <| L (bA good2) rfl rfl rfl <| nl <| sq <| rg <| L (bA good2) rfl rfl rfl <| L (bA (!good2)) rfl rfl rfl <| nl <| cd (!good2) rfl (fun hc18 => ?_) (fun hc18 => ?_)
         · replace hF1 := ite_t hF1 (hc18)
           refine sq <| rg <| L (bA false) rfl rfl rfl <| nl <| rt ?_
           obtain rfl := hD1 _ (Option.some.inj hF1).symm
           replace hF0 := res_ret hF0
           obtain rfl := Option.some.inj hF0
           exact mutA_leaf (.inr rfl) rfl (retV_pl _ _ (bA false)) hk14 hka14 hs14
         · replace hF1 := ite_f hF1 (not_t hc18)
           exact sk <| rg <| WO_do (y := (iA ((i + 1 : Nat) : Int))) _ rfl rfl (congrArg (fun n => some (AV.int .i64 n, _)) (range_len hi13 hn13)) <| WO_do (y := (iA ((i + 1 : Nat) : Int))) _ rfl rfl rfl <| nl <| Exists.intro _ (And.intro (Option.some.inj hF1).symm ((hR13 _ _ _).2 ⟨_, _, _, _, rfl, (And.intro rfl (And.intro rfl (And.intro rfl (And.intro rfl (And.intro rfl (And.intro rfl True.intro)))))), (And.intro rfl (And.intro rfl True.intro)), hz14_0, hk14, hka14, hs14⟩))
       · intro v st hr hD1
         obtain ⟨n3, hv_⟩ : ∃ z, z = v := ⟨_, rfl⟩; subst hv_
         obtain ⟨tm14, cb14, out14, glob14, rfl, hT14, hC14, hz14_0, hk14, hka14, hs14⟩ := (hR13 _ _ _).1 hr
         obtain ⟨tm14, rfl⟩ := allEq hT14
         obtain ⟨cb14, rfl⟩ := allEq hC14
         refine sq (rg ?_)
         refine WO_do (y := .bool false) _ rfl rfl (congrArg (fun b => some (AV.bool b, _)) (range_ge _)) (nl ?_)
         refine sq <| cd false rfl (fun h => absurd h (by decide)) (fun _ => ?_)
         exact xt <| (hJ13 _).2 ⟨n3, _, _, _, _, rfl, (And.intro rfl (And.intro rfl (And.intro rfl True.intro))), (And.intro rfl (And.intro rfl True.intro)), hz14_0, hk14, hka14, hs14, hD1⟩
 · rcases bool_cases ((w.list.length : Int) != 7) with hc3 | hc3
   · replace hF1 := ite_t hF1 (bne_t hc3)
     exact L (.bool true) rfl rfl (congrArg (fun b => some (AV.bool b, _)) hc3) <| WO_no _ rfl rfl <| WO_no _ rfl rfl <| L (bA true) rfl rfl rfl <| nl ((hJ3 _).2 ⟨true, _, _, _, _, rfl, (And.intro rfl (And.intro rfl (And.intro rfl True.intro))), (And.intro rfl True.intro), hz_1, hk_1, hka_1, (Same2.refl d1 e1 _ _), Option.some.inj hF1⟩)
   · replace hF1 := ite_f hF1 (bne_f hc3)
     refine L (.bool false) rfl rfl (congrArg (fun b => some (AV.bool b, _)) hc3) <| L (Sl.lav (.fr 0 900000) o900000.ver w) rfl rfl rfl ?_
     obtain ⟨r171, h36, hF1⟩ := bind_some hF1
     exact WO_rd (g := 34) (args := [(Sl.lav (.fr 0 900000) o900000.ver w), (sA [])]) (r := (bA r171)) _ _ rfl rfl rfl rfl rfl rfl rfl (ok_slices_Contains_string_string__r0 _ _ h36 _ _ (.fr 1 900000) o900000.ver rfl (LdF.own rfl hz_1)) <| L (bA r171) rfl rfl rfl <| nl ((hJ3 _).2 ⟨r171, _, _, _, _, rfl, (And.intro rfl (And.intro rfl (And.intro rfl True.intro))), (And.intro rfl True.intro), hz_1, hk_1, hka_1, (Same2.refl d1 e1 _ _), Option.some.inj hF1⟩)

theorem ok_gateref1_Lines__gateref1_RecordsRead_1 (text : Str) (cap1_0 : (Ar api_Record)) {r : (Int × Bool × (Ar api_Record))} (hF0 : gateref1_Lines__gateref1_RecordsRead_1 text cap1_0 = some r) : MutA Tryz.prog pol 31 (fun p => [(sA text), (.fn (.func 32) [] [p])]) 0 (some 39) (fun sl u => [(rf sl u cap1_0.list.length)]) (Ar.con 7 c_api_Record cap1_0) (.tup [(iA r.1), (bA r.2.1)]) (fun sl u => [(rf sl u r.2.2.list.length)]) (Ar.con 7 c_api_Record r.2.2) := by
 unfold gateref1_Lines__gateref1_RecordsRead_1 at hF0
 refine mutA_walk Tryz.func31 rfl (fun _ => Nat.not_lt.2 (Nat.le_of_ble_eq_true rfl)) ?_
 intro out glob d110 w110 e110 sl110 u110 hh110 hsub110 hbt110 hk_110 hka_110
 refine sq <| rg <| L (iA 0) rfl rfl rfl <| L (bA false) rfl rfl rfl <| nl <| sq <| sq <| rg <| L (iA 0) rfl rfl rfl <| nl <| bk ?_
 obtain ⟨b1, hb15, hF0⟩ := bind_some hF0
 obtain ⟨J15, hJ15⟩ : ∃ J : St → Prop, ∀ st, J st ↔ (∃ (cap18 : (Ar api_Record)) (u5 : Nat) (tm17 : Nat → AV) (cb17 : AE.Frame) (out17 : List AE.Frame) (glob17 : List AObj), st = ⟨tm17, ⟨cb17, out17, glob17⟩⟩ ∧ AllEq tm17 [] ∧ AllEq cb17 [] ∧ con2 out17 glob17 d110 w110 = .cells [(rf sl110 u5 cap18.list.length)] ∧ con2 out17 glob17 e110 u5 = (Ar.con 7 c_api_Record cap18) ∧ Same2 d110 e110 out glob out17 glob17 ∧ Res.out cap18 = b1) := ⟨_, fun _ => Iff.rfl⟩
 obtain ⟨R15, hR15⟩ : ∃ R : ((Ar api_Record) × Str × Int) → St → Prop, ∀ v st, R v st ↔ (match v with | (cap17, text3, i2) => ∃ (u4 : Nat) (tm16 : Nat → AV) (cb16 : AE.Frame) (out16 : List AE.Frame) (glob16 : List AObj), st = ⟨tm16, ⟨cb16, out16, glob16⟩⟩ ∧ AllEq tm16 [(0, (sA text3)), (1, (.fn (.func 32) [] [(.ptr d110 w110 0)])), (6, (iA i2))] ∧ AllEq cb16 [] ∧ con2 out16 glob16 d110 w110 = .cells [(rf sl110 u4 cap17.list.length)] ∧ con2 out16 glob16 e110 u4 = (Ar.con 7 c_api_Record cap17) ∧ Same2 d110 e110 out glob out16 glob16) := ⟨_, fun _ _ => Iff.rfl⟩
 refine W_loopcut J15 (fun st hst => ?_) ?_
 · obtain ⟨cap18, u5, tm17, cb17, out17, glob17, rfl, hT17, hC17, hk17, hka17, hs17, rfl⟩ := (hJ15 st).1 hst
   obtain ⟨tm17, rfl⟩ := allEq hT17
   obtain ⟨cb17, rfl⟩ := allEq hC17
   replace hF0 := res_out hF0
   refine sq <| rg <| L (iA 0) rfl rfl rfl <| L (bA true) rfl rfl rfl <| nl <| rt ?_
   obtain rfl := Option.some.inj hF0
   exact mutA_leaf (.inr rfl) rfl (ret_tup2 (retV_pl _ _ (iA 0)) (retV_pl _ _ (bA true))) hk17 hka17 hs17
 · refine W_loopV hb15 R15 ((hR15 _ _).2 ⟨u110, _, _, _, _, rfl, (And.intro rfl (And.intro rfl (And.intro rfl True.intro))), True.intro, hk_110, hka_110, (Same2.refl d110 e110 _ _)⟩) ?_
   intro v st s hr hF1 hD1
   obtain ⟨cap17, text3, i2⟩ := v
   obtain ⟨u4, tm16, cb16, out16, glob16, rfl, hT16, hC16, hk16, hka16, hs16⟩ := (hR15 _ _).1 hr
   obtain ⟨tm16, rfl⟩ := allEq hT16
   obtain ⟨cb16, rfl⟩ := allEq hC16
   dsimp only [gateref1_Lines__gateref1_RecordsRead_1_l0] at hF1
   refine sq <| sq <| rg <| L (sA text3) rfl rfl rfl <| L (bA (text3 != [])) rfl rfl (op_bin rfl bin_sne) <| nl <| cd (text3 != []) rfl (fun hc23 => ?_) (fun hc23 => ?_)
   · replace hF1 := ite_t hF1 (sne_t hc23)
     refine sk <| sq <| bk <| sq <| rg <| L (sA text3) rfl rfl rfl ?_
     obtain ⟨r162, h_r162, hF1⟩ := bind_some hF1
     refine L (.tup [(sA r162.1), (sA r162.2.1), (bA r162.2.2)]) rfl rfl (op_lib _ rfl rfl rfl (x_cut_eq h_r162)) <| L (.tup [(sA r162.1), (sA r162.2.1), (bA r162.2.2)]) rfl rfl rfl <| L (sA r162.1) rfl rfl rfl <| L (sA r162.2.1) rfl rfl rfl <| L (bA r162.2.2) rfl rfl rfl <| L (sA r162.1) rfl rfl rfl <| L (sA r162.2.1) rfl rfl rfl <| L (bA r162.2.2) rfl rfl rfl <| nl <| sq <| sq <| rg <| L (bA r162.2.2) rfl rfl rfl <| L (bA (!r162.2.2)) rfl rfl rfl ?_
     obtain ⟨y19, hF2, hF1⟩ := bind_some hF1
     obtain ⟨J19, hJ19⟩ : ∃ J : St → Prop, ∀ st, J st ↔ (∃ (cap110 : (Ar api_Record)) (t272 : Bool) (u7 : Nat) (tm20 : Nat → AV) (cb20 : AE.Frame) (out20 : List AE.Frame) (glob20 : List AObj), st = ⟨tm20, ⟨cb20, out20, glob20⟩⟩ ∧ AllEq tm20 [(1, (.fn (.func 32) [] [(.ptr d110 w110 0)])), (6, (iA i2)), (8, (sA r162.2.1)), (27, (bA t272))] ∧ AllEq cb20 [] ∧ con2 out20 glob20 d110 w110 = .cells [(rf sl110 u7 cap110.list.length)] ∧ con2 out20 glob20 e110 u7 = (Ar.con 7 c_api_Record cap110) ∧ Same2 d110 e110 out glob out20 glob20 ∧ (cap110, t272) = y19) := ⟨_, fun _ => Iff.rfl⟩
     refine WO_cut 6 J19 (fun st hst => ?_) ?_
     · obtain ⟨cap110, t272, u7, tm20, cb20, out20, glob20, rfl, hT20, hC20, hk20, hka20, hs20, rfl⟩ := (hJ19 st).1 hst
       obtain ⟨tm20, rfl⟩ := allEq hT20
       obtain ⟨cb20, rfl⟩ := allEq hC20
       refine nl <| cd t272 rfl (fun hc21 => ?_) (fun hc21 => ?_)
       · replace hF1 := ite_t hF1 (hc21)
         refine sq <| rg <| L (iA i2) rfl rfl rfl <| L (iA i2) rfl rfl rfl <| L (bA false) rfl rfl rfl <| nl <| rt ?_
         obtain rfl := hD1 _ (Option.some.inj hF1).symm
         replace hF0 := res_ret hF0
         obtain rfl := Option.some.inj hF0
         exact mutA_leaf (.inr rfl) rfl (ret_tup2 (retV_pl _ _ (iA i2)) (retV_pl _ _ (bA false))) hk20 hka20 hs20
       · replace hF1 := ite_f hF1 (not_t hc21)
         exact sk <| rg <| L (sA r162.2.1) rfl rfl rfl <| L (sA r162.2.1) rfl rfl rfl <| nl <| rg <| L (iA i2) rfl rfl rfl <| L (iA (w64 (i2 + 1))) rfl rfl rfl <| L (iA (w64 (i2 + 1))) rfl rfl rfl <| nl <| Exists.intro _ (And.intro (Option.some.inj hF1).symm ((hR15  _ _).2 ⟨u7, _, _, _, _, rfl, (And.intro rfl (And.intro rfl (And.intro rfl True.intro))), True.intro, hk20, hka20, hs20⟩))
     · rcases bool_cases (!r162.2.2) with hc19 | hc19
       · replace hF2 := ite_t hF2 (hc19)
         exact L (.bool true) rfl rfl (congrArg (fun b => some (AV.bool b, _)) hc19) <| WO_no _ rfl rfl <| WO_no _ rfl rfl <| WO_no _ rfl rfl <| WO_no _ rfl rfl <| L (bA true) rfl rfl rfl <| nl ((hJ19 _).2 ⟨cap17, true, u4, _, _, _, _, rfl, (And.intro rfl (And.intro rfl (And.intro rfl (And.intro rfl True.intro)))), True.intro, hk16, hka16, hs16, Option.some.inj hF2⟩)
       · replace hF2 := ite_f hF2 (not_t hc19)
         refine L (.bool false) rfl rfl (congrArg (fun b => some (AV.bool b, _)) hc19) <| L (.fn (.func 32) [] [(.ptr d110 w110 0)]) rfl rfl rfl <| L (sA r162.1) rfl rfl rfl ?_
         obtain ⟨⟨r255, cap111⟩, h22, hF2⟩ := bind_some hF2
         refine WO_mutAP (g := 32) (args := fun p => [(sA r162.1), p]) (off := 0) (d := d110) (v := w110) (u := u4) (cs := fun sl u => [(rf sl u cap17.list.length)]) (a := (Ar.con 7 c_api_Record cap17)) (r := (bA r255)) _ _ rfl rfl rfl rfl rfl rfl rfl (fun _ _ => inferInstance) hh110 hsub110 hbt110 hk16 hka16 (ok_gateref1_RecordsRead_1 _ _ h22) (fun out22 glob22 u22 hk22 hka22 hq22 => ?_)
         have hs22 := hs16.trans hq22
         exact L (bA (!r255)) rfl rfl rfl <| L (bA (!r255)) rfl rfl rfl <| nl ((hJ19 _).2 ⟨cap111, !r255, u22, _, _, _, _, rfl, (And.intro rfl (And.intro rfl (And.intro rfl (And.intro rfl True.intro)))), True.intro, hk22, hka22, hs22, Option.some.inj hF2⟩)
   · replace hF1 := ite_f hF1 (sne_f hc23)
     exact xt <| (hJ15 _).2 ⟨cap17, u4, _, _, _, _, rfl, True.intro, True.intro, hk16, hka16, hs16, hD1 _ (Option.some.inj hF1).symm⟩
end Go.Proofs.YtimnggioioeehaaGreatDoor
