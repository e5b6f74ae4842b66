/- The evaluator answers as the typed functions. Printed by gen.py. -/
import Derived.Test.YtdpfbnefkemkiaaDoorGvDefs
import Derived.Test.YtdpfbnefkemkiaaDoorGvFacts
namespace Go.Proofs.YtdpfbnefkemkiaaDoor
open Go.AE Go.GW
set_option maxRecDepth 100000
set_option linter.unusedVariables false
theorem ok_gatemake_Below (x : Int) (n : Int) {r : (Int)} (hF0 : gatemake_Below x n = some r) (out : List AE.Frame) (glob : List AObj) : RdOk Tryd.prog pol true 40 [(iA x), (iA n)] out glob (iA r) := by
 unfold gatemake_Below at hF0
 refine rd_walk Tryd.func40 rfl (Nat.not_lt.2 (Nat.le_of_ble_eq_true rfl)) ?_
 intro ro
 refine sq <| rg <| L (iA 0) rfl rfl rfl <| nl <| sq <| sq <| rg <| L (iA n) rfl rfl rfl <| L (bA (decide (n < 1))) rfl rfl rfl <| nl <| cd (decide (n < 1)) rfl (fun hc2 => ?_) (fun hc2 => ?_)
 · replace hF0 := ite_t hF0 (dec_t hc2)
   refine sq <| rg <| L (iA 0) rfl rfl rfl <| nl <| rt ?_
   obtain rfl := Option.some.inj hF0
   exact rd_leaf (.inr rfl) rfl (retV_pl _ _ (iA 0)) rfl rfl
 · replace hF0 := ite_f hF0 (dec_f hc2)
   refine sk <| sq <| rg <| L (iA x) rfl rfl rfl <| L (iA n) rfl rfl rfl ?_
   obtain ⟨x1, h_x1, hF0⟩ := bind_some hF0
   refine L (iA x1) rfl rfl (op_bin rfl (bin_rem h_x1)) <| L (iA x1) rfl rfl rfl <| nl <| sq <| sq <| rg <| L (iA x1) rfl rfl rfl <| L (bA (decide (x1 < 0))) rfl rfl rfl <| nl <| cd (decide (x1 < 0)) rfl (fun hc1 => ?_) (fun hc1 => ?_)
   · replace hF0 := ite_t hF0 (dec_t hc1)
     refine rg <| L (iA x1) rfl rfl rfl <| L (iA n) rfl rfl rfl <| L (iA (w64 (x1 + n))) rfl rfl rfl <| L (iA (w64 (x1 + n))) rfl rfl rfl <| nl <| sq <| rg <| L (iA (w64 (x1 + n))) rfl rfl rfl <| L (iA (w64 (x1 + n))) rfl rfl rfl <| nl <| rt ?_
     obtain rfl := Option.some.inj hF0
     exact rd_leaf (.inr rfl) rfl (retV_pl _ _ (iA (w64 (x1 + n)))) rfl rfl
   · replace hF0 := ite_f hF0 (dec_f hc1)
     refine sk <| sq <| rg <| L (iA x1) rfl rfl rfl <| L (iA x1) rfl rfl rfl <| nl <| rt ?_
     obtain rfl := Option.some.inj hF0
     exact rd_leaf (.inr rfl) rfl (retV_pl _ _ (iA x1)) rfl rfl

theorem ok_gatemake_Stream_Next (s_ : gatemake_Stream) (n : Int) {r : (Int × gatemake_Stream)} (hF0 : gatemake_Stream_Next s_ n = some r) : MutOk Tryd.prog pol 16 (fun p => [p, (iA n)]) (c_gatemake_Stream s_) (iA r.1) (c_gatemake_Stream r.2) := by
 unfold gatemake_Stream_Next at hF0
 refine mut_walk Tryd.func16 rfl (fun _ => Nat.not_lt.2 (Nat.le_of_ble_eq_true rfl)) ?_
 intro out glob d0 w0 hh0 hk_0
 refine sq <| rg <| L (iA 0) rfl rfl rfl <| nl <| sq <| rg <| L (.ptr d0 w0 0) rfl rfl rfl <| L (.ptr d0 w0 0) rfl rfl rfl <| L (.ptr d0 w0 1) rfl rfl rfl <| L (iA s_.at_) rfl rfl (op_load rfl (ld_con (iA s_.at_) rfl rfl (cs := (c_gatemake_Stream s_)) ((con_con2 _ _ _ _ _ hh0).trans hk_0) rfl)) <| L (iA (w64 (s_.at_ + 1))) rfl rfl rfl <| L (.ptr d0 w0 0) rfl rfl rfl <| L (.ptr d0 w0 1) rfl rfl rfl <| WO_stP (X := (iA (w64 (s_.at_ + 1)))) (cs := (c_gatemake_Stream s_)) (cs' := (c_gatemake_Stream ({ s_ with at_ := w64 (s_.at_ + 1) }))) (off := 1) _ rfl rfl rfl rfl rfl rfl rfl rfl hh0 hk_0 (Nat.le_of_ble_eq_true rfl) rfl (fun out1 glob1 hk1 hs1 => ?_)
 replace hs1 := (Same.refl _ _ _).trans hs1
 refine nl <| sq <| sq <| rg <| L (.ptr d0 w0 0) rfl rfl rfl <| L (.ptr d0 w0 0) rfl rfl rfl <| L (.ptr d0 w0 0) rfl rfl rfl <| L (Sl.av 1 c_i64 s_.L) rfl rfl (op_load rfl (ld_con (Sl.av 1 c_i64 s_.L) rfl rfl (cs := (c_gatemake_Stream ({ s_ with at_ := w64 (s_.at_ + 1) }))) ((con_con2 _ _ _ _ _ hh0).trans hk1) rfl)) <| L (iA (s_.L.list.length : Int)) rfl rfl (op_len rfl rfl rfl rfl rfl (len_sl _)) <| L (bA ((s_.L.list.length : Int) == 0)) rfl rfl rfl <| nl <| cd ((s_.L.list.length : Int) == 0) rfl (fun hc5 => ?_) (fun hc5 => ?_)
 · replace hF0 := ite_t hF0 (beq_t hc5)
   refine sq <| rg <| L (.ptr d0 w0 0) rfl rfl rfl <| L (.ptr d0 w0 0) rfl rfl rfl <| L (.ptr d0 w0 1) rfl rfl rfl <| L (iA (w64 (s_.at_ + 1))) rfl rfl (op_load rfl (ld_con (iA (w64 (s_.at_ + 1))) rfl rfl (cs := (c_gatemake_Stream ({ s_ with at_ := w64 (s_.at_ + 1) }))) ((con_con2 _ _ _ _ _ hh0).trans hk1) rfl)) <| L (iA (w64 ((w64 (s_.at_ + 1)) * 7919))) rfl rfl rfl <| L (iA n) rfl rfl rfl ?_
   obtain ⟨r4, h2, hF0⟩ := bind_some hF0
   refine WO_rd (g := 40) (args := [(iA (w64 ((w64 (s_.at_ + 1)) * 7919))), (iA n)]) (r := (iA r4)) _ _ rfl rfl rfl rfl rfl rfl rfl (ok_gatemake_Below _ _ h2 _ _ ) <| L (iA r4) rfl rfl rfl <| nl <| rt ?_
   obtain rfl := Option.some.inj hF0
   exact mut_leaf (.inr rfl) rfl (retV_pl _ _ (iA r4)) hk1 hs1
 · replace hF0 := ite_f hF0 (beq_f hc5)
   refine sk <| sq <| dw (by kernel_rfl) <| L (.ptr d0 w0 0) rfl rfl rfl <| L (.ptr d0 w0 0) rfl rfl rfl <| L (.ptr d0 w0 1) rfl rfl rfl <| L (iA (w64 (s_.at_ + 1))) rfl rfl (op_load rfl (ld_con (iA (w64 (s_.at_ + 1))) rfl rfl (cs := (c_gatemake_Stream ({ s_ with at_ := w64 (s_.at_ + 1) }))) ((con_con2 _ _ _ _ _ hh0).trans hk1) rfl)) <| L (iA (w64 ((w64 (s_.at_ + 1)) - 1))) rfl rfl rfl <| L (.ptr d0 w0 0) rfl rfl rfl <| L (.ptr d0 w0 0) rfl rfl rfl <| L (.ptr d0 w0 0) rfl rfl rfl <| L (Sl.av 1 c_i64 s_.L) rfl rfl (op_load rfl (ld_con (Sl.av 1 c_i64 s_.L) rfl rfl (cs := (c_gatemake_Stream ({ s_ with at_ := w64 (s_.at_ + 1) }))) ((con_con2 _ _ _ _ _ hh0).trans hk1) rfl)) <| L (iA (s_.L.list.length : Int)) rfl rfl (op_len rfl rfl rfl rfl rfl (len_sl _)) ?_
   obtain ⟨i, h_i, hF0⟩ := bind_some hF0
   refine L (iA i) rfl rfl (op_bin rfl (bin_rem h_i)) <| L (iA i) rfl rfl rfl <| nl <| sq <| dw (by kernel_rfl) <| L (.ptr d0 w0 0) rfl rfl rfl <| L (.ptr d0 w0 0) rfl rfl rfl <| L (.ptr d0 w0 1) rfl rfl rfl <| L (iA (w64 (s_.at_ + 1))) rfl rfl (op_load rfl (ld_con (iA (w64 (s_.at_ + 1))) rfl rfl (cs := (c_gatemake_Stream ({ s_ with at_ := w64 (s_.at_ + 1) }))) ((con_con2 _ _ _ _ _ hh0).trans hk1) rfl)) <| L (iA (w64 ((w64 (s_.at_ + 1)) - 1))) rfl rfl rfl <| L (.ptr d0 w0 0) rfl rfl rfl <| L (.ptr d0 w0 0) rfl rfl rfl <| L (.ptr d0 w0 0) rfl rfl rfl <| L (Sl.av 1 c_i64 s_.L) rfl rfl (op_load rfl (ld_con (Sl.av 1 c_i64 s_.L) rfl rfl (cs := (c_gatemake_Stream ({ s_ with at_ := w64 (s_.at_ + 1) }))) ((con_con2 _ _ _ _ _ hh0).trans hk1) rfl)) <| L (iA (s_.L.list.length : Int)) rfl rfl (op_len rfl rfl rfl rfl rfl (len_sl _)) ?_
   obtain ⟨round, h_round, hF0⟩ := bind_some hF0
   refine L (iA round) rfl rfl (op_bin rfl (bin_quo h_round)) <| L (iA round) rfl rfl rfl <| nl <| sq <| rg <| L (.ptr d0 w0 0) rfl rfl rfl <| L (.ptr d0 w0 0) rfl rfl rfl <| L (.ptr d0 w0 0) rfl rfl rfl <| L (Sl.av 1 c_i64 s_.L) rfl rfl (op_load rfl (ld_con (Sl.av 1 c_i64 s_.L) rfl rfl (cs := (c_gatemake_Stream ({ s_ with at_ := w64 (s_.at_ + 1) }))) ((con_con2 _ _ _ _ _ hh0).trans hk1) rfl)) <| L (iA i) rfl rfl rfl ?_
   obtain ⟨x, h_x, hF0⟩ := bind_some hF0
   refine L (.cptr [(iA x)]) rfl rfl (op_ix rfl (ix_sl (c := c_i64) rfl rfl h_x)) <| L (iA x) rfl rfl rfl ?_
   obtain ⟨r56, h3, hF0⟩ := bind_some hF0
   refine WO_rd (g := 40) (args := [(iA x), (iA 1073741824)]) (r := (iA r56)) _ _ rfl rfl rfl rfl rfl rfl rfl (ok_gatemake_Below _ _ h3 _ _ ) <| L (iA round) rfl rfl rfl <| L (iA i) rfl rfl rfl <| L (iA (w64 (7919 + i))) rfl rfl rfl <| L (iA (w64 (round * (w64 (7919 + i))))) rfl rfl rfl <| L (iA (w64 (r56 + (w64 (round * (w64 (7919 + i))))))) rfl rfl rfl <| L (iA n) rfl rfl rfl ?_
   obtain ⟨r41, h4, hF0⟩ := bind_some hF0
   refine WO_rd (g := 40) (args := [(iA (w64 (r56 + (w64 (round * (w64 (7919 + i))))))), (iA n)]) (r := (iA r41)) _ _ rfl rfl rfl rfl rfl rfl rfl (ok_gatemake_Below _ _ h4 _ _ ) <| L (iA r41) rfl rfl rfl <| nl <| rt ?_
   obtain rfl := Option.some.inj hF0
   exact mut_leaf (.inr rfl) rfl (retV_pl _ _ (iA r41)) hk1 hs1

theorem ok_gatemake_Stream_Pick (s_ : gatemake_Stream) (l : (Sl Int)) {r : (Int × gatemake_Stream)} (hF0 : gatemake_Stream_Pick s_ l = some r) : MutOk Tryd.prog pol 22 (fun p => [p, (Sl.av 1 c_i64 l)]) (c_gatemake_Stream s_) (iA r.1) (c_gatemake_Stream r.2) := by
 unfold gatemake_Stream_Pick at hF0
 refine mut_walk Tryd.func22 rfl (fun _ => Nat.not_lt.2 (Nat.le_of_ble_eq_true rfl)) ?_
 intro out glob d0 w0 hh0 hk_0
 refine sq <| rg <| L (iA 0) rfl rfl rfl <| nl <| sq <| rg <| L (Sl.av 1 c_i64 l) rfl rfl rfl <| L (.ptr d0 w0 0) rfl rfl rfl <| L (Sl.av 1 c_i64 l) rfl rfl rfl <| L (iA (l.list.length : Int)) rfl rfl (op_len rfl rfl rfl rfl rfl (len_sl _)) ?_
 obtain ⟨⟨r9, s_1⟩, h1, hF0⟩ := bind_some hF0
 refine WO_mutP (g := 16) (args := fun p => [p, (iA (l.list.length : Int))]) (d := d0) (v := w0) (r := (iA r9)) _ _ rfl rfl rfl rfl rfl rfl rfl (fun _ _ => inferInstance) hh0 hk_0 (ok_gatemake_Stream_Next _ _ h1) (fun out1 glob1 hk1 hs1 => ?_)
 replace hs1 := (Same.refl _ _ _).trans hs1
 obtain ⟨x, h_x, hF0⟩ := bind_some hF0
 refine L (.cptr [(iA x)]) rfl rfl (op_ix rfl (ix_sl (c := c_i64) rfl rfl h_x)) <| L (iA x) rfl rfl rfl <| L (iA x) rfl rfl rfl <| nl <| rt ?_
 obtain rfl := Option.some.inj hF0
 exact mut_leaf (.inr rfl) rfl (retV_pl _ _ (iA x)) hk1 hs1

theorem ok_gatemake_Stream_Flip (s_ : gatemake_Stream) (n : Int) {r : (Bool × gatemake_Stream)} (hF0 : gatemake_Stream_Flip s_ n = some r) : MutOk Tryd.prog pol 5 (fun p => [p, (iA n)]) (c_gatemake_Stream s_) (bA r.1) (c_gatemake_Stream r.2) := by
 unfold gatemake_Stream_Flip at hF0
 refine mut_walk Tryd.func5 rfl (fun _ => Nat.not_lt.2 (Nat.le_of_ble_eq_true rfl)) ?_
 intro out glob d0 w0 hh0 hk_0
 refine sq <| rg <| L (bA false) rfl rfl rfl <| nl <| sq <| rg <| L (.ptr d0 w0 0) rfl rfl rfl <| L (iA n) rfl rfl rfl ?_
 obtain ⟨⟨r7, s_1⟩, h1, hF0⟩ := bind_some hF0
 refine WO_mutP (g := 16) (args := fun p => [p, (iA n)]) (d := d0) (v := w0) (r := (iA r7)) _ _ rfl rfl rfl rfl rfl rfl rfl (fun _ _ => inferInstance) hh0 hk_0 (ok_gatemake_Stream_Next _ _ h1) (fun out1 glob1 hk1 hs1 => ?_)
 replace hs1 := (Same.refl _ _ _).trans hs1
 refine L (bA (r7 == 0)) rfl rfl rfl <| L (bA (r7 == 0)) rfl rfl rfl <| nl <| rt ?_
 obtain rfl := Option.some.inj hF0
 exact mut_leaf (.inr rfl) rfl (retV_pl _ _ (bA (r7 == 0))) hk1 hs1

theorem ok_gatemake_Stream_Some (s_ : gatemake_Stream) (l : (Sl Str)) {r : (Str × gatemake_Stream)} (hF0 : gatemake_Stream_Some s_ l = some r) : MutOk Tryd.prog pol 18 (fun p => [p, (Sl.av 1 c_str l)]) (c_gatemake_Stream s_) (sA r.1) (c_gatemake_Stream r.2) := by
 unfold gatemake_Stream_Some at hF0
 refine mut_walk Tryd.func18 rfl (fun _ => Nat.not_lt.2 (Nat.le_of_ble_eq_true rfl)) ?_
 intro out glob d0 w0 hh0 hk_0
 refine sq <| rg <| L (sA []) rfl rfl rfl <| nl <| sq <| rg <| L (Sl.av 1 c_str l) rfl rfl rfl <| L (.ptr d0 w0 0) rfl rfl rfl <| L (Sl.av 1 c_str l) rfl rfl rfl <| L (iA (l.list.length : Int)) rfl rfl (op_len rfl rfl rfl rfl rfl (len_sl _)) ?_
 obtain ⟨⟨r9, s_1⟩, h1, hF0⟩ := bind_some hF0
 refine WO_mutP (g := 16) (args := fun p => [p, (iA (l.list.length : Int))]) (d := d0) (v := w0) (r := (iA r9)) _ _ rfl rfl rfl rfl rfl rfl rfl (fun _ _ => inferInstance) hh0 hk_0 (ok_gatemake_Stream_Next _ _ h1) (fun out1 glob1 hk1 hs1 => ?_)
 replace hs1 := (Same.refl _ _ _).trans hs1
 obtain ⟨x, h_x, hF0⟩ := bind_some hF0
 refine L (.cptr [(sA x)]) rfl rfl (op_ix rfl (ix_sl (c := c_str) rfl rfl h_x)) <| L (sA x) rfl rfl rfl <| L (sA x) rfl rfl rfl <| nl <| rt ?_
 obtain rfl := Option.some.inj hF0
 exact mut_leaf (.inr rfl) rfl (retV_pl _ _ (sA x)) hk1 hs1

theorem okg_gatemake_Stream_RightValue (k : Nat) : (∀ (s_ : gatemake_Stream) (deep : Int) {r : (api_Value × gatemake_Stream)} (hF0 : gatemake_Stream_RightValue k s_ deep = some r), MutOk Tryd.prog pol 15 (fun p => [p, (iA deep)]) (c_gatemake_Stream s_) (.agg (c_api_Value r.1)) (c_gatemake_Stream r.2)) := by
 induction k with
 | zero => exact (by intro s_ deep r hF0; rw [gatemake_Stream_RightValue] at hF0; cases hF0)
 | succ k ih =>
  have ih_gatemake_Stream_RightValue := ih
  intro s_ deep r hF0
  rw [gatemake_Stream_RightValue] at hF0
  refine mut_walk Tryd.func15 rfl (fun _ => Nat.not_lt.2 (Nat.le_of_ble_eq_true rfl)) ?_
  intro out glob d0 w0 hh0 hk_0
  refine sq <| rg <| L (.ptr (.fr 0 4) 1 0) (h' := ⟨upd _ 4 ⟨1, .cells (c_api_Value (api_Value.mk 0 false 0 [] Sl.nil Sl.nil))⟩, _, _⟩) rfl rfl (op_alloc (c_api_Value (api_Value.mk 0 false 0 [] Sl.nil Sl.nil)) rfl rfl rfl (by simp only [e_api_Value]; rfl)) <| nl <| sq <| rg <| L (.ptr d0 w0 0) rfl rfl rfl <| L (Sl.av 1 c_i64 (Sl.full [0, 1, 2, 2, 3, 3, 4, 5] : Sl Int)) rfl rfl (op_sliceN rfl rfl rfl) ?_
  obtain ⟨⟨r10, s_1⟩, h1, hF0⟩ := bind_some hF0
  refine WO_mutP (g := 22) (args := fun p => [p, (Sl.av 1 c_i64 (Sl.full [0, 1, 2, 2, 3, 3, 4, 5] : Sl Int))]) (d := d0) (v := w0) (r := (iA r10)) _ _ rfl rfl rfl rfl rfl rfl rfl (fun _ _ => inferInstance) hh0 hk_0 (ok_gatemake_Stream_Pick _ _ h1) (fun out1 glob1 hk1 hs1 => ?_)
  replace hs1 := (Same.refl _ _ _).trans hs1
  refine L (.agg (c_api_Value (api_Value.mk r10 false 0 [] Sl.nil Sl.nil))) rfl rfl (op_build rfl (build_eq (cs := (c_api_Value (api_Value.mk r10 false 0 [] Sl.nil Sl.nil))) rfl rfl rfl (fill_cons (x := (iA r10)) rfl rfl (Nat.le_of_ble_eq_true rfl) (fill_nil)) (by simp only [e_api_Value]; rfl))) <| L (.ptr (.fr 0 5) 1 0) (h' := ⟨upd _ 5 ⟨1, .cells (c_api_Value (api_Value.mk 0 false 0 [] Sl.nil Sl.nil))⟩, _, _⟩) rfl rfl (op_alloc (c_api_Value (api_Value.mk 0 false 0 [] Sl.nil Sl.nil)) rfl rfl rfl (by simp only [e_api_Value]; rfl)) <| L (.tup []) (h' := ⟨upd _ 5 ⟨1, .cells (c_api_Value (api_Value.mk r10 false 0 [] Sl.nil Sl.nil))⟩, _, _⟩) rfl rfl (op_store rfl rfl (st_fr (x := (.agg (c_api_Value (api_Value.mk r10 false 0 [] Sl.nil Sl.nil)))) (cs := (c_api_Value (api_Value.mk 0 false 0 [] Sl.nil Sl.nil))) (c_api_Value (api_Value.mk r10 false 0 [] Sl.nil Sl.nil)) (by simp only [e_api_Value]; rfl) rfl (by simp only [e_api_Value]; exact Nat.le_of_ble_eq_true rfl) (by simp only [e_api_Value]; rfl))) <| nl <| sq <| sq <| rg <| L (iA deep) rfl rfl rfl <| L (bA (decide (deep > 0))) rfl rfl rfl ?_
  obtain ⟨y3, hF1, hF0⟩ := bind_some hF0
  obtain ⟨J3, hJ3⟩ : ∃ J : St → Prop, ∀ st, J st ↔ (∃ (s_3 : gatemake_Stream) (t17 : Bool) (tm4 : Nat → AV) (cb4 : AE.Frame) (out4 : List AE.Frame) (glob4 : List AObj), st = ⟨tm4, ⟨cb4, out4, glob4⟩⟩ ∧ AllEq tm4 [(0, (.ptr d0 w0 0)), (1, (iA deep)), (4, (.ptr (.fr 0 4) 1 0)), (5, (.ptr (.fr 0 5) 1 0)), (17, (bA t17))] ∧ AllEq cb4 [(4, ⟨1, .cells (c_api_Value (api_Value.mk 0 false 0 [] Sl.nil Sl.nil))⟩), (5, ⟨1, .cells (c_api_Value (api_Value.mk r10 false 0 [] Sl.nil Sl.nil))⟩)] ∧ con2 out4 glob4 d0 w0 = .cells (c_gatemake_Stream s_3) ∧ Same d0 out glob out4 glob4 ∧ (s_3, t17) = y3) := ⟨_, fun _ => Iff.rfl⟩
  refine WO_cut 4 J3 (fun st hst => ?_) ?_
  · obtain ⟨s_3, t17, tm4, cb4, out4, glob4, rfl, hT4, hC4, hk4, hs4, rfl⟩ := (hJ3 st).1 hst
    obtain ⟨tm4, rfl⟩ := allEq hT4
    obtain ⟨cb4, rfl⟩ := allEq hC4
    refine nl ?_
    obtain ⟨y8, hF1, hF0⟩ := bind_some hF0
    obtain ⟨J8, hJ8⟩ : ∃ J : St → Prop, ∀ st, J st ↔ (∃ (s_5 : gatemake_Stream) (v_ : api_Value) (tm7 : Nat → AV) (cb7 : AE.Frame) (out7 : List AE.Frame) (glob7 : List AObj), st = ⟨tm7, ⟨cb7, out7, glob7⟩⟩ ∧ AllEq tm7 [(0, (.ptr d0 w0 0)), (1, (iA deep)), (4, (.ptr (.fr 0 4) 1 0)), (5, (.ptr (.fr 0 5) 1 0))] ∧ AllEq cb7 [(4, ⟨1, .cells (c_api_Value (api_Value.mk 0 false 0 [] Sl.nil Sl.nil))⟩), (5, ⟨1, .cells (c_api_Value (api_Value.mk v_.Kind v_.Flag v_.Number v_.Words Sl.nil Sl.nil))⟩)] ∧ con2 out7 glob7 d0 w0 = .cells (c_gatemake_Stream s_5) ∧ Same d0 out glob out7 glob7 ∧ (s_5, v_) = y8) := ⟨_, fun _ => Iff.rfl⟩
    refine W_cut J8 (fun st hst => ?_) ?_
    · obtain ⟨s_5, v_, tm7, cb7, out7, glob7, rfl, hT7, hC7, hk7, hs7, rfl⟩ := (hJ8 st).1 hst
      obtain ⟨tm7, rfl⟩ := allEq hT7
      obtain ⟨cb7, rfl⟩ := allEq hC7
      refine sq <| sq <| rg <| L (.ptr (.fr 0 5) 1 0) rfl rfl rfl <| L (iA v_.Kind) rfl rfl (op_load rfl (ld_con (iA v_.Kind) rfl rfl (cs := (c_api_Value (api_Value.mk v_.Kind v_.Flag v_.Number v_.Words Sl.nil Sl.nil))) (con_fr rfl) (by simp only [e_api_Value]; rfl))) <| nl <| bk <| sq <| rg <| L (bA (v_.Kind == 1)) rfl rfl rfl <| L (bA (v_.Kind == 1)) rfl rfl rfl <| nl <| cd (v_.Kind == 1) rfl (fun hc80 => ?_) (fun hc80 => ?_)
      · replace hF0 := ite_t hF0 (beq_t hc80)
        refine rg <| L (.ptr d0 w0 0) rfl rfl rfl ?_
        obtain ⟨⟨r27, s_7⟩, h11, hF0⟩ := bind_some hF0
        refine WO_mutP (g := 5) (args := fun p => [p, (iA 2)]) (d := d0) (v := w0) (r := (bA r27)) _ _ rfl rfl rfl rfl rfl rfl rfl (fun _ _ => inferInstance) hh0 hk7 (ok_gatemake_Stream_Flip _ _ h11) (fun out11 glob11 hk11 hs11 => ?_)
        replace hs11 := hs7.trans hs11
        refine L (.ptr (.fr 0 5) 1 1) rfl rfl rfl <| L (.tup []) (h' := ⟨upd _ 5 ⟨1, .cells (c_api_Value (api_Value.mk v_.Kind r27 v_.Number v_.Words Sl.nil Sl.nil))⟩, _, _⟩) rfl rfl (op_store rfl rfl (st_fr (x := (bA r27)) (cs := (c_api_Value (api_Value.mk v_.Kind v_.Flag v_.Number v_.Words Sl.nil Sl.nil))) (c_api_Value (api_Value.mk v_.Kind r27 v_.Number v_.Words Sl.nil Sl.nil)) rfl rfl (by simp only [e_api_Value]; exact Nat.le_of_ble_eq_true rfl) (by simp only [e_api_Value]; rfl))) <| nl <| sq <| rg <| L (.agg (c_api_Value (api_Value.mk v_.Kind r27 v_.Number v_.Words Sl.nil Sl.nil))) rfl rfl (op_load rfl (ld_con (.agg (c_api_Value (api_Value.mk v_.Kind r27 v_.Number v_.Words Sl.nil Sl.nil))) rfl rfl (cs := (c_api_Value (api_Value.mk v_.Kind r27 v_.Number v_.Words Sl.nil Sl.nil))) (con_fr rfl) (by simp only [e_api_Value]; rfl))) <| L (.tup []) (h' := ⟨upd _ 4 ⟨1, .cells (c_api_Value (api_Value.mk v_.Kind r27 v_.Number v_.Words Sl.nil Sl.nil))⟩, _, _⟩) rfl rfl (op_store rfl rfl (st_fr (x := (.agg (c_api_Value (api_Value.mk v_.Kind r27 v_.Number v_.Words Sl.nil Sl.nil)))) (cs := (c_api_Value (api_Value.mk 0 false 0 [] Sl.nil Sl.nil))) (c_api_Value (api_Value.mk v_.Kind r27 v_.Number v_.Words Sl.nil Sl.nil)) (by simp only [e_api_Value]; rfl) rfl (by simp only [e_api_Value]; exact Nat.le_of_ble_eq_true rfl) (by simp only [e_api_Value]; rfl))) <| nl <| rt ?_
        obtain rfl := Option.some.inj hF0
        exact mut_leaf (.inr rfl) (res_cell (ld_fr (y := (.agg (c_api_Value (api_Value.mk v_.Kind r27 v_.Number v_.Words Sl.nil Sl.nil)))) rfl rfl (cs := (c_api_Value (api_Value.mk v_.Kind r27 v_.Number v_.Words Sl.nil Sl.nil))) rfl (by simp only [e_api_Value]; rfl)) (res_nil)) (retV_pl _ _ (.agg (c_api_Value (api_Value.mk v_.Kind r27 v_.Number v_.Words Sl.nil Sl.nil)))) hk11 hs11
      · replace hF0 := ite_f hF0 (beq_f hc80)
        refine sq <| rg <| L (bA (v_.Kind == 2)) rfl rfl rfl <| L (bA (v_.Kind == 2)) rfl rfl rfl <| nl <| cd (v_.Kind == 2) rfl (fun hc79 => ?_) (fun hc79 => ?_)
        · replace hF0 := ite_t hF0 (beq_t hc79)
          refine rg <| L (.ptr d0 w0 0) rfl rfl rfl <| L (.ptr d0 w0 0) rfl rfl rfl ?_
          obtain ⟨⟨r33, s_8⟩, h12, hF0⟩ := bind_some hF0
          refine WO_mutP (g := 16) (args := fun p => [p, (iA 100)]) (d := d0) (v := w0) (r := (iA r33)) _ _ rfl rfl rfl rfl rfl rfl rfl (fun _ _ => inferInstance) hh0 hk7 (ok_gatemake_Stream_Next _ _ h12) (fun out12 glob12 hk12 hs12 => ?_)
          replace hs12 := hs7.trans hs12
          refine L (Sl.av 1 c_i64 (Sl.full [0, 1, (-1), 5, 12, 1000000000000000, (-1000000000000000), r33] : Sl Int)) rfl rfl (op_sliceN rfl rfl rfl) ?_
          obtain ⟨⟨r35, s_9⟩, h13, hF0⟩ := bind_some hF0
          refine WO_mutP (g := 22) (args := fun p => [p, (Sl.av 1 c_i64 (Sl.full [0, 1, (-1), 5, 12, 1000000000000000, (-1000000000000000), r33] : Sl Int))]) (d := d0) (v := w0) (r := (iA r35)) _ _ rfl rfl rfl rfl rfl rfl rfl (fun _ _ => inferInstance) hh0 hk12 (ok_gatemake_Stream_Pick _ _ h13) (fun out13 glob13 hk13 hs13 => ?_)
          replace hs13 := hs12.trans hs13
          refine L (.ptr (.fr 0 5) 1 2) rfl rfl rfl <| L (.tup []) (h' := ⟨upd _ 5 ⟨1, .cells (c_api_Value (api_Value.mk v_.Kind v_.Flag r35 v_.Words Sl.nil Sl.nil))⟩, _, _⟩) rfl rfl (op_store rfl rfl (st_fr (x := (iA r35)) (cs := (c_api_Value (api_Value.mk v_.Kind v_.Flag v_.Number v_.Words Sl.nil Sl.nil))) (c_api_Value (api_Value.mk v_.Kind v_.Flag r35 v_.Words Sl.nil Sl.nil)) rfl rfl (by simp only [e_api_Value]; exact Nat.le_of_ble_eq_true rfl) (by simp only [e_api_Value]; rfl))) <| nl <| sq <| rg <| L (.agg (c_api_Value (api_Value.mk v_.Kind v_.Flag r35 v_.Words Sl.nil Sl.nil))) rfl rfl (op_load rfl (ld_con (.agg (c_api_Value (api_Value.mk v_.Kind v_.Flag r35 v_.Words Sl.nil Sl.nil))) rfl rfl (cs := (c_api_Value (api_Value.mk v_.Kind v_.Flag r35 v_.Words Sl.nil Sl.nil))) (con_fr rfl) (by simp only [e_api_Value]; rfl))) <| L (.tup []) (h' := ⟨upd _ 4 ⟨1, .cells (c_api_Value (api_Value.mk v_.Kind v_.Flag r35 v_.Words Sl.nil Sl.nil))⟩, _, _⟩) rfl rfl (op_store rfl rfl (st_fr (x := (.agg (c_api_Value (api_Value.mk v_.Kind v_.Flag r35 v_.Words Sl.nil Sl.nil)))) (cs := (c_api_Value (api_Value.mk 0 false 0 [] Sl.nil Sl.nil))) (c_api_Value (api_Value.mk v_.Kind v_.Flag r35 v_.Words Sl.nil Sl.nil)) (by simp only [e_api_Value]; rfl) rfl (by simp only [e_api_Value]; exact Nat.le_of_ble_eq_true rfl) (by simp only [e_api_Value]; rfl))) <| nl <| rt ?_
          obtain rfl := Option.some.inj hF0
          exact mut_leaf (.inr rfl) (res_cell (ld_fr (y := (.agg (c_api_Value (api_Value.mk v_.Kind v_.Flag r35 v_.Words Sl.nil Sl.nil)))) rfl rfl (cs := (c_api_Value (api_Value.mk v_.Kind v_.Flag r35 v_.Words Sl.nil Sl.nil))) rfl (by simp only [e_api_Value]; rfl)) (res_nil)) (retV_pl _ _ (.agg (c_api_Value (api_Value.mk v_.Kind v_.Flag r35 v_.Words Sl.nil Sl.nil)))) hk13 hs13
        · replace hF0 := ite_f hF0 (beq_f hc79)
          refine sq <| rg <| L (bA (v_.Kind == 3)) rfl rfl rfl <| L (bA (v_.Kind == 3)) rfl rfl rfl <| nl <| cd (v_.Kind == 3) rfl (fun hc78 => ?_) (fun hc78 => ?_)
          · replace hF0 := ite_t hF0 (beq_t hc78)
            refine rg <| L (.ptr d0 w0 0) rfl rfl rfl <| L (Sl.av 1 c_str (Sl.full [[], [97], [98], [97, 32, 98], [120, 34, 121, 92, 122], [195, 169, 10, 9], [1, 127], [49, 50], [45, 51], [65, 98, 44, 99, 68]] : Sl Str)) rfl rfl (op_sliceN rfl rfl rfl) ?_
            obtain ⟨⟨r41, s_10⟩, h14, hF0⟩ := bind_some hF0
            refine WO_mutP (g := 18) (args := fun p => [p, (Sl.av 1 c_str (Sl.full [[], [97], [98], [97, 32, 98], [120, 34, 121, 92, 122], [195, 169, 10, 9], [1, 127], [49, 50], [45, 51], [65, 98, 44, 99, 68]] : Sl Str))]) (d := d0) (v := w0) (r := (sA r41)) _ _ rfl rfl rfl rfl rfl rfl rfl (fun _ _ => inferInstance) hh0 hk7 (ok_gatemake_Stream_Some _ _ h14) (fun out14 glob14 hk14 hs14 => ?_)
            replace hs14 := hs7.trans hs14
            refine L (.ptr (.fr 0 5) 1 3) rfl rfl rfl <| L (.tup []) (h' := ⟨upd _ 5 ⟨1, .cells (c_api_Value (api_Value.mk v_.Kind v_.Flag v_.Number r41 Sl.nil Sl.nil))⟩, _, _⟩) rfl rfl (op_store rfl rfl (st_fr (x := (sA r41)) (cs := (c_api_Value (api_Value.mk v_.Kind v_.Flag v_.Number v_.Words Sl.nil Sl.nil))) (c_api_Value (api_Value.mk v_.Kind v_.Flag v_.Number r41 Sl.nil Sl.nil)) rfl rfl (by simp only [e_api_Value]; exact Nat.le_of_ble_eq_true rfl) (by simp only [e_api_Value]; rfl))) <| nl <| sq <| rg <| L (.agg (c_api_Value (api_Value.mk v_.Kind v_.Flag v_.Number r41 Sl.nil Sl.nil))) rfl rfl (op_load rfl (ld_con (.agg (c_api_Value (api_Value.mk v_.Kind v_.Flag v_.Number r41 Sl.nil Sl.nil))) rfl rfl (cs := (c_api_Value (api_Value.mk v_.Kind v_.Flag v_.Number r41 Sl.nil Sl.nil))) (con_fr rfl) (by simp only [e_api_Value]; rfl))) <| L (.tup []) (h' := ⟨upd _ 4 ⟨1, .cells (c_api_Value (api_Value.mk v_.Kind v_.Flag v_.Number r41 Sl.nil Sl.nil))⟩, _, _⟩) rfl rfl (op_store rfl rfl (st_fr (x := (.agg (c_api_Value (api_Value.mk v_.Kind v_.Flag v_.Number r41 Sl.nil Sl.nil)))) (cs := (c_api_Value (api_Value.mk 0 false 0 [] Sl.nil Sl.nil))) (c_api_Value (api_Value.mk v_.Kind v_.Flag v_.Number r41 Sl.nil Sl.nil)) (by simp only [e_api_Value]; rfl) rfl (by simp only [e_api_Value]; exact Nat.le_of_ble_eq_true rfl) (by simp only [e_api_Value]; rfl))) <| nl <| rt ?_
            obtain rfl := Option.some.inj hF0
            exact mut_leaf (.inr rfl) (res_cell (ld_fr (y := (.agg (c_api_Value (api_Value.mk v_.Kind v_.Flag v_.Number r41 Sl.nil Sl.nil)))) rfl rfl (cs := (c_api_Value (api_Value.mk v_.Kind v_.Flag v_.Number r41 Sl.nil Sl.nil))) rfl (by simp only [e_api_Value]; rfl)) (res_nil)) (retV_pl _ _ (.agg (c_api_Value (api_Value.mk v_.Kind v_.Flag v_.Number r41 Sl.nil Sl.nil)))) hk14 hs14
          · replace hF0 := ite_f hF0 (beq_f hc78)
            refine sq <| rg <| L (bA (v_.Kind == 4)) rfl rfl rfl <| L (bA (v_.Kind == 4)) rfl rfl rfl <| nl <| cd (v_.Kind == 4) rfl (fun hc77 => ?_) (fun hc77 => ?_)
            · replace hF0 := ite_t hF0 (beq_t hc77)
              refine sq <| rg <| L (.ptr d0 w0 0) rfl rfl rfl ?_
              obtain ⟨⟨r46, s_11⟩, h15, hF0⟩ := bind_some hF0
              refine WO_mutP (g := 16) (args := fun p => [p, (iA 4)]) (d := d0) (v := w0) (r := (iA r46)) _ _ rfl rfl rfl rfl rfl rfl rfl (fun _ _ => inferInstance) hh0 hk7 (ok_gatemake_Stream_Next _ _ h15) (fun out15 glob15 hk15 hs15 => ?_)
              replace hs15 := hs7.trans hs15
              refine L (iA 0) rfl rfl rfl <| nl <| bk ?_
              obtain ⟨b1, hb31, hF0⟩ := bind_some hF0
              obtain ⟨hn31, hb31⟩ := ite_none hb31
              obtain ⟨J31, hJ31⟩ : ∃ J : St → Prop, ∀ st, J st ↔ (∃ (s_18 : gatemake_Stream) (v_4 : api_Value) (o71045 : AObj) (tm33 : Nat → AV) (cb33 : AE.Frame) (out33 : List AE.Frame) (glob33 : List AObj), st = ⟨tm33, ⟨cb33, out33, glob33⟩⟩ ∧ AllEq tm33 [(4, (.ptr (.fr 0 4) 1 0)), (5, (.ptr (.fr 0 5) 1 0))] ∧ AllEq cb33 [(4, ⟨1, .cells (c_api_Value (api_Value.mk 0 false 0 [] Sl.nil Sl.nil))⟩), (5, ⟨1, .cells [(iA v_4.Kind), (bA v_4.Flag), (iA v_4.Number), (sA v_4.Words), (Sl.lav (.fr 0 7104) o71045.ver v_4.List), (Sl.av 7 c_api_Member Sl.nil)]⟩), (7104, o71045)] ∧ LzF 6 c_api_Value o71045 v_4.List ∧ con2 out33 glob33 d0 w0 = .cells (c_gatemake_Stream s_18) ∧ Same d0 out glob out33 glob33 ∧ (s_18, v_4) = b1) := ⟨_, fun _ => Iff.rfl⟩
              obtain ⟨R31, hR31⟩ : ∃ R : Nat → (gatemake_Stream × api_Value) → St → Prop, ∀ i v st, R i v st ↔ (match v with | (s_17, v_3) => ∃ (o71044 : AObj) (tm32 : Nat → AV) (cb32 : AE.Frame) (out32 : List AE.Frame) (glob32 : List AObj), st = ⟨tm32, ⟨cb32, out32, glob32⟩⟩ ∧ AllEq tm32 [(0, (.ptr d0 w0 0)), (1, (iA deep)), (4, (.ptr (.fr 0 4) 1 0)), (5, (.ptr (.fr 0 5) 1 0)), (46, (iA r46)), (47, (iA ((i : Nat) : Int)))] ∧ AllEq cb32 [(4, ⟨1, .cells (c_api_Value (api_Value.mk 0 false 0 [] Sl.nil Sl.nil))⟩), (5, ⟨1, .cells [(iA v_3.Kind), (bA v_3.Flag), (iA v_3.Number), (sA v_3.Words), (Sl.lav (.fr 0 7104) o71044.ver v_3.List), (Sl.av 7 c_api_Member Sl.nil)]⟩), (7104, o71044)] ∧ LzF 6 c_api_Value o71044 v_3.List ∧ con2 out32 glob32 d0 w0 = .cells (c_gatemake_Stream s_17) ∧ Same d0 out glob out32 glob32) := ⟨_, fun _ _ _ => Iff.rfl⟩
              refine W_loopcut J31 (fun st hst => ?_) ?_
              · obtain ⟨s_18, v_4, o71045, tm33, cb33, out33, glob33, rfl, hT33, hC33, hz33_0, hk33, hs33, rfl⟩ := (hJ31 st).1 hst
                obtain ⟨tm33, rfl⟩ := allEq hT33
                obtain ⟨cb33, rfl⟩ := allEq hC33
                refine sq <| rg <| L (.agg [(iA v_4.Kind), (bA v_4.Flag), (iA v_4.Number), (sA v_4.Words), (Sl.lav (.fr 0 7104) o71045.ver v_4.List), (Sl.av 7 c_api_Member Sl.nil)]) rfl rfl (op_load rfl (ld_fr (y := (.agg [(iA v_4.Kind), (bA v_4.Flag), (iA v_4.Number), (sA v_4.Words), (Sl.lav (.fr 0 7104) o71045.ver v_4.List), (Sl.av 7 c_api_Member Sl.nil)])) (cs := [(iA v_4.Kind), (bA v_4.Flag), (iA v_4.Number), (sA v_4.Words), (Sl.lav (.fr 0 7104) o71045.ver v_4.List), (Sl.av 7 c_api_Member Sl.nil)]) rfl rfl rfl rfl)) <| L (.tup []) (h' := ⟨upd _ 4 ⟨1, .cells [(iA v_4.Kind), (bA v_4.Flag), (iA v_4.Number), (sA v_4.Words), (Sl.lav (.fr 0 7104) o71045.ver v_4.List), (Sl.av 7 c_api_Member Sl.nil)]⟩, _, _⟩) rfl rfl (op_store rfl rfl (st_fr0 (w := (.agg [(iA v_4.Kind), (bA v_4.Flag), (iA v_4.Number), (sA v_4.Words), (Sl.lav (.fr 0 7104) o71045.ver v_4.List), (Sl.av 7 c_api_Member Sl.nil)])) (vs := [(iA v_4.Kind), (bA v_4.Flag), (iA v_4.Number), (sA v_4.Words), (Sl.lav (.fr 0 7104) o71045.ver v_4.List), (Sl.av 7 c_api_Member Sl.nil)]) [(iA v_4.Kind), (bA v_4.Flag), (iA v_4.Number), (sA v_4.Words), (Sl.lav (.fr 0 7104) o71045.ver v_4.List), (Sl.av 7 c_api_Member Sl.nil)] rfl (by simp only [List.all_cons, List.all_nil, one_iA, one_bA, one_sA, one_int, one_lav1, one_av1, Bool.and_true]) rfl rfl (by simp only [e_api_Value]; exact Nat.le_of_ble_eq_true rfl) (by simp only [e_api_Value]; rfl))) <| nl <| rt ?_
                obtain rfl := Option.some.inj hF0
                exact mut_leaf (.inr rfl) (res_cell (ld_fr (y := (.agg [(iA v_4.Kind), (bA v_4.Flag), (iA v_4.Number), (sA v_4.Words), (Sl.lav (.fr 0 7104) o71045.ver v_4.List), (Sl.av 7 c_api_Member Sl.nil)])) rfl rfl (cs := [(iA v_4.Kind), (bA v_4.Flag), (iA v_4.Number), (sA v_4.Words), (Sl.lav (.fr 0 7104) o71045.ver v_4.List), (Sl.av 7 c_api_Member Sl.nil)]) rfl rfl) (res_nil)) (ret_agg (retL_cons (retV_pl _ _ (iA v_4.Kind)) (retL_cons (retV_pl _ _ (bA v_4.Flag)) (retL_cons (retV_pl _ _ (iA v_4.Number)) (retL_cons (retV_pl _ _ (sA v_4.Words)) (retL_cons (ret_lz rfl hz33_0) (retL_cons (retV_pl _ _ (Sl.av 7 c_api_Member Sl.nil)) (retL_nil))))))) (by simp only [e_api_Value]; rfl)) hk33 hs33
              · refine W_rangeL hb31 R31 ((hR31 _ _ _).2 ⟨(cb7 7104), _, _, _, _, rfl, (And.intro rfl (And.intro rfl (And.intro rfl (And.intro rfl (And.intro rfl (And.intro rfl True.intro)))))), (And.intro rfl (And.intro rfl (And.intro rfl True.intro))), True.intro, hk15, hs15⟩) ?_ ?_
                · intro i hi31 v st s hr hF1 hD1
                  obtain ⟨s_17, v_3⟩ := v
                  obtain ⟨o71044, tm32, cb32, out32, glob32, rfl, hT32, hC32, hz32_0, hk32, hs32⟩ := (hR31 _ _ _).1 hr
                  obtain ⟨tm32, rfl⟩ := allEq hT32
                  obtain ⟨cb32, rfl⟩ := allEq hC32
                  dsimp only [gatemake_Stream_RightValue_l0] at hF1
                  refine sq (rg ?_)
                  refine WO_do (y := (bA (decide (((i : Nat) : Int) < r46)))) _ rfl rfl rfl (nl ?_)
                  refine sq <| cd true (congrArg some (rangeN_lt hi31)) (fun _ => ?_) (fun h => absurd h (by decide))
                  refine sk <| sq <| bk <| sq <| rg <| L (iA deep) rfl rfl rfl <| L (bA (decide (deep > 0))) rfl rfl rfl <| nl <| cd (decide (deep > 0)) rfl (fun hc37 => ?_) (fun hc37 => ?_)
                  · replace hF1 := ite_t hF1 (dec_t hc37)
                    refine dw (by kernel_rfl) <| L (.ptr (.fr 0 5) 1 4) rfl rfl rfl <| L (Sl.lav (.fr 0 7104) o71044.ver v_3.List) rfl rfl (op_loadO rfl rfl (ld_fr (y := (Sl.lav (.fr 0 7104) o71044.ver v_3.List)) (cs := [(iA v_3.Kind), (bA v_3.Flag), (iA v_3.Number), (sA v_3.Words), (Sl.lav (.fr 0 7104) o71044.ver v_3.List), (Sl.av 7 c_api_Member Sl.nil)]) rfl rfl rfl rfl)) <| L (.ptr d0 w0 0) rfl rfl rfl <| L (iA deep) rfl rfl rfl <| L (iA (w64 (deep - 1))) rfl rfl rfl ?_
                    obtain ⟨⟨r563, s_19⟩, h35, hF1⟩ := bind_some hF1
                    refine WO_mutA (g := 15) (args := fun p => [p, (iA (w64 (deep - 1)))]) (d := d0) (v := w0) (r := (.agg (c_api_Value r563))) _ _ rfl rfl rfl rfl rfl rfl rfl (by kernel_rfl) (fun _ _ => inferInstance) (far_ptr hh0 (far_pl (far_nil))) hh0 hk32 (ih_gatemake_Stream_RightValue _ _ h35) (fun out35 glob35 hk35 hs35 => ?_)
                    replace hs35 := hs32.trans hs35
                    refine L (Sl.av 6 c_api_Value (Sl.full [r563] : Sl api_Value)) rfl rfl (op_sliceN rfl rfl (slice_of rfl rfl rfl (by decide) (fillS_cons (x := (.agg (c_api_Value r563))) (by simp only [e_api_Value]; rfl) (Nat.le_of_ble_eq_true rfl) (fillS_nil)))) ?_
                    obtain ⟨ls3, h_ls3, hF1⟩ := bind_some hF1
                    refine WO_lzapp (s := 7104) (x := v_3.List) (x' := ls3) (o := o71044) (n := 6) (c := c_api_Value) (xs := [r563]) (y := (Sl.av 6 c_api_Value (Sl.full [r563] : Sl api_Value))) _ rfl rfl rfl rfl rfl rfl (by kernel_rfl) rfl rfl rfl rfl rfl (z := (c_api_Value (api_Value.mk 0 false 0 [] Sl.nil Sl.nil))) rfl rfl (by simp only [e_api_Value]; rfl) rfl (by simp only [e_api_Value]; rfl) (by decide) (fun _ => (by simp only [e_api_Value]; rfl)) rfl rfl rfl hz32_0 h_ls3 (fun o71046 hz_36 => ?_)
                    exact L (.ptr (.fr 0 5) 1 4) rfl rfl rfl <| L (.tup []) (h' := ⟨upd _ 5 ⟨1, .cells [(iA v_3.Kind), (bA v_3.Flag), (iA v_3.Number), (sA v_3.Words), (Sl.lav (.fr 0 7104) o71046.ver ls3), (Sl.av 7 c_api_Member Sl.nil)]⟩, _, _⟩) rfl rfl (op_store rfl (by kernel_rfl) (st_fr0 (w := (Sl.lav (.fr 0 7104) o71046.ver ls3)) [(iA v_3.Kind), (bA v_3.Flag), (iA v_3.Number), (sA v_3.Words), (Sl.lav (.fr 0 7104) o71046.ver ls3), (Sl.av 7 c_api_Member Sl.nil)] (cells_lav _ _ _) (one_lav _ _ _) rfl rfl (Nat.le_of_ble_eq_true rfl) rfl)) <| nl <| rg <| WO_do (y := (iA ((i + 1 : Nat) : Int))) _ rfl rfl (congrArg (fun n => some (AV.int .i64 n, _)) (rangeN_len hi31 hn31)) <| WO_do (y := (iA ((i + 1 : Nat) : Int))) _ rfl rfl rfl <| nl <| Exists.intro _ (And.intro (Option.some.inj hF1).symm ((hR31 _ _ _).2 ⟨o71046, _, _, _, _, rfl, (And.intro rfl (And.intro rfl (And.intro rfl (And.intro rfl (And.intro rfl (And.intro rfl True.intro)))))), (And.intro rfl (And.intro rfl (And.intro rfl True.intro))), hz_36, hk35, hs35⟩))
                  · replace hF1 := ite_f hF1 (dec_f hc37)
                    exact sk <| rg <| WO_do (y := (iA ((i + 1 : Nat) : Int))) _ rfl rfl (congrArg (fun n => some (AV.int .i64 n, _)) (rangeN_len hi31 hn31)) <| WO_do (y := (iA ((i + 1 : Nat) : Int))) _ rfl rfl rfl <| nl <| Exists.intro _ (And.intro (Option.some.inj hF1).symm ((hR31 _ _ _).2 ⟨o71044, _, _, _, _, rfl, (And.intro rfl (And.intro rfl (And.intro rfl (And.intro rfl (And.intro rfl (And.intro rfl True.intro)))))), (And.intro rfl (And.intro rfl (And.intro rfl True.intro))), hz32_0, hk32, hs32⟩))
                · intro v st hr hD1
                  obtain ⟨s_17, v_3⟩ := v
                  obtain ⟨o71044, tm32, cb32, out32, glob32, rfl, hT32, hC32, hz32_0, hk32, hs32⟩ := (hR31 _ _ _).1 hr
                  obtain ⟨tm32, rfl⟩ := allEq hT32
                  obtain ⟨cb32, rfl⟩ := allEq hC32
                  refine sq (rg ?_)
                  refine WO_do (y := .bool false) _ rfl rfl (congrArg (fun b => some (AV.bool b, _)) (rangeN_ge _)) (nl ?_)
                  refine sq <| cd false rfl (fun h => absurd h (by decide)) (fun _ => ?_)
                  exact xt <| (hJ31 _).2 ⟨s_17, (api_Value.mk v_3.Kind v_3.Flag v_3.Number v_3.Words v_3.List Sl.nil), o71044, _, _, _, _, rfl, (And.intro rfl (And.intro rfl True.intro)), (And.intro rfl (And.intro rfl (And.intro rfl True.intro))), hz32_0, hk32, hs32, hD1⟩
            · replace hF0 := ite_f hF0 (beq_f hc77)
              refine sq <| rg <| L (bA (v_.Kind == 5)) rfl rfl rfl <| L (bA (v_.Kind == 5)) rfl rfl rfl <| nl <| cd (v_.Kind == 5) rfl (fun hc76 => ?_) (fun hc76 => ?_)
              · replace hF0 := ite_t hF0 (beq_t hc76)
                refine sq <| rg <| L (Sl.av 1 c_str (Sl.full [[], [97], [98], [99, 32, 100], [110], [115]] : Sl Str)) rfl rfl (op_sliceN rfl rfl rfl) <| L (iA ((Sl.full [[], [97], [98], [99, 32, 100], [110], [115]] : Sl Str).list.length : Int)) rfl rfl (op_len rfl rfl rfl rfl rfl rfl) <| L (iA 0) rfl rfl rfl <| nl <| bk ?_
                obtain ⟨b1, hb65, hF0⟩ := bind_some hF0
                obtain ⟨hn65, hb65⟩ := ite_none hb65
                obtain ⟨J65, hJ65⟩ : ∃ J : St → Prop, ∀ st, J st ↔ (∃ (s_35 : gatemake_Stream) (v_8 : api_Value) (o71055 : AObj) (tm67 : Nat → AV) (cb67 : AE.Frame) (out67 : List AE.Frame) (glob67 : List AObj), st = ⟨tm67, ⟨cb67, out67, glob67⟩⟩ ∧ AllEq tm67 [(4, (.ptr (.fr 0 4) 1 0)), (5, (.ptr (.fr 0 5) 1 0))] ∧ AllEq cb67 [(4, ⟨1, .cells (c_api_Value (api_Value.mk 0 false 0 [] Sl.nil Sl.nil))⟩), (5, ⟨1, .cells [(iA v_8.Kind), (bA v_8.Flag), (iA v_8.Number), (sA v_8.Words), (Sl.av 6 c_api_Value Sl.nil), (Sl.lav (.fr 0 7105) o71055.ver v_8.Members)]⟩), (7105, o71055)] ∧ LzF 7 c_api_Member o71055 v_8.Members ∧ con2 out67 glob67 d0 w0 = .cells (c_gatemake_Stream s_35) ∧ Same d0 out glob out67 glob67 ∧ (s_35, v_8) = b1) := ⟨_, fun _ => Iff.rfl⟩
                obtain ⟨R65, hR65⟩ : ∃ R : Nat → (gatemake_Stream × api_Value) → St → Prop, ∀ i1 v st, R i1 v st ↔ (match v with | (s_34, v_7) => ∃ (o71054 : AObj) (tm66 : Nat → AV) (cb66 : AE.Frame) (out66 : List AE.Frame) (glob66 : List AObj), st = ⟨tm66, ⟨cb66, out66, glob66⟩⟩ ∧ AllEq tm66 [(0, (.ptr d0 w0 0)), (1, (iA deep)), (4, (.ptr (.fr 0 4) 1 0)), (5, (.ptr (.fr 0 5) 1 0)), (63, (Sl.av 1 c_str (Sl.full [[], [97], [98], [99, 32, 100], [110], [115]] : Sl Str))), (64, (iA ((Sl.full [[], [97], [98], [99, 32, 100], [110], [115]] : Sl Str).list.length : Int))), (65, (iA ((i1 : Nat) : Int)))] ∧ AllEq cb66 [(4, ⟨1, .cells (c_api_Value (api_Value.mk 0 false 0 [] Sl.nil Sl.nil))⟩), (5, ⟨1, .cells [(iA v_7.Kind), (bA v_7.Flag), (iA v_7.Number), (sA v_7.Words), (Sl.av 6 c_api_Value Sl.nil), (Sl.lav (.fr 0 7105) o71054.ver v_7.Members)]⟩), (7105, o71054)] ∧ LzF 7 c_api_Member o71054 v_7.Members ∧ con2 out66 glob66 d0 w0 = .cells (c_gatemake_Stream s_34) ∧ Same d0 out glob out66 glob66) := ⟨_, fun _ _ _ => Iff.rfl⟩
                refine W_loopcut J65 (fun st hst => ?_) ?_
                · obtain ⟨s_35, v_8, o71055, tm67, cb67, out67, glob67, rfl, hT67, hC67, hz67_0, hk67, hs67, rfl⟩ := (hJ65 st).1 hst
                  obtain ⟨tm67, rfl⟩ := allEq hT67
                  obtain ⟨cb67, rfl⟩ := allEq hC67
                  refine sq <| rg <| L (.agg [(iA v_8.Kind), (bA v_8.Flag), (iA v_8.Number), (sA v_8.Words), (Sl.av 6 c_api_Value Sl.nil), (Sl.lav (.fr 0 7105) o71055.ver v_8.Members)]) rfl rfl (op_load rfl (ld_fr (y := (.agg [(iA v_8.Kind), (bA v_8.Flag), (iA v_8.Number), (sA v_8.Words), (Sl.av 6 c_api_Value Sl.nil), (Sl.lav (.fr 0 7105) o71055.ver v_8.Members)])) (cs := [(iA v_8.Kind), (bA v_8.Flag), (iA v_8.Number), (sA v_8.Words), (Sl.av 6 c_api_Value Sl.nil), (Sl.lav (.fr 0 7105) o71055.ver v_8.Members)]) rfl rfl rfl rfl)) <| L (.tup []) (h' := ⟨upd _ 4 ⟨1, .cells [(iA v_8.Kind), (bA v_8.Flag), (iA v_8.Number), (sA v_8.Words), (Sl.av 6 c_api_Value Sl.nil), (Sl.lav (.fr 0 7105) o71055.ver v_8.Members)]⟩, _, _⟩) rfl rfl (op_store rfl rfl (st_fr0 (w := (.agg [(iA v_8.Kind), (bA v_8.Flag), (iA v_8.Number), (sA v_8.Words), (Sl.av 6 c_api_Value Sl.nil), (Sl.lav (.fr 0 7105) o71055.ver v_8.Members)])) (vs := [(iA v_8.Kind), (bA v_8.Flag), (iA v_8.Number), (sA v_8.Words), (Sl.av 6 c_api_Value Sl.nil), (Sl.lav (.fr 0 7105) o71055.ver v_8.Members)]) [(iA v_8.Kind), (bA v_8.Flag), (iA v_8.Number), (sA v_8.Words), (Sl.av 6 c_api_Value Sl.nil), (Sl.lav (.fr 0 7105) o71055.ver v_8.Members)] rfl (by simp only [List.all_cons, List.all_nil, one_iA, one_bA, one_sA, one_int, one_lav1, one_av1, Bool.and_true]) rfl rfl (by simp only [e_api_Value]; exact Nat.le_of_ble_eq_true rfl) (by simp only [e_api_Value]; rfl))) <| nl <| rt ?_
                  obtain rfl := Option.some.inj hF0
                  exact mut_leaf (.inr rfl) (res_cell (ld_fr (y := (.agg [(iA v_8.Kind), (bA v_8.Flag), (iA v_8.Number), (sA v_8.Words), (Sl.av 6 c_api_Value Sl.nil), (Sl.lav (.fr 0 7105) o71055.ver v_8.Members)])) rfl rfl (cs := [(iA v_8.Kind), (bA v_8.Flag), (iA v_8.Number), (sA v_8.Words), (Sl.av 6 c_api_Value Sl.nil), (Sl.lav (.fr 0 7105) o71055.ver v_8.Members)]) rfl rfl) (res_nil)) (ret_agg (retL_cons (retV_pl _ _ (iA v_8.Kind)) (retL_cons (retV_pl _ _ (bA v_8.Flag)) (retL_cons (retV_pl _ _ (iA v_8.Number)) (retL_cons (retV_pl _ _ (sA v_8.Words)) (retL_cons (retV_pl _ _ (Sl.av 6 c_api_Value Sl.nil)) (retL_cons (ret_lz rfl hz67_0) (retL_nil))))))) (by simp only [e_api_Value]; rfl)) hk67 hs67
                · refine W_rangeL hb65 R65 ((hR65 _ _ _).2 ⟨(cb7 7105), _, _, _, _, rfl, (And.intro rfl (And.intro rfl (And.intro rfl (And.intro rfl (And.intro rfl (And.intro rfl (And.intro rfl True.intro))))))), (And.intro rfl (And.intro rfl (And.intro rfl True.intro))), True.intro, hk7, hs7⟩) ?_ ?_
                  · intro i1 hi65 v st s hr hF1 hD1
                    obtain ⟨s_34, v_7⟩ := v
                    obtain ⟨o71054, tm66, cb66, out66, glob66, rfl, hT66, hC66, hz66_0, hk66, hs66⟩ := (hR65 _ _ _).1 hr
                    obtain ⟨tm66, rfl⟩ := allEq hT66
                    obtain ⟨cb66, rfl⟩ := allEq hC66
                    obtain ⟨n, hx65⟩ : ∃ x, x = (Sl.full [[], [97], [98], [99, 32, 100], [110], [115]] : Sl Str).list[i1] := ⟨_, rfl⟩
                    rw [← hx65] at hF1
                    dsimp only [gatemake_Stream_RightValue_l1] at hF1
                    refine sq (rg ?_)
                    refine WO_do (y := (bA (decide (((i1 : Nat) : Int) < ((Sl.full [[], [97], [98], [99, 32, 100], [110], [115]] : Sl Str).list.length : Int))))) _ rfl rfl rfl (nl ?_)
                    refine sq <| cd true (congrArg some (range_lt hi65)) (fun _ => ?_) (fun h => absurd h (by decide))
                    refine sk <| sq <| bk <| sq <| rg <| L (.cptr [(sA n)]) rfl rfl (op_ix rfl ((ix_at (c := c_str) rfl rfl hi65).trans (congrArg (fun x => some (AV.cptr (c_str x))) hx65.symm))) <| L (sA n) rfl rfl rfl <| L (sA n) rfl rfl rfl <| nl <| sq <| rg <| L (iA deep) rfl rfl rfl <| L (bA (decide (deep > 0))) rfl rfl rfl ?_
                    obtain ⟨y70, hF2, hF1⟩ := bind_some hF1
                    obtain ⟨J70, hJ70⟩ : ∃ J : St → Prop, ∀ st, J st ↔ (∃ (s_37 : gatemake_Stream) (t743 : Bool) (tm71 : Nat → AV) (cb71 : AE.Frame) (out71 : List AE.Frame) (glob71 : List AObj), st = ⟨tm71, ⟨cb71, out71, glob71⟩⟩ ∧ AllEq tm71 [(0, (.ptr d0 w0 0)), (1, (iA deep)), (4, (.ptr (.fr 0 4) 1 0)), (5, (.ptr (.fr 0 5) 1 0)), (7, (sA n)), (63, (Sl.av 1 c_str (Sl.full [[], [97], [98], [99, 32, 100], [110], [115]] : Sl Str))), (64, (iA ((Sl.full [[], [97], [98], [99, 32, 100], [110], [115]] : Sl Str).list.length : Int))), (65, (iA ((i1 : Nat) : Int))), (74, (bA t743))] ∧ AllEq cb71 [(4, ⟨1, .cells (c_api_Value (api_Value.mk 0 false 0 [] Sl.nil Sl.nil))⟩), (5, ⟨1, .cells [(iA v_7.Kind), (bA v_7.Flag), (iA v_7.Number), (sA v_7.Words), (Sl.av 6 c_api_Value Sl.nil), (Sl.lav (.fr 0 7105) o71054.ver v_7.Members)]⟩), (7105, o71054)] ∧ LzF 7 c_api_Member o71054 v_7.Members ∧ con2 out71 glob71 d0 w0 = .cells (c_gatemake_Stream s_37) ∧ Same d0 out glob out71 glob71 ∧ (s_37, t743) = y70) := ⟨_, fun _ => Iff.rfl⟩
                    refine WO_cut 4 J70 (fun st hst => ?_) ?_
                    · obtain ⟨s_37, t743, tm71, cb71, out71, glob71, rfl, hT71, hC71, hz71_0, hk71, hs71, rfl⟩ := (hJ70 st).1 hst
                      obtain ⟨tm71, rfl⟩ := allEq hT71
                      obtain ⟨cb71, rfl⟩ := allEq hC71
                      refine nl <| cd t743 rfl (fun hc74 => ?_) (fun hc74 => ?_)
                      · replace hF1 := ite_t hF1 (hc74)
                        refine dw (by kernel_rfl) <| L (.ptr (.fr 0 5) 1 5) rfl rfl rfl <| L (Sl.lav (.fr 0 7105) o71054.ver v_7.Members) rfl rfl (op_loadO rfl rfl (ld_fr (y := (Sl.lav (.fr 0 7105) o71054.ver v_7.Members)) (cs := [(iA v_7.Kind), (bA v_7.Flag), (iA v_7.Number), (sA v_7.Words), (Sl.av 6 c_api_Value Sl.nil), (Sl.lav (.fr 0 7105) o71054.ver v_7.Members)]) rfl rfl rfl rfl)) <| L (sA n) rfl rfl rfl <| L (.ptr d0 w0 0) rfl rfl rfl <| L (iA deep) rfl rfl rfl <| L (iA (w64 (deep - 1))) rfl rfl rfl ?_
                        obtain ⟨⟨r813, s_38⟩, h72, hF1⟩ := bind_some hF1
                        refine WO_mutA (g := 15) (args := fun p => [p, (iA (w64 (deep - 1)))]) (d := d0) (v := w0) (r := (.agg (c_api_Value r813))) _ _ rfl rfl rfl rfl rfl rfl rfl (by kernel_rfl) (fun _ _ => inferInstance) (far_ptr hh0 (far_pl (far_nil))) hh0 hk71 (ih_gatemake_Stream_RightValue _ _ h72) (fun out72 glob72 hk72 hs72 => ?_)
                        replace hs72 := hs71.trans hs72
                        refine L (.agg (c_api_Member (api_Member.mk n r813))) rfl rfl (op_build rfl (build_eq (cs := (c_api_Member (api_Member.mk n r813))) rfl rfl rfl (fill_cons (x := (sA n)) rfl rfl (Nat.le_of_ble_eq_true rfl) (fill_cons (x := (.agg (c_api_Value r813))) rfl (by simp only [e_api_Value]; rfl) (by simp only [e_api_Value]; exact Nat.le_of_ble_eq_true rfl) (fill_nil))) (by simp only [e_api_Member, e_api_Value]; rfl))) <| L (Sl.av 7 c_api_Member (Sl.full [(api_Member.mk n r813)] : Sl api_Member)) rfl rfl (op_sliceN rfl rfl (slice_of rfl rfl rfl (by decide) (fillS_cons (x := (.agg (c_api_Member (api_Member.mk n r813)))) (by simp only [e_api_Member, e_api_Value]; rfl) (Nat.le_of_ble_eq_true rfl) (fillS_nil)))) ?_
                        obtain ⟨ls7, h_ls7, hF1⟩ := bind_some hF1
                        refine WO_lzapp (s := 7105) (x := v_7.Members) (x' := ls7) (o := o71054) (n := 7) (c := c_api_Member) (xs := [(api_Member.mk n r813)]) (y := (Sl.av 7 c_api_Member (Sl.full [(api_Member.mk n r813)] : Sl api_Member))) _ rfl rfl rfl rfl rfl rfl (by kernel_rfl) rfl rfl rfl rfl rfl (z := (c_api_Member (api_Member.mk [] (api_Value.mk 0 false 0 [] Sl.nil Sl.nil)))) rfl rfl (by simp only [e_api_Member, e_api_Value]; rfl) rfl (by simp only [e_api_Member, e_api_Value]; rfl) (by decide) (fun _ => (by simp only [e_api_Member, e_api_Value]; rfl)) rfl rfl rfl hz71_0 h_ls7 (fun o71056 hz_73 => ?_)
                        exact L (.ptr (.fr 0 5) 1 5) rfl rfl rfl <| L (.tup []) (h' := ⟨upd _ 5 ⟨1, .cells [(iA v_7.Kind), (bA v_7.Flag), (iA v_7.Number), (sA v_7.Words), (Sl.av 6 c_api_Value Sl.nil), (Sl.lav (.fr 0 7105) o71056.ver ls7)]⟩, _, _⟩) rfl rfl (op_store rfl (by kernel_rfl) (st_fr0 (w := (Sl.lav (.fr 0 7105) o71056.ver ls7)) [(iA v_7.Kind), (bA v_7.Flag), (iA v_7.Number), (sA v_7.Words), (Sl.av 6 c_api_Value Sl.nil), (Sl.lav (.fr 0 7105) o71056.ver ls7)] (cells_lav _ _ _) (one_lav _ _ _) rfl rfl (Nat.le_of_ble_eq_true rfl) rfl)) <| nl <| rg <| WO_do (y := (iA ((i1 + 1 : Nat) : Int))) _ rfl rfl (congrArg (fun n => some (AV.int .i64 n, _)) (range_len hi65 hn65)) <| WO_do (y := (iA ((i1 + 1 : Nat) : Int))) _ rfl rfl rfl <| nl <| Exists.intro _ (And.intro (Option.some.inj hF1).symm ((hR65 _ _ _).2 ⟨o71056, _, _, _, _, rfl, (And.intro rfl (And.intro rfl (And.intro rfl (And.intro rfl (And.intro rfl (And.intro rfl (And.intro rfl True.intro))))))), (And.intro rfl (And.intro rfl (And.intro rfl True.intro))), hz_73, hk72, hs72⟩))
                      · replace hF1 := ite_f hF1 (not_t hc74)
                        exact sk <| rg <| WO_do (y := (iA ((i1 + 1 : Nat) : Int))) _ rfl rfl (congrArg (fun n => some (AV.int .i64 n, _)) (range_len hi65 hn65)) <| WO_do (y := (iA ((i1 + 1 : Nat) : Int))) _ rfl rfl rfl <| nl <| Exists.intro _ (And.intro (Option.some.inj hF1).symm ((hR65 _ _ _).2 ⟨o71054, _, _, _, _, rfl, (And.intro rfl (And.intro rfl (And.intro rfl (And.intro rfl (And.intro rfl (And.intro rfl (And.intro rfl True.intro))))))), (And.intro rfl (And.intro rfl (And.intro rfl True.intro))), hz71_0, hk71, hs71⟩))
                    · rcases bool_cases (decide (deep > 0)) with hc70 | hc70
                      · replace hF2 := ite_t hF2 (dec_t hc70)
                        refine L (.bool true) rfl rfl (congrArg (fun b => some (AV.bool b, _)) hc70) <| L (.ptr d0 w0 0) rfl rfl rfl ?_
                        obtain ⟨⟨r737, s_39⟩, h75, hF2⟩ := bind_some hF2
                        refine WO_mutP (g := 5) (args := fun p => [p, (iA 3)]) (d := d0) (v := w0) (r := (bA r737)) _ _ rfl rfl rfl rfl rfl rfl rfl (fun _ _ => inferInstance) hh0 hk66 (ok_gatemake_Stream_Flip _ _ h75) (fun out75 glob75 hk75 hs75 => ?_)
                        replace hs75 := hs66.trans hs75
                        exact L (bA r737) rfl rfl rfl <| nl ((hJ70 _).2 ⟨s_39, r737, _, _, _, _, rfl, (And.intro rfl (And.intro rfl (And.intro rfl (And.intro rfl (And.intro rfl (And.intro rfl (And.intro rfl (And.intro rfl (And.intro rfl True.intro))))))))), (And.intro rfl (And.intro rfl (And.intro rfl True.intro))), hz66_0, hk75, hs75, Option.some.inj hF2⟩)
                      · replace hF2 := ite_f hF2 (dec_f hc70)
                        exact L (.bool false) rfl rfl (congrArg (fun b => some (AV.bool b, _)) hc70) <| WO_no _ rfl rfl <| WO_no _ rfl rfl <| L (bA false) rfl rfl rfl <| nl ((hJ70 _).2 ⟨s_34, false, _, _, _, _, rfl, (And.intro rfl (And.intro rfl (And.intro rfl (And.intro rfl (And.intro rfl (And.intro rfl (And.intro rfl (And.intro rfl (And.intro rfl True.intro))))))))), (And.intro rfl (And.intro rfl (And.intro rfl True.intro))), hz66_0, hk66, hs66, Option.some.inj hF2⟩)
                  · intro v st hr hD1
                    obtain ⟨s_34, v_7⟩ := v
                    obtain ⟨o71054, tm66, cb66, out66, glob66, rfl, hT66, hC66, hz66_0, hk66, hs66⟩ := (hR65 _ _ _).1 hr
                    obtain ⟨tm66, rfl⟩ := allEq hT66
                    obtain ⟨cb66, rfl⟩ := allEq hC66
                    refine sq (rg ?_)
                    refine WO_do (y := .bool false) _ rfl rfl (congrArg (fun b => some (AV.bool b, _)) (range_ge _)) (nl ?_)
                    refine sq <| cd false rfl (fun h => absurd h (by decide)) (fun _ => ?_)
                    exact xt <| (hJ65 _).2 ⟨s_34, (api_Value.mk v_7.Kind v_7.Flag v_7.Number v_7.Words Sl.nil v_7.Members), o71054, _, _, _, _, rfl, (And.intro rfl (And.intro rfl True.intro)), (And.intro rfl (And.intro rfl (And.intro rfl True.intro))), hz66_0, hk66, hs66, hD1⟩
              · replace hF0 := ite_f hF0 (beq_f hc76)
                refine sk <| sq <| rg <| L (.agg (c_api_Value (api_Value.mk v_.Kind v_.Flag v_.Number v_.Words Sl.nil Sl.nil))) rfl rfl (op_load rfl (ld_con (.agg (c_api_Value (api_Value.mk v_.Kind v_.Flag v_.Number v_.Words Sl.nil Sl.nil))) rfl rfl (cs := (c_api_Value (api_Value.mk v_.Kind v_.Flag v_.Number v_.Words Sl.nil Sl.nil))) (con_fr rfl) (by simp only [e_api_Value]; rfl))) <| L (.tup []) (h' := ⟨upd _ 4 ⟨1, .cells (c_api_Value (api_Value.mk v_.Kind v_.Flag v_.Number v_.Words Sl.nil Sl.nil))⟩, _, _⟩) rfl rfl (op_store rfl rfl (st_fr (x := (.agg (c_api_Value (api_Value.mk v_.Kind v_.Flag v_.Number v_.Words Sl.nil Sl.nil)))) (cs := (c_api_Value (api_Value.mk 0 false 0 [] Sl.nil Sl.nil))) (c_api_Value (api_Value.mk v_.Kind v_.Flag v_.Number v_.Words Sl.nil Sl.nil)) (by simp only [e_api_Value]; rfl) rfl (by simp only [e_api_Value]; exact Nat.le_of_ble_eq_true rfl) (by simp only [e_api_Value]; rfl))) <| nl <| rt ?_
                obtain rfl := Option.some.inj hF0
                exact mut_leaf (.inr rfl) (res_cell (ld_fr (y := (.agg (c_api_Value (api_Value.mk v_.Kind v_.Flag v_.Number v_.Words Sl.nil Sl.nil)))) rfl rfl (cs := (c_api_Value (api_Value.mk v_.Kind v_.Flag v_.Number v_.Words Sl.nil Sl.nil))) rfl (by simp only [e_api_Value]; rfl)) (res_nil)) (retV_pl _ _ (.agg (c_api_Value (api_Value.mk v_.Kind v_.Flag v_.Number v_.Words Sl.nil Sl.nil)))) hk7 hs7
    · refine cd t17 rfl (fun hc10 => ?_) (fun hc10 => ?_)
      · replace hF1 := ite_t hF1 (hc10)
        refine rg <| L (.ptr d0 w0 0) rfl rfl rfl <| L (Sl.av 1 c_i64 (Sl.full [4, 5, 5] : Sl Int)) rfl rfl (op_sliceN rfl rfl rfl) ?_
        obtain ⟨⟨r201, s_6⟩, h9, hF1⟩ := bind_some hF1
        refine WO_mutP (g := 22) (args := fun p => [p, (Sl.av 1 c_i64 (Sl.full [4, 5, 5] : Sl Int))]) (d := d0) (v := w0) (r := (iA r201)) _ _ rfl rfl rfl rfl rfl rfl rfl (fun _ _ => inferInstance) hh0 hk4 (ok_gatemake_Stream_Pick _ _ h9) (fun out9 glob9 hk9 hs9 => ?_)
        replace hs9 := hs4.trans hs9
        exact L (.ptr (.fr 0 5) 1 0) rfl rfl rfl <| L (.tup []) (h' := ⟨upd _ 5 ⟨1, .cells (c_api_Value (api_Value.mk r201 false 0 [] Sl.nil Sl.nil))⟩, _, _⟩) rfl rfl (op_store rfl rfl (st_fr (x := (iA r201)) (cs := (c_api_Value (api_Value.mk r10 false 0 [] Sl.nil Sl.nil))) (c_api_Value (api_Value.mk r201 false 0 [] Sl.nil Sl.nil)) rfl rfl (by simp only [e_api_Value]; exact Nat.le_of_ble_eq_true rfl) (by simp only [e_api_Value]; rfl))) <| nl <| (hJ8 _).2 ⟨s_6, (api_Value.mk r201 false 0 [] Sl.nil Sl.nil), _, _, _, _, rfl, (And.intro rfl (And.intro rfl (And.intro rfl (And.intro rfl True.intro)))), (And.intro rfl (And.intro rfl True.intro)), hk9, hs9, Option.some.inj hF1⟩
      · replace hF1 := ite_f hF1 (not_t hc10)
        exact sk <| (hJ8 _).2 ⟨s_3, (api_Value.mk r10 false 0 [] Sl.nil Sl.nil), _, _, _, _, rfl, (And.intro rfl (And.intro rfl (And.intro rfl (And.intro rfl True.intro)))), (And.intro rfl (And.intro rfl True.intro)), hk4, hs4, Option.some.inj hF1⟩
  · rcases bool_cases (decide (deep > 0)) with hc3 | hc3
    · replace hF1 := ite_t hF1 (dec_t hc3)
      refine L (.bool true) rfl rfl (congrArg (fun b => some (AV.bool b, _)) hc3) <| L (.ptr d0 w0 0) rfl rfl rfl ?_
      obtain ⟨⟨r161, s_40⟩, h81, hF1⟩ := bind_some hF1
      refine WO_mutP (g := 5) (args := fun p => [p, (iA 2)]) (d := d0) (v := w0) (r := (bA r161)) _ _ rfl rfl rfl rfl rfl rfl rfl (fun _ _ => inferInstance) hh0 hk1 (ok_gatemake_Stream_Flip _ _ h81) (fun out81 glob81 hk81 hs81 => ?_)
      replace hs81 := hs1.trans hs81
      exact L (bA r161) rfl rfl rfl <| nl ((hJ3 _).2 ⟨s_40, r161, _, _, _, _, rfl, (And.intro rfl (And.intro rfl (And.intro rfl (And.intro rfl (And.intro rfl True.intro))))), (And.intro rfl (And.intro rfl True.intro)), hk81, hs81, Option.some.inj hF1⟩)
    · replace hF1 := ite_f hF1 (dec_f hc3)
      exact L (.bool false) rfl rfl (congrArg (fun b => some (AV.bool b, _)) hc3) <| WO_no _ rfl rfl <| WO_no _ rfl rfl <| L (bA false) rfl rfl rfl <| nl ((hJ3 _).2 ⟨s_1, false, _, _, _, _, rfl, (And.intro rfl (And.intro rfl (And.intro rfl (And.intro rfl (And.intro rfl True.intro))))), (And.intro rfl (And.intro rfl True.intro)), hk1, hs1, Option.some.inj hF1⟩)
theorem ok_gatemake_Stream_RightValue (k : Nat) : (∀ (s_ : gatemake_Stream) (deep : Int) {r : (api_Value × gatemake_Stream)} (hF0 : gatemake_Stream_RightValue k s_ deep = some r), MutOk Tryd.prog pol 15 (fun p => [p, (iA deep)]) (c_gatemake_Stream s_) (.agg (c_api_Value r.1)) (c_gatemake_Stream r.2)) := (okg_gatemake_Stream_RightValue k)

theorem ok_gatemake_Stream_Range (s_ : gatemake_Stream) (low : Int) (high : Int) {r : (Int × gatemake_Stream)} (hF0 : gatemake_Stream_Range s_ low high = some r) : MutOk Tryd.prog pol 41 (fun p => [p, (iA low), (iA high)]) (c_gatemake_Stream s_) (iA r.1) (c_gatemake_Stream r.2) := by
 unfold gatemake_Stream_Range at hF0
 refine mut_walk Tryd.func41 rfl (fun _ => Nat.not_lt.2 (Nat.le_of_ble_eq_true rfl)) ?_
 intro out glob d0 w0 hh0 hk_0
 refine sq <| rg <| L (iA 0) rfl rfl rfl <| nl <| sq <| sq <| rg <| L (iA high) rfl rfl rfl <| L (iA low) rfl rfl rfl <| L (bA (decide (high < low))) rfl rfl rfl <| nl <| cd (decide (high < low)) rfl (fun hc2 => ?_) (fun hc2 => ?_)
 · replace hF0 := ite_t hF0 (dec_t hc2)
   refine sq <| rg <| L (iA low) rfl rfl rfl <| L (iA low) rfl rfl rfl <| nl <| rt ?_
   obtain rfl := Option.some.inj hF0
   exact mut_leaf (.inr rfl) rfl (retV_pl _ _ (iA low)) hk_0 (Same.refl _ _ _)
 · replace hF0 := ite_f hF0 (dec_f hc2)
   refine sk <| sq <| rg <| L (iA low) rfl rfl rfl <| L (.ptr d0 w0 0) rfl rfl rfl <| L (iA high) rfl rfl rfl <| L (iA low) rfl rfl rfl <| L (iA (w64 (high - low))) rfl rfl rfl <| L (iA (w64 ((w64 (high - low)) + 1))) rfl rfl rfl ?_
   obtain ⟨⟨r17, s_1⟩, h1, hF0⟩ := bind_some hF0
   refine WO_mutP (g := 16) (args := fun p => [p, (iA (w64 ((w64 (high - low)) + 1)))]) (d := d0) (v := w0) (r := (iA r17)) _ _ rfl rfl rfl rfl rfl rfl rfl (fun _ _ => inferInstance) hh0 hk_0 (ok_gatemake_Stream_Next _ _ h1) (fun out1 glob1 hk1 hs1 => ?_)
   replace hs1 := (Same.refl _ _ _).trans hs1
   refine L (iA (w64 (low + r17))) rfl rfl rfl <| L (iA (w64 (low + r17))) rfl rfl rfl <| nl <| rt ?_
   obtain rfl := Option.some.inj hF0
   exact mut_leaf (.inr rfl) rfl (retV_pl _ _ (iA (w64 (low + r17)))) hk1 hs1

theorem ok_gatemake_Stream_Odd (s_ : gatemake_Stream) (low : Int) (high : Int) {r : (Int × gatemake_Stream)} (hF0 : gatemake_Stream_Odd s_ low high = some r) : MutOk Tryd.prog pol 17 (fun p => [p, (iA low), (iA high)]) (c_gatemake_Stream s_) (iA r.1) (c_gatemake_Stream r.2) := by
 unfold gatemake_Stream_Odd at hF0
 refine mut_walk Tryd.func17 rfl (fun _ => Nat.not_lt.2 (Nat.le_of_ble_eq_true rfl)) ?_
 intro out glob d0 w0 hh0 hk_0
 refine sq <| rg <| L (iA 0) rfl rfl rfl <| nl <| sq <| sq <| rg <| L (.ptr d0 w0 0) rfl rfl rfl ?_
 obtain ⟨⟨r8, s_1⟩, h1, hF0⟩ := bind_some hF0
 refine WO_mutP (g := 5) (args := fun p => [p, (iA 12)]) (d := d0) (v := w0) (r := (bA r8)) _ _ rfl rfl rfl rfl rfl rfl rfl (fun _ _ => inferInstance) hh0 hk_0 (ok_gatemake_Stream_Flip _ _ h1) (fun out1 glob1 hk1 hs1 => ?_)
 replace hs1 := (Same.refl _ _ _).trans hs1
 refine nl <| cd r8 rfl (fun hc4 => ?_) (fun hc4 => ?_)
 · replace hF0 := ite_t hF0 (hc4)
   refine sq <| rg <| L (.ptr d0 w0 0) rfl rfl rfl <| L (iA low) rfl rfl rfl <| L (iA (w64 (low - 1))) rfl rfl rfl <| L (iA high) rfl rfl rfl <| L (iA (w64 (high + 1))) rfl rfl rfl <| L (iA low) rfl rfl rfl <| L (iA high) rfl rfl rfl <| L (Sl.av 1 c_i64 (Sl.full [w64 (low - 1), w64 (high + 1), low, high, (-1099511627776), 1099511627776] : Sl Int)) rfl rfl (op_sliceN rfl rfl rfl) ?_
   obtain ⟨⟨r6, s_2⟩, h2, hF0⟩ := bind_some hF0
   refine WO_mutP (g := 22) (args := fun p => [p, (Sl.av 1 c_i64 (Sl.full [w64 (low - 1), w64 (high + 1), low, high, (-1099511627776), 1099511627776] : Sl Int))]) (d := d0) (v := w0) (r := (iA r6)) _ _ rfl rfl rfl rfl rfl rfl rfl (fun _ _ => inferInstance) hh0 hk1 (ok_gatemake_Stream_Pick _ _ h2) (fun out2 glob2 hk2 hs2 => ?_)
   replace hs2 := hs1.trans hs2
   refine L (iA r6) rfl rfl rfl <| nl <| rt ?_
   obtain rfl := Option.some.inj hF0
   exact mut_leaf (.inr rfl) rfl (retV_pl _ _ (iA r6)) hk2 hs2
 · replace hF0 := ite_f hF0 (not_t hc4)
   refine sk <| sq <| rg <| L (.ptr d0 w0 0) rfl rfl rfl <| L (iA low) rfl rfl rfl <| L (iA high) rfl rfl rfl ?_
   obtain ⟨⟨r61, s_3⟩, h3, hF0⟩ := bind_some hF0
   refine WO_mutP (g := 41) (args := fun p => [p, (iA low), (iA high)]) (d := d0) (v := w0) (r := (iA r61)) _ _ rfl rfl rfl rfl rfl rfl rfl (fun _ _ => inferInstance) hh0 hk1 (ok_gatemake_Stream_Range _ _ _ h3) (fun out3 glob3 hk3 hs3 => ?_)
   replace hs3 := hs1.trans hs3
   refine L (iA r61) rfl rfl rfl <| nl <| rt ?_
   obtain rfl := Option.some.inj hF0
   exact mut_leaf (.inr rfl) rfl (retV_pl _ _ (iA r61)) hk3 hs3

theorem ok_slices_Clone_api_Member_api_Member (s_ : (Sl api_Member)) {r : ((Sl api_Member))} (hF0 : slices_Clone_api_Member_api_Member s_ = some r) (out : List AE.Frame) (glob : List AObj) : RdOk Tryd.prog pol true 20 [(Sl.av 7 c_api_Member s_)] out glob (Sl.av 7 c_api_Member r) := by
 unfold slices_Clone_api_Member_api_Member at hF0
 refine rd_walk Tryd.func20 rfl (Nat.not_lt.2 (Nat.le_of_ble_eq_true rfl)) ?_
 intro ro
 refine sq <| rg <| L (Sl.av 7 c_api_Member Sl.nil) rfl rfl rfl <| nl <| sq <| sq <| rg <| L (Sl.av 7 c_api_Member s_) rfl rfl rfl <| L (bA s_.isNil) rfl rfl (op_bin rfl (bin_nil1 (c := c_api_Member) rfl)) <| nl <| cd s_.isNil rfl (fun hc2 => ?_) (fun hc2 => ?_)
 · replace hF0 := ite_t hF0 (hc2)
   refine sq <| rg <| L (Sl.av 7 c_api_Member Sl.nil) rfl rfl rfl <| nl <| rt ?_
   obtain rfl := Option.some.inj hF0
   exact rd_leaf (.inr rfl) rfl (retV_pl _ _ (Sl.av 7 c_api_Member Sl.nil)) rfl rfl
 · replace hF0 := ite_f hF0 (not_t hc2)
   refine sk <| sq <| rg <| L (Sl.av 7 c_api_Member (Sl.ez : Sl api_Member)) rfl rfl (op_slice0 rfl rfl rfl) <| L (Sl.av 7 c_api_Member s_) rfl rfl rfl ?_
   obtain ⟨t2, h_t2, hF0⟩ := bind_some hF0
   refine WO_lzapp (s := 5002) (x := (Sl.ez : Sl api_Member)) (x' := t2) (o := (⟨0, .gone⟩ : AObj)) (n := 7) (c := c_api_Member) (xs := s_.list) (y := (Sl.av 7 c_api_Member s_)) _ rfl rfl rfl rfl rfl rfl rfl rfl rfl rfl rfl rfl (z := (c_api_Member (api_Member.mk [] (api_Value.mk 0 false 0 [] Sl.nil Sl.nil)))) rfl rfl (by simp only [e_api_Member, e_api_Value]; rfl) rfl (by simp only [e_api_Member, e_api_Value]; rfl) (by decide) (fun _ => (by simp only [e_api_Member, e_api_Value]; rfl)) rfl (elems_av _ _) rfl True.intro h_t2 (fun o5002 hz_1 => ?_)
   refine L (Sl.lav (.fr 0 5002) o5002.ver t2) rfl rfl rfl <| nl <| rt ?_
   obtain rfl := Option.some.inj hF0
   exact rd_leaf (.inr rfl) rfl (ret_lz rfl hz_1) rfl rfl

theorem okm_slices_Clone_api_Member_api_Member (s_ : (Sl api_Member)) {r : ((Sl api_Member))} (hF0 : slices_Clone_api_Member_api_Member s_ = some r) (out : List AE.Frame) (glob : List AObj) : RdZ Tryd.prog pol true 20 [(Sl.av 7 c_api_Member s_)] out glob 7 c_api_Member r [] := by
 unfold slices_Clone_api_Member_api_Member at hF0
 refine rdz_walk Tryd.func20 rfl (Nat.not_lt.2 (Nat.le_of_ble_eq_true rfl)) ?_
 intro ro
 refine sq <| rg <| L (Sl.av 7 c_api_Member Sl.nil) rfl rfl rfl <| nl <| sq <| sq <| rg <| L (Sl.av 7 c_api_Member s_) rfl rfl rfl <| L (bA s_.isNil) rfl rfl (op_bin rfl (bin_nil1 (c := c_api_Member) rfl)) <| nl <| cd s_.isNil rfl (fun hc2 => ?_) (fun hc2 => ?_)
 · replace hF0 := ite_t hF0 (hc2)
   refine sq <| rg <| L (Sl.av 7 c_api_Member Sl.nil) rfl rfl rfl <| nl <| rt ?_
   obtain rfl := Option.some.inj hF0
   exact rdz_leaf (s := 4999) (.inr rfl) rfl rfl True.intro rfl rfl
 · replace hF0 := ite_f hF0 (not_t hc2)
   refine sk <| sq <| rg <| L (Sl.av 7 c_api_Member (Sl.ez : Sl api_Member)) rfl rfl (op_slice0 rfl rfl rfl) <| L (Sl.av 7 c_api_Member s_) rfl rfl rfl ?_
   obtain ⟨t2, h_t2, hF0⟩ := bind_some hF0
   refine WO_lzapp (s := 5002) (x := (Sl.ez : Sl api_Member)) (x' := t2) (o := (⟨0, .gone⟩ : AObj)) (n := 7) (c := c_api_Member) (xs := s_.list) (y := (Sl.av 7 c_api_Member s_)) _ rfl rfl rfl rfl rfl rfl rfl rfl rfl rfl rfl rfl (z := (c_api_Member (api_Member.mk [] (api_Value.mk 0 false 0 [] Sl.nil Sl.nil)))) rfl rfl (by simp only [e_api_Member, e_api_Value]; rfl) rfl (by simp only [e_api_Member, e_api_Value]; rfl) (by decide) (fun _ => (by simp only [e_api_Member, e_api_Value]; rfl)) rfl (elems_av _ _) rfl True.intro h_t2 (fun o5002 hz_1 => ?_)
   refine L (Sl.lav (.fr 0 5002) o5002.ver t2) rfl rfl rfl <| nl <| rt ?_
   obtain rfl := Option.some.inj hF0
   exact rdz_leaf (.inr rfl) rfl rfl hz_1 rfl rfl

theorem ok_slices_Clone_api_Value_api_Value (s_ : (Sl api_Value)) {r : ((Sl api_Value))} (hF0 : slices_Clone_api_Value_api_Value s_ = some r) (out : List AE.Frame) (glob : List AObj) : RdOk Tryd.prog pol true 21 [(Sl.av 6 c_api_Value s_)] out glob (Sl.av 6 c_api_Value r) := by
 unfold slices_Clone_api_Value_api_Value at hF0
 refine rd_walk Tryd.func21 rfl (Nat.not_lt.2 (Nat.le_of_ble_eq_true rfl)) ?_
 intro ro
 refine sq <| rg <| L (Sl.av 6 c_api_Value Sl.nil) rfl rfl rfl <| nl <| sq <| sq <| rg <| L (Sl.av 6 c_api_Value s_) rfl rfl rfl <| L (bA s_.isNil) rfl rfl (op_bin rfl (bin_nil1 (c := c_api_Value) rfl)) <| nl <| cd s_.isNil rfl (fun hc2 => ?_) (fun hc2 => ?_)
 · replace hF0 := ite_t hF0 (hc2)
   refine sq <| rg <| L (Sl.av 6 c_api_Value Sl.nil) rfl rfl rfl <| nl <| rt ?_
   obtain rfl := Option.some.inj hF0
   exact rd_leaf (.inr rfl) rfl (retV_pl _ _ (Sl.av 6 c_api_Value Sl.nil)) rfl rfl
 · replace hF0 := ite_f hF0 (not_t hc2)
   refine sk <| sq <| rg <| L (Sl.av 6 c_api_Value (Sl.ez : Sl api_Value)) rfl rfl (op_slice0 rfl rfl rfl) <| L (Sl.av 6 c_api_Value s_) rfl rfl rfl ?_
   obtain ⟨t2, h_t2, hF0⟩ := bind_some hF0
   refine WO_lzapp (s := 5002) (x := (Sl.ez : Sl api_Value)) (x' := t2) (o := (⟨0, .gone⟩ : AObj)) (n := 6) (c := c_api_Value) (xs := s_.list) (y := (Sl.av 6 c_api_Value s_)) _ rfl rfl rfl rfl rfl rfl rfl rfl rfl rfl rfl rfl (z := (c_api_Value (api_Value.mk 0 false 0 [] Sl.nil Sl.nil))) rfl rfl (by simp only [e_api_Value]; rfl) rfl (by simp only [e_api_Value]; rfl) (by decide) (fun _ => (by simp only [e_api_Value]; rfl)) rfl (elems_av _ _) rfl True.intro h_t2 (fun o5002 hz_1 => ?_)
   refine L (Sl.lav (.fr 0 5002) o5002.ver t2) rfl rfl rfl <| nl <| rt ?_
   obtain rfl := Option.some.inj hF0
   exact rd_leaf (.inr rfl) rfl (ret_lz rfl hz_1) rfl rfl

theorem okm_slices_Clone_api_Value_api_Value (s_ : (Sl api_Value)) {r : ((Sl api_Value))} (hF0 : slices_Clone_api_Value_api_Value s_ = some r) (out : List AE.Frame) (glob : List AObj) : RdZ Tryd.prog pol true 21 [(Sl.av 6 c_api_Value s_)] out glob 6 c_api_Value r [] := by
 unfold slices_Clone_api_Value_api_Value at hF0
 refine rdz_walk Tryd.func21 rfl (Nat.not_lt.2 (Nat.le_of_ble_eq_true rfl)) ?_
 intro ro
 refine sq <| rg <| L (Sl.av 6 c_api_Value Sl.nil) rfl rfl rfl <| nl <| sq <| sq <| rg <| L (Sl.av 6 c_api_Value s_) rfl rfl rfl <| L (bA s_.isNil) rfl rfl (op_bin rfl (bin_nil1 (c := c_api_Value) rfl)) <| nl <| cd s_.isNil rfl (fun hc2 => ?_) (fun hc2 => ?_)
 · replace hF0 := ite_t hF0 (hc2)
   refine sq <| rg <| L (Sl.av 6 c_api_Value Sl.nil) rfl rfl rfl <| nl <| rt ?_
   obtain rfl := Option.some.inj hF0
   exact rdz_leaf (s := 4999) (.inr rfl) rfl rfl True.intro rfl rfl
 · replace hF0 := ite_f hF0 (not_t hc2)
   refine sk <| sq <| rg <| L (Sl.av 6 c_api_Value (Sl.ez : Sl api_Value)) rfl rfl (op_slice0 rfl rfl rfl) <| L (Sl.av 6 c_api_Value s_) rfl rfl rfl ?_
   obtain ⟨t2, h_t2, hF0⟩ := bind_some hF0
   refine WO_lzapp (s := 5002) (x := (Sl.ez : Sl api_Value)) (x' := t2) (o := (⟨0, .gone⟩ : AObj)) (n := 6) (c := c_api_Value) (xs := s_.list) (y := (Sl.av 6 c_api_Value s_)) _ rfl rfl rfl rfl rfl rfl rfl rfl rfl rfl rfl rfl (z := (c_api_Value (api_Value.mk 0 false 0 [] Sl.nil Sl.nil))) rfl rfl (by simp only [e_api_Value]; rfl) rfl (by simp only [e_api_Value]; rfl) (by decide) (fun _ => (by simp only [e_api_Value]; rfl)) rfl (elems_av _ _) rfl True.intro h_t2 (fun o5002 hz_1 => ?_)
   refine L (Sl.lav (.fr 0 5002) o5002.ver t2) rfl rfl rfl <| nl <| rt ?_
   obtain rfl := Option.some.inj hF0
   exact rdz_leaf (.inr rfl) rfl rfl hz_1 rfl rfl

theorem ok_gatemake_Stream_Value (k : Nat) (s_ : gatemake_Stream) (deep : Int) {r : (api_Value × gatemake_Stream)} (hF0 : gatemake_Stream_Value k s_ deep = some r) : MutOk Tryd.prog pol 4 (fun p => [p, (iA deep)]) (c_gatemake_Stream s_) (.agg (c_api_Value r.1)) (c_gatemake_Stream r.2) := by
 unfold gatemake_Stream_Value at hF0
 refine mut_walk Tryd.func4 rfl (fun _ => Nat.not_lt.2 (Nat.le_of_ble_eq_true rfl)) ?_
 intro out glob d0 w0 hh0 hk_0
 refine sq <| rg <| L (.ptr (.fr 0 4) 1 0) (h' := ⟨upd _ 4 ⟨1, .cells (c_api_Value (api_Value.mk 0 false 0 [] Sl.nil Sl.nil))⟩, _, _⟩) rfl rfl (op_alloc (c_api_Value (api_Value.mk 0 false 0 [] Sl.nil Sl.nil)) rfl rfl rfl (by simp only [e_api_Value]; rfl)) <| nl <| sq <| rg <| L (.ptr d0 w0 0) rfl rfl rfl <| L (iA deep) rfl rfl rfl ?_
 obtain ⟨⟨r8, s_1⟩, h1, hF0⟩ := bind_some hF0
 refine WO_mutP (g := 15) (args := fun p => [p, (iA deep)]) (d := d0) (v := w0) (r := (.agg (c_api_Value r8))) _ _ rfl rfl rfl rfl rfl rfl rfl (fun _ _ => inferInstance) hh0 hk_0 (ok_gatemake_Stream_RightValue _ _ _ h1) (fun out1 glob1 hk1 hs1 => ?_)
 replace hs1 := (Same.refl _ _ _).trans hs1
 refine L (.ptr (.fr 0 5) 1 0) (h' := ⟨upd _ 5 ⟨1, .cells (c_api_Value (api_Value.mk 0 false 0 [] Sl.nil Sl.nil))⟩, _, _⟩) rfl rfl (op_alloc (c_api_Value (api_Value.mk 0 false 0 [] Sl.nil Sl.nil)) rfl rfl rfl (by simp only [e_api_Value]; rfl)) <| L (.tup []) (h' := ⟨upd _ 5 ⟨1, .cells (c_api_Value r8)⟩, _, _⟩) rfl rfl (op_store rfl rfl (st_fr (x := (.agg (c_api_Value r8))) (cs := (c_api_Value (api_Value.mk 0 false 0 [] Sl.nil Sl.nil))) (c_api_Value r8) (by simp only [e_api_Value]; rfl) rfl (by simp only [e_api_Value]; exact Nat.le_of_ble_eq_true rfl) (by simp only [e_api_Value]; rfl))) <| nl <| sq <| sq <| rg <| L (.ptr d0 w0 0) rfl rfl rfl ?_
 obtain ⟨⟨r10, s_2⟩, h2, hF0⟩ := bind_some hF0
 refine WO_mutP (g := 5) (args := fun p => [p, (iA 25)]) (d := d0) (v := w0) (r := (bA r10)) _ _ rfl rfl rfl rfl rfl rfl rfl (fun _ _ => inferInstance) hh0 hk1 (ok_gatemake_Stream_Flip _ _ h2) (fun out2 glob2 hk2 hs2 => ?_)
 replace hs2 := hs1.trans hs2
 refine nl <| cd r10 rfl (fun hc28 => ?_) (fun hc28 => ?_)
 · replace hF0 := ite_t hF0 (hc28)
   refine sq <| rg <| L (.ptr d0 w0 0) rfl rfl rfl ?_
   obtain ⟨⟨r12, s_3⟩, h3, hF0⟩ := bind_some hF0
   refine WO_mutP (g := 16) (args := fun p => [p, (iA 6)]) (d := d0) (v := w0) (r := (iA r12)) _ _ rfl rfl rfl rfl rfl rfl rfl (fun _ _ => inferInstance) hh0 hk2 (ok_gatemake_Stream_Next _ _ h3) (fun out3 glob3 hk3 hs3 => ?_)
   replace hs3 := hs2.trans hs3
   refine nl <| bk <| sq <| rg <| L (bA (r12 == 0)) rfl rfl rfl <| L (bA (r12 == 0)) rfl rfl rfl <| nl <| cd (r12 == 0) rfl (fun hc27 => ?_) (fun hc27 => ?_)
   · replace hF0 := ite_t hF0 (beq_t hc27)
     refine rg <| L (.ptr d0 w0 0) rfl rfl rfl ?_
     obtain ⟨⟨r25, s_4⟩, h4, hF0⟩ := bind_some hF0
     refine WO_mutP (g := 17) (args := fun p => [p, (iA 0), (iA 5)]) (d := d0) (v := w0) (r := (iA r25)) _ _ rfl rfl rfl rfl rfl rfl rfl (fun _ _ => inferInstance) hh0 hk3 (ok_gatemake_Stream_Odd _ _ _ h4) (fun out4 glob4 hk4 hs4 => ?_)
     replace hs4 := hs3.trans hs4
     refine L (.ptr (.fr 0 5) 1 0) rfl rfl rfl <| L (.tup []) (h' := ⟨upd _ 5 ⟨1, .cells (c_api_Value (api_Value.mk r25 r8.Flag r8.Number r8.Words r8.List r8.Members))⟩, _, _⟩) rfl rfl (op_store rfl rfl (st_fr (x := (iA r25)) (cs := (c_api_Value r8)) (c_api_Value (api_Value.mk r25 r8.Flag r8.Number r8.Words r8.List r8.Members)) rfl rfl (by simp only [e_api_Value]; exact Nat.le_of_ble_eq_true rfl) (by simp only [e_api_Value]; rfl))) <| nl <| sq <| rg <| L (.agg (c_api_Value (api_Value.mk r25 r8.Flag r8.Number r8.Words r8.List r8.Members))) rfl rfl (op_load rfl (ld_con (.agg (c_api_Value (api_Value.mk r25 r8.Flag r8.Number r8.Words r8.List r8.Members))) rfl rfl (cs := (c_api_Value (api_Value.mk r25 r8.Flag r8.Number r8.Words r8.List r8.Members))) (con_fr rfl) (by simp only [e_api_Value]; rfl))) <| L (.tup []) (h' := ⟨upd _ 4 ⟨1, .cells (c_api_Value (api_Value.mk r25 r8.Flag r8.Number r8.Words r8.List r8.Members))⟩, _, _⟩) rfl rfl (op_store rfl rfl (st_fr (x := (.agg (c_api_Value (api_Value.mk r25 r8.Flag r8.Number r8.Words r8.List r8.Members)))) (cs := (c_api_Value (api_Value.mk 0 false 0 [] Sl.nil Sl.nil))) (c_api_Value (api_Value.mk r25 r8.Flag r8.Number r8.Words r8.List r8.Members)) (by simp only [e_api_Value]; rfl) rfl (by simp only [e_api_Value]; exact Nat.le_of_ble_eq_true rfl) (by simp only [e_api_Value]; rfl))) <| nl <| rt ?_
     obtain rfl := Option.some.inj hF0
     exact mut_leaf (.inr rfl) (res_cell (ld_fr (y := (.agg (c_api_Value (api_Value.mk r25 r8.Flag r8.Number r8.Words r8.List r8.Members)))) rfl rfl (cs := (c_api_Value (api_Value.mk r25 r8.Flag r8.Number r8.Words r8.List r8.Members))) rfl (by simp only [e_api_Value]; rfl)) (res_nil)) (retV_pl _ _ (.agg (c_api_Value (api_Value.mk r25 r8.Flag r8.Number r8.Words r8.List r8.Members)))) hk4 hs4
   · replace hF0 := ite_f hF0 (beq_f hc27)
     refine sq <| rg <| L (bA (r12 == 1)) rfl rfl rfl <| L (bA (r12 == 1)) rfl rfl rfl <| nl <| cd (r12 == 1) rfl (fun hc26 => ?_) (fun hc26 => ?_)
     · replace hF0 := ite_t hF0 (beq_t hc26)
       refine rg <| L (.ptr d0 w0 0) rfl rfl rfl ?_
       obtain ⟨⟨r30, s_5⟩, h5, hF0⟩ := bind_some hF0
       refine WO_mutP (g := 17) (args := fun p => [p, (iA 0), (iA 1000000000000000)]) (d := d0) (v := w0) (r := (iA r30)) _ _ rfl rfl rfl rfl rfl rfl rfl (fun _ _ => inferInstance) hh0 hk3 (ok_gatemake_Stream_Odd _ _ _ h5) (fun out5 glob5 hk5 hs5 => ?_)
       replace hs5 := hs3.trans hs5
       refine L (.ptr (.fr 0 5) 1 2) rfl rfl rfl <| L (.tup []) (h' := ⟨upd _ 5 ⟨1, .cells (c_api_Value (api_Value.mk r8.Kind r8.Flag r30 r8.Words r8.List r8.Members))⟩, _, _⟩) rfl rfl (op_store rfl rfl (st_fr (x := (iA r30)) (cs := (c_api_Value r8)) (c_api_Value (api_Value.mk r8.Kind r8.Flag r30 r8.Words r8.List r8.Members)) rfl rfl (by simp only [e_api_Value]; exact Nat.le_of_ble_eq_true rfl) (by simp only [e_api_Value]; rfl))) <| nl <| sq <| rg <| L (.agg (c_api_Value (api_Value.mk r8.Kind r8.Flag r30 r8.Words r8.List r8.Members))) rfl rfl (op_load rfl (ld_con (.agg (c_api_Value (api_Value.mk r8.Kind r8.Flag r30 r8.Words r8.List r8.Members))) rfl rfl (cs := (c_api_Value (api_Value.mk r8.Kind r8.Flag r30 r8.Words r8.List r8.Members))) (con_fr rfl) (by simp only [e_api_Value]; rfl))) <| L (.tup []) (h' := ⟨upd _ 4 ⟨1, .cells (c_api_Value (api_Value.mk r8.Kind r8.Flag r30 r8.Words r8.List r8.Members))⟩, _, _⟩) rfl rfl (op_store rfl rfl (st_fr (x := (.agg (c_api_Value (api_Value.mk r8.Kind r8.Flag r30 r8.Words r8.List r8.Members)))) (cs := (c_api_Value (api_Value.mk 0 false 0 [] Sl.nil Sl.nil))) (c_api_Value (api_Value.mk r8.Kind r8.Flag r30 r8.Words r8.List r8.Members)) (by simp only [e_api_Value]; rfl) rfl (by simp only [e_api_Value]; exact Nat.le_of_ble_eq_true rfl) (by simp only [e_api_Value]; rfl))) <| nl <| rt ?_
       obtain rfl := Option.some.inj hF0
       exact mut_leaf (.inr rfl) (res_cell (ld_fr (y := (.agg (c_api_Value (api_Value.mk r8.Kind r8.Flag r30 r8.Words r8.List r8.Members)))) rfl rfl (cs := (c_api_Value (api_Value.mk r8.Kind r8.Flag r30 r8.Words r8.List r8.Members))) rfl (by simp only [e_api_Value]; rfl)) (res_nil)) (retV_pl _ _ (.agg (c_api_Value (api_Value.mk r8.Kind r8.Flag r30 r8.Words r8.List r8.Members)))) hk5 hs5
     · replace hF0 := ite_f hF0 (beq_f hc26)
       refine sq <| rg <| L (bA (r12 == 2)) rfl rfl rfl <| L (bA (r12 == 2)) rfl rfl rfl <| nl <| cd (r12 == 2) rfl (fun hc25 => ?_) (fun hc25 => ?_)
       · replace hF0 := ite_t hF0 (beq_t hc25)
         refine rg <| L (.ptr d0 w0 0) rfl rfl rfl ?_
         obtain ⟨r35, h_r35, hF0⟩ := bind_some hF0
         refine L (sA r35) rfl rfl (op_lib _ rfl rfl rfl (x_repeat_eq h_r35)) ?_
         obtain ⟨r36, h_r36, hF0⟩ := bind_some hF0
         refine L (sA r36) rfl rfl (op_lib _ rfl rfl rfl (x_repeat_eq h_r36)) <| L (Sl.av 1 c_str (Sl.full [[255], r35, r36, [120]] : Sl Str)) rfl rfl (op_sliceN rfl rfl rfl) ?_
         obtain ⟨⟨r38, s_6⟩, h6, hF0⟩ := bind_some hF0
         refine WO_mutP (g := 18) (args := fun p => [p, (Sl.av 1 c_str (Sl.full [[255], r35, r36, [120]] : Sl Str))]) (d := d0) (v := w0) (r := (sA r38)) _ _ rfl rfl rfl rfl rfl rfl rfl (fun _ _ => inferInstance) hh0 hk3 (ok_gatemake_Stream_Some _ _ h6) (fun out6 glob6 hk6 hs6 => ?_)
         replace hs6 := hs3.trans hs6
         refine L (.ptr (.fr 0 5) 1 3) rfl rfl rfl <| L (.tup []) (h' := ⟨upd _ 5 ⟨1, .cells (c_api_Value (api_Value.mk r8.Kind r8.Flag r8.Number r38 r8.List r8.Members))⟩, _, _⟩) rfl rfl (op_store rfl rfl (st_fr (x := (sA r38)) (cs := (c_api_Value r8)) (c_api_Value (api_Value.mk r8.Kind r8.Flag r8.Number r38 r8.List r8.Members)) rfl rfl (by simp only [e_api_Value]; exact Nat.le_of_ble_eq_true rfl) (by simp only [e_api_Value]; rfl))) <| nl <| sq <| rg <| L (.agg (c_api_Value (api_Value.mk r8.Kind r8.Flag r8.Number r38 r8.List r8.Members))) rfl rfl (op_load rfl (ld_con (.agg (c_api_Value (api_Value.mk r8.Kind r8.Flag r8.Number r38 r8.List r8.Members))) rfl rfl (cs := (c_api_Value (api_Value.mk r8.Kind r8.Flag r8.Number r38 r8.List r8.Members))) (con_fr rfl) (by simp only [e_api_Value]; rfl))) <| L (.tup []) (h' := ⟨upd _ 4 ⟨1, .cells (c_api_Value (api_Value.mk r8.Kind r8.Flag r8.Number r38 r8.List r8.Members))⟩, _, _⟩) rfl rfl (op_store rfl rfl (st_fr (x := (.agg (c_api_Value (api_Value.mk r8.Kind r8.Flag r8.Number r38 r8.List r8.Members)))) (cs := (c_api_Value (api_Value.mk 0 false 0 [] Sl.nil Sl.nil))) (c_api_Value (api_Value.mk r8.Kind r8.Flag r8.Number r38 r8.List r8.Members)) (by simp only [e_api_Value]; rfl) rfl (by simp only [e_api_Value]; exact Nat.le_of_ble_eq_true rfl) (by simp only [e_api_Value]; rfl))) <| nl <| rt ?_
         obtain rfl := Option.some.inj hF0
         exact mut_leaf (.inr rfl) (res_cell (ld_fr (y := (.agg (c_api_Value (api_Value.mk r8.Kind r8.Flag r8.Number r38 r8.List r8.Members)))) rfl rfl (cs := (c_api_Value (api_Value.mk r8.Kind r8.Flag r8.Number r38 r8.List r8.Members))) rfl (by simp only [e_api_Value]; rfl)) (res_nil)) (retV_pl _ _ (.agg (c_api_Value (api_Value.mk r8.Kind r8.Flag r8.Number r38 r8.List r8.Members)))) hk6 hs6
       · replace hF0 := ite_f hF0 (beq_f hc25)
         refine sq <| rg <| L (bA (r12 == 3)) rfl rfl rfl <| L (bA (r12 == 3)) rfl rfl rfl <| nl <| cd (r12 == 3) rfl (fun hc24 => ?_) (fun hc24 => ?_)
         · replace hF0 := ite_t hF0 (beq_t hc24)
           refine rg <| L (.ptr (.fr 0 5) 1 5) rfl rfl rfl <| L (Sl.av 7 c_api_Member r8.Members) rfl rfl (op_load rfl (ld_con (Sl.av 7 c_api_Member r8.Members) rfl rfl (cs := (c_api_Value r8)) (con_fr rfl) (by simp only [e_api_Value]; rfl))) ?_
           obtain ⟨r44, h8, hF0⟩ := bind_some hF0
           refine WO_zR1 (g := 20) (args := [(Sl.av 7 c_api_Member r8.Members)]) (s := 7105) _ _ rfl rfl rfl rfl rfl rfl rfl rfl rfl (okm_slices_Clone_api_Member_api_Member _ h8 _ _ ) (fun o7105 hz_7 => ?_)
           refine L (.ptr d0 w0 0) rfl rfl rfl ?_
           obtain ⟨r46, h_r46, hF0⟩ := bind_some hF0
           refine L (sA r46) rfl rfl (op_lib _ rfl rfl rfl (x_repeat_eq h_r46)) <| L (Sl.av 1 c_str (Sl.full [[97], [255], r46] : Sl Str)) rfl rfl (op_sliceN rfl rfl rfl) ?_
           obtain ⟨⟨r48, s_7⟩, h9, hF0⟩ := bind_some hF0
           refine WO_mutP (g := 18) (args := fun p => [p, (Sl.av 1 c_str (Sl.full [[97], [255], r46] : Sl Str))]) (d := d0) (v := w0) (r := (sA r48)) _ _ rfl rfl rfl rfl rfl rfl rfl (fun _ _ => inferInstance) hh0 hk3 (ok_gatemake_Stream_Some _ _ h9) (fun out9 glob9 hk9 hs9 => ?_)
           replace hs9 := hs3.trans hs9
           refine L (.agg (c_api_Member (api_Member.mk r48 (api_Value.mk 0 false 0 [] Sl.nil Sl.nil)))) rfl rfl (op_build rfl (build_eq (cs := (c_api_Member (api_Member.mk r48 (api_Value.mk 0 false 0 [] Sl.nil Sl.nil)))) rfl rfl rfl (fill_cons (x := (sA r48)) rfl rfl (Nat.le_of_ble_eq_true rfl) (fill_nil)) (by simp only [e_api_Member, e_api_Value]; rfl))) <| L (Sl.av 7 c_api_Member (Sl.full [(api_Member.mk r48 (api_Value.mk 0 false 0 [] Sl.nil Sl.nil))] : Sl api_Member)) rfl rfl (op_sliceN rfl rfl (slice_of rfl rfl rfl (by decide) (fillS_cons (x := (.agg (c_api_Member (api_Member.mk r48 (api_Value.mk 0 false 0 [] Sl.nil Sl.nil))))) (by simp only [e_api_Member, e_api_Value]; rfl) (Nat.le_of_ble_eq_true rfl) (fillS_nil)))) ?_
           obtain ⟨ls, h_ls, hF0⟩ := bind_some hF0
           refine WO_lzapp (s := 7105) (x := r44) (x' := ls) (o := o7105) (n := 7) (c := c_api_Member) (xs := [(api_Member.mk r48 (api_Value.mk 0 false 0 [] Sl.nil Sl.nil))]) (y := (Sl.av 7 c_api_Member (Sl.full [(api_Member.mk r48 (api_Value.mk 0 false 0 [] Sl.nil Sl.nil))] : Sl api_Member))) _ rfl rfl rfl rfl rfl rfl rfl rfl rfl rfl rfl rfl (z := (c_api_Member (api_Member.mk [] (api_Value.mk 0 false 0 [] Sl.nil Sl.nil)))) rfl rfl (by simp only [e_api_Member, e_api_Value]; rfl) rfl (by simp only [e_api_Member, e_api_Value]; rfl) (by decide) (fun _ => (by simp only [e_api_Member, e_api_Value]; rfl)) rfl rfl rfl hz_7 h_ls (fun o71051 hz_10 => ?_)
           refine L (.ptr (.fr 0 5) 1 5) rfl rfl rfl <| L (.tup []) (h' := ⟨upd _ 5 ⟨1, .cells [(iA r8.Kind), (bA r8.Flag), (iA r8.Number), (sA r8.Words), (Sl.av 6 c_api_Value r8.List), (Sl.lav (.fr 0 7105) o71051.ver ls)]⟩, _, _⟩) rfl rfl (op_store rfl rfl (st_fr0 (w := (Sl.lav (.fr 0 7105) o71051.ver ls)) [(iA r8.Kind), (bA r8.Flag), (iA r8.Number), (sA r8.Words), (Sl.av 6 c_api_Value r8.List), (Sl.lav (.fr 0 7105) o71051.ver ls)] (cells_lav _ _ _) (one_lav _ _ _) rfl rfl (by simp only [e_api_Value]; exact Nat.le_of_ble_eq_true rfl) (by simp only [e_api_Value]; rfl))) <| nl <| sq <| rg <| L (.agg [(iA r8.Kind), (bA r8.Flag), (iA r8.Number), (sA r8.Words), (Sl.av 6 c_api_Value r8.List), (Sl.lav (.fr 0 7105) o71051.ver ls)]) rfl rfl (op_load rfl (ld_fr (y := (.agg [(iA r8.Kind), (bA r8.Flag), (iA r8.Number), (sA r8.Words), (Sl.av 6 c_api_Value r8.List), (Sl.lav (.fr 0 7105) o71051.ver ls)])) (cs := [(iA r8.Kind), (bA r8.Flag), (iA r8.Number), (sA r8.Words), (Sl.av 6 c_api_Value r8.List), (Sl.lav (.fr 0 7105) o71051.ver ls)]) rfl rfl rfl rfl)) <| L (.tup []) (h' := ⟨upd _ 4 ⟨1, .cells [(iA r8.Kind), (bA r8.Flag), (iA r8.Number), (sA r8.Words), (Sl.av 6 c_api_Value r8.List), (Sl.lav (.fr 0 7105) o71051.ver ls)]⟩, _, _⟩) rfl rfl (op_store rfl rfl (st_fr0 (w := (.agg [(iA r8.Kind), (bA r8.Flag), (iA r8.Number), (sA r8.Words), (Sl.av 6 c_api_Value r8.List), (Sl.lav (.fr 0 7105) o71051.ver ls)])) (vs := [(iA r8.Kind), (bA r8.Flag), (iA r8.Number), (sA r8.Words), (Sl.av 6 c_api_Value r8.List), (Sl.lav (.fr 0 7105) o71051.ver ls)]) [(iA r8.Kind), (bA r8.Flag), (iA r8.Number), (sA r8.Words), (Sl.av 6 c_api_Value r8.List), (Sl.lav (.fr 0 7105) o71051.ver ls)] rfl (by simp only [List.all_cons, List.all_nil, one_iA, one_bA, one_sA, one_int, one_lav1, one_av1, Bool.and_true]) rfl rfl (by simp only [e_api_Value]; exact Nat.le_of_ble_eq_true rfl) (by simp only [e_api_Value]; rfl))) <| nl <| rt ?_
           obtain rfl := Option.some.inj hF0
           exact mut_leaf (.inr rfl) (res_cell (ld_fr (y := (.agg [(iA r8.Kind), (bA r8.Flag), (iA r8.Number), (sA r8.Words), (Sl.av 6 c_api_Value r8.List), (Sl.lav (.fr 0 7105) o71051.ver ls)])) rfl rfl (cs := [(iA r8.Kind), (bA r8.Flag), (iA r8.Number), (sA r8.Words), (Sl.av 6 c_api_Value r8.List), (Sl.lav (.fr 0 7105) o71051.ver ls)]) rfl rfl) (res_nil)) (ret_agg (retL_cons (retV_pl _ _ (iA r8.Kind)) (retL_cons (retV_pl _ _ (bA r8.Flag)) (retL_cons (retV_pl _ _ (iA r8.Number)) (retL_cons (retV_pl _ _ (sA r8.Words)) (retL_cons (retV_pl _ _ (Sl.av 6 c_api_Value r8.List)) (retL_cons (ret_lz rfl hz_10) (retL_nil))))))) (by simp only [e_api_Value]; rfl)) hk9 hs9
         · replace hF0 := ite_f hF0 (beq_f hc24)
           refine sq <| rg <| L (bA (r12 == 4)) rfl rfl rfl <| L (bA (r12 == 4)) rfl rfl rfl <| nl <| cd (r12 == 4) rfl (fun hc23 => ?_) (fun hc23 => ?_)
           · replace hF0 := ite_t hF0 (beq_t hc23)
             refine rg <| L (.ptr (.fr 0 5) 1 4) rfl rfl rfl <| L (Sl.av 6 c_api_Value r8.List) rfl rfl (op_load rfl (ld_con (Sl.av 6 c_api_Value r8.List) rfl rfl (cs := (c_api_Value r8)) (con_fr rfl) (by simp only [e_api_Value]; rfl))) ?_
             obtain ⟨r57, h12, hF0⟩ := bind_some hF0
             refine WO_zR1 (g := 21) (args := [(Sl.av 6 c_api_Value r8.List)]) (s := 7104) _ _ rfl rfl rfl rfl rfl rfl rfl rfl rfl (okm_slices_Clone_api_Value_api_Value _ h12 _ _ ) (fun o7104 hz_11 => ?_)
             refine L (.agg (c_api_Value (api_Value.mk 9 false 0 [] Sl.nil Sl.nil))) rfl rfl (op_build rfl (build_eq (cs := (c_api_Value (api_Value.mk 9 false 0 [] Sl.nil Sl.nil))) rfl rfl rfl (fill_cons (x := (iA 9)) rfl rfl (Nat.le_of_ble_eq_true rfl) (fill_nil)) (by simp only [e_api_Value]; rfl))) <| L (Sl.av 6 c_api_Value (Sl.full [(api_Value.mk 9 false 0 [] Sl.nil Sl.nil)] : Sl api_Value)) rfl rfl (op_sliceN rfl rfl (slice_of rfl rfl rfl (by decide) (fillS_cons (x := (.agg (c_api_Value (api_Value.mk 9 false 0 [] Sl.nil Sl.nil)))) (by simp only [e_api_Value]; rfl) (Nat.le_of_ble_eq_true rfl) (fillS_nil)))) ?_
             obtain ⟨ls1, h_ls1, hF0⟩ := bind_some hF0
             refine WO_lzapp (s := 7104) (x := r57) (x' := ls1) (o := o7104) (n := 6) (c := c_api_Value) (xs := [(api_Value.mk 9 false 0 [] Sl.nil Sl.nil)]) (y := (Sl.av 6 c_api_Value (Sl.full [(api_Value.mk 9 false 0 [] Sl.nil Sl.nil)] : Sl api_Value))) _ rfl rfl rfl rfl rfl rfl rfl rfl rfl rfl rfl rfl (z := (c_api_Value (api_Value.mk 0 false 0 [] Sl.nil Sl.nil))) rfl rfl (by simp only [e_api_Value]; rfl) rfl (by simp only [e_api_Value]; rfl) (by decide) (fun _ => (by simp only [e_api_Value]; rfl)) rfl rfl rfl hz_11 h_ls1 (fun o71041 hz_13 => ?_)
             refine L (.ptr (.fr 0 5) 1 4) rfl rfl rfl <| L (.tup []) (h' := ⟨upd _ 5 ⟨1, .cells [(iA r8.Kind), (bA r8.Flag), (iA r8.Number), (sA r8.Words), (Sl.lav (.fr 0 7104) o71041.ver ls1), (Sl.av 7 c_api_Member r8.Members)]⟩, _, _⟩) rfl rfl (op_store rfl rfl (st_fr0 (w := (Sl.lav (.fr 0 7104) o71041.ver ls1)) [(iA r8.Kind), (bA r8.Flag), (iA r8.Number), (sA r8.Words), (Sl.lav (.fr 0 7104) o71041.ver ls1), (Sl.av 7 c_api_Member r8.Members)] (cells_lav _ _ _) (one_lav _ _ _) rfl rfl (by simp only [e_api_Value]; exact Nat.le_of_ble_eq_true rfl) (by simp only [e_api_Value]; rfl))) <| nl <| sq <| rg <| L (.agg [(iA r8.Kind), (bA r8.Flag), (iA r8.Number), (sA r8.Words), (Sl.lav (.fr 0 7104) o71041.ver ls1), (Sl.av 7 c_api_Member r8.Members)]) rfl rfl (op_load rfl (ld_fr (y := (.agg [(iA r8.Kind), (bA r8.Flag), (iA r8.Number), (sA r8.Words), (Sl.lav (.fr 0 7104) o71041.ver ls1), (Sl.av 7 c_api_Member r8.Members)])) (cs := [(iA r8.Kind), (bA r8.Flag), (iA r8.Number), (sA r8.Words), (Sl.lav (.fr 0 7104) o71041.ver ls1), (Sl.av 7 c_api_Member r8.Members)]) rfl rfl rfl rfl)) <| L (.tup []) (h' := ⟨upd _ 4 ⟨1, .cells [(iA r8.Kind), (bA r8.Flag), (iA r8.Number), (sA r8.Words), (Sl.lav (.fr 0 7104) o71041.ver ls1), (Sl.av 7 c_api_Member r8.Members)]⟩, _, _⟩) rfl rfl (op_store rfl rfl (st_fr0 (w := (.agg [(iA r8.Kind), (bA r8.Flag), (iA r8.Number), (sA r8.Words), (Sl.lav (.fr 0 7104) o71041.ver ls1), (Sl.av 7 c_api_Member r8.Members)])) (vs := [(iA r8.Kind), (bA r8.Flag), (iA r8.Number), (sA r8.Words), (Sl.lav (.fr 0 7104) o71041.ver ls1), (Sl.av 7 c_api_Member r8.Members)]) [(iA r8.Kind), (bA r8.Flag), (iA r8.Number), (sA r8.Words), (Sl.lav (.fr 0 7104) o71041.ver ls1), (Sl.av 7 c_api_Member r8.Members)] rfl (by simp only [List.all_cons, List.all_nil, one_iA, one_bA, one_sA, one_int, one_lav1, one_av1, Bool.and_true]) rfl rfl (by simp only [e_api_Value]; exact Nat.le_of_ble_eq_true rfl) (by simp only [e_api_Value]; rfl))) <| nl <| rt ?_
             obtain rfl := Option.some.inj hF0
             exact mut_leaf (.inr rfl) (res_cell (ld_fr (y := (.agg [(iA r8.Kind), (bA r8.Flag), (iA r8.Number), (sA r8.Words), (Sl.lav (.fr 0 7104) o71041.ver ls1), (Sl.av 7 c_api_Member r8.Members)])) rfl rfl (cs := [(iA r8.Kind), (bA r8.Flag), (iA r8.Number), (sA r8.Words), (Sl.lav (.fr 0 7104) o71041.ver ls1), (Sl.av 7 c_api_Member r8.Members)]) rfl rfl) (res_nil)) (ret_agg (retL_cons (retV_pl _ _ (iA r8.Kind)) (retL_cons (retV_pl _ _ (bA r8.Flag)) (retL_cons (retV_pl _ _ (iA r8.Number)) (retL_cons (retV_pl _ _ (sA r8.Words)) (retL_cons (ret_lz rfl hz_13) (retL_cons (retV_pl _ _ (Sl.av 7 c_api_Member r8.Members)) (retL_nil))))))) (by simp only [e_api_Value]; rfl)) hk3 hs3
           · replace hF0 := ite_f hF0 (beq_f hc23)
             refine sq <| rg <| L (.ptr d0 w0 0) rfl rfl rfl <| L (Sl.av 1 c_i64 (Sl.full [48, 49, 50] : Sl Int)) rfl rfl (op_sliceN rfl rfl rfl) ?_
             obtain ⟨⟨r15, s_8⟩, h14, hF0⟩ := bind_some hF0
             refine WO_mutP (g := 22) (args := fun p => [p, (Sl.av 1 c_i64 (Sl.full [48, 49, 50] : Sl Int))]) (d := d0) (v := w0) (r := (iA r15)) _ _ rfl rfl rfl rfl rfl rfl rfl (fun _ _ => inferInstance) hh0 hk3 (ok_gatemake_Stream_Pick _ _ h14) (fun out14 glob14 hk14 hs14 => ?_)
             replace hs14 := hs3.trans hs14
             refine L (iA 0) rfl rfl rfl <| nl <| bk ?_
             obtain ⟨b1, hb19, hF0⟩ := bind_some hF0
             obtain ⟨hn19, hb19⟩ := ite_none hb19
             obtain ⟨J19, hJ19⟩ : ∃ J : St → Prop, ∀ st, J st ↔ (∃ (v_2 : api_Value) (tm21 : Nat → AV) (cb21 : AE.Frame) (out21 : List AE.Frame) (glob21 : List AObj), st = ⟨tm21, ⟨cb21, out21, glob21⟩⟩ ∧ AllEq tm21 [(4, (.ptr (.fr 0 4) 1 0)), (5, (.ptr (.fr 0 5) 1 0))] ∧ AllEq cb21 [(4, ⟨1, .cells (c_api_Value (api_Value.mk 0 false 0 [] Sl.nil Sl.nil))⟩), (5, ⟨1, .cells (c_api_Value v_2)⟩)] ∧ con2 out21 glob21 d0 w0 = .cells (c_gatemake_Stream s_8) ∧ Same d0 out glob out21 glob21 ∧ v_2 = b1) := ⟨_, fun _ => Iff.rfl⟩
             obtain ⟨R19, hR19⟩ : ∃ R : Nat → (api_Value) → St → Prop, ∀ i v st, R i v st ↔ (match v with | v_1 => ∃ (tm20 : Nat → AV) (cb20 : AE.Frame) (out20 : List AE.Frame) (glob20 : List AObj), st = ⟨tm20, ⟨cb20, out20, glob20⟩⟩ ∧ AllEq tm20 [(4, (.ptr (.fr 0 4) 1 0)), (5, (.ptr (.fr 0 5) 1 0)), (15, (iA r15)), (16, (iA ((i : Nat) : Int)))] ∧ AllEq cb20 [(4, ⟨1, .cells (c_api_Value (api_Value.mk 0 false 0 [] Sl.nil Sl.nil))⟩), (5, ⟨1, .cells (c_api_Value v_1)⟩)] ∧ con2 out20 glob20 d0 w0 = .cells (c_gatemake_Stream s_8) ∧ Same d0 out glob out20 glob20) := ⟨_, fun _ _ _ => Iff.rfl⟩
             refine W_loopcut J19 (fun st hst => ?_) ?_
             · obtain ⟨v_2, tm21, cb21, out21, glob21, rfl, hT21, hC21, hk21, hs21, rfl⟩ := (hJ19 st).1 hst
               obtain ⟨tm21, rfl⟩ := allEq hT21
               obtain ⟨cb21, rfl⟩ := allEq hC21
               refine sq <| rg <| L (.agg (c_api_Value v_2)) rfl rfl (op_load rfl (ld_con (.agg (c_api_Value v_2)) rfl rfl (cs := (c_api_Value v_2)) (con_fr rfl) (by simp only [e_api_Value]; rfl))) <| L (.tup []) (h' := ⟨upd _ 4 ⟨1, .cells (c_api_Value v_2)⟩, _, _⟩) rfl rfl (op_store rfl rfl (st_fr (x := (.agg (c_api_Value v_2))) (cs := (c_api_Value (api_Value.mk 0 false 0 [] Sl.nil Sl.nil))) (c_api_Value v_2) (by simp only [e_api_Value]; rfl) rfl (by simp only [e_api_Value]; exact Nat.le_of_ble_eq_true rfl) (by simp only [e_api_Value]; rfl))) <| nl <| rt ?_
               obtain rfl := Option.some.inj hF0
               exact mut_leaf (.inr rfl) (res_cell (ld_fr (y := (.agg (c_api_Value v_2))) rfl rfl (cs := (c_api_Value v_2)) rfl (by simp only [e_api_Value]; rfl)) (res_nil)) (retV_pl _ _ (.agg (c_api_Value v_2))) hk21 hs21
             · refine W_rangeL hb19 R19 ((hR19 _ _ _).2 ⟨_, _, _, _, rfl, (And.intro rfl (And.intro rfl (And.intro rfl (And.intro rfl True.intro)))), (And.intro rfl (And.intro rfl True.intro)), hk14, hs14⟩) ?_ ?_
               · intro i hi19 v st s hr hF1 hD1
                 obtain ⟨v_1, hv_⟩ : ∃ z, z = v := ⟨_, rfl⟩; subst hv_
                 obtain ⟨tm20, cb20, out20, glob20, rfl, hT20, hC20, hk20, hs20⟩ := (hR19 _ _ _).1 hr
                 obtain ⟨tm20, rfl⟩ := allEq hT20
                 obtain ⟨cb20, rfl⟩ := allEq hC20
                 dsimp only [gatemake_Stream_Value_l0] at hF1
                 refine sq (rg ?_)
                 refine WO_do (y := (bA (decide (((i : Nat) : Int) < r15)))) _ rfl rfl rfl (nl ?_)
                 refine sq <| cd true (congrArg some (rangeN_lt hi19)) (fun _ => ?_) (fun h => absurd h (by decide))
                 exact sk <| sq <| bk <| rg <| L (.agg (c_api_Value v_1)) rfl rfl (op_load rfl (ld_con (.agg (c_api_Value v_1)) rfl rfl (cs := (c_api_Value v_1)) (con_fr rfl) (by simp only [e_api_Value]; rfl))) <| L (Sl.av 6 c_api_Value (Sl.full [v_1] : Sl api_Value)) rfl rfl (op_sliceN rfl rfl (slice_of rfl rfl rfl (by decide) (fillS_cons (x := (.agg (c_api_Value v_1))) (by simp only [e_api_Value]; rfl) (Nat.le_of_ble_eq_true rfl) (fillS_nil)))) <| L (.agg (c_api_Value (api_Value.mk 4 false 0 [] (Sl.full [v_1] : Sl api_Value) Sl.nil))) rfl rfl (op_build rfl (build_eq (cs := (c_api_Value (api_Value.mk 4 false 0 [] (Sl.full [v_1] : Sl api_Value) Sl.nil))) rfl rfl rfl (fill_cons (x := (iA 4)) rfl rfl (Nat.le_of_ble_eq_true rfl) (fill_cons (x := (Sl.av 6 c_api_Value (Sl.full [v_1] : Sl api_Value))) rfl rfl (Nat.le_of_ble_eq_true rfl) (fill_nil))) (by simp only [e_api_Value]; rfl))) <| L (.tup []) (h' := ⟨upd _ 5 ⟨1, .cells (c_api_Value (api_Value.mk 4 false 0 [] (Sl.full [v_1] : Sl api_Value) Sl.nil))⟩, _, _⟩) rfl rfl (op_store rfl rfl (st_fr (x := (.agg (c_api_Value (api_Value.mk 4 false 0 [] (Sl.full [v_1] : Sl api_Value) Sl.nil)))) (cs := (c_api_Value v_1)) (c_api_Value (api_Value.mk 4 false 0 [] (Sl.full [v_1] : Sl api_Value) Sl.nil)) (by simp only [e_api_Value]; rfl) rfl (by simp only [e_api_Value]; exact Nat.le_of_ble_eq_true rfl) (by simp only [e_api_Value]; rfl))) <| nl <| rg <| WO_do (y := (iA ((i + 1 : Nat) : Int))) _ rfl rfl (congrArg (fun n => some (AV.int .i64 n, _)) (rangeN_len hi19 hn19)) <| WO_do (y := (iA ((i + 1 : Nat) : Int))) _ rfl rfl rfl <| nl <| Exists.intro _ (And.intro (Option.some.inj hF1).symm ((hR19 _ _ _).2 ⟨_, _, _, _, rfl, (And.intro rfl (And.intro rfl (And.intro rfl (And.intro rfl True.intro)))), (And.intro rfl (And.intro rfl True.intro)), hk20, hs20⟩))
               · intro v st hr hD1
                 obtain ⟨v_1, hv_⟩ : ∃ z, z = v := ⟨_, rfl⟩; subst hv_
                 obtain ⟨tm20, cb20, out20, glob20, rfl, hT20, hC20, hk20, hs20⟩ := (hR19 _ _ _).1 hr
                 obtain ⟨tm20, rfl⟩ := allEq hT20
                 obtain ⟨cb20, rfl⟩ := allEq hC20
                 refine sq (rg ?_)
                 refine WO_do (y := .bool false) _ rfl rfl (congrArg (fun b => some (AV.bool b, _)) (rangeN_ge _)) (nl ?_)
                 refine sq <| cd false rfl (fun h => absurd h (by decide)) (fun _ => ?_)
                 exact xt <| (hJ19 _).2 ⟨v_1, _, _, _, _, rfl, (And.intro rfl (And.intro rfl True.intro)), (And.intro rfl (And.intro rfl True.intro)), hk20, hs20, hD1⟩
 · replace hF0 := ite_f hF0 (not_t hc28)
   refine sk <| sq <| rg <| L (.agg (c_api_Value r8)) rfl rfl (op_load rfl (ld_con (.agg (c_api_Value r8)) rfl rfl (cs := (c_api_Value r8)) (con_fr rfl) (by simp only [e_api_Value]; rfl))) <| L (.tup []) (h' := ⟨upd _ 4 ⟨1, .cells (c_api_Value r8)⟩, _, _⟩) rfl rfl (op_store rfl rfl (st_fr (x := (.agg (c_api_Value r8))) (cs := (c_api_Value (api_Value.mk 0 false 0 [] Sl.nil Sl.nil))) (c_api_Value r8) (by simp only [e_api_Value]; rfl) rfl (by simp only [e_api_Value]; exact Nat.le_of_ble_eq_true rfl) (by simp only [e_api_Value]; rfl))) <| nl <| rt ?_
   obtain rfl := Option.some.inj hF0
   exact mut_leaf (.inr rfl) (res_cell (ld_fr (y := (.agg (c_api_Value r8))) rfl rfl (cs := (c_api_Value r8)) rfl (by simp only [e_api_Value]; rfl)) (res_nil)) (retV_pl _ _ (.agg (c_api_Value r8))) hk2 hs2

theorem okg_gatemake_Stream_Near (k : Nat) : (∀ (s_ : gatemake_Stream) (v_ : api_Value) {r : (api_Value × gatemake_Stream)} (hF0 : gatemake_Stream_Near k s_ v_ = some r), MutOk Tryd.prog pol 6 (fun p => [p, (.agg (c_api_Value v_))]) (c_gatemake_Stream s_) (.agg (c_api_Value r.1)) (c_gatemake_Stream r.2)) := by
 induction k with
 | zero => exact (by intro s_ v_ r hF0; rw [gatemake_Stream_Near] at hF0; cases hF0)
 | succ k ih =>
  have ih_gatemake_Stream_Near := ih
  intro s_ v_ r hF0
  rw [gatemake_Stream_Near] at hF0
  refine mut_walk Tryd.func6 rfl (fun _ => Nat.not_lt.2 (Nat.le_of_ble_eq_true rfl)) ?_
  intro out glob d0 w0 hh0 hk_0
  refine sq <| rg <| L (.ptr (.fr 0 3) 1 0) (h' := ⟨upd _ 3 ⟨1, .cells (c_api_Value v_)⟩, _, _⟩) rfl rfl (op_box (x' := (.agg (c_api_Value v_))) rfl rfl rfl rfl) <| L (.ptr (.fr 0 4) 1 0) (h' := ⟨upd _ 4 ⟨1, .cells (c_api_Value (api_Value.mk 0 false 0 [] Sl.nil Sl.nil))⟩, _, _⟩) rfl rfl (op_alloc (c_api_Value (api_Value.mk 0 false 0 [] Sl.nil Sl.nil)) rfl rfl rfl (by simp only [e_api_Value]; rfl)) <| nl <| sq <| bk <| sq <| rg <| L (.ptr d0 w0 0) rfl rfl rfl ?_
  obtain ⟨⟨r10, s_1⟩, h1, hF0⟩ := bind_some hF0
  refine WO_mutP (g := 5) (args := fun p => [p, (iA 3)]) (d := d0) (v := w0) (r := (bA r10)) _ _ rfl rfl rfl rfl rfl rfl rfl (fun _ _ => inferInstance) hh0 hk_0 (ok_gatemake_Stream_Flip _ _ h1) (fun out1 glob1 hk1 hs1 => ?_)
  replace hs1 := (Same.refl _ _ _).trans hs1
  refine L (bA r10) rfl rfl rfl <| nl <| cd r10 rfl (fun hc91 => ?_) (fun hc91 => ?_)
  · replace hF0 := ite_t hF0 (hc91)
    refine sq <| rg <| L (.ptr d0 w0 0) rfl rfl rfl ?_
    obtain ⟨⟨r14, s_2⟩, h2, hF0⟩ := bind_some hF0
    refine WO_mutP (g := 15) (args := fun p => [p, (iA 2)]) (d := d0) (v := w0) (r := (.agg (c_api_Value r14))) _ _ rfl rfl rfl rfl rfl rfl rfl (fun _ _ => inferInstance) hh0 hk1 (ok_gatemake_Stream_RightValue _ _ _ h2) (fun out2 glob2 hk2 hs2 => ?_)
    replace hs2 := hs1.trans hs2
    refine L (.tup []) (h' := ⟨upd _ 4 ⟨1, .cells (c_api_Value r14)⟩, _, _⟩) rfl rfl (op_store rfl rfl (st_fr (x := (.agg (c_api_Value r14))) (cs := (c_api_Value (api_Value.mk 0 false 0 [] Sl.nil Sl.nil))) (c_api_Value r14) (by simp only [e_api_Value]; rfl) rfl (by simp only [e_api_Value]; exact Nat.le_of_ble_eq_true rfl) (by simp only [e_api_Value]; rfl))) <| nl <| rt ?_
    obtain rfl := Option.some.inj hF0
    exact mut_leaf (.inr rfl) (res_cell (ld_fr (y := (.agg (c_api_Value r14))) rfl rfl (cs := (c_api_Value r14)) rfl (by simp only [e_api_Value]; rfl)) (res_nil)) (retV_pl _ _ (.agg (c_api_Value r14))) hk2 hs2
  · replace hF0 := ite_f hF0 (not_t hc91)
    refine sq <| rg <| L (.ptr (.fr 0 3) 1 0) rfl rfl rfl <| L (iA v_.Kind) rfl rfl (op_load rfl (ld_con (iA v_.Kind) rfl rfl (cs := (c_api_Value v_)) (con_fr rfl) (by simp only [e_api_Value]; rfl))) <| L (bA (v_.Kind == 4)) rfl rfl rfl <| L (bA (v_.Kind == 4)) rfl rfl rfl <| nl <| cd (v_.Kind == 4) rfl (fun hc90 => ?_) (fun hc90 => ?_)
    · replace hF0 := ite_t hF0 (beq_t hc90)
      refine sq <| rg <| L (.ptr (.fr 0 3) 1 4) rfl rfl rfl <| L (Sl.av 6 c_api_Value v_.List) rfl rfl (op_load rfl (ld_con (Sl.av 6 c_api_Value v_.List) rfl rfl (cs := (c_api_Value v_)) (con_fr rfl) (by simp only [e_api_Value]; rfl))) ?_
      obtain ⟨l, h4, hF0⟩ := bind_some hF0
      refine WO_zR1 (g := 21) (args := [(Sl.av 6 c_api_Value v_.List)]) (s := 5005) _ _ rfl rfl rfl rfl rfl rfl rfl rfl rfl (okm_slices_Clone_api_Value_api_Value _ h4 _ _ ) (fun o5005 hz_3 => ?_)
      refine L (Sl.lav (.fr 0 5005) o5005.ver l) rfl rfl rfl <| nl <| sq <| sq <| rg <| L (Sl.lav (.fr 0 5005) o5005.ver l) rfl rfl rfl <| L (iA (l.list.length : Int)) rfl rfl (op_len rfl rfl rfl rfl rfl (lz_len _ _ _)) <| L (iA 0) rfl rfl rfl <| nl <| bk ?_
      obtain ⟨b1, hb17, hF0⟩ := bind_some hF0
      obtain ⟨hn17, hb17⟩ := ite_none hb17
      obtain ⟨J17, hJ17⟩ : ∃ J : St → Prop, ∀ st, J st ↔ (∃ (s_9 : gatemake_Stream) (l5 : (Sl api_Value)) (o50055 : AObj) (tm19 : Nat → AV) (cb19 : AE.Frame) (out19 : List AE.Frame) (glob19 : List AObj), st = ⟨tm19, ⟨cb19, out19, glob19⟩⟩ ∧ AllEq tm19 [(0, (.ptr d0 w0 0)), (3, (.ptr (.fr 0 3) 1 0)), (4, (.ptr (.fr 0 4) 1 0)), (5, (Sl.lav (.fr 0 5005) o50055.ver l5))] ∧ AllEq cb19 [(3, ⟨1, .cells (c_api_Value v_)⟩), (4, ⟨1, .cells (c_api_Value (api_Value.mk 0 false 0 [] Sl.nil Sl.nil))⟩), (5005, o50055)] ∧ LzF 6 c_api_Value o50055 l5 ∧ con2 out19 glob19 d0 w0 = .cells (c_gatemake_Stream s_9) ∧ Same d0 out glob out19 glob19 ∧ (s_9, l5) = b1) := ⟨_, fun _ => Iff.rfl⟩
      obtain ⟨R17, hR17⟩ : ∃ R : Nat → (gatemake_Stream × (Sl api_Value)) → St → Prop, ∀ i v st, R i v st ↔ (match v with | (s_8, l4) => ∃ (o50054 : AObj) (tm18 : Nat → AV) (cb18 : AE.Frame) (out18 : List AE.Frame) (glob18 : List AObj), st = ⟨tm18, ⟨cb18, out18, glob18⟩⟩ ∧ AllEq tm18 [(0, (.ptr d0 w0 0)), (3, (.ptr (.fr 0 3) 1 0)), (4, (.ptr (.fr 0 4) 1 0)), (5, (Sl.lav (.fr 0 5005) o50054.ver l4)), (23, (iA (l.list.length : Int))), (24, (iA ((i : Nat) : Int)))] ∧ AllEq cb18 [(3, ⟨1, .cells (c_api_Value v_)⟩), (4, ⟨1, .cells (c_api_Value (api_Value.mk 0 false 0 [] Sl.nil Sl.nil))⟩), (5005, o50054)] ∧ LzF 6 c_api_Value o50054 l4 ∧ con2 out18 glob18 d0 w0 = .cells (c_gatemake_Stream s_8) ∧ Same d0 out glob out18 glob18) := ⟨_, fun _ _ _ => Iff.rfl⟩
      refine W_loopcut J17 (fun st hst => ?_) ?_
      · obtain ⟨s_9, l5, o50055, tm19, cb19, out19, glob19, rfl, hT19, hC19, hz19_0, hk19, hs19, rfl⟩ := (hJ17 st).1 hst
        obtain ⟨tm19, rfl⟩ := allEq hT19
        obtain ⟨cb19, rfl⟩ := allEq hC19
        refine sq <| bk <| sq <| rg <| L (.ptr d0 w0 0) rfl rfl rfl ?_
        obtain ⟨⟨r39, s_12⟩, h25, hF0⟩ := bind_some hF0
        refine WO_mutP (g := 5) (args := fun p => [p, (iA 3)]) (d := d0) (v := w0) (r := (bA r39)) _ _ rfl rfl rfl rfl rfl rfl rfl (fun _ _ => inferInstance) hh0 hk19 (ok_gatemake_Stream_Flip _ _ h25) (fun out25 glob25 hk25 hs25 => ?_)
        replace hs25 := hs19.trans hs25
        refine L (bA r39) rfl rfl rfl <| nl <| cd r39 rfl (fun hc35 => ?_) (fun hc35 => ?_)
        · replace hF0 := ite_t hF0 (hc35)
          refine rg <| L (Sl.lav (.fr 0 5005) o50055.ver l5) rfl rfl rfl <| L (.ptr d0 w0 0) rfl rfl rfl ?_
          obtain ⟨⟨r44, s_13⟩, h26, hF0⟩ := bind_some hF0
          refine WO_mutP (g := 15) (args := fun p => [p, (iA 1)]) (d := d0) (v := w0) (r := (.agg (c_api_Value r44))) _ _ rfl rfl rfl rfl rfl rfl rfl (fun _ _ => inferInstance) hh0 hk25 (ok_gatemake_Stream_RightValue _ _ _ h26) (fun out26 glob26 hk26 hs26 => ?_)
          replace hs26 := hs25.trans hs26
          refine L (Sl.av 6 c_api_Value (Sl.full [r44] : Sl api_Value)) rfl rfl (op_sliceN rfl rfl (slice_of rfl rfl rfl (by decide) (fillS_cons (x := (.agg (c_api_Value r44))) (by simp only [e_api_Value]; rfl) (Nat.le_of_ble_eq_true rfl) (fillS_nil)))) ?_
          obtain ⟨l7, h_l7, hF0⟩ := bind_some hF0
          refine WO_lzapp (s := 5005) (x := l5) (x' := l7) (o := o50055) (n := 6) (c := c_api_Value) (xs := [r44]) (y := (Sl.av 6 c_api_Value (Sl.full [r44] : Sl api_Value))) _ rfl rfl rfl rfl rfl rfl rfl rfl rfl rfl rfl rfl (z := (c_api_Value (api_Value.mk 0 false 0 [] Sl.nil Sl.nil))) rfl rfl (by simp only [e_api_Value]; rfl) rfl (by simp only [e_api_Value]; rfl) (by decide) (fun _ => (by simp only [e_api_Value]; rfl)) rfl rfl rfl hz19_0 h_l7 (fun o50057 hz_27 => ?_)
          refine L (Sl.lav (.fr 0 5005) o50057.ver l7) rfl rfl rfl <| nl <| rg <| WO_lzfrz (s := 5005) (n := 6) (c := c_api_Value) (x := l7) (o := o50057) _ rfl rfl rfl rfl rfl rfl rfl (.inl hz_27) (fun o50058 hz_28 hv28 => ?_)
          rw [← hv28]
          refine L (.ptr (.fr 0 3) 1 4) rfl rfl rfl <| L (.tup []) (h' := ⟨upd _ 3 ⟨1, .cells (c_api_Value (api_Value.mk v_.Kind v_.Flag v_.Number v_.Words l7 v_.Members))⟩, _, _⟩) rfl rfl (op_store rfl rfl (st_fr (x := (Sl.av 6 c_api_Value l7)) (cs := (c_api_Value v_)) (c_api_Value (api_Value.mk v_.Kind v_.Flag v_.Number v_.Words l7 v_.Members)) rfl rfl (by simp only [e_api_Value]; exact Nat.le_of_ble_eq_true rfl) (by simp only [e_api_Value]; rfl))) <| nl <| sq <| rg <| L (.agg (c_api_Value (api_Value.mk v_.Kind v_.Flag v_.Number v_.Words l7 v_.Members))) rfl rfl (op_load rfl (ld_con (.agg (c_api_Value (api_Value.mk v_.Kind v_.Flag v_.Number v_.Words l7 v_.Members))) rfl rfl (cs := (c_api_Value (api_Value.mk v_.Kind v_.Flag v_.Number v_.Words l7 v_.Members))) (con_fr rfl) (by simp only [e_api_Value]; rfl))) <| L (.tup []) (h' := ⟨upd _ 4 ⟨1, .cells (c_api_Value (api_Value.mk v_.Kind v_.Flag v_.Number v_.Words l7 v_.Members))⟩, _, _⟩) rfl rfl (op_store rfl rfl (st_fr (x := (.agg (c_api_Value (api_Value.mk v_.Kind v_.Flag v_.Number v_.Words l7 v_.Members)))) (cs := (c_api_Value (api_Value.mk 0 false 0 [] Sl.nil Sl.nil))) (c_api_Value (api_Value.mk v_.Kind v_.Flag v_.Number v_.Words l7 v_.Members)) (by simp only [e_api_Value]; rfl) rfl (by simp only [e_api_Value]; exact Nat.le_of_ble_eq_true rfl) (by simp only [e_api_Value]; rfl))) <| nl <| rt ?_
          obtain rfl := Option.some.inj hF0
          exact mut_leaf (.inr rfl) (res_cell (ld_fr (y := (.agg (c_api_Value (api_Value.mk v_.Kind v_.Flag v_.Number v_.Words l7 v_.Members)))) rfl rfl (cs := (c_api_Value (api_Value.mk v_.Kind v_.Flag v_.Number v_.Words l7 v_.Members))) rfl (by simp only [e_api_Value]; rfl)) (res_nil)) (retV_pl _ _ (.agg (c_api_Value (api_Value.mk v_.Kind v_.Flag v_.Number v_.Words l7 v_.Members)))) hk26 hs26
        · replace hF0 := ite_f hF0 (not_t hc35)
          refine sq <| rg <| L (.ptr d0 w0 0) rfl rfl rfl ?_
          obtain ⟨⟨r49, s_14⟩, h29, hF0⟩ := bind_some hF0
          refine WO_mutP (g := 5) (args := fun p => [p, (iA 3)]) (d := d0) (v := w0) (r := (bA r49)) _ _ rfl rfl rfl rfl rfl rfl rfl (fun _ _ => inferInstance) hh0 hk25 (ok_gatemake_Stream_Flip _ _ h29) (fun out29 glob29 hk29 hs29 => ?_)
          replace hs29 := hs25.trans hs29
          obtain ⟨J30, hJ30⟩ : ∃ J : St → Prop, ∀ st, J st ↔ (∃ (tm31 : Nat → AV) (cb31 : AE.Frame) (out31 : List AE.Frame) (glob31 : List AObj), st = ⟨tm31, ⟨cb31, out31, glob31⟩⟩ ∧ AllEq tm31 [(3, (.ptr (.fr 0 3) 1 0)), (4, (.ptr (.fr 0 4) 1 0)), (5, (Sl.lav (.fr 0 5005) o50055.ver l5)), (54, (bA (r49 && (decide ((l5.list.length : Int) > 0)))))] ∧ AllEq cb31 [(3, ⟨1, .cells (c_api_Value v_)⟩), (4, ⟨1, .cells (c_api_Value (api_Value.mk 0 false 0 [] Sl.nil Sl.nil))⟩), (5005, o50055)] ∧ LzF 6 c_api_Value o50055 l5 ∧ con2 out31 glob31 d0 w0 = .cells (c_gatemake_Stream s_14) ∧ Same d0 out glob out31 glob31) := ⟨_, fun _ => Iff.rfl⟩
          refine WO_cut 5 J30 (fun st hst => ?_) ?_
          · obtain ⟨tm31, cb31, out31, glob31, rfl, hT31, hC31, hz31_0, hk31, hs31⟩ := (hJ30 st).1 hst
            obtain ⟨tm31, rfl⟩ := allEq hT31
            obtain ⟨cb31, rfl⟩ := allEq hC31
            refine L (bA (r49 && (decide ((l5.list.length : Int) > 0)))) rfl rfl rfl <| nl <| cd (r49 && (decide ((l5.list.length : Int) > 0))) rfl (fun hc34 => ?_) (fun hc34 => ?_)
            · replace hF0 := ite_t hF0 (hc34)
              refine rg <| WO_lzfrz (s := 5005) (n := 6) (c := c_api_Value) (x := l5) (o := o50055) _ rfl rfl rfl rfl rfl rfl rfl (.inl hz31_0) (fun o50059 hz_32 hv32 => ?_)
              rw [← hv32]
              refine L (Sl.lav (.fr 0 5005) o50059.ver l5) rfl rfl rfl <| L (iA (l5.list.length : Int)) rfl rfl (op_len rfl rfl rfl rfl rfl (lz_len _ _ _)) <| L (iA (w64 ((l5.list.length : Int) - 1))) rfl rfl rfl ?_
              obtain ⟨l8, h_l8, hF0⟩ := bind_some hF0
              refine L (Sl.av 6 c_api_Value l8) rfl rfl (op_slice rfl (sl_sl (c := c_api_Value) (a := 0) (b := w64 ((l5.list.length : Int) - 1)) rfl rfl rfl rfl h_l8)) ?_
              refine L (Sl.av 6 c_api_Value l8) rfl rfl rfl <| nl <| rg <| L (Sl.av 6 c_api_Value l8) rfl rfl (op_movS rfl rfl rfl) <| L (.ptr (.fr 0 3) 1 4) rfl rfl rfl <| L (.tup []) (h' := ⟨upd _ 3 ⟨1, .cells (c_api_Value (api_Value.mk v_.Kind v_.Flag v_.Number v_.Words l8 v_.Members))⟩, _, _⟩) rfl rfl (op_store rfl rfl (st_fr (x := (Sl.av 6 c_api_Value l8)) (cs := (c_api_Value v_)) (c_api_Value (api_Value.mk v_.Kind v_.Flag v_.Number v_.Words l8 v_.Members)) rfl rfl (by simp only [e_api_Value]; exact Nat.le_of_ble_eq_true rfl) (by simp only [e_api_Value]; rfl))) <| nl <| sq <| rg <| L (.agg (c_api_Value (api_Value.mk v_.Kind v_.Flag v_.Number v_.Words l8 v_.Members))) rfl rfl (op_load rfl (ld_con (.agg (c_api_Value (api_Value.mk v_.Kind v_.Flag v_.Number v_.Words l8 v_.Members))) rfl rfl (cs := (c_api_Value (api_Value.mk v_.Kind v_.Flag v_.Number v_.Words l8 v_.Members))) (con_fr rfl) (by simp only [e_api_Value]; rfl))) <| L (.tup []) (h' := ⟨upd _ 4 ⟨1, .cells (c_api_Value (api_Value.mk v_.Kind v_.Flag v_.Number v_.Words l8 v_.Members))⟩, _, _⟩) rfl rfl (op_store rfl rfl (st_fr (x := (.agg (c_api_Value (api_Value.mk v_.Kind v_.Flag v_.Number v_.Words l8 v_.Members)))) (cs := (c_api_Value (api_Value.mk 0 false 0 [] Sl.nil Sl.nil))) (c_api_Value (api_Value.mk v_.Kind v_.Flag v_.Number v_.Words l8 v_.Members)) (by simp only [e_api_Value]; rfl) rfl (by simp only [e_api_Value]; exact Nat.le_of_ble_eq_true rfl) (by simp only [e_api_Value]; rfl))) <| nl <| rt ?_
              obtain rfl := Option.some.inj hF0
              exact mut_leaf (.inr rfl) (res_cell (ld_fr (y := (.agg (c_api_Value (api_Value.mk v_.Kind v_.Flag v_.Number v_.Words l8 v_.Members)))) rfl rfl (cs := (c_api_Value (api_Value.mk v_.Kind v_.Flag v_.Number v_.Words l8 v_.Members))) rfl (by simp only [e_api_Value]; rfl)) (res_nil)) (retV_pl _ _ (.agg (c_api_Value (api_Value.mk v_.Kind v_.Flag v_.Number v_.Words l8 v_.Members)))) hk31 hs31
            · replace hF0 := ite_f hF0 (not_t hc34)
              refine sk <| rg <| WO_lzfrz (s := 5005) (n := 6) (c := c_api_Value) (x := l5) (o := o50055) _ rfl rfl rfl rfl rfl rfl rfl (.inl hz31_0) (fun o500510 hz_33 hv33 => ?_)
              rw [← hv33]
              refine L (.ptr (.fr 0 3) 1 4) rfl rfl rfl <| L (.tup []) (h' := ⟨upd _ 3 ⟨1, .cells (c_api_Value (api_Value.mk v_.Kind v_.Flag v_.Number v_.Words l5 v_.Members))⟩, _, _⟩) rfl rfl (op_store rfl rfl (st_fr (x := (Sl.av 6 c_api_Value l5)) (cs := (c_api_Value v_)) (c_api_Value (api_Value.mk v_.Kind v_.Flag v_.Number v_.Words l5 v_.Members)) rfl rfl (by simp only [e_api_Value]; exact Nat.le_of_ble_eq_true rfl) (by simp only [e_api_Value]; rfl))) <| nl <| sq <| rg <| L (.agg (c_api_Value (api_Value.mk v_.Kind v_.Flag v_.Number v_.Words l5 v_.Members))) rfl rfl (op_load rfl (ld_con (.agg (c_api_Value (api_Value.mk v_.Kind v_.Flag v_.Number v_.Words l5 v_.Members))) rfl rfl (cs := (c_api_Value (api_Value.mk v_.Kind v_.Flag v_.Number v_.Words l5 v_.Members))) (con_fr rfl) (by simp only [e_api_Value]; rfl))) <| L (.tup []) (h' := ⟨upd _ 4 ⟨1, .cells (c_api_Value (api_Value.mk v_.Kind v_.Flag v_.Number v_.Words l5 v_.Members))⟩, _, _⟩) rfl rfl (op_store rfl rfl (st_fr (x := (.agg (c_api_Value (api_Value.mk v_.Kind v_.Flag v_.Number v_.Words l5 v_.Members)))) (cs := (c_api_Value (api_Value.mk 0 false 0 [] Sl.nil Sl.nil))) (c_api_Value (api_Value.mk v_.Kind v_.Flag v_.Number v_.Words l5 v_.Members)) (by simp only [e_api_Value]; rfl) rfl (by simp only [e_api_Value]; exact Nat.le_of_ble_eq_true rfl) (by simp only [e_api_Value]; rfl))) <| nl <| rt ?_
              obtain rfl := Option.some.inj hF0
              exact mut_leaf (.inr rfl) (res_cell (ld_fr (y := (.agg (c_api_Value (api_Value.mk v_.Kind v_.Flag v_.Number v_.Words l5 v_.Members)))) rfl rfl (cs := (c_api_Value (api_Value.mk v_.Kind v_.Flag v_.Number v_.Words l5 v_.Members))) rfl (by simp only [e_api_Value]; rfl)) (res_nil)) (retV_pl _ _ (.agg (c_api_Value (api_Value.mk v_.Kind v_.Flag v_.Number v_.Words l5 v_.Members)))) hk31 hs31
          · rcases bool_cases r49 with hc30 | hc30
            · exact L (.bool true) rfl rfl (congrArg (fun b => some (AV.bool b, _)) hc30) <| L (Sl.lav (.fr 0 5005) o50055.ver l5) rfl rfl rfl <| L (iA (l5.list.length : Int)) rfl rfl (op_len rfl rfl rfl rfl rfl (lz_len _ _ _)) <| L (bA (decide ((l5.list.length : Int) > 0))) rfl rfl rfl <| L (bA (r49 && (decide ((l5.list.length : Int) > 0)))) rfl rfl (congrArg (fun b => some (AV.bool b, _)) (by rw [hc30]; rfl)) <| nl ((hJ30 _).2 ⟨_, _, _, _, rfl, (And.intro rfl (And.intro rfl (And.intro rfl (And.intro rfl True.intro)))), (And.intro rfl (And.intro rfl (And.intro rfl True.intro))), hz19_0, hk29, hs29⟩)
            · exact L (.bool false) rfl rfl (congrArg (fun b => some (AV.bool b, _)) hc30) <| WO_no _ rfl rfl <| WO_no _ rfl rfl <| WO_no _ rfl rfl <| L (bA (r49 && (decide ((l5.list.length : Int) > 0)))) rfl rfl (congrArg (fun b => some (AV.bool b, _)) (by rw [hc30]; rfl)) <| nl ((hJ30 _).2 ⟨_, _, _, _, rfl, (And.intro rfl (And.intro rfl (And.intro rfl (And.intro rfl True.intro)))), (And.intro rfl (And.intro rfl (And.intro rfl True.intro))), hz19_0, hk29, hs29⟩)
      · refine W_rangeL hb17 R17 ((hR17 _ _ _).2 ⟨o5005, _, _, _, _, rfl, (And.intro rfl (And.intro rfl (And.intro rfl (And.intro rfl (And.intro rfl (And.intro rfl True.intro)))))), (And.intro rfl (And.intro rfl (And.intro rfl True.intro))), hz_3, hk1, hs1⟩) ?_ ?_
        · intro i hi17 v st s hr hF1 hD1
          obtain ⟨s_8, l4⟩ := v
          obtain ⟨o50054, tm18, cb18, out18, glob18, rfl, hT18, hC18, hz18_0, hk18, hs18⟩ := (hR17 _ _ _).1 hr
          obtain ⟨tm18, rfl⟩ := allEq hT18
          obtain ⟨cb18, rfl⟩ := allEq hC18
          dsimp only [gatemake_Stream_Near_l0] at hF1
          refine sq (rg ?_)
          refine WO_do (y := (bA (decide (((i : Nat) : Int) < (l.list.length : Int))))) _ rfl rfl rfl (nl ?_)
          refine sq <| cd true (congrArg some (rangeN_lt hi17)) (fun _ => ?_) (fun h => absurd h (by decide))
          refine sk <| sq <| bk <| sq <| rg <| L (iA ((i : Nat) : Int)) rfl rfl rfl <| L (iA ((i : Nat) : Int)) rfl rfl rfl <| nl <| sq <| rg <| L (.ptr d0 w0 0) rfl rfl rfl ?_
          obtain ⟨⟨r282, s_10⟩, h21, hF1⟩ := bind_some hF1
          refine WO_mutP (g := 5) (args := fun p => [p, (iA 2)]) (d := d0) (v := w0) (r := (bA r282)) _ _ rfl rfl rfl rfl rfl rfl rfl (fun _ _ => inferInstance) hh0 hk18 (ok_gatemake_Stream_Flip _ _ h21) (fun out21 glob21 hk21 hs21 => ?_)
          replace hs21 := hs18.trans hs21
          refine nl <| cd r282 rfl (fun hc24 => ?_) (fun hc24 => ?_)
          · replace hF1 := ite_t hF1 (hc24)
            refine rg <| L (Sl.lav (.fr 0 5005) o50054.ver l4) rfl rfl rfl <| L (iA ((i : Nat) : Int)) rfl rfl rfl <| L (.ptr d0 w0 0) rfl rfl rfl <| L (Sl.lav (.fr 0 5005) o50054.ver l4) rfl rfl rfl <| L (iA ((i : Nat) : Int)) rfl rfl rfl ?_
            obtain ⟨x4, h_x4, hF1⟩ := bind_some hF1
            refine L (.eptr (.fr 0 5005) o50054.ver (((i : Nat) : Int) : Int).toNat 0) rfl rfl (op_ix rfl (ix_lz (x := l4) (o := o50054) (n := 6) (c := c_api_Value) rfl rfl rfl hz18_0 h_x4)) <| L (.agg (c_api_Value x4)) rfl rfl (op_load rfl (ld_lz (x := l4) (o := o50054) (n := 6) (c := c_api_Value) (.agg (c_api_Value x4)) rfl rfl rfl hz18_0 h_x4 (by simp only [e_api_Value]; rfl))) ?_
            obtain ⟨⟨r362, s_11⟩, h22, hF1⟩ := bind_some hF1
            refine WO_mutP (g := 6) (args := fun p => [p, (.agg (c_api_Value x4))]) (d := d0) (v := w0) (r := (.agg (c_api_Value r362))) _ _ rfl rfl rfl rfl rfl rfl rfl (fun _ _ => inferInstance) hh0 hk21 (ih_gatemake_Stream_Near _ _ h22) (fun out22 glob22 hk22 hs22 => ?_)
            replace hs22 := hs21.trans hs22
            obtain ⟨x5, h_x5, hF1⟩ := bind_some hF1
            refine L (.eptr (.fr 0 5005) o50054.ver (((i : Nat) : Int) : Int).toNat 0) rfl rfl (op_ix rfl (ix_lz (x := l4) (o := o50054) (n := 6) (c := c_api_Value) rfl rfl rfl hz18_0 h_x5)) ?_
            obtain ⟨l6, h_l6, hF1⟩ := bind_some hF1
            refine WO_lzset (s := 5005) (x := l4) (x' := l6) (o := o50054) (n := 6) (c := c_api_Value) (y := x5) (y' := r362) (k := 0) (w := (.agg (c_api_Value r362))) _ rfl rfl rfl rfl rfl rfl (by simp only [e_api_Value]; rfl) rfl hz18_0 h_x5 (by simp only [e_api_Value]; exact Nat.le_of_ble_eq_true rfl) (by simp only [e_api_Value]; rfl) h_l6 (fun o50056 hz_23 hv23 => ?_)
            rw [lav_set h_l6 hv23, ← hv23]
            exact nl <| rg <| WO_do (y := (iA ((i + 1 : Nat) : Int))) _ rfl rfl (congrArg (fun n => some (AV.int .i64 n, _)) (rangeN_len hi17 hn17)) <| WO_do (y := (iA ((i + 1 : Nat) : Int))) _ rfl rfl rfl <| nl <| Exists.intro _ (And.intro (Option.some.inj hF1).symm ((hR17 _ _ _).2 ⟨o50056, _, _, _, _, rfl, (And.intro rfl (And.intro rfl (And.intro rfl (And.intro rfl (And.intro rfl (And.intro rfl True.intro)))))), (And.intro rfl (And.intro rfl (And.intro rfl True.intro))), hz_23, hk22, hs22⟩))
          · replace hF1 := ite_f hF1 (not_t hc24)
            exact sk <| rg <| WO_do (y := (iA ((i + 1 : Nat) : Int))) _ rfl rfl (congrArg (fun n => some (AV.int .i64 n, _)) (rangeN_len hi17 hn17)) <| WO_do (y := (iA ((i + 1 : Nat) : Int))) _ rfl rfl rfl <| nl <| Exists.intro _ (And.intro (Option.some.inj hF1).symm ((hR17 _ _ _).2 ⟨o50054, _, _, _, _, rfl, (And.intro rfl (And.intro rfl (And.intro rfl (And.intro rfl (And.intro rfl (And.intro rfl True.intro)))))), (And.intro rfl (And.intro rfl (And.intro rfl True.intro))), hz18_0, hk21, hs21⟩))
        · intro v st hr hD1
          obtain ⟨s_8, l4⟩ := v
          obtain ⟨o50054, tm18, cb18, out18, glob18, rfl, hT18, hC18, hz18_0, hk18, hs18⟩ := (hR17 _ _ _).1 hr
          obtain ⟨tm18, rfl⟩ := allEq hT18
          obtain ⟨cb18, rfl⟩ := allEq hC18
          refine sq (rg ?_)
          refine WO_do (y := .bool false) _ rfl rfl (congrArg (fun b => some (AV.bool b, _)) (rangeN_ge _)) (nl ?_)
          refine sq <| cd false rfl (fun h => absurd h (by decide)) (fun _ => ?_)
          exact xt <| (hJ17 _).2 ⟨s_8, l4, o50054, _, _, _, _, rfl, (And.intro rfl (And.intro rfl (And.intro rfl (And.intro rfl True.intro)))), (And.intro rfl (And.intro rfl (And.intro rfl True.intro))), hz18_0, hk18, hs18, hD1⟩
    · replace hF0 := ite_f hF0 (beq_f hc90)
      refine sq <| rg <| L (.ptr (.fr 0 3) 1 0) rfl rfl rfl <| L (iA v_.Kind) rfl rfl (op_load rfl (ld_con (iA v_.Kind) rfl rfl (cs := (c_api_Value v_)) (con_fr rfl) (by simp only [e_api_Value]; rfl))) <| L (bA (v_.Kind == 5)) rfl rfl rfl <| L (bA (v_.Kind == 5)) rfl rfl rfl <| nl <| cd (v_.Kind == 5) rfl (fun hc89 => ?_) (fun hc89 => ?_)
      · replace hF0 := ite_t hF0 (beq_t hc89)
        refine sq <| rg <| L (Sl.av 7 c_api_Member Sl.nil) rfl rfl rfl <| nl <| sq <| sq <| rg <| L (.ptr (.fr 0 3) 1 5) rfl rfl rfl <| L (Sl.av 7 c_api_Member v_.Members) rfl rfl (op_load rfl (ld_con (Sl.av 7 c_api_Member v_.Members) rfl rfl (cs := (c_api_Value v_)) (con_fr rfl) (by simp only [e_api_Value]; rfl))) <| L (iA (v_.Members.list.length : Int)) rfl rfl (op_len rfl rfl rfl rfl rfl (len_sl _)) <| L (iA 0) rfl rfl rfl <| nl <| bk ?_
        obtain ⟨b1, hb63, hF0⟩ := bind_some hF0
        obtain ⟨hn63, hb63⟩ := ite_none hb63
        obtain ⟨J63, hJ63⟩ : ∃ J : St → Prop, ∀ st, J st ↔ (∃ (s_27 : gatemake_Stream) (l18 : (Sl api_Member)) (o50079 : AObj) (tm65 : Nat → AV) (cb65 : AE.Frame) (out65 : List AE.Frame) (glob65 : List AObj), st = ⟨tm65, ⟨cb65, out65, glob65⟩⟩ ∧ AllEq tm65 [(0, (.ptr d0 w0 0)), (3, (.ptr (.fr 0 3) 1 0)), (4, (.ptr (.fr 0 4) 1 0)), (7, (Sl.lav (.fr 0 5007) o50079.ver l18))] ∧ AllEq cb65 [(3, ⟨1, .cells (c_api_Value v_)⟩), (4, ⟨1, .cells (c_api_Value (api_Value.mk 0 false 0 [] Sl.nil Sl.nil))⟩), (5007, o50079)] ∧ LzF 7 c_api_Member o50079 l18 ∧ con2 out65 glob65 d0 w0 = .cells (c_gatemake_Stream s_27) ∧ Same d0 out glob out65 glob65 ∧ (s_27, l18) = b1) := ⟨_, fun _ => Iff.rfl⟩
        obtain ⟨R63, hR63⟩ : ∃ R : Nat → (gatemake_Stream × (Sl api_Member)) → St → Prop, ∀ i1 v st, R i1 v st ↔ (match v with | (s_26, l17) => ∃ (o50078 : AObj) (tm64 : Nat → AV) (cb64 : AE.Frame) (out64 : List AE.Frame) (glob64 : List AObj), st = ⟨tm64, ⟨cb64, out64, glob64⟩⟩ ∧ AllEq tm64 [(0, (.ptr d0 w0 0)), (3, (.ptr (.fr 0 3) 1 0)), (4, (.ptr (.fr 0 4) 1 0)), (7, (Sl.lav (.fr 0 5007) o50078.ver l17)), (67, (Sl.av 7 c_api_Member v_.Members)), (68, (iA (v_.Members.list.length : Int))), (69, (iA ((i1 : Nat) : Int)))] ∧ AllEq cb64 [(3, ⟨1, .cells (c_api_Value v_)⟩), (4, ⟨1, .cells (c_api_Value (api_Value.mk 0 false 0 [] Sl.nil Sl.nil))⟩), (5007, o50078)] ∧ LzF 7 c_api_Member o50078 l17 ∧ con2 out64 glob64 d0 w0 = .cells (c_gatemake_Stream s_26) ∧ Same d0 out glob out64 glob64) := ⟨_, fun _ _ _ => Iff.rfl⟩
        refine W_loopcut J63 (fun st hst => ?_) ?_
        · obtain ⟨s_27, l18, o50079, tm65, cb65, out65, glob65, rfl, hT65, hC65, hz65_0, hk65, hs65, rfl⟩ := (hJ63 st).1 hst
          obtain ⟨tm65, rfl⟩ := allEq hT65
          obtain ⟨cb65, rfl⟩ := allEq hC65
          refine sq <| sq <| rg <| L (Sl.lav (.fr 0 5007) o50079.ver l18) rfl rfl rfl <| L (iA (l18.list.length : Int)) rfl rfl (op_len rfl rfl rfl rfl rfl (lz_len _ _ _)) <| L (bA ((l18.list.length : Int) == 0)) rfl rfl rfl ?_
          obtain ⟨y78, hF1, hF0⟩ := bind_some hF0
          obtain ⟨J78, hJ78⟩ : ∃ J : St → Prop, ∀ st, J st ↔ (∃ (s_34 : gatemake_Stream) (t103 : Bool) (tm79 : Nat → AV) (cb79 : AE.Frame) (out79 : List AE.Frame) (glob79 : List AObj), st = ⟨tm79, ⟨cb79, out79, glob79⟩⟩ ∧ AllEq tm79 [(0, (.ptr d0 w0 0)), (3, (.ptr (.fr 0 3) 1 0)), (4, (.ptr (.fr 0 4) 1 0)), (7, (Sl.lav (.fr 0 5007) o50079.ver l18)), (103, (bA t103))] ∧ AllEq cb79 [(3, ⟨1, .cells (c_api_Value v_)⟩), (4, ⟨1, .cells (c_api_Value (api_Value.mk 0 false 0 [] Sl.nil Sl.nil))⟩), (5007, o50079)] ∧ LzF 7 c_api_Member o50079 l18 ∧ con2 out79 glob79 d0 w0 = .cells (c_gatemake_Stream s_34) ∧ Same d0 out glob out79 glob79 ∧ (s_34, t103) = y78) := ⟨_, fun _ => Iff.rfl⟩
          refine WO_cut 14 J78 (fun st hst => ?_) ?_
          · obtain ⟨s_34, t103, tm79, cb79, out79, glob79, rfl, hT79, hC79, hz79_0, hk79, hs79, rfl⟩ := (hJ78 st).1 hst
            obtain ⟨tm79, rfl⟩ := allEq hT79
            obtain ⟨cb79, rfl⟩ := allEq hC79
            refine nl <| cd t103 rfl (fun hc84 => ?_) (fun hc84 => ?_)
            · replace hF0 := ite_t hF0 (hc84)
              refine rg <| L (Sl.lav (.fr 0 5007) o50079.ver l18) rfl rfl rfl <| L (.ptr d0 w0 0) rfl rfl rfl ?_
              obtain ⟨⟨r106, s_35⟩, h80, hF0⟩ := bind_some hF0
              refine WO_mutP (g := 15) (args := fun p => [p, (iA 1)]) (d := d0) (v := w0) (r := (.agg (c_api_Value r106))) _ _ rfl rfl rfl rfl rfl rfl rfl (fun _ _ => inferInstance) hh0 hk79 (ok_gatemake_Stream_RightValue _ _ _ h80) (fun out80 glob80 hk80 hs80 => ?_)
              replace hs80 := hs79.trans hs80
              refine L (.agg (c_api_Member (api_Member.mk [122] r106))) rfl rfl (op_build rfl (build_eq (cs := (c_api_Member (api_Member.mk [122] r106))) rfl rfl rfl (fill_cons (x := (sA [122])) rfl rfl (Nat.le_of_ble_eq_true rfl) (fill_cons (x := (.agg (c_api_Value r106))) rfl (by simp only [e_api_Value]; rfl) (by simp only [e_api_Value]; exact Nat.le_of_ble_eq_true rfl) (fill_nil))) (by simp only [e_api_Member, e_api_Value]; rfl))) <| L (Sl.av 7 c_api_Member (Sl.full [(api_Member.mk [122] r106)] : Sl api_Member)) rfl rfl (op_sliceN rfl rfl (slice_of rfl rfl rfl (by decide) (fillS_cons (x := (.agg (c_api_Member (api_Member.mk [122] r106)))) (by simp only [e_api_Member, e_api_Value]; rfl) (Nat.le_of_ble_eq_true rfl) (fillS_nil)))) ?_
              obtain ⟨l21, h_l21, hF0⟩ := bind_some hF0
              refine WO_lzapp (s := 5007) (x := l18) (x' := l21) (o := o50079) (n := 7) (c := c_api_Member) (xs := [(api_Member.mk [122] r106)]) (y := (Sl.av 7 c_api_Member (Sl.full [(api_Member.mk [122] r106)] : Sl api_Member))) _ rfl rfl rfl rfl rfl rfl rfl rfl rfl rfl rfl rfl (z := (c_api_Member (api_Member.mk [] (api_Value.mk 0 false 0 [] Sl.nil Sl.nil)))) rfl rfl (by simp only [e_api_Member, e_api_Value]; rfl) rfl (by simp only [e_api_Member, e_api_Value]; rfl) (by decide) (fun _ => (by simp only [e_api_Member, e_api_Value]; rfl)) rfl rfl rfl hz79_0 h_l21 (fun o500712 hz_81 => ?_)
              refine L (Sl.lav (.fr 0 5007) o500712.ver l21) rfl rfl rfl <| nl <| rg <| WO_lzfrz (s := 5007) (n := 7) (c := c_api_Member) (x := l21) (o := o500712) _ rfl rfl rfl rfl rfl rfl rfl (.inl hz_81) (fun o500713 hz_82 hv82 => ?_)
              rw [← hv82]
              refine L (.ptr (.fr 0 3) 1 5) rfl rfl rfl <| L (.tup []) (h' := ⟨upd _ 3 ⟨1, .cells (c_api_Value (api_Value.mk v_.Kind v_.Flag v_.Number v_.Words v_.List l21))⟩, _, _⟩) rfl rfl (op_store rfl rfl (st_fr (x := (Sl.av 7 c_api_Member l21)) (cs := (c_api_Value v_)) (c_api_Value (api_Value.mk v_.Kind v_.Flag v_.Number v_.Words v_.List l21)) rfl rfl (by simp only [e_api_Value]; exact Nat.le_of_ble_eq_true rfl) (by simp only [e_api_Value]; rfl))) <| nl <| sq <| rg <| L (.agg (c_api_Value (api_Value.mk v_.Kind v_.Flag v_.Number v_.Words v_.List l21))) rfl rfl (op_load rfl (ld_con (.agg (c_api_Value (api_Value.mk v_.Kind v_.Flag v_.Number v_.Words v_.List l21))) rfl rfl (cs := (c_api_Value (api_Value.mk v_.Kind v_.Flag v_.Number v_.Words v_.List l21))) (con_fr rfl) (by simp only [e_api_Value]; rfl))) <| L (.tup []) (h' := ⟨upd _ 4 ⟨1, .cells (c_api_Value (api_Value.mk v_.Kind v_.Flag v_.Number v_.Words v_.List l21))⟩, _, _⟩) rfl rfl (op_store rfl rfl (st_fr (x := (.agg (c_api_Value (api_Value.mk v_.Kind v_.Flag v_.Number v_.Words v_.List l21)))) (cs := (c_api_Value (api_Value.mk 0 false 0 [] Sl.nil Sl.nil))) (c_api_Value (api_Value.mk v_.Kind v_.Flag v_.Number v_.Words v_.List l21)) (by simp only [e_api_Value]; rfl) rfl (by simp only [e_api_Value]; exact Nat.le_of_ble_eq_true rfl) (by simp only [e_api_Value]; rfl))) <| nl <| rt ?_
              obtain rfl := Option.some.inj hF0
              exact mut_leaf (.inr rfl) (res_cell (ld_fr (y := (.agg (c_api_Value (api_Value.mk v_.Kind v_.Flag v_.Number v_.Words v_.List l21)))) rfl rfl (cs := (c_api_Value (api_Value.mk v_.Kind v_.Flag v_.Number v_.Words v_.List l21))) rfl (by simp only [e_api_Value]; rfl)) (res_nil)) (retV_pl _ _ (.agg (c_api_Value (api_Value.mk v_.Kind v_.Flag v_.Number v_.Words v_.List l21)))) hk80 hs80
            · replace hF0 := ite_f hF0 (not_t hc84)
              refine sk <| rg <| WO_lzfrz (s := 5007) (n := 7) (c := c_api_Member) (x := l18) (o := o50079) _ rfl rfl rfl rfl rfl rfl rfl (.inl hz79_0) (fun o500714 hz_83 hv83 => ?_)
              rw [← hv83]
              refine L (.ptr (.fr 0 3) 1 5) rfl rfl rfl <| L (.tup []) (h' := ⟨upd _ 3 ⟨1, .cells (c_api_Value (api_Value.mk v_.Kind v_.Flag v_.Number v_.Words v_.List l18))⟩, _, _⟩) rfl rfl (op_store rfl rfl (st_fr (x := (Sl.av 7 c_api_Member l18)) (cs := (c_api_Value v_)) (c_api_Value (api_Value.mk v_.Kind v_.Flag v_.Number v_.Words v_.List l18)) rfl rfl (by simp only [e_api_Value]; exact Nat.le_of_ble_eq_true rfl) (by simp only [e_api_Value]; rfl))) <| nl <| sq <| rg <| L (.agg (c_api_Value (api_Value.mk v_.Kind v_.Flag v_.Number v_.Words v_.List l18))) rfl rfl (op_load rfl (ld_con (.agg (c_api_Value (api_Value.mk v_.Kind v_.Flag v_.Number v_.Words v_.List l18))) rfl rfl (cs := (c_api_Value (api_Value.mk v_.Kind v_.Flag v_.Number v_.Words v_.List l18))) (con_fr rfl) (by simp only [e_api_Value]; rfl))) <| L (.tup []) (h' := ⟨upd _ 4 ⟨1, .cells (c_api_Value (api_Value.mk v_.Kind v_.Flag v_.Number v_.Words v_.List l18))⟩, _, _⟩) rfl rfl (op_store rfl rfl (st_fr (x := (.agg (c_api_Value (api_Value.mk v_.Kind v_.Flag v_.Number v_.Words v_.List l18)))) (cs := (c_api_Value (api_Value.mk 0 false 0 [] Sl.nil Sl.nil))) (c_api_Value (api_Value.mk v_.Kind v_.Flag v_.Number v_.Words v_.List l18)) (by simp only [e_api_Value]; rfl) rfl (by simp only [e_api_Value]; exact Nat.le_of_ble_eq_true rfl) (by simp only [e_api_Value]; rfl))) <| nl <| rt ?_
              obtain rfl := Option.some.inj hF0
              exact mut_leaf (.inr rfl) (res_cell (ld_fr (y := (.agg (c_api_Value (api_Value.mk v_.Kind v_.Flag v_.Number v_.Words v_.List l18)))) rfl rfl (cs := (c_api_Value (api_Value.mk v_.Kind v_.Flag v_.Number v_.Words v_.List l18))) rfl (by simp only [e_api_Value]; rfl)) (res_nil)) (retV_pl _ _ (.agg (c_api_Value (api_Value.mk v_.Kind v_.Flag v_.Number v_.Words v_.List l18)))) hk79 hs79
          · rcases bool_cases ((l18.list.length : Int) == 0) with hc78 | hc78
            · replace hF1 := ite_t hF1 (beq_t hc78)
              exact L (.bool true) rfl rfl (congrArg (fun b => some (AV.bool b, _)) hc78) <| WO_no _ rfl rfl <| WO_no _ rfl rfl <| WO_no _ rfl rfl <| WO_no _ rfl rfl <| WO_no _ rfl rfl <| WO_no _ rfl rfl <| WO_no _ rfl rfl <| WO_no _ rfl rfl <| WO_no _ rfl rfl <| WO_no _ rfl rfl <| WO_no _ rfl rfl <| WO_no _ rfl rfl <| L (bA true) rfl rfl rfl <| nl ((hJ78 _).2 ⟨s_27, true, _, _, _, _, rfl, (And.intro rfl (And.intro rfl (And.intro rfl (And.intro rfl (And.intro rfl True.intro))))), (And.intro rfl (And.intro rfl (And.intro rfl True.intro))), hz65_0, hk65, hs65, Option.some.inj hF1⟩)
            · replace hF1 := ite_f hF1 (beq_f hc78)
              refine L (.bool false) rfl rfl (congrArg (fun b => some (AV.bool b, _)) hc78) <| L (Sl.lav (.fr 0 5007) o50079.ver l18) rfl rfl rfl <| L (Sl.lav (.fr 0 5007) o50079.ver l18) rfl rfl rfl <| L (iA (l18.list.length : Int)) rfl rfl (op_len rfl rfl rfl rfl rfl (lz_len _ _ _)) <| L (iA (w64 ((l18.list.length : Int) - 1))) rfl rfl rfl ?_
              obtain ⟨x11, h_x11, hF1⟩ := bind_some hF1
              refine L (.eptr (.fr 0 5007) o50079.ver (w64 ((l18.list.length : Int) - 1) : Int).toNat 0) rfl rfl (op_ix rfl (ix_lz (x := l18) (o := o50079) (n := 7) (c := c_api_Member) rfl rfl rfl hz65_0 h_x11)) <| L (.eptr (.fr 0 5007) o50079.ver (w64 ((l18.list.length : Int) - 1) : Int).toNat 0) rfl rfl rfl <| L (sA x11.Name) rfl rfl (op_load rfl (ld_lz (x := l18) (o := o50079) (n := 7) (c := c_api_Member) (sA x11.Name) rfl rfl rfl hz65_0 h_x11 (by simp only [e_api_Member, e_api_Value]; rfl))) <| L (bA (slt x11.Name [122])) rfl rfl (op_bin rfl bin_slt) ?_
              obtain ⟨y86, hF2, hF1⟩ := bind_some hF1
              obtain ⟨J86, hJ86⟩ : ∃ J : St → Prop, ∀ st, J st ↔ (∃ (s_37 : gatemake_Stream) (t1021 : Bool) (tm87 : Nat → AV) (cb87 : AE.Frame) (out87 : List AE.Frame) (glob87 : List AObj), st = ⟨tm87, ⟨cb87, out87, glob87⟩⟩ ∧ AllEq tm87 [(0, (.ptr d0 w0 0)), (3, (.ptr (.fr 0 3) 1 0)), (4, (.ptr (.fr 0 4) 1 0)), (7, (Sl.lav (.fr 0 5007) o50079.ver l18)), (90, (bA false)), (102, (bA t1021))] ∧ AllEq cb87 [(3, ⟨1, .cells (c_api_Value v_)⟩), (4, ⟨1, .cells (c_api_Value (api_Value.mk 0 false 0 [] Sl.nil Sl.nil))⟩), (5007, o50079)] ∧ LzF 7 c_api_Member o50079 l18 ∧ con2 out87 glob87 d0 w0 = .cells (c_gatemake_Stream s_37) ∧ Same d0 out glob out87 glob87 ∧ (s_37, t1021) = y86) := ⟨_, fun _ => Iff.rfl⟩
              refine WO_cut 4 J86 (fun st hst => ?_) ?_
              · obtain ⟨s_37, t1021, tm87, cb87, out87, glob87, rfl, hT87, hC87, hz87_0, hk87, hs87, rfl⟩ := (hJ86 st).1 hst
                obtain ⟨tm87, rfl⟩ := allEq hT87
                obtain ⟨cb87, rfl⟩ := allEq hC87
                exact L (bA t1021) rfl rfl rfl <| nl ((hJ78 _).2 ⟨s_37, t1021, _, _, _, _, rfl, (And.intro rfl (And.intro rfl (And.intro rfl (And.intro rfl (And.intro rfl True.intro))))), (And.intro rfl (And.intro rfl (And.intro rfl True.intro))), hz87_0, hk87, hs87, Option.some.inj hF1⟩)
              · rcases bool_cases (slt x11.Name [122]) with hc86 | hc86
                · replace hF2 := ite_t hF2 (hc86)
                  refine L (.bool true) rfl rfl (congrArg (fun b => some (AV.bool b, _)) hc86) <| L (.ptr d0 w0 0) rfl rfl rfl ?_
                  obtain ⟨⟨r1013, s_38⟩, h88, hF2⟩ := bind_some hF2
                  refine WO_mutP (g := 5) (args := fun p => [p, (iA 3)]) (d := d0) (v := w0) (r := (bA r1013)) _ _ rfl rfl rfl rfl rfl rfl rfl (fun _ _ => inferInstance) hh0 hk65 (ok_gatemake_Stream_Flip _ _ h88) (fun out88 glob88 hk88 hs88 => ?_)
                  replace hs88 := hs65.trans hs88
                  exact L (bA r1013) rfl rfl rfl <| nl ((hJ86 _).2 ⟨s_38, r1013, _, _, _, _, rfl, (And.intro rfl (And.intro rfl (And.intro rfl (And.intro rfl (And.intro rfl (And.intro rfl True.intro)))))), (And.intro rfl (And.intro rfl (And.intro rfl True.intro))), hz65_0, hk88, hs88, Option.some.inj hF2⟩)
                · replace hF2 := ite_f hF2 (not_t hc86)
                  exact L (.bool false) rfl rfl (congrArg (fun b => some (AV.bool b, _)) hc86) <| WO_no _ rfl rfl <| WO_no _ rfl rfl <| L (bA false) rfl rfl rfl <| nl ((hJ86 _).2 ⟨s_27, false, _, _, _, _, rfl, (And.intro rfl (And.intro rfl (And.intro rfl (And.intro rfl (And.intro rfl (And.intro rfl True.intro)))))), (And.intro rfl (And.intro rfl (And.intro rfl True.intro))), hz65_0, hk65, hs65, Option.some.inj hF2⟩)
        · refine W_rangeL hb63 R63 ((hR63 _ _ _).2 ⟨(⟨0, .gone⟩ : AObj), _, _, _, _, rfl, (And.intro rfl (And.intro rfl (And.intro rfl (And.intro rfl (And.intro rfl (And.intro rfl (And.intro rfl True.intro))))))), (And.intro rfl (And.intro rfl (And.intro rfl True.intro))), True.intro, hk1, hs1⟩) ?_ ?_
          · intro i1 hi63 v st s hr hF1 hD1
            obtain ⟨s_26, l17⟩ := v
            obtain ⟨o50078, tm64, cb64, out64, glob64, rfl, hT64, hC64, hz64_0, hk64, hs64⟩ := (hR63 _ _ _).1 hr
            obtain ⟨tm64, rfl⟩ := allEq hT64
            obtain ⟨cb64, rfl⟩ := allEq hC64
            obtain ⟨x9, hx63⟩ : ∃ x, x = v_.Members.list[i1] := ⟨_, rfl⟩
            rw [← hx63] at hF1
            dsimp only [gatemake_Stream_Near_l1] at hF1
            refine sq (rg ?_)
            refine WO_do (y := (bA (decide (((i1 : Nat) : Int) < (v_.Members.list.length : Int))))) _ rfl rfl rfl (nl ?_)
            refine sq <| cd true (congrArg some (range_lt hi63)) (fun _ => ?_) (fun h => absurd h (by decide))
            refine sk <| sq <| bk <| sq <| rg <| L (.cptr (c_api_Member x9)) rfl rfl (op_ix rfl ((ix_at (c := c_api_Member) rfl rfl hi63).trans (congrArg (fun x => some (AV.cptr (c_api_Member x))) hx63.symm))) <| L (.agg (c_api_Member x9)) rfl rfl (op_load rfl (ld_cel rfl rfl (by simp only [e_api_Member, e_api_Value]; rfl))) <| L (.ptr (.fr 0 9) ((cb64 9).ver + 1) 0) (h' := ⟨upd _ 9 ⟨(cb64 9).ver + 1, .cells (c_api_Member (api_Member.mk [] (api_Value.mk 0 false 0 [] Sl.nil Sl.nil)))⟩, _, _⟩) rfl rfl (op_alloc (c_api_Member (api_Member.mk [] (api_Value.mk 0 false 0 [] Sl.nil Sl.nil))) rfl rfl rfl (by simp only [e_api_Member, e_api_Value]; rfl)) <| L (.tup []) (h' := ⟨upd _ 9 ⟨(cb64 9).ver + 1, .cells (c_api_Member x9)⟩, _, _⟩) rfl rfl (op_store rfl rfl (st_fr (x := (.agg (c_api_Member x9))) (cs := (c_api_Member (api_Member.mk [] (api_Value.mk 0 false 0 [] Sl.nil Sl.nil)))) (c_api_Member x9) (by simp only [e_api_Member, e_api_Value]; rfl) rfl (by simp only [e_api_Member, e_api_Value]; exact Nat.le_of_ble_eq_true rfl) (by simp only [e_api_Member, e_api_Value]; rfl))) <| nl <| sq <| sq <| rg <| L (.ptr d0 w0 0) rfl rfl rfl ?_
            obtain ⟨⟨r743, s_28⟩, h67, hF1⟩ := bind_some hF1
            refine WO_mutP (g := 5) (args := fun p => [p, (iA 4)]) (d := d0) (v := w0) (r := (bA r743)) _ _ rfl rfl rfl rfl rfl rfl rfl (fun _ _ => inferInstance) hh0 hk64 (ok_gatemake_Stream_Flip _ _ h67) (fun out67 glob67 hk67 hs67 => ?_)
            replace hs67 := hs64.trans hs67
            refine nl <| cd r743 rfl (fun hc73 => ?_) (fun hc73 => ?_)
            · replace hF1 := ite_t hF1 (hc73)
              exact xt <| rg <| WO_do (y := (iA ((i1 + 1 : Nat) : Int))) _ rfl rfl (congrArg (fun n => some (AV.int .i64 n, _)) (range_len hi63 hn63)) <| WO_do (y := (iA ((i1 + 1 : Nat) : Int))) _ rfl rfl rfl <| nl <| Exists.intro _ (And.intro (Option.some.inj hF1).symm ((hR63 _ _ _).2 ⟨o50078, _, _, _, _, rfl, (And.intro rfl (And.intro rfl (And.intro rfl (And.intro rfl (And.intro rfl (And.intro rfl (And.intro rfl True.intro))))))), (And.intro rfl (And.intro rfl (And.intro rfl True.intro))), hz64_0, hk67, hs67⟩))
            · replace hF1 := ite_f hF1 (not_t hc73)
              refine sk <| sq <| sq <| rg <| L (.ptr d0 w0 0) rfl rfl rfl ?_
              obtain ⟨⟨r763, s_29⟩, h68, hF1⟩ := bind_some hF1
              refine WO_mutP (g := 5) (args := fun p => [p, (iA 2)]) (d := d0) (v := w0) (r := (bA r763)) _ _ rfl rfl rfl rfl rfl rfl rfl (fun _ _ => inferInstance) hh0 hk67 (ok_gatemake_Stream_Flip _ _ h68) (fun out68 glob68 hk68 hs68 => ?_)
              replace hs68 := hs67.trans hs68
              refine nl <| cd r763 rfl (fun hc72 => ?_) (fun hc72 => ?_)
              · replace hF1 := ite_t hF1 (hc72)
                refine rg <| L (.ptr d0 w0 0) rfl rfl rfl <| L (.ptr (.fr 0 9) ((cb64 9).ver + 1) 1) rfl rfl rfl <| L (.agg (c_api_Value x9.Value)) rfl rfl (op_load rfl (ld_con (.agg (c_api_Value x9.Value)) rfl rfl (cs := (c_api_Member x9)) (con_fr rfl) (by simp only [e_api_Member, e_api_Value]; rfl))) ?_
                obtain ⟨⟨r803, s_30⟩, h69, hF1⟩ := bind_some hF1
                refine WO_mutP (g := 6) (args := fun p => [p, (.agg (c_api_Value x9.Value))]) (d := d0) (v := w0) (r := (.agg (c_api_Value r803))) _ _ rfl rfl rfl rfl rfl rfl rfl (fun _ _ => inferInstance) hh0 hk68 (ih_gatemake_Stream_Near _ _ h69) (fun out69 glob69 hk69 hs69 => ?_)
                replace hs69 := hs68.trans hs69
                refine L (.ptr (.fr 0 9) ((cb64 9).ver + 1) 1) rfl rfl rfl <| L (.tup []) (h' := ⟨upd _ 9 ⟨(cb64 9).ver + 1, .cells (c_api_Member (api_Member.mk x9.Name r803))⟩, _, _⟩) rfl rfl (op_store rfl rfl (st_fr (x := (.agg (c_api_Value r803))) (cs := (c_api_Member x9)) (c_api_Member (api_Member.mk x9.Name r803)) (by simp only [e_api_Value]; rfl) rfl (by simp only [e_api_Member, e_api_Value]; exact Nat.le_of_ble_eq_true rfl) (by simp only [e_api_Member, e_api_Value]; rfl))) <| nl <| rg <| L (Sl.lav (.fr 0 5007) o50078.ver l17) rfl rfl rfl <| L (.agg (c_api_Member (api_Member.mk x9.Name r803))) rfl rfl (op_load rfl (ld_con (.agg (c_api_Member (api_Member.mk x9.Name r803))) rfl rfl (cs := (c_api_Member (api_Member.mk x9.Name r803))) (con_fr rfl) (by simp only [e_api_Member, e_api_Value]; rfl))) <| L (Sl.av 7 c_api_Member (Sl.full [(api_Member.mk x9.Name r803)] : Sl api_Member)) rfl rfl (op_sliceN rfl rfl (slice_of rfl rfl rfl (by decide) (fillS_cons (x := (.agg (c_api_Member (api_Member.mk x9.Name r803)))) (by simp only [e_api_Member, e_api_Value]; rfl) (Nat.le_of_ble_eq_true rfl) (fillS_nil)))) ?_
                obtain ⟨l19, h_l19, hF1⟩ := bind_some hF1
                refine WO_lzapp (s := 5007) (x := l17) (x' := l19) (o := o50078) (n := 7) (c := c_api_Member) (xs := [(api_Member.mk x9.Name r803)]) (y := (Sl.av 7 c_api_Member (Sl.full [(api_Member.mk x9.Name r803)] : Sl api_Member))) _ rfl rfl rfl rfl rfl rfl rfl rfl rfl rfl rfl rfl (z := (c_api_Member (api_Member.mk [] (api_Value.mk 0 false 0 [] Sl.nil Sl.nil)))) rfl rfl (by simp only [e_api_Member, e_api_Value]; rfl) rfl (by simp only [e_api_Member, e_api_Value]; rfl) (by decide) (fun _ => (by simp only [e_api_Member, e_api_Value]; rfl)) rfl rfl rfl hz64_0 h_l19 (fun o500710 hz_70 => ?_)
                exact L (Sl.lav (.fr 0 5007) o500710.ver l19) rfl rfl rfl <| nl <| rg <| WO_do (y := (iA ((i1 + 1 : Nat) : Int))) _ rfl rfl (congrArg (fun n => some (AV.int .i64 n, _)) (range_len hi63 hn63)) <| WO_do (y := (iA ((i1 + 1 : Nat) : Int))) _ rfl rfl rfl <| nl <| Exists.intro _ (And.intro (Option.some.inj hF1).symm ((hR63 _ _ _).2 ⟨o500710, _, _, _, _, rfl, (And.intro rfl (And.intro rfl (And.intro rfl (And.intro rfl (And.intro rfl (And.intro rfl (And.intro rfl True.intro))))))), (And.intro rfl (And.intro rfl (And.intro rfl True.intro))), hz_70, hk69, hs69⟩))
              · replace hF1 := ite_f hF1 (not_t hc72)
                refine sk <| rg <| L (Sl.lav (.fr 0 5007) o50078.ver l17) rfl rfl rfl <| L (.agg (c_api_Member x9)) rfl rfl (op_load rfl (ld_con (.agg (c_api_Member x9)) rfl rfl (cs := (c_api_Member x9)) (con_fr rfl) (by simp only [e_api_Member, e_api_Value]; rfl))) <| L (Sl.av 7 c_api_Member (Sl.full [x9] : Sl api_Member)) rfl rfl (op_sliceN rfl rfl (slice_of rfl rfl rfl (by decide) (fillS_cons (x := (.agg (c_api_Member x9))) (by simp only [e_api_Member, e_api_Value]; rfl) (Nat.le_of_ble_eq_true rfl) (fillS_nil)))) ?_
                obtain ⟨l20, h_l20, hF1⟩ := bind_some hF1
                refine WO_lzapp (s := 5007) (x := l17) (x' := l20) (o := o50078) (n := 7) (c := c_api_Member) (xs := [x9]) (y := (Sl.av 7 c_api_Member (Sl.full [x9] : Sl api_Member))) _ rfl rfl rfl rfl rfl rfl rfl rfl rfl rfl rfl rfl (z := (c_api_Member (api_Member.mk [] (api_Value.mk 0 false 0 [] Sl.nil Sl.nil)))) rfl rfl (by simp only [e_api_Member, e_api_Value]; rfl) rfl (by simp only [e_api_Member, e_api_Value]; rfl) (by decide) (fun _ => (by simp only [e_api_Member, e_api_Value]; rfl)) rfl rfl rfl hz64_0 h_l20 (fun o500711 hz_71 => ?_)
                exact L (Sl.lav (.fr 0 5007) o500711.ver l20) rfl rfl rfl <| nl <| rg <| WO_do (y := (iA ((i1 + 1 : Nat) : Int))) _ rfl rfl (congrArg (fun n => some (AV.int .i64 n, _)) (range_len hi63 hn63)) <| WO_do (y := (iA ((i1 + 1 : Nat) : Int))) _ rfl rfl rfl <| nl <| Exists.intro _ (And.intro (Option.some.inj hF1).symm ((hR63 _ _ _).2 ⟨o500711, _, _, _, _, rfl, (And.intro rfl (And.intro rfl (And.intro rfl (And.intro rfl (And.intro rfl (And.intro rfl (And.intro rfl True.intro))))))), (And.intro rfl (And.intro rfl (And.intro rfl True.intro))), hz_71, hk68, hs68⟩))
          · intro v st hr hD1
            obtain ⟨s_26, l17⟩ := v
            obtain ⟨o50078, tm64, cb64, out64, glob64, rfl, hT64, hC64, hz64_0, hk64, hs64⟩ := (hR63 _ _ _).1 hr
            obtain ⟨tm64, rfl⟩ := allEq hT64
            obtain ⟨cb64, rfl⟩ := allEq hC64
            refine sq (rg ?_)
            refine WO_do (y := .bool false) _ rfl rfl (congrArg (fun b => some (AV.bool b, _)) (range_ge _)) (nl ?_)
            refine sq <| cd false rfl (fun h => absurd h (by decide)) (fun _ => ?_)
            exact xt <| (hJ63 _).2 ⟨s_26, l17, o50078, _, _, _, _, rfl, (And.intro rfl (And.intro rfl (And.intro rfl (And.intro rfl True.intro)))), (And.intro rfl (And.intro rfl (And.intro rfl True.intro))), hz64_0, hk64, hs64, hD1⟩
      · replace hF0 := ite_f hF0 (beq_f hc89)
        refine sk <| sq <| rg <| L (.agg (c_api_Value v_)) rfl rfl (op_load rfl (ld_con (.agg (c_api_Value v_)) rfl rfl (cs := (c_api_Value v_)) (con_fr rfl) (by simp only [e_api_Value]; rfl))) <| L (.tup []) (h' := ⟨upd _ 4 ⟨1, .cells (c_api_Value v_)⟩, _, _⟩) rfl rfl (op_store rfl rfl (st_fr (x := (.agg (c_api_Value v_))) (cs := (c_api_Value (api_Value.mk 0 false 0 [] Sl.nil Sl.nil))) (c_api_Value v_) (by simp only [e_api_Value]; rfl) rfl (by simp only [e_api_Value]; exact Nat.le_of_ble_eq_true rfl) (by simp only [e_api_Value]; rfl))) <| nl <| rt ?_
        obtain rfl := Option.some.inj hF0
        exact mut_leaf (.inr rfl) (res_cell (ld_fr (y := (.agg (c_api_Value v_))) rfl rfl (cs := (c_api_Value v_)) rfl (by simp only [e_api_Value]; rfl)) (res_nil)) (retV_pl _ _ (.agg (c_api_Value v_))) hk1 hs1
theorem ok_gatemake_Stream_Near (k : Nat) : (∀ (s_ : gatemake_Stream) (v_ : api_Value) {r : (api_Value × gatemake_Stream)} (hF0 : gatemake_Stream_Near k s_ v_ = some r), MutOk Tryd.prog pol 6 (fun p => [p, (.agg (c_api_Value v_))]) (c_gatemake_Stream s_) (.agg (c_api_Value r.1)) (c_gatemake_Stream r.2)) := (okg_gatemake_Stream_Near k)

theorem okg_value_counter_large (k : Nat) : (∀ (c : value_counter) (v_ : api_Value) (deep : Int) {r : (Bool × value_counter)} (hF0 : value_counter_large k c v_ deep = some r), MutOk Tryd.prog pol 28 (fun p => [p, (.agg (c_api_Value v_)), (iA deep)]) (c_value_counter c) (bA r.1) (c_value_counter r.2)) := by
 induction k with
 | zero => exact (by intro c v_ deep r hF0; rw [value_counter_large] at hF0; cases hF0)
 | succ k ih =>
  have ih_value_counter_large := ih
  intro c v_ deep r hF0
  rw [value_counter_large] at hF0
  refine mut_walk Tryd.func28 rfl (fun _ => Nat.not_lt.2 (Nat.le_of_ble_eq_true rfl)) ?_
  intro out glob d0 w0 hh0 hk_0
  refine sq <| rg <| L (.ptr (.fr 0 4) 1 0) (h' := ⟨upd _ 4 ⟨1, .cells (c_api_Value v_)⟩, _, _⟩) rfl rfl (op_box (x' := (.agg (c_api_Value v_))) rfl rfl rfl rfl) <| L (bA false) rfl rfl rfl <| nl <| sq <| rg <| L (.ptr d0 w0 0) rfl rfl rfl <| L (.ptr d0 w0 0) rfl rfl rfl <| L (.ptr d0 w0 0) rfl rfl rfl <| L (iA c.many) rfl rfl (op_load rfl (ld_con (iA c.many) rfl rfl (cs := (c_value_counter c)) ((con_con2 _ _ _ _ _ hh0).trans hk_0) rfl)) <| L (iA (w64 (c.many + 1))) rfl rfl rfl <| L (.ptr d0 w0 0) rfl rfl rfl <| L (.ptr d0 w0 0) rfl rfl rfl <| WO_stP (X := (iA (w64 (c.many + 1)))) (cs := (c_value_counter c)) (cs' := (c_value_counter (value_counter.mk (w64 (c.many + 1))))) (off := 0) _ rfl rfl rfl rfl rfl rfl rfl rfl hh0 hk_0 (Nat.le_of_ble_eq_true rfl) rfl (fun out1 glob1 hk1 hs1 => ?_)
  replace hs1 := (Same.refl _ _ _).trans hs1
  refine nl <| sq <| sq <| rg <| L (.ptr d0 w0 0) rfl rfl rfl <| L (.ptr d0 w0 0) rfl rfl rfl <| L (.ptr d0 w0 0) rfl rfl rfl <| L (iA (w64 (c.many + 1))) rfl rfl (op_load rfl (ld_con (iA (w64 (c.many + 1))) rfl rfl (cs := (c_value_counter (value_counter.mk (w64 (c.many + 1))))) ((con_con2 _ _ _ _ _ hh0).trans hk1) rfl)) <| L (bA (decide ((w64 (c.many + 1)) > 5000))) rfl rfl rfl ?_
  obtain ⟨J2, hJ2⟩ : ∃ J : St → Prop, ∀ st, J st ↔ (∃ (tm3 : Nat → AV) (cb3 : AE.Frame) (out3 : List AE.Frame) (glob3 : List AObj), st = ⟨tm3, ⟨cb3, out3, glob3⟩⟩ ∧ AllEq tm3 [(0, (.ptr d0 w0 0)), (2, (iA deep)), (4, (.ptr (.fr 0 4) 1 0)), (26, (bA ((decide ((w64 (c.many + 1)) > 5000)) || (decide (deep > 50)))))] ∧ AllEq cb3 [(4, ⟨1, .cells (c_api_Value v_)⟩)] ∧ con2 out3 glob3 d0 w0 = .cells (c_value_counter (value_counter.mk (w64 (c.many + 1)))) ∧ Same d0 out glob out3 glob3) := ⟨_, fun _ => Iff.rfl⟩
  refine WO_cut 4 J2 (fun st hst => ?_) ?_
  · obtain ⟨tm3, cb3, out3, glob3, rfl, hT3, hC3, hk3, hs3⟩ := (hJ2 st).1 hst
    obtain ⟨tm3, rfl⟩ := allEq hT3
    obtain ⟨cb3, rfl⟩ := allEq hC3
    refine nl <| cd ((decide ((w64 (c.many + 1)) > 5000)) || (decide (deep > 50))) rfl (fun hc32 => ?_) (fun hc32 => ?_)
    · replace hF0 := ite_t hF0 (hc32)
      refine sq <| rg <| L (bA true) rfl rfl rfl <| nl <| rt ?_
      obtain rfl := Option.some.inj hF0
      exact mut_leaf (.inr rfl) rfl (retV_pl _ _ (bA true)) hk3 hs3
    · replace hF0 := ite_f hF0 (not_t hc32)
      refine sk <| sq <| sq <| rg <| L (.ptr (.fr 0 4) 1 4) rfl rfl rfl <| L (Sl.av 6 c_api_Value v_.List) rfl rfl (op_load rfl (ld_con (Sl.av 6 c_api_Value v_.List) rfl rfl (cs := (c_api_Value v_)) (con_fr rfl) (by simp only [e_api_Value]; rfl))) <| L (iA (v_.List.list.length : Int)) rfl rfl (op_len rfl rfl rfl rfl rfl (len_sl _)) <| L (iA 0) rfl rfl rfl <| nl <| bk ?_
      obtain ⟨b1, hb12, hF0⟩ := bind_some hF0
      obtain ⟨hn12, hb12⟩ := ite_none hb12
      obtain ⟨J12, hJ12⟩ : ∃ J : St → Prop, ∀ st, J st ↔ (∃ (c5 : value_counter) (tm14 : Nat → AV) (cb14 : AE.Frame) (out14 : List AE.Frame) (glob14 : List AObj), st = ⟨tm14, ⟨cb14, out14, glob14⟩⟩ ∧ AllEq tm14 [(0, (.ptr d0 w0 0)), (2, (iA deep)), (4, (.ptr (.fr 0 4) 1 0))] ∧ AllEq cb14 [(4, ⟨1, .cells (c_api_Value v_)⟩)] ∧ con2 out14 glob14 d0 w0 = .cells (c_value_counter c5) ∧ Same d0 out glob out14 glob14 ∧ Res.out c5 = b1) := ⟨_, fun _ => Iff.rfl⟩
      obtain ⟨R12, hR12⟩ : ∃ R : Nat → (value_counter) → St → Prop, ∀ i v st, R i v st ↔ (match v with | c4 => ∃ (tm13 : Nat → AV) (cb13 : AE.Frame) (out13 : List AE.Frame) (glob13 : List AObj), st = ⟨tm13, ⟨cb13, out13, glob13⟩⟩ ∧ AllEq tm13 [(0, (.ptr d0 w0 0)), (2, (iA deep)), (4, (.ptr (.fr 0 4) 1 0)), (28, (Sl.av 6 c_api_Value v_.List)), (29, (iA (v_.List.list.length : Int))), (30, (iA ((i : Nat) : Int)))] ∧ AllEq cb13 [(4, ⟨1, .cells (c_api_Value v_)⟩)] ∧ con2 out13 glob13 d0 w0 = .cells (c_value_counter c4) ∧ Same d0 out glob out13 glob13) := ⟨_, fun _ _ _ => Iff.rfl⟩
      refine W_loopcut J12 (fun st hst => ?_) ?_
      · obtain ⟨c5, tm14, cb14, out14, glob14, rfl, hT14, hC14, hk14, hs14, rfl⟩ := (hJ12 st).1 hst
        obtain ⟨tm14, rfl⟩ := allEq hT14
        obtain ⟨cb14, rfl⟩ := allEq hC14
        replace hF0 := res_out hF0
        refine sq <| sq <| rg <| L (.ptr (.fr 0 4) 1 5) rfl rfl rfl <| L (Sl.av 7 c_api_Member v_.Members) rfl rfl (op_load rfl (ld_con (Sl.av 7 c_api_Member v_.Members) rfl rfl (cs := (c_api_Value v_)) (con_fr rfl) (by simp only [e_api_Value]; rfl))) <| L (iA (v_.Members.list.length : Int)) rfl rfl (op_len rfl rfl rfl rfl rfl (len_sl _)) <| L (iA 0) rfl rfl rfl <| nl <| bk ?_
        obtain ⟨b1, hb26, hF0⟩ := bind_some hF0
        obtain ⟨hn26, hb26⟩ := ite_none hb26
        obtain ⟨J26, hJ26⟩ : ∃ J : St → Prop, ∀ st, J st ↔ (∃ (c11 : value_counter) (tm28 : Nat → AV) (cb28 : AE.Frame) (out28 : List AE.Frame) (glob28 : List AObj), st = ⟨tm28, ⟨cb28, out28, glob28⟩⟩ ∧ AllEq tm28 [] ∧ AllEq cb28 [] ∧ con2 out28 glob28 d0 w0 = .cells (c_value_counter c11) ∧ Same d0 out glob out28 glob28 ∧ Res.out c11 = b1) := ⟨_, fun _ => Iff.rfl⟩
        obtain ⟨R26, hR26⟩ : ∃ R : Nat → (value_counter) → St → Prop, ∀ i1 v st, R i1 v st ↔ (match v with | c10 => ∃ (tm27 : Nat → AV) (cb27 : AE.Frame) (out27 : List AE.Frame) (glob27 : List AObj), st = ⟨tm27, ⟨cb27, out27, glob27⟩⟩ ∧ AllEq tm27 [(0, (.ptr d0 w0 0)), (2, (iA deep)), (41, (Sl.av 7 c_api_Member v_.Members)), (42, (iA (v_.Members.list.length : Int))), (43, (iA ((i1 : Nat) : Int)))] ∧ AllEq cb27 [] ∧ con2 out27 glob27 d0 w0 = .cells (c_value_counter c10) ∧ Same d0 out glob out27 glob27) := ⟨_, fun _ _ _ => Iff.rfl⟩
        refine W_loopcut J26 (fun st hst => ?_) ?_
        · obtain ⟨c11, tm28, cb28, out28, glob28, rfl, hT28, hC28, hk28, hs28, rfl⟩ := (hJ26 st).1 hst
          obtain ⟨tm28, rfl⟩ := allEq hT28
          obtain ⟨cb28, rfl⟩ := allEq hC28
          replace hF0 := res_out hF0
          refine sq <| rg <| L (bA false) rfl rfl rfl <| nl <| rt ?_
          obtain rfl := Option.some.inj hF0
          exact mut_leaf (.inr rfl) rfl (retV_pl _ _ (bA false)) hk28 hs28
        · refine W_rangeL hb26 R26 ((hR26 _ _ _).2 ⟨_, _, _, _, rfl, (And.intro rfl (And.intro rfl (And.intro rfl (And.intro rfl (And.intro rfl True.intro))))), True.intro, hk14, hs14⟩) ?_ ?_
          · intro i1 hi26 v st s hr hF1 hD1
            obtain ⟨c10, hv_⟩ : ∃ z, z = v := ⟨_, rfl⟩; subst hv_
            obtain ⟨tm27, cb27, out27, glob27, rfl, hT27, hC27, hk27, hs27⟩ := (hR26 _ _ _).1 hr
            obtain ⟨tm27, rfl⟩ := allEq hT27
            obtain ⟨cb27, rfl⟩ := allEq hC27
            obtain ⟨x5, hx26⟩ : ∃ x, x = v_.Members.list[i1] := ⟨_, rfl⟩
            rw [← hx26] at hF1
            dsimp only [value_counter_large_l1] at hF1
            refine sq (rg ?_)
            refine WO_do (y := (bA (decide (((i1 : Nat) : Int) < (v_.Members.list.length : Int))))) _ rfl rfl rfl (nl ?_)
            refine sq <| cd true (congrArg some (range_lt hi26)) (fun _ => ?_) (fun h => absurd h (by decide))
            refine sk <| sq <| bk <| sq <| rg <| L (.cptr (c_api_Member x5)) rfl rfl (op_ix rfl ((ix_at (c := c_api_Member) rfl rfl hi26).trans (congrArg (fun x => some (AV.cptr (c_api_Member x))) hx26.symm))) <| L (.agg (c_api_Member x5)) rfl rfl (op_load rfl (ld_cel rfl rfl (by simp only [e_api_Member, e_api_Value]; rfl))) <| L (.ptr (.fr 0 10) ((cb27 10).ver + 1) 0) (h' := ⟨upd _ 10 ⟨(cb27 10).ver + 1, .cells (c_api_Member (api_Member.mk [] (api_Value.mk 0 false 0 [] Sl.nil Sl.nil)))⟩, _, _⟩) rfl rfl (op_alloc (c_api_Member (api_Member.mk [] (api_Value.mk 0 false 0 [] Sl.nil Sl.nil))) rfl rfl rfl (by simp only [e_api_Member, e_api_Value]; rfl)) <| L (.tup []) (h' := ⟨upd _ 10 ⟨(cb27 10).ver + 1, .cells (c_api_Member x5)⟩, _, _⟩) rfl rfl (op_store rfl rfl (st_fr (x := (.agg (c_api_Member x5))) (cs := (c_api_Member (api_Member.mk [] (api_Value.mk 0 false 0 [] Sl.nil Sl.nil)))) (c_api_Member x5) (by simp only [e_api_Member, e_api_Value]; rfl) rfl (by simp only [e_api_Member, e_api_Value]; exact Nat.le_of_ble_eq_true rfl) (by simp only [e_api_Member, e_api_Value]; rfl))) <| nl <| sq <| rg <| L (.ptr d0 w0 0) rfl rfl rfl <| L (.ptr (.fr 0 10) ((cb27 10).ver + 1) 1) rfl rfl rfl <| L (.agg (c_api_Value x5.Value)) rfl rfl (op_load rfl (ld_con (.agg (c_api_Value x5.Value)) rfl rfl (cs := (c_api_Member x5)) (con_fr rfl) (by simp only [e_api_Member, e_api_Value]; rfl))) <| L (iA deep) rfl rfl rfl <| L (iA (w64 (deep + 1))) rfl rfl rfl ?_
            obtain ⟨⟨r522, c12⟩, h30, hF1⟩ := bind_some hF1
            refine WO_mutP (g := 28) (args := fun p => [p, (.agg (c_api_Value x5.Value)), (iA (w64 (deep + 1)))]) (d := d0) (v := w0) (r := (bA r522)) _ _ rfl rfl rfl rfl rfl rfl rfl (fun _ _ => inferInstance) hh0 hk27 (ih_value_counter_large _ _ _ h30) (fun out30 glob30 hk30 hs30 => ?_)
            replace hs30 := hs27.trans hs30
            refine nl <| cd r522 rfl (fun hc31 => ?_) (fun hc31 => ?_)
            · replace hF1 := ite_t hF1 (hc31)
              refine sq <| rg <| L (bA true) rfl rfl rfl <| nl <| rt ?_
              obtain rfl := hD1 _ (Option.some.inj hF1).symm
              replace hF0 := res_ret hF0
              obtain rfl := Option.some.inj hF0
              exact mut_leaf (.inr rfl) rfl (retV_pl _ _ (bA true)) hk30 hs30
            · replace hF1 := ite_f hF1 (not_t hc31)
              exact sk <| rg <| WO_do (y := (iA ((i1 + 1 : Nat) : Int))) _ rfl rfl (congrArg (fun n => some (AV.int .i64 n, _)) (range_len hi26 hn26)) <| WO_do (y := (iA ((i1 + 1 : Nat) : Int))) _ rfl rfl rfl <| nl <| Exists.intro _ (And.intro (Option.some.inj hF1).symm ((hR26 _ _ _).2 ⟨_, _, _, _, rfl, (And.intro rfl (And.intro rfl (And.intro rfl (And.intro rfl (And.intro rfl True.intro))))), True.intro, hk30, hs30⟩))
          · intro v st hr hD1
            obtain ⟨c10, hv_⟩ : ∃ z, z = v := ⟨_, rfl⟩; subst hv_
            obtain ⟨tm27, cb27, out27, glob27, rfl, hT27, hC27, hk27, hs27⟩ := (hR26 _ _ _).1 hr
            obtain ⟨tm27, rfl⟩ := allEq hT27
            obtain ⟨cb27, rfl⟩ := allEq hC27
            refine sq (rg ?_)
            refine WO_do (y := .bool false) _ rfl rfl (congrArg (fun b => some (AV.bool b, _)) (range_ge _)) (nl ?_)
            refine sq <| cd false rfl (fun h => absurd h (by decide)) (fun _ => ?_)
            exact xt <| (hJ26 _).2 ⟨c10, _, _, _, _, rfl, True.intro, True.intro, hk27, hs27, hD1⟩
      · refine W_rangeL hb12 R12 ((hR12 _ _ _).2 ⟨_, _, _, _, rfl, (And.intro rfl (And.intro rfl (And.intro rfl (And.intro rfl (And.intro rfl (And.intro rfl True.intro)))))), (And.intro rfl True.intro), hk3, hs3⟩) ?_ ?_
        · intro i hi12 v st s hr hF1 hD1
          obtain ⟨c4, hv_⟩ : ∃ z, z = v := ⟨_, rfl⟩; subst hv_
          obtain ⟨tm13, cb13, out13, glob13, rfl, hT13, hC13, hk13, hs13⟩ := (hR12 _ _ _).1 hr
          obtain ⟨tm13, rfl⟩ := allEq hT13
          obtain ⟨cb13, rfl⟩ := allEq hC13
          obtain ⟨x2, hx12⟩ : ∃ x, x = v_.List.list[i] := ⟨_, rfl⟩
          rw [← hx12] at hF1
          dsimp only [value_counter_large_l0] at hF1
          refine sq (rg ?_)
          refine WO_do (y := (bA (decide (((i : Nat) : Int) < (v_.List.list.length : Int))))) _ rfl rfl rfl (nl ?_)
          refine sq <| cd true (congrArg some (range_lt hi12)) (fun _ => ?_) (fun h => absurd h (by decide))
          refine sk <| sq <| bk <| sq <| rg <| L (.cptr (c_api_Value x2)) rfl rfl (op_ix rfl ((ix_at (c := c_api_Value) rfl rfl hi12).trans (congrArg (fun x => some (AV.cptr (c_api_Value x))) hx12.symm))) <| L (.agg (c_api_Value x2)) rfl rfl (op_load rfl (ld_cel rfl rfl (by simp only [e_api_Value]; rfl))) <| L (.ptr (.fr 0 8) ((cb13 8).ver + 1) 0) (h' := ⟨upd _ 8 ⟨(cb13 8).ver + 1, .cells (c_api_Value (api_Value.mk 0 false 0 [] Sl.nil Sl.nil))⟩, _, _⟩) rfl rfl (op_alloc (c_api_Value (api_Value.mk 0 false 0 [] Sl.nil Sl.nil)) rfl rfl rfl (by simp only [e_api_Value]; rfl)) <| L (.tup []) (h' := ⟨upd _ 8 ⟨(cb13 8).ver + 1, .cells (c_api_Value x2)⟩, _, _⟩) rfl rfl (op_store rfl rfl (st_fr (x := (.agg (c_api_Value x2))) (cs := (c_api_Value (api_Value.mk 0 false 0 [] Sl.nil Sl.nil))) (c_api_Value x2) (by simp only [e_api_Value]; rfl) rfl (by simp only [e_api_Value]; exact Nat.le_of_ble_eq_true rfl) (by simp only [e_api_Value]; rfl))) <| nl <| sq <| rg <| L (.ptr d0 w0 0) rfl rfl rfl <| L (.agg (c_api_Value x2)) rfl rfl (op_load rfl (ld_con (.agg (c_api_Value x2)) rfl rfl (cs := (c_api_Value x2)) (con_fr rfl) (by simp only [e_api_Value]; rfl))) <| L (iA deep) rfl rfl rfl <| L (iA (w64 (deep + 1))) rfl rfl rfl ?_
          obtain ⟨⟨r382, c6⟩, h16, hF1⟩ := bind_some hF1
          refine WO_mutP (g := 28) (args := fun p => [p, (.agg (c_api_Value x2)), (iA (w64 (deep + 1)))]) (d := d0) (v := w0) (r := (bA r382)) _ _ rfl rfl rfl rfl rfl rfl rfl (fun _ _ => inferInstance) hh0 hk13 (ih_value_counter_large _ _ _ h16) (fun out16 glob16 hk16 hs16 => ?_)
          replace hs16 := hs13.trans hs16
          refine nl <| cd r382 rfl (fun hc17 => ?_) (fun hc17 => ?_)
          · replace hF1 := ite_t hF1 (hc17)
            refine sq <| rg <| L (bA true) rfl rfl rfl <| nl <| rt ?_
            obtain rfl := hD1 _ (Option.some.inj hF1).symm
            replace hF0 := res_ret hF0
            obtain rfl := Option.some.inj hF0
            exact mut_leaf (.inr rfl) rfl (retV_pl _ _ (bA true)) hk16 hs16
          · replace hF1 := ite_f hF1 (not_t hc17)
            exact sk <| rg <| WO_do (y := (iA ((i + 1 : Nat) : Int))) _ rfl rfl (congrArg (fun n => some (AV.int .i64 n, _)) (range_len hi12 hn12)) <| WO_do (y := (iA ((i + 1 : Nat) : Int))) _ rfl rfl rfl <| nl <| Exists.intro _ (And.intro (Option.some.inj hF1).symm ((hR12 _ _ _).2 ⟨_, _, _, _, rfl, (And.intro rfl (And.intro rfl (And.intro rfl (And.intro rfl (And.intro rfl (And.intro rfl True.intro)))))), (And.intro rfl True.intro), hk16, hs16⟩))
        · intro v st hr hD1
          obtain ⟨c4, hv_⟩ : ∃ z, z = v := ⟨_, rfl⟩; subst hv_
          obtain ⟨tm13, cb13, out13, glob13, rfl, hT13, hC13, hk13, hs13⟩ := (hR12 _ _ _).1 hr
          obtain ⟨tm13, rfl⟩ := allEq hT13
          obtain ⟨cb13, rfl⟩ := allEq hC13
          refine sq (rg ?_)
          refine WO_do (y := .bool false) _ rfl rfl (congrArg (fun b => some (AV.bool b, _)) (range_ge _)) (nl ?_)
          refine sq <| cd false rfl (fun h => absurd h (by decide)) (fun _ => ?_)
          exact xt <| (hJ12 _).2 ⟨c4, _, _, _, _, rfl, (And.intro rfl (And.intro rfl (And.intro rfl True.intro))), (And.intro rfl True.intro), hk13, hs13, hD1⟩
  · rcases bool_cases (decide ((w64 (c.many + 1)) > 5000)) with hc2 | hc2
    · exact L (.bool true) rfl rfl (congrArg (fun b => some (AV.bool b, _)) hc2) <| WO_no _ rfl rfl <| WO_no _ rfl rfl <| L (bA ((decide ((w64 (c.many + 1)) > 5000)) || (decide (deep > 50)))) rfl rfl (congrArg (fun b => some (AV.bool b, _)) (by rw [hc2]; rfl)) <| nl ((hJ2 _).2 ⟨_, _, _, _, rfl, (And.intro rfl (And.intro rfl (And.intro rfl (And.intro rfl True.intro)))), (And.intro rfl True.intro), hk1, hs1⟩)
    · exact L (.bool false) rfl rfl (congrArg (fun b => some (AV.bool b, _)) hc2) <| L (iA deep) rfl rfl rfl <| L (bA (decide (deep > 50))) rfl rfl rfl <| L (bA ((decide ((w64 (c.many + 1)) > 5000)) || (decide (deep > 50)))) rfl rfl (congrArg (fun b => some (AV.bool b, _)) (by rw [hc2]; rfl)) <| nl ((hJ2 _).2 ⟨_, _, _, _, rfl, (And.intro rfl (And.intro rfl (And.intro rfl (And.intro rfl True.intro)))), (And.intro rfl True.intro), hk1, hs1⟩)
theorem ok_value_counter_large (k : Nat) : (∀ (c : value_counter) (v_ : api_Value) (deep : Int) {r : (Bool × value_counter)} (hF0 : value_counter_large k c v_ deep = some r), MutOk Tryd.prog pol 28 (fun p => [p, (.agg (c_api_Value v_)), (iA deep)]) (c_value_counter c) (bA r.1) (c_value_counter r.2)) := (okg_value_counter_large k)

theorem ok_kit_Outside (n : Int) (low : Int) (high : Int) {r : (Bool)} (hF0 : kit_Outside n low high = some r) (out : List AE.Frame) (glob : List AObj) : RdOk Tryd.prog pol true 53 [(iA n), (iA low), (iA high)] out glob (bA r) := by
 unfold kit_Outside at hF0
 refine rd_walk Tryd.func53 rfl (Nat.not_lt.2 (Nat.le_of_ble_eq_true rfl)) ?_
 intro ro
 refine sq <| rg <| L (bA false) rfl rfl rfl <| nl <| sq <| rg <| L (iA n) rfl rfl rfl <| L (iA low) rfl rfl rfl <| L (bA (decide (n < low))) rfl rfl rfl ?_
 obtain ⟨J1, hJ1⟩ : ∃ J : St → Prop, ∀ st, J st ↔ (∃ (tm2 : Nat → AV) (cb2 : AE.Frame), st = ⟨tm2, ⟨cb2, out, glob⟩⟩ ∧ AllEq tm2 [(14, (bA ((decide (n < low)) || (decide (n > high)))))] ∧ AllEq cb2 []) := ⟨_, fun _ => Iff.rfl⟩
 refine WO_cut 5 J1 (fun st hst => ?_) ?_
 · obtain ⟨tm2, cb2, rfl, hT2, hC2⟩ := (hJ1 st).1 hst
   obtain ⟨tm2, rfl⟩ := allEq hT2
   obtain ⟨cb2, rfl⟩ := allEq hC2
   refine L (bA ((decide (n < low)) || (decide (n > high)))) rfl rfl rfl <| nl <| rt ?_
   obtain rfl := Option.some.inj hF0
   exact rd_leaf (.inr rfl) rfl (retV_pl _ _ (bA ((decide (n < low)) || (decide (n > high))))) rfl rfl
 · rcases bool_cases (decide (n < low)) with hc1 | hc1
   · exact L (.bool true) rfl rfl (congrArg (fun b => some (AV.bool b, _)) hc1) <| WO_no _ rfl rfl <| WO_no _ rfl rfl <| WO_no _ rfl rfl <| L (bA ((decide (n < low)) || (decide (n > high)))) rfl rfl (congrArg (fun b => some (AV.bool b, _)) (by rw [hc1]; rfl)) <| nl ((hJ1 _).2 ⟨_, _, rfl, (And.intro rfl True.intro), True.intro⟩)
   · exact L (.bool false) rfl rfl (congrArg (fun b => some (AV.bool b, _)) hc1) <| L (iA n) rfl rfl rfl <| L (iA high) rfl rfl rfl <| L (bA (decide (n > high))) rfl rfl rfl <| L (bA ((decide (n < low)) || (decide (n > high)))) rfl rfl (congrArg (fun b => some (AV.bool b, _)) (by rw [hc1]; rfl)) <| nl ((hJ1 _).2 ⟨_, _, rfl, (And.intro rfl True.intro), True.intro⟩)

theorem ok_value_idle (v_ : api_Value) {r : (Bool)} (hF0 : value_idle v_ = some r) (out : List AE.Frame) (glob : List AObj) : RdOk Tryd.prog pol true 54 [(.agg (c_api_Value v_))] out glob (bA r) := by
 unfold value_idle at hF0
 refine rd_walk Tryd.func54 rfl (Nat.not_lt.2 (Nat.le_of_ble_eq_true rfl)) ?_
 intro ro
 refine sq <| rg <| L (.ptr (.fr 0 1) 1 0) (h' := ⟨upd _ 1 ⟨1, .cells (c_api_Value v_)⟩, _, _⟩) rfl rfl (op_box (x' := (.agg (c_api_Value v_))) rfl rfl rfl rfl) <| L (bA false) rfl rfl rfl <| nl <| sq <| rg <| L (.ptr (.fr 0 1) 1 0) rfl rfl rfl <| L (iA v_.Kind) rfl rfl (op_load rfl (ld_con (iA v_.Kind) rfl rfl (cs := (c_api_Value v_)) (con_fr rfl) (by simp only [e_api_Value]; rfl))) <| L (bA (v_.Kind == 1)) rfl rfl rfl ?_
 obtain ⟨J1, hJ1⟩ : ∃ J : St → Prop, ∀ st, J st ↔ (∃ (tm2 : Nat → AV) (cb2 : AE.Frame), st = ⟨tm2, ⟨cb2, out, glob⟩⟩ ∧ AllEq tm2 [(1, (.ptr (.fr 0 1) 1 0)), (10, (bA ((v_.Kind == 1) || (!v_.Flag))))] ∧ AllEq cb2 [(1, ⟨1, .cells (c_api_Value v_)⟩)]) := ⟨_, fun _ => Iff.rfl⟩
 refine WO_cut 5 J1 (fun st hst => ?_) ?_
 · obtain ⟨tm2, cb2, rfl, hT2, hC2⟩ := (hJ1 st).1 hst
   obtain ⟨tm2, rfl⟩ := allEq hT2
   obtain ⟨cb2, rfl⟩ := allEq hC2
   obtain ⟨J5, hJ5⟩ : ∃ J : St → Prop, ∀ st, J st ↔ (∃ (tm6 : Nat → AV) (cb6 : AE.Frame), st = ⟨tm6, ⟨cb6, out, glob⟩⟩ ∧ AllEq tm6 [(1, (.ptr (.fr 0 1) 1 0)), (20, (bA (((v_.Kind == 1) || (!v_.Flag)) && ((v_.Kind == 2) || (v_.Number == 0)))))] ∧ AllEq cb6 [(1, ⟨1, .cells (c_api_Value v_)⟩)]) := ⟨_, fun _ => Iff.rfl⟩
   refine WO_cut 10 J5 (fun st hst => ?_) ?_
   · obtain ⟨tm6, cb6, rfl, hT6, hC6⟩ := (hJ5 st).1 hst
     obtain ⟨tm6, rfl⟩ := allEq hT6
     obtain ⟨cb6, rfl⟩ := allEq hC6
     obtain ⟨J9, hJ9⟩ : ∃ J : St → Prop, ∀ st, J st ↔ (∃ (tm10 : Nat → AV) (cb10 : AE.Frame), st = ⟨tm10, ⟨cb10, out, glob⟩⟩ ∧ AllEq tm10 [(1, (.ptr (.fr 0 1) 1 0)), (30, (bA ((((v_.Kind == 1) || (!v_.Flag)) && ((v_.Kind == 2) || (v_.Number == 0))) && ((v_.Kind == 3) || (v_.Words == [])))))] ∧ AllEq cb10 [(1, ⟨1, .cells (c_api_Value v_)⟩)]) := ⟨_, fun _ => Iff.rfl⟩
     refine WO_cut 10 J9 (fun st hst => ?_) ?_
     · obtain ⟨tm10, cb10, rfl, hT10, hC10⟩ := (hJ9 st).1 hst
       obtain ⟨tm10, rfl⟩ := allEq hT10
       obtain ⟨cb10, rfl⟩ := allEq hC10
       obtain ⟨J13, hJ13⟩ : ∃ J : St → Prop, ∀ st, J st ↔ (∃ (tm14 : Nat → AV) (cb14 : AE.Frame), st = ⟨tm14, ⟨cb14, out, glob⟩⟩ ∧ AllEq tm14 [(1, (.ptr (.fr 0 1) 1 0)), (41, (bA (((((v_.Kind == 1) || (!v_.Flag)) && ((v_.Kind == 2) || (v_.Number == 0))) && ((v_.Kind == 3) || (v_.Words == []))) && ((v_.Kind == 4) || ((v_.List.list.length : Int) == 0)))))] ∧ AllEq cb14 [(1, ⟨1, .cells (c_api_Value v_)⟩)]) := ⟨_, fun _ => Iff.rfl⟩
       refine WO_cut 11 J13 (fun st hst => ?_) ?_
       · obtain ⟨tm14, cb14, rfl, hT14, hC14⟩ := (hJ13 st).1 hst
         obtain ⟨tm14, rfl⟩ := allEq hT14
         obtain ⟨cb14, rfl⟩ := allEq hC14
         obtain ⟨J17, hJ17⟩ : ∃ J : St → Prop, ∀ st, J st ↔ (∃ (tm18 : Nat → AV) (cb18 : AE.Frame), st = ⟨tm18, ⟨cb18, out, glob⟩⟩ ∧ AllEq tm18 [(52, (bA ((((((v_.Kind == 1) || (!v_.Flag)) && ((v_.Kind == 2) || (v_.Number == 0))) && ((v_.Kind == 3) || (v_.Words == []))) && ((v_.Kind == 4) || ((v_.List.list.length : Int) == 0))) && ((v_.Kind == 5) || ((v_.Members.list.length : Int) == 0)))))] ∧ AllEq cb18 []) := ⟨_, fun _ => Iff.rfl⟩
         refine WO_cut 11 J17 (fun st hst => ?_) ?_
         · obtain ⟨tm18, cb18, rfl, hT18, hC18⟩ := (hJ17 st).1 hst
           obtain ⟨tm18, rfl⟩ := allEq hT18
           obtain ⟨cb18, rfl⟩ := allEq hC18
           refine L (bA ((((((v_.Kind == 1) || (!v_.Flag)) && ((v_.Kind == 2) || (v_.Number == 0))) && ((v_.Kind == 3) || (v_.Words == []))) && ((v_.Kind == 4) || ((v_.List.list.length : Int) == 0))) && ((v_.Kind == 5) || ((v_.Members.list.length : Int) == 0)))) rfl rfl rfl <| nl <| rt ?_
           obtain rfl := Option.some.inj hF0
           exact rd_leaf (.inr rfl) rfl (retV_pl _ _ (bA ((((((v_.Kind == 1) || (!v_.Flag)) && ((v_.Kind == 2) || (v_.Number == 0))) && ((v_.Kind == 3) || (v_.Words == []))) && ((v_.Kind == 4) || ((v_.List.list.length : Int) == 0))) && ((v_.Kind == 5) || ((v_.Members.list.length : Int) == 0))))) rfl rfl
         · rcases bool_cases (((((v_.Kind == 1) || (!v_.Flag)) && ((v_.Kind == 2) || (v_.Number == 0))) && ((v_.Kind == 3) || (v_.Words == []))) && ((v_.Kind == 4) || ((v_.List.list.length : Int) == 0))) with hc17 | hc17
           · refine L (.bool true) rfl rfl (congrArg (fun b => some (AV.bool b, _)) hc17) <| L (.ptr (.fr 0 1) 1 0) rfl rfl rfl <| L (iA v_.Kind) rfl rfl (op_load rfl (ld_con (iA v_.Kind) rfl rfl (cs := (c_api_Value v_)) (con_fr rfl) (by simp only [e_api_Value]; rfl))) <| L (bA (v_.Kind == 5)) rfl rfl rfl ?_
             obtain ⟨J19, hJ19⟩ : ∃ J : St → Prop, ∀ st, J st ↔ (∃ (tm20 : Nat → AV) (cb20 : AE.Frame), st = ⟨tm20, ⟨cb20, out, glob⟩⟩ ∧ AllEq tm20 [(42, (bA true)), (51, (bA ((v_.Kind == 5) || ((v_.Members.list.length : Int) == 0))))] ∧ AllEq cb20 []) := ⟨_, fun _ => Iff.rfl⟩
             refine WO_cut 6 J19 (fun st hst => ?_) ?_
             · obtain ⟨tm20, cb20, rfl, hT20, hC20⟩ := (hJ19 st).1 hst
               obtain ⟨tm20, rfl⟩ := allEq hT20
               obtain ⟨cb20, rfl⟩ := allEq hC20
               exact L (bA ((((((v_.Kind == 1) || (!v_.Flag)) && ((v_.Kind == 2) || (v_.Number == 0))) && ((v_.Kind == 3) || (v_.Words == []))) && ((v_.Kind == 4) || ((v_.List.list.length : Int) == 0))) && ((v_.Kind == 5) || ((v_.Members.list.length : Int) == 0)))) rfl rfl (congrArg (fun b => some (AV.bool b, _)) (by rw [hc17]; rfl)) <| nl ((hJ17 _).2 ⟨_, _, rfl, (And.intro rfl True.intro), True.intro⟩)
             · rcases bool_cases (v_.Kind == 5) with hc19 | hc19
               · exact L (.bool true) rfl rfl (congrArg (fun b => some (AV.bool b, _)) hc19) <| WO_no _ rfl rfl <| WO_no _ rfl rfl <| WO_no _ rfl rfl <| WO_no _ rfl rfl <| L (bA ((v_.Kind == 5) || ((v_.Members.list.length : Int) == 0))) rfl rfl (congrArg (fun b => some (AV.bool b, _)) (by rw [hc19]; rfl)) <| nl ((hJ19 _).2 ⟨_, _, rfl, (And.intro rfl (And.intro rfl True.intro)), True.intro⟩)
               · exact L (.bool false) rfl rfl (congrArg (fun b => some (AV.bool b, _)) hc19) <| L (.ptr (.fr 0 1) 1 5) rfl rfl rfl <| L (Sl.av 7 c_api_Member v_.Members) rfl rfl (op_load rfl (ld_con (Sl.av 7 c_api_Member v_.Members) rfl rfl (cs := (c_api_Value v_)) (con_fr rfl) (by simp only [e_api_Value]; rfl))) <| L (iA (v_.Members.list.length : Int)) rfl rfl (op_len rfl rfl rfl rfl rfl (len_sl _)) <| L (bA ((v_.Members.list.length : Int) == 0)) rfl rfl rfl <| L (bA ((v_.Kind == 5) || ((v_.Members.list.length : Int) == 0))) rfl rfl (congrArg (fun b => some (AV.bool b, _)) (by rw [hc19]; rfl)) <| nl ((hJ19 _).2 ⟨_, _, rfl, (And.intro rfl (And.intro rfl True.intro)), True.intro⟩)
           · exact L (.bool false) rfl rfl (congrArg (fun b => some (AV.bool b, _)) hc17) <| WO_no _ rfl rfl <| WO_no _ rfl rfl <| WO_no _ rfl rfl <| WO_no _ rfl rfl <| WO_no _ rfl rfl <| WO_no _ rfl rfl <| WO_no _ rfl rfl <| WO_no _ rfl rfl <| WO_no _ rfl rfl <| L (bA ((((((v_.Kind == 1) || (!v_.Flag)) && ((v_.Kind == 2) || (v_.Number == 0))) && ((v_.Kind == 3) || (v_.Words == []))) && ((v_.Kind == 4) || ((v_.List.list.length : Int) == 0))) && ((v_.Kind == 5) || ((v_.Members.list.length : Int) == 0)))) rfl rfl (congrArg (fun b => some (AV.bool b, _)) (by rw [hc17]; rfl)) <| nl ((hJ17 _).2 ⟨_, _, rfl, (And.intro rfl True.intro), True.intro⟩)
       · rcases bool_cases ((((v_.Kind == 1) || (!v_.Flag)) && ((v_.Kind == 2) || (v_.Number == 0))) && ((v_.Kind == 3) || (v_.Words == []))) with hc13 | hc13
         · refine L (.bool true) rfl rfl (congrArg (fun b => some (AV.bool b, _)) hc13) <| L (.ptr (.fr 0 1) 1 0) rfl rfl rfl <| L (iA v_.Kind) rfl rfl (op_load rfl (ld_con (iA v_.Kind) rfl rfl (cs := (c_api_Value v_)) (con_fr rfl) (by simp only [e_api_Value]; rfl))) <| L (bA (v_.Kind == 4)) rfl rfl rfl ?_
           obtain ⟨J21, hJ21⟩ : ∃ J : St → Prop, ∀ st, J st ↔ (∃ (tm22 : Nat → AV) (cb22 : AE.Frame), st = ⟨tm22, ⟨cb22, out, glob⟩⟩ ∧ AllEq tm22 [(1, (.ptr (.fr 0 1) 1 0)), (31, (bA true)), (40, (bA ((v_.Kind == 4) || ((v_.List.list.length : Int) == 0))))] ∧ AllEq cb22 [(1, ⟨1, .cells (c_api_Value v_)⟩)]) := ⟨_, fun _ => Iff.rfl⟩
           refine WO_cut 6 J21 (fun st hst => ?_) ?_
           · obtain ⟨tm22, cb22, rfl, hT22, hC22⟩ := (hJ21 st).1 hst
             obtain ⟨tm22, rfl⟩ := allEq hT22
             obtain ⟨cb22, rfl⟩ := allEq hC22
             exact L (bA (((((v_.Kind == 1) || (!v_.Flag)) && ((v_.Kind == 2) || (v_.Number == 0))) && ((v_.Kind == 3) || (v_.Words == []))) && ((v_.Kind == 4) || ((v_.List.list.length : Int) == 0)))) rfl rfl (congrArg (fun b => some (AV.bool b, _)) (by rw [hc13]; rfl)) <| nl ((hJ13 _).2 ⟨_, _, rfl, (And.intro rfl (And.intro rfl True.intro)), (And.intro rfl True.intro)⟩)
           · rcases bool_cases (v_.Kind == 4) with hc21 | hc21
             · exact L (.bool true) rfl rfl (congrArg (fun b => some (AV.bool b, _)) hc21) <| WO_no _ rfl rfl <| WO_no _ rfl rfl <| WO_no _ rfl rfl <| WO_no _ rfl rfl <| L (bA ((v_.Kind == 4) || ((v_.List.list.length : Int) == 0))) rfl rfl (congrArg (fun b => some (AV.bool b, _)) (by rw [hc21]; rfl)) <| nl ((hJ21 _).2 ⟨_, _, rfl, (And.intro rfl (And.intro rfl (And.intro rfl True.intro))), (And.intro rfl True.intro)⟩)
             · exact L (.bool false) rfl rfl (congrArg (fun b => some (AV.bool b, _)) hc21) <| L (.ptr (.fr 0 1) 1 4) rfl rfl rfl <| L (Sl.av 6 c_api_Value v_.List) rfl rfl (op_load rfl (ld_con (Sl.av 6 c_api_Value v_.List) rfl rfl (cs := (c_api_Value v_)) (con_fr rfl) (by simp only [e_api_Value]; rfl))) <| L (iA (v_.List.list.length : Int)) rfl rfl (op_len rfl rfl rfl rfl rfl (len_sl _)) <| L (bA ((v_.List.list.length : Int) == 0)) rfl rfl rfl <| L (bA ((v_.Kind == 4) || ((v_.List.list.length : Int) == 0))) rfl rfl (congrArg (fun b => some (AV.bool b, _)) (by rw [hc21]; rfl)) <| nl ((hJ21 _).2 ⟨_, _, rfl, (And.intro rfl (And.intro rfl (And.intro rfl True.intro))), (And.intro rfl True.intro)⟩)
         · exact L (.bool false) rfl rfl (congrArg (fun b => some (AV.bool b, _)) hc13) <| WO_no _ rfl rfl <| WO_no _ rfl rfl <| WO_no _ rfl rfl <| WO_no _ rfl rfl <| WO_no _ rfl rfl <| WO_no _ rfl rfl <| WO_no _ rfl rfl <| WO_no _ rfl rfl <| WO_no _ rfl rfl <| L (bA (((((v_.Kind == 1) || (!v_.Flag)) && ((v_.Kind == 2) || (v_.Number == 0))) && ((v_.Kind == 3) || (v_.Words == []))) && ((v_.Kind == 4) || ((v_.List.list.length : Int) == 0)))) rfl rfl (congrArg (fun b => some (AV.bool b, _)) (by rw [hc13]; rfl)) <| nl ((hJ13 _).2 ⟨_, _, rfl, (And.intro rfl (And.intro rfl True.intro)), (And.intro rfl True.intro)⟩)
     · rcases bool_cases (((v_.Kind == 1) || (!v_.Flag)) && ((v_.Kind == 2) || (v_.Number == 0))) with hc9 | hc9
       · refine L (.bool true) rfl rfl (congrArg (fun b => some (AV.bool b, _)) hc9) <| L (.ptr (.fr 0 1) 1 0) rfl rfl rfl <| L (iA v_.Kind) rfl rfl (op_load rfl (ld_con (iA v_.Kind) rfl rfl (cs := (c_api_Value v_)) (con_fr rfl) (by simp only [e_api_Value]; rfl))) <| L (bA (v_.Kind == 3)) rfl rfl rfl ?_
         obtain ⟨J23, hJ23⟩ : ∃ J : St → Prop, ∀ st, J st ↔ (∃ (tm24 : Nat → AV) (cb24 : AE.Frame), st = ⟨tm24, ⟨cb24, out, glob⟩⟩ ∧ AllEq tm24 [(1, (.ptr (.fr 0 1) 1 0)), (21, (bA true)), (29, (bA ((v_.Kind == 3) || (v_.Words == []))))] ∧ AllEq cb24 [(1, ⟨1, .cells (c_api_Value v_)⟩)]) := ⟨_, fun _ => Iff.rfl⟩
         refine WO_cut 5 J23 (fun st hst => ?_) ?_
         · obtain ⟨tm24, cb24, rfl, hT24, hC24⟩ := (hJ23 st).1 hst
           obtain ⟨tm24, rfl⟩ := allEq hT24
           obtain ⟨cb24, rfl⟩ := allEq hC24
           exact L (bA ((((v_.Kind == 1) || (!v_.Flag)) && ((v_.Kind == 2) || (v_.Number == 0))) && ((v_.Kind == 3) || (v_.Words == [])))) rfl rfl (congrArg (fun b => some (AV.bool b, _)) (by rw [hc9]; rfl)) <| nl ((hJ9 _).2 ⟨_, _, rfl, (And.intro rfl (And.intro rfl True.intro)), (And.intro rfl True.intro)⟩)
         · rcases bool_cases (v_.Kind == 3) with hc23 | hc23
           · exact L (.bool true) rfl rfl (congrArg (fun b => some (AV.bool b, _)) hc23) <| WO_no _ rfl rfl <| WO_no _ rfl rfl <| WO_no _ rfl rfl <| L (bA ((v_.Kind == 3) || (v_.Words == []))) rfl rfl (congrArg (fun b => some (AV.bool b, _)) (by rw [hc23]; rfl)) <| nl ((hJ23 _).2 ⟨_, _, rfl, (And.intro rfl (And.intro rfl (And.intro rfl True.intro))), (And.intro rfl True.intro)⟩)
           · exact L (.bool false) rfl rfl (congrArg (fun b => some (AV.bool b, _)) hc23) <| L (.ptr (.fr 0 1) 1 3) rfl rfl rfl <| L (sA v_.Words) rfl rfl (op_load rfl (ld_con (sA v_.Words) rfl rfl (cs := (c_api_Value v_)) (con_fr rfl) (by simp only [e_api_Value]; rfl))) <| L (bA (v_.Words == [])) rfl rfl (op_bin rfl bin_seq) <| L (bA ((v_.Kind == 3) || (v_.Words == []))) rfl rfl (congrArg (fun b => some (AV.bool b, _)) (by rw [hc23]; rfl)) <| nl ((hJ23 _).2 ⟨_, _, rfl, (And.intro rfl (And.intro rfl (And.intro rfl True.intro))), (And.intro rfl True.intro)⟩)
       · exact L (.bool false) rfl rfl (congrArg (fun b => some (AV.bool b, _)) hc9) <| WO_no _ rfl rfl <| WO_no _ rfl rfl <| WO_no _ rfl rfl <| WO_no _ rfl rfl <| WO_no _ rfl rfl <| WO_no _ rfl rfl <| WO_no _ rfl rfl <| WO_no _ rfl rfl <| L (bA ((((v_.Kind == 1) || (!v_.Flag)) && ((v_.Kind == 2) || (v_.Number == 0))) && ((v_.Kind == 3) || (v_.Words == [])))) rfl rfl (congrArg (fun b => some (AV.bool b, _)) (by rw [hc9]; rfl)) <| nl ((hJ9 _).2 ⟨_, _, rfl, (And.intro rfl (And.intro rfl True.intro)), (And.intro rfl True.intro)⟩)
   · rcases bool_cases ((v_.Kind == 1) || (!v_.Flag)) with hc5 | hc5
     · refine L (.bool true) rfl rfl (congrArg (fun b => some (AV.bool b, _)) hc5) <| L (.ptr (.fr 0 1) 1 0) rfl rfl rfl <| L (iA v_.Kind) rfl rfl (op_load rfl (ld_con (iA v_.Kind) rfl rfl (cs := (c_api_Value v_)) (con_fr rfl) (by simp only [e_api_Value]; rfl))) <| L (bA (v_.Kind == 2)) rfl rfl rfl ?_
       obtain ⟨J25, hJ25⟩ : ∃ J : St → Prop, ∀ st, J st ↔ (∃ (tm26 : Nat → AV) (cb26 : AE.Frame), st = ⟨tm26, ⟨cb26, out, glob⟩⟩ ∧ AllEq tm26 [(1, (.ptr (.fr 0 1) 1 0)), (11, (bA true)), (19, (bA ((v_.Kind == 2) || (v_.Number == 0))))] ∧ AllEq cb26 [(1, ⟨1, .cells (c_api_Value v_)⟩)]) := ⟨_, fun _ => Iff.rfl⟩
       refine WO_cut 5 J25 (fun st hst => ?_) ?_
       · obtain ⟨tm26, cb26, rfl, hT26, hC26⟩ := (hJ25 st).1 hst
         obtain ⟨tm26, rfl⟩ := allEq hT26
         obtain ⟨cb26, rfl⟩ := allEq hC26
         exact L (bA (((v_.Kind == 1) || (!v_.Flag)) && ((v_.Kind == 2) || (v_.Number == 0)))) rfl rfl (congrArg (fun b => some (AV.bool b, _)) (by rw [hc5]; rfl)) <| nl ((hJ5 _).2 ⟨_, _, rfl, (And.intro rfl (And.intro rfl True.intro)), (And.intro rfl True.intro)⟩)
       · rcases bool_cases (v_.Kind == 2) with hc25 | hc25
         · exact L (.bool true) rfl rfl (congrArg (fun b => some (AV.bool b, _)) hc25) <| WO_no _ rfl rfl <| WO_no _ rfl rfl <| WO_no _ rfl rfl <| L (bA ((v_.Kind == 2) || (v_.Number == 0))) rfl rfl (congrArg (fun b => some (AV.bool b, _)) (by rw [hc25]; rfl)) <| nl ((hJ25 _).2 ⟨_, _, rfl, (And.intro rfl (And.intro rfl (And.intro rfl True.intro))), (And.intro rfl True.intro)⟩)
         · exact L (.bool false) rfl rfl (congrArg (fun b => some (AV.bool b, _)) hc25) <| L (.ptr (.fr 0 1) 1 2) rfl rfl rfl <| L (iA v_.Number) rfl rfl (op_load rfl (ld_con (iA v_.Number) rfl rfl (cs := (c_api_Value v_)) (con_fr rfl) (by simp only [e_api_Value]; rfl))) <| L (bA (v_.Number == 0)) rfl rfl rfl <| L (bA ((v_.Kind == 2) || (v_.Number == 0))) rfl rfl (congrArg (fun b => some (AV.bool b, _)) (by rw [hc25]; rfl)) <| nl ((hJ25 _).2 ⟨_, _, rfl, (And.intro rfl (And.intro rfl (And.intro rfl True.intro))), (And.intro rfl True.intro)⟩)
     · exact L (.bool false) rfl rfl (congrArg (fun b => some (AV.bool b, _)) hc5) <| WO_no _ rfl rfl <| WO_no _ rfl rfl <| WO_no _ rfl rfl <| WO_no _ rfl rfl <| WO_no _ rfl rfl <| WO_no _ rfl rfl <| WO_no _ rfl rfl <| WO_no _ rfl rfl <| L (bA (((v_.Kind == 1) || (!v_.Flag)) && ((v_.Kind == 2) || (v_.Number == 0)))) rfl rfl (congrArg (fun b => some (AV.bool b, _)) (by rw [hc5]; rfl)) <| nl ((hJ5 _).2 ⟨_, _, rfl, (And.intro rfl (And.intro rfl True.intro)), (And.intro rfl True.intro)⟩)
 · rcases bool_cases (v_.Kind == 1) with hc1 | hc1
   · exact L (.bool true) rfl rfl (congrArg (fun b => some (AV.bool b, _)) hc1) <| WO_no _ rfl rfl <| WO_no _ rfl rfl <| WO_no _ rfl rfl <| L (bA ((v_.Kind == 1) || (!v_.Flag))) rfl rfl (congrArg (fun b => some (AV.bool b, _)) (by rw [hc1]; rfl)) <| nl ((hJ1 _).2 ⟨_, _, rfl, (And.intro rfl (And.intro rfl True.intro)), (And.intro rfl True.intro)⟩)
   · exact L (.bool false) rfl rfl (congrArg (fun b => some (AV.bool b, _)) hc1) <| L (.ptr (.fr 0 1) 1 1) rfl rfl rfl <| L (bA v_.Flag) rfl rfl (op_load rfl (ld_con (bA v_.Flag) rfl rfl (cs := (c_api_Value v_)) (con_fr rfl) (by simp only [e_api_Value]; rfl))) <| L (bA (!v_.Flag)) rfl rfl rfl <| L (bA ((v_.Kind == 1) || (!v_.Flag))) rfl rfl (congrArg (fun b => some (AV.bool b, _)) (by rw [hc1]; rfl)) <| nl ((hJ1 _).2 ⟨_, _, rfl, (And.intro rfl (And.intro rfl True.intro)), (And.intro rfl True.intro)⟩)

theorem ok_value_nameFault (s_ : Str) {r : (Int)} (hF0 : value_nameFault s_ = some r) (out : List AE.Frame) (glob : List AObj) : RdOk Tryd.prog pol true 56 [(sA s_)] out glob (iA r) := by
 unfold value_nameFault at hF0
 refine rd_walk Tryd.func56 rfl (Nat.not_lt.2 (Nat.le_of_ble_eq_true rfl)) ?_
 intro ro
 refine sq <| rg <| L (iA 0) rfl rfl rfl <| nl <| sq <| sq <| rg <| L (sA s_) rfl rfl rfl <| L (iA (s_.length : Int)) rfl rfl rfl <| L (bA (decide ((s_.length : Int) > 100))) rfl rfl rfl <| nl <| cd (decide ((s_.length : Int) > 100)) rfl (fun hc2 => ?_) (fun hc2 => ?_)
 · replace hF0 := ite_t hF0 (dec_t hc2)
   refine sq <| rg <| L (iA 2) rfl rfl rfl <| nl <| rt ?_
   obtain rfl := Option.some.inj hF0
   exact rd_leaf (.inr rfl) rfl (retV_pl _ _ (iA 2)) rfl rfl
 · replace hF0 := ite_f hF0 (dec_f hc2)
   refine sk <| sq <| sq <| rg <| L (sA s_) rfl rfl rfl ?_
   obtain ⟨r7, h_r7, hF0⟩ := bind_some hF0
   refine L (bA r7) rfl rfl (op_lib _ rfl rfl rfl (x_valid_eq h_r7)) <| L (bA (!r7)) rfl rfl rfl <| nl <| cd (!r7) rfl (fun hc1 => ?_) (fun hc1 => ?_)
   · replace hF0 := ite_t hF0 (hc1)
     refine sq <| rg <| L (iA 3) rfl rfl rfl <| nl <| rt ?_
     obtain rfl := Option.some.inj hF0
     exact rd_leaf (.inr rfl) rfl (retV_pl _ _ (iA 3)) rfl rfl
   · replace hF0 := ite_f hF0 (not_t hc1)
     refine sk <| sq <| rg <| L (iA 0) rfl rfl rfl <| nl <| rt ?_
     obtain rfl := Option.some.inj hF0
     exact rd_leaf (.inr rfl) rfl (retV_pl _ _ (iA 0)) rfl rfl

theorem okg_value_fault (k : Nat) : (∀ (v_ : api_Value) {r : (Int)} (hF0 : value_fault k v_ = some r) (out : List AE.Frame) (glob : List AObj), RdOk Tryd.prog pol true 29 [(.agg (c_api_Value v_))] out glob (iA r)) := by
 induction k with
 | zero => exact (by intro v_ r hF0 out glob; rw [value_fault] at hF0; cases hF0)
 | succ k ih =>
  have ih_value_fault := ih
  intro v_ r hF0 out glob
  rw [value_fault] at hF0
  refine rd_walk Tryd.func29 rfl (Nat.not_lt.2 (Nat.le_of_ble_eq_true rfl)) ?_
  intro ro
  refine sq <| rg <| L (.ptr (.fr 0 1) 1 0) (h' := ⟨upd _ 1 ⟨1, .cells (c_api_Value v_)⟩, _, _⟩) rfl rfl (op_box (x' := (.agg (c_api_Value v_))) rfl rfl rfl rfl) <| L (iA 0) rfl rfl rfl <| nl <| sq <| bk <| sq <| rg <| L (.ptr (.fr 0 1) 1 0) rfl rfl rfl <| L (iA v_.Kind) rfl rfl (op_load rfl (ld_con (iA v_.Kind) rfl rfl (cs := (c_api_Value v_)) (con_fr rfl) (by simp only [e_api_Value]; rfl))) ?_
  obtain ⟨r12, h1, hF0⟩ := bind_some hF0
  refine WO_rd (g := 53) (args := [(iA v_.Kind), (iA 0), (iA 5)]) (r := (bA r12)) _ _ rfl rfl rfl rfl rfl rfl rfl (ok_kit_Outside _ _ _ h1 _ _ ) <| L (bA r12) rfl rfl rfl <| nl <| cd r12 rfl (fun hc44 => ?_) (fun hc44 => ?_)
  · replace hF0 := ite_t hF0 (hc44)
    refine sq <| rg <| L (iA 4) rfl rfl rfl <| nl <| rt ?_
    obtain rfl := Option.some.inj hF0
    exact rd_leaf (.inr rfl) rfl (retV_pl _ _ (iA 4)) rfl rfl
  · replace hF0 := ite_f hF0 (not_t hc44)
    refine sq <| rg <| L (.agg (c_api_Value v_)) rfl rfl (op_load rfl (ld_con (.agg (c_api_Value v_)) rfl rfl (cs := (c_api_Value v_)) (con_fr rfl) (by simp only [e_api_Value]; rfl))) ?_
    obtain ⟨r18, h2, hF0⟩ := bind_some hF0
    refine WO_rd (g := 54) (args := [(.agg (c_api_Value v_))]) (r := (bA r18)) _ _ rfl rfl rfl rfl rfl rfl rfl (ok_value_idle _ h2 _ _ ) <| L (bA (!r18)) rfl rfl rfl <| L (bA (!r18)) rfl rfl rfl <| nl <| cd (!r18) rfl (fun hc43 => ?_) (fun hc43 => ?_)
    · replace hF0 := ite_t hF0 (hc43)
      refine sq <| rg <| L (iA 3) rfl rfl rfl <| nl <| rt ?_
      obtain rfl := Option.some.inj hF0
      exact rd_leaf (.inr rfl) rfl (retV_pl _ _ (iA 3)) rfl rfl
    · replace hF0 := ite_f hF0 (not_t hc43)
      refine sq <| rg <| L (.ptr (.fr 0 1) 1 2) rfl rfl rfl <| L (iA v_.Number) rfl rfl (op_load rfl (ld_con (iA v_.Number) rfl rfl (cs := (c_api_Value v_)) (con_fr rfl) (by simp only [e_api_Value]; rfl))) ?_
      obtain ⟨r20, h3, hF0⟩ := bind_some hF0
      refine WO_rd (g := 53) (args := [(iA v_.Number), (iA (-1000000000000000)), (iA 1000000000000000)]) (r := (bA r20)) _ _ rfl rfl rfl rfl rfl rfl rfl (ok_kit_Outside _ _ _ h3 _ _ ) <| L (bA r20) rfl rfl rfl <| nl <| cd r20 rfl (fun hc42 => ?_) (fun hc42 => ?_)
      · replace hF0 := ite_t hF0 (hc42)
        refine sq <| rg <| L (iA 1) rfl rfl rfl <| nl <| rt ?_
        obtain rfl := Option.some.inj hF0
        exact rd_leaf (.inr rfl) rfl (retV_pl _ _ (iA 1)) rfl rfl
      · replace hF0 := ite_f hF0 (not_t hc42)
        refine sq <| rg <| L (.ptr (.fr 0 1) 1 3) rfl rfl rfl <| L (sA v_.Words) rfl rfl (op_load rfl (ld_con (sA v_.Words) rfl rfl (cs := (c_api_Value v_)) (con_fr rfl) (by simp only [e_api_Value]; rfl))) <| L (iA (v_.Words.length : Int)) rfl rfl rfl <| L (bA (decide ((v_.Words.length : Int) > 5000))) rfl rfl rfl <| L (bA (decide ((v_.Words.length : Int) > 5000))) rfl rfl rfl <| nl <| cd (decide ((v_.Words.length : Int) > 5000)) rfl (fun hc41 => ?_) (fun hc41 => ?_)
        · replace hF0 := ite_t hF0 (dec_t hc41)
          refine sq <| rg <| L (iA 2) rfl rfl rfl <| nl <| rt ?_
          obtain rfl := Option.some.inj hF0
          exact rd_leaf (.inr rfl) rfl (retV_pl _ _ (iA 2)) rfl rfl
        · replace hF0 := ite_f hF0 (dec_f hc41)
          refine sq <| rg <| L (.ptr (.fr 0 1) 1 3) rfl rfl rfl <| L (sA v_.Words) rfl rfl (op_load rfl (ld_con (sA v_.Words) rfl rfl (cs := (c_api_Value v_)) (con_fr rfl) (by simp only [e_api_Value]; rfl))) ?_
          obtain ⟨r32, h_r32, hF0⟩ := bind_some hF0
          refine L (bA r32) rfl rfl (op_lib _ rfl rfl rfl (x_valid_eq h_r32)) <| L (bA (!r32)) rfl rfl rfl <| L (bA (!r32)) rfl rfl rfl <| nl <| cd (!r32) rfl (fun hc40 => ?_) (fun hc40 => ?_)
          · replace hF0 := ite_t hF0 (hc40)
            refine sq <| rg <| L (iA 3) rfl rfl rfl <| nl <| rt ?_
            obtain rfl := Option.some.inj hF0
            exact rd_leaf (.inr rfl) rfl (retV_pl _ _ (iA 3)) rfl rfl
          · replace hF0 := ite_f hF0 (not_t hc40)
            refine sk <| sq <| sq <| rg <| L (.ptr (.fr 0 1) 1 5) rfl rfl rfl <| L (Sl.av 7 c_api_Member v_.Members) rfl rfl (op_load rfl (ld_con (Sl.av 7 c_api_Member v_.Members) rfl rfl (cs := (c_api_Value v_)) (con_fr rfl) (by simp only [e_api_Value]; rfl))) <| L (iA (v_.Members.list.length : Int)) rfl rfl (op_len rfl rfl rfl rfl rfl (len_sl _)) <| L (iA 0) rfl rfl rfl <| nl <| bk ?_
            obtain ⟨b1, hb11, hF0⟩ := bind_some hF0
            obtain ⟨hn11, hb11⟩ := ite_none hb11
            obtain ⟨J11, hJ11⟩ : ∃ J : St → Prop, ∀ st, J st ↔ (∃ (tm13 : Nat → AV) (cb13 : AE.Frame), st = ⟨tm13, ⟨cb13, out, glob⟩⟩ ∧ AllEq tm13 [(1, (.ptr (.fr 0 1) 1 0))] ∧ AllEq cb13 [(1, ⟨1, .cells (c_api_Value v_)⟩)] ∧ Res.out () = b1) := ⟨_, fun _ => Iff.rfl⟩
            obtain ⟨R11, hR11⟩ : ∃ R : Nat → (Unit) → St → Prop, ∀ i v st, R i v st ↔ (match v with | () => ∃ (tm12 : Nat → AV) (cb12 : AE.Frame), st = ⟨tm12, ⟨cb12, out, glob⟩⟩ ∧ AllEq tm12 [(1, (.ptr (.fr 0 1) 1 0)), (35, (Sl.av 7 c_api_Member v_.Members)), (36, (iA (v_.Members.list.length : Int))), (37, (iA ((i : Nat) : Int)))] ∧ AllEq cb12 [(1, ⟨1, .cells (c_api_Value v_)⟩)]) := ⟨_, fun _ _ _ => Iff.rfl⟩
            refine W_loopcut J11 (fun st hst => ?_) ?_
            · obtain ⟨tm13, cb13, rfl, hT13, hC13, rfl⟩ := (hJ11 st).1 hst
              obtain ⟨tm13, rfl⟩ := allEq hT13
              obtain ⟨cb13, rfl⟩ := allEq hC13
              replace hF0 := res_out hF0
              refine sq <| sq <| rg <| L (.ptr (.fr 0 1) 1 4) rfl rfl rfl <| L (Sl.av 6 c_api_Value v_.List) rfl rfl (op_load rfl (ld_con (Sl.av 6 c_api_Value v_.List) rfl rfl (cs := (c_api_Value v_)) (con_fr rfl) (by simp only [e_api_Value]; rfl))) <| L (iA (v_.List.list.length : Int)) rfl rfl (op_len rfl rfl rfl rfl rfl (len_sl _)) <| L (iA 0) rfl rfl rfl <| nl <| bk ?_
              obtain ⟨b1, hb24, hF0⟩ := bind_some hF0
              obtain ⟨hn24, hb24⟩ := ite_none hb24
              obtain ⟨J24, hJ24⟩ : ∃ J : St → Prop, ∀ st, J st ↔ (∃ (tm26 : Nat → AV) (cb26 : AE.Frame), st = ⟨tm26, ⟨cb26, out, glob⟩⟩ ∧ AllEq tm26 [(1, (.ptr (.fr 0 1) 1 0))] ∧ AllEq cb26 [(1, ⟨1, .cells (c_api_Value v_)⟩)] ∧ Res.out () = b1) := ⟨_, fun _ => Iff.rfl⟩
              obtain ⟨R24, hR24⟩ : ∃ R : Nat → (Unit) → St → Prop, ∀ i1 v st, R i1 v st ↔ (match v with | () => ∃ (tm25 : Nat → AV) (cb25 : AE.Frame), st = ⟨tm25, ⟨cb25, out, glob⟩⟩ ∧ AllEq tm25 [(1, (.ptr (.fr 0 1) 1 0)), (64, (Sl.av 6 c_api_Value v_.List)), (65, (iA (v_.List.list.length : Int))), (66, (iA ((i1 : Nat) : Int)))] ∧ AllEq cb25 [(1, ⟨1, .cells (c_api_Value v_)⟩)]) := ⟨_, fun _ _ _ => Iff.rfl⟩
              refine W_loopcut J24 (fun st hst => ?_) ?_
              · obtain ⟨tm26, cb26, rfl, hT26, hC26, rfl⟩ := (hJ24 st).1 hst
                obtain ⟨tm26, rfl⟩ := allEq hT26
                obtain ⟨cb26, rfl⟩ := allEq hC26
                replace hF0 := res_out hF0
                refine sq <| sq <| rg <| L (.ptr (.fr 0 1) 1 5) rfl rfl rfl <| L (Sl.av 7 c_api_Member v_.Members) rfl rfl (op_load rfl (ld_con (Sl.av 7 c_api_Member v_.Members) rfl rfl (cs := (c_api_Value v_)) (con_fr rfl) (by simp only [e_api_Value]; rfl))) <| L (iA (v_.Members.list.length : Int)) rfl rfl (op_len rfl rfl rfl rfl rfl (len_sl _)) <| L (iA 0) rfl rfl rfl <| nl <| bk ?_
                obtain ⟨b1, hb34, hF0⟩ := bind_some hF0
                obtain ⟨hn34, hb34⟩ := ite_none hb34
                obtain ⟨J34, hJ34⟩ : ∃ J : St → Prop, ∀ st, J st ↔ (∃ (tm36 : Nat → AV) (cb36 : AE.Frame), st = ⟨tm36, ⟨cb36, out, glob⟩⟩ ∧ AllEq tm36 [] ∧ AllEq cb36 [] ∧ Res.out () = b1) := ⟨_, fun _ => Iff.rfl⟩
                obtain ⟨R34, hR34⟩ : ∃ R : Nat → (Unit) → St → Prop, ∀ i2 v st, R i2 v st ↔ (match v with | () => ∃ (tm35 : Nat → AV) (cb35 : AE.Frame), st = ⟨tm35, ⟨cb35, out, glob⟩⟩ ∧ AllEq tm35 [(77, (Sl.av 7 c_api_Member v_.Members)), (78, (iA (v_.Members.list.length : Int))), (79, (iA ((i2 : Nat) : Int)))] ∧ AllEq cb35 []) := ⟨_, fun _ _ _ => Iff.rfl⟩
                refine W_loopcut J34 (fun st hst => ?_) ?_
                · obtain ⟨tm36, cb36, rfl, hT36, hC36, rfl⟩ := (hJ34 st).1 hst
                  obtain ⟨tm36, rfl⟩ := allEq hT36
                  obtain ⟨cb36, rfl⟩ := allEq hC36
                  replace hF0 := res_out hF0
                  refine sq <| rg <| L (iA 0) rfl rfl rfl <| nl <| rt ?_
                  obtain rfl := Option.some.inj hF0
                  exact rd_leaf (.inr rfl) rfl (retV_pl _ _ (iA 0)) rfl rfl
                · refine W_rangeL hb34 R34 ((hR34 _ _ _).2 ⟨_, _, rfl, (And.intro rfl (And.intro rfl (And.intro rfl True.intro))), True.intro⟩) ?_ ?_
                  · intro i2 hi34 v st s hr hF1 hD1
                    obtain ⟨⟩ := v
                    obtain ⟨tm35, cb35, rfl, hT35, hC35⟩ := (hR34 _ _ _).1 hr
                    obtain ⟨tm35, rfl⟩ := allEq hT35
                    obtain ⟨cb35, rfl⟩ := allEq hC35
                    obtain ⟨x9, hx34⟩ : ∃ x, x = v_.Members.list[i2] := ⟨_, rfl⟩
                    rw [← hx34] at hF1
                    dsimp only [value_fault_l2] at hF1
                    refine sq (rg ?_)
                    refine WO_do (y := (bA (decide (((i2 : Nat) : Int) < (v_.Members.list.length : Int))))) _ rfl rfl rfl (nl ?_)
                    refine sq <| cd true (congrArg some (range_lt hi34)) (fun _ => ?_) (fun h => absurd h (by decide))
                    refine sk <| sq <| bk <| sq <| rg <| L (.cptr (c_api_Member x9)) rfl rfl (op_ix rfl ((ix_at (c := c_api_Member) rfl rfl hi34).trans (congrArg (fun x => some (AV.cptr (c_api_Member x))) hx34.symm))) <| L (.agg (c_api_Member x9)) rfl rfl (op_load rfl (ld_cel rfl rfl (by simp only [e_api_Member, e_api_Value]; rfl))) <| L (.ptr (.fr 0 10) ((cb35 10).ver + 1) 0) (h' := ⟨upd _ 10 ⟨(cb35 10).ver + 1, .cells (c_api_Member (api_Member.mk [] (api_Value.mk 0 false 0 [] Sl.nil Sl.nil)))⟩, _, _⟩) rfl rfl (op_alloc (c_api_Member (api_Member.mk [] (api_Value.mk 0 false 0 [] Sl.nil Sl.nil))) rfl rfl rfl (by simp only [e_api_Member, e_api_Value]; rfl)) <| L (.tup []) (h' := ⟨upd _ 10 ⟨(cb35 10).ver + 1, .cells (c_api_Member x9)⟩, _, _⟩) rfl rfl (op_store rfl rfl (st_fr (x := (.agg (c_api_Member x9))) (cs := (c_api_Member (api_Member.mk [] (api_Value.mk 0 false 0 [] Sl.nil Sl.nil)))) (c_api_Member x9) (by simp only [e_api_Member, e_api_Value]; rfl) rfl (by simp only [e_api_Member, e_api_Value]; exact Nat.le_of_ble_eq_true rfl) (by simp only [e_api_Member, e_api_Value]; rfl))) <| nl <| sq <| rg <| L (.ptr (.fr 0 10) ((cb35 10).ver + 1) 1) rfl rfl rfl <| L (.agg (c_api_Value x9.Value)) rfl rfl (op_load rfl (ld_con (.agg (c_api_Value x9.Value)) rfl rfl (cs := (c_api_Member x9)) (con_fr rfl) (by simp only [e_api_Member, e_api_Value]; rfl))) ?_
                    obtain ⟨e5, h38, hF1⟩ := bind_some hF1
                    refine WO_rd (g := 29) (args := [(.agg (c_api_Value x9.Value))]) (r := (iA e5)) _ _ rfl rfl rfl rfl rfl rfl rfl (ih_value_fault _ h38 _ _ ) <| L (iA e5) rfl rfl rfl <| nl <| sq <| rg <| L (iA e5) rfl rfl rfl <| L (bA (e5 != 0)) rfl rfl rfl <| nl <| cd (e5 != 0) rfl (fun hc39 => ?_) (fun hc39 => ?_)
                    · replace hF1 := ite_t hF1 (bne_t hc39)
                      refine sq <| rg <| L (iA e5) rfl rfl rfl <| L (iA e5) rfl rfl rfl <| nl <| rt ?_
                      obtain rfl := hD1 _ (Option.some.inj hF1).symm
                      replace hF0 := res_ret hF0
                      obtain rfl := Option.some.inj hF0
                      exact rd_leaf (.inr rfl) rfl (retV_pl _ _ (iA e5)) rfl rfl
                    · replace hF1 := ite_f hF1 (bne_f hc39)
                      exact sk <| rg <| WO_do (y := (iA ((i2 + 1 : Nat) : Int))) _ rfl rfl (congrArg (fun n => some (AV.int .i64 n, _)) (range_len hi34 hn34)) <| WO_do (y := (iA ((i2 + 1 : Nat) : Int))) _ rfl rfl rfl <| nl <| Exists.intro _ (And.intro (Option.some.inj hF1).symm ((hR34 _ _ _).2 ⟨_, _, rfl, (And.intro rfl (And.intro rfl (And.intro rfl True.intro))), True.intro⟩))
                  · intro v st hr hD1
                    obtain ⟨⟩ := v
                    obtain ⟨tm35, cb35, rfl, hT35, hC35⟩ := (hR34 _ _ _).1 hr
                    obtain ⟨tm35, rfl⟩ := allEq hT35
                    obtain ⟨cb35, rfl⟩ := allEq hC35
                    refine sq (rg ?_)
                    refine WO_do (y := .bool false) _ rfl rfl (congrArg (fun b => some (AV.bool b, _)) (range_ge _)) (nl ?_)
                    refine sq <| cd false rfl (fun h => absurd h (by decide)) (fun _ => ?_)
                    exact xt <| (hJ34 _).2 ⟨_, _, rfl, True.intro, True.intro, hD1⟩
              · refine W_rangeL hb24 R24 ((hR24 _ _ _).2 ⟨_, _, rfl, (And.intro rfl (And.intro rfl (And.intro rfl (And.intro rfl True.intro)))), (And.intro rfl True.intro)⟩) ?_ ?_
                · intro i1 hi24 v st s hr hF1 hD1
                  obtain ⟨⟩ := v
                  obtain ⟨tm25, cb25, rfl, hT25, hC25⟩ := (hR24 _ _ _).1 hr
                  obtain ⟨tm25, rfl⟩ := allEq hT25
                  obtain ⟨cb25, rfl⟩ := allEq hC25
                  obtain ⟨x7, hx24⟩ : ∃ x, x = v_.List.list[i1] := ⟨_, rfl⟩
                  rw [← hx24] at hF1
                  dsimp only [value_fault_l1] at hF1
                  refine sq (rg ?_)
                  refine WO_do (y := (bA (decide (((i1 : Nat) : Int) < (v_.List.list.length : Int))))) _ rfl rfl rfl (nl ?_)
                  refine sq <| cd true (congrArg some (range_lt hi24)) (fun _ => ?_) (fun h => absurd h (by decide))
                  refine sk <| sq <| bk <| sq <| rg <| L (.cptr (c_api_Value x7)) rfl rfl (op_ix rfl ((ix_at (c := c_api_Value) rfl rfl hi24).trans (congrArg (fun x => some (AV.cptr (c_api_Value x))) hx24.symm))) <| L (.agg (c_api_Value x7)) rfl rfl (op_load rfl (ld_cel rfl rfl (by simp only [e_api_Value]; rfl))) <| L (.ptr (.fr 0 7) ((cb25 7).ver + 1) 0) (h' := ⟨upd _ 7 ⟨(cb25 7).ver + 1, .cells (c_api_Value (api_Value.mk 0 false 0 [] Sl.nil Sl.nil))⟩, _, _⟩) rfl rfl (op_alloc (c_api_Value (api_Value.mk 0 false 0 [] Sl.nil Sl.nil)) rfl rfl rfl (by simp only [e_api_Value]; rfl)) <| L (.tup []) (h' := ⟨upd _ 7 ⟨(cb25 7).ver + 1, .cells (c_api_Value x7)⟩, _, _⟩) rfl rfl (op_store rfl rfl (st_fr (x := (.agg (c_api_Value x7))) (cs := (c_api_Value (api_Value.mk 0 false 0 [] Sl.nil Sl.nil))) (c_api_Value x7) (by simp only [e_api_Value]; rfl) rfl (by simp only [e_api_Value]; exact Nat.le_of_ble_eq_true rfl) (by simp only [e_api_Value]; rfl))) <| nl <| sq <| rg <| L (.agg (c_api_Value x7)) rfl rfl (op_load rfl (ld_con (.agg (c_api_Value x7)) rfl rfl (cs := (c_api_Value x7)) (con_fr rfl) (by simp only [e_api_Value]; rfl))) ?_
                  obtain ⟨e3, h28, hF1⟩ := bind_some hF1
                  refine WO_rd (g := 29) (args := [(.agg (c_api_Value x7))]) (r := (iA e3)) _ _ rfl rfl rfl rfl rfl rfl rfl (ih_value_fault _ h28 _ _ ) <| L (iA e3) rfl rfl rfl <| nl <| sq <| rg <| L (iA e3) rfl rfl rfl <| L (bA (e3 != 0)) rfl rfl rfl <| nl <| cd (e3 != 0) rfl (fun hc29 => ?_) (fun hc29 => ?_)
                  · replace hF1 := ite_t hF1 (bne_t hc29)
                    refine sq <| rg <| L (iA e3) rfl rfl rfl <| L (iA e3) rfl rfl rfl <| nl <| rt ?_
                    obtain rfl := hD1 _ (Option.some.inj hF1).symm
                    replace hF0 := res_ret hF0
                    obtain rfl := Option.some.inj hF0
                    exact rd_leaf (.inr rfl) rfl (retV_pl _ _ (iA e3)) rfl rfl
                  · replace hF1 := ite_f hF1 (bne_f hc29)
                    exact sk <| rg <| WO_do (y := (iA ((i1 + 1 : Nat) : Int))) _ rfl rfl (congrArg (fun n => some (AV.int .i64 n, _)) (range_len hi24 hn24)) <| WO_do (y := (iA ((i1 + 1 : Nat) : Int))) _ rfl rfl rfl <| nl <| Exists.intro _ (And.intro (Option.some.inj hF1).symm ((hR24 _ _ _).2 ⟨_, _, rfl, (And.intro rfl (And.intro rfl (And.intro rfl (And.intro rfl True.intro)))), (And.intro rfl True.intro)⟩))
                · intro v st hr hD1
                  obtain ⟨⟩ := v
                  obtain ⟨tm25, cb25, rfl, hT25, hC25⟩ := (hR24 _ _ _).1 hr
                  obtain ⟨tm25, rfl⟩ := allEq hT25
                  obtain ⟨cb25, rfl⟩ := allEq hC25
                  refine sq (rg ?_)
                  refine WO_do (y := .bool false) _ rfl rfl (congrArg (fun b => some (AV.bool b, _)) (range_ge _)) (nl ?_)
                  refine sq <| cd false rfl (fun h => absurd h (by decide)) (fun _ => ?_)
                  exact xt <| (hJ24 _).2 ⟨_, _, rfl, (And.intro rfl True.intro), (And.intro rfl True.intro), hD1⟩
            · refine W_rangeL hb11 R11 ((hR11 _ _ _).2 ⟨_, _, rfl, (And.intro rfl (And.intro rfl (And.intro rfl (And.intro rfl True.intro)))), (And.intro rfl True.intro)⟩) ?_ ?_
              · intro i hi11 v st s hr hF1 hD1
                obtain ⟨⟩ := v
                obtain ⟨tm12, cb12, rfl, hT12, hC12⟩ := (hR11 _ _ _).1 hr
                obtain ⟨tm12, rfl⟩ := allEq hT12
                obtain ⟨cb12, rfl⟩ := allEq hC12
                obtain ⟨x3, hx11⟩ : ∃ x, x = v_.Members.list[i] := ⟨_, rfl⟩
                rw [← hx11] at hF1
                dsimp only [value_fault_l0] at hF1
                refine sq (rg ?_)
                refine WO_do (y := (bA (decide (((i : Nat) : Int) < (v_.Members.list.length : Int))))) _ rfl rfl rfl (nl ?_)
                refine sq <| cd true (congrArg some (range_lt hi11)) (fun _ => ?_) (fun h => absurd h (by decide))
                refine sk <| sq <| bk <| sq <| rg <| L (iA ((i : Nat) : Int)) rfl rfl rfl <| L (.cptr (c_api_Member x3)) rfl rfl (op_ix rfl ((ix_at (c := c_api_Member) rfl rfl hi11).trans (congrArg (fun x => some (AV.cptr (c_api_Member x))) hx11.symm))) <| L (.agg (c_api_Member x3)) rfl rfl (op_load rfl (ld_cel rfl rfl (by simp only [e_api_Member, e_api_Value]; rfl))) <| L (.ptr (.fr 0 4) ((cb12 4).ver + 1) 0) (h' := ⟨upd _ 4 ⟨(cb12 4).ver + 1, .cells (c_api_Member (api_Member.mk [] (api_Value.mk 0 false 0 [] Sl.nil Sl.nil)))⟩, _, _⟩) rfl rfl (op_alloc (c_api_Member (api_Member.mk [] (api_Value.mk 0 false 0 [] Sl.nil Sl.nil))) rfl rfl rfl (by simp only [e_api_Member, e_api_Value]; rfl)) <| L (iA ((i : Nat) : Int)) rfl rfl rfl <| L (.tup []) (h' := ⟨upd _ 4 ⟨(cb12 4).ver + 1, .cells (c_api_Member x3)⟩, _, _⟩) rfl rfl (op_store rfl rfl (st_fr (x := (.agg (c_api_Member x3))) (cs := (c_api_Member (api_Member.mk [] (api_Value.mk 0 false 0 [] Sl.nil Sl.nil)))) (c_api_Member x3) (by simp only [e_api_Member, e_api_Value]; rfl) rfl (by simp only [e_api_Member, e_api_Value]; exact Nat.le_of_ble_eq_true rfl) (by simp only [e_api_Member, e_api_Value]; rfl))) <| nl <| sq <| sq <| rg <| L (.ptr (.fr 0 4) ((cb12 4).ver + 1) 0) rfl rfl rfl <| L (sA x3.Name) rfl rfl (op_load rfl (ld_con (sA x3.Name) rfl rfl (cs := (c_api_Member x3)) (con_fr rfl) (by simp only [e_api_Member, e_api_Value]; rfl))) ?_
                obtain ⟨e1, h15, hF1⟩ := bind_some hF1
                refine WO_rd (g := 56) (args := [(sA x3.Name)]) (r := (iA e1)) _ _ rfl rfl rfl rfl rfl rfl rfl (ok_value_nameFault _ h15 _ _ ) <| L (iA e1) rfl rfl rfl <| nl <| sq <| rg <| L (iA e1) rfl rfl rfl <| L (bA (e1 != 0)) rfl rfl rfl <| nl <| cd (e1 != 0) rfl (fun hc19 => ?_) (fun hc19 => ?_)
                · replace hF1 := ite_t hF1 (bne_t hc19)
                  refine sq <| rg <| L (iA e1) rfl rfl rfl <| L (iA e1) rfl rfl rfl <| nl <| rt ?_
                  obtain rfl := hD1 _ (Option.some.inj hF1).symm
                  replace hF0 := res_ret hF0
                  obtain rfl := Option.some.inj hF0
                  exact rd_leaf (.inr rfl) rfl (retV_pl _ _ (iA e1)) rfl rfl
                · replace hF1 := ite_f hF1 (bne_f hc19)
                  refine sk <| sq <| dw (by kernel_rfl) <| L (iA ((i : Nat) : Int)) rfl rfl rfl <| L (bA (decide (((i : Nat) : Int) > 0))) rfl rfl rfl ?_
                  obtain ⟨y16, hF2, hF1⟩ := bind_some hF1
                  obtain ⟨J16, hJ16⟩ : ∃ J : St → Prop, ∀ st, J st ↔ (∃ (t611 : Bool) (tm17 : Nat → AV) (cb17 : AE.Frame), st = ⟨tm17, ⟨cb17, out, glob⟩⟩ ∧ AllEq tm17 [(1, (.ptr (.fr 0 1) 1 0)), (35, (Sl.av 7 c_api_Member v_.Members)), (36, (iA (v_.Members.list.length : Int))), (37, (iA ((i : Nat) : Int))), (61, (bA t611))] ∧ AllEq cb17 [(1, ⟨1, .cells (c_api_Value v_)⟩)] ∧ t611 = y16) := ⟨_, fun _ => Iff.rfl⟩
                  refine WO_cut 12 J16 (fun st hst => ?_) ?_
                  · obtain ⟨t611, tm17, cb17, rfl, hT17, hC17, rfl⟩ := (hJ16 st).1 hst
                    obtain ⟨tm17, rfl⟩ := allEq hT17
                    obtain ⟨cb17, rfl⟩ := allEq hC17
                    refine nl <| cd t611 rfl (fun hc18 => ?_) (fun hc18 => ?_)
                    · replace hF1 := ite_t hF1 (hc18)
                      refine sq <| rg <| L (iA 7) rfl rfl rfl <| nl <| rt ?_
                      obtain rfl := hD1 _ (Option.some.inj hF1).symm
                      replace hF0 := res_ret hF0
                      obtain rfl := Option.some.inj hF0
                      exact rd_leaf (.inr rfl) rfl (retV_pl _ _ (iA 7)) rfl rfl
                    · replace hF1 := ite_f hF1 (not_t hc18)
                      exact sk <| rg <| WO_do (y := (iA ((i + 1 : Nat) : Int))) _ rfl rfl (congrArg (fun n => some (AV.int .i64 n, _)) (range_len hi11 hn11)) <| WO_do (y := (iA ((i + 1 : Nat) : Int))) _ rfl rfl rfl <| nl <| Exists.intro _ (And.intro (Option.some.inj hF1).symm ((hR11 _ _ _).2 ⟨_, _, rfl, (And.intro rfl (And.intro rfl (And.intro rfl (And.intro rfl True.intro)))), (And.intro rfl True.intro)⟩))
                  · rcases bool_cases (decide (((i : Nat) : Int) > 0)) with hc16 | hc16
                    · replace hF2 := ite_t hF2 (dec_t hc16)
                      refine L (.bool true) rfl rfl (congrArg (fun b => some (AV.bool b, _)) hc16) <| L (.ptr (.fr 0 4) ((cb12 4).ver + 1) 0) rfl rfl rfl <| L (sA x3.Name) rfl rfl (op_load rfl (ld_con (sA x3.Name) rfl rfl (cs := (c_api_Member x3)) (con_fr rfl) (by simp only [e_api_Member, e_api_Value]; rfl))) <| L (.ptr (.fr 0 1) 1 5) rfl rfl rfl <| L (Sl.av 7 c_api_Member v_.Members) rfl rfl (op_load rfl (ld_con (Sl.av 7 c_api_Member v_.Members) rfl rfl (cs := (c_api_Value v_)) (con_fr rfl) (by simp only [e_api_Value]; rfl))) <| L (iA ((i : Nat) : Int)) rfl rfl rfl <| L (iA (w64 (((i : Nat) : Int) - 1))) rfl rfl rfl ?_
                      obtain ⟨x5, h_x5, hF2⟩ := bind_some hF2
                      exact L (.cptr (c_api_Member x5)) rfl rfl (op_ix rfl (ix_sl (c := c_api_Member) rfl rfl h_x5)) <| L (.cptr ((c_api_Member x5).drop 0)) rfl rfl rfl <| L (sA x5.Name) rfl rfl (op_load rfl (ld_cel rfl rfl (by simp only [e_api_Member, e_api_Value]; rfl))) <| L (bA (sle x3.Name x5.Name)) rfl rfl (op_bin rfl bin_sle) <| L (bA (sle x3.Name x5.Name)) rfl rfl rfl <| nl ((hJ16 _).2 ⟨sle x3.Name x5.Name, _, _, rfl, (And.intro rfl (And.intro rfl (And.intro rfl (And.intro rfl (And.intro rfl True.intro))))), (And.intro rfl True.intro), Option.some.inj hF2⟩)
                    · replace hF2 := ite_f hF2 (dec_f hc16)
                      exact L (.bool false) rfl rfl (congrArg (fun b => some (AV.bool b, _)) hc16) <| WO_no _ rfl rfl <| WO_no _ rfl rfl <| WO_no _ rfl rfl <| WO_no _ rfl rfl <| WO_no _ rfl rfl <| WO_no _ rfl rfl <| WO_no _ rfl rfl <| WO_no _ rfl rfl <| WO_no _ rfl rfl <| WO_no _ rfl rfl <| L (bA false) rfl rfl rfl <| nl ((hJ16 _).2 ⟨false, _, _, rfl, (And.intro rfl (And.intro rfl (And.intro rfl (And.intro rfl (And.intro rfl True.intro))))), (And.intro rfl True.intro), Option.some.inj hF2⟩)
              · intro v st hr hD1
                obtain ⟨⟩ := v
                obtain ⟨tm12, cb12, rfl, hT12, hC12⟩ := (hR11 _ _ _).1 hr
                obtain ⟨tm12, rfl⟩ := allEq hT12
                obtain ⟨cb12, rfl⟩ := allEq hC12
                refine sq (rg ?_)
                refine WO_do (y := .bool false) _ rfl rfl (congrArg (fun b => some (AV.bool b, _)) (range_ge _)) (nl ?_)
                refine sq <| cd false rfl (fun h => absurd h (by decide)) (fun _ => ?_)
                exact xt <| (hJ11 _).2 ⟨_, _, rfl, (And.intro rfl True.intro), (And.intro rfl True.intro), hD1⟩
theorem ok_value_fault (k : Nat) : (∀ (v_ : api_Value) {r : (Int)} (hF0 : value_fault k v_ = some r) (out : List AE.Frame) (glob : List AObj), RdOk Tryd.prog pol true 29 [(.agg (c_api_Value v_))] out glob (iA r)) := (okg_value_fault k)

theorem ok_value_Check (k : Nat) (v_ : api_Value) {r : (Int)} (hF0 : value_Check k v_ = some r) (out : List AE.Frame) (glob : List AObj) : RdOk Tryd.prog pol false 10 [(.agg (c_api_Value v_))] out glob (iA r) := by
 unfold value_Check at hF0
 refine rd_walkF Tryd.func10 rfl (Nat.not_lt.2 (Nat.le_of_ble_eq_true rfl)) <| sq <| rg <| L (.ptr (.fr 0 1) 1 0) (h' := ⟨upd _ 1 ⟨1, .cells (c_api_Value v_)⟩, _, _⟩) rfl rfl (op_box (x' := (.agg (c_api_Value v_))) rfl rfl rfl rfl) <| L (iA 0) rfl rfl rfl <| nl <| sq <| rg <| L (.agg (c_value_counter (value_counter.mk 0))) rfl rfl (op_build rfl (build_st (cs := (c_value_counter (value_counter.mk 0))) rfl rfl rfl (fill_nil))) <| L (.ptr (.fr 0 3) 1 0) (h' := ⟨upd _ 3 ⟨1, .cells (c_value_counter (value_counter.mk 0))⟩, _, _⟩) rfl rfl (op_alloc (c_value_counter (value_counter.mk 0)) rfl rfl rfl rfl) <| L (.tup []) (h' := ⟨upd _ 3 ⟨1, .cells (c_value_counter (value_counter.mk 0))⟩, _, _⟩) rfl rfl (op_store rfl rfl (st_fr (x := (.agg (c_value_counter (value_counter.mk 0)))) (cs := (c_value_counter (value_counter.mk 0))) (c_value_counter (value_counter.mk 0)) rfl rfl (Nat.le_of_ble_eq_true rfl) rfl)) <| nl <| sq <| sq <| rg <| L (.agg (c_api_Value v_)) rfl rfl (op_load rfl (ld_con (.agg (c_api_Value v_)) rfl rfl (cs := (c_api_Value v_)) (con_fr rfl) (by simp only [e_api_Value]; rfl))) ?_
 obtain ⟨⟨r6, c⟩, h1, hF0⟩ := bind_some hF0
 refine WO_mutL (g := 28) (args := fun p => [p, (.agg (c_api_Value v_)), (iA 1)]) (t := 3) (v := 1) (r := (bA r6)) _ _ rfl rfl rfl rfl rfl rfl rfl (fun _ _ => inferInstance) rfl (ok_value_counter_large _ _ _ _ h1) <| nl <| cd r6 rfl (fun hc3 => ?_) (fun hc3 => ?_)
 · replace hF0 := ite_t hF0 (hc3)
   refine sq <| rg <| L (iA 2) rfl rfl rfl <| nl <| rt ?_
   obtain rfl := Option.some.inj hF0
   exact rd_leaf (.inr rfl) rfl (retV_pl _ _ (iA 2)) rfl rfl
 · replace hF0 := ite_f hF0 (not_t hc3)
   refine sk <| sq <| rg <| L (.agg (c_api_Value v_)) rfl rfl (op_load rfl (ld_con (.agg (c_api_Value v_)) rfl rfl (cs := (c_api_Value v_)) (con_fr rfl) (by simp only [e_api_Value]; rfl))) ?_
   obtain ⟨r2, h2, hF0⟩ := bind_some hF0
   refine WO_rd (g := 29) (args := [(.agg (c_api_Value v_))]) (r := (iA r2)) _ _ rfl rfl rfl rfl rfl rfl rfl (ok_value_fault _ _ h2 _ _ ) <| L (iA r2) rfl rfl rfl <| nl <| rt ?_
   obtain rfl := Option.some.inj hF0
   exact rd_leaf (.inr rfl) rfl (retV_pl _ _ (iA r2)) rfl rfl

theorem ok_value_checks (k : Nat) (l : (Sl api_Value)) {r : (Int)} (hF0 : value_checks k l = some r) (out : List AE.Frame) (glob : List AObj) : RdOk Tryd.prog pol false 23 [(Sl.av 6 c_api_Value l)] out glob (iA r) := by
 unfold value_checks at hF0
 refine rd_walkF Tryd.func23 rfl (Nat.not_lt.2 (Nat.le_of_ble_eq_true rfl)) <| sq <| rg <| L (iA 0) rfl rfl rfl <| nl <| sq <| sq <| rg <| L (Sl.av 6 c_api_Value l) rfl rfl rfl <| L (iA (l.list.length : Int)) rfl rfl (op_len rfl rfl rfl rfl rfl (len_sl _)) <| L (iA 0) rfl rfl rfl <| nl <| bk ?_
 obtain ⟨b1, hb5, hF0⟩ := bind_some hF0
 obtain ⟨hn5, hb5⟩ := ite_none hb5
 obtain ⟨J5, hJ5⟩ : ∃ J : St → Prop, ∀ st, J st ↔ (∃ (tm7 : Nat → AV) (cb7 : AE.Frame), st = ⟨tm7, ⟨cb7, out, glob⟩⟩ ∧ AllEq tm7 [] ∧ AllEq cb7 [] ∧ Res.out () = b1) := ⟨_, fun _ => Iff.rfl⟩
 obtain ⟨R5, hR5⟩ : ∃ R : Nat → (Unit) → St → Prop, ∀ i v st, R i v st ↔ (match v with | () => ∃ (tm6 : Nat → AV) (cb6 : AE.Frame), st = ⟨tm6, ⟨cb6, out, glob⟩⟩ ∧ AllEq tm6 [(6, (Sl.av 6 c_api_Value l)), (7, (iA (l.list.length : Int))), (8, (iA ((i : Nat) : Int)))] ∧ AllEq cb6 []) := ⟨_, fun _ _ _ => Iff.rfl⟩
 refine W_loopcut J5 (fun st hst => ?_) ?_
 · obtain ⟨tm7, cb7, rfl, hT7, hC7, rfl⟩ := (hJ5 st).1 hst
   obtain ⟨tm7, rfl⟩ := allEq hT7
   obtain ⟨cb7, rfl⟩ := allEq hC7
   replace hF0 := res_out hF0
   refine sq <| rg <| L (iA 0) rfl rfl rfl <| nl <| rt ?_
   obtain rfl := Option.some.inj hF0
   exact rd_leaf (.inr rfl) rfl (retV_pl _ _ (iA 0)) rfl rfl
 · refine W_rangeL hb5 R5 ((hR5 _ _ _).2 ⟨_, _, rfl, (And.intro rfl (And.intro rfl (And.intro rfl True.intro))), True.intro⟩) ?_ ?_
   · intro i hi5 v st s hr hF1 hD1
     obtain ⟨⟩ := v
     obtain ⟨tm6, cb6, rfl, hT6, hC6⟩ := (hR5 _ _ _).1 hr
     obtain ⟨tm6, rfl⟩ := allEq hT6
     obtain ⟨cb6, rfl⟩ := allEq hC6
     obtain ⟨x1, hx5⟩ : ∃ x, x = l.list[i] := ⟨_, rfl⟩
     rw [← hx5] at hF1
     dsimp only [value_checks_l0] at hF1
     refine sq (rg ?_)
     refine WO_do (y := (bA (decide (((i : Nat) : Int) < (l.list.length : Int))))) _ rfl rfl rfl (nl ?_)
     refine sq <| cd true (congrArg some (range_lt hi5)) (fun _ => ?_) (fun h => absurd h (by decide))
     refine sk <| sq <| bk <| sq <| rg <| L (.cptr (c_api_Value x1)) rfl rfl (op_ix rfl ((ix_at (c := c_api_Value) rfl rfl hi5).trans (congrArg (fun x => some (AV.cptr (c_api_Value x))) hx5.symm))) <| L (.agg (c_api_Value x1)) rfl rfl (op_load rfl (ld_cel rfl rfl (by simp only [e_api_Value]; rfl))) <| L (.ptr (.fr 0 4) ((cb6 4).ver + 1) 0) (h' := ⟨upd _ 4 ⟨(cb6 4).ver + 1, .cells (c_api_Value (api_Value.mk 0 false 0 [] Sl.nil Sl.nil))⟩, _, _⟩) rfl rfl (op_alloc (c_api_Value (api_Value.mk 0 false 0 [] Sl.nil Sl.nil)) rfl rfl rfl (by simp only [e_api_Value]; rfl)) <| L (.tup []) (h' := ⟨upd _ 4 ⟨(cb6 4).ver + 1, .cells (c_api_Value x1)⟩, _, _⟩) rfl rfl (op_store rfl rfl (st_fr (x := (.agg (c_api_Value x1))) (cs := (c_api_Value (api_Value.mk 0 false 0 [] Sl.nil Sl.nil))) (c_api_Value x1) (by simp only [e_api_Value]; rfl) rfl (by simp only [e_api_Value]; exact Nat.le_of_ble_eq_true rfl) (by simp only [e_api_Value]; rfl))) <| nl <| sq <| rg <| L (.agg (c_api_Value x1)) rfl rfl (op_load rfl (ld_con (.agg (c_api_Value x1)) rfl rfl (cs := (c_api_Value x1)) (con_fr rfl) (by simp only [e_api_Value]; rfl))) ?_
     obtain ⟨e1, h9, hF1⟩ := bind_some hF1
     refine WO_rd (g := 10) (args := [(.agg (c_api_Value x1))]) (r := (iA e1)) _ _ rfl rfl rfl rfl rfl rfl rfl (ok_value_Check _ _ h9 _ _ ) <| L (iA e1) rfl rfl rfl <| nl <| sq <| rg <| L (iA e1) rfl rfl rfl <| L (bA (e1 != 0)) rfl rfl rfl <| nl <| cd (e1 != 0) rfl (fun hc10 => ?_) (fun hc10 => ?_)
     · replace hF1 := ite_t hF1 (bne_t hc10)
       refine sq <| rg <| L (iA e1) rfl rfl rfl <| L (iA e1) rfl rfl rfl <| nl <| rt ?_
       obtain rfl := hD1 _ (Option.some.inj hF1).symm
       replace hF0 := res_ret hF0
       obtain rfl := Option.some.inj hF0
       exact rd_leaf (.inr rfl) rfl (retV_pl _ _ (iA e1)) rfl rfl
     · replace hF1 := ite_f hF1 (bne_f hc10)
       exact sk <| rg <| WO_do (y := (iA ((i + 1 : Nat) : Int))) _ rfl rfl (congrArg (fun n => some (AV.int .i64 n, _)) (range_len hi5 hn5)) <| WO_do (y := (iA ((i + 1 : Nat) : Int))) _ rfl rfl rfl <| nl <| Exists.intro _ (And.intro (Option.some.inj hF1).symm ((hR5 _ _ _).2 ⟨_, _, rfl, (And.intro rfl (And.intro rfl (And.intro rfl True.intro))), True.intro⟩))
   · intro v st hr hD1
     obtain ⟨⟩ := v
     obtain ⟨tm6, cb6, rfl, hT6, hC6⟩ := (hR5 _ _ _).1 hr
     obtain ⟨tm6, rfl⟩ := allEq hT6
     obtain ⟨cb6, rfl⟩ := allEq hC6
     refine sq (rg ?_)
     refine WO_do (y := .bool false) _ rfl rfl (congrArg (fun b => some (AV.bool b, _)) (range_ge _)) (nl ?_)
     refine sq <| cd false rfl (fun h => absurd h (by decide)) (fun _ => ?_)
     exact xt <| (hJ5 _).2 ⟨_, _, rfl, True.intro, True.intro, hD1⟩

theorem ok_cmp_isNaN_int (x : Int) {r : (Bool)} (hF0 : cmp_isNaN_int x = some r) (out : List AE.Frame) (glob : List AObj) : RdOk Tryd.prog pol true 60 [(iA x)] out glob (bA r) := by
 unfold cmp_isNaN_int at hF0
 refine rd_walk Tryd.func60 rfl (Nat.not_lt.2 (Nat.le_of_ble_eq_true rfl)) ?_
 intro ro
 refine sq <| rg <| L (bA false) rfl rfl rfl <| nl <| sq <| rg <| L (iA x) rfl rfl rfl <| L (iA x) rfl rfl rfl <| L (bA (x != x)) rfl rfl rfl <| L (bA (x != x)) rfl rfl rfl <| nl <| rt ?_
 obtain rfl := Option.some.inj hF0
 exact rd_leaf (.inr rfl) rfl (retV_pl _ _ (bA (x != x))) rfl rfl

theorem ok_cmp_Compare_int (x : Int) (y : Int) {r : (Int)} (hF0 : cmp_Compare_int x y = some r) (out : List AE.Frame) (glob : List AObj) : RdOk Tryd.prog pol true 34 [(iA x), (iA y)] out glob (iA r) := by
 unfold cmp_Compare_int at hF0
 refine rd_walk Tryd.func34 rfl (Nat.not_lt.2 (Nat.le_of_ble_eq_true rfl)) ?_
 intro ro
 refine sq <| rg <| L (iA 0) rfl rfl rfl <| nl <| sq <| rg <| L (iA x) rfl rfl rfl ?_
 obtain ⟨xNaN, h1, hF0⟩ := bind_some hF0
 refine WO_rd (g := 60) (args := [(iA x)]) (r := (bA xNaN)) _ _ rfl rfl rfl rfl rfl rfl rfl (ok_cmp_isNaN_int _ h1 _ _ ) <| L (bA xNaN) rfl rfl rfl <| nl <| sq <| rg <| L (iA y) rfl rfl rfl ?_
 obtain ⟨yNaN, h2, hF0⟩ := bind_some hF0
 refine WO_rd (g := 60) (args := [(iA y)]) (r := (bA yNaN)) _ _ rfl rfl rfl rfl rfl rfl rfl (ok_cmp_isNaN_int _ h2 _ _ ) <| L (bA yNaN) rfl rfl rfl <| nl <| sq <| sq <| rg <| L (bA xNaN) rfl rfl rfl <| nl <| cd xNaN rfl (fun hc7 => ?_) (fun hc7 => ?_)
 · replace hF0 := ite_t hF0 (hc7)
   refine sq <| sq <| rg <| L (bA yNaN) rfl rfl rfl <| nl <| cd yNaN rfl (fun hc3 => ?_) (fun hc3 => ?_)
   · replace hF0 := ite_t hF0 (hc3)
     refine sq <| rg <| L (iA 0) rfl rfl rfl <| nl <| rt ?_
     obtain rfl := Option.some.inj hF0
     exact rd_leaf (.inr rfl) rfl (retV_pl _ _ (iA 0)) rfl rfl
   · replace hF0 := ite_f hF0 (not_t hc3)
     refine sk <| sq <| rg <| L (iA (-1)) rfl rfl rfl <| nl <| rt ?_
     obtain rfl := Option.some.inj hF0
     exact rd_leaf (.inr rfl) rfl (retV_pl _ _ (iA (-1))) rfl rfl
 · replace hF0 := ite_f hF0 (not_t hc7)
   refine sk <| sq <| sq <| rg <| L (bA yNaN) rfl rfl rfl <| nl <| cd yNaN rfl (fun hc6 => ?_) (fun hc6 => ?_)
   · replace hF0 := ite_t hF0 (hc6)
     refine sq <| rg <| L (iA 1) rfl rfl rfl <| nl <| rt ?_
     obtain rfl := Option.some.inj hF0
     exact rd_leaf (.inr rfl) rfl (retV_pl _ _ (iA 1)) rfl rfl
   · replace hF0 := ite_f hF0 (not_t hc6)
     refine sk <| sq <| sq <| rg <| L (iA x) rfl rfl rfl <| L (iA y) rfl rfl rfl <| L (bA (decide (x < y))) rfl rfl rfl <| nl <| cd (decide (x < y)) rfl (fun hc5 => ?_) (fun hc5 => ?_)
     · replace hF0 := ite_t hF0 (dec_t hc5)
       refine sq <| rg <| L (iA (-1)) rfl rfl rfl <| nl <| rt ?_
       obtain rfl := Option.some.inj hF0
       exact rd_leaf (.inr rfl) rfl (retV_pl _ _ (iA (-1))) rfl rfl
     · replace hF0 := ite_f hF0 (dec_f hc5)
       refine sk <| sq <| sq <| rg <| L (iA x) rfl rfl rfl <| L (iA y) rfl rfl rfl <| L (bA (decide (x > y))) rfl rfl rfl <| nl <| cd (decide (x > y)) rfl (fun hc4 => ?_) (fun hc4 => ?_)
       · replace hF0 := ite_t hF0 (dec_t hc4)
         refine sq <| rg <| L (iA 1) rfl rfl rfl <| nl <| rt ?_
         obtain rfl := Option.some.inj hF0
         exact rd_leaf (.inr rfl) rfl (retV_pl _ _ (iA 1)) rfl rfl
       · replace hF0 := ite_f hF0 (dec_f hc4)
         refine sk <| sq <| rg <| L (iA 0) rfl rfl rfl <| nl <| rt ?_
         obtain rfl := Option.some.inj hF0
         exact rd_leaf (.inr rfl) rfl (retV_pl _ _ (iA 0)) rfl rfl

theorem ok_value_flagNumber (b : Bool) {r : (Int)} (hF0 : value_flagNumber b = some r) (out : List AE.Frame) (glob : List AObj) : RdOk Tryd.prog pol true 48 [(bA b)] out glob (iA r) := by
 unfold value_flagNumber at hF0
 refine rd_walk Tryd.func48 rfl (Nat.not_lt.2 (Nat.le_of_ble_eq_true rfl)) ?_
 intro ro
 refine sq <| rg <| L (iA 0) rfl rfl rfl <| nl <| sq <| sq <| rg <| L (bA b) rfl rfl rfl <| nl <| cd b rfl (fun hc1 => ?_) (fun hc1 => ?_)
 · replace hF0 := ite_t hF0 (hc1)
   refine sq <| rg <| L (iA 1) rfl rfl rfl <| nl <| rt ?_
   obtain rfl := Option.some.inj hF0
   exact rd_leaf (.inr rfl) rfl (retV_pl _ _ (iA 1)) rfl rfl
 · replace hF0 := ite_f hF0 (not_t hc1)
   refine sk <| sq <| rg <| L (iA 0) rfl rfl rfl <| nl <| rt ?_
   obtain rfl := Option.some.inj hF0
   exact rd_leaf (.inr rfl) rfl (retV_pl _ _ (iA 0)) rfl rfl

theorem ok_cmp_Or_int (vals : (Sl Int)) {r : (Int)} (hF0 : cmp_Or_int vals = some r) (out : List AE.Frame) (glob : List AObj) : RdOk Tryd.prog pol true 35 [(Sl.av 1 c_i64 vals)] out glob (iA r) := by
 unfold cmp_Or_int at hF0
 refine rd_walk Tryd.func35 rfl (Nat.not_lt.2 (Nat.le_of_ble_eq_true rfl)) ?_
 intro ro
 refine sq <| rg <| L (iA 0) rfl rfl rfl <| nl <| sq <| rg <| L (iA 0) rfl rfl rfl <| nl <| sq <| sq <| rg <| L (Sl.av 1 c_i64 vals) rfl rfl rfl <| L (iA (vals.list.length : Int)) rfl rfl (op_len rfl rfl rfl rfl rfl (len_sl _)) <| L (iA 0) rfl rfl rfl <| nl <| bk ?_
 obtain ⟨b1, hb4, hF0⟩ := bind_some hF0
 obtain ⟨hn4, hb4⟩ := ite_none hb4
 obtain ⟨J4, hJ4⟩ : ∃ J : St → Prop, ∀ st, J st ↔ (∃ (tm6 : Nat → AV) (cb6 : AE.Frame), st = ⟨tm6, ⟨cb6, out, glob⟩⟩ ∧ AllEq tm6 [(3, (iA 0))] ∧ AllEq cb6 [] ∧ Res.out () = b1) := ⟨_, fun _ => Iff.rfl⟩
 obtain ⟨R4, hR4⟩ : ∃ R : Nat → (Unit) → St → Prop, ∀ i v st, R i v st ↔ (match v with | () => ∃ (tm5 : Nat → AV) (cb5 : AE.Frame), st = ⟨tm5, ⟨cb5, out, glob⟩⟩ ∧ AllEq tm5 [(3, (iA 0)), (6, (Sl.av 1 c_i64 vals)), (7, (iA (vals.list.length : Int))), (8, (iA ((i : Nat) : Int)))] ∧ AllEq cb5 []) := ⟨_, fun _ _ _ => Iff.rfl⟩
 refine W_loopcut J4 (fun st hst => ?_) ?_
 · obtain ⟨tm6, cb6, rfl, hT6, hC6, rfl⟩ := (hJ4 st).1 hst
   obtain ⟨tm6, rfl⟩ := allEq hT6
   obtain ⟨cb6, rfl⟩ := allEq hC6
   replace hF0 := res_out hF0
   refine sq <| rg <| L (iA 0) rfl rfl rfl <| L (iA 0) rfl rfl rfl <| nl <| rt ?_
   obtain rfl := Option.some.inj hF0
   exact rd_leaf (.inr rfl) rfl (retV_pl _ _ (iA 0)) rfl rfl
 · refine W_rangeL hb4 R4 ((hR4 _ _ _).2 ⟨_, _, rfl, (And.intro rfl (And.intro rfl (And.intro rfl (And.intro rfl True.intro)))), True.intro⟩) ?_ ?_
   · intro i hi4 v st s hr hF1 hD1
     obtain ⟨⟩ := v
     obtain ⟨tm5, cb5, rfl, hT5, hC5⟩ := (hR4 _ _ _).1 hr
     obtain ⟨tm5, rfl⟩ := allEq hT5
     obtain ⟨cb5, rfl⟩ := allEq hC5
     obtain ⟨val, hx4⟩ : ∃ x, x = vals.list[i] := ⟨_, rfl⟩
     rw [← hx4] at hF1
     dsimp only [cmp_Or_int_l0] at hF1
     refine sq (rg ?_)
     refine WO_do (y := (bA (decide (((i : Nat) : Int) < (vals.list.length : Int))))) _ rfl rfl rfl (nl ?_)
     refine sq <| cd true (congrArg some (range_lt hi4)) (fun _ => ?_) (fun h => absurd h (by decide))
     refine sk <| sq <| bk <| sq <| rg <| L (.cptr [(iA val)]) rfl rfl (op_ix rfl ((ix_at (c := c_i64) rfl rfl hi4).trans (congrArg (fun x => some (AV.cptr (c_i64 x))) hx4.symm))) <| L (iA val) rfl rfl rfl <| L (iA val) rfl rfl rfl <| nl <| sq <| rg <| L (iA val) rfl rfl rfl <| L (iA 0) rfl rfl rfl <| L (bA (val != 0)) rfl rfl rfl <| nl <| cd (val != 0) rfl (fun hc8 => ?_) (fun hc8 => ?_)
     · replace hF1 := ite_t hF1 (bne_t hc8)
       refine sq <| rg <| L (iA val) rfl rfl rfl <| L (iA val) rfl rfl rfl <| nl <| rt ?_
       obtain rfl := hD1 _ (Option.some.inj hF1).symm
       replace hF0 := res_ret hF0
       obtain rfl := Option.some.inj hF0
       exact rd_leaf (.inr rfl) rfl (retV_pl _ _ (iA val)) rfl rfl
     · replace hF1 := ite_f hF1 (bne_f hc8)
       exact sk <| rg <| WO_do (y := (iA ((i + 1 : Nat) : Int))) _ rfl rfl (congrArg (fun n => some (AV.int .i64 n, _)) (range_len hi4 hn4)) <| WO_do (y := (iA ((i + 1 : Nat) : Int))) _ rfl rfl rfl <| nl <| Exists.intro _ (And.intro (Option.some.inj hF1).symm ((hR4 _ _ _).2 ⟨_, _, rfl, (And.intro rfl (And.intro rfl (And.intro rfl (And.intro rfl True.intro)))), True.intro⟩))
   · intro v st hr hD1
     obtain ⟨⟩ := v
     obtain ⟨tm5, cb5, rfl, hT5, hC5⟩ := (hR4 _ _ _).1 hr
     obtain ⟨tm5, rfl⟩ := allEq hT5
     obtain ⟨cb5, rfl⟩ := allEq hC5
     refine sq (rg ?_)
     refine WO_do (y := .bool false) _ rfl rfl (congrArg (fun b => some (AV.bool b, _)) (range_ge _)) (nl ?_)
     refine sq <| cd false rfl (fun h => absurd h (by decide)) (fun _ => ?_)
     exact xt <| (hJ4 _).2 ⟨_, _, rfl, (And.intro rfl True.intro), True.intro, hD1⟩
end Go.Proofs.YtdpfbnefkemkiaaDoor
