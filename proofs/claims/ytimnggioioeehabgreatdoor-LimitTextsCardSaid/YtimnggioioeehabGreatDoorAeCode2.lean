/- Code; calls. The evaluator is right. -/
import Derived.Test.YtimnggioioeehabGreatDoorAeDraw2
import Derived.LoopN
namespace Go.AE
open Go.RowKit (Below)

variable {P : Program} {κ : Ctx} {im : Imm} {ob : Obm} {h : Heap} {w : World}
variable {pol : Pol} {call : CallF} {f : FuncId} {rid i j : Nat} {draw : Bool}

def exitOf : Ex → Exit
  | .normal => .normal
  | .exit id => .exit id
  | .ret => .ret

theorem rounds_wp {n : Nat} {c : Code} {Q : Exit → Act → World → Prop} {ex : St → Option (Ex × St)} {e : Ex} {st' : St}
    (hc : ∀ (st : St) (e : Ex) (st1 : St) (Q : Exit → Act → World → Prop) (a : Act) (w : World), ex st = some (e, st1) → Now κ n im ob st a w → (∀ a' w', Now κ n im ob st1 a' w' → Q (exitOf e) a' w') → c.wp P Q a w)
    (hK : ∀ a' w', Now κ n im ob st' a' w' → Q (exitOf e) a' w') (he : e ≠ .normal) : ∀ (m : Nat) (st : St) (a : Act) (w : World), Now κ n im ob st a w → rounds ex m st = some (e, st') → Code.rounds P c Q m a w
  | 0, st, a, w, hN, hy => by simp [rounds] at hy
  | m + 1, st, a, w, hN, hy => by
    simp only [rounds, Option.bind_eq_some_iff] at hy
    obtain ⟨⟨e1, st1⟩, h1, h2⟩ := hy
    refine hc st e1 st1 _ a w h1 hN (fun a' w' hN' => ?_)
    cases e1 with
    | normal => exact rounds_wp hc hK he m st1 a' w' hN' h2
    | exit id =>
      simp only [Option.some.injEq, Prod.mk.injEq] at h2
      obtain ⟨rfl, rfl⟩ := h2
      exact hK a' w' hN'
    | ret =>
      simp only [Option.some.injEq, Prod.mk.injEq] at h2
      obtain ⟨rfl, rfl⟩ := h2
      exact hK a' w' hN'
theorem rounds_exit {ex : St → Option (Ex × St)} {e : Ex} {st' : St} : ∀ (m : Nat) (st : St), rounds ex m st = some (e, st') → e ≠ .normal
  | 0, st, hy => by simp [rounds] at hy
  | m + 1, st, hy => by
    simp only [rounds, Option.bind_eq_some_iff] at hy
    obtain ⟨⟨e1, st1⟩, h1, h2⟩ := hy
    cases e1 with
    | normal => exact rounds_exit m st1 h2
    | exit id => simp only [Option.some.injEq, Prod.mk.injEq] at h2; rw [← h2.1]; simp
    | ret => simp only [Option.some.injEq, Prod.mk.injEq] at h2; rw [← h2.1]; simp

theorem code_wp {n k : Nat} (hm : P.follows .mixedOrders = true) (hcall : CallOk P κ.tabs call) (hlaw : LawsOk P κ.tabs pol) : ∀ (c : Code) (st : St) (e : Ex) (st' : St) (Q : Exit → Act → World → Prop) (a : Act) (w : World), dstOk n c = true →
    exCode P pol call f κ.ro k c st = some (e, st') → Now κ n im ob st a w → (∀ a' w', Now κ n im ob st' a' w' → Q (exitOf e) a' w') → c.wp P Q a w := by
  intro c
  induction c with
  | skip =>
    intro st e st' Q a w hd hy hN hK
    simp only [exCode, Option.some.injEq, Prod.mk.injEq] at hy
    obtain ⟨rfl, rfl⟩ := hy
    exact wp_skip (hK a w hN)
  | region id ops draw =>
    intro st e st' Q a w hd hy hN hK
    simp only [exCode] at hy
    split at hy
    · cases hy
    rename_i hr
    simp only [Option.map_eq_some_iff, Prod.mk.injEq] at hy
    obtain ⟨st1, h1, rfl, rfl⟩ := hy
    refine region_wp hm hcall hlaw (fun o ho d hod => ?_) (fun hdr => by subst hdr; simpa using hr) hN h1 hK
    simp only [dstOk, List.all_eq_true] at hd
    have := hd o ho
    rw [hod] at this
    simpa using this
  | seq x y ihx ihy =>
    intro st e st' Q a w hd hy hN hK
    simp only [dstOk, Bool.and_eq_true] at hd
    simp only [exCode, Option.bind_eq_some_iff] at hy
    obtain ⟨⟨e1, st1⟩, h1, h2⟩ := hy
    refine wp_seq (ihx st e1 st1 _ a w hd.1 h1 hN (fun a' w' hN' => ?_))
    cases e1 with
    | normal => exact ihy st1 e st' Q a' w' hd.2 h2 hN' hK
    | exit id =>
      simp only [Option.some.injEq, Prod.mk.injEq] at h2
      obtain ⟨rfl, rfl⟩ := h2
      exact hK a' w' hN'
    | ret =>
      simp only [Option.some.injEq, Prod.mk.injEq] at h2
      obtain ⟨rfl, rfl⟩ := h2
      exact hK a' w' hN'
  | cond c x y ihx ihy =>
    intro st e st' Q a w hd hy hN hK
    simp only [dstOk, Bool.and_eq_true] at hd
    simp only [exCode, Option.bind_eq_some_iff] at hy
    obtain ⟨t, ht, hy⟩ := hy
    obtain ⟨im', ob', g1, g2, H, hT, g3⟩ := id hN
    have hc : a.eval c = .bool t := aBool_V (hT.ev c) ht
    refine wp_cond hc ?_
    cases t with
    | true => exact ihx st e st' Q a w hd.1 (by simpa using hy) hN hK
    | false => exact ihy st e st' Q a w hd.2 (by simpa using hy) hN hK
  | block id c ih =>
    intro st e st' Q a w hd hy hN hK
    simp only [exCode, Option.map_eq_some_iff] at hy
    obtain ⟨⟨e1, st1⟩, h1, h2⟩ := hy
    refine wp_block (ih st e1 st1 _ a w hd h1 hN (fun a' w' hN' => ?_))
    by_cases hx : e1 = .exit id
    · subst hx
      simp only [if_true, Prod.mk.injEq] at h2
      obtain ⟨rfl, rfl⟩ := h2
      simp only [exitOf, Exit.inBlock, if_true]
      exact hK a' w' hN'
    · rw [if_neg hx, Prod.mk.injEq] at h2
      obtain ⟨rfl, rfl⟩ := h2
      have := hK a' w' hN'
      cases e1 with
      | normal => exact this
      | exit id' =>
        simp only [exitOf, Exit.inBlock]
        rw [if_neg (fun e => hx (by rw [e]))]
        exact this
      | ret => exact this
  | loop c ih =>
    intro st e st' Q a w hd hy hN hK
    simp only [exCode] at hy
    exact wp_loop_rounds k (rounds_wp (fun st e st1 Q a w h1 hN1 hK1 => ih st e st1 Q a w hd h1 hN1 hK1) hK (rounds_exit k st hy) k st a w hN hy)
  | exit id =>
    intro st e st' Q a w hd hy hN hK
    simp only [exCode, Option.some.injEq, Prod.mk.injEq] at hy
    obtain ⟨rfl, rfl⟩ := hy
    exact wp_exit (hK a w hN)
  | ret =>
    intro st e st' Q a w hd hy hN hK
    simp only [exCode, Option.some.injEq, Prod.mk.injEq] at hy
    obtain ⟨rfl, rfl⟩ := hy
    exact wp_ret (hK a w hN)
  | _ => intro st e st' Q a w hd hy; simp [exCode] at hy

theorem results_go {st : St} {tmps : Array Value} (H : Inv κ im ob st.hp w) (hT : TR im ob tmps st.tmps) {g : ResultVar → Sem Value} (hg : ∀ t, g (.tmp t) = pure (tmps.getD t undef)) (hgc : ∀ b t, g (.cell b t) = (do loadVar t (← asAddr (tmps.getD b undef)))) : ∀ (l : List ResultVar) (vs : List AV), resultsOf P st l = some vs →
    ∃ us : List Value, (l.mapM g).run P w = .ok us w ∧ us.length = vs.length ∧ ∀ (j : Nat) (v : Value) (x : AV), us[j]? = some v → vs[j]? = some x → V0 im ob v x
  | [], vs, hy => by
    simp only [resultsOf, Option.some.injEq] at hy
    subst hy
    exact ⟨[], by simp, rfl, by simp⟩
  | .tmp t :: r, vs, hy => by
    simp only [resultsOf, Option.map_eq_some_iff] at hy
    obtain ⟨l, hl, rfl⟩ := hy
    obtain ⟨us, h1, h2, h3⟩ := results_go H hT hg hgc r l hl
    refine ⟨tmps.getD t undef :: us, ?_, by simp [h2], fun j v x hv hx => ?_⟩
    · rw [List.mapM_cons, hg]
      simp only [Sem.run_bind, Sem.run_pure, Result.andThen_ok, h1]
    · cases j with
      | zero => simp only [List.getElem?_cons_zero, Option.some.injEq] at hv hx; subst hv hx; exact hT t
      | succ j => exact h3 j v x (by simpa using hv) (by simpa using hx)
  | .cell b t :: r, vs, hy => by
    simp only [resultsOf, Option.bind_eq_some_iff, Option.map_eq_some_iff] at hy
    obtain ⟨x0, hx0, l, hl, rfl⟩ := hy
    obtain ⟨us, h1, h2, h3⟩ := results_go H hT hg hgc r l hl
    obtain ⟨v0, h4, h5⟩ := loadAt_run H (hT b) hx0
    have h6 : (g (.cell b t)).run P w = .ok v0 w := by
      rw [hgc]
      have hptr : ∃ a, tmps.getD b undef = .pointer (some a) := by
        have hV := hT b
        simp only [loadAt, Option.bind_eq_some_iff] at hx0
        obtain ⟨_, _, _, _, hx0⟩ := hx0
        generalize tmps.getD b undef = vv at hV
        generalize st.tmps b = xx at hV hx0
        cases hV <;> first
          | exact ⟨_, rfl⟩
          | simp at hx0
      obtain ⟨a, ha⟩ := hptr
      rw [ha] at h4 ⊢
      simpa [Instr.loadAt, Instr.sureAddr, asAddr] using h4
    refine ⟨v0 :: us, ?_, by simp [h2], fun j v x hv hx => ?_⟩
    · rw [List.mapM_cons, Sem.run_bind, h6, Result.andThen_ok, Sem.run_bind, h1, Result.andThen_ok, Sem.run_pure]
    · cases j with
      | zero => simp only [List.getElem?_cons_zero, Option.some.injEq] at hv hx; subst hv hx; exact h5
      | succ j => exact h3 j v x (by simpa using hv) (by simpa using hx)

theorem results_any {st : St} {tmps : Array Value} {l : Array ResultVar} {vs : List AV} (H : Inv κ im ob st.hp w) (hT : TR im ob tmps st.tmps) {g : ResultVar → Sem Value} (hg : ∀ t, g (.tmp t) = pure (tmps.getD t undef)) (hgc : ∀ b t, g (.cell b t) = (do loadVar t (← asAddr (tmps.getD b undef)))) (hy : resultsOf P st l.toList = some vs) :
    ∃ v, (do let vs ← l.mapM g; pure (if h : vs.size = 1 then vs[0] else .tuple vs) : Sem Value).run P w = .ok v w ∧ V0 im ob v (oneOf vs) := by
  obtain ⟨us, h1, h2, h3⟩ := results_go (P := P) H hT hg hgc _ _ hy
  refine ⟨if h : us.toArray.size = 1 then us.toArray[0] else .tuple us.toArray, ?_, ?_⟩
  · have e : l = l.toList.toArray := by simp
    rw [e, List.mapM_toArray]
    simp [h1]
  · match us, vs, h2, h3 with
    | [], [], _, _ => exact .tup _ _ rfl (by simp)
    | [u], [x], _, h3 => exact h3 0 u x rfl rfl
    | u :: u2 :: us, x :: x2 :: vs, h2, h3 =>
      rw [dif_neg (by simp)]
      exact .tup _ _ (by simpa using h2) (fun j v y hv hx => h3 j v y (by simpa using hv) hx)

theorem results_run {st : St} {tmps : Array Value} {fn : Func} {vs : List AV} (H : Inv κ im ob st.hp w) (hT : TR im ob tmps st.tmps) (hy : resultsOf P st fn.results.toList = some vs) :
    ∃ v, (results fn tmps).run P w = .ok v w ∧ V0 im ob v (oneOf vs) := by
  unfold results
  exact results_any H hT (fun _ => rfl) (fun _ _ => rfl) hy

/-- The evaluator is right. -/
theorem aCall_ok {tabs : World → Prop} (hP : progOk P = true) (hm : P.follows .mixedOrders = true) (hlaw : LawsOk P tabs pol) : ∀ k, CallOk P tabs (aCall P pol k)
  | 0 => by intro ro g args out glob r h' hy; simp [aCall] at hy
  | k + 1 => by
    intro ro g args out glob r h' hy
    simp only [aCall, Option.bind_eq_some_iff] at hy
    obtain ⟨fn, hf, c, hc, hy⟩ := hy
    split at hy
    · cases hy
    rename_i hlt
    simp only [Option.bind_eq_some_iff] at hy
    obtain ⟨⟨e, st'⟩, hx, hy⟩ := hy
    have hfn : (fn.name != "runtime.NumGoroutine" && match fn.body with | some c => dstOk fn.ntmps c | none => true) = true := by
      unfold progOk at hP
      rw [List.all_eq_true] at hP
      exact hP fn (List.mem_of_getElem? (by rw [Array.getElem?_toList]; exact hf))
    rw [hc] at hfn
    simp only [Bool.and_eq_true, bne_iff_ne, ne_eq] at hfn
    have he : (∃ vs, resultsOf P st' fn.results.toList = some vs ∧ oneOf vs = r ∧ st'.hp = h') ∧ (e = .normal ∨ e = .ret) := by
      cases e with
      | exit id => simp at hy
      | normal => simp only [Option.map_eq_some_iff, Prod.mk.injEq] at hy; exact ⟨hy, .inl rfl⟩
      | ret => simp only [Option.map_eq_some_iff, Prod.mk.injEq] at hy; exact ⟨hy, .inr rfl⟩
    obtain ⟨⟨vs, hvs, rfl, rfl⟩, he⟩ := he
    refine ⟨⟨fn, hf, by rw [hc]; rfl, hfn.1⟩, fun κ im ob w us hro htb H hargs => ?_⟩
    subst hro htb
    refine calls_of_wp hf hc ?_
    have hsz : (us ++ Array.replicate (fn.ntmps - us.size) undef).size = fn.ntmps := by
      have := hargs.1
      simp; omega
    have hT : TR im ob (us ++ Array.replicate (fn.ntmps - us.size) undef) (argTmps args fn.ntmps) := by
      intro t
      unfold argTmps
      rw [Array.getD_eq_getD_getElem?, Array.getElem?_append]
      have hal := hargs.1
      cases ha : args[t]? with
      | some x =>
        have hlt' := (List.getElem?_eq_some_iff.1 ha).1
        have hus : t < us.size := by omega
        rw [if_pos hus]
        simp only [Array.getElem?_eq_getElem hus, Option.getD_some]
        exact hargs.2 t _ x (by simp [hus]) ha
      | none =>
        have hge : args.length ≤ t := List.getElem?_eq_none_iff.1 ha
        rw [if_neg (by omega)]
        simp only
        split
        · rename_i ht
          rw [Array.getElem?_replicate, if_pos (by omega)]
          exact .tup _ _ rfl (by simp)
        · exact .undef _
    refine code_wp (n := fn.ntmps) (κ := κ) (im := im) (ob := ob) hm (aCall_ok hP hm hlaw k) hlaw c _ e st' _ _ w hfn.2 hx ⟨im, ob, ImLe.refl _, ObLe.refl _, H, hT, hsz, rfl⟩ (fun a' w' hN => ?_)
    obtain ⟨im', ob', g1, g2, H', hT', g3, g4⟩ := hN
    obtain ⟨v, hv, hV⟩ := results_run (P := P) H' hT' hvs
    have hpost : a'.defers = [] ∧ ∃ v, (results fn a'.tmps).run P w' = .ok v w' ∧ ∃ u im' ob', Ending.returned v = .returned u ∧ V0 im' ob' u (oneOf vs) ∧ Inv κ im' ob' st'.hp w' ∧ ImLe im im' ∧ ObLe ob ob' :=
      ⟨g4, v, hv, v, im', ob', rfl, hV, H', g1, g2⟩
    rcases he with rfl | rfl
    · exact hpost
    · exact hpost
end Go.AE
