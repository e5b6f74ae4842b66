/- Every order that a region allows. -/
import Derived.Test.YtimnggioioeehabGreatDoorAeDraw
namespace Go.AE
open Go.RowKit (Below)

variable {P : Program} {κ : Ctx} {im : Imm} {ob : Obm} {h : Heap} {w : World}
variable {pol : Pol} {call : CallF} {f : FuncId} {ro : Bool} {rid i j : Nat} {draw : Bool}

def bits (acc : Array Nat) (o : Oper) : Nat := o.after.foldl (fun s e => if Region.binds .any e then s ||| 2 ^ e.on ||| acc.getD e.on 0 else s) 0

theorem bits_go (acc : Array Nat) (k : Nat) : ∀ (l : List Edge) (s : Nat), (l.foldl (fun s e => if Region.binds .any e then s ||| 2 ^ e.on ||| acc.getD e.on 0 else s) s).testBit k = true →
    s.testBit k = true ∨ ∃ e ∈ l, Region.binds .any e = true ∧ (e.on = k ∨ (acc.getD e.on 0).testBit k = true)
  | [], s, h => .inl h
  | e :: l, s, h => by
    rw [List.foldl_cons] at h
    rcases bits_go acc k l _ h with h1 | ⟨e', h1, h2, h3⟩
    · split at h1
      · rename_i hb
        rw [Nat.testBit_or, Nat.testBit_or, Bool.or_eq_true, Bool.or_eq_true] at h1
        rcases h1 with (h1 | h1) | h1
        · exact .inl h1
        · rw [Nat.testBit_two_pow] at h1
          exact .inr ⟨e, List.mem_cons_self .., hb, .inl (by simpa using h1)⟩
        · exact .inr ⟨e, List.mem_cons_self .., hb, .inr h1⟩
      · exact .inl h1
    · exact .inr ⟨e', List.mem_cons_of_mem _ h1, h2, h3⟩
theorem bits_spec {acc : Array Nat} {o : Oper} {k : Nat} (h : (bits acc o).testBit k = true) : ∃ e ∈ o.after.toList, Region.binds .any e = true ∧ (e.on = k ∨ (acc.getD e.on 0).testBit k = true) := by
  unfold bits at h
  rw [← Array.foldl_toList] at h
  rcases bits_go acc k _ _ h with h1 | h1
  · simp at h1
  · exact h1

theorem fold_spec : ∀ (l : List Oper) (acc : Array Nat), (∀ (q x : Nat), acc[q]? = some x → (l.foldl (fun acc o => acc.push (bits acc o)) acc)[q]? = some x) ∧
    (l.foldl (fun acc o => acc.push (bits acc o)) acc).size = acc.size + l.length ∧
    ∀ (j : Nat) (o : Oper), l[j]? = some o → ∃ acc' : Array Nat, (∀ (q x : Nat), acc'[q]? = some x → (l.foldl (fun acc o => acc.push (bits acc o)) acc)[q]? = some x) ∧ (l.foldl (fun acc o => acc.push (bits acc o)) acc)[acc.size + j]? = some (bits acc' o)
  | [], acc => ⟨fun _ _ h => h, by simp, by simp⟩
  | o :: l, acc => by
    obtain ⟨h1, h2, h3⟩ := fold_spec l (acc.push (bits acc o))
    rw [List.foldl_cons]
    have hp : ∀ q x, acc[q]? = some x → (acc.push (bits acc o))[q]? = some x := fun q x hx => by
      have hlt := (Array.getElem?_eq_some_iff.1 hx).1
      rw [Array.getElem?_push, if_neg (by omega)]; exact hx
    refine ⟨fun q x hx => h1 q x (hp q x hx), by rw [h2]; simp; omega, fun j o' hj => ?_⟩
    cases j with
    | zero =>
      simp only [List.getElem?_cons_zero, Option.some.injEq] at hj
      subst hj
      exact ⟨acc, fun q x hx => h1 q x (hp q x hx), h1 _ _ (by simp)⟩
    | succ j =>
      obtain ⟨acc', q1, q2⟩ := h3 j o' (by simpa using hj)
      refine ⟨acc', q1, ?_⟩
      rw [← q2]; congr 1; simp; omega

theorem behind_edge {ops : Array Oper} {k j : Nat} (hb : behind ops k j = true) : ∃ o, ops[j]? = some o ∧ ∃ e ∈ o.after.toList, Region.binds .any e = true ∧ (e.on = k ∨ behind ops k e.on = true) := by
  unfold behind at hb
  have e0 : Region.before ops = ops.toList.foldl (fun acc o => acc.push (bits acc o)) #[] := by
    unfold Region.before
    rw [← Array.foldl_toList]
    rfl
  obtain ⟨h1, h2, h3⟩ := fold_spec ops.toList #[]
  rw [← e0] at h1 h2 h3
  cases ho : ops[j]? with
  | none =>
    have : (Region.before ops)[j]? = none := by
      rw [Array.getElem?_eq_none_iff]
      have := Array.getElem?_eq_none_iff.1 ho
      simp at h2; omega
    rw [Array.getD_eq_getD_getElem?, this] at hb
    simp at hb
  | some o =>
    obtain ⟨acc', q1, q2⟩ := h3 j o (by rw [Array.getElem?_toList]; exact ho)
    simp only [List.size_toArray, List.length_nil, Nat.zero_add] at q2
    rw [Array.getD_eq_getD_getElem?, q2] at hb
    simp only [Option.getD_some] at hb
    obtain ⟨e, he, hbd, hk⟩ := bits_spec hb
    refine ⟨o, rfl, e, he, hbd, hk.imp id (fun hk => ?_)⟩
    unfold behind
    rw [Array.getD_eq_getD_getElem?] at hk ⊢
    cases hx : acc'[e.on]? with
    | none => rw [hx] at hk; simp at hk
    | some x => rw [hx] at hk; rw [q1 _ _ hx]; exact hk

theorem regionOk_spec {ops : Array Oper} (hr : regionOk pol f rid ops = true) : (∀ a b, a < b → b < ops.size → behind ops a b = true ∨ swaps pol f rid ops a b = true) ∧
    ∀ (b : Nat) (o : Oper), ops[b]? = some o → ∀ e ∈ o.after.toList, Region.binds .any e = true → e.on < b := by
  unfold regionOk at hr
  simp only [List.all_eq_true, List.mem_range, Bool.and_eq_true, Bool.or_eq_true] at hr
  refine ⟨fun a b hab hb => (hr b hb).1 a hab, fun b o ho e he hbd => ?_⟩
  have := (hr b (Array.getElem?_eq_some_iff.1 ho).1).2
  rw [ho] at this
  simp only [List.all_eq_true, Bool.or_eq_true, Bool.not_eq_eq_eq_not, Bool.not_true, decide_eq_true_eq] at this
  rcases this e he with h1 | h1
  · rw [hbd] at h1; cases h1
  · exact h1

/-- What is left to do, R, in the text's order. -/
theorem any_wp {n : Nat} {ops : Array Oper} (hcall : CallOk P κ.tabs call) (hlaw : LawsOk P κ.tabs pol) (hd : ∀ o ∈ ops.toList, ∀ d, o.dst = some d → d < n) (hr : regionOk pol f rid ops = true) {Q : Exit → Act → World → Prop} {st' : St}
    (hK : ∀ a' w', Now κ n im ob st' a' w' → Q .normal a' w') : ∀ (R : List Nat) (listed : Array Bool) (st : St) (a : Act) (w : World), listed.size = ops.size → R.Pairwise (· < ·) → (∀ k, k ∈ R ↔ k < ops.size ∧ listed.getD k true = false) →
      (∀ k b, behind ops k b = true → b < ops.size → b ∉ R → k ∉ R) → Now κ n im ob st a w → exOps P pol call f κ.ro ops rid true R st = some st' → wpAny P .any ops Q R.length listed a w := by
  obtain ⟨hsw, hed⟩ := regionOk_spec hr
  intro R
  generalize hlen : R.length = m
  induction m generalizing R with
  | zero =>
    intro listed st a w hls hpw hmem hclo hN hy
    have : R = [] := List.length_eq_zero_iff.1 hlen
    subst this
    simp only [exOps, Option.some.injEq] at hy
    subst hy
    refine ⟨?_, hK a w hN⟩
    rw [List.eq_nil_iff_forall_not_mem]
    intro k hk
    rw [mem_ready] at hk
    obtain ⟨h0, o, ho, _⟩ := hk
    exact absurd ((hmem k).2 ⟨(Array.getElem?_eq_some_iff.1 ho).1, h0⟩) (by simp)
  | succ m ih =>
    intro listed st a w hls hpw hmem hclo hN hy
    refine ⟨fun hnil => ?_, fun b hb => ?_⟩
    · -- the first of what is left is ready
      obtain ⟨b, R', rfl⟩ : ∃ b R', R = b :: R' := by
        cases R with
        | nil => simp at hlen
        | cons b R' => exact ⟨b, R', rfl⟩
      exfalso
      have hb := (hmem b).1 (List.mem_cons_self ..)
      have : b ∈ Region.ready .any ops listed := by
        rw [mem_ready]
        refine ⟨hb.2, ops[b], by simp [hb.1], fun e he hbd => ?_⟩
        have hlt := hed b ops[b] (by simp [hb.1]) e (Array.mem_toList_iff.2 he) hbd
        have hnm : e.on ∉ b :: R' := by
          intro hx
          rcases List.mem_cons.1 hx with h1 | h1
          · omega
          · have := (List.pairwise_cons.1 hpw).1 _ h1; omega
        have := mt (hmem e.on).2 hnm
        have hlt2 : e.on < listed.size := by omega
        rw [Array.getD_eq_getD_getElem?]
        simp only [Array.getD_eq_getD_getElem?, hlt2, Array.getElem?_eq_getElem, Option.getD_some] at this ⊢
        cases hx : listed[e.on] with
        | true => rfl
        | false => exact absurd ⟨by omega, hx⟩ this
      rw [hnil] at this; cases this
    · rw [mem_ready] at hb
      obtain ⟨h0, o, ho, hall⟩ := hb
      have hbs := (Array.getElem?_eq_some_iff.1 ho).1
      have hbR := (hmem b).2 ⟨hbs, h0⟩
      obtain ⟨pre, post, rfl⟩ := List.append_of_mem hbR
      have hbn : ∀ k, behind ops k b = true → k ∉ pre ++ b :: post := by
        intro k hk hkR
        obtain ⟨o', ho', e, he, hbd, hor⟩ := behind_edge hk
        rw [ho] at ho'; cases ho'
        have hl := hall e (Array.mem_toList_iff.1 he) hbd
        have hlt2 : e.on < listed.size := by
          rcases Nat.lt_or_ge e.on listed.size with h1 | h1
          · exact h1
          · rw [Array.getD_eq_getD_getElem?, Array.getElem?_eq_none h1] at hl; simp at hl
        have hnot : e.on ∉ pre ++ b :: post := fun hx => by
          have := ((hmem e.on).1 hx).2
          rw [Array.getD_eq_getD_getElem?, Array.getElem?_eq_getElem hlt2] at hl this
          simp only [Option.getD_some] at hl this
          rw [hl] at this; cases this
        rcases hor with rfl | hor
        · exact hnot hkR
        · exact hclo k e.on hor (by omega) hnot hkR
      have hpre : ∀ x ∈ pre, swaps pol f rid ops x b = true := by
        intro x hx
        have hlt : x < b := (List.pairwise_append.1 hpw).2.2 x hx b (List.mem_cons_self ..)
        rcases hsw x b hlt hbs with h1 | h1
        · exact absurd (List.mem_append_left _ hx) (hbn x h1)
        · exact h1
      have hf := exOps_front pre post st st' hpre hy
      simp only [exOps, Option.bind_eq_some_iff] at hf
      obtain ⟨s1, g1, g2⟩ := hf
      have hnd : b ∉ pre ++ post := by
        intro hx
        have hp := hpw
        rw [List.pairwise_append] at hp
        rcases List.mem_append.1 hx with h1 | h1
        · have := hp.2.2 b h1 b (List.mem_cons_self ..); omega
        · have := (List.pairwise_cons.1 hp.2.1).1 b h1; omega
      refine stepOp_wp hcall hlaw hd hN g1 (fun a' w' hN' => ?_)
      refine ih (pre ++ post) (by simp at hlen ⊢; omega) (listed.setIfInBounds b true) s1 a' w' (by simp [hls]) ?_ (fun k => ?_) (fun k c hk hc hcn => ?_) hN' g2
      · exact hpw.sublist (List.Sublist.append_left (List.sublist_cons_self _ _) _)
      · by_cases e : k = b
        · subst e
          simp only [Array.getD_eq_getD_getElem?, Array.getElem?_setIfInBounds_self_of_lt (show k < listed.size by omega), Option.getD_some, Bool.true_eq_false, and_false, iff_false]
          exact hnd
        · rw [getD_set_ne true (fun x => e x.symm), ← hmem k]
          simp [e]
      · by_cases e : c = b
        · subst e
          intro hx
          refine hbn k hk ?_
          rcases List.mem_append.1 hx with h1 | h1
          · exact List.mem_append_left _ h1
          · exact List.mem_append_right _ (List.mem_cons_of_mem _ h1)
        · intro hx
          refine hclo k c hk hc (fun hcx => hcn ?_) ?_
          · rcases List.mem_append.1 hcx with h1 | h1
            · exact List.mem_append_left _ h1
            · rcases List.mem_cons.1 h1 with h2 | h2
              · exact absurd h2 e
              · exact List.mem_append_right _ h2
          · rcases List.mem_append.1 hx with h1 | h1
            · exact List.mem_append_left _ h1
            · exact List.mem_append_right _ (List.mem_cons_of_mem _ h1)

theorem region_wp {n : Nat} {id : Nat} {ops : Array Oper} (hm : P.follows .mixedOrders = true) (hcall : CallOk P κ.tabs call) (hlaw : LawsOk P κ.tabs pol) (hd : ∀ o ∈ ops.toList, ∀ d, o.dst = some d → d < n) {Q : Exit → Act → World → Prop} {st st' : St} {a : Act}
    (hr : draw = true → regionOk pol f id ops = true) (hN : Now κ n im ob st a w) (hy : exOps P pol call f κ.ro ops id draw (List.range ops.size) st = some st') (hK : ∀ a' w', Now κ n im ob st' a' w' → Q .normal a' w') :
    (Code.region id ops draw).wp P Q a w := by
  cases draw with
  | false => exact wp_region (exOps_wp hcall hlaw hd hK _ st a w hN hy)
  | true =>
    refine wp_region_any hm ?_
    have hN' : Now κ n im ob st a { w with drawn := w.drawn + 1 } := by
      obtain ⟨im', ob', g1, g2, H, g4⟩ := hN
      exact ⟨im', ob', g1, g2, H.drew, g4⟩
    have := any_wp hcall hlaw hd (hr rfl) hK (List.range ops.size) (Array.replicate ops.size false) st a _ (by simp) List.pairwise_lt_range (fun k => by
      rw [List.mem_range]
      constructor
      · intro hk; exact ⟨hk, by simp [hk]⟩
      · exact fun hk => hk.1) (fun k b _ hb hn => absurd (List.mem_range.2 hb) hn) hN' hy
    rwa [List.length_range] at this
end Go.AE
