/- compare and Order. -/
import Derived.Test.YtdpfbnefkemkiaaDoorGvValOwn
namespace Go.GW
open Go.AE

def cmpI (x y : Int) : Int := if x < y then -1 else if x > y then 1 else 0
theorem cmpI_ok (x y : Int) : cmp_Compare_int x y = some (cmpI x y) := by
  unfold cmp_Compare_int cmp_isNaN_int cmpI
  simp only [Option.bind_some, bne_self_eq_false, Bool.false_eq_true, if_false]
  split
  · rfl
  · split <;> rfl
theorem cmpI_ne {x y : Int} (h : ¬ x = y) : cmpI x y ≠ 0 := by
  unfold cmpI
  split
  · decide
  · split
    · decide
    · omega
theorem orI_loop : ∀ (l : List Int) (i : Nat), rangeL cmp_Or_int_l0 (fun () => Res.out ()) i l () = some (if fz l = 0 then (Res.out () : Res Unit Int) else Res.ret (fz l))
  | [], _ => by simp [rangeL, fz]
  | a :: l, i => by
    simp only [rangeL, cmp_Or_int_l0, fz]
    by_cases h : a = 0
    · simp only [h, not_true_eq_false, if_false, Option.bind_some, ne_eq]
      exact orI_loop l (i + 1)
    · simp [h]
theorem orI_ok {l : List Int} (h : l.length < 2 ^ 62) : cmp_Or_int (Sl.full l) = some (fz l) := by
  unfold cmp_Or_int
  rw [rangeS_eq (by simpa [Sl.list] using h)]
  show (rangeL cmp_Or_int_l0 (fun () => Res.out ()) 0 l ()).bind _ = _
  rw [orI_loop, Option.bind_some]
  split
  · rename_i h0; rw [h0]; rfl
  · rfl
/-- Two slices, element by element. -/
theorem cmp_loop {α : Type} {s1 s2 : Sl α} (rec : α → α → Option Int) (f : Int → α → Unit → Option (Step Unit (Res Unit Int)))
    (hf : ∀ i x, f i x () = if i ≥ (s2.list.length : Int) then some (Step.done (Res.ret 1)) else (s2.get? i).bind fun x3 => (rec x x3).bind fun c1 => if ¬ c1 = 0 then some (Step.done (Res.ret c1)) else some (Step.next ()))
    (h : ∀ x ∈ s1.list, ∀ y, ∃ n, rec x y = some n) : ∃ r, rangeL f (fun () => Res.out ()) 0 s1.list () = some r := by
  obtain ⟨r, h1, -⟩ := rangeL_inv2 (f := f) (fin := fun () => (Res.out () : Res Unit Int)) (l := s1.list) (v0 := ()) (fun _ _ => True) (fun _ => True) trivial (by
    intro i v hi _
    rw [hf]
    split
    · exact .inr ⟨_, rfl, trivial⟩
    · rename_i hlt
      obtain ⟨n, hn⟩ := h _ (List.getElem_mem hi) (s2.list[i]'(by omega))
      rw [get_ok (by omega), Option.bind_some, hn, Option.bind_some]
      split
      · exact .inr ⟨_, rfl, trivial⟩
      · exact .inl ⟨(), rfl, trivial⟩)
  exact ⟨r, h1⟩
theorem cmp_same {α : Type} {s1 s2 : Sl α} (rec rec' : α → α → Option Int) (f g : Int → α → Unit → Option (Step Unit (Res Unit Int)))
    (hf : ∀ i x, f i x () = if i ≥ (s2.list.length : Int) then some (Step.done (Res.ret 1)) else (s2.get? i).bind fun x3 => (rec x x3).bind fun c1 => if ¬ c1 = 0 then some (Step.done (Res.ret c1)) else some (Step.next ()))
    (hg : ∀ i x, g i x () = if i ≥ (s2.list.length : Int) then some (Step.done (Res.ret 1)) else (s2.get? i).bind fun x3 => (rec' x x3).bind fun c1 => if ¬ c1 = 0 then some (Step.done (Res.ret c1)) else some (Step.next ()))
    (h : ∀ x ∈ s1.list, ∀ y, rec x y = rec' x y) : rangeL f (fun () => Res.out ()) 0 s1.list () = rangeL g (fun () => Res.out ()) 0 s1.list () := by
  refine rangeL_congr fun i v hi => ?_
  rw [hf, hg]
  have e := h _ (List.getElem_mem hi)
  simp only [e]
theorem elim_some {r : Res Unit Int} {s1 s2 : Nat} : ∃ n, Res.elim (fun () => if (s1 : Int) < (s2 : Int) then some (-1) else some 0) some r = some (n : Int) := by
  cases r with
  | out v => simp only [Res.elim]; split <;> exact ⟨_, rfl⟩
  | ret n => exact ⟨n, rfl⟩
theorem order_ok : ∀ (d : Nat) (a b : api_Value), Fits d a → wt d a ≤ 100000000 → ∀ k, 3 * d ≤ k → ∃ n, gateref1_Order k a b = some n ∧ value_compare k a b = some n
  | 0, _, _, h, _, _, _ => h.elim
  | d + 1, a, b, h, hw, k, hk => by
    have hl := wt_ll (k := d) (v := a)
    have hml := wt_ml (k := d) (v := a)
    obtain ⟨k, rfl⟩ : ∃ j, k = j + 3 := ⟨k - 3, by omega⟩
    have hw1 : ∀ x ∈ a.List.list, wt d x ≤ 100000000 := fun x hx => by have := wt_l (k := d) hx; omega
    have hw2 : ∀ x ∈ a.Members.list, wt d x.Value ≤ 100000000 := fun x hx => by have := wt_m (k := d) hx; omega
    have ihL : ∀ x ∈ a.List.list, ∀ y, ∃ n, gateref1_Order (k + 1) x y = some n ∧ value_compare (k + 1) x y = some n := fun x hx y => order_ok d x y (h _ (kids_l hx)) (hw1 x hx) (k + 1) (by omega)
    have ihM : ∀ x ∈ a.Members.list, ∀ y, ∃ n, gateref1_Order_1 (k + 1) x y = some n ∧ value_compare_1 (k + 1) x y = some n := fun x hx y => by
      obtain ⟨n, h1, h2⟩ := order_ok d x.Value y.Value (h _ (kids_m hx)) (hw2 x hx) k (by omega)
      refine ⟨fz [Go.Lib.compareBytes x.Name y.Name, n], ?_, ?_⟩
      · rw [gateref1_Order_1, h1, Option.bind_some, orI_ok (by simp)]; rfl
      · rw [value_compare_1, h2, Option.bind_some, orI_ok (by simp)]; rfl
    obtain ⟨L, eL1, eL2⟩ : ∃ n, slices_CompareFunc_api_Value_api_Value_api_Value_api_Value__gateref1_Order (k + 2) a.List b.List = some n ∧ slices_CompareFunc_api_Value_api_Value_api_Value_api_Value__value_compare (k + 2) a.List b.List = some n := by
      have e1 := cmp_same (s1 := a.List) (s2 := b.List) (value_compare (k + 1)) (gateref1_Order (k + 1)) (slices_CompareFunc_api_Value_api_Value_api_Value_api_Value__value_compare_l0 (value_compare (k + 1)) b.List)
        (slices_CompareFunc_api_Value_api_Value_api_Value_api_Value__gateref1_Order_l0 (gateref1_Order (k + 1)) b.List) (fun i x => rfl) (fun i x => rfl) (fun x hx y => by obtain ⟨n, h1, h2⟩ := ihL x hx y; rw [h1, h2])
      obtain ⟨r, hr⟩ := cmp_loop (s1 := a.List) (s2 := b.List) (gateref1_Order (k + 1)) (slices_CompareFunc_api_Value_api_Value_api_Value_api_Value__gateref1_Order_l0 (gateref1_Order (k + 1)) b.List) (fun i x => rfl) (fun x hx y => by obtain ⟨n, h1, h2⟩ := ihL x hx y; exact ⟨n, h1⟩)
      obtain ⟨n, hn⟩ := elim_some (r := r) (s1 := a.List.list.length) (s2 := b.List.list.length)
      refine ⟨n, ?_, ?_⟩
      · rw [slices_CompareFunc_api_Value_api_Value_api_Value_api_Value__gateref1_Order, rangeS_eq (by omega), hr, Option.bind_some]; exact hn
      · rw [slices_CompareFunc_api_Value_api_Value_api_Value_api_Value__value_compare, rangeS_eq (by omega), e1, hr, Option.bind_some]; exact hn
    obtain ⟨M, eM1, eM2⟩ : ∃ n, slices_CompareFunc_api_Member_api_Member_api_Member_api_Member__gateref1_Order_1 (k + 2) a.Members b.Members = some n ∧ slices_CompareFunc_api_Member_api_Member_api_Member_api_Member__value_compare_1 (k + 2) a.Members b.Members = some n := by
      have e1 := cmp_same (s1 := a.Members) (s2 := b.Members) (value_compare_1 (k + 1)) (gateref1_Order_1 (k + 1)) (slices_CompareFunc_api_Member_api_Member_api_Member_api_Member__value_compare_1_l0 (value_compare_1 (k + 1)) b.Members)
        (slices_CompareFunc_api_Member_api_Member_api_Member_api_Member__gateref1_Order_1_l0 (gateref1_Order_1 (k + 1)) b.Members) (fun i x => rfl) (fun i x => rfl) (fun x hx y => by obtain ⟨n, h1, h2⟩ := ihM x hx y; rw [h1, h2])
      obtain ⟨r, hr⟩ := cmp_loop (s1 := a.Members) (s2 := b.Members) (gateref1_Order_1 (k + 1)) (slices_CompareFunc_api_Member_api_Member_api_Member_api_Member__gateref1_Order_1_l0 (gateref1_Order_1 (k + 1)) b.Members) (fun i x => rfl) (fun x hx y => by obtain ⟨n, h1, h2⟩ := ihM x hx y; exact ⟨n, h1⟩)
      obtain ⟨n, hn⟩ := elim_some (r := r) (s1 := a.Members.list.length) (s2 := b.Members.list.length)
      refine ⟨n, ?_, ?_⟩
      · rw [slices_CompareFunc_api_Member_api_Member_api_Member_api_Member__gateref1_Order_1, rangeS_eq (by omega), hr, Option.bind_some]; exact hn
      · rw [slices_CompareFunc_api_Member_api_Member_api_Member_api_Member__value_compare_1, rangeS_eq (by omega), e1, hr, Option.bind_some]; exact hn
    have hflag : ∀ p q : Bool, ∃ x y, value_flagNumber p = some x ∧ value_flagNumber q = some y ∧ w64 (x - y) = cmpI (if p then 1 else 0) (if q then 1 else 0) := by
      intro p q
      cases p <;> cases q <;> exact ⟨_, _, rfl, rfl, by decide⟩
    obtain ⟨x, y, f1, f2, f3⟩ := hflag a.Flag b.Flag
    have e1 : value_compare (k + 3) a b = (if ¬ fz [cmpI a.Kind b.Kind, w64 (x - y), cmpI a.Number b.Number, Go.Lib.compareBytes a.Words b.Words] = 0 then some (fz [cmpI a.Kind b.Kind, w64 (x - y), cmpI a.Number b.Number, Go.Lib.compareBytes a.Words b.Words]) else if ¬ L = 0 then some L else some M) := by
      rw [value_compare]
      simp only [cmpI_ok, f1, f2, Option.bind_some, orI_ok (show [cmpI a.Kind b.Kind, w64 (x - y), cmpI a.Number b.Number, Go.Lib.compareBytes a.Words b.Words].length < 2 ^ 62 by simp), eL2, eM2]
    have e2 : gateref1_Order (k + 3) a b = (if ¬ a.Kind = b.Kind then some (cmpI a.Kind b.Kind) else some (fz [cmpI (if a.Flag then 1 else 0) (if b.Flag then 1 else 0), cmpI a.Number b.Number, Go.Lib.compareBytes a.Words b.Words, L, M])) := by
      rw [gateref1_Order]
      simp only [cmpI_ok, Option.bind_some, eL1, eM1, orI_ok (show [cmpI (if a.Flag = true then 1 else 0) (if b.Flag = true then 1 else 0), cmpI a.Number b.Number, Go.Lib.compareBytes a.Words b.Words, L, M].length < 2 ^ 62 by simp)]
    rw [e1, e2, f3]
    generalize cmpI (if a.Flag then 1 else 0) (if b.Flag then 1 else 0) = p
    generalize cmpI a.Number b.Number = q
    generalize Go.Lib.compareBytes a.Words b.Words = r
    by_cases hkind : a.Kind = b.Kind
    · have h0 : cmpI a.Kind b.Kind = 0 := by unfold cmpI; rw [if_neg (by omega), if_neg (by omega)]
      rw [if_neg (fun hx => hx hkind), h0]
      refine ⟨_, rfl, ?_⟩
      simp only [fz]
      by_cases hp : p = 0
      · by_cases hq : q = 0
        · by_cases hr : r = 0
          · by_cases hL : L = 0
            · by_cases hM : M = 0
              · simp [hp, hq, hr, hL, hM]
              · simp [hp, hq, hr, hL, hM]
            · simp [hp, hq, hr, hL]
          · simp [hp, hq, hr]
        · simp [hp, hq]
      · simp [hp]
    · have h0 : cmpI a.Kind b.Kind ≠ 0 := cmpI_ne hkind
      rw [if_pos hkind]
      refine ⟨_, rfl, ?_⟩
      simp [fz, h0]
end Go.GW
