/- Check and ValueFault. -/
import Derived.Test.YtdpfbnefkemkiaaDoorGvValBase
namespace Go.GW
open Go.AE

theorem size_ok : ∀ (k : Nat) (v : api_Value), Fits k v → wt k v ≤ 100000000 → gateref1_sizeOf k v = some ((nodes k v : Int), (deepN k v : Int))
  | 0, _, h, _ => h.elim
  | k + 1, v, h, hw => by
    have hl := wt_ll (k := k) (v := v)
    have hm := wt_ml (k := k) (v := v)
    have hn := nodes_wt (k + 1) v
    rw [gateref1_sizeOf]
    obtain ⟨c, e1, hc⟩ := clone_ok (v := v.List) (by omega)
    rw [e1, Option.bind_some, rangeS_eq (by omega)]
    obtain ⟨c5, e2, h2⟩ := rangeL_inv (f := gateref1_sizeOf_l0) (fin := fun kids4 => kids4) (l := v.Members.list) (v0 := c) (fun i x => x.list = v.List.list ++ (v.Members.list.take i).map (·.Value)) (by simp [hc]) (by
      intro i x hi hx
      simp only [gateref1_sizeOf_l0]
      rw [slapp_ok (by rw [hx]; simp; omega) (by omega)]
      refine ⟨_, rfl, ?_⟩
      rw [slapp_list, hx, List.take_succ_eq_append_getElem hi, List.map_append, List.append_assoc]
      rfl)
    rw [e2, Option.bind_some]
    have hk : c5.list = kids v := by rw [h2]; simp [kids]
    have hkl : (kids v).length = v.List.list.length + v.Members.list.length := by simp [kids]
    rw [rangeN_eq (by rw [hk]; omega)]
    have hsum : nodes (k + 1) v = 1 + ((kids v).map (nodes k)).sum := rfl
    obtain ⟨⟨m2, d2⟩, e3, h3, h4⟩ := rangeL_inv (f := fun i _ v => gateref1_sizeOf_l1 (gateref1_sizeOf k) c5 i v) (fin := fun (many1, deep1) => (many1, deep1)) (l := List.range (c5.list.length : Int).toNat) (v0 := ((1 : Int), (0 : Int)))
      (fun i x => x.1 = ((1 + (((kids v).take i).map (nodes k)).sum : Nat) : Int) ∧ x.2 = (maxs (((kids v).take i).map (deepN k)) : Int)) ⟨by simp, by simp [maxs]⟩ (by
      rintro i ⟨m, d⟩ hi ⟨hm1, hd1⟩
      simp only at hm1 hd1
      have hi' : i < (kids v).length := by simpa [hk] using hi
      have hg : c5.get? (i : Int) = some (kids v)[i] := by
        have := get_ok (s := c5) (i := i) (by rw [hk]; exact hi')
        rw [this]; simp [hk]
      have hx : (kids v)[i] ∈ kids v := List.getElem_mem _
      have hwx : wt k (kids v)[i] ≤ wt (k + 1) v := by
        rcases List.mem_append.1 hx with h0 | h0
        · have := wt_l (k := k) h0; omega
        · obtain ⟨m, hm, he⟩ := List.mem_map.1 h0
          have := wt_m (k := k) hm
          rw [← he]; omega
      have ih := size_ok k _ (h _ hx) (by omega)
      simp only [gateref1_sizeOf_l1]
      rw [hg, Option.bind_some, ih, Option.bind_some]
      refine ⟨_, rfl, ?_, ?_⟩
      · simp only
        have h5 := take_sum (nodes k) (kids v) hi'
        have h6 := take_le (nodes k) (kids v) (i + 1)
        rw [hm1, w64_id (by omega) (by omega), h5]
        omega
      · simp only
        rw [hd1, take_maxs (deepN k) (kids v) hi']
        unfold imax
        split <;> omega)
    rw [e3, Option.bind_some]
    have hlen : (List.range (c5.list.length : Int).toNat).length = (kids v).length := by simp [hk]
    rw [hlen, List.take_length] at h3 h4
    simp only at h3 h4
    have h7 := deep_nodes (k + 1) v
    simp only [deepN] at h7 ⊢
    rw [h3, h4, w64_id (by omega) (by omega), hsum]
    simp only [Option.some.injEq, Prod.mk.injEq, true_and]
    omega

/-- What large says. -/
def LargeOk (f : value_counter → api_Value → Int → Option (Bool × value_counter)) (nd dp : api_Value → Nat) (v : api_Value) : Prop :=
  ∀ (m deep : Nat), m ≤ 5000 → deep ≤ 51 → ∃ b c, f ⟨m⟩ v deep = some (b, c) ∧ (b = true ↔ 5000 < m + nd v ∨ 51 < deep + dp v) ∧ (b = false → c = ⟨((m + nd v : Nat) : Int)⟩)
theorem large_loop {α : Type} (val : α → api_Value) {rec : value_counter → api_Value → Int → Option (Bool × value_counter)} {nd dp : api_Value → Nat} {deep : Nat} (hd : deep ≤ 50) (f : Int → α → value_counter → Option (Step value_counter (Res value_counter (Bool × value_counter))))
    (hf : ∀ i x c, f i x c = (rec c (val x) (w64 ((deep : Int) + 1))).bind fun (r, c') => if r = true then some (Step.done (Res.ret (true, c'))) else some (Step.next c')) :
    ∀ (l : List α) (i m : Nat), m ≤ 5000 → (∀ x ∈ l, LargeOk rec nd dp (val x)) →
      ∃ r, rangeL f (fun c => Res.out c) i l ⟨m⟩ = some r ∧ ((r = Res.out ⟨((m + (l.map fun x => nd (val x)).sum : Nat) : Int)⟩ ∧ m + (l.map fun x => nd (val x)).sum ≤ 5000 ∧ ∀ x ∈ l, deep + 1 + dp (val x) ≤ 51) ∨
        ((∃ c, r = Res.ret (true, c)) ∧ (5000 < m + (l.map fun x => nd (val x)).sum ∨ ∃ x ∈ l, 51 < deep + 1 + dp (val x))))
  | [], i, m, hm, _ => ⟨_, rfl, .inl ⟨by simp, by simpa using hm, by simp⟩⟩
  | x :: l, i, m, hm, h => by
    obtain ⟨b, c, e1, e2, e3⟩ := h x (by simp) m (deep + 1) hm (by omega)
    have ew : w64 ((deep : Int) + 1) = ((deep + 1 : Nat) : Int) := by rw [w64_id (by omega) (by omega)]; omega
    simp only [rangeL, hf, ew, e1, Option.bind_some]
    cases b with
    | true =>
      rw [if_pos rfl]
      refine ⟨_, rfl, .inr ⟨⟨c, rfl⟩, ?_⟩⟩
      simp only [List.map_cons, List.sum_cons, List.mem_cons, exists_eq_or_imp]
      rcases e2.1 rfl with h1 | h1
      · exact .inl (by omega)
      · exact .inr (.inl h1)
    | false =>
      rw [if_neg (by simp)]
      have hn : ¬ (5000 < m + nd (val x) ∨ 51 < deep + 1 + dp (val x)) := fun hc => by have := e2.2 hc; cases this
      obtain ⟨r, h1, h2⟩ := large_loop val hd f hf l (i + 1) (m + nd (val x)) (by omega) (fun y hy => h y (by simp [hy]))
      rw [e3 rfl]
      refine ⟨r, h1, ?_⟩
      simp only [List.map_cons, List.sum_cons, List.mem_cons, exists_eq_or_imp, forall_eq_or_imp]
      rcases h2 with ⟨h3, h4, h5⟩ | ⟨h3, h4⟩
      · exact .inl ⟨by rw [h3]; congr 3; omega, by omega, by omega, h5⟩
      · refine .inr ⟨h3, ?_⟩
        rcases h4 with h4 | h4
        · exact .inl (by omega)
        · exact .inr (.inr h4)
theorem large_ok : ∀ (k : Nat) (v : api_Value), Fits k v → wt k v ≤ 100000000 → LargeOk (value_counter_large k) (nodes k) (deepN k) v
  | 0, _, h, _ => h.elim
  | k + 1, v, h, hw => by
    intro m deep hm hd
    have hl := wt_ll (k := k) (v := v)
    have hml := wt_ml (k := k) (v := v)
    have hN : nodes (k + 1) v = 1 + ((v.List.list.map fun x => nodes k x).sum + (v.Members.list.map fun x => nodes k x.Value).sum) := by
      simp [nodes, kids, Function.comp_def]
    have hD : ∀ t, 51 < t + deepN (k + 1) v ↔ 50 < t ∨ (∃ x ∈ v.List.list, 51 < t + 1 + deepN k x) ∨ ∃ x ∈ v.Members.list, 51 < t + 1 + deepN k x.Value := by
      intro t
      have h1 : 51 < t + deepN (k + 1) v ↔ 50 < t ∨ 50 - t < maxs ((kids v).map (deepN k)) := by simp only [deepN]; omega
      rw [h1, maxs_gt]
      constructor
      · rintro (h | ⟨y, hy, hlt⟩)
        · exact .inl h
        · obtain ⟨x, hx, rfl⟩ := List.mem_map.1 hy
          by_cases ht : 50 < t
          · exact .inl ht
          · rcases List.mem_append.1 hx with h0 | h0
            · exact .inr (.inl ⟨x, h0, by omega⟩)
            · obtain ⟨q, hq, rfl⟩ := List.mem_map.1 h0
              exact .inr (.inr ⟨q, hq, by omega⟩)
      · rintro (h | ⟨x, hx, hlt⟩ | ⟨x, hx, hlt⟩)
        · exact .inl h
        · by_cases ht : 50 < t
          · exact .inl ht
          · exact .inr ⟨_, List.mem_map_of_mem (kids_l hx), by omega⟩
        · by_cases ht : 50 < t
          · exact .inl ht
          · exact .inr ⟨_, List.mem_map_of_mem (kids_m hx), by omega⟩
    rw [value_counter_large]
    have e1 : w64 ((⟨m⟩ : value_counter).many + 1) = ((m + 1 : Nat) : Int) := by rw [w64_id (by simp only; omega) (by simp only; omega)]; simp only; omega
    rw [e1]
    by_cases hc : 5000 < m + 1 ∨ 50 < deep
    · rw [if_pos (by simp only [Bool.or_eq_true, decide_eq_true_eq]; omega)]
      refine ⟨_, _, rfl, ?_, fun h => by cases h⟩
      simp only [true_iff, hD, hN]
      rcases hc with hc | hc
      · exact .inl (by omega)
      · exact .inr (.inl hc)
    · rw [if_neg (by simp only [Bool.or_eq_true, decide_eq_true_eq]; omega), rangeS_eq (by omega)]
      have hw1 : ∀ x ∈ v.List.list, wt k x ≤ 100000000 := fun x hx => by have := wt_l (k := k) hx; omega
      have hw2 : ∀ x ∈ v.Members.list, wt k x.Value ≤ 100000000 := fun x hx => by have := wt_m (k := k) hx; omega
      obtain ⟨r, e2, h2⟩ := large_loop (fun x => x) (nd := nodes k) (dp := deepN k) (deep := deep) (by omega) (value_counter_large_l0 (value_counter_large k) deep) (fun i x c => rfl) v.List.list 0 (m + 1) (by omega) (fun x hx => large_ok k x (h _ (kids_l hx)) (hw1 x hx))
      rw [e2, Option.bind_some]
      rcases h2 with ⟨rfl, h3, h4⟩ | ⟨⟨c, rfl⟩, h3⟩
      · simp only [Res.elim]
        rw [rangeS_eq (by omega)]
        obtain ⟨r, e3, h5⟩ := large_loop (fun x : api_Member => x.Value) (nd := nodes k) (dp := deepN k) (deep := deep) (by omega) (value_counter_large_l1 (value_counter_large k) deep) (fun i x c => rfl) v.Members.list 0 _ h3 (fun x hx => large_ok k x.Value (h _ (kids_m hx)) (hw2 x hx))
        rw [e3, Option.bind_some]
        rcases h5 with ⟨rfl, h6, h7⟩ | ⟨⟨c, rfl⟩, h6⟩
        · refine ⟨_, _, rfl, ?_, fun _ => ?_⟩
          · simp only [Bool.false_eq_true, false_iff, hD, hN]
            rintro (hx | hx | ⟨x, hx, hx2⟩ | ⟨x, hx, hx2⟩)
            · omega
            · omega
            · have := h4 x hx; omega
            · have := h7 x hx; omega
          · congr 2; omega
        · refine ⟨_, _, rfl, ?_, fun h => by cases h⟩
          simp only [true_iff, hD, hN]
          rcases h6 with h6 | h6
          · exact .inl (by omega)
          · exact .inr (.inr (.inr h6))
      · refine ⟨_, _, rfl, ?_, fun h => by cases h⟩
        simp only [true_iff, hD, hN]
        rcases h3 with h3 | h3
        · exact .inl (by omega)
        · exact .inr (.inr (.inl h3))
end Go.GW
