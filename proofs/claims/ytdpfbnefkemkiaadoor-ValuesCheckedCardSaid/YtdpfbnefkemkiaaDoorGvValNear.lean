/- Value and Near. -/
import Derived.Test.YtdpfbnefkemkiaaDoorGvValGen
namespace Go.GW
open Go.AE

theorem oddV_ok {s : gatemake_Stream} {k : Int} (lo hi : Int) (g : Good s k) (h0 : lo ≤ hi) (h1 : -576460752303423488 ≤ lo) (h2 : hi ≤ 576460752303423488) (hk : k ≤ 999999990) : ∃ r s', gatemake_Stream_Odd s lo hi = some (r, s') ∧ Good s' (k + 2) := by
  unfold gatemake_Stream_Odd
  obtain ⟨b, s1, e1, g1⟩ := flip_ok 12 g (by omega) (by omega) (by omega)
  rw [e1]
  simp only [Option.bind_some]
  cases b with
  | true =>
    rw [if_pos rfl]
    obtain ⟨r, s2, e2, hr, g2⟩ := pick_ok [w64 (lo - 1), w64 (hi + 1), lo, hi, -1099511627776, 1099511627776] g1 (by simp) (by simp) (by omega)
    rw [e2]
    exact ⟨r, s2, rfl, g2.up (by omega)⟩
  | false =>
    rw [if_neg (by simp)]
    obtain ⟨r, s2, e2, h3, h4, g2⟩ := range_ok lo hi g1 h0 (by omega) (by omega) (by omega)
    rw [e2]
    exact ⟨r, s2, rfl, g2.up (by omega)⟩
theorem repeat_ok {x : UInt8} {n : Nat} (h : n ≤ 100000) : ∃ r, repeat? [x] (n : Int) = some r ∧ r.length = n := by
  unfold repeat?
  rw [if_pos ⟨by omega, by omega, by simp; omega⟩]
  exact ⟨_, rfl, by rw [Go.Lib.repeatL_length]; simp⟩
theorem value_ok {n j : Nat} {s : gatemake_Stream} {c : Int} (hn : n ≤ 3) (hj : n + 1 ≤ j) (g : Good s c) (hc : c ≤ 900000000) : ∃ v s', gatemake_Stream_Value j s (n : Int) = some (v, s') ∧ Fits 60 v ∧ wt 60 v ≤ 100000 ∧ Good s' (c + 5000) := by
  have hW : W n ≤ 60100 := by
    rcases (show n = 0 ∨ n = 1 ∨ n = 2 ∨ n = 3 by omega) with rfl | rfl | rfl | rfl <;> decide
  have hD : Dr n ≤ 4700 := by
    rcases (show n = 0 ∨ n = 1 ∨ n = 2 ∨ n = 3 by omega) with rfl | rfl | rfl | rfl <;> decide
  unfold gatemake_Stream_Value
  obtain ⟨v, s1, e1, hF, hwt, g1⟩ := right_ok n j s c (by omega) hj g (by omega)
  rw [e1, Option.bind_some]
  simp only
  have done : ∀ (v' : api_Value) (s' : gatemake_Stream) (m : Nat), m ≤ 60 → Fits m v' → wt m v' ≤ 100000 → Good s' (c + 5000) → ∃ v s'', some (v', s') = some (v, s'') ∧ Fits 60 v ∧ wt 60 v ≤ 100000 ∧ Good s'' (c + 5000) := fun v' s' m hm hf hw hg => ⟨_, _, rfl, hf.up hm, by rw [wt_up hf hm]; exact hw, hg⟩
  obtain ⟨b, s2, e2, g2⟩ := flip_ok 25 g1 (by omega) (by omega) (by omega)
  rw [e2, Option.bind_some]
  simp only
  cases b with
  | false => rw [if_neg (by simp)]; exact done v s2 (n + 1) (by omega) hF (by omega) (g2.up (by omega))
  | true =>
    rw [if_pos rfl]
    obtain ⟨r, s3, e3, -, -, g3⟩ := next_ok 6 g2 (by omega) (by omega) (by omega)
    rw [e3, Option.bind_some]
    simp only
    by_cases r0 : r = 0
    · rw [if_pos r0]
      obtain ⟨q, s4, e4, g4⟩ := oddV_ok 0 5 g3 (by omega) (by omega) (by omega) (by omega)
      rw [e4, Option.bind_some]
      exact done _ _ (n + 1) (by omega) hF (by show wt (n + 1) v ≤ 100000; omega) (g4.up (by omega))
    rw [if_neg r0]
    by_cases r1 : r = 1
    · rw [if_pos r1]
      obtain ⟨q, s4, e4, g4⟩ := oddV_ok 0 1000000000000000 g3 (by omega) (by omega) (by omega) (by omega)
      rw [e4, Option.bind_some]
      exact done _ _ (n + 1) (by omega) hF (by show wt (n + 1) v ≤ 100000; omega) (g4.up (by omega))
    rw [if_neg r1]
    by_cases r2 : r = 2
    · rw [if_pos r2]
      obtain ⟨q1, e5, l5⟩ := repeat_ok (x := 119) (n := 5000) (by omega)
      obtain ⟨q2, e6, l6⟩ := repeat_ok (x := 119) (n := 5001) (by omega)
      obtain ⟨q, s4, e4, hq, g4⟩ := someS_ok [[255], q1, q2, [120]] g3 (by simp) (by simp) (by omega)
      have e5' : repeat? [119] 5000 = some q1 := e5
      have e6' : repeat? [119] 5001 = some q2 := e6
      rw [e5', Option.bind_some, e6', Option.bind_some, e4, Option.bind_some]
      have hql : q.length ≤ 5001 := by
        simp only [List.mem_cons, List.not_mem_nil, or_false] at hq
        rcases hq with rfl | rfl | rfl | rfl
        · simp
        · omega
        · omega
        · simp
      refine done _ _ (n + 1) (by omega) hF ?_ (g4.up (by omega))
      have hw2 : wt (n + 1) v = 30 + 6 * v.Words.length + (v.List.list.map fun x => wt n x + 1).sum + (v.Members.list.map fun m => 6 * m.Name.length + 4 + wt n m.Value).sum := rfl
      show 30 + 6 * q.length + (v.List.list.map fun x => wt n x + 1).sum + (v.Members.list.map fun m => 6 * m.Name.length + 4 + wt n m.Value).sum ≤ 100000
      omega
    rw [if_neg r2]
    have hl := wt_ll (k := n) (v := v)
    have hml := wt_ml (k := n) (v := v)
    have hw2 : wt (n + 1) v = 30 + 6 * v.Words.length + (v.List.list.map fun x => wt n x + 1).sum + (v.Members.list.map fun m => 6 * m.Name.length + 4 + wt n m.Value).sum := rfl
    by_cases r3 : r = 3
    · rw [if_pos r3]
      obtain ⟨x, ex, hx⟩ := cloneM_ok (v := v.Members) (by omega)
      obtain ⟨q1, e5, l5⟩ := repeat_ok (x := 110) (n := 101) (by omega)
      obtain ⟨q, s4, e4, hq, g4⟩ := someS_ok [[97], [255], q1] g3 (by simp) (by simp) (by omega)
      have e5' : repeat? [110] 101 = some q1 := e5
      rw [ex, Option.bind_some, e5', Option.bind_some, e4, Option.bind_some]
      simp only
      rw [slapp_ok (by rw [hx]; simp; omega) (by omega), Option.bind_some]
      have hql : q.length ≤ 101 := by
        simp only [List.mem_cons, List.not_mem_nil, or_false] at hq
        rcases hq with rfl | rfl | rfl
        · simp
        · simp
        · omega
      -- one level more, for what is appended
      have hF2 : Fits (n + 2) v := hF.up (by omega)
      have hw3 : wt (n + 2) v = wt (n + 1) v := wt_up hF (by omega)
      have hw4 : wt (n + 2) v = 30 + 6 * v.Words.length + (v.List.list.map fun x => wt (n + 1) x + 1).sum + (v.Members.list.map fun m => 6 * m.Name.length + 4 + wt (n + 1) m.Value).sum := rfl
      refine done _ _ (n + 2) (by omega) (fun y hy => ?_) ?_ (g4.up (by omega))
      · rcases List.mem_append.1 hy with h | h
        · exact hF2 y (kids_l h)
        · obtain ⟨m, h2, rfl⟩ := List.mem_map.1 h
          have h3 : m ∈ (x.app [api_Member.mk q (api_Value.mk 0 false 0 [] Sl.nil Sl.nil)]).list := h2
          rw [slapp_list, hx] at h3
          rcases List.mem_append.1 h3 with h4 | h4
          · exact hF2 _ (kids_m h4)
          · simp only [List.mem_singleton] at h4
            subst h4
            exact fun y hy => by simp [kids, api_Member.Value, api_Value.List, api_Value.Members, Sl.list] at hy
      · show 30 + 6 * v.Words.length + (v.List.list.map fun x => wt (n + 1) x + 1).sum + ((x.app [api_Member.mk q (api_Value.mk 0 false 0 [] Sl.nil Sl.nil)]).list.map fun m => 6 * m.Name.length + 4 + wt (n + 1) m.Value).sum ≤ 100000
        rw [slapp_list, hx, List.map_append, List.sum_append]
        have : ([api_Member.mk q (api_Value.mk 0 false 0 [] Sl.nil Sl.nil)].map fun m => 6 * m.Name.length + 4 + wt (n + 1) m.Value).sum = 6 * q.length + 34 := by
          simp [api_Member.Name, api_Member.Value, wt, api_Value.Words, api_Value.List, api_Value.Members, Sl.list]
        omega
    rw [if_neg r3]
    by_cases r4 : r = 4
    · rw [if_pos r4]
      obtain ⟨x, ex, hx⟩ := clone_ok (v := v.List) (by omega)
      rw [ex, Option.bind_some, slapp_ok (by rw [hx]; simp; omega) (by omega), Option.bind_some]
      have hF2 : Fits (n + 2) v := hF.up (by omega)
      have hw3 : wt (n + 2) v = wt (n + 1) v := wt_up hF (by omega)
      have hw4 : wt (n + 2) v = 30 + 6 * v.Words.length + (v.List.list.map fun x => wt (n + 1) x + 1).sum + (v.Members.list.map fun m => 6 * m.Name.length + 4 + wt (n + 1) m.Value).sum := rfl
      refine done _ _ (n + 2) (by omega) (fun y hy => ?_) ?_ (g3.up (by omega))
      · rcases List.mem_append.1 hy with h | h
        · have h3 : y ∈ (x.app [api_Value.mk 9 false 0 [] Sl.nil Sl.nil]).list := h
          rw [slapp_list, hx] at h3
          rcases List.mem_append.1 h3 with h4 | h4
          · exact hF2 _ (kids_l h4)
          · simp only [List.mem_singleton] at h4
            subst h4
            exact fun y hy => by simp [kids, api_Value.List, api_Value.Members, Sl.list] at hy
        · obtain ⟨m, h2, rfl⟩ := List.mem_map.1 h
          exact hF2 _ (kids_m (v := v) h2)
      · show 30 + 6 * v.Words.length + ((x.app [api_Value.mk 9 false 0 [] Sl.nil Sl.nil]).list.map fun x => wt (n + 1) x + 1).sum + (v.Members.list.map fun m => 6 * m.Name.length + 4 + wt (n + 1) m.Value).sum ≤ 100000
        rw [slapp_list, hx, List.map_append, List.sum_append]
        have : ([api_Value.mk 9 false 0 [] Sl.nil Sl.nil].map fun x => wt (n + 1) x + 1).sum = 31 := by
          simp [wt, api_Value.Words, api_Value.List, api_Value.Members, Sl.list]
        omega
    rw [if_neg r4]
    obtain ⟨q, s4, e4, hq, g4⟩ := pick_ok [48, 49, 50] g3 (by simp) (by simp) (by omega)
    rw [e4, Option.bind_some]
    simp only
    have hq50 : 0 ≤ q ∧ q ≤ 50 := by simp only [List.mem_cons, List.not_mem_nil, or_false] at hq; omega
    rw [rangeN_eq (by omega)]
    obtain ⟨v', e, hf', hw'⟩ := rangeL_inv (f := fun i _ v => gatemake_Stream_Value_l0 i v) (fin := fun v_1 => v_1) (l := List.range q.toNat) (v0 := v) (fun i x => Fits (n + 1 + i) x ∧ wt (n + 1 + i) x ≤ 60100 + 31 * i) ⟨hF, by simpa using by omega⟩ (by
      rintro i x hi ⟨h1, h2⟩
      refine ⟨_, rfl, fun y hy => ?_, ?_⟩
      · have : y = x := by simpa [kids, api_Value.List, api_Value.Members, Sl.list] using hy
        subst this
        exact h1
      · show 30 + 6 * ([] : Str).length + ([x].map fun x => wt (n + 1 + i) x + 1).sum + (([] : List api_Member).map fun m => 6 * m.Name.length + 4 + wt (n + 1 + i) m.Value).sum ≤ _
        simp only [List.length_nil, List.map_cons, List.map_nil, List.sum_cons, List.sum_nil]
        omega)
    rw [List.length_range] at hf' hw'
    obtain ⟨v2, s5, e5, h5⟩ := done v' s4 (n + 1 + q.toNat) (by omega) hf' (by omega) (g4.up (by omega))
    exact ⟨v2, s5, bind_of e e5, h5⟩
/-- Two lists, place by place. -/
theorem sum_two {α β : Type} {f : α → Nat} {g : β → Nat} : ∀ {l : List α} {m : List β}, l.length = m.length → (∀ (i : Nat) x y, l[i]? = some x → m[i]? = some y → f x ≤ g y) → (l.map f).sum ≤ (m.map g).sum
  | [], [], _, _ => Nat.le_refl _
  | [], _ :: _, h, _ => by simp at h
  | _ :: _, [], h, _ => by simp at h
  | x :: l, y :: m, h, hx => by
    simp only [List.map_cons, List.sum_cons]
    exact Nat.add_le_add (hx 0 x y rfl rfl) (sum_two (by simpa using h) (fun i x y h1 h2 => hx (i + 1) x y (by simpa using h1) (by simpa using h2)))
theorem bindE {α β γ : Type} {o : Option α} {x : α} {f : α → Option (β × γ)} {R : β → γ → Prop} (h : o = some x) (h2 : ∃ v s, f x = some (v, s) ∧ R v s) : ∃ v s, o.bind f = some (v, s) ∧ R v s := by rw [h]; exact h2
theorem sub_take {α : Type} {s : Sl α} {n : Nat} (h : n ≤ s.list.length) (h0 : 0 < s.list.length) : ∃ r, s.sub? 0 (n : Int) = some r ∧ r.list = s.list.take n := by
  cases s with
  | nil => simp [Sl.list] at h0
  | ez => simp [Sl.list] at h0
  | full l =>
    simp only [Sl.list] at h
    refine ⟨.full (l.take n), ?_, rfl⟩
    unfold Sl.sub?
    simp only
    rw [if_pos ⟨by omega, by omega, by omega⟩]
    simp
theorem sum_100 {α : Type} (f : α → Nat) : ∀ l : List α, (l.map fun x => 100 * f x + 100).sum = 100 * (l.map fun x => f x + 1).sum
  | [] => rfl
  | x :: l => by simp only [List.map_cons, List.sum_cons]; rw [sum_100 f l]; omega
theorem sum_400 {α : Type} (f : α → Nat) : ∀ l : List α, (l.map fun x => 400 * f x + 1).sum ≤ 400 * (l.map fun x => f x + 1).sum
  | [] => Nat.le_refl _
  | x :: l => by simp only [List.map_cons, List.sum_cons]; have := sum_400 f l; omega
theorem sum_100m {α : Type} (f g : α → Nat) : ∀ l : List α, (l.map fun x => 100 * f x + 100).sum ≤ 100 * (l.map fun x => 6 * g x + 4 + f x).sum
  | [] => Nat.le_refl _
  | x :: l => by simp only [List.map_cons, List.sum_cons]; have := sum_100m f g l; omega
theorem sum_400m {α : Type} (f g : α → Nat) : ∀ l : List α, (l.map fun x => 6 * g x + 4 + 400 * f x).sum ≤ 400 * (l.map fun x => 6 * g x + 4 + f x).sum
  | [] => Nat.le_refl _
  | x :: l => by simp only [List.map_cons, List.sum_cons]; have := sum_400m f g l; omega
end Go.GW
