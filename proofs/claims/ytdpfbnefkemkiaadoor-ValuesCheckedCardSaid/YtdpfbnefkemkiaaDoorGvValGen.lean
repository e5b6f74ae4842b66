/- The values that a stream hands out. -/
import Derived.Test.YtdpfbnefkemkiaaDoorGvValWrite
namespace Go.GW
open Go.AE

def W : Nat → Nat
  | 0 => 232
  | n + 1 => 232 + 6 * W n
def Dr : Nat → Nat
  | 0 => 18
  | n + 1 => 18 + 6 * Dr n
/-- What stands in a value of depth n. -/
def Q : Nat → api_Value → Prop
  | 0, _ => False
  | n + 1, x => Fits (n + 1) x ∧ wt (n + 1) x ≤ W n
def Dp : Nat → Nat
  | 0 => 0
  | n + 1 => Dr n
theorem Dr_eq (n : Nat) : Dr n = 18 + 6 * Dp n := by cases n <;> rfl
theorem Q_fits : ∀ {n : Nat} {x : api_Value}, Q n x → Fits n x ∧ 232 + 6 * wt n x ≤ W n
  | 0, _, h => h.elim
  | n + 1, x, h => ⟨h.1, by have := h.2; simp only [W]; omega⟩
theorem W_ge (n : Nat) : 232 ≤ W n := by cases n <;> simp [W]
theorem someS_ok {s : gatemake_Stream} {k : Int} (l : List Str) (g : Good s k) (hl : 0 < l.length) (hl2 : l.length ≤ 1000) (hk : k ≤ 1000000000) : ∃ r s', gatemake_Stream_Some s (.full l) = some (r, s') ∧ r ∈ l ∧ Good s' (k + 1) := by
  unfold gatemake_Stream_Some
  simp only [Sl.list]
  obtain ⟨r, s', h3, h4, h5, h6⟩ := next_ok (l.length : Int) g (by omega) (by omega) hk
  rw [h3]
  simp only [Option.bind_some]
  obtain ⟨i, rfl⟩ : ∃ i : Nat, r = i := ⟨r.toNat, by omega⟩
  have hi : i < (Sl.full l).list.length := by simp [Sl.list]; omega
  rw [get_ok hi]
  exact ⟨_, _, rfl, List.getElem_mem _, h6⟩
theorem bind_of {α β : Type} {o : Option α} {x : α} {f : α → Option β} {r : β} (h : o = some x) (h2 : f x = some r) : o.bind f = some r := by rw [h]; exact h2
/-- Bounds of a value by those of what stands in it. -/
theorem bound_mk {n : Nat} {K N : Int} {F : Bool} {Ws : Str} {L : Sl api_Value} {M : Sl api_Member} (hw : Ws.length ≤ 5) (hL : ∀ x ∈ L.list, Q n x) (hl : L.list.length ≤ 3) (hM : ∀ m ∈ M.list, m.Name.length ≤ 3 ∧ Q n m.Value) (hm : M.list.length ≤ 6) (h0 : L.list = [] ∨ M.list = []) :
    Fits (n + 1) (api_Value.mk K F N Ws L M) ∧ wt (n + 1) (api_Value.mk K F N Ws L M) ≤ W n := by
  refine ⟨fun x hx => ?_, ?_⟩
  · rcases List.mem_append.1 hx with h | h
    · exact (Q_fits (hL x h)).1
    · obtain ⟨m, h2, rfl⟩ := List.mem_map.1 h
      exact (Q_fits (hM m h2).2).1
  · have hW := W_ge n
    show 30 + 6 * Ws.length + (L.list.map fun x => wt n x + 1).sum + (M.list.map fun m => 6 * m.Name.length + 4 + wt n m.Value).sum ≤ W n
    have e : ∀ p, p ≤ L.list.length * ((W n - 232) / 6 + 1) → (L.list.map fun x => wt n x + 1).sum ≤ L.list.length * ((W n - 232) / 6 + 1) := fun _ _ => sum_const (fun x hx => by have := (Q_fits (hL x hx)).2; omega)
    have e1 : (L.list.map fun x => wt n x + 1).sum ≤ L.list.length * ((W n - 232) / 6 + 1) := sum_const (fun x hx => by have := (Q_fits (hL x hx)).2; omega)
    have e2 : (M.list.map fun m => 6 * m.Name.length + 4 + wt n m.Value).sum ≤ M.list.length * ((W n - 232) / 6 + 22) := sum_const (fun m hm => by have := (Q_fits (hM m hm).2).2; have := (hM m hm).1; omega)
    have e3 : L.list.length * ((W n - 232) / 6 + 1) ≤ 3 * ((W n - 232) / 6 + 1) := Nat.mul_le_mul_right _ hl
    have e4 : M.list.length * ((W n - 232) / 6 + 22) ≤ 6 * ((W n - 232) / 6 + 22) := Nat.mul_le_mul_right _ hm
    rcases h0 with h0 | h0
    · rw [h0] at e1 ⊢
      simp only [List.map_nil, List.sum_nil]
      omega
    · rw [h0] at e2 ⊢
      simp only [List.map_nil, List.sum_nil]
      omega
theorem right_step (n : Nat) (ih : ∀ (j : Nat) (s : gatemake_Stream) (c : Int), n ≤ j → 0 < n → Good s c → c + Dp n ≤ 1000000000 → ∃ v s', gatemake_Stream_RightValue j s (w64 ((n : Int) - 1)) = some (v, s') ∧ Q n v ∧ Good s' (c + Dp n)) :
    ∀ (j : Nat) (s : gatemake_Stream) (c : Int), n + 1 ≤ j → Good s c → c + Dr n ≤ 1000000000 → ∃ v s', gatemake_Stream_RightValue j s (n : Int) = some (v, s') ∧ Fits (n + 1) v ∧ wt (n + 1) v ≤ W n ∧ Good s' (c + Dr n) := by
  intro j s c hj g hc
  have hD := Dr_eq n
  obtain ⟨j, rfl⟩ : ∃ i, j = i + 1 := ⟨j - 1, by omega⟩
  rw [gatemake_Stream_RightValue]
  obtain ⟨r10, s1, e1, -, g1⟩ := pick_ok [0, 1, 2, 2, 3, 3, 4, 5] g (by simp) (by simp) (by omega)
  rw [e1, Option.bind_some]
  simp only
  obtain ⟨s3, t17, e2, g3⟩ : ∃ s3 t17, (if (n : Int) > 0 then (gatemake_Stream_Flip s1 2).bind fun (r161, s_40) => some (s_40, r161) else some (s1, false) : Option (gatemake_Stream × Bool)) = some (s3, t17) ∧ Good s3 (c + 2) := by
    by_cases h0 : (n : Int) > 0
    · obtain ⟨b, s2, e2, g2⟩ := flip_ok 2 g1 (by omega) (by omega) (by omega)
      rw [if_pos h0, e2]
      exact ⟨_, _, rfl, g2.up (by omega)⟩
    · rw [if_neg h0]
      exact ⟨_, _, rfl, g1.up (by omega)⟩
  rw [e2, Option.bind_some]
  simp only
  obtain ⟨K, s5, e3, g5⟩ : ∃ K s5, (if t17 = true then (gatemake_Stream_Pick s3 (Sl.full [4, 5, 5] : Sl Int)).bind fun (r201, s_6) => some (s_6, (api_Value.mk r201 false 0 [] Sl.nil Sl.nil)) else some (s3, (api_Value.mk r10 false 0 [] Sl.nil Sl.nil)) : Option (gatemake_Stream × api_Value)) = some (s5, api_Value.mk K false 0 [] Sl.nil Sl.nil) ∧ Good s5 (c + 3) := by
    cases t17 with
    | true =>
      obtain ⟨b, s2, e2, -, g2⟩ := pick_ok [4, 5, 5] g3 (by simp) (by simp) (by omega)
      rw [if_pos rfl, e2]
      exact ⟨_, _, rfl, g2.up (by omega)⟩
    | false =>
      rw [if_neg (by simp)]
      exact ⟨_, _, rfl, g3.up (by omega)⟩
  rw [e3, Option.bind_some]
  simp only
  have triv : ∀ (K N : Int) (F : Bool) (Ws : Str) (s' : gatemake_Stream), Ws.length ≤ 5 → Good s' (c + Dr n) → ∃ v s'', some (api_Value.mk K F N Ws Sl.nil Sl.nil, s') = some (v, s'') ∧ Fits (n + 1) v ∧ wt (n + 1) v ≤ W n ∧ Good s'' (c + Dr n) := by
    intro K N F Ws s' hw g'
    obtain ⟨b1, b2⟩ := bound_mk (n := n) (K := K) (N := N) (F := F) (Ws := Ws) (L := Sl.nil) (M := Sl.nil) hw (by simp [Sl.list]) (by simp [Sl.list]) (by simp [Sl.list]) (by simp [Sl.list]) (.inl rfl)
    exact ⟨_, _, rfl, b1, b2, g'⟩
  by_cases k1 : K = 1
  · rw [if_pos (show (api_Value.mk K false 0 [] Sl.nil Sl.nil).Kind = 1 from k1)]
    obtain ⟨b, s2, e2, g2⟩ := flip_ok 2 g5 (by omega) (by omega) (by omega)
    rw [e2]
    exact triv _ _ _ [] _ (by simp) (g2.up (by omega))
  rw [if_neg (show ¬ (api_Value.mk K false 0 [] Sl.nil Sl.nil).Kind = 1 from k1)]
  by_cases k2 : K = 2
  · rw [if_pos (show (api_Value.mk K false 0 [] Sl.nil Sl.nil).Kind = 2 from k2)]
    obtain ⟨q, s2, e2, -, -, g2⟩ := next_ok 100 g5 (by omega) (by omega) (by omega)
    rw [e2, Option.bind_some]
    simp only
    obtain ⟨b, s6, e6, -, g6⟩ := pick_ok [0, 1, (-1), 5, 12, 1000000000000000, (-1000000000000000), q] g2 (by simp) (by simp) (by omega)
    rw [e6]
    exact triv _ _ _ [] _ (by simp) (g6.up (by omega))
  rw [if_neg (show ¬ (api_Value.mk K false 0 [] Sl.nil Sl.nil).Kind = 2 from k2)]
  by_cases k3 : K = 3
  · rw [if_pos (show (api_Value.mk K false 0 [] Sl.nil Sl.nil).Kind = 3 from k3)]
    obtain ⟨b, s6, e6, hb, g6⟩ := someS_ok [[], [97], [98], [97, 32, 98], [120, 34, 121, 92, 122], [195, 169, 10, 9], [1, 127], [49, 50], [45, 51], [65, 98, 44, 99, 68]] g5 (by simp) (by simp) (by omega)
    rw [e6]
    refine triv _ _ _ _ _ ?_ (g6.up (by omega))
    simp only [List.mem_cons, List.not_mem_nil, or_false] at hb
    rcases hb with rfl | rfl | rfl | rfl | rfl | rfl | rfl | rfl | rfl | rfl <;> simp
  rw [if_neg (show ¬ (api_Value.mk K false 0 [] Sl.nil Sl.nil).Kind = 3 from k3)]
  by_cases k4 : K = 4
  · rw [if_pos (show (api_Value.mk K false 0 [] Sl.nil Sl.nil).Kind = 4 from k4)]
    obtain ⟨q, s2, e2, hq0, hq4, g2⟩ := next_ok 4 g5 (by omega) (by omega) (by omega)
    rw [e2, Option.bind_some]
    simp only
    obtain ⟨q, rfl⟩ : ∃ m : Nat, q = m := ⟨q.toNat, by omega⟩
    rw [rangeN_eq (by omega)]
    obtain ⟨⟨s', v'⟩, e, hv, hgv⟩ := rangeL_inv (f := fun i _ v => gatemake_Stream_RightValue_l0 (gatemake_Stream_RightValue j) (n : Int) i v) (fin := fun (s_17, v_3) => (s_17, (api_Value.mk v_3.Kind v_3.Flag v_3.Number v_3.Words v_3.List Sl.nil))) (l := List.range (q : Int).toNat)
      (v0 := (s2, api_Value.mk K false 0 [] Sl.nil Sl.nil)) (fun i p => (p.2.Words = [] ∧ p.2.List.list.length ≤ i ∧ ∀ x ∈ p.2.List.list, Q n x) ∧ Good p.1 (c + 4 + i * Dp n)) ⟨⟨rfl, by simp [api_Value.List, Sl.list], by simp [api_Value.List, Sl.list]⟩, by simpa using g2.up (by omega)⟩ (by
      rintro i ⟨s, v⟩ hi ⟨⟨hw, hl, hx⟩, hg⟩
      simp only at hw hl hx hg
      have hi' : i < 3 ∨ i < 4 := .inr (by simp at hi; omega)
      have hi3 : i < q := by simpa using hi
      have hm : (i : Int) * Dp n ≤ 3 * Dp n := Int.mul_le_mul_of_nonneg_right (by omega) (by omega)
      simp only [gatemake_Stream_RightValue_l0]
      by_cases h0 : (n : Int) > 0
      · obtain ⟨x, s7, e7, hQ, g7⟩ := ih j s _ (by omega) (by omega) hg (by omega)
        rw [if_pos h0, e7, Option.bind_some]
        simp only
        rw [slapp_ok (by simp; omega) (by omega)]
        refine ⟨_, rfl, ⟨hw, ?_, ?_⟩, g7.up (by simp only [Int.natCast_add, Int.add_mul]; omega)⟩
        · show ((v.List).app [x]).list.length ≤ i + 1
          rw [slapp_list]; simp; omega
        · show ∀ y ∈ ((v.List).app [x]).list, Q n y
          rw [slapp_list]
          intro y hy
          rcases List.mem_append.1 hy with h | h
          · exact hx y h
          · simp only [List.mem_singleton] at h; subst h; exact hQ
      · rw [if_neg h0]
        exact ⟨_, rfl, ⟨hw, by show v.List.list.length ≤ i + 1; omega, hx⟩, hg.up (by simp only [Int.natCast_add, Int.add_mul]; omega)⟩)
    have hlen : (List.range (q : Int).toNat).length = q := by simp
    rw [hlen] at hv hgv
    simp only at hv hgv
    have hm : (q : Int) * Dp n ≤ 3 * Dp n := Int.mul_le_mul_of_nonneg_right (by omega) (by omega)
    obtain ⟨b1, b2⟩ := bound_mk (n := n) (K := v'.Kind) (N := v'.Number) (F := v'.Flag) (Ws := v'.Words) (L := v'.List) (M := Sl.nil) (by rw [hv.1]; simp) hv.2.2 (by have := hv.2.1; omega) (by simp [Sl.list]) (by simp [Sl.list]) (.inr rfl)
    exact ⟨_, _, bind_of e rfl, b1, b2, hgv.up (by omega)⟩
  rw [if_neg (show ¬ (api_Value.mk K false 0 [] Sl.nil Sl.nil).Kind = 4 from k4)]
  by_cases k5 : K = 5
  · rw [if_pos (show (api_Value.mk K false 0 [] Sl.nil Sl.nil).Kind = 5 from k5), rangeS_eq (by simp [Sl.list])]
    obtain ⟨⟨s', v'⟩, e, hv, hgv⟩ := rangeL_inv (f := gatemake_Stream_RightValue_l1 (gatemake_Stream_RightValue j) (n : Int)) (fin := fun (s_34, v_7) => (s_34, (api_Value.mk v_7.Kind v_7.Flag v_7.Number v_7.Words Sl.nil v_7.Members))) (l := (Sl.full [[], [97], [98], [99, 32, 100], [110], [115]] : Sl Str).list)
      (v0 := (s5, api_Value.mk K false 0 [] Sl.nil Sl.nil)) (fun i p => (p.2.Words = [] ∧ p.2.Members.list.length ≤ i ∧ ∀ m ∈ p.2.Members.list, m.Name.length ≤ 3 ∧ Q n m.Value) ∧ Good p.1 (c + 3 + i * (Dp n + 1))) ⟨⟨rfl, by simp [api_Value.Members, Sl.list], by simp [api_Value.Members, Sl.list]⟩, by simpa using g5⟩ (by
      rintro i ⟨s, v⟩ hi ⟨⟨hw, hl, hx⟩, hg⟩
      simp only at hw hl hx hg
      have hi3 : i < 6 := by simpa [Sl.list] using hi
      have hname : ((Sl.full [[], [97], [98], [99, 32, 100], [110], [115]] : Sl Str).list[i]).length ≤ 3 := by
        have h := List.getElem_mem hi
        generalize (Sl.full [[], [97], [98], [99, 32, 100], [110], [115]] : Sl Str).list[i] = y at h
        simp only [Sl.list, List.mem_cons, List.not_mem_nil, or_false] at h
        rcases h with rfl | rfl | rfl | rfl | rfl | rfl <;> simp
      generalize (Sl.full [[], [97], [98], [99, 32, 100], [110], [115]] : Sl Str).list[i] = nm at hname
      have hm : (i : Int) * (Dp n + 1) ≤ 5 * (Dp n + 1) := Int.mul_le_mul_of_nonneg_right (by omega) (by omega)
      simp only [gatemake_Stream_RightValue_l1]
      by_cases h0 : (n : Int) > 0
      · obtain ⟨b, s6, e6, g6⟩ := flip_ok 3 hg (by omega) (by omega) (by omega)
        rw [if_pos h0, e6]
        simp only [Option.bind_some]
        cases b with
        | true =>
          obtain ⟨x, s7, e7, hQ, g7⟩ := ih j s6 _ (by omega) (by omega) g6 (by omega)
          rw [if_pos rfl, e7, Option.bind_some]
          simp only
          rw [slapp_ok (by simp; omega) (by omega)]
          refine ⟨_, rfl, ⟨hw, ?_, ?_⟩, g7.up (by simp only [Int.natCast_add, Int.add_mul]; omega)⟩
          · show ((v.Members).app [api_Member.mk nm x]).list.length ≤ i + 1
            rw [slapp_list]; simp; omega
          · show ∀ y ∈ ((v.Members).app [api_Member.mk nm x]).list, y.Name.length ≤ 3 ∧ Q n y.Value
            rw [slapp_list]
            intro y hy
            rcases List.mem_append.1 hy with h | h
            · exact hx y h
            · simp only [List.mem_singleton] at h; subst h; exact ⟨hname, hQ⟩
        | false =>
          rw [if_neg (by simp)]
          exact ⟨_, rfl, ⟨hw, by show v.Members.list.length ≤ i + 1; omega, hx⟩, g6.up (by simp only [Int.natCast_add, Int.add_mul]; omega)⟩
      · rw [if_neg h0]
        simp only [Option.bind_some]
        rw [if_neg (by simp)]
        exact ⟨_, rfl, ⟨hw, by show v.Members.list.length ≤ i + 1; omega, hx⟩, hg.up (by simp only [Int.natCast_add, Int.add_mul]; omega)⟩)
    have hlen : (Sl.full [[], [97], [98], [99, 32, 100], [110], [115]] : Sl Str).list.length = 6 := rfl
    rw [hlen] at hv hgv
    simp only at hv hgv
    obtain ⟨b1, b2⟩ := bound_mk (n := n) (K := v'.Kind) (N := v'.Number) (F := v'.Flag) (Ws := v'.Words) (L := Sl.nil) (M := v'.Members) (by rw [hv.1]; simp) (by simp [Sl.list]) (by simp [Sl.list]) hv.2.2 hv.2.1 (.inl rfl)
    exact ⟨_, _, bind_of e rfl, b1, b2, hgv.up (by omega)⟩
  rw [if_neg (show ¬ (api_Value.mk K false 0 [] Sl.nil Sl.nil).Kind = 5 from k5)]
  exact triv _ _ _ [] _ (by simp) (g5.up (by omega))
theorem right_ok : ∀ (n j : Nat) (s : gatemake_Stream) (c : Int), n ≤ 100 → n + 1 ≤ j → Good s c → c + Dr n ≤ 1000000000 → ∃ v s', gatemake_Stream_RightValue j s (n : Int) = some (v, s') ∧ Fits (n + 1) v ∧ wt (n + 1) v ≤ W n ∧ Good s' (c + Dr n) := by
  intro n
  induction n with
  | zero => exact fun j s c _ => right_step 0 (fun j s c _ h => by omega) j s c
  | succ n ih => exact fun j s c hn => right_step (n + 1) (fun j s c hj _ hg hc => by
      have e : w64 (((n + 1 : Nat) : Int) - 1) = (n : Int) := by rw [w64_id (by omega) (by omega)]; omega
      rw [e]
      obtain ⟨v, s', h1, h2, h3, h4⟩ := ih j s c (by omega) (by omega) hg hc
      exact ⟨v, s', h1, ⟨h2, h3⟩, h4⟩) j s c
end Go.GW
