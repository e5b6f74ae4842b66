/- Values: how deep they are, how heavy. -/
import Derived.Test.YtdpfbnefkemkiaaDoorGvStream
namespace Go.GW
open Go.AE

/-- What stands in a value. -/
def kids (v : api_Value) : List api_Value := v.List.list ++ v.Members.list.map (·.Value)
theorem kids_l {v : api_Value} {x : api_Value} (h : x ∈ v.List.list) : x ∈ kids v := List.mem_append_left _ h
theorem kids_m {v : api_Value} {m : api_Member} (h : m ∈ v.Members.list) : m.Value ∈ kids v := List.mem_append_right _ (List.mem_map_of_mem h)
/-- The fuel suffices. -/
def Fits : Nat → api_Value → Prop
  | 0, _ => False
  | k + 1, v => ∀ x ∈ kids v, Fits k x
def wt : Nat → api_Value → Nat
  | 0, _ => 0
  | k + 1, v => 30 + 6 * v.Words.length + (v.List.list.map fun x => wt k x + 1).sum + (v.Members.list.map fun m => 6 * m.Name.length + 4 + wt k m.Value).sum
theorem Fits.up : ∀ {k k' : Nat} {v : api_Value}, Fits k v → k ≤ k' → Fits k' v
  | 0, _, _, h, _ => h.elim
  | k + 1, 0, _, _, h => by omega
  | k + 1, k' + 1, v, h, hk => fun x hx => (h x hx).up (by omega)
theorem sum_congr {α : Type} {f g : α → Nat} : ∀ {l : List α}, (∀ x ∈ l, f x = g x) → (l.map f).sum = (l.map g).sum
  | [], _ => rfl
  | x :: l, h => by simp only [List.map_cons, List.sum_cons]; rw [h x (by simp), sum_congr (fun y hy => h y (by simp [hy]))]
theorem sum_le {α : Type} {f g : α → Nat} : ∀ {l : List α}, (∀ x ∈ l, f x ≤ g x) → (l.map f).sum ≤ (l.map g).sum
  | [], _ => Nat.le_refl _
  | x :: l, h => by simp only [List.map_cons, List.sum_cons]; exact Nat.add_le_add (h x (by simp)) (sum_le (fun y hy => h y (by simp [hy])))
theorem sum_mem {α : Type} {f : α → Nat} : ∀ {l : List α} {x : α}, x ∈ l → f x ≤ (l.map f).sum
  | y :: l, x, h => by
    simp only [List.map_cons, List.sum_cons]
    rcases List.mem_cons.1 h with rfl | h
    · omega
    · have := sum_mem (f := f) h; omega
theorem sum_const {α : Type} {f : α → Nat} {c : Nat} : ∀ {l : List α}, (∀ x ∈ l, f x ≤ c) → (l.map f).sum ≤ l.length * c
  | [], _ => by simp
  | x :: l, h => by
    simp only [List.map_cons, List.sum_cons, List.length_cons, Nat.succ_mul]
    have := h x (by simp)
    have := sum_const (l := l) (f := f) (c := c) (fun y hy => h y (by simp [hy]))
    omega
theorem sum_len {α : Type} {f : α → Nat} (hf : ∀ x, 1 ≤ f x) : ∀ l : List α, l.length ≤ (l.map f).sum
  | [] => by simp
  | x :: l => by simp only [List.map_cons, List.sum_cons, List.length_cons]; have := hf x; have := sum_len hf l; omega
theorem wt_up : ∀ {k k' : Nat} {v : api_Value}, Fits k v → k ≤ k' → wt k' v = wt k v
  | 0, _, _, h, _ => h.elim
  | k + 1, 0, _, _, h => by omega
  | k + 1, k' + 1, v, h, hk => by
    simp only [wt]
    rw [sum_congr (f := fun x => wt k' x + 1) (g := fun x => wt k x + 1) (fun x hx => by rw [wt_up (h x (kids_l hx)) (by omega)]),
      sum_congr (f := fun m : api_Member => 6 * m.Name.length + 4 + wt k' m.Value) (g := fun m => 6 * m.Name.length + 4 + wt k m.Value) (fun m hm => by rw [wt_up (h _ (kids_m hm)) (by omega)])]
/-- How many values, how deep. -/
def nodes : Nat → api_Value → Nat
  | 0, _ => 0
  | k + 1, v => 1 + ((kids v).map (nodes k)).sum
def maxs (l : List Nat) : Nat := l.foldr max 0
def deepN : Nat → api_Value → Nat
  | 0, _ => 0
  | k + 1, v => 1 + maxs ((kids v).map (deepN k))
theorem wt_l {k : Nat} {v x : api_Value} (h : x ∈ v.List.list) : wt k x + 31 ≤ wt (k + 1) v := by
  simp only [wt]
  have := sum_mem (f := fun x => wt k x + 1) h
  omega
theorem wt_m {k : Nat} {v : api_Value} {m : api_Member} (h : m ∈ v.Members.list) : wt k m.Value + 6 * m.Name.length + 34 ≤ wt (k + 1) v := by
  simp only [wt]
  have := sum_mem (f := fun m : api_Member => 6 * m.Name.length + 4 + wt k m.Value) h
  omega
theorem wt_ll {k : Nat} {v : api_Value} : v.List.list.length + 30 ≤ wt (k + 1) v := by
  simp only [wt]
  have := sum_len (f := fun x => wt k x + 1) (fun x => by omega) v.List.list
  omega
theorem wt_ml {k : Nat} {v : api_Value} : v.Members.list.length + 30 ≤ wt (k + 1) v := by
  simp only [wt]
  have := sum_len (f := fun m : api_Member => 6 * m.Name.length + 4 + wt k m.Value) (fun x => by omega) v.Members.list
  omega
theorem wt_w {k : Nat} {v : api_Value} : 6 * v.Words.length + 30 ≤ wt (k + 1) v := by
  simp only [wt]; omega
theorem nodes_wt : ∀ (k : Nat) (v : api_Value), nodes k v ≤ wt k v
  | 0, _ => Nat.le_refl _
  | k + 1, v => by
    simp only [nodes, wt, kids, List.map_append, List.sum_append, List.map_map, Function.comp_def]
    have h1 := sum_le (l := v.List.list) (f := nodes k) (g := fun x => wt k x + 1) (fun x _ => by have := nodes_wt k x; omega)
    have h2 := sum_le (l := v.Members.list) (f := fun m => nodes k m.Value) (g := fun m => 6 * m.Name.length + 4 + wt k m.Value) (fun m _ => by have := nodes_wt k m.Value; omega)
    omega
theorem maxs_app (l : List Nat) (x : Nat) : maxs (l ++ [x]) = max (maxs l) x := by
  induction l with
  | nil => simp [maxs]
  | cons y l ih => simp only [maxs, List.cons_append, List.foldr_cons] at ih ⊢; rw [ih]; omega
theorem maxs_le {l : List Nat} {n : Nat} (h : ∀ x ∈ l, x ≤ n) : maxs l ≤ n := by
  induction l with
  | nil => simp [maxs]
  | cons y l ih =>
    have h1 := h y (by simp)
    have h2 := ih (fun x hx => h x (by simp [hx]))
    simp only [maxs, List.foldr_cons] at h2 ⊢
    omega
theorem maxs_gt {l : List Nat} {n : Nat} : n < maxs l ↔ ∃ x ∈ l, n < x := by
  induction l with
  | nil => simp [maxs]
  | cons y l ih =>
    simp only [maxs, List.foldr_cons, List.mem_cons, exists_eq_or_imp] at ih ⊢
    rw [← ih]
    omega
theorem deep_nodes : ∀ (k : Nat) (v : api_Value), deepN k v ≤ nodes k v
  | 0, _ => Nat.le_refl _
  | k + 1, v => by
    simp only [nodes, deepN]
    refine Nat.add_le_add_left (maxs_le fun x hx => ?_) 1
    obtain ⟨y, hy, rfl⟩ := List.mem_map.1 hx
    exact Nat.le_trans (deep_nodes k y) (sum_mem hy)
theorem clone_ok {v : Sl api_Value} (h : v.list.length ≤ 1000000000) : ∃ r, slices_Clone_api_Value_api_Value v = some r ∧ r.list = v.list := by
  unfold slices_Clone_api_Value_api_Value
  cases v with
  | nil => exact ⟨_, rfl, rfl⟩
  | ez => rw [if_neg (by simp [Sl.isNil])]; exact ⟨_, rfl, rfl⟩
  | full l =>
    rw [if_neg (by simp [Sl.isNil]), slapp_ok (by simpa [Sl.list] using h) (by omega)]
    exact ⟨_, rfl, by rw [slapp_list]; simp [Sl.list]⟩
theorem cloneM_ok {v : Sl api_Member} (h : v.list.length ≤ 1000000000) : ∃ r, slices_Clone_api_Member_api_Member v = some r ∧ r.list = v.list := by
  unfold slices_Clone_api_Member_api_Member
  cases v with
  | nil => exact ⟨_, rfl, rfl⟩
  | ez => rw [if_neg (by simp [Sl.isNil])]; exact ⟨_, rfl, rfl⟩
  | full l =>
    rw [if_neg (by simp [Sl.isNil]), slapp_ok (by simpa [Sl.list] using h) (by omega)]
    exact ⟨_, rfl, by rw [slapp_list]; simp [Sl.list]⟩
theorem take_sum {α : Type} (f : α → Nat) (l : List α) {i : Nat} (hi : i < l.length) : ((l.take (i + 1)).map f).sum = ((l.take i).map f).sum + f l[i] := by
  rw [List.take_succ_eq_append_getElem hi, List.map_append, List.sum_append]; simp only [List.map_cons, List.map_nil, List.sum_cons, List.sum_nil, Nat.add_zero]
theorem take_maxs {α : Type} (f : α → Nat) (l : List α) {i : Nat} (hi : i < l.length) : maxs ((l.take (i + 1)).map f) = max (maxs ((l.take i).map f)) (f l[i]) := by
  rw [List.take_succ_eq_append_getElem hi, List.map_append]; exact maxs_app _ _
theorem take_le {α : Type} (f : α → Nat) (l : List α) (i : Nat) : ((l.take i).map f).sum ≤ (l.map f).sum := by
  have : (l.map f).sum = ((l.take i).map f).sum + ((l.drop i).map f).sum := by rw [← List.sum_append, ← List.map_append, List.take_append_drop]
  omega
end Go.GW
