/- A value's own faults, and those in it. -/
import Derived.Test.YtdpfbnefkemkiaaDoorGvValFault
namespace Go.GW
open Go.AE

def nameF (s : Str) : Int := if (s.length : Int) > 100 then 2 else if Go.Lib.validD s then 0 else 3
theorem valid_ok {s : Str} (h : s.length ≤ 1000000000) : valid? s = some (Go.Lib.validD s) := by unfold valid?; rw [if_pos (by omega)]
theorem name_ok {s : Str} (h : s.length ≤ 1000000000) : value_nameFault s = some (nameF s) := by
  unfold value_nameFault nameF
  split
  · rfl
  · rw [valid_ok h]
    cases Go.Lib.validD s <;> rfl
theorem nameR_ok {s : Str} (h : s.length ≤ 1000000000) : gateref1_nameFault s = some (nameF s) := by
  unfold gateref1_nameFault nameF
  split
  · rfl
  · rw [valid_ok h]
    cases Go.Lib.validD s <;> rfl
/-- What is wrong at place i of some names. -/
def nameT (l : List Str) (i : Nat) (s : Str) : Option Int :=
  if nameF s ≠ 0 then some (nameF s) else if i > 0 ∧ (l[i - 1]?).any (fun p => sle s p) = true then some 7 else none
def nameL (l : List Str) : Option Int := firstSome (nameT l) 0 l
theorem firstSome_map {α β γ δ : Type} (t : Nat → β → Option γ) (g : α → β) (h : γ → δ) : ∀ (k : Nat) (l : List α), firstSome (fun i x => (t i (g x)).map h) k l = (firstSome t k (l.map g)).map h
  | _, [] => rfl
  | k, x :: l => by
    simp only [firstSome, List.map_cons]
    cases t k (g x) with
    | some b => rfl
    | none => exact firstSome_map t g h (k + 1) l
theorem namesV_ok {v : api_Value} (hl : v.Members.list.length ≤ 1000000000) (hn : ∀ m ∈ v.Members.list, m.Name.length ≤ 1000000000) :
    rangeS (value_fault_l0 v) (fun () => Res.out ()) v.Members () = some (((nameL (v.Members.list.map (·.Name))).map Res.ret).getD (Res.out ())) := by
  rw [rangeS_eq (by omega)]
  have := rangeL_find (k := 0) (l := v.Members.list) (fin := fun () => (Res.out () : Res Unit Int)) (f := value_fault_l0 v) (fun i x => (nameT (v.Members.list.map (·.Name)) i x.Name).map Res.ret) (by
    intro i hi
    have hx := hn _ (List.getElem_mem hi)
    simp only [value_fault_l0, Nat.zero_add]
    rw [name_ok hx, Option.bind_some]
    unfold nameT
    by_cases h0 : nameF v.Members.list[i].Name = 0
    · rw [if_neg (show ¬ ¬ nameF v.Members.list[i].Name = 0 from fun hx => hx h0), if_neg (show ¬ nameF v.Members.list[i].Name ≠ 0 from fun hx => hx h0)]
      by_cases hi0 : (i : Int) > 0
      · rw [if_pos hi0]
        have e : w64 ((i : Int) - 1) = ((i - 1 : Nat) : Int) := by rw [w64_id (by omega) (by omega)]; omega
        have hg := get_ok (s := v.Members) (i := i - 1) (by omega)
        have he : (v.Members.list.map (·.Name))[i - 1]? = some (v.Members.list[i - 1]'(by omega)).Name := by simp [show i - 1 < v.Members.list.length by omega]
        rw [e, hg, Option.bind_some, he]
        simp only [Option.bind_some, Option.any_some]
        by_cases hs : sle v.Members.list[i].Name (v.Members.list[i - 1]'(by omega)).Name = true
        · rw [if_pos hs, if_pos ⟨by omega, hs⟩]; rfl
        · rw [if_neg hs, if_neg (fun hx => hs hx.2)]; rfl
      · rw [if_neg hi0, if_neg (by omega)]
        rfl
    · rw [if_pos (show ¬ nameF v.Members.list[i].Name = 0 from h0), if_pos (show nameF v.Members.list[i].Name ≠ 0 from h0)]
      rfl)
  rw [this, firstSome_map]
  rfl
theorem namesR_ok {x : Sl Str} (hl : x.list.length ≤ 1000000000) (hn : ∀ m ∈ x.list, m.length ≤ 1000000000) : gateref1_namesFault x = some ((nameL x.list).getD 0) := by
  unfold gateref1_namesFault
  rw [rangeS_eq (by omega)]
  have := rangeL_find (k := 0) (l := x.list) (fin := fun () => (Res.out () : Res Unit Int)) (f := gateref1_namesFault_l0 x) (fun i s => (nameT x.list i s).map Res.ret) (by
    intro i hi
    have hx := hn _ (List.getElem_mem hi)
    simp only [gateref1_namesFault_l0, Nat.zero_add]
    rw [nameR_ok hx, Option.bind_some]
    unfold nameT
    by_cases h0 : nameF x.list[i] = 0
    · rw [if_neg (show ¬ ¬ nameF x.list[i] = 0 from fun hx => hx h0), if_neg (show ¬ nameF x.list[i] ≠ 0 from fun hx => hx h0)]
      by_cases hi0 : (i : Int) > 0
      · rw [if_pos hi0]
        have e : w64 ((i : Int) - 1) = ((i - 1 : Nat) : Int) := by rw [w64_id (by omega) (by omega)]; omega
        have hg := get_ok (s := x) (i := i - 1) (by omega)
        have he : x.list[i - 1]? = some (x.list[i - 1]'(by omega)) := by simp [show i - 1 < x.list.length by omega]
        rw [e, hg, Option.bind_some, he]
        simp only [Option.bind_some, Option.any_some]
        by_cases hs : sle x.list[i] (x.list[i - 1]'(by omega)) = true
        · rw [if_pos hs, if_pos ⟨by omega, hs⟩]; rfl
        · rw [if_neg hs, if_neg (fun hx => hs hx.2)]; rfl
      · rw [if_neg hi0, if_neg (by omega)]
        rfl
    · rw [if_pos (show ¬ nameF x.list[i] = 0 from h0), if_pos (show nameF x.list[i] ≠ 0 from h0)]
      rfl)
  have h2 := firstSome_map (nameT x.list) (fun s : Str => s) (Res.ret : Int → Res Unit Int) 0 x.list
  rw [List.map_id'] at h2
  rw [this, h2, Option.bind_some]
  unfold nameL
  cases firstSome (nameT x.list) 0 x.list <;> rfl

def okB (v : api_Value) : Bool := !(v.Flag && v.Kind != 1) && !(v.Number != 0 && v.Kind != 2) && !(v.Words != [] && v.Kind != 3) && !(decide ((v.List.list.length : Int) > 0) && v.Kind != 4) && !(decide ((v.Members.list.length : Int) > 0) && v.Kind != 5)
theorem idle_ok (v : api_Value) : value_idle v = some (okB v) := by
  unfold value_idle okB
  have e1 : ∀ n : Nat, ((n : Int) == 0) = !decide ((n : Int) > 0) := fun n => by cases n <;> simp; omega
  rw [e1, e1]
  generalize decide ((v.List.list.length : Int) > 0) = a
  generalize decide ((v.Members.list.length : Int) > 0) = b
  simp only [bne, Bool.not_and, Bool.not_not, Option.some.injEq]
  generalize (v.Kind == 1) = k1
  generalize (v.Kind == 2) = k2
  generalize (v.Kind == 3) = k3
  generalize (v.Kind == 4) = k4
  generalize (v.Kind == 5) = k5
  simp only [Bool.or_comm]
theorem used_ok (v : api_Value) : rangeS (gateref1_ownFault_l0 v) (fun () => Res.out ()) (Sl.full [v.Flag, v.Number != 0, v.Words != [], decide ((v.List.list.length : Int) > 0), decide ((v.Members.list.length : Int) > 0)] : Sl Bool) () = some (if okB v = true then (Res.out () : Res Unit Int) else Res.ret 3) := by
  rw [rangeS_eq (by simp [Sl.list])]
  have e1 : w64 (((0 : Nat) : Int) + 1) = 1 := by decide
  have e2 : w64 (((0 + 1 : Nat) : Int) + 1) = 2 := by decide
  have e3 : w64 (((0 + 1 + 1 : Nat) : Int) + 1) = 3 := by decide
  have e4 : w64 (((0 + 1 + 1 + 1 : Nat) : Int) + 1) = 4 := by decide
  have e5 : w64 (((0 + 1 + 1 + 1 + 1 : Nat) : Int) + 1) = 5 := by decide
  show rangeL (gateref1_ownFault_l0 v) (fun () => Res.out ()) 0 [v.Flag, v.Number != 0, v.Words != [], decide ((v.List.list.length : Int) > 0), decide ((v.Members.list.length : Int) > 0)] () = _
  simp only [rangeL, gateref1_ownFault_l0, e1, e2, e3, e4, e5, okB]
  rcases Bool.eq_false_or_eq_true (v.Flag && v.Kind != 1) with h1 | h1 <;> rcases Bool.eq_false_or_eq_true (v.Number != 0 && v.Kind != 2) with h2 | h2 <;> rcases Bool.eq_false_or_eq_true (v.Words != [] && v.Kind != 3) with h3 | h3 <;>
    rcases Bool.eq_false_or_eq_true (decide ((v.List.list.length : Int) > 0) && v.Kind != 4) with h4 | h4 <;> rcases Bool.eq_false_or_eq_true (decide ((v.Members.list.length : Int) > 0) && v.Kind != 5) with h5 | h5 <;> simp only [h1, h2, h3, h4, h5] <;> rfl
def ownF (v : api_Value) : Int :=
  if v.Kind < 0 ∨ 5 < v.Kind then 4 else if okB v = false then 3 else if v.Number < -1000000000000000 ∨ 1000000000000000 < v.Number then 1 else
  if (v.Words.length : Int) > 5000 then 2 else if Go.Lib.validD v.Words = false then 3 else (nameL (v.Members.list.map (·.Name))).getD 0
theorem own_ok {v : api_Value} (hl : v.Members.list.length ≤ 1000000000) (hn : ∀ m ∈ v.Members.list, m.Name.length ≤ 1000000000) (hw : v.Words.length ≤ 1000000000) : gateref1_ownFault v = some (ownF v) := by
  unfold gateref1_ownFault ownF gateref1_in
  simp only [Option.bind_some]
  by_cases h1 : v.Kind < 0 ∨ 5 < v.Kind
  · rw [if_pos h1, if_pos (by simp only [Bool.not_eq_true', Bool.and_eq_false_iff, decide_eq_false_iff_not]; omega)]
  rw [if_neg h1, if_neg (by simp only [Bool.not_eq_true', Bool.and_eq_false_iff, decide_eq_false_iff_not]; omega), used_ok]
  cases h2 : okB v with
  | false => rfl
  | true =>
    simp only [if_true, Option.bind_some, Res.elim, Bool.true_eq_false, if_false]
    by_cases h3 : v.Number < -1000000000000000 ∨ 1000000000000000 < v.Number
    · rw [if_pos h3, if_pos (by simp only [Bool.not_eq_true', Bool.and_eq_false_iff, decide_eq_false_iff_not]; omega)]
    rw [if_neg h3, if_neg (by simp only [Bool.not_eq_true', Bool.and_eq_false_iff, decide_eq_false_iff_not]; omega)]
    by_cases h4 : (v.Words.length : Int) > 5000
    · rw [if_pos h4, if_pos h4]
    rw [if_neg h4, if_neg h4, valid_ok hw, Option.bind_some]
    cases h5 : Go.Lib.validD v.Words with
    | false => rfl
    | true =>
      simp only [Bool.not_true, Bool.false_eq_true, Bool.true_eq_false, if_false]
      rw [rangeS_eq (by omega)]
      obtain ⟨x, e, hx⟩ := rangeL_inv (f := gateref1_ownFault_l1) (fin := fun n => n) (l := v.Members.list) (v0 := (Sl.nil : Sl Str)) (fun i x => x.list = (v.Members.list.take i).map (·.Name)) (by simp [Sl.list]) (by
        intro i x hi hx
        simp only [gateref1_ownFault_l1]
        rw [slapp_ok (by rw [hx]; simp; omega) (by omega)]
        refine ⟨_, rfl, ?_⟩
        rw [slapp_list, hx, List.take_succ_eq_append_getElem hi, List.map_append]
        rfl)
      rw [List.take_length] at hx
      rw [e, Option.bind_some, namesR_ok (by rw [hx]; simpa using hl) (by
        rw [hx]; intro s hs
        obtain ⟨m, hm, rfl⟩ := List.mem_map.1 hs
        exact hn m hm), hx]
      rfl
/-- The first that is not 0. -/
def fz : List Int → Int
  | [] => 0
  | a :: r => if a ≠ 0 then a else fz r
theorem or2 (a b : Int) : cmp_Or_api_Errno (Sl.full [a, b]) = some (if a ≠ 0 then a else b) := by
  unfold cmp_Or_api_Errno
  rw [rangeS_eq (by simp [Sl.list])]
  simp only [Sl.list, rangeL, cmp_Or_api_Errno_l0]
  by_cases h : a = 0
  · simp only [h, not_true_eq_false, if_false, Option.bind_some, ne_eq]
    by_cases h2 : b = 0
    · simp [h2, Res.elim]
    · simp [h2, Res.elim]
  · simp [h, Res.elim]
theorem loopA {α : Type} (val : α → api_Value) {rec : api_Value → Option Int} {F : api_Value → Int} (f : Int → α → Unit → Option (Step Unit (Res Unit Int)))
    (hf : ∀ i x, f i x () = (rec (val x)).bind fun e => if ¬ e = 0 then some (Step.done (Res.ret e)) else some (Step.next ())) : ∀ (l : List α) (i : Nat), (∀ x ∈ l, rec (val x) = some (F (val x))) →
    rangeL f (fun () => Res.out ()) i l () = some (if fz (l.map fun x => F (val x)) = 0 then Res.out () else Res.ret (fz (l.map fun x => F (val x))))
  | [], _, _ => by simp [rangeL, fz]
  | x :: l, i, h => by
    simp only [rangeL, hf, h x (by simp), Option.bind_some, List.map_cons, fz]
    by_cases h0 : F (val x) = 0
    · simp only [h0, not_true_eq_false, if_false, Option.bind_some, ne_eq]
      exact loopA val f hf l (i + 1) (fun y hy => h y (by simp [hy]))
    · simp [h0]
theorem loopB {α : Type} (val : α → api_Value) {rec : api_Value → Option Int} {F : api_Value → Int} (f : Int → α → Int → Option (Step Int Int))
    (hf : ∀ i x a, f i x a = (rec (val x)).bind fun r => (cmp_Or_api_Errno (Sl.full [a, r])).bind fun q => some (Step.next q)) : ∀ (l : List α) (i : Nat) (a : Int), (∀ x ∈ l, rec (val x) = some (F (val x))) →
    rangeL f (fun q => q) i l a = some (if a ≠ 0 then a else fz (l.map fun x => F (val x)))
  | [], _, a, _ => by simp only [rangeL, List.map_nil, fz]; split <;> simp_all
  | x :: l, i, a, h => by
    simp only [rangeL, hf, h x (by simp), Option.bind_some, or2, List.map_cons, fz]
    rw [loopB val f hf l (i + 1) _ (fun y hy => h y (by simp [hy]))]
    by_cases h0 : a = 0
    · simp [h0]
    · simp [h0]
/-- What a right value is made of. -/
def Rt : Nat → api_Value → Prop
  | 0, _ => False
  | k + 1, v => (0 ≤ v.Kind ∧ v.Kind ≤ 5 ∧ -1000000000000000 ≤ v.Number ∧ v.Number ≤ 1000000000000000) ∧ ∀ x ∈ kids v, Rt k x
theorem fz_zero : ∀ {l : List Int}, fz l = 0 → ∀ x ∈ l, x = 0
  | a :: r, h, x, hx => by
    simp only [fz] at h
    split at h
    · rename_i h1; exact absurd h h1
    · rename_i h1
      rcases List.mem_cons.1 hx with rfl | hx
      · exact Decidable.not_not.1 h1
      · exact fz_zero h x hx
theorem ownF_zero {v : api_Value} (h : ownF v = 0) : 0 ≤ v.Kind ∧ v.Kind ≤ 5 ∧ -1000000000000000 ≤ v.Number ∧ v.Number ≤ 1000000000000000 := by
  unfold ownF at h
  split at h
  · omega
  · split at h
    · omega
    · split at h
      · omega
      · omega
theorem fault_ok : ∀ (k : Nat) (v : api_Value), Fits k v → wt k v ≤ 100000000 → ∃ f, value_fault k v = some f ∧ gateref1_partsFault k v = some f ∧ (f = 0 → Rt k v)
  | 0, _, h, _ => h.elim
  | k + 1, v, h, hw => by
    have hl := wt_ll (k := k) (v := v)
    have hml := wt_ml (k := k) (v := v)
    have hww := wt_w (k := k) (v := v)
    have hn : ∀ m ∈ v.Members.list, m.Name.length ≤ 1000000000 := fun m hm => by have := wt_m (k := k) hm; omega
    have ih : ∀ x ∈ kids v, ∃ f, value_fault k x = some f ∧ gateref1_partsFault k x = some f ∧ (f = 0 → Rt k x) := by
      intro x hx
      refine fault_ok k x (h x hx) ?_
      rcases List.mem_append.1 hx with h0 | h0
      · have := wt_l (k := k) h0; omega
      · obtain ⟨m, hm, rfl⟩ := List.mem_map.1 h0
        have := wt_m (k := k) hm; omega
    let F : api_Value → Int := fun x => (value_fault k x).getD 0
    have hF : ∀ x ∈ kids v, value_fault k x = some (F x) ∧ gateref1_partsFault k x = some (F x) ∧ (F x = 0 → Rt k x) := by
      intro x hx
      obtain ⟨f, h1, h2, h3⟩ := ih x hx
      have : F x = f := by simp only [F, h1]; rfl
      rw [this]; exact ⟨h1, h2, h3⟩
    have eA := loopA (fun x => x) (F := F) (value_fault_l1 (value_fault k)) (fun i x => rfl) v.List.list 0 (fun x hx => (hF x (kids_l hx)).1)
    have eA2 := loopA (fun x : api_Member => x.Value) (F := F) (value_fault_l2 (value_fault k)) (fun i x => rfl) v.Members.list 0 (fun x hx => (hF x.Value (kids_m hx)).1)
    have eB := fun a => loopB (fun x => x) (F := F) (gateref1_partsFault_l0 (gateref1_partsFault k)) (fun i x a => rfl) v.List.list 0 a (fun x hx => (hF x (kids_l hx)).2.1)
    have eB2 := fun a => loopB (fun x : api_Member => x.Value) (F := F) (gateref1_partsFault_l1 (gateref1_partsFault k)) (fun i x a => rfl) v.Members.list 0 a (fun x hx => (hF x.Value (kids_m hx)).2.1)
    have hown := own_ok (v := v) (by omega) hn (by omega)
    generalize hL : fz (v.List.list.map fun x => F x) = L at eA eB
    generalize hM : fz (v.Members.list.map fun x => F x.Value) = M at eA2 eB2
    refine ⟨if ownF v ≠ 0 then ownF v else if L ≠ 0 then L else M, ?_, ?_, ?_⟩
    · rw [value_fault]
      unfold kit_Outside
      simp only [Option.bind_some]
      unfold ownF
      by_cases h1 : v.Kind < 0 ∨ 5 < v.Kind
      · rw [if_pos h1, if_pos (by simp only [Bool.or_eq_true, decide_eq_true_eq]; omega)]; rfl
      rw [if_neg h1, if_neg (by simp only [Bool.or_eq_true, decide_eq_true_eq]; omega), idle_ok, Option.bind_some]
      cases h2 : okB v with
      | false => rfl
      | true =>
        simp only [Bool.not_true, Bool.false_eq_true, Bool.true_eq_false, if_false]
        by_cases h3 : v.Number < -1000000000000000 ∨ 1000000000000000 < v.Number
        · rw [if_pos h3, if_pos (by simp only [Bool.or_eq_true, decide_eq_true_eq]; omega)]; rfl
        rw [if_neg h3, if_neg (by simp only [Bool.or_eq_true, decide_eq_true_eq]; omega)]
        by_cases h4 : (v.Words.length : Int) > 5000
        · rw [if_pos h4, if_pos h4]; rfl
        rw [if_neg h4, if_neg h4, valid_ok (by omega), Option.bind_some]
        cases h5 : Go.Lib.validD v.Words with
        | false => rfl
        | true =>
          simp only [Bool.not_true, Bool.false_eq_true, Bool.true_eq_false, if_false]
          rw [namesV_ok (by omega) hn, Option.bind_some]
          have hnz : ∀ e, nameL (v.Members.list.map (·.Name)) = some e → e ≠ 0 := by
            intro e he
            have key : ∀ (q : List Str) (l : List Str) (i : Nat), firstSome (nameT q) i l = some e → e ≠ 0 := by
              intro q l
              induction l with
              | nil => intro i h; cases h
              | cons x l ihl =>
                intro i h
                simp only [firstSome] at h
                split at h
                · rename_i b hb
                  simp only [Option.some.injEq] at h
                  subst h
                  unfold nameT at hb
                  split at hb
                  · rename_i h9; simp only [Option.some.injEq] at hb; subst hb; exact h9
                  · split at hb
                    · simp only [Option.some.injEq] at hb; subst hb; decide
                    · cases hb
                · exact ihl (i + 1) h
            exact key _ _ _ he
          cases hnl : nameL (v.Members.list.map (·.Name)) with
          | some e =>
            simp only [Option.map_some, Option.getD_some, Res.elim]
            rw [if_pos (hnz e hnl)]
          | none =>
            simp only [Option.map_none, Option.getD_none, Res.elim, ne_eq, not_true_eq_false, if_false]
            rw [rangeS_eq (by omega), eA, Option.bind_some]
            by_cases hL0 : L = 0
            · simp only [hL0, if_true, Res.elim, not_true_eq_false, if_false]
              rw [rangeS_eq (by omega), eA2, Option.bind_some]
              by_cases hM0 : M = 0
              · simp [hM0, Res.elim]
              · simp [hM0, Res.elim]
            · simp [hL0, Res.elim]
    · rw [gateref1_partsFault, hown, Option.bind_some, rangeS_eq (by omega), eB, Option.bind_some, rangeS_eq (by omega), eB2, Option.bind_some]
      by_cases h0 : ownF v = 0
      · simp [h0]
      · simp [h0]
    · intro h0
      by_cases h1 : ownF v = 0
      · rw [if_neg (by simpa using h1)] at h0
        by_cases h2 : L = 0
        · rw [if_neg (by simpa using h2)] at h0
          refine ⟨ownF_zero h1, fun x hx => (hF x hx).2.2 ?_⟩
          rcases List.mem_append.1 hx with h3 | h3
          · exact fz_zero (hL.trans h2) _ (List.mem_map_of_mem h3)
          · obtain ⟨m, hm, rfl⟩ := List.mem_map.1 h3
            exact fz_zero (hM.trans h0) _ (List.mem_map_of_mem (f := fun x : api_Member => F x.Value) hm)
        · rw [if_pos (by simpa using h2)] at h0; exact absurd h0 h2
      · rw [if_pos (by simpa using h1)] at h0; exact absurd h0 h1
theorem check_ok {k : Nat} {v : api_Value} (h : Fits k v) (hw : wt k v ≤ 100000000) : ∃ f, value_Check k v = some f ∧ gateref1_ValueFault k v = some f ∧ (f = 0 → Rt k v) := by
  obtain ⟨f, h1, h2, h3⟩ := fault_ok k v h hw
  obtain ⟨b, c, e1, e2, -⟩ := large_ok k v h hw 0 1 (by omega) (by omega)
  unfold value_Check gateref1_ValueFault
  rw [size_ok k v h hw]
  have e1' : value_counter_large k (value_counter.mk 0) v 1 = some (b, c) := e1
  rw [e1']
  simp only [Option.bind_some]
  cases b with
  | true =>
    rw [if_pos rfl, if_pos (by have := e2.1 rfl; simp only [Bool.or_eq_true, decide_eq_true_eq]; omega)]
    exact ⟨2, rfl, rfl, by omega⟩
  | false =>
    have hn : ¬ (5000 < 0 + nodes k v ∨ 51 < 1 + deepN k v) := fun hc => by have := e2.2 hc; cases this
    rw [if_neg (by simp), if_neg (by simp only [Bool.or_eq_true, decide_eq_true_eq]; omega), h1, h2]
    exact ⟨f, rfl, rfl, h3⟩
end Go.GW
