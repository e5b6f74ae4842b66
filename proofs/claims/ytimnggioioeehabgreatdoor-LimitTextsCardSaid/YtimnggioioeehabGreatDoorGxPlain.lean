/- Plain lemmas on typed functions: numbers that do not overflow, loops by invariants. -/
import Derived.Test.YtimnggioioeehabGreatDoorGxArr
namespace Go.GW
open Go.AE

theorem w64_id {n : Int} (h0 : -9223372036854775808 ≤ n) (h1 : n ≤ 9223372036854775807) : w64 n = n := wrap_id h0 h1
theorem ckquo_pos {a b : Int} (ha : 0 ≤ a) (hb : 0 < b) (h1 : a ≤ 9223372036854775807) : ckquo .i64 a b = some (a / b) := by
  unfold ckquo
  rw [if_neg (by omega), Int.tdiv_eq_ediv_of_nonneg ha]
  congr 1
  have h2 : a / b ≤ a := Int.ediv_le_self b ha
  have h3 : 0 ≤ a / b := Int.ediv_nonneg ha (by omega)
  exact wrap_id (by omega) (by omega)
theorem ckrem_pos {a b : Int} (ha : 0 ≤ a) (hb : 0 < b) : ckrem .i64 a b = some (a % b) := by
  unfold ckrem
  rw [if_neg (by omega), Int.tmod_eq_emod_of_nonneg ha]

section range
variable {α V Bt : Type}
theorem rangeS_eq {f : Int → α → V → Option (Step V Bt)} {fin : V → Bt} {s : Sl α} {v : V} (h : s.list.length < 2 ^ 62) : rangeS f fin s v = rangeL f fin 0 s.list v := by
  unfold rangeS; rw [if_pos h]
theorem rangeN_eq {f : Int → V → Option (Step V Bt)} {fin : V → Bt} {n : Int} {v : V} (h : n < 2 ^ 62) : rangeN f fin n v = rangeL (fun i _ v => f i v) fin 0 (List.range n.toNat) v := by
  unfold rangeN; rw [if_pos h]
theorem rangeL_congr {f g : Int → α → V → Option (Step V Bt)} {fin : V → Bt} {l : List α} {k : Nat} {v : V} (h : ∀ i v, (hi : i < l.length) → f ((k + i : Nat) : Int) l[i] v = g ((k + i : Nat) : Int) l[i] v) : rangeL f fin k l v = rangeL g fin k l v := by
  induction l generalizing k v with
  | nil => rfl
  | cons x l ih =>
    simp only [rangeL]
    rw [show f (k : Int) x v = g (k : Int) x v from h 0 v (by simp)]
    congr 1
    funext s
    cases s with
    | next v' => exact ih (fun i v hi => by have := h (i + 1) v (by simp; omega); rw [show k + (i + 1) = k + 1 + i by omega] at this; simpa using this)
    | done b => rfl
/-- A loop over a list that may end early: what holds of what is kept, what holds at an early end. -/
theorem rangeL_inv2 {f : Int → α → V → Option (Step V Bt)} {fin : V → Bt} {l : List α} {v0 : V} (I : Nat → V → Prop) (D : Bt → Prop) (h0 : I 0 v0)
    (step : ∀ i v, (hi : i < l.length) → I i v → (∃ v', f i l[i] v = some (.next v') ∧ I (i + 1) v') ∨ (∃ b, f i l[i] v = some (.done b) ∧ D b)) :
    ∃ b, rangeL f fin 0 l v0 = some b ∧ ((∃ v, b = fin v ∧ I l.length v) ∨ D b) := by
  have key : ∀ m i v, l.length - i = m → i ≤ l.length → I i v → ∃ b, rangeL f fin i (l.drop i) v = some b ∧ ((∃ v, b = fin v ∧ I l.length v) ∨ D b) := by
    intro m
    induction m with
    | zero =>
      intro i v hm hi hv
      have hi : i = l.length := by omega
      subst hi
      rw [List.drop_length]
      exact ⟨_, rfl, .inl ⟨v, rfl, hv⟩⟩
    | succ m ih =>
      intro i v hm hi hv
      have hlt : i < l.length := by omega
      rw [List.drop_eq_getElem_cons hlt]
      simp only [rangeL]
      rcases step i v hlt hv with ⟨v', h1, h2⟩ | ⟨b, h1, h2⟩
      · rw [h1]; exact ih (i + 1) v' (by omega) (by omega) h2
      · rw [h1]; exact ⟨b, rfl, .inr h2⟩
  exact key l.length 0 v0 rfl (Nat.zero_le _) h0
/-- One that does not. -/
theorem rangeL_inv {f : Int → α → V → Option (Step V Bt)} {fin : V → Bt} {l : List α} {v0 : V} (I : Nat → V → Prop) (h0 : I 0 v0)
    (step : ∀ i v, (hi : i < l.length) → I i v → ∃ v', f i l[i] v = some (.next v') ∧ I (i + 1) v') : ∃ v, rangeL f fin 0 l v0 = some (fin v) ∧ I l.length v := by
  obtain ⟨b, h1, h2⟩ := rangeL_inv2 (fin := fin) I (fun _ => False) h0 (fun i v hi hv => .inl (step i v hi hv))
  rcases h2 with ⟨v, rfl, h2⟩ | h2
  · exact ⟨v, h1, h2⟩
  · exact h2.elim
/-- Two loops over one list, side by side. -/
theorem rangeL_two {V2 Bt2 : Type} {f : Int → α → V → Option (Step V Bt)} {fin : V → Bt} {g : Int → α → V2 → Option (Step V2 Bt2)} {fin2 : V2 → Bt2} {l : List α} {v0 : V} {w0 : V2} (I : Nat → V → V2 → Prop) (h0 : I 0 v0 w0)
    (step : ∀ i v w, (hi : i < l.length) → I i v w → ∃ v' w', f i l[i] v = some (.next v') ∧ g i l[i] w = some (.next w') ∧ I (i + 1) v' w') : ∃ v w, rangeL f fin 0 l v0 = some (fin v) ∧ rangeL g fin2 0 l w0 = some (fin2 w) ∧ I l.length v w := by
  have key : ∀ m i v w, l.length - i = m → i ≤ l.length → I i v w → ∃ v1 w1, rangeL f fin i (l.drop i) v = some (fin v1) ∧ rangeL g fin2 i (l.drop i) w = some (fin2 w1) ∧ I l.length v1 w1 := by
    intro m
    induction m with
    | zero =>
      intro i v w hm hi hv
      have hi : i = l.length := by omega
      subst hi
      rw [List.drop_length]
      exact ⟨v, w, rfl, rfl, hv⟩
    | succ m ih =>
      intro i v w hm hi hv
      have hlt : i < l.length := by omega
      rw [List.drop_eq_getElem_cons hlt]
      simp only [rangeL]
      obtain ⟨v', w', h1, h2, h3⟩ := step i v w hlt hv
      rw [h1, h2]; exact ih (i + 1) v' w' (by omega) (by omega) h3
  exact key l.length 0 v0 w0 rfl (Nat.zero_le _) h0
/-- A search: the first place at which something is found. -/
def firstSome {β : Type} (t : Nat → α → Option β) : Nat → List α → Option β
  | _, [] => none
  | i, x :: l => match t i x with
    | some b => some b
    | none => firstSome t (i + 1) l
theorem rangeL_find {f : Int → α → Unit → Option (Step Unit Bt)} {fin : Unit → Bt} {l : List α} {k : Nat} (t : Nat → α → Option Bt)
    (h : ∀ i, (hi : i < l.length) → f ((k + i : Nat) : Int) l[i] () = some (match t (k + i) l[i] with | some b => .done b | none => .next ())) : rangeL f fin k l () = some ((firstSome t k l).getD (fin ())) := by
  induction l generalizing k with
  | nil => rfl
  | cons x l ih =>
    have h1 : f (k : Int) x () = some (match t k x with | some b => .done b | none => .next ()) := h 0 (by simp)
    simp only [rangeL, firstSome, h1, Option.bind_some]
    cases hx : t k x with
    | some b => rfl
    | none => exact ih (fun i hi => by have := h (i + 1) (by simp; omega); rw [show k + (i + 1) = k + 1 + i by omega] at this; simpa using this)
theorem loopV_inv {f : V → Option (Step V Bt)} (I : V → Prop) (m : V → Nat) (D : Bt → Prop) (step : ∀ v, I v → (∃ v', f v = some (.next v') ∧ I v' ∧ m v' < m v) ∨ (∃ b, f v = some (.done b) ∧ D b)) (v0 : V) (h0 : I v0) : ∃ b, loopV f v0 = some b ∧ D b := by
  generalize hn : m v0 = n
  induction n using Nat.strongRecOn generalizing v0 with
  | _ n ih =>
    rw [loopV_eq]
    rcases step v0 h0 with ⟨v', h1, h2, h3⟩ | ⟨b, h1, h2⟩
    · rw [h1]; exact ih (m v') (by omega) v' h2 rfl
    · rw [h1]; exact ⟨b, rfl, h2⟩
theorem loopV_done {f : V → Option (Step V Bt)} {v : V} {b : Bt} (h : f v = some (.done b)) : loopV f v = some b := by rw [loopV_eq, h]; rfl
theorem loopV_next {f : V → Option (Step V Bt)} {v v' : V} (h : f v = some (.next v')) : loopV f v = loopV f v' := by rw [loopV_eq, h]; rfl
end range

theorem roomy_ok {n bytes : Nat} (h : n ≤ 1000000000) (hb : bytes ≤ 4096) : roomy n bytes = true := by
  unfold roomy
  simp only [Bool.and_eq_true, decide_eq_true_eq]
  refine ⟨?_, by omega⟩
  calc (2 * n + 1024) * bytes ≤ (2 * 1000000000 + 1024) * 4096 := Nat.mul_le_mul (by omega) hb
    _ ≤ 2 ^ 47 := by decide
theorem app_ok {α : Type} {a : Ar α} {bytes : Nat} {l : List α} (h : a.list.length + l.length ≤ 1000000000) (hb : bytes ≤ 4096) : a.app? bytes l = some (a.app l) := by
  unfold Ar.app?; rw [roomy_ok h hb]; rfl
theorem app_list {α : Type} (a : Ar α) (l : List α) : (a.app l).list = a.list ++ l := by
  cases l with
  | nil => simp [Ar.app]
  | cons x l => simp [Ar.app, Ar.list]
theorem sl_list {α : Type} (a : Ar α) : a.sl.list = a.list := by cases a <;> rfl
theorem get_ok {α : Type} {s : Sl α} {i : Nat} (h : i < s.list.length) : s.get? (i : Int) = some s.list[i] := by
  unfold Sl.get?; rw [if_pos (by omega)]; simp [h]
theorem aget_ok {α : Type} {s : Ar α} {i : Nat} (h : i < s.list.length) : s.get? (i : Int) = some s.list[i] := by
  unfold Ar.get?; rw [if_pos (by omega)]; simp [h]
theorem aset_ok {α : Type} {s : Ar α} {i : Nat} (h : i < s.list.length) (x : α) : s.set? (i : Int) x = some (.full (s.list.set i x)) := by
  unfold Ar.set?; rw [if_pos (by omega)]; simp
theorem app_get {α : Type} (a : Ar α) (x : α) {i : Nat} (hi : a.list.length = i) : (a.app [x]).get? (i : Int) = some x := by
  subst hi
  unfold Ar.get?; rw [if_pos (by omega)]; simp [app_list]
theorem sget_ok {s : Str} {i : Nat} (h : i < s.length) : sget s (i : Int) = some (s[i].toNat : Int) := by
  unfold sget; rw [if_pos (by omega)]; simp [h]
theorem slapp_ok {α : Type} {s : Sl α} {bytes : Nat} {l : List α} (h : s.list.length + l.length ≤ 1000000000) (hb : bytes ≤ 4096) : s.app? bytes l = some (s.app l) := by
  unfold Sl.app?; rw [if_pos (roomy_ok h hb)]
theorem slapp_list {α : Type} (s : Sl α) (l : List α) : (s.app l).list = s.list ++ l := by
  cases l with
  | nil => simp [Sl.app]
  | cons x r => simp [Sl.app, Sl.list]
theorem sadd_ok {a b : Str} (h : a.length + b.length ≤ 9223372036854775807) : sadd a b = some (a ++ b) := by
  unfold sadd; rw [if_neg]; simp [IntKind.max, IntKind.signed, IntKind.bits]; omega
theorem decDigits_len (u : Nat) : (Go.Lib.decDigits u).length ≤ u + 1 := by
  induction u using Nat.strongRecOn with
  | _ u ih =>
    unfold Go.Lib.decDigits
    split
    · simp
    · rw [List.length_append]
      have := ih (u / 10) (by omega)
      simp only [List.length_singleton]
      omega
theorem itoa_ok {n : Int} (h0 : -9223372036854775808 ≤ n) (h1 : n ≤ 9223372036854775807) : itoa? n = some (Go.Lib.itoa n) := by
  unfold itoa?; rw [if_pos ⟨h0, h1⟩]
theorem itoa_len {n : Int} (h0 : 0 ≤ n) : ((Go.Lib.itoa n).length : Int) ≤ n + 1 := by
  unfold Go.Lib.itoa
  rw [if_neg (by omega)]
  have := decDigits_len n.toNat
  omega
theorem decDigits_len10 : ∀ (k n : Nat), 0 < k → n < 10 ^ k → (Go.Lib.decDigits n).length ≤ k
  | 0, _, h, _ => absurd h (by omega)
  | k + 1, n, _, h => by
    unfold Go.Lib.decDigits
    split
    · simp
    · rename_i h10
      rw [Nat.pow_succ] at h
      have hk : 0 < k := by
        apply Nat.pos_of_ne_zero
        intro e
        subst e
        simp at h
        omega
      rw [List.length_append]
      have := decDigits_len10 k (n / 10) hk (by omega)
      simp only [List.length_singleton]
      omega
theorem itoa_len10 {n : Int} (k : Nat) (hk : 0 < k) (h0 : 0 ≤ n) (h : n < ((10 ^ k : Nat) : Int)) : (Go.Lib.itoa n).length ≤ k := by
  unfold Go.Lib.itoa
  rw [if_neg (by omega)]
  exact decDigits_len10 k n.toNat hk (by omega)
theorem app_app {α : Type} (a : Ar α) (l m : List α) : (a.app l).app m = a.app (l ++ m) := by
  cases l with
  | nil => rfl
  | cons x l =>
    cases m with
    | nil => simp [Ar.app]
    | cons y m => simp [Ar.app, Ar.list]
theorem bstr_ok {t : Str} (h : t.length ≤ 1000000000) : bstr? ((Ar.nil : Ar UInt8).app t) = some t := by
  cases t with
  | nil => rfl
  | cons x t => simp only [Ar.app, Ar.list, bstr?, List.nil_append]; rw [if_pos ⟨by simp, by simp at h ⊢; omega⟩]
theorem ar_app_sl {α : Type} (a : Ar α) (l : List α) : (a.app l).sl = a.sl.app l := by
  cases l with
  | nil => cases a <;> rfl
  | cons x l => cases a <;> rfl
theorem ssub_ok {s : Str} {l h : Nat} (h1 : l ≤ h) (h2 : h ≤ s.length) : ssub s (l : Int) (h : Int) = some ((s.drop l).take (h - l)) := by
  unfold ssub; rw [if_pos ⟨by omega, by omega, by omega⟩]
  congr 2
  omega
/-- Two loops over one list, side by side, that may end early. -/
theorem rangeL_two2 {α V Bt V2 Bt2 : Type} {f : Int → α → V → Option (Step V Bt)} {fin : V → Bt} {g : Int → α → V2 → Option (Step V2 Bt2)} {fin2 : V2 → Bt2} {l : List α} {v0 : V} {w0 : V2} (I : Nat → V → V2 → Prop) (D : Bt → Bt2 → Prop) (h0 : I 0 v0 w0)
    (step : ∀ i v w, (hi : i < l.length) → I i v w → (∃ v' w', f i l[i] v = some (.next v') ∧ g i l[i] w = some (.next w') ∧ I (i + 1) v' w') ∨ ∃ b c, f i l[i] v = some (.done b) ∧ g i l[i] w = some (.done c) ∧ D b c) : ∃ b c, rangeL f fin 0 l v0 = some b ∧ rangeL g fin2 0 l w0 = some c ∧ ((∃ v w, b = fin v ∧ c = fin2 w ∧ I l.length v w) ∨ D b c) := by
  have key : ∀ m i v w, l.length - i = m → i ≤ l.length → I i v w → ∃ b c, rangeL f fin i (l.drop i) v = some b ∧ rangeL g fin2 i (l.drop i) w = some c ∧ ((∃ v w, b = fin v ∧ c = fin2 w ∧ I l.length v w) ∨ D b c) := by
    intro m
    induction m with
    | zero =>
      intro i v w hm hi hv
      have hi : i = l.length := by omega
      subst hi
      rw [List.drop_length]
      exact ⟨_, _, rfl, rfl, .inl ⟨v, w, rfl, rfl, hv⟩⟩
    | succ m ih =>
      intro i v w hm hi hv
      have hlt : i < l.length := by omega
      rw [List.drop_eq_getElem_cons hlt]
      simp only [rangeL]
      rcases step i v w hlt hv with ⟨v', w', h1, h2, h3⟩ | ⟨b, c, h1, h2, h3⟩
      · rw [h1, h2]; exact ih (i + 1) v' w' (by omega) (by omega) h3
      · rw [h1, h2]; exact ⟨b, c, rfl, rfl, .inr h3⟩
  exact key l.length 0 v0 w0 rfl (Nat.zero_le _) h0
end Go.GW
