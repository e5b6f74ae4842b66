/- Texts read piece by piece: what the loops of both texts give, whatever a line is read as. -/
import Derived.Test.YtimnggioioeehaaGreatDoorGrSplits
namespace Go.GW
open Go.AE

theorem splitOn_mem (c : UInt8) : ∀ (s x : Str), x ∈ splitOn c s → x.length ≤ s.length
  | [], x, h => by simp [splitOn] at h; subst h; simp
  | b :: r, x, h => by
    have ih := splitOn_mem c r
    simp only [splitOn] at h
    split at h
    · rcases List.mem_cons.1 h with rfl | h
      · simp
      · have := ih x h; simp only [List.length_cons]; omega
    · split at h
      · rename_i y l e
        rcases List.mem_cons.1 h with rfl | h
        · have := ih y (by rw [e]; simp); simp only [List.length_cons]; omega
        · have := ih x (by rw [e]; simp [h]); simp only [List.length_cons]; omega
      · simp only [List.mem_singleton] at h; subst h; simp
theorem splitOn_len (c : UInt8) : ∀ s : Str, (splitOn c s).length ≤ s.length + 1
  | [] => by simp [splitOn]
  | b :: r => by
    have ih := splitOn_len c r
    simp only [splitOn]
    split
    · simp only [List.length_cons]; omega
    · split
      · rename_i y l e; rw [e] at ih; simp only [List.length_cons] at ih ⊢; omega
      · simp
section
variable {α : Type} (rd : Str → Option α)
/-- What reading the pieces of a text gives: what was read, or the place of the first line that is wrong. -/
def readP : Nat → List Str → Sl α → Res (Sl α) Nat
  | _, [], acc => .out acc
  | i, [x], acc => if x = [] then .out acc else .ret i
  | i, x :: y :: r, acc => match rd x with
    | none => .ret i
    | some z => readP (i + 1) (y :: r) (acc.app [z])
/-- .. as the program's loops answer. -/
def fin9 : Res (Sl α) Nat → Res (Sl α) (Sl α × Int × Int)
  | .out a => .out a
  | .ret j => .ret (Sl.nil, (j : Int), 9)
variable {rd}
theorem readP_cons {i : Nat} {x : Str} {l : List Str} {acc : Sl α} (h : l ≠ []) : readP rd i (x :: l) acc = match rd x with
    | none => .ret i
    | some z => readP rd (i + 1) l (acc.app [z]) := by
  cases l with
  | nil => exact absurd rfl h
  | cons y r => rfl
theorem readP_all {p : α → Prop} {q : Str → Prop} (hp : ∀ x z, q x → rd x = some z → p z) : ∀ (l : List Str) (i : Nat) (acc a : Sl α), (∀ x ∈ l, q x) → (∀ x ∈ acc.list, p x) → readP rd i l acc = .out a → (∀ x ∈ a.list, p x) ∧ a.list.length ≤ acc.list.length + l.length
  | [], i, acc, a, _, hk, h => by simp only [readP, Res.out.injEq] at h; subst h; exact ⟨hk, by simp⟩
  | [x], i, acc, a, _, hk, h => by
    simp only [readP] at h
    split at h
    · simp only [Res.out.injEq] at h; subst h; exact ⟨hk, by simp⟩
    · cases h
  | x :: y :: r, i, acc, a, hl, hk, h => by
    rw [readP_cons (by simp)] at h
    cases hz : rd x with
    | none => rw [hz] at h; cases h
    | some z =>
      rw [hz] at h
      obtain ⟨h1, h2⟩ := readP_all hp (y :: r) (i + 1) _ a (fun u hu => hl u (by simp at hu ⊢; exact .inr hu)) (fun u hu => by
        rw [slapp_list] at hu
        rcases List.mem_append.1 hu with hu | hu
        · exact hk u hu
        · simp only [List.mem_singleton] at hu; subst hu; exact hp x u (hl x (by simp)) hz) h
      refine ⟨h1, ?_⟩
      rw [slapp_list] at h2
      simp only [List.length_append, List.length_cons, List.length_nil] at h2 ⊢
      omega
/-- A loop that cuts line by line. -/
theorem cut_loop {m : Nat} (hm : m ≤ 100000) {g : (Ar α × Str × Int) → Option (Step (Ar α × Str × Int) (Res (Ar α) (Int × Bool × Ar α)))}
    (g1 : ∀ cap i, g (cap, [], i) = some (Step.done (Res.out cap)))
    (g2 : ∀ cap text i x, text ≠ [] → cut? text [10] = some (x, [], false) → g (cap, text, i) = some (Step.done (Res.ret (i, false, cap))))
    (g3 : ∀ (cap : Ar α) text i x r, text ≠ [] → cut? text [10] = some (x, r, true) → x.length ≤ m → cap.list.length ≤ 200000 → ∃ cap', g (cap, text, i) = some (if (rd x).isSome = true then Step.next (cap', r, w64 (i + 1)) else Step.done (Res.ret (i, false, cap'))) ∧ ∀ z, rd x = some z → cap' = cap.app [z]) :
    ∀ (n : Nat) (text : Str) (cap : Ar α) (i : Nat), text.length = n → n ≤ m → cap.list.length + n ≤ 200000 → i + n ≤ 200000 →
    ∃ b, loopV g (cap, text, (i : Int)) = some b ∧ ((∃ cap', b = Res.out cap' ∧ readP rd i (splitOn 10 text) cap.sl = .out cap'.sl) ∨ ∃ j cap', b = Res.ret (((j : Nat) : Int), false, cap') ∧ readP rd i (splitOn 10 text) cap.sl = .ret j) := by
  intro n
  induction n using Nat.strongRecOn with
  | _ n ih =>
    intro text cap i hn hn2 hc hi
    by_cases ht : text = []
    · subst ht
      exact ⟨Res.out cap, loopV_done (g1 _ _), .inl ⟨cap, rfl, rfl⟩⟩
    · obtain ⟨x, l, hx, hcut⟩ := cut_on 10 (s := text) (by omega)
      have hxl : x.length ≤ m := by have := splitOn_mem 10 text x (by rw [hx]; simp); omega
      rcases hcut with ⟨rfl, hcut, rfl⟩ | ⟨rest, hcut, rfl, hr⟩
      · refine ⟨Res.ret ((i : Int), false, cap), loopV_done (g2 _ _ _ _ ht hcut), .inr ⟨i, cap, rfl, ?_⟩⟩
        rw [hx]; simp only [readP]; rw [if_neg ht]
      · obtain ⟨cap', hstep, h2⟩ := g3 cap text (i : Int) x rest ht hcut hxl (by omega)
        rw [hx, readP_cons (splitOn_ne 10 rest)]
        cases hz : rd x with
        | none =>
          rw [hz] at hstep
          exact ⟨_, loopV_done hstep, .inr ⟨i, cap', rfl, rfl⟩⟩
        | some z =>
          rw [hz] at hstep
          have e := h2 z hz
          subst e
          rw [loopV_next hstep, w64_id (by omega) (by omega), show ((i : Int) + 1) = ((i + 1 : Nat) : Int) by omega]
          obtain ⟨b, k1, k2⟩ := ih rest.length (by omega) rest (cap.app [z]) (i + 1) rfl (by omega) (by rw [app_list]; simp; omega) (by omega)
          refine ⟨b, k1, ?_⟩
          rw [ar_app_sl] at k2
          exact k2
/-- A loop over lines of which the last is ended. -/
theorem ended_loop {m : Nat} {f : Int → Str → Sl α → Option (Step (Sl α) (Res (Sl α) (Sl α × Int × Int)))}
    (hf : ∀ i x (acc : Sl α), x.length ≤ m → acc.list.length ≤ 200000 → f i x acc = some (match rd x with | none => Step.done (Res.ret (Sl.nil, i, 9)) | some z => Step.next (acc.app [z]))) : ∀ (l : List Str) (k : Nat) (acc : Sl α), (∀ x ∈ l, x.length ≤ m) → acc.list.length + l.length ≤ 200000 →
    rangeL f (fun o => Res.out o) k l acc = some (fin9 (readP rd k (l ++ [[]]) acc))
  | [], k, acc, _, _ => by simp [rangeL, readP, fin9]
  | x :: l, k, acc, hl, hc => by
    simp only [List.length_cons] at hc
    rw [List.cons_append, readP_cons (by simp), rangeL, hf _ _ _ (hl x (by simp)) (by omega), Option.bind_some]
    cases hz : rd x with
    | none => rfl
    | some z => exact ended_loop hf l (k + 1) _ (fun u hu => hl u (by simp [hu])) (by rw [slapp_list]; simp; omega)
/-- .. is not ended. -/
theorem open_loop {m n : Nat} {f : Int → Str → Sl α → Option (Step (Sl α) (Res (Sl α) (Sl α × Int × Int)))}
    (hf : ∀ (i : Nat) x (acc : Sl α), x.length ≤ m → acc.list.length ≤ 200000 → f (i : Int) x acc = (some (if i + 1 = n then Step.done (Res.ret (Sl.nil, (i : Int), 9)) else match rd x with | none => Step.done (Res.ret (Sl.nil, (i : Int), 9)) | some z => Step.next (acc.app [z])) : Option (Step (Sl α) (Res (Sl α) (Sl α × Int × Int))))) : ∀ (l : List Str) (k : Nat) (acc : Sl α), l ≠ [] → l.getLast? ≠ some [] → k + l.length = n → (∀ x ∈ l, x.length ≤ m) → acc.list.length + l.length ≤ 200000 →
    rangeL f (fun o => Res.out o) k l acc = some (fin9 (readP rd k l acc))
  | [], _, _, h, _, _, _, _ => absurd rfl h
  | [x], k, acc, _, hx, hk, hl, hc => by
    have hx' : x ≠ [] := by simpa using hx
    simp only [List.length_cons, List.length_nil] at hk hc
    rw [rangeL, hf _ _ _ (hl x (by simp)) (by omega), Option.bind_some, if_pos (by omega)]
    simp only [readP, if_neg hx', fin9]
  | x :: y' :: r, k, acc, _, hx, hk, hl, hc => by
    simp only [List.length_cons] at hk hc
    rw [readP_cons (by simp), rangeL, hf _ _ _ (hl x (by simp)) (by omega), Option.bind_some, if_neg (by omega)]
    cases hz : rd x with
    | none => rfl
    | some z => exact open_loop hf (y' :: r) (k + 1) _ (by simp) (by simpa using hx) (by simp only [List.length_cons]; omega) (fun u hu => hl u (by simp at hu ⊢; exact .inr hu)) (by rw [slapp_list]; simp; omega)
end
theorem itoa_lenS {n : Int} (k : Nat) (hk : 0 < k) (h1 : -((10 ^ k : Nat) : Int) < n) (h2 : n < ((10 ^ k : Nat) : Int)) : (Go.Lib.itoa n).length ≤ k + 1 := by
  by_cases h0 : 0 ≤ n
  · have := itoa_len10 k hk h0 h2; omega
  · unfold Go.Lib.itoa
    rw [if_pos (by omega), List.length_cons]
    have := decDigits_len10 k n.natAbs hk (by omega)
    omega
end Go.GW
