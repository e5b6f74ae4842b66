/- The evaluator without fuel: what it answers at some fuel it answers at every greater one. -/
import Derived.Test.YtimnggioioeehabGreatDoorAeRow
namespace Go.AE

variable {P : Program} {pol : Pol} {f : FuncId} {ro : Bool} {rid i : Nat} {draw : Bool}

def Up {α : Type} (g : Nat → Option α) : Prop := ∀ k r, g k = some r → g (k + 1) = some r
theorem Up.le {α : Type} {g : Nat → Option α} (h : Up g) {k m : Nat} (hkm : k ≤ m) {r : α} (hr : g k = some r) : g m = some r := by
  induction m with
  | zero => have : k = 0 := by omega
            subst this; exact hr
  | succ m ih =>
    rcases Nat.lt_or_ge k (m + 1) with h1 | h1
    · exact h m r (ih (by omega))
    · have : k = m + 1 := by omega
      subst this; exact hr

open Classical in
noncomputable def lim {α : Type} (g : Nat → Option α) : Option α := if h : ∃ r k, g k = some r then some h.choose else none
theorem lim_some {α : Type} {g : Nat → Option α} (h : Up g) {r : α} : lim g = some r ↔ ∃ k, g k = some r := by
  unfold lim
  constructor
  · intro hr
    split at hr
    · rename_i hx
      simp only [Option.some.injEq] at hr
      subst hr
      exact hx.choose_spec
    · cases hr
  · rintro ⟨k, hk⟩
    have hx : ∃ r k, g k = some r := ⟨r, k, hk⟩
    rw [dif_pos hx]
    obtain ⟨k2, hk2⟩ := hx.choose_spec
    have h1 := h.le (Nat.le_max_left k k2) hk
    have h2 := h.le (Nat.le_max_right k k2) hk2
    exact (h1.symm.trans h2).symm
theorem lim_eq {α : Type} {g : Nat → Option α} (h : Up g) {x : Option α} (h1 : ∀ r, x = some r ↔ ∃ k, g k = some r) : lim g = x := by
  apply Option.ext
  intro r
  rw [lim_some h, h1 r]
theorem Up.const {α : Type} (x : Option α) : Up fun _ => x := fun _ _ h => h
theorem lim_const {α : Type} (x : Option α) : lim (fun _ => x) = x :=
  lim_eq (Up.const x) (fun r => ⟨fun h => ⟨0, h⟩, fun ⟨_, h⟩ => h⟩)
theorem Up.bind {α β : Type} {g : Nat → Option α} {h : Nat → α → Option β} (hg : Up g) (hh : ∀ a, Up fun k => h k a) : Up fun k => (g k).bind (h k) := by
  intro k r hr
  simp only [Option.bind_eq_some_iff] at hr ⊢
  obtain ⟨a, ha, hb⟩ := hr
  exact ⟨a, hg k a ha, hh a k r hb⟩
theorem lim_bind {α β : Type} {g : Nat → Option α} {h : Nat → α → Option β} (hg : Up g) (hh : ∀ a, Up fun k => h k a) : lim (fun k => (g k).bind (h k)) = (lim g).bind fun a => lim fun k => h k a := by
  refine lim_eq (Up.bind hg hh) (fun r => ?_)
  constructor
  · intro hr
    simp only [Option.bind_eq_some_iff] at hr ⊢
    obtain ⟨a, ha, hb⟩ := hr
    obtain ⟨k1, h1⟩ := (lim_some hg).1 ha
    obtain ⟨k2, h2⟩ := (lim_some (hh a)).1 hb
    exact ⟨max k1 k2, a, hg.le (Nat.le_max_left ..) h1, (hh a).le (Nat.le_max_right ..) h2⟩
  · rintro ⟨k, hk⟩
    simp only [Option.bind_eq_some_iff] at hk ⊢
    obtain ⟨a, ha, hb⟩ := hk
    exact ⟨a, (lim_some hg).2 ⟨k, ha⟩, (lim_some (hh a)).2 ⟨k, hb⟩⟩
theorem Up.map {α β : Type} {g : Nat → Option α} (hg : Up g) (h : α → β) : Up fun k => (g k).map h := by
  intro k r hr
  simp only [Option.map_eq_some_iff] at hr ⊢
  obtain ⟨a, ha, hb⟩ := hr
  exact ⟨a, hg k a ha, hb⟩
theorem lim_map {α β : Type} {g : Nat → Option α} (hg : Up g) (h : α → β) : lim (fun k => (g k).map h) = (lim g).map h := by
  refine lim_eq (hg.map h) (fun r => ?_)
  simp only [Option.map_eq_some_iff, lim_some hg]
  exact ⟨fun ⟨a, ⟨k, h1⟩, h2⟩ => ⟨k, a, h1, h2⟩, fun ⟨k, a, h1, h2⟩ => ⟨a, ⟨k, h1⟩, h2⟩⟩

/-- A family of answers, better and better. -/
def UpC (c : Nat → CallF) : Prop := ∀ ro g args out glob, Up fun k => c k ro g args out glob
noncomputable def limC (c : Nat → CallF) : CallF := fun ro g args out glob => lim fun k => c k ro g args out glob

theorem opF_lim {c : Nat → CallF} (hc : UpC c) (o : Oper) (ev : Operand → AV) (st : Heap) :
    (Up fun k => opF P pol (c k) f ro rid i draw o ev st) ∧ lim (fun k => opF P pol (c k) f ro rid i draw o ev st) = opF P pol (limC c) f ro rid i draw o ev st := by
  obtain ⟨dst, op, type, pos, after, guard⟩ := o
  have other : ∀ x : Option (AV × Heap), (∀ call : CallF, opF P pol call f ro rid i draw ⟨dst, op, type, pos, after, guard⟩ ev st = x) →
      (Up fun k => opF P pol (c k) f ro rid i draw ⟨dst, op, type, pos, after, guard⟩ ev st) ∧ lim (fun k => opF P pol (c k) f ro rid i draw ⟨dst, op, type, pos, after, guard⟩ ev st) = opF P pol (limC c) f ro rid i draw ⟨dst, op, type, pos, after, guard⟩ ev st := by
    intro x hx
    simp only [hx]
    exact ⟨fun _ _ h => h, lim_const x⟩
  cases op with
  | call cl =>
    simp only [opF]
    cases hw : whoOf P ev cl with
    | none => exact ⟨fun _ _ h => by simp at h, lim_const none⟩
    | some wh =>
      simp only [Option.bind_some]
      cases wh with
      | blt b => exact ⟨fun _ _ h => h, lim_const _⟩
      | func g args =>
        simp only
        cases pol.intr g with
        | some fn => exact ⟨fun _ _ h => h, lim_const _⟩
        | none =>
          simp only
          cases pol.intrH g with
          | some fn => exact ⟨fun _ _ h => h, lim_const _⟩
          | none =>
          simp only
          by_cases haw : (pol.away f rid i && !(draw || pol.mu f rid i)) = true
          · simp only [haw, if_true, awayOf]
            cases AV.travL (AV.mapLoc Loc.far) args with
            | none => exact ⟨fun _ _ h => by simp at h, lim_const none⟩
            | some as1 =>
              simp only [Option.bind_some]
              cases AV.travL (AV.mapLoc Loc.push) as1 with
              | none => exact ⟨fun _ _ h => by simp at h, lim_const none⟩
              | some as =>
                simp only [Option.bind_some]
                have e := lim_bind (h := fun _ r => (landOf (hide st) false false 0 r).bind fun q => (q.1.trav (AV.mapLoc Loc.far)).map fun y => (y, ({ q.2 with cur := st.cur } : Heap))) (hc ro g as ((hide st).cur :: (hide st).out) (hide st).glob) (fun a => Up.const _)
                refine ⟨Up.bind (h := fun _ r => (landOf (hide st) false false 0 r).bind fun q => (q.1.trav (AV.mapLoc Loc.far)).map fun y => (y, ({ q.2 with cur := st.cur } : Heap))) (hc ro g as ((hide st).cur :: (hide st).out) (hide st).glob) (fun a => Up.const _), e.trans ?_⟩
                simp only [lim_const]
                rfl
          rw [Bool.not_eq_true] at haw
          simp only [haw, Bool.false_eq_true, if_false]
          cases AV.travL (AV.mapLoc Loc.push) args with
          | none => exact ⟨fun _ _ h => by simp at h, lim_const none⟩
          | some as =>
            simp only [Option.bind_some]
            have e := lim_bind (h := fun _ => landOf st (pol.mu f rid i) draw (slotAt pol f rid i ⟨dst, .call cl, type, pos, after, guard⟩)) (hc (ro || draw) g as (st.cur :: st.out) st.glob) (fun a => Up.const _)
            refine ⟨Up.bind (h := fun _ => landOf st (pol.mu f rid i) draw (slotAt pol f rid i ⟨dst, .call cl, type, pos, after, guard⟩)) (hc (ro || draw) g as (st.cur :: st.out) st.glob) (fun a => Up.const _), e.trans ?_⟩
            simp only [lim_const]
            rfl
  | buildSlice t n ps => cases n with
    | zero => exact other _ (fun _ => rfl)
    | succ n => exact other _ (fun _ => rfl)
  | makeMap t r => cases r with
    | none => exact other _ (fun _ => rfl)
    | some r => exact other _ (fun _ => rfl)
  | _ => exact other _ (fun _ => rfl)

theorem stepOp_lim {c : Nat → CallF} (hc : UpC c) (ops : Array Oper) (st : St) :
    (Up fun k => stepOp P pol (c k) f ro ops rid draw i st) ∧ lim (fun k => stepOp P pol (c k) f ro ops rid draw i st) = stepOp P pol (limC c) f ro ops rid draw i st := by
  unfold stepOp
  cases ops[i]? with
  | none => exact ⟨Up.const _, lim_const _⟩
  | some o =>
    simp only
    cases wanted ops o st.tmps with
    | none => exact ⟨Up.const _, lim_const _⟩
    | some b =>
      cases b with
      | false => exact ⟨Up.const _, lim_const _⟩
      | true =>
        simp only [Option.bind_some, if_true, exOp]
        obtain ⟨h1, h2⟩ := opF_lim (P := P) (pol := pol) (f := f) (ro := ro) (rid := rid) (i := i) (draw := drawn pol f rid ops draw i) hc o (St.ev st.tmps) st.hp
        exact ⟨h1.map _, by rw [lim_map h1, h2]⟩

theorem exOps_lim {c : Nat → CallF} (hc : UpC c) (ops : Array Oper) : ∀ (l : List Nat) (st : St),
    (Up fun k => exOps P pol (c k) f ro ops rid draw l st) ∧ lim (fun k => exOps P pol (c k) f ro ops rid draw l st) = exOps P pol (limC c) f ro ops rid draw l st
  | [], st => ⟨Up.const _, lim_const _⟩
  | i :: l, st => by
    obtain ⟨h1, h2⟩ := stepOp_lim (P := P) (pol := pol) (f := f) (ro := ro) (rid := rid) (i := i) (draw := draw) hc ops st
    have h3 := fun st => exOps_lim hc ops l st
    refine ⟨Up.bind (h := fun k => exOps P pol (c k) f ro ops rid draw l) h1 (fun a => (h3 a).1), ?_⟩
    have e := lim_bind (h := fun k => exOps P pol (c k) f ro ops rid draw l) h1 (fun a => (h3 a).1)
    simp only [exOps]
    rw [e, h2]
    congr 1
    funext a
    exact (h3 a).2
end Go.AE
