/- Temporaries; the operations of a region in one order. -/
import Derived.Test.YtimnggioioeehabGreatDoorAeCall2
import Derived.Orders
namespace Go.AE
open Go.RowKit (Below)

variable {P : Program} {κ : Ctx} {im : Imm} {ob : Obm} {h : Heap} {w : World}

def TR (im : Imm) (ob : Obm) (tmps : Array Value) (tm : Nat → AV) : Prop := ∀ t, V0 im ob (tmps.getD t undef) (tm t)

theorem TR.mono {im' : Imm} {ob' : Obm} (hi : ImLe im im') (ho : ObLe ob ob') {tmps : Array Value} {tm : Nat → AV} (hT : TR im ob tmps tm) : TR im' ob' tmps tm := fun t => (hT t).mono hi ho
theorem TR.ev {a : Act} {tm : Nat → AV} (hT : TR im ob a.tmps tm) : EvR im ob a.eval (St.ev tm) := by
  intro x
  cases x with
  | tmp t => exact hT t
  | const v => exact V0.ofV v
  | global g => exact .undef _
  | func f => exact .fn _ _ _ _ _ rfl rfl (by simp) (by simp)
theorem TR.put {a : Act} {tm : Nat → AV} (hT : TR im ob a.tmps tm) {d : Option Nat} {v : Value} {y : AV} (hV : V0 im ob v y) (hd : ∀ t, d = some t → t < a.tmps.size) : TR im ob (a.put d v).tmps (putT tm d y) := by
  cases d with
  | none => exact hT
  | some t =>
    intro s
    have hlt := hd t rfl
    simp only [Act.put, putT, upd, Array.getD_eq_getD_getElem?, Array.getElem?_setIfInBounds]
    by_cases e : s = t
    · subst e; simp [hlt, hV]
    · rw [if_neg e, if_neg (fun x => e x.symm)]
      have := hT s
      rwa [Array.getD_eq_getD_getElem?] at this
theorem put_size (a : Act) (d : Option Nat) (v : Value) : (a.put d v).tmps.size = a.tmps.size := by
  cases d <;> simp [Act.put]
theorem put_defers (a : Act) (d : Option Nat) (v : Value) : (a.put d v).defers = a.defers := by
  cases d <;> simp [Act.put]

theorem wanted_run {ops : Array Oper} {o : Oper} {a : Act} {tm : Nat → AV} (hT : TR im ob a.tmps tm) {b : Bool} (hw : wanted ops o tm = some b) : Region.wanted o (yielded ops a.tmps) = b := by
  unfold wanted at hw
  unfold Region.wanted
  cases hg : o.guard with
  | none => rw [hg] at hw; simpa using hw
  | some jw =>
    obtain ⟨j, want⟩ := jw
    rw [hg] at hw
    simp only at hw ⊢
    unfold yielded
    cases hd : (ops[j]?).bind (·.dst) with
    | none => rw [hd] at hw; simp at hw; subst hw; rfl
    | some d =>
      rw [hd] at hw
      simp only at hw
      have hV := hT d
      rw [Array.getD_eq_getD_getElem?] at hV
      cases htd : tm d with
      | bool b' =>
        rw [htd] at hw hV
        simp only [Option.some.injEq] at hw
        subst hw
        cases hx : a.tmps[d]? with
        | none => rw [hx] at hV; simp only [Option.getD_none] at hV; unfold undef at hV; cases hV
        | some v =>
          rw [hx] at hV
          simp only [Option.getD_some] at hV
          cases hV
          simp [hx]
      | tup vs =>
        rw [htd] at hw hV
        cases vs with
        | nil =>
          simp only [Option.some.injEq] at hw
          subst hw
          cases hx : a.tmps[d]? with
          | none => simp [hx]
          | some v =>
            rw [hx] at hV
            simp only [Option.getD_some] at hV
            cases hV
            simp [hx]
        | cons => simp at hw
      | _ => rw [htd] at hw; simp at hw

/-- The state of an act, from the begin of its call on. -/
def Now (κ : Ctx) (n : Nat) (im : Imm) (ob : Obm) (st : St) (a : Act) (w : World) : Prop :=
  ∃ im' ob', ImLe im im' ∧ ObLe ob ob' ∧ Inv κ im' ob' st.hp w ∧ TR im' ob' a.tmps st.tmps ∧ a.tmps.size = n ∧ a.defers = []

theorem stepOp_wp {pol : Pol} {call : CallF} {f : FuncId} {rid i n : Nat} {draw : Bool} {ops : Array Oper} (hcall : CallOk P κ.tabs call) (hlaw : LawsOk P κ.tabs pol) (hd : ∀ o ∈ ops.toList, ∀ d, o.dst = some d → d < n) {st st' : St} {a : Act}
    (hN : Now κ n im ob st a w) (hy : stepOp P pol call f κ.ro ops rid draw i st = some st') {K : Act → World → Prop} {Q : Exit → Act → World → Prop} (hK : ∀ a' w', Now κ n im ob st' a' w' → K a' w') : wpOp P ops Q i K a w := by
  unfold stepOp at hy
  unfold wpOp
  split at hy
  · rename_i ho
    simp only [Option.some.injEq] at hy
    subst hy
    simp only [ho]
    exact hK a w hN
  · rename_i o ho
    simp only [ho]
    obtain ⟨im1, ob1, g1, g2, H, hT, hs, hdf⟩ := hN
    have hdo : ∀ t, o.dst = some t → t < a.tmps.size := fun t ht => by
      rw [hs]; exact hd o (List.mem_of_getElem? (by rw [Array.getElem?_toList]; exact ho)) t ht
    simp only [Option.bind_eq_some_iff] at hy
    obtain ⟨b, hb, hy⟩ := hy
    rw [wanted_run hT hb]
    cases b with
    | true =>
      simp only [if_true] at hy ⊢
      refine .inl ?_
      unfold exOp at hy
      simp only [Option.map_eq_some_iff] at hy
      obtain ⟨⟨y, h'⟩, hr, rfl⟩ := hy
      refine op_wp hcall hlaw H hT.ev hr (fun v w' im' ob' H' hi ho hV => hK _ _ ⟨im', ob', g1.trans hi, g2.trans ho, H', ?_, ?_, ?_⟩)
      · exact (hT.mono hi ho).put hV hdo
      · rw [put_size]; exact hs
      · rw [Go.AE.put_defers]; exact hdf
    | false =>
      simp only [Bool.false_eq_true, if_false, Option.some.injEq] at hy ⊢
      subst hy
      refine hK _ _ ⟨im1, ob1, g1, g2, H, hT.put (.tup _ _ rfl (by simp)) hdo, ?_, ?_⟩
      · rw [put_size]; exact hs
      · rw [Go.AE.put_defers]; exact hdf

theorem exOps_wp {pol : Pol} {call : CallF} {f : FuncId} {rid n : Nat} {draw : Bool} {ops : Array Oper} (hcall : CallOk P κ.tabs call) (hlaw : LawsOk P κ.tabs pol) (hd : ∀ o ∈ ops.toList, ∀ d, o.dst = some d → d < n) {Q : Exit → Act → World → Prop} {st' : St}
    (hK : ∀ a' w', Now κ n im ob st' a' w' → Q .normal a' w') : ∀ (l : List Nat) (st : St) (a : Act) (w : World), Now κ n im ob st a w → exOps P pol call f κ.ro ops rid draw l st = some st' → wpOps P ops Q l a w
  | [], st, a, w, hN, hy => by
    simp only [exOps, Option.some.injEq] at hy
    subst hy
    exact hK a w hN
  | i :: l, st, a, w, hN, hy => by
    simp only [exOps, Option.bind_eq_some_iff] at hy
    obtain ⟨st1, h1, h2⟩ := hy
    rw [wpOps_cons]
    exact stepOp_wp hcall hlaw hd hN h1 (fun a' w' hN' => exOps_wp hcall hlaw hd hK l st1 a' w' hN' h2)
end Go.AE
