/- Operators of two operands. -/
import Derived.Test.YtimnggioioeehabGreatDoorAeOps
import Derived.Laws.StructEq
namespace Go.AE
open Go.RowKit (Below)

variable {P : Program} {κ : Ctx} {im : Imm} {ob : Obm} {h : Heap} {w : World}

theorem negIf_eq {op : BinOp} {b : Bool} {z : AV} (hz : negIf op b = some z) : (op = .eql ∧ z = .bool b) ∨ (op = .neq ∧ z = .bool !b) := by
  cases op <;> simp [negIf] at hz
  · exact .inl ⟨rfl, hz.symm⟩
  · exact .inr ⟨rfl, hz.symm⟩

theorem eqf_cons' {d : Nat} {xs ys : Array Value} {f : Field} {fs : List Field} {a b : Value} {r s : Bool} (hn : f.name ≠ "_") (ha : (part f.type xs f.offset).run P w = .ok a w) (hb : (part f.type ys f.offset).run P w = .ok b w)
    (he : (Op.equalIn d f.type a b).run P w = .ok r w) (hr : (Op.eqFields d xs ys fs).run P w = .ok s w) : (Op.eqFields d xs ys (f :: fs)).run P w = .ok (r && s) w := by
  rw [Op.eqFields]
  simp only [if_pos hn, Sem.run_bind, ha, hb, he, Result.andThen_ok]
  cases r
  · simp
  · simpa using hr

theorem eqFields_run (w : World) : ∀ (n d : Nat) (t : TypeId) (va vb : Value) (x y : AV) (e : Bool), n ≤ d → V0 im ob va x → V0 im ob vb y → eqFields P n t x y = some e →
    (Op.equalIn d t va vb).run P w = .ok e w
  | 0, _, _, _, _, _, _, _, _, _, _, he => by simp [eqFields] at he
  | n + 1, 0, _, _, _, _, _, _, hd, _, _, _ => by omega
  | n + 1, d + 1, t, va, vb, x, y, e, hd, hx, hy, he => by
    unfold eqFields at he
    split at he
    · rename_i fs cs ds hu
      split at he
      · cases he
      · rename_i hst
        cases hx with | agg xs cs hx1 hx2 =>
        cases hy with | agg ys ds hy1 hy2 =>
        have hf : P.fieldsOf t = fs := by simp [Program.fieldsOf, hu]
        rw [run_equalIn_struct (P := P) w d t xs ys (by rw [hf]; exact hu) (by simpa using hst), hf]
        generalize fs.toList = l at he
        induction l generalizing e with
        | nil => simp at he; subst he; simp [Op.eqFields]
        | cons fd r ih =>
          simp only [List.foldr_cons, Option.bind_eq_some_iff] at he
          obtain ⟨ag, hag, m, hm, a, ha, b, hb, he⟩ := he
          split at he
          · rename_i hn
            rw [Op.eqFields, if_neg (by simp [hn])]
            exact ih e he
          · rename_i hn
            simp only [Option.bind_eq_some_iff, Option.map_eq_some_iff] at he
            obtain ⟨e1, he1, e2, he2, rfl⟩ := he
            obtain ⟨pa, hpa, hVa⟩ := run_part (w := w) hag hm hx1 hx2 ha
            obtain ⟨pb, hpb, hVb⟩ := run_part (w := w) hag hm hy1 hy2 hb
            exact eqf_cons' hn hpa hpb (eqFields_run w n d fd.type pa pb a b e1 (by omega) hVa hVb he1) (ih e2 he2)
    · rename_i k k1 a k2 b hu
      split at he
      · rename_i hk
        simp only [Option.some.injEq] at he; subst he; subst hk
        cases hx; cases hy
        simp [Op.equalIn, run_underlying hu]
      · cases he
    · rename_i a b hu
      simp only [Option.some.injEq] at he; subst he
      cases hx; cases hy
      simp [Op.equalIn, run_underlying hu]
    · rename_i a b hu
      simp only [Option.some.injEq] at he; subst he
      cases hx; cases hy
      simp [Op.equalIn, run_underlying hu]
    · cases he

theorem isNil_cases {d : TypeDesc} {v : Value} {x : AV} {a : Bool} (hV : V0 im ob v x) (ha : isNil d x = some a) :
    (∃ e, d = .slice e ∧ ((a = true ∧ v = .slice none 0 0) ∨ (a = false ∧ ∃ p l c, v = .slice (some p) l c))) ∨
    (∃ e, d = .pointer e ∧ ((a = true ∧ v = .pointer none) ∨ (a = false ∧ ∃ p, v = .pointer (some p)))) ∨
    (∃ k e, d = .map k e ∧ ((a = true ∧ v = .map none) ∨ (a = false ∧ ∃ p, v = .map (some p)))) ∨
    (∃ ms, d = .interface ms ∧ ((a = true ∧ v = .nilIface) ∨ (a = false ∧ ∃ t u, v = .iface t u))) ∨
    (∃ ps rs q, d = .func ps rs q ∧ ((a = true ∧ v = .nilFunc) ∨ (a = false ∧ ∃ f l m, v = .func f l m))) := by
  unfold isNil at ha
  split at ha <;> first | (cases ha; done) | skip
  · simp only [Option.some.injEq] at ha; subst ha
    refine .inl ⟨_, rfl, ?_⟩
    cases hV
    · exact .inl ⟨rfl, rfl⟩
    · exact .inr ⟨rfl, _, _, _, rfl⟩
    · exact .inr ⟨rfl, _, _, _, rfl⟩
  · cases ha; cases hV; exact .inl ⟨_, rfl, .inr ⟨rfl, _, _, _, rfl⟩⟩
  · cases ha; cases hV; exact .inr (.inl ⟨_, rfl, .inl ⟨rfl, rfl⟩⟩)
  · cases ha; cases hV; exact .inr (.inl ⟨_, rfl, .inr ⟨rfl, _, rfl⟩⟩)
  · cases ha; cases hV; exact .inr (.inl ⟨_, rfl, .inr ⟨rfl, _, rfl⟩⟩)
  · cases ha; cases hV; exact .inr (.inl ⟨_, rfl, .inr ⟨rfl, _, rfl⟩⟩)
  · cases ha; cases hV; exact .inr (.inr (.inl ⟨_, _, rfl, .inl ⟨rfl, rfl⟩⟩))
  · cases ha; cases hV; exact .inr (.inr (.inl ⟨_, _, rfl, .inr ⟨rfl, _, rfl⟩⟩))
  · cases ha; cases hV; exact .inr (.inr (.inr (.inl ⟨_, rfl, .inl ⟨rfl, rfl⟩⟩)))
  · cases ha; cases hV; exact .inr (.inr (.inr (.inl ⟨_, rfl, .inr ⟨rfl, _, _, rfl⟩⟩)))
  · cases ha; cases hV; exact .inr (.inr (.inr (.inr ⟨_, _, _, rfl, .inl ⟨rfl, rfl⟩⟩)))
  · cases ha; cases hV; exact .inr (.inr (.inr (.inr ⟨_, _, _, rfl, .inr ⟨rfl, _, _, _, rfl⟩⟩)))

theorem nil_equalIn {t : TypeId} {d : TypeDesc} (hu : P.underlying t = some d) {va vb : Value} {x y : AV} {a b : Bool} (hx : V0 im ob va x) (hy : V0 im ob vb y)
    (ha : isNil d x = some a) (hb : isNil d y = some b) (hab : (a || b) = true) (m : Nat) : (Op.equalIn (m + 1) t va vb).run P w = .ok (a && b) w := by
  rcases isNil_cases hx ha with ⟨e, rfl, h1⟩ | ⟨e, rfl, h1⟩ | ⟨k, e, rfl, h1⟩ | ⟨ms, rfl, h1⟩ | ⟨ps, rs, q, rfl, h1⟩ <;>
  rcases isNil_cases hy hb with ⟨e2, he, h2⟩ | ⟨e2, he, h2⟩ | ⟨k2, e2, he, h2⟩ | ⟨ms2, he, h2⟩ | ⟨ps2, rs2, q2, he, h2⟩ <;> first | (cases he; done) | skip
  · rcases h1 with ⟨rfl, rfl⟩ | ⟨rfl, p, l, c, rfl⟩ <;> rcases h2 with ⟨rfl, rfl⟩ | ⟨rfl, p2, l2, c2, rfl⟩ <;> first | (cases hab; done) | simp [Op.equalIn, run_underlying hu]
  · rcases h1 with ⟨rfl, rfl⟩ | ⟨rfl, p, rfl⟩ <;> rcases h2 with ⟨rfl, rfl⟩ | ⟨rfl, p2, rfl⟩ <;> first | (cases hab; done) | simp [Op.equalIn, run_underlying hu]
  · rcases h1 with ⟨rfl, rfl⟩ | ⟨rfl, p, rfl⟩ <;> rcases h2 with ⟨rfl, rfl⟩ | ⟨rfl, p2, rfl⟩ <;> first | (cases hab; done) | simp [Op.equalIn, run_underlying hu]
  · rcases h1 with ⟨rfl, rfl⟩ | ⟨rfl, p, u, rfl⟩ <;> rcases h2 with ⟨rfl, rfl⟩ | ⟨rfl, p2, u2, rfl⟩ <;> first | (cases hab; done) | simp [Op.equalIn, run_underlying hu]
  · rcases h1 with ⟨rfl, rfl⟩ | ⟨rfl, p, l, c, rfl⟩ <;> rcases h2 with ⟨rfl, rfl⟩ | ⟨rfl, p2, l2, c2, rfl⟩ <;> first | (cases hab; done) | simp [Op.equalIn, run_underlying hu]

theorem nil_equal {t : TypeId} {d : TypeDesc} (hu : P.underlying t = some d) {va vb : Value} {x y : AV} {a b : Bool} (hx : V0 im ob va x) (hy : V0 im ob vb y)
    (ha : isNil d x = some a) (hb : isNil d y = some b) (hab : (a || b) = true) : (Op.equal t va vb).run P w = .ok (a && b) w := nil_equalIn hu hx hy ha hb hab 9999
theorem bool_equal {t : TypeId} (hu : P.underlying t = some .bool) (a b : Bool) : (Op.equal t (.bool a) (.bool b)).run P w = .ok (a == b) w := by
  have : ∀ m, (Op.equalIn (m + 1) t (.bool a) (.bool b)).run P w = .ok (a == b) w := fun m => by simp [Op.equalIn, run_underlying hu]
  exact this 9999

theorem eqGuard_scal {op : BinOp} {t : TypeId} {x y : Operand} {a b : Value} (hn : ¬ (a = .nilIface ∧ b = .nilIface)) (ha : ∀ xs ys, ¬ (a = .agg xs ∧ b = .agg ys)) : (eqGuard op t x y a b).run P w = .ok () w := by
  unfold eqGuard
  split
  · rw [if_neg (by decide)]
    split
    · exact absurd ⟨rfl, rfl⟩ hn
    · exact absurd ⟨rfl, rfl⟩ (ha _ _)
    · rfl
  · rw [if_neg (by decide)]
    split
    · exact absurd ⟨rfl, rfl⟩ hn
    · exact absurd ⟨rfl, rfl⟩ (ha _ _)
    · rfl
  · rw [if_pos (by decide)]; rfl
theorem eqGuard_agg {op : BinOp} {t : TypeId} {x y : Operand} {xs ys : Array Value} (hg : P.eqGuardType P.depth t = false) : (eqGuard op t x y (.agg xs) (.agg ys)).run P w = .ok () w := by
  unfold eqGuard
  split
  · rw [if_neg (by decide)]; simp [hg]
  · rw [if_neg (by decide)]; simp [hg]
  · rw [if_pos (by decide)]; rfl
theorem eqGuard_nil {op : BinOp} {t : TypeId} {x y : Operand} (hc : isConst x = true ∨ isConst y = true) : (eqGuard op t x y .nilIface .nilIface).run P w = .ok () w := by
  unfold eqGuard
  split
  · rw [if_neg (by decide)]; cases x <;> cases y <;> simp [isConst] at hc <;> simp
  · rw [if_neg (by decide)]; cases x <;> cases y <;> simp [isConst] at hc <;> simp
  · rw [if_pos (by decide)]; rfl

theorem binScal_run {op : BinOp} {t : TypeId} {va vb : Value} {x y z : AV} (hx : V0 im ob va x) (hy : V0 im ob vb y) (hz : binScal op x y = some z) :
    (∃ v, (binOp op t va vb).run P w = .ok v w ∧ V0 im ob v z) ∧ ¬ (va = .nilIface ∧ vb = .nilIface) ∧ ∀ xs ys, ¬ (va = .agg xs ∧ vb = .agg ys) := by
  unfold binScal at hz
  split at hz
  · cases hx; cases hy
    rename_i k a k' b
    refine ⟨?_, by simp, by simp⟩
    cases op
    case add => simp only at hz; split at hz; · cases hz
                rename_i hk; simp only [ne_eq, Decidable.not_not] at hk; subst hk; cases hz; exact ⟨_, by simp only [binOp, Op.intArith, ne_eq, not_true_eq_false, if_false]; rfl, .int _ _⟩
    case sub => simp only at hz; split at hz; · cases hz
                rename_i hk; simp only [ne_eq, Decidable.not_not] at hk; subst hk; cases hz; exact ⟨_, by simp only [binOp, Op.intArith, ne_eq, not_true_eq_false, if_false]; rfl, .int _ _⟩
    case mul => simp only at hz; split at hz; · cases hz
                rename_i hk; simp only [ne_eq, Decidable.not_not] at hk; subst hk; cases hz; exact ⟨_, by simp only [binOp, Op.intArith, ne_eq, not_true_eq_false, if_false]; rfl, .int _ _⟩
    case quo => simp only at hz; split at hz; · cases hz
                split at hz; · cases hz
                rename_i hk hb; simp only [ne_eq, Decidable.not_not] at hk; subst hk; cases hz; exact ⟨_, by simp only [binOp, Op.intDiv, ne_eq, not_true_eq_false, if_false]; rw [if_neg hb]; rfl, .int _ _⟩
    case rem => simp only at hz; split at hz; · cases hz
                split at hz; · cases hz
                rename_i hk hb; simp only [ne_eq, Decidable.not_not] at hk; subst hk; cases hz; exact ⟨_, by simp only [binOp, Op.intDiv, ne_eq, not_true_eq_false, if_false]; rw [if_neg hb]; rfl, .int _ _⟩
    case and => simp only at hz; split at hz; · cases hz
                rename_i hk; simp only [ne_eq, Decidable.not_not] at hk; subst hk; cases hz; exact ⟨_, by simp only [binOp, Op.intBits, ne_eq, not_true_eq_false, if_false]; rfl, .int _ _⟩
    case or => simp only at hz; split at hz; · cases hz
               rename_i hk; simp only [ne_eq, Decidable.not_not] at hk; subst hk; cases hz; exact ⟨_, by simp only [binOp, Op.intBits, ne_eq, not_true_eq_false, if_false]; rfl, .int _ _⟩
    case xor => simp only at hz; split at hz; · cases hz
                rename_i hk; simp only [ne_eq, Decidable.not_not] at hk; subst hk; cases hz; exact ⟨_, by simp only [binOp, Op.intBits, ne_eq, not_true_eq_false, if_false]; rfl, .int _ _⟩
    case andNot => simp only at hz; split at hz; · cases hz
                   rename_i hk; simp only [ne_eq, Decidable.not_not] at hk; subst hk; cases hz; exact ⟨_, by simp only [binOp, Op.intBits, ne_eq, not_true_eq_false, if_false]; rfl, .int _ _⟩
    case shl => simp only at hz; split at hz; · cases hz
                rename_i hb; cases hz; exact ⟨_, by simp only [binOp, Op.shift]; rw [if_neg hb]; rfl, .int _ _⟩
    case shr => simp only at hz; split at hz; · cases hz
                rename_i hb; cases hz; exact ⟨_, by simp only [binOp, Op.shift]; rw [if_neg hb]; rfl, .int _ _⟩
    case eql => simp only at hz; split at hz; · cases hz
                rename_i hk; simp only [ne_eq, Decidable.not_not] at hk; subst hk; cases hz; exact ⟨_, by simp only [binOp, Op.intCmp, ne_eq, not_true_eq_false, if_false]; rfl, .bool _⟩
    case neq => simp only at hz; split at hz; · cases hz
                rename_i hk; simp only [ne_eq, Decidable.not_not] at hk; subst hk; cases hz; exact ⟨_, by simp only [binOp, Op.intCmp, ne_eq, not_true_eq_false, if_false]; rfl, .bool _⟩
    case lss => simp only at hz; split at hz; · cases hz
                rename_i hk; simp only [ne_eq, Decidable.not_not] at hk; subst hk; cases hz; exact ⟨_, by simp only [binOp, Op.intCmp, ne_eq, not_true_eq_false, if_false]; rfl, .bool _⟩
    case leq => simp only at hz; split at hz; · cases hz
                rename_i hk; simp only [ne_eq, Decidable.not_not] at hk; subst hk; cases hz; exact ⟨_, by simp only [binOp, Op.intCmp, ne_eq, not_true_eq_false, if_false]; rfl, .bool _⟩
    case gtr => simp only at hz; split at hz; · cases hz
                rename_i hk; simp only [ne_eq, Decidable.not_not] at hk; subst hk; cases hz; exact ⟨_, by simp only [binOp, Op.intCmp, ne_eq, not_true_eq_false, if_false]; rfl, .bool _⟩
    case geq => simp only at hz; split at hz; · cases hz
                rename_i hk; simp only [ne_eq, Decidable.not_not] at hk; subst hk; cases hz; exact ⟨_, by simp only [binOp, Op.intCmp, ne_eq, not_true_eq_false, if_false]; rfl, .bool _⟩
  · cases hx; cases hy
    rename_i a b
    refine ⟨?_, by simp, by simp⟩
    cases op
    case add => simp only at hz; split at hz; · cases hz
                rename_i hk; cases hz; exact ⟨_, by simp only [binOp, Op.stringOp]; rw [if_neg hk]; rfl, .str _⟩
    case eql => cases hz; exact ⟨_, by simp only [binOp, Op.stringOp]; rfl, .bool _⟩
    case neq => cases hz; exact ⟨_, by simp only [binOp, Op.stringOp]; rfl, .bool _⟩
    case lss => cases hz; exact ⟨_, by simp only [binOp, Op.stringOp]; rfl, .bool _⟩
    case leq => cases hz; exact ⟨_, by simp only [binOp, Op.stringOp]; rfl, .bool _⟩
    case gtr => cases hz; exact ⟨_, by simp only [binOp, Op.stringOp]; rfl, .bool _⟩
    case geq => cases hz; exact ⟨_, by simp only [binOp, Op.stringOp]; rfl, .bool _⟩
    all_goals (cases hz)
  · cases hz

theorem binOf_run {op : BinOp} {t : TypeId} {x y : Operand} {va vb : Value} {xa ya z : AV} (hx : V0 im ob va xa) (hy : V0 im ob vb ya)
    (hz : binOf P op t xa ya (isConst x) (isConst y) = some z) : ∃ v, (do eqGuard op t x y va vb; binOp op t va vb : Sem Value).run P w = .ok v w ∧ V0 im ob v z := by
  have close : ∀ {v : Value}, (eqGuard op t x y va vb).run P w = .ok () w → (binOp op t va vb).run P w = .ok v w → (do eqGuard op t x y va vb; binOp op t va vb : Sem Value).run P w = .ok v w := by
    intro v h1 h2
    simp [h1, h2]
  unfold binOf at hz
  split at hz
  · obtain ⟨⟨v, hv, hV⟩, h1, h2⟩ := binScal_run (P := P) (w := w) (t := t) hx hy hz
    exact ⟨v, close (eqGuard_scal h1 h2) hv, hV⟩
  · obtain ⟨⟨v, hv, hV⟩, h1, h2⟩ := binScal_run (P := P) (w := w) (t := t) hx hy hz
    exact ⟨v, close (eqGuard_scal h1 h2) hv, hV⟩
  · rename_i a b
    split at hz
    · rename_i hu
      cases hx; cases hy
      rcases negIf_eq hz with ⟨rfl, rfl⟩ | ⟨rfl, rfl⟩
      · exact ⟨.bool (a == b), close (eqGuard_scal (by simp) (by simp)) (by simp [binOp, bool_equal hu]), .bool _⟩
      · exact ⟨.bool !(a == b), close (eqGuard_scal (by simp) (by simp)) (by simp [binOp, bool_equal hu]), .bool _⟩
    · cases hz
  · rename_i cs ds
    split at hz
    · cases hz
    · rename_i hg
      simp only [Option.bind_eq_some_iff] at hz
      obtain ⟨e, he, hz⟩ := hz
      have heq : (Op.equal t va vb).run P w = .ok e w := eqFields_run (P := P) w 20 10000 t va vb _ _ e (by omega) hx hy he
      cases hx; cases hy
      rename_i xs hx1 hx2 ys hy1 hy2
      have hgd : (eqGuard op t x y (.agg xs) (.agg ys)).run P w = .ok () w := eqGuard_agg (by simpa using hg)
      rcases negIf_eq hz with ⟨rfl, rfl⟩ | ⟨rfl, rfl⟩
      · exact ⟨.bool e, close hgd (by simp [binOp, heq]), .bool _⟩
      · exact ⟨.bool !e, close hgd (by simp [binOp, heq]), .bool _⟩
  · simp only [Option.bind_eq_some_iff] at hz
    obtain ⟨d, hu, a, ha, b, hb, hz⟩ := hz
    split at hz
    · rename_i hc
      simp only [Bool.and_eq_true] at hc
      have hrun := nil_equal (w := w) hu hx hy ha hb hc.1
      have hnn : (va = .nilIface ∧ vb = .nilIface) → a = true ∧ b = true := by
        rintro ⟨rfl, rfl⟩
        rcases isNil_cases hx ha with ⟨e, rfl, h1⟩ | ⟨e, rfl, h1⟩ | ⟨k, e, rfl, h1⟩ | ⟨ms, rfl, h1⟩ | ⟨ps, rs, q, rfl, h1⟩ <;> simp at h1
        rcases isNil_cases hy hb with ⟨e, he, h2⟩ | ⟨e, he, h2⟩ | ⟨k, e, he, h2⟩ | ⟨ms, he, h2⟩ | ⟨ps, rs, q, he, h2⟩ <;> simp at h2
        exact ⟨h1, h2⟩
      have hag : ∀ xs ys, ¬ (va = .agg xs ∧ vb = .agg ys) := by
        rintro xs ys ⟨rfl, _⟩
        rcases isNil_cases hx ha with ⟨e, rfl, h1⟩ | ⟨e, rfl, h1⟩ | ⟨k, e, rfl, h1⟩ | ⟨ms, rfl, h1⟩ | ⟨ps, rs, q, rfl, h1⟩ <;> simp at h1
      have hgd : (eqGuard op t x y va vb).run P w = .ok () w := by
        by_cases hni : va = .nilIface ∧ vb = .nilIface
        · obtain ⟨ha1, hb1⟩ := hnn hni
          obtain ⟨rfl, rfl⟩ := hni
          exact eqGuard_nil (by simpa [ha1, hb1] using hc.2)
        · exact eqGuard_scal hni hag
      have hbin : ∀ v, (op = .eql ∧ v = .bool (a && b)) ∨ (op = .neq ∧ v = .bool !(a && b)) → (binOp op t va vb).run P w = .ok v w := by
        rcases isNil_cases hx ha with ⟨e, rfl, h1⟩ | ⟨e, rfl, h1⟩ | ⟨k, e, rfl, h1⟩ | ⟨ms, rfl, h1⟩ | ⟨ps, rs, q, rfl, h1⟩ <;>
        rcases h1 with ⟨rfl, rfl⟩ | ⟨rfl, h1⟩ <;> (try (obtain ⟨p1, p2, p3, rfl⟩ := h1)) <;> (try (obtain ⟨p1, p2, rfl⟩ := h1)) <;> (try (obtain ⟨p1, rfl⟩ := h1)) <;>
        (rintro v (⟨rfl, rfl⟩ | ⟨rfl, rfl⟩) <;> simp [binOp, hrun])
      rcases negIf_eq hz with ⟨h1, rfl⟩ | ⟨h1, rfl⟩
      · exact ⟨_, close hgd (hbin _ (.inl ⟨h1, rfl⟩)), .bool _⟩
      · exact ⟨_, close hgd (hbin _ (.inr ⟨h1, rfl⟩)), .bool _⟩
    · cases hz
end Go.AE
