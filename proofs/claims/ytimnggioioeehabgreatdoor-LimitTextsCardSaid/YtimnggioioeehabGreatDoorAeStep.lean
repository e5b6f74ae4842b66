/- One operation that is no call of a function. -/
import Derived.Test.YtimnggioioeehabGreatDoorAeMap
namespace Go.AE
open Go.RowKit (Below)

variable {P : Program} {κ : Ctx} {im : Imm} {ob : Obm} {h : Heap} {w : World}

def OpRun (P : Program) (κ : Ctx) (im : Imm) (ob : Obm) (ρ : Operand → Value) (o : Oper) (w : World) (y : AV) (h' : Heap) : Prop :=
  ∃ n w' im' ob', (execOp ρ o).run P w = .ok n w' ∧ ((∃ v, n = .value v ∧ V0 im' ob' v y) ∨ (n = .skip ∧ y = .tup [])) ∧ Inv κ im' ob' h' w' ∧ ImLe im im' ∧ ObLe ob ob'

theorem OpRun.pure {ρ : Operand → Value} {o : Oper} {y : AV} {v : Value} (H : Inv κ im ob h w) (hr : (execOp ρ o).run P w = .ok (.value v) w) (hV : V0 im ob v y) : OpRun P κ im ob ρ o w y h :=
  ⟨.value v, w, im, ob, hr, .inl ⟨v, rfl, hV⟩, H, ImLe.refl _, ObLe.refl _⟩

/-- A slice over an object, by its content for good. -/
theorem freeze_run (H : Inv κ im ob h w) {vx : Value} {c : Loc} {v off len sz : Nat} {nl : Bool} {xs ys : List (List AV)} (hX : V0 im ob vx (.rsl c v off len)) (hro : κ.ro = true → c.here = true)
    (hel : (if off + len ≤ xs.length then mapO (mapO c.from) ((xs.drop off).take len) else none) = some ys) (hk : h.con c v = .arr nl sz xs ∨ h.con c v = .frz nl sz xs) :
    ∃ im', Inv κ im' ob (h.setObj c ⟨v, .frz nl sz xs⟩) w ∧ ImLe im im' ∧ V0 im' ob vx (.sl nl sz ys) := by
  split at hel
  case isFalse => cases hel
  rename_i hle
  have hlen : ys.length = len := by have := mapO_length hel; simp at this; omega
  have hver : (h.obj c).ver = v := by rcases hk with hk | hk <;> exact (con_eq hk (by simp)).1
  have hval : h.valid c := by rcases hk with hk | hk <;> exact valid_of_con (by rw [(con_eq hk (by simp)).2]; simp)
  -- the object changes, no block does
  have upd : ∀ im' : Imm, ImLe im im' → (∀ b off v, im' b off = some v → im b off = some v ∨ ((w.heap.size ≤ b ∨ owns h ob c b) ∧ w.cell? ⟨b, off, none⟩ = some v)) → ObjR im' ob κ.B w c ⟨v, .frz nl sz xs⟩ →
      Inv κ im' ob (h.setObj c ⟨v, .frz nl sz xs⟩) w := fun im' hi hn hnew =>
    H.upd c ⟨v, .frz nl sz xs⟩ (obj_setObj h c _ hval) (out_setObj h c _) hi (ObLe.refl _) (fun _ _ _ => rfl) (fun v' hv' => H.fresh c v' (by rw [hver]; exact hv')) (fun i v' hi => H.freshG i v' (by rw [glob_setObj] at hi; exact hi))
      (Nat.le_refl _) rfl rfl rfl (fun _ _ _ => rfl) hn hnew (fun b sz n hl _ => by simp [Con.live] at hl) hro
  have get : ∀ (i : Nat) (e : List AV), ys[i]? = some e → ∃ a, xs[off + i]? = some a ∧ mapO c.from a = some e := by
    intro i e he
    obtain ⟨a, ha, hf⟩ := mapO_get' hel i e he
    simp only [List.getElem?_take, List.getElem?_drop] at ha
    split at ha
    · exact ⟨a, ha, hf⟩
    · cases ha
  rcases hX.rsl_inv with ⟨rfl, hb⟩ | ⟨a, rfl, hb⟩ | ⟨cap, b, sz', n, rfl, hb, hc, hn⟩
  · have hys : ys = [] := by
      cases hX <;> simpa using hlen
    have hob : nl = true ∧ xs = [] := by
      rcases hk with hk | hk
      · have ho := H.objs c; rw [obj_mk hk (by simp)] at ho
        rcases ho with ⟨h1, h2, h3⟩ | ⟨h1, h2, a, h3⟩ | ⟨h0, b, n, c', T, fz, h1, _⟩
        · exact ⟨h1, h2⟩
        · rw [hb] at h3; cases h3
        · rw [hb] at h1; cases h1
      · have ho := H.objs c; rw [obj_mk hk (by simp)] at ho
        rcases ho with ⟨h1, h2, h3⟩ | ⟨h1, h2, a, h3⟩ | ⟨h0, b, n, h1, _⟩
        · exact ⟨h1, h2⟩
        · rw [hb] at h3; cases h3
        · rw [hb] at h1; cases h1
    obtain ⟨rfl, rfl⟩ := hob
    subst hys
    exact ⟨im, upd im (ImLe.refl _) (fun _ _ _ hv => .inl hv) (.inl ⟨rfl, rfl, hb⟩), ImLe.refl _, .snil _⟩
  · have hys : ys = [] := by
      cases hX <;> simpa using hlen
    have hob : nl = false ∧ xs = [] := by
      rcases hk with hk | hk
      · have ho := H.objs c; rw [obj_mk hk (by simp)] at ho
        rcases ho with ⟨h1, h2, h3⟩ | ⟨h1, h2, a, h3⟩ | ⟨h0, b, n, c', T, fz, h1, _⟩
        · rw [hb] at h3; cases h3
        · exact ⟨h1, h2⟩
        · rw [hb] at h1; cases h1
      · have ho := H.objs c; rw [obj_mk hk (by simp)] at ho
        rcases ho with ⟨h1, h2, h3⟩ | ⟨h1, h2, a, h3⟩ | ⟨h0, b, n, h1, _⟩
        · rw [hb] at h3; cases h3
        · exact ⟨h1, h2⟩
        · rw [hb] at h1; cases h1
    obtain ⟨rfl, rfl⟩ := hob
    subst hys
    exact ⟨im, upd im (ImLe.refl _) (fun _ _ _ hv => .inl hv) (.inr (.inl ⟨rfl, rfl, a, hb⟩)), ImLe.refl _, .slE a 0 sz⟩
  · rcases hk with hk | hk
    · have ho := H.objs c
      have hobj := obj_mk hk (by simp)
      rw [hobj] at ho
      rcases ho with ⟨h1, h2, h3⟩ | ⟨h1, h2, a, h3⟩ | ⟨h0, b', n', cur, T, fz, h1, h2, h3, h4, h5, h6, h7, h8⟩
      · rw [hb] at h3; cases h3
      · rw [hb] at h3; cases h3
      rw [hb] at h1; cases h1
      subst h0
      have hown : owns h ob c b := ⟨by rw [hobj]; simp [Con.live], sz, n, by rw [hobj]; exact hb⟩
      let im' : Imm := fun b' o => if b' = b then cur[o]? else im b' o
      have hle' : ImLe im im' := fun b' o v hv => by
        have hne : b' ≠ b := fun e => by subst e; rw [h7] at hv; cases hv
        simp only [im', if_neg hne]; exact hv
      have hat : ∀ o, im' b o = cur[o]? := fun o => by simp [im']
      have hin : ∀ i j, i < xs.length → j < sz → i * sz + j < cur.size := fun i j hi hj => by
        have : (i + 1) * sz ≤ xs.length * sz := Nat.mul_le_mul_right _ hi
        rw [Nat.succ_mul] at this; omega
      refine ⟨im', upd im' hle' (fun b' o v hv => ?_) (.inr (.inr ⟨rfl, b, n, hb, h5, fun i j hi hj => ⟨cur[i * sz + j]'(hin i j hi hj), by rw [hat]; simp [hin i j hi hj]⟩, fun i j e v x he hx hv => ?_⟩)), hle', ?_⟩
      · by_cases e : b' = b
        · subst e
          rw [hat] at hv
          exact .inr ⟨.inr hown, by simp [World.cell?, h2, hv]⟩
        · simp only [im', if_neg e] at hv; exact .inl hv
      · rw [hat] at hv
        exact (h6 i j e v x he hx hv).mono hle' (ObLe.refl _)
      · refine .sl _ _ _ _ _ sz hlen hc (fun i e he => ?_) (fun i j hi hj => ?_) (fun i j e v x he hx hv => ?_)
        · obtain ⟨a, ha, hf⟩ := get i e he
          rw [mapO_length hf]; exact h5 _ a ha
        · have hlt := hin (off + i) j (by omega) hj
          exact ⟨cur[(off + i) * sz + j], by rw [← Nat.add_mul, hat]; simp [hlt]⟩
        · obtain ⟨a, ha, hf⟩ := get i e he
          obtain ⟨q, hq, hg⟩ := mapO_get' hf j x hx
          rw [← Nat.add_mul, hat] at hv
          exact ((h6 _ j a v q ha hq hv).from_ hg).mono hle' (ObLe.refl _)
    · have ho := H.objs c
      have hobj := obj_mk hk (by simp)
      rw [hobj] at ho
      have ho' := ho
      rcases ho with ⟨h1, h2, h3⟩ | ⟨h1, h2, a, h3⟩ | ⟨h0, b', n', h1, h2, h3, h4⟩
      · rw [hb] at h3; cases h3
      · rw [hb] at h3; cases h3
      rw [hb] at h1; cases h1
      subst h0
      refine ⟨im, upd im (ImLe.refl _) (fun _ _ _ hv => .inl hv) ho', ImLe.refl _, ?_⟩
      refine .sl _ _ _ _ _ sz hlen hc (fun i e he => ?_) (fun i j hi hj => ?_) (fun i j e v x he hx hv => ?_)
      · obtain ⟨a, ha, hf⟩ := get i e he
        rw [mapO_length hf]; exact h2 _ a ha
      · rw [← Nat.add_mul]; exact h3 _ j (by omega) hj
      · obtain ⟨a, ha, hf⟩ := get i e he
        obtain ⟨q, hq, hg⟩ := mapO_get' hf j x hx
        rw [← Nat.add_mul] at hv
        exact (h4 _ j a v q ha hq hv).from_ hg

theorem globRo {b ro : Bool} : ro = true → (b && !ro) = false := by intro e; subst e; simp

theorem len_run (H : Inv κ im ob h w) {t ty : TypeId} {at_ : Array TypeId} {vx : Value} {x : AV} {d : TypeDesc} {n : Int} (hat : at_[0]? = some t) (hd : P.underlying t = some d) (hX : V0 im ob vx x)
    (hy : lenAll h d x = some n) : (Builtin.len_ at_ ty #[vx]).run P w = .ok (.int .i64 n) w := by
  unfold lenAll at hy
  split at hy
  · rename_i m v hd hX
    split at hy
    · rename_i es hk
      simp only [Option.some.injEq] at hy
      subst hy
      obtain ⟨b, sz, n, es', clk, rfl, hb, h2, h3, h4, h5, h6⟩ := mapAt H hX hk
      simp [Builtin.len_, hat, run_underlying hd, MapKept.run_getObj_map h2, goInt, Result.andThen, h3]
    · cases hy
  · simp only [Option.some.injEq] at hy
    subst hy
    rename_i hd hX
    cases hX
    simp [Builtin.len_, hat, run_underlying hd, goInt, Result.andThen]
  · simp only [Option.some.injEq] at hy
    subst hy
    rename_i b hd hX
    cases hX
    simp [Builtin.len_, hat, run_underlying hd, goInt, Result.andThen]
  · simp only [Option.map_eq_some_iff] at hy
    obtain ⟨m, hn, hmn⟩ := hy
    have hmn : (m : Int) = n := hmn
    subst hmn
    rename_i hd
    have : ∃ base cap, vx = .slice base m cap := by
      cases hX <;> simp [lenOf] at hn <;> simp_all
    obtain ⟨base, cap, rfl⟩ := this
    simp [Builtin.len_, hat, run_underlying hd, goInt, Result.andThen]
  · cases hy

theorem V0.int_inv {v : Value} {k : IntKind} {n : Int} (hV : V0 im ob v (.int k n)) : v = .int k n := by cases hV; rfl

theorem fold_run (mx : Bool) (g : Value → Value → Sem Value) (hg : ∀ k k' a b (w : World), (g (.int k a) (.int k' b)).run P w = .ok (.int k (if mx then (if b > a then b else a) else (if b < a then b else a))) w) :
    ∀ (vs : List Value) (xs : List AV) (vx : Value) (x y : AV), vs.length = xs.length → V0 im ob vx x → (∀ (j : Nat) v x, vs[j]? = some v → xs[j]? = some x → V0 im ob v x) → foldO (extreme mx) x xs = some y →
    ∃ v, (vs.foldlM g vx).run P w = .ok v w ∧ V0 im ob v y
  | [], xs, vx, x, y, hl, hx, hv, hy => by
    have : xs = [] := by simpa using hl.symm
    subst this
    simp [foldO] at hy; subst hy
    exact ⟨vx, by simp, hx⟩
  | v :: vs, [], vx, x, y, hl, hx, hv, hy => by simp at hl
  | v :: vs, a :: xs, vx, x, y, hl, hx, hv, hy => by
    simp only [foldO, Option.bind_eq_some_iff] at hy
    obtain ⟨z, hz, hy⟩ := hy
    have ha := hv 0 v a rfl rfl
    cases x <;> cases a <;> simp [extreme] at hz
    subst hz
    obtain rfl := hx.int_inv
    obtain rfl := ha.int_inv
    obtain ⟨r, hr, hV⟩ := fold_run mx g hg vs xs _ _ y (by simpa using hl) (V0.int _ _) (fun j v x h1 h2 => hv (j + 1) v x (by simpa using h1) (by simpa using h2)) hy
    exact ⟨r, by simp [List.foldlM, hg, hr], hV⟩

variable {pol : Pol} {call : CallF} {f : FuncId} {rid i : Nat} {draw : Bool}

theorem blt_run (H : Inv κ im ob h w) {ρ : Operand → Value} {ev : Operand → AV} (hE : EvR im ob ρ ev) {b : Builtin} {c : Call} {ty : TypeId} {cc : Array Bool} {mu g : Bool} {slot : Nat} {y : AV} {h' : Heap} (hg : κ.ro = true → g = false)
    (hy : bltOf P κ.ro ev h mu g draw slot b c = some (y, h')) :
    ∃ v w' im' ob', (builtin b c.argTypes ty cc (c.args.map ρ)).run P w = .ok (.value v) w' ∧ V0 im' ob' v y ∧ Inv κ im' ob' h' w' ∧ ImLe im im' ∧ ObLe ob ob' := by
  have hargs : ∀ l, c.args.toList = l → c.args.map ρ = (l.map ρ).toArray := fun l hl => by subst hl; rw [← Array.toList_map, Array.toArray_toList]
  unfold bltOf at hy
  split at hy
  · -- len
    rename_i x hx
    obtain ⟨a, ha, rfl⟩ : ∃ a, c.args.toList = [a] ∧ ev a = x := by
      match hl : c.args.toList, hx with
      | [a], hx => simp at hx; exact ⟨a, rfl, hx⟩
      | [], hx => simp at hx
      | a :: b :: r, hx => simp at hx
    simp only [Option.bind_eq_some_iff, Option.map_eq_some_iff, Prod.mk.injEq] at hy
    obtain ⟨t, ht, d, hd, n, hn, rfl, rfl⟩ := hy
    rw [hargs _ ha]
    exact ⟨.int .i64 n, w, im, ob, by simp [builtin, len_run H ht hd (hE a) hn], .int _ _, H, ImLe.refl _, ObLe.refl _⟩
  · -- min
    rename_i x r hx
    simp only [Option.map_eq_some_iff, Prod.mk.injEq] at hy
    obtain ⟨z, hz, rfl, rfl⟩ := hy
    obtain ⟨a, as, ha, rfl, rfl⟩ : ∃ a as, c.args.toList = a :: as ∧ ev a = x ∧ as.map ev = r := by
      match hl : c.args.toList, hx with
      | a :: as, hx => simp at hx; exact ⟨a, as, rfl, hx.1, hx.2⟩
      | [], hx => simp at hx
    obtain ⟨v, hv, hV⟩ := fold_run (P := P) (w := w) false Builtin.min2 (fun k k' a b w => by simp [Builtin.min2]) (as.map ρ) (as.map ev) (ρ a) (ev a) z (by simp) (hE a) (fun j v x h1 h2 => by
      simp only [List.getElem?_map, Option.map_eq_some_iff] at h1 h2
      obtain ⟨q, hq, rfl⟩ := h1
      obtain ⟨q', hq', rfl⟩ := h2
      rw [hq] at hq'; cases hq'
      exact hE q) hz
    rw [hargs _ ha]
    exact ⟨v, w, im, ob, by simp [builtin, Builtin.min_, hv], hV, H, ImLe.refl _, ObLe.refl _⟩
  · -- max
    rename_i x r hx
    simp only [Option.map_eq_some_iff, Prod.mk.injEq] at hy
    obtain ⟨z, hz, rfl, rfl⟩ := hy
    obtain ⟨a, as, ha, rfl, rfl⟩ : ∃ a as, c.args.toList = a :: as ∧ ev a = x ∧ as.map ev = r := by
      match hl : c.args.toList, hx with
      | a :: as, hx => simp at hx; exact ⟨a, as, rfl, hx.1, hx.2⟩
      | [], hx => simp at hx
    obtain ⟨v, hv, hV⟩ := fold_run (P := P) (w := w) true Builtin.max2 (fun k k' a b w => by simp [Builtin.max2]) (as.map ρ) (as.map ev) (ρ a) (ev a) z (by simp) (hE a) (fun j v x h1 h2 => by
      simp only [List.getElem?_map, Option.map_eq_some_iff] at h1 h2
      obtain ⟨q, hq, rfl⟩ := h1
      obtain ⟨q', hq', rfl⟩ := h2
      rw [hq] at hq'; cases hq'
      exact hE q) hz
    rw [hargs _ ha]
    exact ⟨v, w, im, ob, by simp [builtin, Builtin.max_, hv], hV, H, ImLe.refl _, ObLe.refl _⟩
  · -- append
    rename_i x y hx
    obtain ⟨a, b, ha, rfl, rfl⟩ : ∃ a b, c.args.toList = [a, b] ∧ ev a = x ∧ ev b = y := by
      match hl : c.args.toList, hx with
      | [a, b], hx => simp at hx; exact ⟨a, b, rfl, hx.1, hx.2⟩
      | [], hx => simp at hx
      | [a], hx => simp at hx
      | a :: b :: c :: r, hx => simp at hx
    split at hy
    · cases hy
    simp only [Option.bind_eq_some_iff] at hy
    obtain ⟨t, ht, hy⟩ := hy
    obtain ⟨v, w1, im', ob', q1, q2, q3, q4, q5⟩ := appendOf_run (ty := ty) H ht (hE a) (hE b) hg hy
    rw [hargs _ ha]
    exact ⟨v, w1, im', ob', by simp [builtin, q1], q5, q2, q3, q4⟩
  · -- delete
    rename_i x y hx
    obtain ⟨a, b, ha, rfl, rfl⟩ : ∃ a b, c.args.toList = [a, b] ∧ ev a = x ∧ ev b = y := by
      match hl : c.args.toList, hx with
      | [a, b], hx => simp at hx; exact ⟨a, b, rfl, hx.1, hx.2⟩
      | [], hx => simp at hx
      | [a], hx => simp at hx
      | a :: b :: c :: r, hx => simp at hx
    simp only [Option.bind_eq_some_iff] at hy
    obtain ⟨t, ht, d, hd, hy⟩ := hy
    split at hy
    · rename_i kt e l v hx
      split at hy
      · cases hy
      rename_i hcnd
      simp only [Bool.or_eq_true, not_or, Bool.not_eq_true, Bool.not_eq_eq_eq_not, Bool.not_true, Bool.not_false] at hcnd
      split at hy
      · rename_i es hk
        simp only [Option.map_eq_some_iff, Prod.mk.injEq] at hy
        obtain ⟨es2, hes, rfl, rfl⟩ := hy
        have hM := hE a
        rw [hx] at hM
        obtain ⟨w', q1, q2⟩ := delete_run (ty := ty) H ht hd hM (hE b) (by simpa using hcnd.2) (here_of (by simp [hcnd.1.2])) hk hes
        rw [hargs _ ha]
        exact ⟨.tuple #[], w', im, ob, by simp [builtin, q1], .tup _ _ rfl (by simp), q2, ImLe.refl _, ObLe.refl _⟩
      · cases hy
    · cases hy
  · cases hy
end Go.AE
