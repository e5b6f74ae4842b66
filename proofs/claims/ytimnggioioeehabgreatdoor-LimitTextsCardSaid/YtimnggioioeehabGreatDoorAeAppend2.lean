/- append. -/
import Derived.Test.YtimnggioioeehabGreatDoorAeAppend
namespace Go.AE
open Go.RowKit (Below)

variable {P : Program} {κ : Ctx} {im : Imm} {ob : Obm} {h : Heap} {w : World}

theorem growBy_le (n : Nat) : ∀ (k c : Nat), Builtin.growBy n k c ≤ max c (n + (n + 768) / 4)
  | 0, c => by simp only [Builtin.growBy]; omega
  | k + 1, c => by
    simp only [Builtin.growBy]
    split
    · omega
    · have := growBy_le n k (c + (c + 768) / 4)
      omega
theorem nextslicecap_le (n c : Nat) (hc : c < n) : Builtin.nextslicecap n c ≤ 2 * n + 1024 := by
  unfold Builtin.nextslicecap
  split
  · omega
  · split
    · omega
    · have := growBy_le n 4 c
      omega

theorem roomy_eq {n b : Nat} (hr : roomy n b = true) : (2 * n + 1024) * b ≤ 2 ^ 47 ∧ n ≤ 2 ^ 47 := by
  unfold roomy at hr; simpa using hr

theorem noInt_cases {xt : Option TypeId} (hx : noInt P xt = true) : xt = none ∨ ∃ t d, xt = some t ∧ P.underlying t = some d ∧ ∀ k, d ≠ .int k := by
  cases xt with
  | none => exact .inl rfl
  | some t =>
    simp only [noInt] at hx
    split at hx
    · cases hx
    · cases hx
    · rename_i d hn hd
      exact .inr ⟨t, d, rfl, hd, fun k e => hn k (by rw [← e])⟩

theorem notInt (d : TypeDesc) : (∀ k, d ≠ .int k) → (d matches .int _) = false := by
  cases d <;> simp

/-- There is room. -/
theorem append_room {t e : TypeId} {at_ : Array TypeId} {ty : TypeId} {info : TypeInfo} {b o sLen sCap n : Nat} {vx : Value} {C : List Value} {cur : Array Value} {T : TypeId}
    (ht : at_[0]? = some t) (hu : P.underlying t = some (.slice e)) (hi : P.info? e = some info) (hx : noInt P at_[1]? = true) (hl : (Builtin.lenOf vx).run P w = .ok n w)
    (hf : (Builtin.firstCells info.size n vx).run P w = .ok C.toArray w) (hfit : sLen + n ≤ sCap) {fz : Nat × Nat} (hfz : fz.2 ≤ o + sLen * info.size) (hg : w.heap[b]? = some (.cells cur T fz)) (hroom : o + sLen * info.size + C.length ≤ cur.size)
    (h1 : ∀ v ∈ C, v.oneCell' = true) :
    (Builtin.append_ at_ ty #[.slice (some ⟨b, o, none⟩) sLen sCap, vx]).run P w =
      .ok (.slice (some ⟨b, o, none⟩) (sLen + n) sCap) (w.setRow b (cur.toList.take (o + sLen * info.size) ++ C ++ cur.toList.drop (o + sLen * info.size + C.length)).toArray) := by
  have hst := run_storeCells_atF P b (o + sLen * info.size) T fz C 0 cur w hg (by simpa using hfz) (by simpa using hroom) h1
  simp only [Nat.add_zero] at hst
  have hu' := und_run hu
  have hti : ∀ w' : World, (typeInfo e).run P w' = .ok info w' := fun w' => by simp [typeInfo, hi]
  have hso : ∀ w' : World, (sizeOf e).run P w' = .ok info.size w' := fun w' => by simp [sizeOf, typeInfo, hi]
  rcases noInt_cases hx with h1 | ⟨xt, d, h1, h2, h3⟩
  · simp [Builtin.append_, ht, h1, hu', hti, hso, hl, hfit, hf, add_eq, hst]
  · have hx2 := und_run h2
    have hd := notInt d h3
    simp [Builtin.append_, ht, h1, hu', hx2, hd, hti, hso, hl, hfit, hf, add_eq, hst]

/-- An empty slice that is appended nothing. -/
theorem append_nothing {t e : TypeId} {at_ : Array TypeId} {ty : TypeId} {info : TypeInfo} {base : Option Addr} {vx : Value}
    (ht : at_[0]? = some t) (hu : P.underlying t = some (.slice e)) (hi : P.info? e = some info) (hx : noInt P at_[1]? = true) (hl : (Builtin.lenOf vx).run P w = .ok 0 w)
    (hf : (Builtin.firstCells info.size 0 vx).run P w = .ok #[] w) :
    (Builtin.append_ at_ ty #[.slice base 0 0, vx]).run P w = .ok (.slice base 0 0) w := by
  have hu' := und_run hu
  have hti : ∀ w' : World, (typeInfo e).run P w' = .ok info w' := fun w' => by simp [typeInfo, hi]
  have hso : ∀ w' : World, (sizeOf e).run P w' = .ok info.size w' := fun w' => by simp [sizeOf, typeInfo, hi]
  rcases noInt_cases hx with h1 | ⟨xt, d, h1, h2, h3⟩
  · cases base <;> simp [Builtin.append_, ht, h1, hu', hti, hso, hl, hf, storeCells]
  · have hx2 := und_run h2
    have hd := notInt d h3
    cases base <;> simp [Builtin.append_, ht, h1, hu', hx2, hd, hti, hso, hl, hf, storeCells]

/-- There is none: a new row. -/
theorem append_grows {t e : TypeId} {at_ : Array TypeId} {ty : TypeId} {info : TypeInfo} {base : Option Addr} {sLen sCap n : Nat} {vx zv : Value} {C0 C : List Value}
    (ht : at_[0]? = some t) (hu : P.underlying t = some (.slice e)) (hi : P.info? e = some info) (hz0 : info.zero = some zv) (hzs : zv.cells.size = info.size) (hx : noInt P at_[1]? = true) (hl : (Builtin.lenOf vx).run P w = .ok n w)
    (hq2 : (Builtin.firstCells info.size n vx).run P w.drew = .ok C.toArray w.drew) (hq1 : (Builtin.firstCells info.size sLen (.slice base sLen sCap)).run P w.drew = .ok C0.toArray w.drew)
    (hfit : ¬ sLen + n ≤ sCap) (hr : roomy (sLen + n) info.bytes = true) :
    ∃ cap w1 R, (Builtin.append_ at_ ty #[.slice base sLen sCap, vx]).run P w = .ok (.slice (some ⟨w.heap.size, 0, none⟩) (sLen + n) cap) w1 ∧
      Fresh w w1 (.cells (C0.toArray ++ C.toArray ++ R) e) ∧ sLen + n ≤ cap ∧ R.size = (cap - (sLen + n)) * info.size := by
  obtain ⟨hr1, hr2⟩ := roomy_eq hr
  have hb1 : ¬ (((sLen + n : Nat) : Int) > IntKind.i64.max) := by
    have : IntKind.i64.max = 9223372036854775807 := by decide
    rw [this]; omega
  have hb2 : ¬ (Builtin.nextslicecap (sLen + n) sCap * info.bytes > 2 ^ 48) := by
    have := nextslicecap_le (sLen + n) sCap (by omega)
    have h2 := Nat.mul_le_mul_right info.bytes this
    omega
  let cap := (Question.appendCap (sLen + n) sCap e).cut (w.tape w.drawn (.appendCap (sLen + n) sCap e))
  have hcap : sLen + n ≤ cap := by simp only [cap, Question.cut]; omega
  refine ⟨cap, w.drew.alloc (.cells (C0.toArray ++ C.toArray ++ Builtin.zeroCells zv.cells (cap - (sLen + n))) e), Builtin.zeroCells zv.cells (cap - (sLen + n)), ?_, Fresh.drew w _, hcap, by simp [Builtin.zeroCells, hzs]⟩
  have hch : (choose (.appendCap (sLen + n) sCap e)).run P w = .ok cap w.drew := by simp [cap, Question.forced]
  have ha : ∀ m : Nat, (askRoom m).run P w.drew = .ok () w.drew := fun m => by simp
  have hu' := und_run hu
  have hti : ∀ w' : World, (typeInfo e).run P w' = .ok info w' := fun w' => by simp [typeInfo, hi]
  have hso : ∀ w' : World, (sizeOf e).run P w' = .ok info.size w' := fun w' => by simp [sizeOf, typeInfo, hi]
  have hzv : ∀ w' : World, (zeroValue e).run P w' = .ok zv w' := fun w' => by simp [zeroValue, hti, hz0]
  have hb1' : ¬ (9223372036854775807 < (sLen : Int) + n) := by omega
  have hb2' : ¬ (281474976710656 < Builtin.nextslicecap (sLen + n) sCap * info.bytes) := by omega
  have hch' : (if (Question.appendCap (sLen + n) sCap e).forced = true then 0 else 1) = 1 := by simp [Question.forced]
  rcases noInt_cases hx with h1 | ⟨xt, d, h1, h2, h3⟩
  · simp [Builtin.append_, ht, h1, hu', hti, hso, hzv, hl, hfit, hb1', hb2', hq1, hq2, newRow, Question.forced, cap, ← List.append_toArray, -List.append_toArray, Array.append_assoc]
  · have hx2 := und_run h2
    have hd := notInt d h3
    simp [Builtin.append_, ht, h1, hu', hx2, hd, hti, hso, hzv, hl, hfit, hb1', hb2', hq1, hq2, newRow, Question.forced, cap, ← List.append_toArray, -List.append_toArray, Array.append_assoc]

theorem Inv.drew (H : Inv κ im ob h w) : Inv κ im ob h w.drew := H.grow (ImLe.refl _) ⟨rfl, rfl, rfl, Nat.le_refl _, fun _ _ => rfl⟩ (fun _ _ _ hv => .inl hv)

/-- An object grows: it has a new version. -/
theorem Inv.regrow (H : Inv κ im ob h w) {c : Loc} {v : Nat} {k : Con} (k' : Con) (x : Base) (hk : h.obj c = ⟨v, k⟩) (hl : k.live) {w' : World}
    (hsz : w.heap.size ≤ w'.heap.size) (hos : w'.os = w.os) (htp : w'.tape = w.tape) (hop : w'.output = w.output) (hoth : ∀ b, b < w.heap.size → ¬ owns h ob c b → w'.heap[b]? = w.heap[b]?)
    (hnew : ObLe ob (obUpd ob c (v + 1) x) → ObjR im (obUpd ob c (v + 1) x) κ.B w' c ⟨v + 1, k'⟩) (hown : ∀ b sz n, x = .blk b sz n → w.heap.size ≤ b ∨ owns h ob c b) (hro : κ.ro = true → c.here = true) :
    Inv κ im (obUpd ob c (v + 1) x) (h.setObj c ⟨v + 1, k'⟩) w' ∧ ObLe ob (obUpd ob c (v + 1) x) := by
  have hval : h.valid c := valid_of_con (by rw [hk]; intro e; simp at e; rw [e] at hl; exact hl)
  have hle : ObLe ob (obUpd ob c (v + 1) x) := obUpd_le x (H.fresh c (v + 1) (by rw [hk]; simp))
  refine ⟨H.upd c ⟨v + 1, k'⟩ (obj_setObj h c _ hval) (out_setObj h c _) (ImLe.refl _) hle (fun c' v' hc => ?_) (fun v' hv => ?_) (fun i v' hi => ?_) hsz hos htp hop hoth (fun b off v hv => .inl hv) (hnew hle)
    (fun b sz n _ hb => ?_) hro, hle⟩
  · unfold obUpd; rw [if_neg (fun e => hc e.1)]
  · unfold obUpd; rw [if_neg (fun e => by have := e.2; simp at hv; omega)]; exact H.fresh c v' (by rw [hk]; simp at hv ⊢; omega)
  · rw [glob_setObj] at hi
    unfold obUpd; rw [if_neg]
    · exact H.freshG i v' hi
    · rintro ⟨e, _⟩
      subst e
      have : i < h.glob.length := hval
      omega
  · simp only [obUpd_same, Option.some.injEq] at hb
    exact hown b sz n hb

theorem RowR.append {n : Nat} {C0 C D : Array Value} {xs ys : List (List AV)} (h0 : RowR im ob n C0 xs) (h1 : RowR im ob n C ys) (hD : ∀ q, q < xs.length * n → D[q]? = C0[q]?)
    (hD2 : ∀ q, q < ys.length * n → D[xs.length * n + q]? = C[q]?) (hs : (xs.length + ys.length) * n ≤ D.size) : RowR im ob n D (xs ++ ys) := by
  refine ⟨fun i e he => ?_, by simpa using hs, fun i j e v x he hx hv => ?_⟩
  · rcases Nat.lt_or_ge i xs.length with hi | hi
    · rw [List.getElem?_append_left hi] at he; exact h0.1 i e he
    · rw [List.getElem?_append_right hi] at he; exact h1.1 _ e he
  · have hj := (List.getElem?_eq_some_iff.1 hx).1
    rcases Nat.lt_or_ge i xs.length with hi | hi
    · rw [List.getElem?_append_left hi] at he
      have := h0.1 i e he
      rw [hD] at hv
      · exact h0.2.2 i j e v x he hx hv
      · have : (i + 1) * n ≤ xs.length * n := Nat.mul_le_mul_right _ hi
        rw [Nat.succ_mul] at this; omega
    · rw [List.getElem?_append_right hi] at he
      have h3 := h1.1 _ e he
      have hlt := (List.getElem?_eq_some_iff.1 he).1
      have e1 : i * n + j = xs.length * n + ((i - xs.length) * n + j) := by
        rw [← Nat.add_assoc, ← Nat.add_mul]; congr 2; omega
      rw [e1, hD2] at hv
      · exact h1.2.2 _ j e v x he hx hv
      · have : (i - xs.length + 1) * n ≤ ys.length * n := Nat.mul_le_mul_right _ hlt
        rw [Nat.succ_mul] at this; omega

theorem all_one {ys : List (List AV)} {n : Nat} (h : ¬ (!(ys.all fun l => l.length == n && l.all AV.one)) = true) : (∀ e ∈ ys, e.length = n) ∧ ∀ e ∈ ys, ∀ x ∈ e, x.one = true := by
  simp only [Bool.not_eq_true', Bool.not_eq_false, List.all_eq_true, Bool.and_eq_true, beq_iff_eq] at h
  exact ⟨fun e he => (h e he).1, fun e he => (h e he).2⟩

/-- Cells of rows that fit one cell each. -/
theorem RowR.one {n : Nat} {C : List Value} {ys : List (List AV)} (hR : RowR im ob n C.toArray ys) (hl : C.length = ys.length * n) (h1 : ∀ e ∈ ys, ∀ x ∈ e, x.one = true) : ∀ v ∈ C, v.oneCell' = true := by
  intro v hv
  obtain ⟨q, hq, rfl⟩ := List.getElem_of_mem hv
  rw [hl] at hq
  have hn : 0 < n := by rcases Nat.eq_zero_or_pos n with h0 | h0; · subst h0; simp at hq
                        · exact h0
  have hi : q / n < ys.length := Nat.div_lt_of_lt_mul (by rw [Nat.mul_comm]; exact hq)
  have hj : q % n < ys[q / n].length := by rw [hR.1 (q / n) ys[q / n] (by simp [hi])]; exact Nat.mod_lt _ hn
  exact (hR.2.2 (q / n) (q % n) ys[q / n] _ ys[q / n][q % n] (by simp [hi]) (by simp [hj]) (by rw [Nat.div_add_mod']; simp [hl, hq])).oneCell (h1 _ (List.getElem_mem hi) _ (List.getElem_mem hj))

theorem V0.rsl_inv {vx : Value} {c : Loc} {v off len : Nat} (hX : V0 im ob vx (.rsl c v off len)) : (vx = .slice none 0 0 ∧ ob c v = some .nil) ∨ (∃ a, vx = .slice (some a) 0 0 ∧ ob c v = some (.ez a)) ∨
    (∃ cap b sz n, vx = .slice (some ⟨b, off * sz, none⟩) len cap ∧ ob c v = some (.blk b sz n) ∧ len ≤ cap ∧ (off + cap) * sz ≤ n) := by
  cases hX with
  | rslN c v hb => exact .inl ⟨rfl, hb⟩
  | rslE c v a hb => exact .inr (.inl ⟨a, rfl, hb⟩)
  | rsl c v off len cap b sz n hb hc hn => exact .inr (.inr ⟨cap, b, sz, n, rfl, hb, hc, hn⟩)

theorem appendOf_run (H : Inv κ im ob h w) {t ty : TypeId} {at_ : Array TypeId} {vx vy : Value} {x y r : AV} {mu g : Bool} {slot : Nat} {h' : Heap} (hat : at_[0]? = some t)
    (hX : V0 im ob vx x) (hY : V0 im ob vy y) (hg : κ.ro = true → g = false) (hy : appendOf P κ.ro h mu g slot t at_[1]? x y = some (r, h')) :
    ∃ v w1 im' ob', (Builtin.append_ at_ ty #[vx, vy]).run P w = .ok v w1 ∧ Inv κ im' ob' h' w1 ∧ ImLe im im' ∧ ObLe ob ob' ∧ V0 im' ob' v r := by
  unfold appendOf at hy
  split at hy
  · cases hy
  rename_i hni
  have hni : noInt P at_[1]? = true := by simpa using hni
  split at hy
  case _ => 
    rename_i e hu
    simp only [Option.bind_eq_some_iff] at hy
    obtain ⟨info, hi, z, hz, hy⟩ := hy
    split at hy
    · cases hy
    rename_i hzl
    have hsz' : 0 < info.size := by omega
    simp only [Option.bind_eq_some_iff] at hy
    obtain ⟨ys, hys, hy⟩ := hy
    split at hy
    · cases hy
    rename_i hall
    obtain ⟨hlen, hone⟩ := all_one hall
    obtain ⟨ie, zv, hie, hzv, hzR⟩ := zeroCells_V (im := im) (ob := ob) hz
    rw [hi] at hie; cases hie
    have hzs : zv.cells.size = info.size := by have := hzR.1; simp at this; omega
    have hl := fun w : World => elems_len (P := P) (w := w) hY hys
    obtain ⟨C, hC, hf, hR⟩ := elems_cells (P := P) H hY hys hlen
    -- nothing is appended to an empty slice
    have nothing : ∀ base : Option Addr, ys.isEmpty = true → (Builtin.append_ at_ ty #[.slice base 0 0, vy]).run P w = .ok (.slice base 0 0) w := fun base he => by
      have e0 : ys = [] := by simpa using he
      subst e0
      have : C = [] := by simpa using hC
      subst this
      exact append_nothing hat hu hi hni (hl w) hf
    obtain ⟨C2, hC2, hf2, hR2⟩ := elems_cells (P := P) H.drew hY hys hlen
    have grows : ∀ (base : Option Addr) (sLen sCap : Nat) (C0 : List Value), (Builtin.firstCells info.size sLen (.slice base sLen sCap)).run P w.drew = .ok C0.toArray w.drew → ¬ sLen + ys.length ≤ sCap →
        roomy (sLen + ys.length) info.bytes = true → ∃ cap w1 R, (Builtin.append_ at_ ty #[.slice base sLen sCap, vy]).run P w = .ok (.slice (some ⟨w.heap.size, 0, none⟩) (sLen + ys.length) cap) w1 ∧
        Fresh w w1 (.cells (C0.toArray ++ C2.toArray ++ R) e) ∧ sLen + ys.length ≤ cap ∧ R.size = (cap - (sLen + ys.length)) * info.size := fun base sLen sCap C0 h0 hne hr =>
      append_grows (C0 := C0) hat hu hi hzv hzs hni (hl w) hf2 h0 hne hr
    have grows0 : ∀ base : Option Addr, ys.isEmpty = false → roomy ys.length info.bytes = true → ∃ cap w1 R, (Builtin.append_ at_ ty #[.slice base 0 0, vy]).run P w = .ok (.slice (some ⟨w.heap.size, 0, none⟩) ys.length cap) w1 ∧
        Fresh w w1 (.cells (C2.toArray ++ R) e) ∧ ys.length ≤ cap ∧ R.size = (cap - ys.length) * info.size ∧ RowR im ob info.size (C2.toArray ++ R) ys ∧ cap * info.size ≤ (C2.toArray ++ R).size := fun base hne hr => by
      have hpos : 0 < ys.length := by
        cases ys with
        | nil => simp at hne
        | cons => simp
      have h0 : (Builtin.firstCells info.size 0 (.slice base 0 0)).run P w.drew = .ok ([] : List Value).toArray w.drew := by
        cases base <;> simp [Builtin.firstCells, loadCells, loadCellsFrom]
      obtain ⟨cap, w1, R, q1, q2, q3, q4⟩ := grows base 0 0 [] h0 (by omega) (by simpa using hr)
      have hs : (C2.toArray ++ R).size = cap * info.size := by
        simp only [Nat.zero_add] at q4 q3
        simp only [Array.size_append, List.size_toArray, q4, hC2]
        rw [← Nat.add_mul]; congr 1; omega
      refine ⟨cap, w1, R, by simpa using q1, by simpa using q2, by omega, by simpa using q4, ?_, by omega⟩
      have : RowR im ob info.size (C2.toArray ++ R) ([] ++ ys) := RowR.append (C0 := #[]) ⟨by simp, by simp, by simp⟩ hR2 (by simp) (fun q hq => by
        simp only [List.length_nil, Nat.zero_mul, Nat.zero_add]
        rw [Array.getElem?_append_left (by simp; omega)]) (by simp only [List.length_nil, Nat.zero_add]; rw [hs]; exact Nat.mul_le_mul_right _ (by omega))
      simpa using this
    split at hy
    · -- nil
      rename_i sz
      cases hX
      split at hy
      · rename_i he
        simp only [Option.some.injEq, Prod.mk.injEq] at hy
        obtain ⟨rfl, rfl⟩ := hy
        exact ⟨_, _, im, ob, nothing none he, H, ImLe.refl _, ObLe.refl _, .snil _⟩
      · rename_i he
        split at hy
        · rename_i hr
          obtain ⟨cap, w1, R, q1, q2, q3, q4, q5, q6⟩ := grows0 none (by simpa using he) hr
          obtain ⟨im', ob', g1, g2, g3, g4⟩ := newSlice_run H hg hy q2 q5 q3 q6
          exact ⟨_, w1, im', ob', q1, g1, g2, g3, g4⟩
        · cases hy
    · cases hX
      rename_i a
      split at hy
      · rename_i he
        simp only [Option.some.injEq, Prod.mk.injEq] at hy
        obtain ⟨rfl, rfl⟩ := hy
        exact ⟨_, _, im, ob, nothing (some a) he, H, ImLe.refl _, ObLe.refl _, .ez a⟩
      · rename_i he
        split at hy
        · rename_i hr
          obtain ⟨cap, w1, R, q1, q2, q3, q4, q5, q6⟩ := grows0 (some a) (by simpa using he) hr
          obtain ⟨im', ob', g1, g2, g3, g4⟩ := newSlice_run H hg hy q2 q5 q3 q6
          exact ⟨_, w1, im', ob', q1, g1, g2, g3, g4⟩
        · cases hy
    · rename_i c v off len
      split at hy
      · cases hy
      rename_i hro
      have hro := here_of hro
      split at hy
      · rename_i nl sz xs hk
        split at hy
        · rename_i hcnd
          obtain ⟨hbt, rfl, rfl, hsz, hr⟩ := hcnd
          have hT : ∀ τ, c.bt = some τ → e = τ := fun τ hτ => by rw [hτ] at hbt; exact (show τ = e by simpa using hbt).symm
          simp only [Option.map_eq_some_iff, Prod.mk.injEq] at hy
          obtain ⟨zs, hzs', rfl, rfl⟩ := hy
          have ho := H.objs c
          have hobj := obj_mk hk (by simp)
          rw [hobj] at ho
          have hzl' : zs.length = ys.length := mapO_length hzs'
          have hemp : zs.isEmpty = ys.isEmpty := by
            cases zs <;> cases ys <;> simp at hzl' ⊢
          -- an object that had no room
          have small : ∀ (base : Option Addr) (x0 : Base), xs = [] → (nl = true ∧ base = none ∧ x0 = .nil ∨ nl = false ∧ ∃ a, base = some a ∧ x0 = .ez a) → ∃ v' w1 im' ob', (Builtin.append_ at_ ty #[.slice base 0 0, vy]).run P w = .ok v' w1 ∧
              Inv κ im' ob' (h.setObj c ⟨v + 1, .arr (nl && zs.isEmpty) (if nl && zs.isEmpty then sz else info.size) (xs ++ zs)⟩) w1 ∧ ImLe im im' ∧ ObLe ob ob' ∧ V0 im' ob' v' (.rsl c (v + 1) 0 (xs.length + zs.length)) := by
            intro base x0 hxs hb
            subst hxs
            cases hze : ys.isEmpty with
            | true =>
              have e0 : ys = [] := by simpa using hze
              have ez : zs = [] := by subst e0; simpa using hzl'
              subst ez
              refine ⟨_, w, im, obUpd ob c (v + 1) x0, nothing base hze, ?_⟩
              have hx0 : ∀ b sz n, x0 = .blk b sz n → False := fun b sz n e => by
                rcases hb with ⟨_, _, e2⟩ | ⟨_, a, _, e2⟩ <;> rw [e2] at e <;> cases e
              obtain ⟨g1, g2⟩ := H.regrow (.arr (nl && ([] : List (List AV)).isEmpty) (if nl && ([] : List (List AV)).isEmpty then sz else info.size) ([] ++ [])) x0 hobj (by simp [Con.live]) (Nat.le_refl _) rfl rfl rfl (fun _ _ _ => rfl) (fun _ => by
                rcases hb with ⟨e1, _, e2⟩ | ⟨e1, a, _, e2⟩
                · subst e1 e2; exact .inl ⟨rfl, rfl, obUpd_same _ _ _ _⟩
                · subst e1 e2; exact .inr (.inl ⟨rfl, rfl, a, obUpd_same _ _ _ _⟩)) (fun b sz n e => (hx0 b sz n e).elim) hro
              refine ⟨g1, ImLe.refl _, g2, ?_⟩
              rcases hb with ⟨_, e1, e2⟩ | ⟨_, a, e1, e2⟩
              · subst e1 e2; exact .rslN _ _ (obUpd_same _ _ _ _)
              · subst e1 e2; exact .rslE _ _ a (obUpd_same _ _ _ _)
            | false =>
              have hze' : zs.isEmpty = false := by rw [hemp]; exact hze
              have hsz0 : (if nl && zs.isEmpty then sz else info.size) = info.size := by rw [hze']; simp
              rw [hsz0]
              have hr0 : roomy ys.length info.bytes = true := by simpa using hr
              obtain ⟨cap, w1, R, q1, q2, q3, q4, q5, q6⟩ := grows0 base hze hr0
              obtain ⟨g1, g2⟩ := H.regrow (w' := w1) (.arr (nl && zs.isEmpty) info.size ([] ++ zs)) (.blk w.heap.size info.size (C2.toArray ++ R).size) hobj (by simp [Con.live]) (by rw [q2.size]; omega) q2.os q2.tape q2.output (fun b hb _ => q2.old b hb)
                (fun hle => by
                  have hRz := (q5.mono (ImLe.refl _) hle).into hzs'
                  refine .inr (.inr ⟨by simp [hze'], w.heap.size, _, _, e, _, obUpd_same _ _ _ _, q2.at_, rfl, ⟨?_, hsz'⟩, by simpa using hRz.1, by simpa using hRz.2.2, H.imNone (Nat.le_refl _), H.ble, hT, fun _ => rfl, Nat.zero_le _⟩)
                  simpa using hRz.2.1) (fun b sz n e => by cases e; exact .inl (Nat.le_refl _)) hro
              refine ⟨_, w1, im, _, q1, g1, ImLe.refl _, g2, ?_⟩
              have := V0.rsl (im := im) (ob := obUpd ob c (v + 1) (.blk w.heap.size info.size (C2.toArray ++ R).size)) c (v + 1) 0 ys.length cap _ _ _ (obUpd_same ob _ _ _) q3 (by rw [Nat.zero_add]; exact q6)
              rw [Nat.zero_mul] at this
              simpa [hzl'] using this
          rcases hX.rsl_inv with ⟨rfl, hb⟩ | ⟨a, rfl, hb⟩ | ⟨cap, b, sz', n, rfl, hb, hc, hn⟩
          · rcases ho with ⟨h1, h2, h3⟩ | ⟨h1, h2, a, h3⟩ | ⟨h0, b, n, c', T, fz, h1, _⟩
            · exact small none .nil h2 (.inl ⟨h1, rfl, rfl⟩)
            · rw [hb] at h3; cases h3
            · rw [hb] at h1; cases h1
          · rcases ho with ⟨h1, h2, h3⟩ | ⟨h1, h2, a', h3⟩ | ⟨h0, b, n, c', T, fz, h1, _⟩
            · rw [hb] at h3; cases h3
            · rw [hb] at h3; cases h3
              exact small (some a) (.ez a) h2 (.inr ⟨h1, a, rfl, rfl⟩)
            · rw [hb] at h1; cases h1
          · rcases ho with ⟨h1, h2, h3⟩ | ⟨h1, h2, a', h3⟩ | ⟨h0, b', n', cur, T, fz, h1, h2, h3, h4, h5, h6, h7, h8⟩
            · rw [hb] at h3; cases h3
            · rw [hb] at h3; cases h3
            rw [hb] at h1; cases h1
            have esz : sz = info.size := by rcases hsz with e | ⟨_, e⟩ <;> omega
            subst esz
            subst h0
            rw [Nat.zero_add] at hn
            rw [Nat.zero_mul]
            have hRx : RowR im (view c ob) info.size cur xs := ⟨h5, by omega, h6⟩
            by_cases hfit : xs.length + ys.length ≤ cap
            · -- in place
              have hroom : 0 + xs.length * info.size + C.length ≤ cur.size := by
                have := Nat.mul_le_mul_right info.size hfit
                rw [Nat.add_mul] at this
                omega
              have hrun := append_room (ty := ty) (o := 0) hat hu hi hni (hl w) hf hfit (fz := fz) (by rw [Nat.zero_add]; exact h8.2.2.2) h2 hroom (hR.one hC hone)
              have hl2 : xs.length * info.size + C.length ≤ cur.toList.length := by simp; omega
              obtain ⟨g1, g2⟩ := H.regrow (w' := w.setRow b (cur.toList.take (0 + xs.length * info.size) ++ C ++ cur.toList.drop (0 + xs.length * info.size + C.length)).toArray)
                (.arr (false && zs.isEmpty) info.size (xs ++ zs)) (.blk b info.size n) hobj (by simp [Con.live]) (by rw [setRow_size]; exact Nat.le_refl _) rfl rfl rfl (fun b' _ hn' => setRow_other _ _ _ _ (fun e => hn' (by subst e; exact ⟨by rw [hobj]; simp [Con.live], info.size, n, by rw [hobj]; exact hb⟩)))
                (fun hle => by
                  have hRz := (hR.mono (ImLe.refl _) hle).into hzs'
                  have hRx' := hRx.mono (ImLe.refl _) (view_mono c hle)
                  have hD := RowR.append (D := (cur.toList.take (0 + xs.length * info.size) ++ C ++ cur.toList.drop (0 + xs.length * info.size + C.length)).toArray) hRx' hRz (fun q hq => by
                    rw [List.getElem?_toArray, Nat.zero_add, spliced_get hl2, if_neg (by omega)]; simp) (fun q hq => by
                    rw [hzl'] at hq
                    rw [List.getElem?_toArray, Nat.zero_add, spliced_get hl2, if_pos (by omega)]; simp) (by
                    have := Nat.mul_le_mul_right info.size hfit
                    rw [hzl']; simp; omega)
                  refine .inr (.inr ⟨rfl, b, n, _, T, fz, obUpd_same _ _ _ _, setRow_heap w b cur _ T _ h2, by simp; omega, ⟨?_, hsz'⟩, hD.1, hD.2.2, h7, h8.1, h8.2.1, h8.2.2.1, Nat.le_trans h8.2.2.2 (Nat.mul_le_mul_right _ (by simp))⟩)
                  have := Nat.mul_le_mul_right info.size hfit
                  rw [List.length_append, hzl']; omega)
                (fun b' sz n e => by cases e; exact .inr ⟨by rw [hobj]; simp [Con.live], info.size, n, by rw [hobj]; exact hb⟩) hro
              refine ⟨_, _, im, _, hrun, g1, ImLe.refl _, g2, ?_⟩
              have := V0.rsl (im := im) (ob := obUpd ob c (v + 1) (.blk b info.size n)) c (v + 1) 0 (xs.length + ys.length) cap _ _ _ (obUpd_same ob _ _ _) hfit (by rw [Nat.zero_add]; exact hn)
              rw [Nat.zero_mul] at this
              rw [hzl']; exact this
            · -- a new row
              have hC0 : (Builtin.firstCells info.size xs.length (.slice (some ⟨b, 0, none⟩) xs.length cap)).run P w.drew = .ok (cur.toList.take (xs.length * info.size)).toArray w.drew := by
                simp only [Builtin.firstCells]
                have hlen0 : (cur.toList.take (xs.length * info.size)).length = xs.length * info.size := by simp; omega
                refine Eq.trans (congrArg (fun q => (loadCells ⟨b, 0, none⟩ q).run P w.drew) hlen0.symm) ?_
                refine run_loadCells_list w.drew _ _ (fun j v hv => ?_)
                rw [add_eq, Nat.zero_add]
                have hv' : cur[j]? = some v := by
                  rw [List.getElem?_take] at hv
                  split at hv
                  · simpa using hv
                  · cases hv
                show w.cell? _ = _
                simp [World.cell?, h2, hv']
              obtain ⟨cap', w1, R, q1, q2, q3, q4⟩ := grows (some ⟨b, 0, none⟩) xs.length cap _ hC0 hfit hr
              have hs0 : (cur.toList.take (xs.length * info.size)).toArray.size = xs.length * info.size := by simp; omega
              have hs : ((cur.toList.take (xs.length * info.size)).toArray ++ C2.toArray ++ R).size = cap' * info.size := by
                rw [Array.size_append, Array.size_append, hs0, List.size_toArray, hC2, q4, ← Nat.add_mul, ← Nat.add_mul]; congr 1; omega
              obtain ⟨g1, g2⟩ := H.regrow (w' := w1) (.arr (false && zs.isEmpty) info.size (xs ++ zs)) (.blk w.heap.size info.size (cap' * info.size)) hobj (by simp [Con.live]) (by rw [q2.size]; omega) q2.os q2.tape q2.output (fun b hb _ => q2.old b hb)
                (fun hle => by
                  have hRz := (hR2.mono (ImLe.refl _) hle).into hzs'
                  have hRx' := hRx.mono (ImLe.refl _) (view_mono c hle)
                  have hD := RowR.append (D := (cur.toList.take (xs.length * info.size)).toArray ++ C2.toArray ++ R) hRx' hRz (fun q hq => by
                    rw [Array.append_assoc, Array.getElem?_append_left (by rw [hs0]; exact hq)]; simp [hq]) (fun q hq => by
                    rw [hzl'] at hq
                    rw [Array.append_assoc, Array.getElem?_append_right (by rw [hs0]; omega), Array.getElem?_append_left (by rw [hs0]; simp; omega), hs0]; congr 1; omega) (by
                    rw [hs, hzl']; exact Nat.mul_le_mul_right _ q3)
                  refine .inr (.inr ⟨rfl, w.heap.size, _, _, e, _, obUpd_same _ _ _ _, q2.at_, hs, ⟨?_, hsz'⟩, hD.1, hD.2.2, H.imNone (Nat.le_refl _), H.ble, hT, fun _ => rfl, Nat.zero_le _⟩)
                  rw [List.length_append, hzl']; exact Nat.mul_le_mul_right _ q3)
                (fun b' sz n e => by cases e; exact .inl (Nat.le_refl _)) hro
              refine ⟨_, w1, im, _, q1, g1, ImLe.refl _, g2, ?_⟩
              have := V0.rsl (im := im) (ob := obUpd ob c (v + 1) (.blk w.heap.size info.size (cap' * info.size))) c (v + 1) 0 (xs.length + ys.length) cap' _ _ _ (obUpd_same ob _ _ _) q3 (by rw [Nat.zero_add]; exact Nat.le_refl _)
              rw [Nat.zero_mul] at this
              rw [hzl']; exact this
        · cases hy
      · cases hy
    · cases hy
  · cases hy
end Go.AE
