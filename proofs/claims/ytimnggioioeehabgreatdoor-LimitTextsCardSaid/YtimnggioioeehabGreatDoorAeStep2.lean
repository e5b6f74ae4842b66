/- One operation that is no call of a function, all kinds. -/
import Derived.Test.YtimnggioioeehabGreatDoorAeStep
namespace Go.AE
open Go.RowKit (Below)

variable {P : Program} {κ : Ctx} {im : Imm} {ob : Obm} {h : Heap} {w : World}
variable {pol : Pol} {call : CallF} {f : FuncId} {rid i : Nat} {draw : Bool}

theorem step_run (H : Inv κ im ob h w) {ρ : Operand → Value} {ev : Operand → AV} (hE : EvR im ob ρ ev) {o : Oper} {y : AV} {h' : Heap}
    (hy : opF P pol call f κ.ro rid i draw o ev h = some (y, h')) (hnc : ∀ c g args, o.op = .call c → whoOf P ev c ≠ some (.func g args)) : OpRun P κ im ob ρ o w y h' := by
  obtain ⟨dst, op, ty, pos, after, guard⟩ := o
  have okk : ∀ {v : Option AV} {s : Sem Value}, ((v.map fun a => (a, h)) = some (y, h')) → (∀ a, v = some a → ∃ r, s.run P w = .ok r w ∧ V0 im ob r a) →
      (∀ r, s.run P w = .ok r w → (execOp ρ ⟨dst, op, ty, pos, after, guard⟩).run P w = .ok (.value r) w) → OpRun P κ im ob ρ ⟨dst, op, ty, pos, after, guard⟩ w y h' := by
    intro v s hv hr hx
    simp only [Option.map_eq_some_iff, Prod.mk.injEq] at hv
    obtain ⟨a, ha, rfl, rfl⟩ := hv
    obtain ⟨r, h1, h2⟩ := hr a ha
    exact OpRun.pure H (hx r h1) h2
  cases op with
  | move x =>
    simp only [opF] at hy
    split at hy
    · split at hy
      · cases hy
      split at hy
      · rename_i c v off len hx
        split at hy
        · cases hy
        rename_i hro
        simp only [Option.bind_eq_some_iff] at hy
        obtain ⟨ys, hys, hy⟩ := hy
        have hX := hE x
        rw [hx] at hX
        split at hy
        · rename_i nl sz xs hk
          simp only [Option.some.injEq, Prod.mk.injEq] at hy
          obtain ⟨rfl, rfl⟩ := hy
          simp only [elemsOf, hk] at hys
          obtain ⟨im', h1, h2, h3⟩ := freeze_run H hX (here_of hro) hys (.inl hk)
          exact ⟨.value (ρ x), w, im', ob, by simp [execOp], .inl ⟨_, rfl, h3⟩, h1, h2, ObLe.refl _⟩
        · rename_i nl sz xs hk
          simp only [Option.some.injEq, Prod.mk.injEq] at hy
          obtain ⟨rfl, rfl⟩ := hy
          simp only [elemsOf, hk] at hys
          obtain ⟨im', h1, h2, h3⟩ := freeze_run H hX (here_of hro) hys (.inr hk)
          exact ⟨.value (ρ x), w, im', ob, by simp [execOp], .inl ⟨_, rfl, h3⟩, h1, h2, ObLe.refl _⟩
        · cases hy
      · simp only [Option.some.injEq, Prod.mk.injEq] at hy
        obtain ⟨rfl, rfl⟩ := hy
        exact OpRun.pure H (by simp [execOp]) (hE x)
    · simp only [Option.some.injEq, Prod.mk.injEq] at hy
      obtain ⟨rfl, rfl⟩ := hy
      exact OpRun.pure H (by simp [execOp]) (hE x)
  | assign x =>
    simp only [opF] at hy
    split at hy
    · split at hy
      · cases hy
      split at hy
      · rename_i sz hx
        simp only [Option.some.injEq, Prod.mk.injEq] at hy
        obtain ⟨rfl, rfl⟩ := hy
        have hX := hE x
        rw [hx] at hX
        generalize hρ : ρ x = vx at hX
        cases hX
        obtain ⟨h1, h2⟩ := H.new false (slotOf ⟨dst, .assign x, ty, pos, after, guard⟩) (.arr true sz []) .nil (w' := w) (Nat.le_refl _) rfl rfl rfl (fun _ _ => rfl) (fun _ => rfl) (fun _ _ _ e => by cases e)
          (.inl ⟨rfl, rfl, obUpd_same _ _ _ _⟩)
        exact ⟨.value (.slice none 0 0), w, im, _, by simp [execOp, hρ], .inl ⟨_, rfl, .rslN _ _ (obUpd_same _ _ _ _)⟩, h1, ImLe.refl _, h2⟩
      · cases hy
    · simp only [Option.some.injEq, Prod.mk.injEq] at hy
      obtain ⟨rfl, rfl⟩ := hy
      exact OpRun.pure H (by simp [execOp]) (hE x)
  | pick c a b =>
    simp only [opF, Option.map_map, Option.map_eq_some_iff, Function.comp, Prod.mk.injEq] at hy
    obtain ⟨t, ht, rfl, rfl⟩ := hy
    have hb := aBool_V (hE c) ht
    refine OpRun.pure (v := if t then ρ a else ρ b) H ?_ ?_
    · simp [execOp, hb, asBool]
    · cases t
      · exact hE b
      · exact hE a
  | alloc t =>
    simp only [opF] at hy
    split at hy
    · cases hy
    simp only [Option.bind_eq_some_iff, Option.map_eq_some_iff] at hy
    obtain ⟨_, ⟨cs, hcs, rfl⟩, hy⟩ := hy
    obtain ⟨ie, zv, hie, hzv, _⟩ := zeroCells_V (im := im) (ob := ob) hcs
    obtain ⟨ob', h1, h2, h3⟩ := H.newCells (pol.glob f rid i && !κ.ro) globRo (slotOf ⟨dst, .alloc t, ty, pos, after, guard⟩) t (vs := zv.cells) (cs := cs) (fun x => by
      obtain ⟨ie', zv', hie', hzv', hR⟩ := zeroCells_V (im := im) (ob := view (h.alloc (pol.glob f rid i && !κ.ro) (slotOf ⟨dst, .alloc t, ty, pos, after, guard⟩) .gone).1 (obUpd ob (h.alloc (pol.glob f rid i && !κ.ro) (slotOf ⟨dst, .alloc t, ty, pos, after, guard⟩) .gone).1 (h.alloc (pol.glob f rid i && !κ.ro) (slotOf ⟨dst, .alloc t, ty, pos, after, guard⟩) .gone).2.1 x)) hcs
      rw [hie] at hie'; cases hie'
      rw [hzv] at hzv'; cases hzv'
      exact hR) (by
      unfold zeroCells? zero? at hcs
      simp only [Option.bind_eq_some_iff, Option.map_eq_some_iff] at hcs
      obtain ⟨a, ⟨i0, _, v0, _, rfl⟩, hcs⟩ := hcs
      exact cells_noMark hcs)
    obtain ⟨e1, e2⟩ := alloc_fst h (pol.glob f rid i && !κ.ro) (slotOf ⟨dst, .alloc t, ty, pos, after, guard⟩) .gone (.cells cs)
    rw [e1, e2] at h3
    obtain ⟨rfl, ob2, h4, h5⟩ := fldsOf_run h1 h3 (heap_alloc_at w _) (fun c v cs' e hk => by
      cases e
      have h8 : (h.alloc (pol.glob f rid i && !κ.ro) (slotOf ⟨dst, .alloc t, ty, pos, after, guard⟩) (.cells cs)).2.2.con (h.alloc (pol.glob f rid i && !κ.ro) (slotOf ⟨dst, .alloc t, ty, pos, after, guard⟩) (.cells cs)).1 (h.alloc (pol.glob f rid i && !κ.ro) (slotOf ⟨dst, .alloc t, ty, pos, after, guard⟩) (.cells cs)).2.1 = .cells cs := by
        unfold Heap.con; rw [obj_alloc, if_pos rfl]; simp
      rw [h8] at hk; cases hk
      obtain ⟨ie', zv', hie', hzv', hR⟩ := zeroCells_V (im := im) (ob := ob) hcs
      rw [hie] at hie'; cases hie'
      rw [hzv] at hzv'; cases hzv'
      simpa using hR.1) hy
    exact ⟨.value (.pointer (some ⟨w.heap.size, 0, none⟩)), _, im, ob2, by simp [execOp, Instr.alloc, zeroValue, typeInfo, hie, hzv, newVar, newRow], .inl ⟨_, rfl, h3.mono (ImLe.refl _) h5⟩, h4, ImLe.refl _, h2.trans h5⟩
  | box t x =>
    simp only [opF] at hy
    split at hy
    · cases hy
    simp only [Option.bind_eq_some_iff] at hy
    obtain ⟨r0, ⟨vs, hvs, cs, hcs, hall⟩, hy⟩ := hy
    split at hall
    case isFalse => cases hall
    rename_i hone
    simp only [Option.some.injEq] at hall
    subst hall
    rw [alloc_set] at hy
    have hle := fun y => obUpd_le (ob := ob) (c := (h.alloc (pol.glob f rid i && !κ.ro) (slotOf ⟨dst, .box t x, ty, pos, after, guard⟩) .gone).1) (v := (h.alloc (pol.glob f rid i && !κ.ro) (slotOf ⟨dst, .box t x, ty, pos, after, guard⟩) .gone).2.1) y (H.fresh_alloc _ _ .gone _ (Nat.le_refl _))
    obtain ⟨ob', h1, h2, h3⟩ := H.newCells (pol.glob f rid i && !κ.ro) globRo (slotOf ⟨dst, .box t x, ty, pos, after, guard⟩) t (vs := (ρ x).cells) (cs := cs) (fun y => (((hE x).cells hvs).mono (ImLe.refl _) (hle y)).into hcs) (fun j t' hj => by
      have := List.all_eq_true.1 hone _ (List.mem_of_getElem? hj)
      cases this)
    obtain ⟨rfl, ob2, h4, h5⟩ := fldsOf_run h1 h3 (heap_alloc_at w _) (fun c v cs' e hk => by
      cases e
      obtain ⟨e1, e2⟩ := alloc_fst h (pol.glob f rid i && !κ.ro) (slotOf ⟨dst, .box t x, ty, pos, after, guard⟩) .gone (.cells cs)
      have h8 : (h.alloc (pol.glob f rid i && !κ.ro) (slotOf ⟨dst, .box t x, ty, pos, after, guard⟩) (.cells cs)).2.2.con (h.alloc (pol.glob f rid i && !κ.ro) (slotOf ⟨dst, .box t x, ty, pos, after, guard⟩) .gone).1 (h.alloc (pol.glob f rid i && !κ.ro) (slotOf ⟨dst, .box t x, ty, pos, after, guard⟩) .gone).2.1 = .cells cs := by
        rw [e1, e2]; unfold Heap.con; rw [obj_alloc, if_pos rfl]; simp
      rw [h8] at hk; cases hk
      have := (((hE x).cells hvs).into hcs).1
      simpa using this) hy
    exact ⟨.value (.pointer (some ⟨w.heap.size, 0, none⟩)), _, im, ob2, by simp [execOp, Instr.box, newVar, newRow], .inl ⟨_, rfl, h3.mono (ImLe.refl _) h5⟩, h4, ImLe.refl _, h2.trans h5⟩
  | build t parts => exact okk (s := Instr.build t (parts.map fun (i, x) => (i, ρ x))) hy (fun a ha => buildOf_run hE ha) (fun r hr => by simp [execOp, hr])
  | buildSlice t len parts =>
    by_cases hlen : len = 0
    · subst hlen
      simp only [opF] at hy
      split at hy
      · rename_i hemp
        simp only [Option.map_map, Option.map_eq_some_iff, Function.comp, Prod.mk.injEq] at hy
        obtain ⟨r, hr, rfl, rfl⟩ := hy
        have hp : parts = #[] := by simpa using hemp
        subst hp
        unfold buildSliceOf at hr
        split at hr
        · rename_i e hu
          simp only [Option.bind_eq_some_iff] at hr
          obtain ⟨n, hn, z, hz, hr⟩ := hr
          refine ⟨.value (.slice (some ⟨w.heap.size, 0, none⟩) 0 0), w.alloc (.cells #[] e), im, ob, ?_, .inl ⟨_, rfl, .ez _⟩, H.grow (ImLe.refl _) (Fresh.alloc w _).below (fun _ _ _ hv => .inl hv), ImLe.refl _, ObLe.refl _⟩
          have hr0 : ∀ f : Nat → Value, Array.map f (Array.range 0) = #[] := fun _ => by simp [Array.range]
          simp [execOp, Instr.buildSlice, und_run hu, run_size hn, Instr.fill, newRow, hr0]
        · cases hr
      · cases hy
    · have e1 : opF P pol call f κ.ro rid i draw ⟨dst, .buildSlice t len parts, ty, pos, after, guard⟩ ev h = (if draw && pol.mu f rid i then none else (buildSliceOf P t len (parts.toList.map fun p => (p.1, ev p.2))).bind fun xs =>
          newSlice h (pol.mu f rid i) (pol.glob f rid i && !κ.ro) (slotAt pol f rid i ⟨dst, .buildSlice t len parts, ty, pos, after, guard⟩) xs.1 xs.2) := by
        cases len with
        | zero => exact absurd rfl hlen
        | succ n => rfl
      rw [e1] at hy
      split at hy
      · cases hy
      simp only [Option.bind_eq_some_iff] at hy
      obtain ⟨⟨n, xs⟩, hxs, hy⟩ := hy
      obtain ⟨e, C, q1, q2, q3, q4⟩ := buildSliceOf_run (P := P) (w := w) hE hxs hlen
      subst q3
      obtain ⟨im', ob', g1, g2, g3, g4⟩ := newSlice_run H globRo hy (Fresh.alloc w (.cells C e)) q2 (Nat.le_refl _) (by show xs.length * n ≤ C.size; omega)
      exact ⟨.value _, _, im', ob', by simp only [execOp, Sem.run_bind, q1, Result.andThen_ok, Sem.run_pure], .inl ⟨_, rfl, g4⟩, g1, g2, g3⟩
  | load t a =>
    simp only [opF] at hy
    split at hy
    · split at hy
      · cases hy
      simp only [Option.bind_eq_some_iff] at hy
      obtain ⟨x, hx, hy⟩ := hy
      obtain ⟨v, hrun, hX⟩ := loadAt_run H (hE a) hx
      have hop : (execOp ρ ⟨dst, .load t a, ty, pos, after, guard⟩).run P w = .ok (.value v) w := by simp [execOp, hrun]
      unfold frzOf at hy
      split at hy
      · rename_i c v2 off len
        split at hy
        · cases hy
        rename_i hro
        simp only [Option.bind_eq_some_iff] at hy
        obtain ⟨ys, hys, hy⟩ := hy
        split at hy
        · rename_i nl sz xs hk
          simp only [Option.some.injEq, Prod.mk.injEq] at hy
          obtain ⟨rfl, rfl⟩ := hy
          simp only [elemsOf, hk] at hys
          obtain ⟨im', h1, h2, h3⟩ := freeze_run H hX (here_of hro) hys (.inl hk)
          exact ⟨.value v, w, im', ob, hop, .inl ⟨_, rfl, h3⟩, h1, h2, ObLe.refl _⟩
        · rename_i nl sz xs hk
          simp only [Option.some.injEq, Prod.mk.injEq] at hy
          obtain ⟨rfl, rfl⟩ := hy
          simp only [elemsOf, hk] at hys
          obtain ⟨im', h1, h2, h3⟩ := freeze_run H hX (here_of hro) hys (.inr hk)
          exact ⟨.value v, w, im', ob, hop, .inl ⟨_, rfl, h3⟩, h1, h2, ObLe.refl _⟩
        · cases hy
      · simp only [Option.some.injEq, Prod.mk.injEq] at hy
        obtain ⟨rfl, rfl⟩ := hy
        exact OpRun.pure H hop hX
    split at hy
    · cases hy
    exact okk (s := Instr.loadAt t (ρ a)) hy (fun x hx => loadAt_run H (hE a) hx) (fun r hr => by simp [execOp, hr])
  | store t a x =>
    simp only [opF] at hy
    split at hy
    · cases hy
    simp only [Option.map_eq_some_iff, Prod.mk.injEq] at hy
    obtain ⟨st, hst, rfl, rfl⟩ := hy
    obtain ⟨w', q1, q2⟩ := storeAt_run H (hE a) (hE x) hst
    exact ⟨.skip, w', im, ob, by simp [execOp, q1], .inr ⟨rfl, rfl⟩, q2, ImLe.refl _, ObLe.refl _⟩
  | nilCheck x =>
    simp only [opF] at hy
    have hX := hE x
    generalize hρ : ρ x = vx at hX
    have fin : ∀ a, vx = .pointer (some a) → V0 im ob vx y → h' = h → OpRun P κ im ob ρ ⟨dst, .nilCheck x, ty, pos, after, guard⟩ w y h' := fun a e hV eh => by
      subst e; subst eh
      exact OpRun.pure H (by simp [execOp, hρ]) hV
    split at hy
    · rename_i hx; rw [hx] at hX
      simp only [Option.map_some, Option.some.injEq, Prod.mk.injEq] at hy
      obtain ⟨rfl, rfl⟩ := hy
      have hX' := hX
      cases hX; exact fin _ rfl hX' rfl
    · rename_i hx; rw [hx] at hX
      simp only [Option.map_some, Option.some.injEq, Prod.mk.injEq] at hy
      obtain ⟨rfl, rfl⟩ := hy
      have hX' := hX
      cases hX; exact fin _ rfl hX' rfl
    · rename_i hx; rw [hx] at hX
      simp only [Option.map_some, Option.some.injEq, Prod.mk.injEq] at hy
      obtain ⟨rfl, rfl⟩ := hy
      have hX' := hX
      cases hX; exact fin _ rfl hX' rfl
    · cases hy
  | binOp op t x z q => exact okk (s := do eqGuard op t x z (ρ x) (ρ z); binOp op t (ρ x) (ρ z)) hy (fun a ha => binOf_run (hE x) (hE z) ha) (fun r hr => by simp only [execOp]; rw [Sem.run_bind, hr]; simp)
  | unOp op t x => exact okk (s := Op.unary op (ρ x)) hy (fun a ha => unOf_run (hE x) ha) (fun r hr => by simp [execOp, hr])
  | convert s d x =>
    by_cases hr : rowConv P d (ev x)
    · simp only [opF, Option.map_eq_some_iff, Prod.mk.injEq] at hy
      obtain ⟨a, ha, rfl, rfl⟩ := hy
      obtain ⟨e, b, cap, fz, rfl, hcap, hrun⟩ := convRow_run (w := w) (hE x) ha hr
      obtain ⟨im', g1, g2, g4⟩ := newSl_run (n := 1) (xs := b.data.toList.map fun x => [.int .u8 x.toNat]) H (Fresh.drew w (.cells (bytesRow b cap) e fz)) (by
        refine ⟨fun i e he => ?_, by simp only [bytesRow, List.length_map, Array.length_toList, Array.size_append, Array.size_map, Nat.mul_one]; omega, fun i j e v x he hx hv => ?_⟩
        · simp only [List.getElem?_map, Option.map_eq_some_iff] at he
          obtain ⟨q, _, rfl⟩ := he
          rfl
        · simp only [List.getElem?_map, Option.map_eq_some_iff] at he
          obtain ⟨q, hq, rfl⟩ := he
          cases j with
          | succ j => simp at hx
          | zero =>
            simp only [List.getElem?_cons_zero, Option.some.injEq] at hx
            subst hx
            have hq' : b.data[i]? = some q := by simpa using hq
            have hlt : i < b.data.size := (Array.getElem?_eq_some_iff.1 hq').1
            rw [Nat.mul_one, Nat.add_zero, bytesRow_at b cap i hlt] at hv
            rw [Array.getElem?_eq_getElem hlt] at hq'
            simp only [Option.some.injEq] at hv hq'
            subst hv hq'
            exact .int _ _) (cap := cap) (by simpa using hcap) (by
        have : b.data.size = b.size := rfl
        simp only [bytesRow, Array.size_append, Array.size_map, Array.size_replicate, Nat.mul_one]
        omega)
      refine ⟨.value (.slice (some ⟨w.heap.size, 0, none⟩) b.size cap), _, im', ob, by simp only [execOp, Sem.run_bind, hrun, Result.andThen_ok, Sem.run_pure], .inl ⟨_, rfl, ?_⟩, g1, g2, ObLe.refl _⟩
      simpa using g4
    · exact okk (s := convert s d (ρ x)) hy (fun a ha => convOf_run H.imw (hE x) ha hr) (fun r hr => by simp [execOp, hr])
  | makeInterface t x =>
    simp only [opF] at hy
    split at hy
    · cases hy
    · rename_i d hd hu
      simp only [Option.map_some, Option.some.injEq, Prod.mk.injEq] at hy
      obtain ⟨rfl, rfl⟩ := hy
      refine OpRun.pure (v := .iface t (ρ x)) H ?_ (.ifc t _ _ (hE x))
      have : (Instr.makeInterface t (ρ x)).run P w = .ok (.iface t (ρ x)) w := by
        unfold Instr.makeInterface
        rw [Sem.run_bind, und_run hu, Result.andThen_ok]
        split
        · exact (hd _ rfl).elim
        · rfl
      simp [execOp, this]
    · cases hy
  | makeFunc fn first caps =>
    simp only [opF, Option.map_some, Option.some.injEq, Prod.mk.injEq] at hy
    obtain ⟨rfl, rfl⟩ := hy
    have hj : ∀ (l : Array Operand) (j : Nat) (v : Value) (x : AV), (l.map ρ)[j]? = some v → (l.toList.map ev)[j]? = some x → V0 im ob v x := fun l j v x h1 h2 => by
      simp only [Array.getElem?_map, List.getElem?_map, Option.map_eq_some_iff] at h1 h2
      obtain ⟨q, hq, rfl⟩ := h1
      obtain ⟨q', hq', rfl⟩ := h2
      rw [Array.getElem?_toList, hq] at hq'; cases hq'
      exact hE q
    exact OpRun.pure (v := .func fn (first.map ρ) (caps.map ρ)) H (by simp [execOp, Instr.makeFunc]) (.fn _ _ _ _ _ (by simp) (by simp) (hj first) (hj caps))
  | makeMap t r =>
    cases r with
    | some r => simp only [opF] at hy; cases hy
    | none =>
      simp only [opF] at hy
      split at hy
      · cases hy
      simp only [Option.some.injEq, Prod.mk.injEq] at hy
      obtain ⟨rfl, rfl⟩ := hy
      obtain ⟨h1, h2⟩ := H.new (pol.glob f rid i && !κ.ro) (slotOf ⟨dst, .makeMap t none, ty, pos, after, guard⟩) (.map []) (.blk w.heap.size 0 0) (w' := w.alloc (.map #[] 0)) (by simp) rfl rfl rfl (fun b hb => heap_alloc_old w _ b hb) globRo (fun b sz n e => by cases e; exact Nat.le_refl _)
        ⟨w.heap.size, 0, 0, #[], 0, obUpd_same _ _ _ _, heap_alloc_at w _, rfl, by simp, H.imNone (Nat.le_refl _), H.ble⟩
      exact ⟨.value (.map (some w.heap.size)), _, im, _, by simp [execOp, Instr.makeMap], .inl ⟨_, rfl, .mp _ _ _ _ _ (obUpd_same _ _ _ _)⟩, h1, ImLe.refl _, h2⟩
  | makeSlice t l c =>
    simp only [opF] at hy
    split at hy
    · cases hy
    simp only [Option.bind_eq_some_iff] at hy
    obtain ⟨⟨n, xs⟩, hxs, hy⟩ := hy
    obtain ⟨e, C, cap, q1, q2, q3, q4⟩ := makeSliceOf_run H (hE l) (hE c) hxs
    obtain ⟨im', ob', g1, g2, g3, g4⟩ := newSlice_run H globRo hy (Fresh.alloc w (.cells C e)) q2 q3 q4
    exact ⟨.value _, _, im', ob', by simp only [execOp, Sem.run_bind, q1, Result.andThen_ok, Sem.run_pure], .inl ⟨_, rfl, g4⟩, g1, g2, g3⟩
  | slice t x lo hi mx => exact okk (s := Instr.sliceAt t (ρ x) (lo.map ρ) (hi.map ρ) (mx.map ρ)) hy (fun a ha => sliceOf_run hE ha) (fun r hr => by simp [execOp, hr])
  | fieldAddr t x fd => exact okk (s := Instr.fieldAt t (ρ x) fd) hy (fun a ha => fieldAddr_run (hE x) ha) (fun r hr => by simp [execOp, hr])
  | field t x fd => exact okk (s := Instr.field t (ρ x) fd) hy (fun a ha => fieldOf_run (hE x) ha) (fun r hr => by simp [execOp, hr])
  | indexAddr t x ix => exact okk (s := Instr.indexAt t (ρ x) (ρ ix)) hy (fun a ha => indexAddr_run H (hE x) (hE ix) ha) (fun r hr => by simp [execOp, hr])
  | index t x ix => exact okk (s := Instr.index t (ρ x) (ρ ix)) hy (fun a ha => indexOf_run (hE x) (hE ix) ha) (fun r hr => by simp [execOp, hr])
  | lookup t x k b =>
    simp only [opF] at hy
    split at hy
    · rename_i kt e hu
      split at hy
      · cases hy
      rename_i hf
      have hf : keyFits P kt (ev k) = true := by simpa using hf
      split at hy
      · rename_i c v hx
        have hX := hE x
        rw [hx] at hX
        split at hy
        · rename_i es hk
          exact okk (s := Instr.lookup t (ρ x) (ρ k) b) hy (fun a ha => lookup_run H hu hX (hE k) hf hk ha) (fun r hr => by simp [execOp, hr])
        · cases hy
      · rename_i hx
        have hX := hE x
        rw [hx] at hX
        exact okk (s := Instr.lookup t (ρ x) (ρ k) b) hy (fun a ha => lookup_nil_run hu hX (hE k) hf ha) (fun r hr => by simp [execOp, hr])
      · cases hy
    · cases hy
  | mapUpdate t m k x =>
    simp only [opF] at hy
    split at hy
    · rename_i kt e hu
      split at hy
      · cases hy
      rename_i hf
      have hf : keyFits P kt (ev k) = true := by simpa using (by simpa using hf : _ ∧ _).2
      split at hy
      · rename_i c v hm
        have hM := hE m
        rw [hm] at hM
        split at hy
        · cases hy
        rename_i hro
        split at hy
        · rename_i es hk
          simp only [Option.bind_eq_some_iff, Option.map_eq_some_iff, Prod.mk.injEq] at hy
          obtain ⟨x', hx', es2, hes, rfl, rfl⟩ := hy
          obtain ⟨w', q1, q2⟩ := mapUpdate_run H hu hM (hE k) (hE x) hf (here_of hro) hk hx' hes
          exact ⟨.skip, w', im, ob, by simp [execOp, q1], .inr ⟨rfl, rfl⟩, q2, ImLe.refl _, ObLe.refl _⟩
        · cases hy
      · cases hy
    · cases hy
  | insert t m k x =>
    simp only [opF] at hy
    split at hy
    · rename_i kt e hu
      split at hy
      · cases hy
      rename_i hf
      have hf : keyFits P kt (ev k) = true := by simpa using (by simpa using hf : _ ∧ _).2
      split at hy
      · rename_i c v hm
        have hM := hE m
        rw [hm] at hM
        split at hy
        · cases hy
        rename_i hro
        split at hy
        · rename_i es hk
          simp only [Option.bind_eq_some_iff, Option.map_eq_some_iff, Prod.mk.injEq] at hy
          obtain ⟨x', hx', es2, hes, rfl, rfl⟩ := hy
          obtain ⟨w', q1, q2⟩ := mapUpdate_run H hu hM (hE k) (hE x) hf (here_of hro) hk hx' hes
          exact ⟨.skip, w', im, ob, by simp [execOp, q1], .inr ⟨rfl, rfl⟩, q2, ImLe.refl _, ObLe.refl _⟩
        · cases hy
      · cases hy
    · cases hy
  | extract t k =>
    simp only [opF] at hy
    split at hy
    · rename_i vs ht
      have hT := hE t
      rw [ht] at hT
      generalize hρ : ρ t = vt at hT
      cases hT with
      | tup us _ h1 h2 =>
        simp only [Option.map_eq_some_iff, Prod.mk.injEq] at hy
        obtain ⟨a, ha, rfl, rfl⟩ := hy
        have hlt : k < us.size := by rw [h1]; exact (List.getElem?_eq_some_iff.1 ha).1
        exact OpRun.pure (v := us[k]) H (by simp [execOp, hρ, Instr.extract, hlt]) (h2 k _ a (by simp [hlt]) ha)
    · cases hy
  | call c =>
    simp only [opF, Option.bind_eq_some_iff] at hy
    obtain ⟨wh, hwh, hy⟩ := hy
    cases wh with
    | func g args => exact absurd hwh (hnc c g args rfl)
    | blt b =>
      simp only at hy
      obtain ⟨callee, args, argTypes⟩ := c
      have hcal : callee = .builtin b := by
        unfold whoOf at hwh
        split at hwh
        · rename_i b' hb; simp only [Option.some.injEq, Who.blt.injEq] at hwh; rw [← hwh]; exact hb
        · split at hwh <;> simp at hwh
        · split at hwh <;> simp at hwh
      subst hcal
      obtain ⟨v, w', im', ob', q1, q2, q3, q4, q5⟩ := blt_run (ty := ty) (cc := args.map fun | .const _ => true | _ => false) H hE globRo hy
      exact ⟨.value v, w', im', ob', by simp only [execOp, resolve, Sem.run_bind, Sem.run_pure, Result.andThen_ok, invoke]; exact q1, .inl ⟨v, rfl, q2⟩, q3, q4, q5⟩
  | _ => simp only [opF] at hy; cases hy
end Go.AE
