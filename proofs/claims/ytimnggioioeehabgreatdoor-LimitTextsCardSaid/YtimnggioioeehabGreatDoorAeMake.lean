/- Literals, slices of slices, makes. -/
import Derived.Test.YtimnggioioeehabGreatDoorAeMem
import Derived.Great.BuildSlice
namespace Go.AE
open Go.RowKit (Below)

variable {P : Program} {κ : Ctx} {im : Imm} {ob : Obm} {h : Heap} {w : World}

/-- Operands by what they are and by what is said of them. -/
def EvR (im : Imm) (ob : Obm) (ρ : Operand → Value) (ev : Operand → AV) : Prop := ∀ x, V0 im ob (ρ x) (ev x)
theorem EvR.mono {im' : Imm} {ob' : Obm} {ρ : Operand → Value} {ev : Operand → AV} (hE : EvR im ob ρ ev) (hi : ImLe im im') (ho : ObLe ob ob') : EvR im' ob' ρ ev := fun x => (hE x).mono hi ho

theorem bounds_run {ρ : Operand → Value} {ev : Operand → AV} (hE : EvR im ob ρ ev) (isSlice : Bool) (len cap : Nat) {lo hi : Option Operand} {l g : Int}
    (hl : optInt 0 (lo.map ev) = some l) (hg : optInt len (hi.map ev) = some g) (h0 : 0 ≤ l) (h1 : l ≤ g) (h2 : g ≤ cap) :
    (Instr.sliceBounds isSlice len cap (lo.map ρ) (hi.map ρ) none).run P w = .ok (l.toNat, g.toNat, cap) w := by
  have hgn : (0 : Int) ≤ g := by omega
  have e3 : g ≤ (cap : Int) := h2
  cases hi with
  | none =>
    simp only [optInt, Option.map_none, Option.some.injEq] at hg
    subst hg
    cases lo with
    | none => simp only [optInt, Option.map_none, Option.some.injEq] at hl; subst hl; simp [Instr.sliceBounds]
    | some x =>
      simp only [optInt, Option.map_some] at hl
      obtain ⟨k, hk⟩ := aInt_V (hE x) hl
      simp [Instr.sliceBounds, Instr.sliceBound, asIntOf, hk, h0, h1]
  | some y =>
    simp only [optInt, Option.map_some] at hg
    obtain ⟨k2, hk2⟩ := aInt_V (hE y) hg
    cases lo with
    | none => simp only [optInt, Option.map_none, Option.some.injEq] at hl; subst hl; simp [Instr.sliceBounds, Instr.sliceBound, asIntOf, hk2, hgn, e3]
    | some x =>
      simp only [optInt, Option.map_some] at hl
      obtain ⟨k, hk⟩ := aInt_V (hE x) hl
      simp [Instr.sliceBounds, Instr.sliceBound, asIntOf, hk, hk2, hgn, e3, h0]
      intro hh; omega

theorem sliceOf_run {ρ : Operand → Value} {ev : Operand → AV} (hE : EvR im ob ρ ev) {t : TypeId} {x : Operand} {lo hi mx : Option Operand} {y : AV}
    (hy : sliceOf P t (ev x) (lo.map ev) (hi.map ev) (mx.map ev) = some y) :
    ∃ v, (Instr.sliceAt t (ρ x) (lo.map ρ) (hi.map ρ) (mx.map ρ)).run P w = .ok v w ∧ V0 im ob v y := by
  have hX := hE x
  unfold sliceOf at hy
  split at hy
  · rename_i s hu hx hm
    have hm' : mx = none := by cases mx <;> simp at hm ⊢
    subst hm'
    simp only [Option.bind_eq_some_iff] at hy
    obtain ⟨l, hl, g, hg, hy⟩ := hy
    split at hy
    · rename_i hc
      simp only [Option.some.injEq] at hy; subst hy
      rw [hx] at hX
      generalize hρ : ρ x = vx at hX ⊢
      cases hX
      exact ⟨.string (s.extract l.toNat g.toNat), by simp [Instr.sliceAt, Instr.slice, und_run hu, bounds_run hE false s.size s.size hl hg hc.1 hc.2.1 hc.2.2], .str _⟩
    · cases hy
  · rename_i e nl sz xs hu hx hm
    have hm' : mx = none := by cases mx <;> simp at hm ⊢
    subst hm'
    simp only [Option.bind_eq_some_iff] at hy
    obtain ⟨n, hn, l, hl, g, hg, hy⟩ := hy
    split at hy
    · rename_i hc
      obtain ⟨rfl, h0, h1, h2⟩ := hc
      simp only [Option.some.injEq] at hy; subst hy
      rw [hx] at hX
      generalize hρ : ρ x = vx at hX ⊢
      cases hX with
      | snil =>
        have hb := bounds_run (P := P) (w := w) hE true 0 0 hl (by simpa using hg) h0 h1 (by simpa using h2)
        have : l.toNat = 0 := by simp at h2; omega
        have : g.toNat = 0 := by simp at h2; omega
        exact ⟨.slice none 0 0, by simp [Instr.sliceAt, Instr.slice, und_run hu, hb, run_size hn, *], by simpa using V0.snil n⟩
      | slE a cap =>
        have hb := bounds_run (P := P) (w := w) hE true 0 cap hl (by simpa using hg) h0 h1 (by simp at h2; omega)
        have e1 : l.toNat = 0 := by simp at h2; omega
        have e2 : g.toNat = 0 := by simp at h2; omega
        refine ⟨.slice (some (if cap = 0 then a else a.add 0)) 0 cap, ?_, by simpa using V0.slE _ cap n⟩
        simp [Instr.sliceAt, Instr.slice, und_run hu, hb, run_size hn, e1, e2]
        split <;> simp
      | sl b off len cap xs sz hll hcp hz q1 q2 =>
        have hb := bounds_run (P := P) (w := w) hE true len cap hl (by rw [← hll]; exact hg) h0 h1 (by omega)
        have elen : (g - l).toNat = g.toNat - l.toNat := by omega
        by_cases he : l = g
        · subst he
          refine ⟨.slice (some (if cap = l.toNat then ⟨b, off, none⟩ else (⟨b, off, none⟩ : Addr).add (l.toNat * n))) 0 (cap - l.toNat), ?_, by simpa using V0.slE _ _ n⟩
          simp [Instr.sliceAt, Instr.slice, und_run hu, hb, run_size hn]
          split <;> simp_all
        · have hne : ¬ cap = l.toNat := by omega
          refine ⟨.slice (some ⟨b, off + l.toNat * n, none⟩) (g.toNat - l.toNat) (cap - l.toNat), ?_, ?_⟩
          · simp [Instr.sliceAt, Instr.slice, und_run hu, hb, run_size hn, hne, add_eq]
          · refine .sl b _ _ _ _ n (by simp; omega) (by omega) (fun i e he => ?_) (fun i j hi hj => ?_) (fun i j e v x he hx hv => ?_)
            · simp only [List.getElem?_take, List.getElem?_drop] at he
              split at he
              · exact hz _ _ he
              · cases he
            · obtain ⟨v, hv⟩ := q1 (l.toNat + i) j (by simp at hi; omega) hj
              exact ⟨v, by rw [Nat.add_mul, ← Nat.add_assoc] at hv; exact hv⟩
            · simp only [List.getElem?_take, List.getElem?_drop] at he
              split at he
              · exact q2 (l.toNat + i) j e v x he hx (by rw [Nat.add_mul, ← Nat.add_assoc]; exact hv)
              · cases he
    · cases hy
  · rename_i e nl sz xs m hu hx hm
    simp only [Option.bind_eq_some_iff] at hy
    obtain ⟨n, hn, l, hl, g, hg, m', hm', hy⟩ := hy
    split at hy
    · rename_i hc
      obtain ⟨rfl, rfl, rfl⟩ := hc
      simp only [Option.some.injEq] at hy; subst hy
      cases mx with
      | none => simp at hm
      | some mo =>
      simp only [Option.map_some, Option.some.injEq] at hm; subst hm
      obtain ⟨km, hkm⟩ := aInt_V (hE mo) hm'
      cases hi with
      | none => simp [optInt] at hg
      | some ho =>
      simp only [optInt, Option.map_some] at hg
      obtain ⟨kh, hkh⟩ := aInt_V (hE ho) hg
      have hlow : lo = none ∨ ∃ lw k, lo = some lw ∧ ρ lw = .int k 0 := by
        cases lo with
        | none => exact .inl rfl
        | some lw => simp only [optInt, Option.map_some] at hl; obtain ⟨k, hk⟩ := aInt_V (hE lw) hl; exact .inr ⟨lw, k, rfl, hk⟩
      rw [hx] at hX
      generalize hρ : ρ x = vx at hX ⊢
      have hb : ∀ len cap : Nat, (Instr.sliceBounds true len cap (lo.map ρ) (some (ρ ho)) (some (ρ mo))).run P w = .ok (0, 0, 0) w := fun len cap => by
        have hcap : (0 : Int) ≤ cap := by omega
        rcases hlow with rfl | ⟨lw, k, rfl, hk⟩ <;> simp [Instr.sliceBounds, Instr.sliceBound, asIntOf, hkm, hkh, hcap, *]
      cases hX with
      | snil => exact ⟨.slice none 0 0, by simp [Instr.sliceAt, Instr.slice, und_run hu, hb, run_size hn], by simpa using V0.snil _⟩
      | slE a cap => exact ⟨.slice (some a) 0 0, by simp [Instr.sliceAt, Instr.slice, und_run hu, hb, run_size hn], by simpa using V0.ez a⟩
      | sl b off len cap xs sz hll hcp hz q1 q2 => exact ⟨.slice (some ⟨b, off, none⟩) 0 0, by simp [Instr.sliceAt, Instr.slice, und_run hu, hb, run_size hn], by simpa using V0.ez _⟩
    · cases hy
  · rename_i e c v off len hu hx hm
    have hm' : mx = none := by cases mx <;> simp at hm ⊢
    subst hm'
    simp only [Option.bind_eq_some_iff] at hy
    obtain ⟨n, hn, l, hl, g, hg, hy⟩ := hy
    split at hy
    · rename_i hc
      obtain ⟨rfl, h1, h2⟩ := hc
      simp only [Option.some.injEq] at hy; subst hy
      rw [hx] at hX
      generalize hρ : ρ x = vx at hX ⊢
      cases hX with
      | rslN c v hb => simp at h2; omega
      | rslE c v a hb => simp at h2; omega
      | rsl c v off len cap b sz n' hb hcp hnn =>
        have hbd := bounds_run (P := P) (w := w) hE true len cap hl hg (Int.le_refl _) (by omega) (by omega)
        have hne : ¬ cap = 0 := by omega
        refine ⟨.slice (some ⟨b, off * sz, none⟩) g.toNat cap, ?_, .rsl _ _ _ _ _ _ _ _ hb (by omega) hnn⟩
        simp [Instr.sliceAt, Instr.slice, und_run hu, hbd, run_size hn, hne, add_eq]
    · cases hy
  · cases hy

/-! ### literals -/
theorem foldl_set_list (off : Nat) : ∀ (l : List Value) (k : Nat) (cells : Array Value), (∀ j, off + k + j < cells.size ∨ l.length ≤ j) →
    ((l.zipIdx k).foldl (fun cs p => cs.setIfInBounds (off + p.2) p.1) cells).size = cells.size ∧
    ∀ i : Nat, ((l.zipIdx k).foldl (fun cs p => cs.setIfInBounds (off + p.2) p.1) cells)[i]? = if off + k ≤ i ∧ i < off + k + l.length then l[i - (off + k)]? else cells[i]?
  | [], k, cells, _ => by simp; omega
  | v :: r, k, cells, hl => by
    have h0 := hl 0
    simp only [List.length_cons, Nat.add_zero] at h0
    have hlt : off + k < cells.size := by omega
    obtain ⟨h1, h2⟩ := foldl_set_list off r (k + 1) (cells.setIfInBounds (off + k) v) (fun j => by
      have := hl (j + 1)
      simp only [List.length_cons] at this
      simp; omega)
    simp only [List.zipIdx_cons, List.foldl_cons]
    refine ⟨by rw [h1]; simp, fun i => ?_⟩
    rw [h2 i]
    by_cases c1 : off + (k + 1) ≤ i ∧ i < off + (k + 1) + r.length
    · rw [if_pos c1, if_pos (by simp; omega)]
      have : i - (off + k) = (i - (off + (k + 1))) + 1 := by omega
      rw [this]; simp
    · rw [if_neg c1]
      by_cases c2 : i = off + k
      · subst c2
        rw [if_pos ⟨Nat.le_refl _, by simp⟩, Nat.sub_self]
        simp [hlt]
      · rw [if_neg (by simp only [List.length_cons]; omega), Array.getElem?_setIfInBounds_ne (by omega)]

theorem foldl_set (off : Nat) (vs cells : Array Value) (hl : off + vs.size ≤ cells.size) :
    (vs.zipIdx.foldl (fun cs p => cs.setIfInBounds (off + p.2) p.1) cells).size = cells.size ∧
    ∀ i : Nat, (vs.zipIdx.foldl (fun cs p => cs.setIfInBounds (off + p.2) p.1) cells)[i]? = if off ≤ i ∧ i < off + vs.size then vs[i - off]? else cells[i]? := by
  have := foldl_set_list off vs.toList 0 cells (fun j => by simp; omega)
  rw [← Array.foldl_toList, Array.toList_zipIdx]
  simpa using this

theorem fill_run {ρ : Operand → Value} {ev : Operand → AV} (hE : EvR im ob ρ ev) (place : Nat → Option (Nat × Nat)) : ∀ (parts : List (Nat × Operand)) (vc : Array Value) (cs r : List AV),
    CellsR im ob vc.toList cs → fillA place cs (parts.map fun p => (p.1, ev p.2)) = some r → ∃ vr, Instr.fill place vc (parts.map fun p => (p.1, ρ p.2)) = some vr ∧ CellsR im ob vr.toList r
  | [], vc, cs, r, hR, hf => by simp only [List.map_nil, fillA, Option.some.injEq] at hf; subst hf; exact ⟨vc, rfl, hR⟩
  | (i, x) :: rest, vc, cs, r, hR, hf => by
    simp only [List.map_cons, fillA, Option.bind_eq_some_iff] at hf
    obtain ⟨p, hp, vs, hvs, hf⟩ := hf
    split at hf
    · rename_i hc
      obtain ⟨hc1, hc2⟩ := hc
      have hX := (hE x).cells hvs
      have hsz : (ρ x).cells.size = p.2 := by have := hX.1; simp at this; omega
      have hcl : vc.size = cs.length := by have := hR.1; simpa using this
      obtain ⟨g1, g2⟩ := foldl_set p.1 (ρ x).cells vc (by omega)
      have hR2 : CellsR im ob ((ρ x).cells.zipIdx.foldl (fun cs p' => cs.setIfInBounds (p.1 + p'.2) p'.1) vc).toList (writeAll cs p.1 vs) := by
        refine ⟨by rw [writeAll_length]; simp only [Array.length_toList]; omega, fun j v y hv hy => ?_⟩
        rw [Array.getElem?_toList, g2 j] at hv
        rw [writeAll_get _ _ _ _ (by omega)] at hy
        by_cases hj : p.1 ≤ j ∧ j < p.1 + p.2
        · rw [if_pos (by omega)] at hv
          rw [if_pos (by omega)] at hy
          exact hX.2 _ _ _ (by simpa using hv) hy
        · rw [if_neg (by omega)] at hv
          rw [if_neg (by omega)] at hy
          exact hR.2 j v y (by simpa using hv) hy
      obtain ⟨vr, hvr, hRr⟩ := fill_run hE place rest _ _ r hR2 hf
      refine ⟨vr, ?_, hRr⟩
      simp only [List.map_cons, Instr.fill, hp]
      rw [if_neg (by simp; omega)]
      exact hvr
    · cases hf

theorem zeroCells_V {t : TypeId} {cs : List AV} (hz : zeroCells? P t = some cs) : ∃ i z, P.info? t = some i ∧ i.zero = some z ∧ CellsR im ob z.cells.toList cs := by
  simp only [zeroCells?, zero?, Option.bind_eq_some_iff, Option.map_eq_some_iff] at hz
  obtain ⟨x, ⟨i, hi, z, hz, rfl⟩, hc⟩ := hz
  exact ⟨i, z, hi, hz, (V0.ofV z).cells hc⟩

theorem places_eq : ∀ (fs : List Field) (l : List (Nat × Nat)), placesOf P fs = some l → fs.mapM (fun f => (P.info? f.type).map fun i => (f.offset, i.size)) = some l
  | [], l, h => by simp [placesOf] at h; subst h; rfl
  | f :: r, l, h => by
    simp only [placesOf, size?, Option.bind_eq_some_iff, Option.map_eq_some_iff] at h
    obtain ⟨n, ⟨i, hi, rfl⟩, l', hl', rfl⟩ := h
    simp [List.mapM_cons, hi, places_eq r l' hl']

theorem buildOf_run {ρ : Operand → Value} {ev : Operand → AV} (hE : EvR im ob ρ ev) {t : TypeId} {parts : Array (Nat × Operand)} {y : AV}
    (hy : buildOf P t (parts.toList.map fun p => (p.1, ev p.2)) = some y) : ∃ v, (Instr.build t (parts.map fun (i, x) => (i, ρ x))).run P w = .ok v w ∧ V0 im ob v y := by
  simp only [buildOf, Option.bind_eq_some_iff] at hy
  obtain ⟨z, hz, hy⟩ := hy
  obtain ⟨it, zv, hit, hzv, hzR⟩ := zeroCells_V (im := im) (ob := ob) hz
  have hmap : (parts.map fun (i, x) => (i, ρ x)).toList = parts.toList.map fun p => (p.1, ρ p.2) := by simp
  split at hy
  · rename_i fs hu
    simp only [Option.bind_eq_some_iff, Option.map_eq_some_iff] at hy
    obtain ⟨pl, hpl, r, hr, rfl⟩ := hy
    obtain ⟨vr, hvr, hR⟩ := fill_run hE (fun i => pl[i]?) parts.toList zv.cells z r hzR hr
    refine ⟨.agg vr, run_build w t _ vr ?_, .agg _ _ (by simpa using hR.1) (fun j v x hv hx => hR.2 j v x (by simpa using hv) hx)⟩
    unfold Program.built
    rw [hmap]
    simp only [hit, hu, hzv, places_eq _ _ hpl]
    simpa using hvr
  · rename_i n e hu
    simp only [Option.bind_eq_some_iff, Option.map_eq_some_iff] at hy
    obtain ⟨m, hm, r, hr, rfl⟩ := hy
    obtain ⟨vr, hvr, hR⟩ := fill_run hE (fun i => some (i * m, m)) parts.toList zv.cells z r hzR hr
    refine ⟨.agg vr, run_build w t _ vr ?_, .agg _ _ (by simpa using hR.1) (fun j v x hv hx => hR.2 j v x (by simpa using hv) hx)⟩
    simp only [size?, Option.map_eq_some_iff] at hm
    obtain ⟨ie, hie, rfl⟩ := hm
    unfold Program.built
    rw [hmap]
    simp only [hit, hu, hzv, hie]
    exact hvr
  · cases hy

/-- Elements of n cells each, as a row of cells. -/
def RowR (im : Imm) (ob : Obm) (n : Nat) (C : Array Value) (xs : List (List AV)) : Prop :=
  (∀ (i : Nat) (e : List AV), xs[i]? = some e → e.length = n) ∧ xs.length * n ≤ C.size ∧
  ∀ (i j : Nat) (e : List AV) (v : Value) (x : AV), xs[i]? = some e → e[j]? = some x → C[i * n + j]? = some v → V0 im ob v x

theorem RowR.mono {im' : Imm} {ob' : Obm} (hi : ImLe im im') (ho : ObLe ob ob') {n : Nat} {C : Array Value} {xs : List (List AV)} (h : RowR im ob n C xs) : RowR im' ob' n C xs :=
  ⟨h.1, h.2.1, fun i j e v x a b c => (h.2.2 i j e v x a b c).mono hi ho⟩
theorem RowR.into {c : Loc} {n : Nat} {C : Array Value} {xs ys : List (List AV)} (h : RowR im ob n C xs) (hd : intoAllL c xs = some ys) : RowR im (view c ob) n C ys := by
  refine ⟨fun i e he => ?_, by rw [mapO_length hd]; exact h.2.1, fun i j e v x he hx hv => ?_⟩
  · obtain ⟨a, ha, hf⟩ := mapO_get' hd i e he
    rw [mapO_length hf]; exact h.1 i a ha
  · obtain ⟨a, ha, hf⟩ := mapO_get' hd i e he
    obtain ⟨b, hb, hg⟩ := mapO_get' hf j x hx
    exact (h.2.2 i j a v b ha hb hv).into hg

theorem fillS_run {ρ : Operand → Value} {ev : Operand → AV} (hE : EvR im ob ρ ev) (n : Nat) : ∀ (parts : List (Nat × Operand)) (vc : Array Value) (xs r : List (List AV)),
    RowR im ob n vc xs → fillS n xs (parts.map fun p => (p.1, ev p.2)) = some r →
    ∃ vr, Instr.fill (fun i => some (i * n, n)) vc (parts.map fun p => (p.1, ρ p.2)) = some vr ∧ RowR im ob n vr r ∧ vr.size = vc.size ∧ r.length = xs.length
  | [], vc, xs, r, hR, hf => by simp only [List.map_nil, fillS, Option.some.injEq] at hf; subst hf; exact ⟨vc, rfl, hR, rfl, rfl⟩
  | (i, x) :: rest, vc, xs, r, hR, hf => by
    simp only [List.map_cons, fillS, Option.bind_eq_some_iff] at hf
    obtain ⟨vs, hvs, hf⟩ := hf
    split at hf
    · rename_i hc
      obtain ⟨hc1, hc2⟩ := hc
      have hX := (hE x).cells hvs
      have hsz : (ρ x).cells.size = n := by have := hX.1; simp at this; omega
      have hfit : i * n + n ≤ vc.size := by
        have h1 : (i + 1) * n ≤ xs.length * n := Nat.mul_le_mul_right _ hc2
        have := hR.2.1
        rw [Nat.succ_mul] at h1; omega
      obtain ⟨g1, g2⟩ := foldl_set (i * n) (ρ x).cells vc (by omega)
      have hR2 : RowR im ob n ((ρ x).cells.zipIdx.foldl (fun cs p' => cs.setIfInBounds (i * n + p'.2) p'.1) vc) (xs.set i vs) := by
        refine ⟨fun i' e he => ?_, by simp only [List.length_set]; rw [g1]; exact hR.2.1, fun i' j e v y he hy hv => ?_⟩
        · rw [List.getElem?_set] at he
          by_cases hii : i = i'
          · rw [if_pos hii, if_pos hc2] at he; simp only [Option.some.injEq] at he; subst he; exact hc1
          · rw [if_neg hii] at he; exact hR.1 i' e he
        · rw [g2] at hv
          rw [List.getElem?_set] at he
          by_cases hii : i = i'
          · subst hii
            rw [if_pos rfl, if_pos hc2] at he
            simp only [Option.some.injEq] at he; subst he
            have hj : j < n := by rw [← hc1]; exact (List.getElem?_eq_some_iff.1 hy).1
            rw [if_pos (by omega)] at hv
            exact hX.2 j v y (by rw [show i * n + j - i * n = j from by omega] at hv; simpa using hv) hy
          · rw [if_neg hii] at he
            have hj : j < n := by rw [← hR.1 i' e he]; exact (List.getElem?_eq_some_iff.1 hy).1
            rw [if_neg] at hv
            · exact hR.2.2 i' j e v y he hy hv
            · rintro ⟨a1, a2⟩
              rcases Nat.lt_or_gt_of_ne hii with hlt | hgt
              · have : (i + 1) * n ≤ i' * n := Nat.mul_le_mul_right _ hlt
                rw [Nat.succ_mul] at this; omega
              · have : (i' + 1) * n ≤ i * n := Nat.mul_le_mul_right _ hgt
                rw [Nat.succ_mul] at this; omega
      obtain ⟨vr, hvr, hRr, hs, hl⟩ := fillS_run hE n rest _ _ r hR2 hf
      refine ⟨vr, ?_, hRr, by rw [hs, g1], by simpa using hl⟩
      simp only [List.map_cons, Instr.fill]
      rw [if_neg (by simp; omega)]
      exact hvr
    · cases hf

theorem zeroRow_R {z : Value} {cs : List AV} (hz : CellsR im ob z.cells.toList cs) {n m k : Nat} (hn : cs.length = n) (h0 : 0 < n) (hk : k ≤ m) :
    RowR im ob n ((Array.range (m * n)).map (z.cells[· % z.cells.size]!)) (List.replicate k cs) := by
  have hs : z.cells.size = n := by have := hz.1; simp at this; omega
  refine ⟨fun i e he => ?_, by simp; exact Nat.mul_le_mul_right _ hk, fun i j e v x he hx hv => ?_⟩
  · rw [List.getElem?_replicate] at he
    split at he
    · simp only [Option.some.injEq] at he; subst he; exact hn
    · cases he
  · rw [List.getElem?_replicate] at he
    split at he
    · simp only [Option.some.injEq] at he; subst he
      have hj : j < n := by rw [← hn]; exact (List.getElem?_eq_some_iff.1 hx).1
      rw [Array.getElem?_map, Option.map_eq_some_iff] at hv
      obtain ⟨q, hq, rfl⟩ := hv
      have hq' : q = i * n + j := by
        rw [Array.getElem?_range] at hq
        split at hq
        · simp only [Option.some.injEq] at hq; omega
        · cases hq
      subst hq'
      have hmod : (i * n + j) % z.cells.size = j := by rw [hs, Nat.mul_comm, Nat.mul_add_mod, Nat.mod_eq_of_lt hj]
      rw [hmod]
      have hlt : j < z.cells.size := by omega
      exact hz.2 j _ x (by rw [getElem!_pos z.cells j hlt]; simp [hlt]) hx
    · cases he

theorem buildSliceOf_run {ρ : Operand → Value} {ev : Operand → AV} (hE : EvR im ob ρ ev) {t : TypeId} {len : Nat} {parts : Array (Nat × Operand)} {n : Nat} {xs : List (List AV)}
    (hy : buildSliceOf P t len (parts.toList.map fun p => (p.1, ev p.2)) = some (n, xs)) (hlen : len ≠ 0) :
    ∃ e C, (Instr.buildSlice t len (parts.map fun (i, x) => (i, ρ x))).run P w = .ok (.slice (some ⟨w.heap.size, 0, none⟩) len len) (w.alloc (.cells C e)) ∧ RowR im ob n C xs ∧ xs.length = len ∧ C.size = len * n := by
  unfold buildSliceOf at hy
  split at hy
  · rename_i e hu
    simp only [Option.bind_eq_some_iff] at hy
    obtain ⟨n', hn', z, hz, hy⟩ := hy
    split at hy
    · cases hy
    · rename_i hc
      simp only [not_or, Decidable.not_not] at hc
      obtain ⟨hc1, hc2, hc3⟩ := hc
      simp only [Option.map_eq_some_iff, Prod.mk.injEq] at hy
      obtain ⟨r, hr, rfl, rfl⟩ := hy
      obtain ⟨ie, zv, hie, hzv, hzR⟩ := zeroCells_V (im := im) (ob := ob) hz
      simp only [size?, hie, Option.map_some, Option.some.injEq] at hn'
      subst hn'
      have h0 : 0 < ie.size := by omega
      obtain ⟨vr, hvr, hR, hs, hl⟩ := fillS_run hE ie.size parts.toList _ _ r (zeroRow_R hzR hc3 h0 (Nat.le_refl len)) hr
      refine ⟨e, vr, run_buildSlice w t e len _ vr ie zv hu hie hzv (by omega) ?_ ?_, hR, by simpa using hl, by rw [hs]; simp⟩
      · exact Nat.mul_ne_zero hlen hc2
      · have hmap : (parts.map fun (i, x) => (i, ρ x)).toList = parts.toList.map fun p => (p.1, ρ p.2) := by simp
        rw [hmap]; exact hvr
  · cases hy
end Go.AE
