/- New slices, makes, appends. -/
import Derived.Test.YtimnggioioeehabGreatDoorAeMake
namespace Go.AE
open Go.RowKit (Below)

variable {P : Program} {κ : Ctx} {im : Imm} {ob : Obm} {h : Heap} {w : World}

/-- One block more. -/
structure Fresh (w w1 : World) (o : Obj) : Prop where
  heap : w1.heap = w.heap.push o
  os : w1.os = w.os
  tape : w1.tape = w.tape
  output : w1.output = w.output
theorem Fresh.alloc (w : World) (o : Obj) : Fresh w (w.alloc o) o := ⟨rfl, rfl, rfl, rfl⟩
theorem Fresh.drew (w : World) (o : Obj) : Fresh w (w.drew.alloc o) o := ⟨rfl, rfl, rfl, rfl⟩
theorem Fresh.size {w w1 : World} {o : Obj} (F : Fresh w w1 o) : w1.heap.size = w.heap.size + 1 := by rw [F.heap]; simp
theorem Fresh.old {w w1 : World} {o : Obj} (F : Fresh w w1 o) (b : Nat) (hb : b < w.heap.size) : w1.heap[b]? = w.heap[b]? := by
  rw [F.heap, Array.getElem?_push, if_neg (by omega)]
theorem Fresh.at_ {w w1 : World} {o : Obj} (F : Fresh w w1 o) : w1.heap[w.heap.size]? = some o := by rw [F.heap]; simp
theorem Fresh.below {w w1 : World} {o : Obj} (F : Fresh w w1 o) : Below w.heap.size w w1 := ⟨F.os, F.tape, F.output, by rw [F.size]; omega, fun k hk => F.old k hk⟩

/-- A new slice by its content. -/
theorem newSl_run (H : Inv κ im ob h w) {n : Nat} {xs : List (List AV)} {w1 : World} {C : Array Value} {e : TypeId} {fz : Nat × Nat} (F : Fresh w w1 (.cells C e fz)) (hR : RowR im ob n C xs) {cap : Nat} (hc : xs.length ≤ cap) (hC : cap * n ≤ C.size) :
    ∃ im', Inv κ im' ob h w1 ∧ ImLe im im' ∧ V0 im' ob (.slice (some ⟨w.heap.size, 0, none⟩) xs.length cap) (.sl false n xs) := by
  let im' : Imm := fun b off => if b = w.heap.size then C[off]? else im b off
  have hle : ImLe im im' := fun b off v hv => by
    have hne : b ≠ w.heap.size := fun e => by subst e; rw [H.imNone (Nat.le_refl _) off] at hv; cases hv
    simp only [im', if_neg hne]; exact hv
  have hat : ∀ off, im' w.heap.size off = C[off]? := fun off => by simp [im']
  refine ⟨im', H.grow hle F.below (fun b off v hv => ?_), hle, ?_⟩
  · by_cases hb : b = w.heap.size
    · subst hb
      rw [hat] at hv
      exact .inr ⟨Nat.le_refl _, by simp [World.cell?, F.at_, hv]⟩
    · simp only [im', if_neg hb] at hv; exact .inl hv
  · refine .sl _ _ _ _ _ n rfl hc hR.1 (fun i j hi hj => ?_) (fun i j e v x he hx hv => ?_)
    · have hlt : i * n + j < C.size := by
        have h1 : (i + 1) * n ≤ xs.length * n := Nat.mul_le_mul_right _ hi
        have := hR.2.1
        rw [Nat.succ_mul] at h1; omega
      exact ⟨C[i * n + j], by rw [Nat.zero_add, hat]; simp [hlt]⟩
    · rw [Nat.zero_add, hat] at hv
      exact (hR.2.2 i j e v x he hx hv).mono hle (ObLe.refl _)
theorem newSlice_run (H : Inv κ im ob h w) {mu g : Bool} (hg : κ.ro = true → g = false) {t n : Nat} {xs : List (List AV)} {x : AV} {h' : Heap} (hy : newSlice h mu g t n xs = some (x, h'))
    {w1 : World} {C : Array Value} {e : TypeId} (F : Fresh w w1 (.cells C e)) (hR : RowR im ob n C xs) {cap : Nat} (hc : xs.length ≤ cap) (hC : cap * n ≤ C.size) :
    ∃ im' ob', Inv κ im' ob' h' w1 ∧ ImLe im im' ∧ ObLe ob ob' ∧ V0 im' ob' (.slice (some ⟨w.heap.size, 0, none⟩) xs.length cap) x := by
  unfold newSlice at hy
  cases mu with
  | false =>
    simp only [Bool.false_eq_true, if_false, Option.some.injEq, Prod.mk.injEq] at hy
    obtain ⟨rfl, rfl⟩ := hy
    obtain ⟨im', g1, g2, g3⟩ := newSl_run H F hR hc hC
    exact ⟨im', ob, g1, g2, ObLe.refl _, g3⟩
  | true =>
    simp only [if_true] at hy
    split at hy
    · cases hy
    rename_i hn0
    split at hy
    · cases hy
    rename_i hbt
    simp only [Option.map_eq_some_iff, Prod.mk.injEq] at hy
    obtain ⟨ys, hys, rfl, rfl⟩ := hy
    rw [alloc_set]
    obtain ⟨e1, e2⟩ := alloc_fst h g t .gone (.arr false n ys)
    rw [e1] at hys hbt
    rw [e1, e2]
    have hle := obUpd_le (.blk w.heap.size n C.size) (H.fresh_alloc g t (.arr false n ys) _ (Nat.le_refl _))
    have hRy := (hR.mono (ImLe.refl _) hle).into hys
    obtain ⟨h1, h2⟩ := H.new g t (.arr false n ys) (.blk w.heap.size n C.size) (w' := w1) (by rw [F.size]; omega) F.os F.tape F.output F.old hg (fun b sz m e => by cases e; exact Nat.le_refl _)
      (.inr (.inr ⟨rfl, w.heap.size, C.size, C, e, _, obUpd_same _ _ _ _, F.at_, rfl, ⟨hRy.2.1, by omega⟩, hRy.1, hRy.2.2, H.imNone (Nat.le_refl _), H.ble, fun τ hτ => by rw [hτ] at hbt; simp at hbt, fun _ => rfl, Nat.zero_le _⟩))
    refine ⟨im, _, h1, ImLe.refl _, h2, ?_⟩
    have := V0.rsl (im := im) (ob := obUpd ob (h.alloc g t (.arr false n ys)).1 (h.alloc g t (.arr false n ys)).2.1 (.blk w.heap.size n C.size)) _ _ 0 xs.length cap _ _ _ (obUpd_same ob _ _ _) hc (by rw [Nat.zero_add]; exact hC)
    rwa [Nat.zero_mul] at this

theorem wrap_small {n : Int} (h0 : 0 ≤ n) (h1 : n ≤ 140737488355328) : IntKind.i64.wrap n = n := by
  unfold IntKind.wrap
  simp only [IntKind.bits, IntKind.signed, Bool.true_and]
  have e : n % (2 : Int) ^ 64 = n := Int.emod_eq_of_lt h0 (by omega)
  simp [e]
  omega

theorem makeSliceOf_run (H : Inv κ im ob h w) {t : TypeId} {vl vc : Value} {xl xc : AV} {n : Nat} {xs : List (List AV)} (hl : V0 im ob vl xl) (hc : V0 im ob vc xc) (hy : makeSliceOf P t xl xc = some (n, xs)) :
    ∃ e C cap, (Instr.makeSlice t vl vc).run P w = .ok (.slice (some ⟨w.heap.size, 0, none⟩) xs.length cap) (w.alloc (.cells C e)) ∧ RowR im ob n C xs ∧ xs.length ≤ cap ∧ cap * n ≤ C.size := by
  unfold makeSliceOf at hy
  split at hy
  · rename_i e hu
    simp only [Option.bind_eq_some_iff] at hy
    obtain ⟨info, hinfo, z, hz, l, hl', c, hc', hy⟩ := hy
    split at hy
    · rename_i hcnd
      obtain ⟨c1, c2, c3, c4, c5, c6⟩ := hcnd
      simp only [Option.some.injEq, Prod.mk.injEq] at hy
      obtain ⟨rfl, rfl⟩ := hy
      obtain ⟨kl, rfl⟩ := aInt_V hl hl'
      obtain ⟨kc, rfl⟩ := aInt_V hc hc'
      obtain ⟨ie, zv, hie, hzv, hzR⟩ := zeroCells_V (im := im) (ob := ob) hz
      rw [hinfo] at hie; cases hie
      have wl : IntKind.i64.wrap l = l := wrap_small c1 (by omega)
      have wc : IntKind.i64.wrap c = c := wrap_small (by omega) (by omega)
      have hb1 : ¬ (c < 0) := by omega
      have hb2 : ¬ ((281474976710656 : Int) < info.bytes * c) := by
        have : (info.bytes : Int) * c = c * info.bytes := Int.mul_comm _ _
        omega
      have hb3 : ¬ (l < 0) := by omega
      have hb4 : ¬ (c < l) := by omega
      refine ⟨e, (Array.range (c.toNat * info.size)).map (zv.cells[· % zv.cells.size]!), c.toNat, ?_, ?_, by simp; omega, by simp⟩
      · by_cases hn0 : c.toNat * info.size = 0
        · have hr : ∀ f : Nat → Value, Array.map f (Array.range 0) = #[] := fun _ => by simp [Array.range]
          simp [Instr.makeSlice, und_run hu, asInt, asIntOf, typeInfo, hinfo, wl, wc, hb1, hb2, hb3, hb4, sizeOf, hn0, newRow, hr]
        · simp [Instr.makeSlice, und_run hu, asInt, asIntOf, typeInfo, hinfo, wl, wc, hb1, hb2, hb3, hb4, sizeOf, hn0, newRow, zeroValue, hzv]
      · exact zeroRow_R hzR c5 c6 (by omega)
    · cases hy
  · cases hy

/-! ### append -/
theorem elems_len {xx : AV} {vx : Value} {ys : List (List AV)} (hX : V0 im ob vx xx) (hy : elemsOf h xx = some ys) : (Builtin.lenOf vx).run P w = .ok ys.length w := by
  cases hX with
  | snil => simp [elemsOf] at hy; subst hy; simp [Builtin.lenOf]
  | sl b off len cap xs sz hl hc hz h1 h2 => simp [elemsOf] at hy; subst hy; simp [Builtin.lenOf, hl]
  | slE => simp [elemsOf] at hy; subst hy; simp [Builtin.lenOf]
  | ez => simp [elemsOf] at hy; subst hy; simp [Builtin.lenOf]
  | str s => simp only [elemsOf, Option.some.injEq] at hy; subst hy; simp only [Builtin.lenOf, Sem.run_pure, List.length_map]; rfl
  | rslN c v hb =>
    simp only [elemsOf] at hy
    split at hy
    · split at hy
      · have := mapO_length hy; simp at this; simp [Builtin.lenOf, this]
      · cases hy
    · split at hy
      · have := mapO_length hy; simp at this; simp [Builtin.lenOf, this]
      · cases hy
    · cases hy
  | rslE c v a hb =>
    simp only [elemsOf] at hy
    split at hy
    · split at hy
      · have := mapO_length hy; simp at this; simp [Builtin.lenOf, this]
      · cases hy
    · split at hy
      · have := mapO_length hy; simp at this; simp [Builtin.lenOf, this]
      · cases hy
    · cases hy
  | rsl c v off len cap b sz n hb hc hn =>
    simp only [elemsOf] at hy
    split at hy
    · split at hy
      · rename_i hle; have := mapO_length hy; simp at this; simp [Builtin.lenOf, this]; omega
      · cases hy
    · split at hy
      · rename_i hle; have := mapO_length hy; simp at this; simp [Builtin.lenOf, this]; omega
      · cases hy
    · cases hy
  | _ => simp [elemsOf] at hy

theorem RowR.from_ {c : Loc} {n : Nat} {C : Array Value} {xs ys : List (List AV)} (h : RowR im (view c ob) n C xs) (hd : mapO (mapO c.from) xs = some ys) : RowR im ob n C ys := by
  refine ⟨fun i e he => ?_, by rw [mapO_length hd]; exact h.2.1, fun i j e v x he hx hv => ?_⟩
  · obtain ⟨a, ha, hf⟩ := mapO_get' hd i e he
    rw [mapO_length hf]; exact h.1 i a ha
  · obtain ⟨a, ha, hf⟩ := mapO_get' hd i e he
    obtain ⟨b, hb, hg⟩ := mapO_get' hf j x hx
    exact (h.2.2 i j a v b ha hb hv).from_ hg

/-- Rows that can be read cell by cell. -/
theorem row_of_at {b base n len : Nat} {xs : List (List AV)} (hl : xs.length = len) (hz : ∀ (i : Nat) (e : List AV), xs[i]? = some e → e.length = n)
    (hc : ∀ (i : Nat) (e : List AV), xs[i]? = some e → CellsAt im ob w b (base + i * n) e) :
    ∃ C : List Value, C.length = len * n ∧ (∀ j v, C[j]? = some v → w.cell? ((⟨b, base, none⟩ : Addr).add j) = some v) ∧ RowR im ob n C.toArray xs := by
  let f : Nat → Value := fun j => (w.cell? ⟨b, base + j, none⟩).getD undef
  have hf : ∀ i j (e : List AV), xs[i]? = some e → j < n → ∃ v, w.cell? ⟨b, base + (i * n + j), none⟩ = some v ∧ f (i * n + j) = v ∧ V0 im ob v (e.getD j .undef) := by
    intro i j e he hj
    have hlt : j < e.length := by rw [hz i e he]; exact hj
    obtain ⟨v, hv, hV⟩ := hc i e he j e[j] (by simp [hlt])
    rw [Nat.add_assoc] at hv
    exact ⟨v, hv, by simp [f, hv], by simpa [List.getD, hlt] using hV⟩
  refine ⟨(List.range (len * n)).map f, by simp, fun j v hv => ?_, hz, by simp [hl], fun i j e v x he hx hv => ?_⟩
  · rw [List.getElem?_map, Option.map_eq_some_iff] at hv
    obtain ⟨q, hq, rfl⟩ := hv
    have hq' : q = j ∧ j < len * n := by
      obtain ⟨h1, h2⟩ := List.getElem?_eq_some_iff.1 hq
      simp at h1 h2
      exact ⟨h2.symm, h1⟩
    obtain ⟨rfl, hlt⟩ := hq'
    have hn : 0 < n := by rcases Nat.eq_zero_or_pos n with h0 | h0; · subst h0; simp at hlt
                          · exact h0
    have hi : q / n < xs.length := by rw [hl]; exact Nat.div_lt_of_lt_mul (by rw [Nat.mul_comm]; exact hlt)
    obtain ⟨v, hv, hfv, _⟩ := hf (q / n) (q % n) xs[q / n] (by simp [hi]) (Nat.mod_lt _ hn)
    rw [Nat.div_add_mod' q n] at hv hfv
    rw [add_eq, hv, hfv]
  · have hj : j < n := by rw [← hz i e he]; exact (List.getElem?_eq_some_iff.1 hx).1
    obtain ⟨v', hv', hfv, hV⟩ := hf i j e he hj
    have hlt : i * n + j < len * n := by
      have hi : i < len := by rw [← hl]; exact (List.getElem?_eq_some_iff.1 he).1
      have : (i + 1) * n ≤ len * n := Nat.mul_le_mul_right _ hi
      rw [Nat.succ_mul] at this; omega
    have e1 : v = v' := by
      simp only [List.getElem?_toArray, List.getElem?_map, List.getElem?_range hlt, Option.map_some, Option.some.injEq] at hv
      rw [← hv, hfv]
    have e2 : x = e.getD j .undef := by simp [List.getD, hx]
    rw [e1, e2]; exact hV

theorem elems_cells (H : Inv κ im ob h w) {xx : AV} {vx : Value} {ys : List (List AV)} {n : Nat} (hX : V0 im ob vx xx) (hy : elemsOf h xx = some ys) (hn : ∀ e ∈ ys, e.length = n) :
    ∃ C : List Value, C.length = ys.length * n ∧ (Builtin.firstCells n ys.length vx).run P w = .ok C.toArray w ∧ RowR im ob n C.toArray ys := by
  have hzz : ∀ (i : Nat) (e : List AV), ys[i]? = some e → e.length = n := fun i e he => hn e (List.mem_of_getElem? he)
  have empty : ys = [] → ∃ C : List Value, C.length = ys.length * n ∧ C = [] ∧ RowR im ob n C.toArray ys := fun e => ⟨[], by simp [e], rfl, by rw [e]; exact ⟨by simp, by simp, by simp⟩⟩
  have load : ∀ (b base cap : Nat), vx = .slice (some ⟨b, base, none⟩) ys.length cap → (∀ (i : Nat) (e : List AV), ys[i]? = some e → CellsAt im ob w b (base + i * n) e) →
      ∃ C : List Value, C.length = ys.length * n ∧ (Builtin.firstCells n ys.length vx).run P w = .ok C.toArray w ∧ RowR im ob n C.toArray ys := by
    intro b base cap hv hc
    obtain ⟨C, hC, hread, hR⟩ := row_of_at rfl hzz hc
    refine ⟨C, hC, ?_, hR⟩
    subst hv
    simp only [Builtin.firstCells]
    rw [← hC]
    exact run_loadCells_list w _ C hread
  cases hX with
  | snil =>
    simp [elemsOf] at hy
    obtain ⟨C, h1, h2, h3⟩ := empty hy
    exact ⟨C, h1, by subst h2; simp [Builtin.firstCells], h3⟩
  | slE a cap sz =>
    simp [elemsOf] at hy
    obtain ⟨C, h1, h2, h3⟩ := empty hy
    exact ⟨C, h1, by subst h2; rw [hy]; simp [Builtin.firstCells, loadCells, loadCellsFrom], h3⟩
  | ez a =>
    simp [elemsOf] at hy
    obtain ⟨C, h1, h2, h3⟩ := empty hy
    exact ⟨C, h1, by subst h2; rw [hy]; simp [Builtin.firstCells, loadCells, loadCellsFrom], h3⟩
  | sl b off len cap xs sz hl hc hz h1 h2 =>
    simp only [elemsOf, Option.some.injEq] at hy; subst hy
    refine load b off cap (by rw [hl]) (fun i e he j x hx => ?_)
    have hi := (List.getElem?_eq_some_iff.1 he).1
    have hsz : sz = n := by rw [← hz i e he]; exact hzz i e he
    subst hsz
    obtain ⟨v, hv⟩ := h1 i j hi (by rw [← hz i e he]; exact (List.getElem?_eq_some_iff.1 hx).1)
    exact ⟨v, H.imw _ _ _ hv, h2 i j e v x he hx hv⟩
  | str s =>
    simp only [elemsOf, Option.some.injEq] at hy; subst hy
    refine ⟨s.data.toList.map fun b => .int .u8 b.toNat, ?_, ?_, ?_⟩
    · by_cases h0 : s.data.toList = []
      · simp [h0]
      · obtain ⟨b, r, hb⟩ := List.exists_cons_of_ne_nil h0
        have : n = 1 := by have := hn [.int .u8 b.toNat] (by simp [hb]); simpa using this.symm
        simp [this]
    · simp only [Builtin.firstCells, Sem.run_pure]
      congr 1
      apply Array.ext'
      have : s.extract 0 s.data.toList.length = s := by
        apply ByteArray.ext
        simp [ByteArray.data_extract]
      simp [this]
    · refine ⟨hzz, ?_, fun i j e v x he hx hv => ?_⟩
      · by_cases h0 : s.data.toList = []
        · simp [h0]
        · obtain ⟨b, r, hb⟩ := List.exists_cons_of_ne_nil h0
          have : n = 1 := by have := hn [.int .u8 b.toNat] (by simp [hb]); simpa using this.symm
          simp [this]
      · have hn1 : n = 1 := by
          have := hzz i e he
          rw [List.getElem?_map, Option.map_eq_some_iff] at he
          obtain ⟨q, _, rfl⟩ := he
          simpa using this.symm
        subst hn1
        rw [List.getElem?_map, Option.map_eq_some_iff] at he
        obtain ⟨q, hq, rfl⟩ := he
        have hj : j = 0 := by have := (List.getElem?_eq_some_iff.1 hx).1; simp at this; omega
        subst hj
        simp only [List.getElem?_cons_zero, Option.some.injEq] at hx; subst hx
        simp only [Nat.mul_one, Nat.add_zero, List.getElem?_toArray, List.getElem?_map, hq, Option.map_some, Option.some.injEq] at hv
        subst hv
        exact .int _ _
  | rslN c v hb =>
    simp only [elemsOf] at hy
    have hys : ys = [] := by
      split at hy
      · split at hy
        · have := mapO_length hy; simp at this; exact this
        · cases hy
      · split at hy
        · have := mapO_length hy; simp at this; exact this
        · cases hy
      · cases hy
    obtain ⟨C, h1, h2, h3⟩ := empty hys
    exact ⟨C, h1, by subst h2; simp [Builtin.firstCells], h3⟩
  | rslE c v a hb =>
    simp only [elemsOf] at hy
    have hys : ys = [] := by
      split at hy
      · split at hy
        · have := mapO_length hy; simp at this; exact this
        · cases hy
      · split at hy
        · have := mapO_length hy; simp at this; exact this
        · cases hy
      · cases hy
    obtain ⟨C, h1, h2, h3⟩ := empty hys
    exact ⟨C, h1, by subst h2; rw [hys]; simp [Builtin.firstCells, loadCells, loadCellsFrom], h3⟩
  | rsl c v off len cap b sz n' hb hcp hnn =>
    simp only [elemsOf] at hy
    have key : ∀ (sz2 : Nat) (xs : List (List AV)), (∀ (i : Nat) (e : List AV), xs[i]? = some e → CellsAt im (view c ob) w b (i * sz) e ∧ e.length = sz) →
        (if off + len ≤ xs.length then mapO (mapO c.from) ((xs.drop off).take len) else none) = some ys →
        ∃ C : List Value, C.length = ys.length * n ∧ (Builtin.firstCells n ys.length (.slice (some ⟨b, off * sz, none⟩) len cap)).run P w = .ok C.toArray w ∧ RowR im ob n C.toArray ys := by
      intro sz2 xs hxs hy
      split at hy
      · rename_i hle
        have hlen : ys.length = len := by have := mapO_length hy; simp at this; omega
        refine load b (off * sz) cap (by rw [hlen]) (fun i e he j x hx => ?_)
        obtain ⟨a, ha, hf⟩ := mapO_get' hy i e he
        obtain ⟨y, hy', hg⟩ := mapO_get' hf j x hx
        have ha' : xs[off + i]? = some a := by
          simp only [List.getElem?_take, List.getElem?_drop] at ha
          split at ha
          · exact ha
          · cases ha
        obtain ⟨hat, hlen2⟩ := hxs _ _ ha'
        have hsz : sz = n := by rw [← hlen2, ← mapO_length hf]; exact hzz i e he
        subst hsz
        obtain ⟨v, hv, hV⟩ := hat j y hy'
        exact ⟨v, by rw [← Nat.add_mul]; exact hv, hV.from_ hg⟩
      · cases hy
    split at hy
    · rename_i nl sz2 xs hk
      have ho := H.objs c
      rw [obj_mk hk (by simp)] at ho
      exact key sz2 xs (fun i e he => by obtain ⟨q1, q2, q3⟩ := ho.elemAt hb he; subst q3; exact ⟨q1, q2⟩) hy
    · rename_i nl sz2 xs hk
      have ho := H.objs c
      rw [obj_mk hk (by simp)] at ho
      exact key sz2 xs (fun i e he => by obtain ⟨q1, q2, q3⟩ := ho.frzAt H.imw hb he; subst q3; exact ⟨q1, q2⟩) hy
    · cases hy
  | _ => simp [elemsOf] at hy
end Go.AE
