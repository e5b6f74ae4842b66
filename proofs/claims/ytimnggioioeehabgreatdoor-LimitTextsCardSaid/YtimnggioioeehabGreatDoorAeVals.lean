/- Values that are read out of memory, or made of others. -/
import Derived.Test.YtimnggioioeehabGreatDoorAeHeap
import Derived.Laws.CopyRow
import Derived.Calls
namespace Go.AE
open Go.RowKit (Below)

mutual
theorem V0.ofV {im : Imm} {ob : Obm} : ∀ v : Value, V0 im ob v (AV.ofV v)
  | .bool b => by simp [AV.ofV]; exact .bool b
  | .int k n => by simp [AV.ofV]; exact .int k n
  | .float _ _ => by simp [AV.ofV]; exact .undef _
  | .complex _ _ _ => by simp [AV.ofV]; exact .undef _
  | .string s => by simp [AV.ofV]; exact .str s
  | .pointer none => by simp [AV.ofV]; exact .nilp
  | .pointer (some _) => by simp [AV.ofV]; exact .undef _
  | .slice none 0 0 => by simp [AV.ofV]; exact .snil 0
  | .slice none 0 (_ + 1) => by simp [AV.ofV]; exact .undef _
  | .slice none (_ + 1) _ => by simp [AV.ofV]; exact .undef _
  | .slice (some _) _ _ => by simp [AV.ofV]; exact .undef _
  | .map none => by simp [AV.ofV]; exact .nilm
  | .map (some _) => by simp [AV.ofV]; exact .undef _
  | .chan _ => by simp [AV.ofV]; exact .undef _
  | .func _ _ _ => by simp [AV.ofV]; exact .undef _
  | .nilFunc => by simp [AV.ofV]; exact .nilf
  | .iface _ _ => by simp [AV.ofV]; exact .undef _
  | .nilIface => by simp [AV.ofV]; exact .nili
  | .agg ⟨l⟩ => by
    simp only [AV.ofV, AV.ofA]
    have h := V0.ofL (im := im) (ob := ob) l
    exact .agg _ _ h.1 (fun j v x hv hx => h.2 j v x (by simpa using hv) hx)
  | .tuple ⟨l⟩ => by
    simp only [AV.ofV, AV.ofA]
    have h := V0.ofL (im := im) (ob := ob) l
    exact .tup _ _ h.1 (fun j v x hv hx => h.2 j v x (by simpa using hv) hx)
theorem V0.ofL {im : Imm} {ob : Obm} : ∀ l : List Value, l.length = (AV.ofL l).length ∧ ∀ (j : Nat) (v : Value) (x : AV), l[j]? = some v → (AV.ofL l)[j]? = some x → V0 im ob v x
  | [] => by simp [AV.ofL]
  | v :: r => by
    have h := V0.ofL (im := im) (ob := ob) r
    have h0 := V0.ofV (im := im) (ob := ob) v
    refine ⟨by simp [AV.ofL, h.1], fun j w x hw hx => ?_⟩
    cases j with
    | zero => simp [AV.ofL] at hw hx; subst hw; subst hx; exact h0
    | succ j => simp [AV.ofL] at hw hx; exact h.2 j w x hw hx
end

/-- Cells of a row, one by one. -/
def CellsR (im : Imm) (ob : Obm) (vs : List Value) (cs : List AV) : Prop :=
  vs.length = cs.length ∧ ∀ (j : Nat) (v : Value) (x : AV), vs[j]? = some v → cs[j]? = some x → V0 im ob v x

theorem V0.cells {im : Imm} {ob : Obm} {v : Value} {x : AV} {cs : List AV} (h : V0 im ob v x) (hc : x.cells = some cs) : CellsR im ob v.cells.toList cs := by
  cases h with
  | agg vs ds h1 h2 =>
    simp only [AV.cells, Option.some.injEq] at hc; subst hc
    refine ⟨by simpa [Value.cells] using h1, fun j v x hv hx => h2 j v x (by simpa [Value.cells] using hv) hx⟩
  | undef v => simp [AV.cells] at hc
  | bmark v t => simp [AV.cells] at hc
  | tup vs ds h1 h2 => simp [AV.cells] at hc
  | bool b => simp only [AV.cells, Option.some.injEq] at hc; subst hc; exact ⟨rfl, fun j v x hv hx => by cases j <;> simp [Value.cells] at hv hx; subst hv; subst hx; exact .bool b⟩
  | int k n => simp only [AV.cells, Option.some.injEq] at hc; subst hc; exact ⟨rfl, fun j v x hv hx => by cases j <;> simp [Value.cells] at hv hx; subst hv; subst hx; exact .int k n⟩
  | str s => simp only [AV.cells, Option.some.injEq] at hc; subst hc; exact ⟨rfl, fun j v x hv hx => by cases j <;> simp [Value.cells] at hv hx; subst hv; subst hx; exact .str s⟩
  | nilp => simp only [AV.cells, Option.some.injEq] at hc; subst hc; exact ⟨rfl, fun j v x hv hx => by cases j <;> simp [Value.cells] at hv hx; subst hv; subst hx; exact .nilp⟩
  | ptr c v off b sz n h => simp only [AV.cells, Option.some.injEq] at hc; subst hc; exact ⟨rfl, fun j v x hv hx => by cases j <;> simp [Value.cells] at hv hx; subst hv; subst hx; exact .ptr _ _ _ _ _ _ h⟩
  | eptr c v i j b sz n h => simp only [AV.cells, Option.some.injEq] at hc; subst hc; exact ⟨rfl, fun j v x hv hx => by cases j <;> simp [Value.cells] at hv hx; subst hv; subst hx; exact .eptr _ _ _ _ _ _ _ h⟩
  | cptr b off ds h1 h2 => simp only [AV.cells, Option.some.injEq] at hc; subst hc; exact ⟨rfl, fun j v x hv hx => by cases j <;> simp [Value.cells] at hv hx; subst hv; subst hx; exact .cptr _ _ _ h1 h2⟩
  | snil sz => simp only [AV.cells, Option.some.injEq] at hc; subst hc; exact ⟨rfl, fun j v x hv hx => by cases j <;> simp [Value.cells] at hv hx; subst hv; subst hx; exact .snil _⟩
  | sl b off len cap xs sz hl hcp hz h1 h2 => simp only [AV.cells, Option.some.injEq] at hc; subst hc; exact ⟨rfl, fun j v x hv hx => by cases j <;> simp [Value.cells] at hv hx; subst hv; subst hx; exact .sl _ _ _ _ _ _ hl hcp hz h1 h2⟩
  | slE a cap sz => simp only [AV.cells, Option.some.injEq] at hc; subst hc; exact ⟨rfl, fun j v x hv hx => by cases j <;> simp [Value.cells] at hv hx; subst hv; subst hx; exact .slE _ _ _⟩
  | ez a => simp only [AV.cells, Option.some.injEq] at hc; subst hc; exact ⟨rfl, fun j v x hv hx => by cases j <;> simp [Value.cells] at hv hx; subst hv; subst hx; exact .ez _⟩
  | rslN c v h => simp only [AV.cells, Option.some.injEq] at hc; subst hc; exact ⟨rfl, fun j v x hv hx => by cases j <;> simp [Value.cells] at hv hx; subst hv; subst hx; exact .rslN _ _ h⟩
  | rslE c v a h => simp only [AV.cells, Option.some.injEq] at hc; subst hc; exact ⟨rfl, fun j v x hv hx => by cases j <;> simp [Value.cells] at hv hx; subst hv; subst hx; exact .rslE _ _ _ h⟩
  | rsl c v off len cap b sz n h hcp hn => simp only [AV.cells, Option.some.injEq] at hc; subst hc; exact ⟨rfl, fun j v x hv hx => by cases j <;> simp [Value.cells] at hv hx; subst hv; subst hx; exact .rsl _ _ _ _ _ _ _ _ h hcp hn⟩
  | nilm => simp only [AV.cells, Option.some.injEq] at hc; subst hc; exact ⟨rfl, fun j v x hv hx => by cases j <;> simp [Value.cells] at hv hx; subst hv; subst hx; exact .nilm⟩
  | mp c v b sz n h => simp only [AV.cells, Option.some.injEq] at hc; subst hc; exact ⟨rfl, fun j v x hv hx => by cases j <;> simp [Value.cells] at hv hx; subst hv; subst hx; exact .mp _ _ _ _ _ h⟩
  | fn f first caps fs ds h1 h2 h3 h4 => simp only [AV.cells, Option.some.injEq] at hc; subst hc; exact ⟨rfl, fun j v x hv hx => by cases j <;> simp [Value.cells] at hv hx; subst hv; subst hx; exact .fn _ _ _ _ _ h1 h2 h3 h4⟩
  | nilf => simp only [AV.cells, Option.some.injEq] at hc; subst hc; exact ⟨rfl, fun j v x hv hx => by cases j <;> simp [Value.cells] at hv hx; subst hv; subst hx; exact .nilf⟩
  | ifc t v x h => simp only [AV.cells, Option.some.injEq] at hc; subst hc; exact ⟨rfl, fun j v x hv hx => by cases j <;> simp [Value.cells] at hv hx; subst hv; subst hx; exact .ifc _ _ _ h⟩
  | nili => simp only [AV.cells, Option.some.injEq] at hc; subst hc; exact ⟨rfl, fun j v x hv hx => by cases j <;> simp [Value.cells] at hv hx; subst hv; subst hx; exact .nili⟩

theorem V0.oneCell {im : Imm} {ob : Obm} {v : Value} {x : AV} (h : V0 im ob v x) (hc : x.one = true) : v.oneCell' = true := by
  cases h <;> first | rfl | (simp [AV.one] at hc)

theorem add_eq (b off j : Nat) : (⟨b, off, none⟩ : Addr).add j = ⟨b, off + j, none⟩ := by unfold Addr.add; split <;> simp_all

theorem run_size {P : Program} {t : TypeId} {n : Nat} (h : size? P t = some n) (w : World) : (sizeOf t).run P w = .ok n w := by
  unfold size? at h
  simp only [Option.map_eq_some_iff] at h
  obtain ⟨i, hi, rfl⟩ := h
  simp [sizeOf, typeInfo, hi]
theorem run_isAgg {P : Program} {t : TypeId} {ag : Bool} (h : isAgg? P t = some ag) (w : World) : (isAgg t).run P w = .ok ag w := by
  unfold isAgg? at h
  simp only [Option.map_eq_some_iff] at h
  obtain ⟨d, hd, he⟩ := h
  subst he
  cases d <;> simp [isAgg, run_underlying hd]

/-- Cells that lie at (b, base) on. -/
def CellsAt (im : Imm) (ob : Obm) (w : World) (b base : Nat) (cs : List AV) : Prop :=
  ∀ (j : Nat) (x : AV), cs[j]? = some x → ∃ v, w.cell? ⟨b, base + j, none⟩ = some v ∧ V0 im ob v x

theorem cut_eq {cs : List AV} {off n : Nat} {l : List AV} (h : cut cs off n = some l) : off + n ≤ cs.length ∧ l = (cs.drop off).take n := by
  unfold cut at h
  split at h
  · simp only [Option.some.injEq] at h; exact ⟨by assumption, h.symm⟩
  · cases h

theorem run_loadVar_cells {P : Program} {im : Imm} {ob : Obm} {w : World} {t : TypeId} {ag : Bool} {n b base off : Nat} {cs : List AV} {y : AV}
    (hag : isAgg? P t = some ag) (hn : size? P t = some n) (hc : CellsAt im ob w b base cs) (hy : readAs ag n cs off = some y) :
    ∃ v, (loadVar t ⟨b, base + off, none⟩).run P w = .ok v w ∧ V0 im ob v y := by
  cases ag with
  | false =>
    simp only [readAs, Bool.false_eq_true, if_false] at hy
    obtain ⟨v, hv, hV⟩ := hc off y hy
    exact ⟨v, by simp [loadVar, run_isAgg hag, run_load, hv], hV⟩
  | true =>
    simp only [readAs, if_true, Option.map_eq_some_iff] at hy
    obtain ⟨l, hl, rfl⟩ := hy
    obtain ⟨hle, rfl⟩ := cut_eq hl
    have hget : ∀ j, j < n → ∃ v, w.cell? ⟨b, base + off + j, none⟩ = some v ∧ V0 im ob v (cs.getD (off + j) .undef) := fun j hj => by
      have hlt : off + j < cs.length := by omega
      obtain ⟨v, hv, hV⟩ := hc (off + j) cs[off + j] (by simp [hlt])
      refine ⟨v, by rw [Nat.add_assoc]; exact hv, ?_⟩
      simpa [List.getD, hlt] using hV
    let f : Nat → Value := fun j => (w.cell? ⟨b, base + off + j, none⟩).getD undef
    have hf : ∀ j, j < n → w.cell? ((⟨b, base + off, none⟩ : Addr).add j) = some (f j) := fun j hj => by
      obtain ⟨v, hv, _⟩ := hget j hj
      rw [add_eq]; simp [f, hv]
    have hrun := run_loadCells (P := P) w ⟨b, base + off, none⟩ n f hf
    refine ⟨.agg ((List.range n).map f).toArray, by simp [loadVar, run_isAgg hag, run_size hn, hrun], .agg _ _ (by simp; omega) (fun j v x hv hx => ?_)⟩
    have hj : j < n := by
      have := (Array.getElem?_eq_some_iff.1 hv).1
      simpa using this
    obtain ⟨v', hv', hV⟩ := hget j hj
    have e1 : v = v' := by
      simp [hj] at hv
      simp [f, hv'] at hv
      exact hv.symm
    have e2 : x = cs.getD (off + j) .undef := by
      simp [List.getElem?_take, hj, List.getElem?_drop] at hx
      simp [List.getD, hx]
    rw [e1, e2]; exact hV

/-- The cells of a live object of cells, of an array object's element, of what is frozen. -/
theorem ObjR.cellsAt {im : Imm} {ob : Obm} {B : Nat} {w : World} {c : Loc} {v : Nat} {cs : List AV} (h : ObjR im ob B w c ⟨v, .cells cs⟩) {b sz n : Nat} (hb : ob c v = some (.blk b sz n)) :
    CellsAt im (view c ob) w b 0 cs := by
  obtain ⟨b', sz', n', c', t, h1, h2, h3, h4, h5, h6⟩ := h
  rw [hb] at h1; cases h1
  intro j x hx
  have hlt : j < c'.size := Nat.lt_of_lt_of_le (List.getElem?_eq_some_iff.1 hx).1 h3
  exact ⟨c'[j], by simp [World.cell?, h2, hlt], h4 j _ x (by simp [hlt]) hx⟩
theorem ObjR.elemAt {im : Imm} {ob : Obm} {B : Nat} {w : World} {c : Loc} {v : Nat} {nl : Bool} {sz : Nat} {xs : List (List AV)} (h : ObjR im ob B w c ⟨v, .arr nl sz xs⟩) {b sz2 n i : Nat} (hb : ob c v = some (.blk b sz2 n))
    {e : List AV} (he : xs[i]? = some e) : CellsAt im (view c ob) w b (i * sz) e ∧ e.length = sz ∧ sz2 = sz := by
  rcases h with ⟨_, _, h3⟩ | ⟨_, _, a, h3⟩ | ⟨_, b', n', c', t, fz, h1, h2, h3, h4, h5, h6, h7, h8⟩
  · rw [hb] at h3; cases h3
  · rw [hb] at h3; cases h3
  · rw [hb] at h1; cases h1
    refine ⟨fun j x hx => ?_, h5 i e he, rfl⟩
    have hi : i < xs.length := (List.getElem?_eq_some_iff.1 he).1
    have hj : j < sz := by rw [← h5 i e he]; exact (List.getElem?_eq_some_iff.1 hx).1
    have hlt : i * sz + j < c'.size := by
      have : (i + 1) * sz ≤ xs.length * sz := Nat.mul_le_mul_right _ hi
      rw [Nat.succ_mul] at this; omega
    exact ⟨c'[i * sz + j], by simp [World.cell?, h2, hlt], h6 i j e _ x he hx (by simp [hlt])⟩
theorem ObjR.frzAt {im : Imm} {ob : Obm} {B : Nat} {w : World} {c : Loc} {v : Nat} {nl : Bool} {sz : Nat} {xs : List (List AV)} (h : ObjR im ob B w c ⟨v, .frz nl sz xs⟩) (hw : ∀ b off v, im b off = some v → w.cell? ⟨b, off, none⟩ = some v)
    {b sz2 n i : Nat} (hb : ob c v = some (.blk b sz2 n)) {e : List AV} (he : xs[i]? = some e) : CellsAt im (view c ob) w b (i * sz) e ∧ e.length = sz ∧ sz2 = sz := by
  rcases h with ⟨_, _, h3⟩ | ⟨_, _, a, h3⟩ | ⟨_, b', n', h1, h2, h3, h4⟩
  · rw [hb] at h3; cases h3
  · rw [hb] at h3; cases h3
  · rw [hb] at h1; cases h1
    refine ⟨fun j x hx => ?_, h2 i e he, rfl⟩
    have hi : i < xs.length := (List.getElem?_eq_some_iff.1 he).1
    have hj : j < sz := by rw [← h2 i e he]; exact (List.getElem?_eq_some_iff.1 hx).1
    obtain ⟨u, hu⟩ := h3 i j hi hj
    exact ⟨u, hw _ _ _ hu, h4 i j e u x he hx hu⟩

theorem obj_mk {h : Heap} {c : Loc} {v : Nat} {k : Con} (hk : h.con c v = k) (hn : k ≠ .gone) : h.obj c = ⟨v, k⟩ := by
  obtain ⟨h1, h2⟩ := con_eq hk hn
  cases ho : h.obj c with
  | mk ver con => rw [ho] at h1 h2; simp at h1 h2; rw [h1, h2]

/-- A load. -/
theorem loadAt_run {P : Program} {κ : Ctx} {im : Imm} {ob : Obm} {h : Heap} {w : World} (H : Inv κ im ob h w) {t : TypeId} {va : Value} {xa y : AV}
    (hV : V0 im ob va xa) (hy : loadAt P h t xa = some y) : ∃ v, (Instr.loadAt t va).run P w = .ok v w ∧ V0 im ob v y := by
  simp only [loadAt, Option.bind_eq_some_iff] at hy
  obtain ⟨ag, hag, n, hn, hy⟩ := hy
  cases hV with
  | ptr c v off b sz n' hb =>
    simp only at hy
    cases hk : h.con c v with
    | cells cs =>
      rw [hk] at hy
      simp only [Option.bind_eq_some_iff] at hy
      obtain ⟨y', hy', hfr⟩ := hy
      have ho := H.objs c
      rw [obj_mk hk (by simp)] at ho
      obtain ⟨u, hu, hV'⟩ := run_loadVar_cells hag hn (ho.cellsAt hb) hy'
      refine ⟨u, ?_, hV'.from_ hfr⟩
      simp only [Nat.zero_add] at hu
      simp [Instr.loadAt, Instr.sureAddr, hu]
    | _ => rw [hk] at hy; cases hy
  | eptr c v i j b sz n' hb =>
    simp only at hy
    cases hk : h.con c v with
    | arr nl sz2 xs =>
      rw [hk] at hy
      simp only [Option.bind_eq_some_iff] at hy
      obtain ⟨cs, hcs, y', hy', hfr⟩ := hy
      have ho := H.objs c
      rw [obj_mk hk (by simp)] at ho
      obtain ⟨u, hu, hV'⟩ := run_loadVar_cells hag hn ((ho.elemAt hb hcs).2.2 ▸ (ho.elemAt hb hcs).1) hy'
      exact ⟨u, by simp [Instr.loadAt, Instr.sureAddr, hu], hV'.from_ hfr⟩
    | frz nl sz2 xs =>
      rw [hk] at hy
      simp only [Option.bind_eq_some_iff] at hy
      obtain ⟨cs, hcs, y', hy', hfr⟩ := hy
      have ho := H.objs c
      rw [obj_mk hk (by simp)] at ho
      obtain ⟨u, hu, hV'⟩ := run_loadVar_cells hag hn ((ho.frzAt H.imw hb hcs).2.2 ▸ (ho.frzAt H.imw hb hcs).1) hy'
      exact ⟨u, by simp [Instr.loadAt, Instr.sureAddr, hu], hV'.from_ hfr⟩
    | _ => rw [hk] at hy; cases hy
  | cptr b off cs h1 h2 =>
    simp only at hy
    have hc : CellsAt im ob w b off cs := fun j x hx => by
      obtain ⟨u, hu⟩ := h1 j (List.getElem?_eq_some_iff.1 hx).1
      exact ⟨u, H.imw _ _ _ hu, h2 j u x hu hx⟩
    obtain ⟨u, hu, hV'⟩ := run_loadVar_cells hag hn hc hy
    exact ⟨u, by simp only [Nat.add_zero] at hu; simp [Instr.loadAt, Instr.sureAddr, hu], hV'⟩
  | _ => simp at hy
end Go.AE
