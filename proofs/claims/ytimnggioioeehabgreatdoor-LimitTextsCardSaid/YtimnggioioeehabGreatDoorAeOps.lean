/- Operations that make one value of others and leave the world as it is. -/
import Derived.Test.YtimnggioioeehabGreatDoorAeVals
import Derived.Laws.IdiomStrings
namespace Go.AE
open Go.RowKit (Below)

variable {P : Program} {κ : Ctx} {im : Imm} {ob : Obm} {h : Heap} {w : World}

theorem und_run {t : TypeId} {d : TypeDesc} (hd : P.underlying t = some d) (w : World) : (underlying t).run P w = .ok d w := run_underlying hd w

theorem aInt_V {v : Value} {x : AV} {n : Int} (hV : V0 im ob v x) (hx : aInt x = some n) : ∃ k, v = .int k n := by
  cases hV <;> simp [aInt] at hx
  rename_i k m
  exact ⟨k, by rw [hx]⟩
theorem aBool_V {v : Value} {x : AV} {b : Bool} (hV : V0 im ob v x) (hx : aBool x = some b) : v = .bool b := by
  cases hV <;> simp [aBool] at hx
  rw [hx]

theorem fieldAddr_run {t : TypeId} {va : Value} {xa y : AV} {f : Nat} (hV : V0 im ob va xa) (hy : fieldAddr P t xa f = some y) :
    ∃ v, (Instr.fieldAt t va f).run P w = .ok v w ∧ V0 im ob v y := by
  unfold fieldAddr at hy
  split at hy
  · rename_i fs hu
    simp only [Option.bind_eq_some_iff] at hy
    obtain ⟨fd, hf, n, hn, hy⟩ := hy
    split at hy
    · cases hy
    · rename_i hn0
      cases hV with
      | ptr c v off b sz n' hb =>
        simp only [Option.some.injEq] at hy; subst hy
        refine ⟨.pointer (some ⟨b, off + fd.offset, none⟩), ?_, .ptr _ _ _ _ _ _ hb⟩
        simp [Instr.fieldAt, und_run hu, hf, Instr.sureAddr, fieldPlace, run_size hn, hn0, add_eq]
      | eptr c v i j b sz n' hb =>
        simp only [Option.some.injEq] at hy; subst hy
        refine ⟨.pointer (some ⟨b, i * sz + j + fd.offset, none⟩), ?_, ?_⟩
        · simp [Instr.fieldAt, und_run hu, hf, Instr.sureAddr, fieldPlace, run_size hn, hn0, add_eq]
        · rw [Nat.add_assoc]; exact .eptr _ _ _ _ _ _ _ hb
      | cptr b off cs h1 h2 =>
        simp only [Option.some.injEq] at hy; subst hy
        refine ⟨.pointer (some ⟨b, off + fd.offset, none⟩), ?_, .cptr _ _ _ (fun j hj => ?_) (fun j v x hv hx => ?_)⟩
        · simp [Instr.fieldAt, und_run hu, hf, Instr.sureAddr, fieldPlace, run_size hn, hn0, add_eq]
        · obtain ⟨v, hv⟩ := h1 (fd.offset + j) (by simp at hj; omega)
          exact ⟨v, by rw [Nat.add_assoc]; exact hv⟩
        · simp only [List.getElem?_drop] at hx
          exact h2 (fd.offset + j) v x (by rw [← Nat.add_assoc]; exact hv) hx
      | _ => simp at hy
  · cases hy

theorem run_part {t : TypeId} {ag : Bool} {n off : Nat} {vs : Array Value} {cs : List AV} {y : AV} (hag : isAgg? P t = some ag) (hn : size? P t = some n)
    (h1 : vs.size = cs.length) (h2 : ∀ (j : Nat) (v : Value) (x : AV), vs[j]? = some v → cs[j]? = some x → V0 im ob v x) (hy : readAs ag n cs off = some y) :
    ∃ v, (part t vs off).run P w = .ok v w ∧ V0 im ob v y := by
  cases ag with
  | false =>
    simp only [readAs, Bool.false_eq_true, if_false] at hy
    have hlt : off < vs.size := by rw [h1]; exact (List.getElem?_eq_some_iff.1 hy).1
    refine ⟨vs[off], ?_, h2 off _ y (by simp [hlt]) hy⟩
    simp [part, run_isAgg hag, hlt]
  | true =>
    simp only [readAs, if_true, Option.map_eq_some_iff] at hy
    obtain ⟨l, hl, rfl⟩ := hy
    obtain ⟨hle, rfl⟩ := cut_eq hl
    refine ⟨.agg (vs.extract off (off + n)), by simp [part, run_isAgg hag, run_size hn], .agg _ _ (by simp; omega) (fun j v x hv hx => ?_)⟩
    have hj : j < n := by
      have := (List.getElem?_eq_some_iff.1 hx).1
      simp at this; omega
    have hv' : vs[off + j]? = some v := by
      rw [Array.getElem?_extract] at hv
      split at hv
      · exact hv
      · cases hv
    have hx' : cs[off + j]? = some x := by
      simpa [hj, List.getElem?_drop] using hx
    exact h2 (off + j) v x hv' hx'

theorem fieldOf_run {t : TypeId} {va : Value} {xa y : AV} {f : Nat} (hV : V0 im ob va xa) (hy : fieldOf P t xa f = some y) :
    ∃ v, (Instr.field t va f).run P w = .ok v w ∧ V0 im ob v y := by
  unfold fieldOf at hy
  split at hy
  · rename_i fs cs hu
    simp only [Option.bind_eq_some_iff] at hy
    obtain ⟨fd, hf, ag, hag, n, hn, hy⟩ := hy
    cases hV with
    | agg vs cs h1 h2 =>
      obtain ⟨v, hv, hV'⟩ := run_part (w := w) hag hn h1 h2 hy
      exact ⟨v, by simp [Instr.field, und_run hu, hf, asAgg, hv], hV'⟩
  · cases hy

theorem indexAddr_run (H : Inv κ im ob h w) {t : TypeId} {va vi : Value} {xa xi y : AV} (hV : V0 im ob va xa) (hI : V0 im ob vi xi) (hy : indexAddr P h t xa xi = some y) :
    ∃ v, (Instr.indexAt t va vi).run P w = .ok v w ∧ V0 im ob v y := by
  simp only [indexAddr, Option.bind_eq_some_iff] at hy
  obtain ⟨i, hi, hy⟩ := hy
  obtain ⟨k, rfl⟩ := aInt_V hI hi
  split at hy
  · rename_i e nl sz xs hu
    simp only [Option.bind_eq_some_iff] at hy
    obtain ⟨n, hn, hy⟩ := hy
    split at hy
    · rename_i hc
      obtain ⟨rfl, h0⟩ := hc
      simp only [Option.map_eq_some_iff] at hy
      obtain ⟨cs, hcs, rfl⟩ := hy
      have hlt := (List.getElem?_eq_some_iff.1 hcs).1
      cases hV with
      | snil => simp at hcs
      | slE => simp at hcs
      | sl b off len cap xs sz hl hcp hz h1 h2 =>
        have hin : i < (len : Int) := by omega
        refine ⟨.pointer (some ⟨b, off + i.toNat * n, none⟩), ?_, .cptr _ _ _ (fun j hj => h1 i.toNat j hlt (by rw [← hz _ _ hcs]; exact hj)) (fun j v x hv hx => h2 i.toNat j cs v x hcs hx hv)⟩
        simp [Instr.indexAt, asIntOf, und_run hu, h0, hin, run_size hn, add_eq]
    · cases hy
  · rename_i e c v off len hu
    simp only [Option.bind_eq_some_iff] at hy
    obtain ⟨n, hn, hy⟩ := hy
    have key : ∀ (nl : Bool) (sz : Nat) (xs : List (List AV)), (h.con c v = .arr nl sz xs ∨ h.con c v = .frz nl sz xs) →
        (if n = sz ∧ 0 ≤ i ∧ i < (len : Int) ∧ off + i.toNat < xs.length then some (AV.eptr c v (off + i.toNat) 0) else none) = some y →
        ∃ v_1, (Instr.indexAt t va (.int k i)).run P w = .ok v_1 w ∧ V0 im ob v_1 y := by
      intro nl sz xs hk hy
      split at hy
      · rename_i hc
        obtain ⟨rfl, h0, hin, hlt⟩ := hc
        simp only [Option.some.injEq] at hy; subst hy
        have hsz : ∀ {b sz2 n2 : Nat}, ob c v = some (.blk b sz2 n2) → sz2 = n := fun hb => by
          have ho := H.objs c
          rcases hk with hk | hk
          · rw [obj_mk hk (by simp)] at ho; exact (ho.elemAt hb (List.getElem?_eq_getElem hlt)).2.2
          · rw [obj_mk hk (by simp)] at ho; exact (ho.frzAt H.imw hb (List.getElem?_eq_getElem hlt)).2.2
        cases hV with
        | rslN c v hb => simp at hin; omega
        | rslE c v a hb => simp at hin; omega
        | rsl c v off len cap b sz2 n2 hb hcp hnn =>
          obtain rfl := hsz hb
          refine ⟨.pointer (some ⟨b, off * sz2 + i.toNat * sz2, none⟩), ?_, ?_⟩
          · simp [Instr.indexAt, asIntOf, und_run hu, h0, hin, run_size hn, add_eq]
          · have := V0.eptr (im := im) (ob := ob) c v (off + i.toNat) 0 b sz2 n2 hb
            rwa [Nat.add_mul, Nat.add_zero] at this
      · cases hy
    split at hy
    · rename_i nl sz xs hk; exact key nl sz xs (.inl hk) hy
    · rename_i nl sz xs hk; exact key nl sz xs (.inr hk) hy
    · cases hy
  · rename_i len e c v off hu
    simp only [Option.bind_eq_some_iff] at hy
    obtain ⟨n, hn, hy⟩ := hy
    split at hy
    · rename_i hc
      obtain ⟨h0, hin⟩ := hc
      simp only [Option.some.injEq] at hy; subst hy
      cases hV with
      | ptr c v off b sz n' hb =>
        refine ⟨.pointer (some ⟨b, off + i.toNat * n, none⟩), ?_, .ptr _ _ _ _ _ _ hb⟩
        simp [Instr.indexAt, asIntOf, und_run hu, Instr.sureAddr, h0, hin, run_size hn, add_eq]
    · cases hy
  · cases hy

theorem indexOf_run {t : TypeId} {va vi : Value} {xa xi y : AV} (hV : V0 im ob va xa) (hI : V0 im ob vi xi) (hy : indexOf P t xa xi = some y) :
    ∃ v, (Instr.index t va vi).run P w = .ok v w ∧ V0 im ob v y := by
  simp only [indexOf, Option.bind_eq_some_iff] at hy
  obtain ⟨i, hi, hy⟩ := hy
  obtain ⟨k, rfl⟩ := aInt_V hI hi
  split at hy
  · rename_i s hu
    split at hy
    · rename_i h0
      simp only [Option.map_eq_some_iff] at hy
      obtain ⟨b, hb, rfl⟩ := hy
      cases hV with
      | str s => exact ⟨.int .u8 b.toNat, by simp [Instr.index, asIntOf, und_run hu, h0, hb], .int _ _⟩
    · cases hy
  · rename_i len e cs hu
    split at hy
    · rename_i hc
      simp only [Option.bind_eq_some_iff] at hy
      obtain ⟨ag, hag, n, hn, hy⟩ := hy
      cases hV with
      | agg vs cs h1 h2 =>
        obtain ⟨v, hv, hV'⟩ := run_part (w := w) hag hn h1 h2 hy
        exact ⟨v, by simp [Instr.index, asIntOf, und_run hu, hc, run_size hn, hv], hV'⟩
    · cases hy
  · cases hy

theorem unOf_run {op : UnOp} {va : Value} {xa y : AV} (hV : V0 im ob va xa) (hy : unOf op xa = some y) : ∃ v, (Op.unary op va).run P w = .ok v w ∧ V0 im ob v y := by
  unfold unOf at hy
  split at hy <;> first | cases hy | skip
  · cases hV; exact ⟨.int _ _, by simp [Op.unary, Op.intArith], .int _ _⟩
  · cases hV; exact ⟨_, by simp only [Op.unary, Op.intBits]; rfl, .int _ _⟩
  · cases hV; exact ⟨_, by simp only [Op.unary]; rfl, .bool _⟩

/-- The conversion makes a new row. -/
def rowConv (P : Program) (d : TypeId) (x : AV) : Prop := ∃ e b, P.underlying d = some (.slice e) ∧ x = .str b
theorem convOf_run {s d : TypeId} {va : Value} {xa y : AV} (hw : ∀ b off v, im b off = some v → w.cell? ⟨b, off, none⟩ = some v) (hV : V0 im ob va xa) (hy : convOf P s d xa = some y) (hnr : ¬ rowConv P d xa) : ∃ v, (convert s d va).run P w = .ok v w ∧ V0 im ob v y := by
  simp only [convOf, Option.bind_eq_some_iff] at hy
  obtain ⟨ds, hs, dd, hd, hy⟩ := hy
  split at hy
  · rename_i e b
    exact absurd ⟨e, b, hd, rfl⟩ hnr
  · rename_i nl sz xs
    split at hy
    · rename_i e
      split at hy
      · rename_i he
        simp only [Option.map_eq_some_iff] at hy
        obtain ⟨l, hl, rfl⟩ := hy
        have hll : l.length = xs.length := mapO_length hl
        cases hV with
        | snil sz =>
          have : l = [] := List.length_eq_zero_iff.1 (by simpa using hll)
          subst this
          exact ⟨.string ⟨#[]⟩, by simp [convert, und_run hs, und_run hd, und_run he, Conv.bytesToString]; rfl, .str _⟩
        | slE a cap sz =>
          have : l = [] := List.length_eq_zero_iff.1 (by simpa using hll)
          subst this
          exact ⟨_, run_convert_bytes_back w s d e a cap [] hs he hd (fun j hj => by simp at hj), .str _⟩
        | sl b off len cap xs sz hlen hcap hz h1 h2 =>
          subst hlen
          rw [← hll]
          refine ⟨_, run_convert_bytes_back w s d e ⟨b, off, none⟩ cap l hs he hd (fun j hj => ?_), .str _⟩
          obtain ⟨r, hr, hb⟩ := mapO_get' hl j l[j] (by simp [hj])
          unfold byteOf at hb
          split at hb
          · rename_i n
            split at hb
            · rename_i hn
              simp only [Option.some.injEq] at hb
              have hsz : sz = 1 := by simpa using (hz j _ hr).symm
              subst hsz
              obtain ⟨v, hv⟩ := h1 j 0 (by omega) (by omega)
              have hvV := h2 j 0 _ v _ hr rfl hv
              have hc := hw _ _ _ hv
              simp only [Nat.mul_one, Nat.add_zero] at hc
              cases hvV
              rw [add_eq, hc, ← hb]
              congr 2
              have : n.toNat < 256 := by omega
              simp only [Nat.toUInt8_eq, UInt8.toNat_ofNat']
              omega
            · cases hb
          · cases hb
      · cases hy
    · cases hy
  · split at hy
    · rename_i e
      split at hy
      · rename_i he
        simp only [Option.some.injEq] at hy
        subst hy
        cases hV with
        | ez a => exact ⟨_, run_convert_bytes_back w s d e a 0 [] hs he hd (fun j hj => by simp at hj), .str _⟩
      · cases hy
    · cases hy
  · simp only [Option.some.injEq] at hy; subst hy
    cases hV; rename_i k k' n
    exact ⟨.int k (k.wrap n), by cases ds <;> simp [convert, und_run hs, und_run hd, Conv.intToInt], .int _ _⟩
  · simp only [Option.some.injEq] at hy; subst hy
    cases hV; rename_i k n
    exact ⟨.string (Utf8.encode n), by cases ds <;> simp [convert, und_run hs, und_run hd, Conv.intToString], .str _⟩
  · simp only [Option.some.injEq] at hy; subst hy
    cases hV; rename_i b
    exact ⟨.string b, by cases ds <;> simp [convert, und_run hs, und_run hd], .str _⟩
  · cases hy
/-- Bytes of a string in a new row. -/
theorem convRow_run {s d : TypeId} {va : Value} {xa y : AV} (hV : V0 im ob va xa) (hy : convOf P s d xa = some y) (hr : rowConv P d xa) :
    ∃ (e : TypeId) (b : ByteArray) (cap : Nat) (fz : Nat × Nat), y = .sl false 1 (b.data.toList.map fun x => [.int .u8 x.toNat]) ∧ b.size ≤ cap ∧
      (convert s d va).run P w = .ok (.slice (some ⟨w.heap.size, 0, none⟩) b.size cap) (w.drew.alloc (.cells (bytesRow b cap) e fz)) := by
  obtain ⟨e, b, hd, rfl⟩ := hr
  simp only [convOf, Option.bind_eq_some_iff] at hy
  obtain ⟨ds, hs, dd, hd', hy⟩ := hy
  rw [hd] at hd'
  simp only [Option.some.injEq] at hd'
  subst hd'
  simp only at hy
  split at hy
  · rename_i he
    simp only [Option.some.injEq] at hy
    subst hy
    cases hV
    refine ⟨e, b, _, _, rfl, ?_, run_bytes_of_string w s d e b hs hd he⟩
    simp only [grownCap, Question.cut]
    omega
  · cases hy
end Go.AE
