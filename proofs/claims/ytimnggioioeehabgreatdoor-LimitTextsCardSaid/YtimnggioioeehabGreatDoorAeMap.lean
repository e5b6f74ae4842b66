/- Maps; the move that freezes; the assign that opens. -/
import Derived.Test.YtimnggioioeehabGreatDoorAeAppend2
import Derived.MapKept
namespace Go.AE
open Go.RowKit (Below)

variable {P : Program} {κ : Ctx} {im : Imm} {ob : Obm} {h : Heap} {w : World}

/-- Where a key stands. -/
def keyIdx (k : AV) : List (AV × AV) → Option (Option Nat)
  | [] => some none
  | e :: r => (keyEq k e.1).bind fun b => if b then some (some 0) else (keyIdx k r).map fun o => o.map (· + 1)

theorem mapFind_idx (k : AV) : ∀ es r, mapFind k es = some r → ∃ o, keyIdx k es = some o ∧ r = o.bind fun j => (es[j]?).map (·.2)
  | [], r, h => by simp [mapFind] at h; subst h; exact ⟨none, rfl, rfl⟩
  | e :: es, r, h => by
    simp only [mapFind, Option.bind_eq_some_iff] at h
    obtain ⟨b, hb, h⟩ := h
    cases b with
    | true => simp at h; subst h; exact ⟨some 0, by simp [keyIdx, hb], by simp⟩
    | false =>
      simp at h
      obtain ⟨o, h1, h2⟩ := mapFind_idx k es r h
      refine ⟨o.map (· + 1), by simp [keyIdx, hb, h1], ?_⟩
      cases o <;> simp_all
theorem mapPut_idx (k v : AV) : ∀ es r, mapPut k v es = some r → ∃ o, keyIdx k es = some o ∧ r = match o with | none => es ++ [(k, v)] | some j => es.set j (k, v)
  | [], r, h => by simp [mapPut] at h; subst h; exact ⟨none, rfl, rfl⟩
  | e :: es, r, h => by
    simp only [mapPut, Option.bind_eq_some_iff] at h
    obtain ⟨b, hb, h⟩ := h
    cases b with
    | true => simp at h; subst h; exact ⟨some 0, by simp [keyIdx, hb], by simp⟩
    | false =>
      simp at h
      obtain ⟨l, hl, rfl⟩ := h
      obtain ⟨o, h1, h2⟩ := mapPut_idx k v es l hl
      refine ⟨o.map (· + 1), by simp [keyIdx, hb, h1], ?_⟩
      cases o <;> simp_all
theorem mapDel_idx (k : AV) : ∀ es r, mapDel k es = some r → ∃ o, keyIdx k es = some o ∧ r = match o with | none => es | some j => es.eraseIdx j
  | [], r, h => by simp [mapDel] at h; subst h; exact ⟨none, rfl, rfl⟩
  | e :: es, r, h => by
    simp only [mapDel, Option.bind_eq_some_iff] at h
    obtain ⟨b, hb, h⟩ := h
    cases b with
    | true => simp at h; subst h; exact ⟨some 0, by simp [keyIdx, hb], by simp⟩
    | false =>
      simp at h
      obtain ⟨l, hl, rfl⟩ := h
      obtain ⟨o, h1, h2⟩ := mapDel_idx k es l hl
      refine ⟨o.map (· + 1), by simp [keyIdx, hb, h1], ?_⟩
      cases o <;> simp_all

/-- A key of its type. -/
def fits (d : TypeDesc) (k : AV) : Prop :=
  match d, k with
  | .int _, .int _ _ | .string, .str _ | .bool, .bool _ => True
  | _, _ => False
theorem fits_of {kt : TypeId} {k : AV} (hk : keyFits P kt k = true) : ∃ d, P.underlying kt = some d ∧ fits d k := by
  unfold keyFits at hk
  split at hk
  · rename_i h; exact ⟨_, h, trivial⟩
  · rename_i h; exact ⟨_, h, trivial⟩
  · rename_i h; exact ⟨_, h, trivial⟩
  · cases hk

theorem keyR_of {kv : Value} {k : AV} {d : TypeDesc} (hV : V0 im ob kv k) (hf : fits d k) : keyR kv k := by
  unfold fits at hf
  split at hf
  · cases hV; exact ⟨rfl, rfl⟩
  · cases hV; exact rfl
  · cases hV; exact rfl
  · exact hf.elim

theorem sameNow_ae {d : TypeDesc} {kv ev : Value} {k e : AV} {b : Bool} (hf : fits d k) (h1 : keyR kv k) (h2 : keyR ev e) (he : keyEq k e = some b) : Instr.sameNow d kv ev = some b := by
  unfold fits at hf
  split at hf
  · cases e <;> simp [keyEq] at he
    cases kv <;> simp [keyR] at h1
    cases ev <;> simp [keyR] at h2
    obtain ⟨rfl, rfl⟩ := h1
    obtain ⟨rfl, rfl⟩ := h2
    simp [Instr.sameNow, he.1, he.2]
  · cases e <;> simp [keyEq] at he
    cases kv <;> simp [keyR] at h1
    cases ev <;> simp [keyR] at h2
    subst h1 h2
    simp [Instr.sameNow, he]
  · cases e <;> simp [keyEq] at he
    cases kv <;> simp [keyR] at h1
    cases ev <;> simp [keyR] at h2
    subst h1 h2
    simp [Instr.sameNow, he]
  · exact hf.elim

theorem sameBits_ae {d : TypeDesc} {kv ev : Value} {k e : AV} (hf : fits d k) (h1 : keyR kv k) (h2 : keyR ev e) (he : keyEq k e = some true) : Instr.sameBits 10000 ev kv = true := by
  have hs := sameNow_ae hf h1 h2 he
  unfold fits at hf
  split at hf
  · cases e <;> simp [keyEq] at he
    cases kv <;> simp [keyR] at h1
    cases ev <;> simp [keyR] at h2
    obtain ⟨rfl, rfl⟩ := h1
    obtain ⟨rfl, rfl⟩ := h2
    simp [Instr.sameBits, he.1, he.2]
  · cases e <;> simp [keyEq] at he
    cases kv <;> simp [keyR] at h1
    cases ev <;> simp [keyR] at h2
    subst h1 h2
    have := (MapKept.bytes_beq _ _).1 he
    subst this
    simp [Instr.sameBits]
    exact he
  · cases e <;> simp [keyEq] at he
    cases kv <;> simp [keyR] at h1
    cases ev <;> simp [keyR] at h2
    subst h1 h2
    simp [Instr.sameBits, he]
  · exact hf.elim

theorem findNow_ae {d : TypeDesc} {kv : Value} {k : AV} (hf : fits d k) (h1 : keyR kv k) : ∀ (l : List MapEntry) (es : List (AV × AV)) (i : Nat) (o : Option Nat), l.length = es.length →
    (∀ (j : Nat) (x : MapEntry) (e : AV × AV), l[j]? = some x → es[j]? = some e → keyR x.key e.1) → keyIdx k es = some o →
    match o with
    | none => Instr.findNow d kv l i = some none
    | some j => ∃ x e, l[j]? = some x ∧ es[j]? = some e ∧ keyEq k e.1 = some true ∧ Instr.findNow d kv l i = some (some (i + j, x.val))
  | [], es, i, o, hl, hR, ho => by
    have : es = [] := by simpa using hl.symm
    subst this
    simp [keyIdx] at ho; subst ho; rfl
  | x :: l, [], i, o, hl, hR, ho => by simp at hl
  | x :: l, e :: es, i, o, hl, hR, ho => by
    simp only [keyIdx, Option.bind_eq_some_iff] at ho
    obtain ⟨b, hb, ho⟩ := ho
    have hs := sameNow_ae hf h1 (hR 0 x e rfl rfl) hb
    cases b with
    | true =>
      simp at ho; subst ho
      exact ⟨x, e, rfl, rfl, hb, by simp [Instr.findNow, hs]⟩
    | false =>
      simp only [Bool.false_eq_true, if_false, Option.map_eq_some_iff] at ho
      obtain ⟨o', ho', rfl⟩ := ho
      have ih := findNow_ae hf h1 l es (i + 1) o' (by simpa using hl) (fun j x e hx he => hR (j + 1) x e (by simpa using hx) (by simpa using he)) ho'
      cases o' with
      | none => simp only [Option.map_none]; simp only [Instr.findNow, hs]; exact ih
      | some j =>
        obtain ⟨x', e', q1, q2, q3, q4⟩ := ih
        refine ⟨x', e', by simpa using q1, by simpa using q2, q3, ?_⟩
        simp only [Instr.findNow, hs, q4, Option.some.injEq, Prod.mk.injEq, and_true]; omega

theorem run_checkKey_ae {kt : TypeId} {d : TypeDesc} {kv : Value} {k : AV} (hd : P.underlying kt = some d) (hf : fits d k) (h1 : keyR kv k) (e : Bool) (w : World) : (Instr.checkKey e 10000 kt kv).run P w = .ok () w := by
  unfold Instr.checkKey
  simp only [Sem.run_bind, run_underlying hd, Result.andThen]
  unfold fits at hf
  split at hf <;> first | exact hf.elim | (cases kv <;> simp_all [keyR])

theorem setBlock_other {w : World} {b b' : Nat} {o : Obj} (hb : b' ≠ b) : (w.heap.setIfInBounds b o)[b']? = w.heap[b']? := by
  rw [Array.getElem?_setIfInBounds, if_neg (fun e => hb e.symm)]

theorem setBlock_at {w : World} {b : Nat} {o : Obj} (hb : b < w.heap.size) : (w.heap.setIfInBounds b o)[b]? = some o := by simp [hb]

theorem mapAt (H : Inv κ im ob h w) {vm : Value} {c : Loc} {v : Nat} {es : List (AV × AV)} (hM : V0 im ob vm (.mp c v)) (hk : h.con c v = .map es) :
    ∃ b sz n es' clk, vm = .map (some b) ∧ ob c v = some (.blk b sz n) ∧ w.heap[b]? = some (.map es' clk) ∧ es'.size = es.length ∧
      (∀ (j : Nat) (e' : MapEntry) (e : AV × AV), es'[j]? = some e' → es[j]? = some e → keyR e'.key e.1 ∧ V0 im (view c ob) e'.val e.2) ∧ (∀ off, im b off = none) ∧ κ.B ≤ b := by
  cases hM with
  | mp c v b sz n hb =>
    have ho := H.objs c
    rw [obj_mk hk (by simp)] at ho
    obtain ⟨b', sz', n', es', clk, h1, h2, h3, h4, h5, h6⟩ := ho
    rw [hb] at h1; cases h1
    exact ⟨b, sz, n, es', clk, rfl, hb, h2, h3, h4, h5, h6⟩

theorem mapUpdate_run (H : Inv κ im ob h w) {t kt e : TypeId} {vm kv xv : Value} {c : Loc} {v : Nat} {k x x' : AV} {es es2 : List (AV × AV)} (hu : P.underlying t = some (.map kt e)) (hM : V0 im ob vm (.mp c v)) (hK : V0 im ob kv k) (hX : V0 im ob xv x)
    (hf : keyFits P kt k = true) (hro : κ.ro = true → c.here = true) (hk : h.con c v = .map es) (hx : c.into x = some x') (hp : mapPut k x' es = some es2) :
    ∃ w', (Instr.mapUpdate t vm kv xv).run P w = .ok () w' ∧ Inv κ im ob (h.setObj c ⟨v, .map es2⟩) w' := by
  obtain ⟨d, hd, hfd⟩ := fits_of hf
  have hkR := keyR_of hK hfd
  obtain ⟨b, sz, n, es', clk, rfl, hb, h2, h3, h4, h5, h6⟩ := mapAt H hM hk
  obtain ⟨o, ho, rfl⟩ := mapPut_idx _ _ _ _ hp
  have hxV := hX.into hx
  have hfn := findNow_ae hfd hkR es'.toList es 0 o (by simpa using h3) (fun j x e hx he => (h4 j x e (by simpa using hx) he).1) ho
  have hlt : b < w.heap.size := (Array.getElem?_eq_some_iff.1 h2).1
  cases o with
  | none =>
    refine ⟨{ w with heap := w.heap.setIfInBounds b (.map (es'.push { key := kv, val := xv, born := clk }) (clk + 1)) }, ?_, H.write (obj_mk hk (by simp)) (by simp [Con.live]) hb (by simp) rfl rfl rfl (fun b' hb' => setBlock_other hb') ?_ hro⟩
    · simp [Instr.mapUpdate, run_underlying hu, MapKept.run_getObj_map h2, run_checkKey_ae hd hfd hkR, MapKept.run_findKey hd hfn, MapKept.run_setObj_map _ h2, Result.andThen]
    · refine ⟨b, sz, n, _, _, hb, setBlock_at hlt, by simp [h3], fun j e' e he' he => ?_, h5, h6⟩
      rw [Array.getElem?_push] at he'
      split at he'
      · rename_i hj
        simp only [Option.some.injEq] at he'
        rw [List.getElem?_append_right (by omega)] at he
        have : j - es.length = 0 := by omega
        simp only [this, List.getElem?_cons_zero, Option.some.injEq] at he
        subst he' he
        exact ⟨hkR, hxV⟩
      · have hj := (Array.getElem?_eq_some_iff.1 he').1
        rw [List.getElem?_append_left (by omega)] at he
        exact h4 j e' e he' he
  | some j =>
    obtain ⟨e0, a0, q1, q2, q3, q4⟩ := hfn
    have q1' : es'[j]? = some e0 := by simpa using q1
    have hst : Instr.sameBits 10000 e0.key kv = true := sameBits_ae hfd hkR (h4 j e0 a0 q1' q2).1 q3
    refine ⟨{ w with heap := w.heap.setIfInBounds b (.map (es'.modify j fun e => { e with key := kv, val := xv }) clk) }, ?_, H.write (obj_mk hk (by simp)) (by simp [Con.live]) hb (by simp) rfl rfl rfl (fun b' hb' => setBlock_other hb') ?_ hro⟩
    · simp [Instr.mapUpdate, run_underlying hu, MapKept.run_getObj_map h2, run_checkKey_ae hd hfd hkR, MapKept.run_findKey hd q4, MapKept.run_setObj_map _ h2, Result.andThen, q1', Instr.keyThatStays, hst]
    · refine ⟨b, sz, n, _, _, hb, setBlock_at hlt, by simp [h3], fun i e' e he' he => ?_, h5, h6⟩
      rw [Array.getElem?_modify] at he'
      rw [List.getElem?_set] at he
      by_cases hij : j = i
      · subst hij
        rw [if_pos rfl] at he' he
        rw [q1'] at he'
        split at he
        · simp only [Option.map_some, Option.some.injEq] at he' he
          subst he' he
          exact ⟨hkR, hxV⟩
        · cases he
      · rw [if_neg hij] at he' he
        exact h4 i e' e he' he

theorem delete_run (H : Inv κ im ob h w) {t kt e ty : TypeId} {at_ : Array TypeId} {vm kv : Value} {c : Loc} {v : Nat} {k : AV} {es es2 : List (AV × AV)} (hat : at_[0]? = some t) (hu : P.underlying t = some (.map kt e)) (hM : V0 im ob vm (.mp c v)) (hK : V0 im ob kv k)
    (hf : keyFits P kt k = true) (hro : κ.ro = true → c.here = true) (hk : h.con c v = .map es) (hp : mapDel k es = some es2) :
    ∃ w', (Builtin.delete_ at_ ty #[vm, kv]).run P w = .ok (.tuple #[]) w' ∧ Inv κ im ob (h.setObj c ⟨v, .map es2⟩) w' := by
  obtain ⟨d, hd, hfd⟩ := fits_of hf
  have hkR := keyR_of hK hfd
  obtain ⟨b, sz, n, es', clk, rfl, hb, h2, h3, h4, h5, h6⟩ := mapAt H hM hk
  obtain ⟨o, ho, rfl⟩ := mapDel_idx _ _ _ hp
  have hfn := findNow_ae hfd hkR es'.toList es 0 o (by simpa using h3) (fun j x e hx he => (h4 j x e (by simpa using hx) he).1) ho
  have hlt : b < w.heap.size := (Array.getElem?_eq_some_iff.1 h2).1
  cases o with
  | none =>
    refine ⟨{ w with heap := w.heap.setIfInBounds b (.map es' clk) }, ?_, H.write (obj_mk hk (by simp)) (by simp [Con.live]) hb (by simp) rfl rfl rfl (fun b' hb' => setBlock_other hb') ?_ hro⟩
    · simp [Builtin.delete_, hat, run_underlying hu, MapKept.run_getObj_map h2, run_checkKey_ae hd hfd hkR, MapKept.run_findKey hd hfn, MapKept.run_setObj_map _ h2, Result.andThen]
    · exact ⟨b, sz, n, es', clk, hb, by simp [hlt], h3, h4, h5, h6⟩
  | some j =>
    obtain ⟨e0, a0, q1, q2, q3, q4⟩ := hfn
    have hj : j < es'.size := by have := (List.getElem?_eq_some_iff.1 q1).1; simpa using this
    refine ⟨{ w with heap := w.heap.setIfInBounds b (.map (es'.eraseIdxIfInBounds j) clk) }, ?_, H.write (obj_mk hk (by simp)) (by simp [Con.live]) hb (by simp) rfl rfl rfl (fun b' hb' => setBlock_other hb') ?_ hro⟩
    · simp [Builtin.delete_, hat, run_underlying hu, MapKept.run_getObj_map h2, run_checkKey_ae hd hfd hkR, MapKept.run_findKey hd q4, MapKept.run_setObj_map _ h2, Result.andThen]
    · refine ⟨b, sz, n, es'.eraseIdxIfInBounds j, clk, hb, by simp [hlt], ?_, fun i e' e he' he => ?_, h5, h6⟩
      · rw [List.length_eraseIdx, if_pos (by omega)]
        show (if h : j < es'.size then es'.eraseIdx j h else es').size = _
        rw [dif_pos hj, Array.size_eraseIdx, h3]
      · have e1 : (es'.eraseIdxIfInBounds j).toList = es'.toList.eraseIdx j := by simp [Array.eraseIdxIfInBounds, hj]
        rw [← Array.getElem?_toList, e1, List.getElem?_eraseIdx] at he'
        rw [List.getElem?_eraseIdx] at he
        split at he'
        · rename_i hij; rw [if_pos hij] at he; exact h4 i e' e (by simpa using he') he
        · rename_i hij; rw [if_neg hij] at he; exact h4 (i + 1) e' e (by simpa using he') he

theorem zero_run {e : TypeId} {z : AV} (hz : zero? P e = some z) : ∃ zv, (∀ w : World, (zeroValue e).run P w = .ok zv w) ∧ V0 im ob zv z := by
  simp only [zero?, Option.bind_eq_some_iff, Option.map_eq_some_iff] at hz
  obtain ⟨i, hi, zv, hzv, rfl⟩ := hz
  exact ⟨zv, fun w => by simp [zeroValue, typeInfo, hi, hzv], V0.ofV zv⟩

theorem V0.pair {v1 v2 : Value} {x y : AV} (h1 : V0 im ob v1 x) (h2 : V0 im ob v2 y) : V0 im ob (.tuple #[v1, v2]) (.tup [x, y]) := by
  refine .tup _ _ rfl (fun j v a hv ha => ?_)
  match j with
  | 0 => simp at hv ha; subst hv ha; exact h1
  | 1 => simp at hv ha; subst hv ha; exact h2
  | j + 2 => simp at ha

theorem lookup_run (H : Inv κ im ob h w) {t kt e : TypeId} {vm kv : Value} {c : Loc} {v : Nat} {k y : AV} {es : List (AV × AV)} {okk : Bool} (hu : P.underlying t = some (.map kt e)) (hM : V0 im ob vm (.mp c v)) (hK : V0 im ob kv k)
    (hf : keyFits P kt k = true) (hk : h.con c v = .map es)
    (hy : ((mapFind k es).bind fun r => match r with
          | some v => (c.from v).map fun v => if okk then AV.tup [v, .bool true] else v
          | none => (zero? P e).map fun z => if okk then AV.tup [z, .bool false] else z) = some y) :
    ∃ rv, (Instr.lookup t vm kv okk).run P w = .ok rv w ∧ V0 im ob rv y := by
  obtain ⟨d, hd, hfd⟩ := fits_of hf
  have hkR := keyR_of hK hfd
  obtain ⟨b, sz, n, es', clk, rfl, hb, h2, h3, h4, h5, h6⟩ := mapAt H hM hk
  simp only [Option.bind_eq_some_iff] at hy
  obtain ⟨r, hr, hy⟩ := hy
  obtain ⟨o, ho, rfl⟩ := mapFind_idx _ _ _ hr
  have hfn := findNow_ae hfd hkR es'.toList es 0 o (by simpa using h3) (fun j x e hx he => (h4 j x e (by simpa using hx) he).1) ho
  cases o with
  | none =>
    simp only [Option.bind_none, Option.map_eq_some_iff] at hy
    obtain ⟨z, hz, rfl⟩ := hy
    obtain ⟨zv, hzv, hV⟩ := zero_run (im := im) (ob := ob) hz
    refine ⟨if okk then .tuple #[zv, .bool false] else zv, ?_, ?_⟩
    · simp [Instr.lookup, run_underlying hu, MapKept.run_getObj_map h2, run_checkKey_ae hd hfd hkR, MapKept.run_findKey hd hfn, hzv, Result.andThen]
    · cases okk
      · exact hV
      · exact hV.pair (.bool false)
  | some j =>
    obtain ⟨e0, a0, q1, q2, q3, q4⟩ := hfn
    simp only [Option.bind_some, q2, Option.map_some, Option.map_eq_some_iff] at hy
    obtain ⟨x, hx, rfl⟩ := hy
    have hV := (h4 j e0 a0 (by simpa using q1) q2).2.from_ hx
    refine ⟨if okk then .tuple #[e0.val, .bool true] else e0.val, ?_, ?_⟩
    · simp [Instr.lookup, run_underlying hu, MapKept.run_getObj_map h2, run_checkKey_ae hd hfd hkR, MapKept.run_findKey hd q4, Result.andThen]
    · cases okk
      · exact hV
      · exact hV.pair (.bool true)

theorem lookup_nil_run {t kt e : TypeId} {vm kv : Value} {k y : AV} {okk : Bool} (hu : P.underlying t = some (.map kt e)) (hM : V0 im ob vm .nilm) (hK : V0 im ob kv k)
    (hf : keyFits P kt k = true) (hy : ((zero? P e).map fun z => if okk then AV.tup [z, .bool false] else z) = some y) :
    ∃ rv, (Instr.lookup t vm kv okk).run P w = .ok rv w ∧ V0 im ob rv y := by
  obtain ⟨d, hd, hfd⟩ := fits_of hf
  have hkR := keyR_of hK hfd
  cases hM
  simp only [Option.map_eq_some_iff] at hy
  obtain ⟨z, hz, rfl⟩ := hy
  obtain ⟨zv, hzv, hV⟩ := zero_run (im := im) (ob := ob) hz
  have hfn : Instr.findNow d kv [] 0 = some none := rfl
  refine ⟨if okk then .tuple #[zv, .bool false] else zv, ?_, ?_⟩
  · simp [Instr.lookup, run_underlying hu, run_checkKey_ae hd hfd hkR, MapKept.run_findKey hd hfn, hzv, Result.andThen]
  · cases okk
    · exact hV
    · exact hV.pair (.bool false)
end Go.AE
