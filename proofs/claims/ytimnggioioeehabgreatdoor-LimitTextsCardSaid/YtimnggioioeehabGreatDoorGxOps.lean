/- What operations give at typed values: loads, stores, new objects, arrays in the making, strings. -/
import Derived.Test.YtimnggioioeehabGreatDoorGxRules
namespace Go.AE

section
variable {P : Program} {pol : Pol} {call : CallF} {f : FuncId} {ro : Bool} {rid i : Nat} {d : Bool} {o : Oper} {ev : Operand → AV}

theorem ld_con {hp : Heap} {t : TypeId} {c : Loc} {v off n : Nat} {ag : Bool} {cs : List AV} (y : AV) (ha : isAgg? P t = some ag) (hs : size? P t = some n) (hk : hp.con c v = .cells cs) (hr : readAs ag n cs off = some y) [Pl y] :
    loadAt P hp t (.ptr c v off) = some y := by
  simp [loadAt, ha, hs, hk, hr, from_pl]
theorem ld_cel {hp : Heap} {t : TypeId} {n : Nat} {ag : Bool} {cs : List AV} {y : AV} (ha : isAgg? P t = some ag) (hs : size? P t = some n) (hr : readAs ag n cs 0 = some y) : loadAt P hp t (.cptr cs) = some y := by
  simp [loadAt, ha, hs, hr]
theorem op_field {hp : Heap} {t : TypeId} {x : Operand} {fd : Nat} {y : AV} (hop : o.op = .field t x fd) (h : fieldOf P t (ev x) fd = some y) : opF P pol call f ro rid i d o ev hp = some (y, hp) := by
  simp [opF, hop, h]
theorem fd_st {t : TypeId} {cs : List AV} {k n : Nat} {fs : Array Field} {fd : Field} {ag : Bool} {y : AV} (hu : P.underlying t = some (.struct fs)) (hf : fs[k]? = some fd) (ha : isAgg? P fd.type = some ag) (hs : size? P fd.type = some n) (hr : readAs ag n cs fd.offset = some y) : fieldOf P t (.agg cs) k = some y := by
  simp [fieldOf, hu, hf, ha, hs, hr]
theorem op_load {hp : Heap} {t : TypeId} {a : Operand} {y : AV} (hop : o.op = .load t a) (h : loadAt P hp t (ev a) = some y) (hown : pol.own f rid i = false := by rfl) (hfz : pol.frz f rid i = false := by rfl) : opF P pol call f ro rid i d o ev hp = some (y, hp) := by
  simp [opF, hop, h, hown, hfz]
theorem op_loadO {hp : Heap} {t : TypeId} {a : Operand} {y : AV} (hop : o.op = .load t a) (ho : ownAddr (ev a) = true) (h : loadAt P hp t (ev a) = some y) (hfz : pol.frz f rid i = false := by rfl) : opF P pol call f ro rid i d o ev hp = some (y, hp) := by
  simp [opF, hop, h, ho, hfz]
/-- The cells of a value, written. -/
theorem st_fr {cur : Frame} {out : List Frame} {glob : List AObj} {t : TypeId} {s v off : Nat} {cs vs : List AV} {x : AV} (cs' : List AV) [hv : Vl x vs] [hc : Cs vs] (hs : size? P t = some vs.length) (hcur : cur s = ⟨v, .cells cs⟩) (hl : off + vs.length ≤ cs.length)
    (hw : writeAll cs off vs = cs') : storeAt P ro ⟨cur, out, glob⟩ t (.ptr (.fr 0 s) v off) x = some ⟨upd cur s ⟨v, .cells cs'⟩, out, glob⟩ := by
  have h1 : writeOver cs off vs.length vs = some cs' := by simp [writeOver, hl, hw]; exact fun a ha => by have := hc.one; rw [List.all_eq_true] at this; exact this a ha
  simp [storeAt, hs, Loc.here, con_fr hcur, hv.cells, intoAll_cs, h1, Heap.setObj]
theorem st_con {cur : Frame} {out : List Frame} {glob : List AObj} {t : TypeId} {c : Loc} {v off : Nat} {cs vs : List AV} {x : AV} (cs' : List AV) [hv : Vl x vs] [hc : Cs vs] (hs : size? P t = some vs.length) (hh : c.here = false) (hk : con2 out glob c v = .cells cs) (hl : off + vs.length ≤ cs.length)
    (hw : writeAll cs off vs = cs') : ∃ out' glob', storeAt P false ⟨cur, out, glob⟩ t (.ptr c v off) x = some ⟨cur, out', glob'⟩ ∧ con2 out' glob' c v = .cells cs' ∧ Same c out glob out' glob' := by
  have h1 : writeOver cs off vs.length vs = some cs' := by simp [writeOver, hl, hw]; exact fun a ha => by have := hc.one; rw [List.all_eq_true] at this; exact this a ha
  have h2 : (⟨cur, out, glob⟩ : Heap).con c v = .cells cs := (con_con2 _ _ _ _ _ hh).trans hk
  have h3 : storeAt P false ⟨cur, out, glob⟩ t (.ptr c v off) x = some (Heap.setObj ⟨cur, out, glob⟩ c ⟨v, .cells cs'⟩) := by
    simp [storeAt, hs, h2, hv.cells, intoAll_cs, h1]
  rw [h3]
  have hval : (⟨fun _ => ⟨0, .gone⟩, out, glob⟩ : Heap).valid c := con_valid (v := v) (k := .cells cs) hk (by simp)
  obtain ⟨out', glob', e⟩ : ∃ out' glob', ∀ cur : Frame, Heap.setObj ⟨cur, out, glob⟩ c ⟨v, .cells cs'⟩ = ⟨cur, out', glob'⟩ := by
    cases c with
    | fr l t => cases l with
      | zero => cases hh
      | succ l => exact ⟨out.modify l fun f => upd f t ⟨v, .cells cs'⟩, glob, fun _ => rfl⟩
    | gl i => exact ⟨out, glob.set i ⟨v, .cells cs'⟩, fun _ => rfl⟩
  have e0 := e fun _ => ⟨0, .gone⟩
  refine ⟨out', glob', by rw [e], ?_, ?_⟩
  · have := con_set (k := .cells cs') (v := v) hval
    rw [e0] at this
    exact this
  · refine ⟨?_, ?_, fun d hd hh' => ?_⟩
    · cases c with
      | fr l t => cases l with
        | zero => cases hh
        | succ l => simp only [Heap.setObj] at e0; cases e0; simp
      | gl i => simp only [Heap.setObj] at e0; cases e0; rfl
    · cases c with
      | fr l t => cases l with
        | zero => cases hh
        | succ l => simp only [Heap.setObj] at e0; cases e0; rfl
      | gl i => simp only [Heap.setObj] at e0; cases e0; simp
    · have := obj_setObj ⟨fun _ => ⟨0, .gone⟩, out, glob⟩ c ⟨v, .cells cs'⟩ hval d
      rw [e0, if_neg hd] at this
      exact this
theorem op_store {hp hp' : Heap} {t : TypeId} {a x : Operand} (hop : o.op = .store t a x) (hd : d = false) (h : storeAt P ro hp t (ev a) (ev x) = some hp') : opF P pol call f ro rid i d o ev hp = some (.tup [], hp') := by
  simp [opF, hop, hd, h]
theorem op_box {cur : Frame} {out : List Frame} {glob : List AObj} {t : TypeId} {x : Operand} {x' : AV} {vs : List AV} (hop : o.op = .box t x) (hd : d = false) (hg : pol.glob f rid i = false) (hx : ev x = x') [hv : Vl x' vs] [hc : Cs vs] (hfl : pol.fld f rid i = [] := by rfl) :
    opF P pol call f ro rid i d o ev ⟨cur, out, glob⟩ = some (.ptr (.fr 0 (slotOf o)) ((cur (slotOf o)).ver + 1) 0, ⟨upd cur (slotOf o) ⟨(cur (slotOf o)).ver + 1, .cells vs⟩, out, glob⟩) := by
  have e : ∀ (s : Nat) (a b : AObj), upd (upd cur s a) s b = upd cur s b := by intro s a b; funext u; simp [upd]; split <;> rfl
  have h1 := hc.one
  simp only [List.all_eq_true] at h1
  simp only [opF, hop, hd, hg, hx, hv.cells, Heap.alloc, intoAll_cs, Heap.setObj, e, hfl, hc.one, Bool.false_and, Bool.false_eq_true, if_false, Option.bind_some, if_true, fldsOf]
theorem op_alloc {cur : Frame} {out : List Frame} {glob : List AObj} {t : TypeId} (cs : List AV) (hop : o.op = .alloc t) (hd : d = false) (hg : pol.glob f rid i = false) (hz : zeroCells? P t = some cs) (hfl : pol.fld f rid i = [] := by rfl) :
    opF P pol call f ro rid i d o ev ⟨cur, out, glob⟩ = some (.ptr (.fr 0 (slotOf o)) ((cur (slotOf o)).ver + 1) 0, ⟨upd cur (slotOf o) ⟨(cur (slotOf o)).ver + 1, .cells cs⟩, out, glob⟩) := by
  simp [opF, hop, hd, hg, hz, Heap.alloc, hfl, fldsOf]
theorem op_makeMap {cur : Frame} {out : List Frame} {glob : List AObj} {t : TypeId} (hop : o.op = .makeMap t none) (hd : d = false) (hg : pol.glob f rid i = false) :
    opF P pol call f ro rid i d o ev ⟨cur, out, glob⟩ = some (.mp (.fr 0 (slotOf o)) ((cur (slotOf o)).ver + 1), ⟨upd cur (slotOf o) ⟨(cur (slotOf o)).ver + 1, .map []⟩, out, glob⟩) := by
  simp [opF, hop, hd, hg, Heap.alloc]
theorem op_insert {cur : Frame} {out : List Frame} {glob : List AObj} {t kt et : TypeId} {m k x : Operand} {s v : Nat} {es es' : List (AV × AV)} {a : AV} (hop : o.op = .insert t m k x) (hd : d = false) (hu : P.underlying t = some (.map kt et)) (hk : keyFits P kt (ev k) = true) (hm : ev m = .mp (.fr 0 s) v)
    (hcur : cur s = ⟨v, .map es⟩) (hx : ev x = a) (hp : mapPut (ev k) a es = some es') : opF P pol call f ro rid i d o ev ⟨cur, out, glob⟩ = some (.tup [], ⟨upd cur s ⟨v, .map es'⟩, out, glob⟩) := by
  have hk2 : (⟨cur, out, glob⟩ : Heap).con (.fr 0 s) v = .map es := con_fr hcur
  have hi : (Loc.fr 0 s).into a = some a := by
    have h : Loc.down 0 = some := by funext c; cases c <;> simp [Loc.down]
    simp only [Loc.into, h]
    exact trav_id a
  simp [opF, hop, hd, hu, hk, hm, Loc.here, hk2, hx, hi, hp, Heap.setObj]
theorem op_lookupB {cur : Frame} {out : List Frame} {glob : List AObj} {t kt et : TypeId} {m k : Operand} {s v : Nat} {b : Bool} {kd : IntKind} {n z : Int} (hop : o.op = .lookup t m k false) (hu : P.underlying t = some (.map kt et)) (hk : P.underlying kt = some .bool) (hm : ev m = .mp (.fr 0 s) v) (hb : ev k = .bool b)
    (hcur : cur s = ⟨v, .map [(.bool true, .int kd n)]⟩) (hz : zero? P et = some (.int kd z)) : opF P pol call f ro rid i d o ev ⟨cur, out, glob⟩ = some (.int kd (if b then n else z), ⟨cur, out, glob⟩) := by
  have hk2 : (⟨cur, out, glob⟩ : Heap).con (.fr 0 s) v = .map [(.bool true, .int kd n)] := con_fr hcur
  have hi : (Loc.fr 0 s).from (.int kd n) = some (.int kd n) := rfl
  cases b <;> simp [opF, hop, hu, hm, hb, hk2, hk, keyFits, mapFind, keyEq, hi, hz]
theorem op_slice0 {hp : Heap} {t : TypeId} {ps : Array (Nat × Operand)} (hop : o.op = .buildSlice t 0 ps) (hp0 : ps.isEmpty = true) {n : Nat} {xs : List (List AV)} (h : buildSliceOf P t 0 [] = some (n, xs)) :
    opF P pol call f ro rid i d o ev hp = some (.ez, hp) := by
  simp [opF, hop, hp0, h]
theorem op_sliceN {hp : Heap} {t : TypeId} {k : Nat} {ps : Array (Nat × Operand)} {n : Nat} {xs : List (List AV)} (hop : o.op = .buildSlice t (k + 1) ps) (hmu : pol.mu f rid i = false) (h : buildSliceOf P t (k + 1) (ps.toList.map fun p => (p.1, ev p.2)) = some (n, xs)) :
    opF P pol call f ro rid i d o ev hp = some (.sl false n xs, hp) := by
  simp only [opF, hop, hmu, Bool.and_false, h, Option.bind_some, newSlice]
  rfl
theorem op_muNil {cur : Frame} {out : List Frame} {glob : List AObj} {x : Operand} (hop : o.op = .assign x) (hmu : pol.mu f rid i = true) (hd : d = false) (hx : ev x = .sl true 0 []) :
    opF P pol call f ro rid i d o ev ⟨cur, out, glob⟩ = some (.rsl (.fr 0 (slotOf o)) ((cur (slotOf o)).ver + 1) 0 0, ⟨upd cur (slotOf o) ⟨(cur (slotOf o)).ver + 1, .arr true 0 []⟩, out, glob⟩) := by
  simp [opF, hop, hmu, hd, hx, Heap.alloc]

section arr
variable {α : Type} {n : Nat} {c : α → List AV}
theorem elems_sl (st : Heap) (l : List α) : elemsOf st ((Sl.full l).av n c) = some (l.map c) := rfl
theorem mapO_cs [hc : ∀ x, Cs (c x)] (g : List AV → Option (List AV)) (h : ∀ x, g (c x) = some (c x)) : ∀ l : List α, mapO g (l.map c) = some (l.map c)
  | [] => rfl
  | u :: l => by simp [mapO, h, mapO_cs g h l]
/-- Append to a slice without room: a new one. -/
theorem sl_app0 {st : Heap} {t e : TypeId} {xt : Option TypeId} {gl : Bool} {slot : Nat} {info : TypeInfo} {z : List AV} {a a' : Sl α} {xs : List α} {y : AV} [hc : ∀ x, Cs (c x)] (hu : P.underlying t = some (.slice e)) (hi : P.info? e = some info) (hz : zeroCells? P e = some z)
    (hn : info.size = n) (hzl : z.length = n) (h0 : n ≠ 0) (hcl : ∀ x, (c x).length = n) (hnoint : noInt P xt = true) (hy : elemsOf st y = some (xs.map c)) (hap : a.app0? info.bytes xs = some a') :
    appendOf P ro st false gl slot t xt (a.av n c) y = some (a'.av n c, st) := by
  have hall : (xs.map c).all (fun l => l.length == n && l.all AV.one) = true := by
    rw [List.all_eq_true]
    intro l hl
    obtain ⟨u, _, rfl⟩ := List.mem_map.1 hl
    simp only [hcl u, (hc u).one, beq_self_eq_true, Bool.and_true]
  have hz0 : ¬ (z.length ≠ n ∨ n = 0) := by omega
  unfold appendOf
  rw [if_neg (by simp [hnoint]), hu]
  simp only [hi, hz, Option.bind_some, hn, if_neg hz0, hy, hall, Bool.not_true, Bool.false_eq_true, if_false]
  unfold Sl.app0? at hap
  cases a with
  | full l => simp at hap
  | nil =>
    simp only [Sl.av]
    cases xs with
    | nil => simp at hap; subst hap; simp
    | cons x xs =>
      simp only [List.length_cons] at hap
      obtain ⟨hr, hap⟩ := ite_none hap
      simp only [Option.some.injEq] at hap
      subst hap
      simp [hr, newSlice]
  | ez =>
    simp only [Sl.av]
    cases xs with
    | nil => simp at hap; subst hap; simp
    | cons x xs =>
      simp only [List.length_cons] at hap
      obtain ⟨hr, hap⟩ := ite_none hap
      simp only [Option.some.injEq] at hap
      subst hap
      simp [hr, newSlice]
theorem elems_av (st : Heap) (s : Sl α) : elemsOf st (s.av n c) = some (s.list.map c) := by cases s <;> rfl
theorem sl_cut0 {t e : TypeId} {s r : Sl α} {lo hi : Option AV} {m : AV} (hu : P.underlying t = some (.slice e)) (hz : size? P e = some n) (hl : optInt 0 lo = some 0) (hh : optInt 1 hi = some 0) (hm : aInt m = some 0) (h : s.cut0? = some r) : sliceOf P t (s.av n c) lo hi (some m) = some (r.av n c) := by
  cases s with
  | nil => simp [Sl.cut0?] at h; subst h; simp [sliceOf, hu, hz, Sl.av, hl, hh, hm]
  | ez => simp [Sl.cut0?] at h
  | full l => simp [Sl.cut0?] at h; subst h; simp [sliceOf, hu, hz, Sl.av, hl, hh, hm]
theorem op_append {hp hp' : Heap} {cl : Call} {x y : Operand} {t : TypeId} {r : AV} (hop : o.op = .call cl) (hb : cl.callee = .builtin .append) (ha : cl.args = #[x, y]) (ht : cl.argTypes[0]? = some t) (hd : d = false)
    (h : appendOf P ro hp (pol.mu f rid i) (pol.glob f rid i && !ro) (slotAt pol f rid i o) t cl.argTypes[1]? (ev x) (ev y) = some (r, hp')) : opF P pol call f ro rid i d o ev hp = some (r, hp') := by
  simp [opF, hop, whoOf, hb, bltOf, ha, ht, hd, h]
theorem ix_sl {hp : Heap} {t e : TypeId} {s : Sl α} {k : IntKind} {i : Int} {x : α} (hu : P.underlying t = some (.slice e)) (hz : size? P e = some n) (h : s.get? i = some x) : indexAddr P hp t (s.av n c) (.int k i) = some (.cptr (c x)) := by
  unfold Sl.get? at h
  obtain ⟨h0, h⟩ := ite_none h
  cases s with
  | nil => simp [Sl.list] at h
  | ez => simp [Sl.list] at h
  | full l =>
    simp only [Sl.list] at h
    simp [indexAddr, aInt, hu, hz, h0, Sl.av, h]
theorem ix_at {hp : Heap} {t e : TypeId} {s : Sl α} {k : IntKind} {i : Nat} (hu : P.underlying t = some (.slice e)) (hz : size? P e = some n) (h : i < s.list.length) : indexAddr P hp t (s.av n c) (.int k i) = some (.cptr (c s.list[i])) :=
  ix_sl hu hz (by simp [Sl.get?, h])
theorem op_ix {hp : Heap} {t : TypeId} {x ix : Operand} {y : AV} (hop : o.op = .indexAddr t x ix) (h : indexAddr P hp t (ev x) (ev ix) = some y) : opF P pol call f ro rid i d o ev hp = some (y, hp) := by
  simp [opF, hop, h]
/-- The address of an element of an array in the making. -/
theorem ix_arr {cur : Frame} {out : List Frame} {glob : List AObj} {t e : TypeId} {a : Ar α} {k : IntKind} {i : Int} {x : α} {s v : Nat} (hu : P.underlying t = some (.slice e)) (hz : size? P e = some n) (hcur : cur s = ⟨v, a.con n c⟩) (h : a.get? i = some x) :
    indexAddr P ⟨cur, out, glob⟩ t (.rsl (.fr 0 s) v 0 a.list.length) (.int k i) = some (.eptr (.fr 0 s) v i.toNat 0) := by
  unfold Ar.get? at h
  obtain ⟨h0, h⟩ := ite_none h
  have hg : (⟨cur, out, glob⟩ : Heap).con (Loc.fr 0 s) v = a.con n c := con_fr hcur
  have hlt : i.toNat < a.list.length := (List.getElem?_eq_some_iff.1 h).1
  cases a with
  | nil => simp [Ar.list] at h
  | full l =>
    simp only [Ar.con, Ar.list] at hg h hlt ⊢
    simp only [indexAddr, aInt, hu, hz, Option.bind_some, hg]
    rw [if_pos (by simp; omega)]
    simp
theorem ld_arr {cur : Frame} {out : List Frame} {glob : List AObj} {t : TypeId} {a : Ar α} {i : Int} {x : α} {s v j m : Nat} {ag : Bool} (y : AV) (ha : isAgg? P t = some ag) (hs : size? P t = some m) (hcur : cur s = ⟨v, a.con n c⟩) (h : a.get? i = some x) (hr : readAs ag m (c x) j = some y) [Pl y] :
    loadAt P ⟨cur, out, glob⟩ t (.eptr (.fr 0 s) v i.toNat j) = some y := by
  unfold Ar.get? at h
  obtain ⟨h0, h⟩ := ite_none h
  have hg : (⟨cur, out, glob⟩ : Heap).con (Loc.fr 0 s) v = a.con n c := con_fr hcur
  cases a with
  | nil => simp [Ar.list] at h
  | full l =>
    simp only [Ar.con, Ar.list] at hg h
    simp [loadAt, ha, hs, hg, h, hr, from_pl]
theorem st_arr {cur : Frame} {out : List Frame} {glob : List AObj} {t : TypeId} {a a' : Ar α} {i : Int} {x x' : α} {s v j : Nat} {vs : List AV} {y : AV} [hv : Vl y vs] [hcv : Cs vs] (hs : size? P t = some vs.length) (hcur : cur s = ⟨v, a.con n c⟩) (h : a.get? i = some x) (hl : j + vs.length ≤ (c x).length)
    (hw : writeAll (c x) j vs = c x') (hset : a.set? i x' = some a') (hbt : (Loc.fr 0 s).bt = none := by rfl) : storeAt P ro ⟨cur, out, glob⟩ t (.eptr (.fr 0 s) v i.toNat j) y = some ⟨upd cur s ⟨v, a'.con n c⟩, out, glob⟩ := by
  unfold Ar.get? at h
  unfold Ar.set? at hset
  obtain ⟨h0, h⟩ := ite_none h
  obtain ⟨⟨_, h1⟩, hset⟩ := ite_none hset
  simp only [Option.some.injEq] at hset
  subst hset
  have hg : (⟨cur, out, glob⟩ : Heap).con (Loc.fr 0 s) v = a.con n c := con_fr hcur
  have h2 : writeOver (c x) j vs.length vs = some (c x') := by simp [writeOver, hl, hw]; exact fun a ha => by have := hcv.one; rw [List.all_eq_true] at this; exact this a ha
  cases a with
  | nil => simp [Ar.list] at h
  | full l =>
    simp only [Ar.con, Ar.list] at hg h
    simp [storeAt, hs, Loc.here, hg, hbt, h, hv.cells, intoAll_cs, h2, Heap.setObj, Ar.con, Ar.list, List.map_set]
theorem elems_arr {cur : Frame} {out : List Frame} {glob : List AObj} [hc : ∀ x, Cs (c x)] {a : Ar α} {s v : Nat} (hcur : cur s = ⟨v, a.con n c⟩) : elemsOf ⟨cur, out, glob⟩ (.rsl (.fr 0 s) v 0 a.list.length) = some (a.list.map c) := by
  have hg : (⟨cur, out, glob⟩ : Heap).con (Loc.fr 0 s) v = a.con n c := con_fr hcur
  have hm : ∀ l : List α, mapO (mapO (Loc.fr 0 s).from) (l.map c) = some (l.map c) := mapO_cs _ (fun x => (mapO_trav _ _).trans ((hc x).tr _))
  cases a with
  | nil => simp only [Ar.con] at hg; simp [elemsOf, hg, Ar.list, mapO]
  | full l => simp only [Ar.con] at hg; simp [elemsOf, hg, Ar.list, List.take_of_length_le, hm]
/-- The content of an array at its frame's end. -/
theorem ret_arr {cur : Frame} [hc : ∀ x, Cs (c x)] {a : Ar α} {s v m : Nat} (hcur : cur s = ⟨v, a.con n c⟩) : retV cur (m + 1) (.rsl (.fr 0 s) v 0 a.list.length) = some (a.sl.av n c) := by
  have hm : ∀ l : List α, mapO (mapO (retV cur m)) (l.map c) = some (l.map c) := mapO_cs _ (fun x => by
    cases m with
    | zero => exact (mapO_trav _ _).trans ((hc x).tr _)
    | succ m => exact (mapO_trav _ _).trans ((hc x).tr _))
  cases a with
  | nil => simp only [Ar.con] at hcur; simp [retV, AV.trav, retLeaf, hcur, Ar.list, Ar.sl, Sl.av, mapO]
  | full l => simp only [Ar.con] at hcur; simp [retV, AV.trav, retLeaf, hcur, Ar.list, Ar.sl, Sl.av, List.take_of_length_le, hm]
/-- An array of ints of one cell each. -/
instance (l : List Int) : Cs (List.map iA l) := ⟨fun h => by induction l with
  | nil => rfl
  | cons x l ih => simp [AV.travL, AV.trav, ih], by induction l with
  | nil => rfl
  | cons x l ih => simp only [List.map_cons, List.all_cons, ih, Bool.and_true]; rfl⟩
def inr? (n : Nat) (i : Int) : Option Nat := if 0 ≤ i ∧ i < n then some i.toNat else none
def ary? {β : Type} (l : List β) (j : Nat) (x : β) : Option (List β) := if j < l.length then some (l.set j x) else none
theorem ix_ary {hp : Heap} {t e : TypeId} {n j v : Nat} {cc : Loc} {i : Int} {x : AV} {ix : AV} (hx : x = .ptr cc v 0) (hix : ix = iA i) (hu : P.underlying t = some (.array n e)) (hs : size? P e = some 1) (h : inr? n i = some j) : indexAddr P hp t x ix = some (.ptr cc v j) := by
  subst hx hix
  unfold inr? at h
  obtain ⟨h1, h⟩ := ite_none h
  simp only [Option.some.injEq] at h
  subst h
  simp [indexAddr, aInt, hu, hs, h1]
theorem ld_ary {hp : Heap} {t : TypeId} {cc : Loc} {v j : Nat} {l : List Int} {x : Int} {a : AV} (ha : a = .ptr cc v j) (hg : isAgg? P t = some false) (hs : size? P t = some 1) (hk : hp.con cc v = .cells (List.map iA l)) (h : l[j]? = some x) : loadAt P hp t a = some (iA x) := by
  subst ha
  have hf : cc.from (iA x) = some (iA x) := by cases cc <;> rfl
  simp [loadAt, hg, hs, hk, readAs, h, hf]
theorem st_ary {cur : Frame} {out : List Frame} {glob : List AObj} {t : TypeId} {s v j : Nat} {l l' : List Int} {x : Int} {a y : AV} (ha : a = .ptr (.fr 0 s) v j) (hy : y = iA x) (hs : size? P t = some 1) (hcur : cur s = ⟨v, .cells (List.map iA l)⟩) (h : ary? l j x = some l') : storeAt P ro ⟨cur, out, glob⟩ t a y = some ⟨upd cur s ⟨v, .cells (List.map iA l')⟩, out, glob⟩ := by
  subst ha hy
  unfold ary? at h
  obtain ⟨h1, h⟩ := ite_none h
  simp only [Option.some.injEq] at h
  subst h
  refine st_fr (vs := [iA x]) (cs := List.map iA l) (List.map iA (l.set j x)) hs hcur (by simp; omega) ?_
  simp [writeAll, List.map_set]
/-- A move of a content, at a place where others freeze. -/
theorem op_movS {hp : Heap} {x : Operand} {l : Sl α} (hop : o.op = .move x) (hd : d = false) (hx : ev x = l.av n c) : opF P pol call f ro rid i d o ev hp = some (l.av n c, hp) := by
  cases l <;> simp [opF, hop, hd, hx, Sl.av]
/-- A move that freezes. -/
theorem op_frz {cur : Frame} {out : List Frame} {glob : List AObj} [hc : ∀ x, Cs (c x)] {x : Operand} {a : Ar α} {s v len : Nat} (hop : o.op = .move x) (hf : pol.frz f rid i = true) (hd : d = false) (hx : ev x = .rsl (.fr 0 s) v 0 len) (hlen : len = a.list.length) (hcur : cur s = ⟨v, a.con n c⟩) :
    opF P pol call f ro rid i d o ev ⟨cur, out, glob⟩ = some (a.sl.av n c, ⟨upd cur s ⟨v, a.fcon n c⟩, out, glob⟩) := by
  subst hlen
  have he := elems_arr (out := out) (glob := glob) hcur
  have hg : (⟨cur, out, glob⟩ : Heap).con (Loc.fr 0 s) v = a.con n c := con_fr hcur
  cases a with
  | nil => simp only [Ar.con] at hg; simp [Ar.list] at he; simp [opF, hop, hf, hd, hx, Loc.here, he, hg, Ar.list, Ar.sl, Sl.av, Ar.fcon, Heap.setObj]
  | full l => simp only [Ar.con] at hg; simp [Ar.list] at he; simp [opF, hop, hf, hd, hx, Loc.here, he, hg, Ar.list, Ar.sl, Sl.av, Ar.fcon, Heap.setObj]
/-- Frozen before. -/
theorem op_frz2 {cur : Frame} {out : List Frame} {glob : List AObj} [hc : ∀ x, Cs (c x)] {x : Operand} {a : Ar α} {s v len : Nat} (hop : o.op = .move x) (hf : pol.frz f rid i = true) (hd : d = false) (hx : ev x = .rsl (.fr 0 s) v 0 len) (hlen : len = a.list.length) (hcur : cur s = ⟨v, a.fcon n c⟩) :
    opF P pol call f ro rid i d o ev ⟨cur, out, glob⟩ = some (a.sl.av n c, ⟨upd cur s ⟨v, a.fcon n c⟩, out, glob⟩) := by
  subst hlen
  have hg : (⟨cur, out, glob⟩ : Heap).con (Loc.fr 0 s) v = a.fcon n c := con_fr hcur
  have hm : ∀ l : List α, mapO (mapO (Loc.fr 0 s).from) (l.map c) = some (l.map c) := mapO_cs _ (fun x => (mapO_trav _ _).trans ((hc x).tr _))
  cases a with
  | nil => simp only [Ar.fcon] at hg; simp [opF, hop, hf, hd, hx, Loc.here, hg, elemsOf, mapO, Ar.list, Ar.sl, Sl.av, Ar.fcon, Heap.setObj]
  | full l => simp only [Ar.fcon] at hg; simp [opF, hop, hf, hd, hx, Loc.here, hg, elemsOf, hm, Ar.list, Ar.sl, Sl.av, Ar.fcon, Heap.setObj, List.take_of_length_le]
end arr
theorem len_sl {α : Type} {n : Nat} {c : α → List AV} (s : Sl α) : lenOf (s.av n c) = some s.list.length := by cases s <;> simp [Sl.av, lenOf, Sl.list]
theorem op_len {hp : Heap} {cl : Call} {x : Operand} {t e : TypeId} {k : Nat} (hop : o.op = .call cl) (hb : cl.callee = .builtin .len) (ha : cl.args = #[x]) (ht : cl.argTypes[0]? = some t) (hu : P.underlying t = some (.slice e)) (hx : lenOf (ev x) = some k) :
    opF P pol call f ro rid i d o ev hp = some (.int .i64 k, hp) := by
  simp [opF, hop, whoOf, hb, bltOf, ha, ht, hu, lenAll, hx]
theorem ret_tup2 {cur : Frame} {a b a' b' : AV} (h1 : retV cur 3 a = some a') (h2 : retV cur 3 b = some b') : retV cur 3 (.tup [a, b]) = some (.tup [a', b']) := by
  simp only [retV] at h1 h2 ⊢; simp [AV.trav, AV.travL, h1, h2]
theorem ret_tup3 {cur : Frame} {a b c a' b' c' : AV} (h1 : retV cur 3 a = some a') (h2 : retV cur 3 b = some b') (h3 : retV cur 3 c = some c') : retV cur 3 (.tup [a, b, c]) = some (.tup [a', b', c']) := by
  simp only [retV] at h1 h2 h3 ⊢; simp [AV.trav, AV.travL, h1, h2, h3]
theorem ret_tup4 {cur : Frame} {a b c d a' b' c' d' : AV} (h1 : retV cur 3 a = some a') (h2 : retV cur 3 b = some b') (h3 : retV cur 3 c = some c') (h4 : retV cur 3 d = some d') : retV cur 3 (.tup [a, b, c, d]) = some (.tup [a', b', c', d']) := by
  simp only [retV] at h1 h2 h3 h4 ⊢; simp [AV.trav, AV.travL, h1, h2, h3, h4]

-- scalars
theorem op_index {hp : Heap} {t : TypeId} {x ix : Operand} {y : AV} (hop : o.op = .index t x ix) (h : indexOf P t (ev x) (ev ix) = some y) : opF P pol call f ro rid i d o ev hp = some (y, hp) := by
  simp [opF, hop, h]
theorem op_slice {hp : Heap} {t : TypeId} {x : Operand} {lo hi mx : Option Operand} {y : AV} (hop : o.op = .slice t x lo hi mx) (h : sliceOf P t (ev x) (lo.map ev) (hi.map ev) (mx.map ev) = some y) : opF P pol call f ro rid i d o ev hp = some (y, hp) := by
  simp [opF, hop, h]
theorem op_conv {hp : Heap} {s t : TypeId} {x : Operand} {y : AV} (hop : o.op = .convert s t x) (h : convOf P s t (ev x) = some y) : opF P pol call f ro rid i d o ev hp = some (y, hp) := by
  simp [opF, hop, h]
theorem conv_utf8 {s t : TypeId} {u : TypeDesc} {k : IntKind} {n : Int} (hs : P.underlying s = some u) (ht : P.underlying t = some .string) : convOf P s t (.int k n) = some (.str (B (utf8 n))) := by
  simp [convOf, hs, ht, utf8, B]
/-- Bytes as numbers. -/
def nums (s : Str) : List Int := s.map fun x => (x.toNat : Int)
/-- The bytes of a string, as a slice. -/
@[irreducible] def bsl (s : Str) : Sl Int := .full (nums s)
theorem bsl_eq (s : Str) : bsl s = .full (nums s) := by unfold bsl; rfl
theorem conv_bytes {s t e : TypeId} {a : Str} (hs : P.underlying s = some .string) (ht : P.underlying t = some (.slice e)) (he : P.underlying e = some (.int .u8)) : convOf P s t (sA a) = some ((bsl a).av 1 c_u8) := by
  rw [bsl_eq]
  simp [convOf, hs, ht, he, sA, B, Sl.av, nums, c_u8, Function.comp_def]
def byteI (n : Int) : Option UInt8 := if 0 ≤ n ∧ n < 256 then some n.toNat.toUInt8 else none
def bytes? (l : List Int) : Option Str := mapO byteI l
theorem bytes_rows : ∀ (l : List Int) {r : Str}, bytes? l = some r → mapO byteOf (l.map c_u8) = some r
  | [], r, h => h
  | n :: l, r, h => by
    simp only [bytes?, mapO, Option.bind_eq_some_iff, Option.map_eq_some_iff] at h
    obtain ⟨x, hx, y, hy, rfl⟩ := h
    have := bytes_rows l (r := y) hy
    simp only [List.map_cons, mapO, c_u8, byteOf]
    simp only [byteI] at hx
    rw [hx, Option.bind_some, this]
    rfl
theorem conv_string {s t e : TypeId} {x : Sl Int} {r : Str} (hs : P.underlying s = some (.slice e)) (ht : P.underlying t = some .string) (he : P.underlying e = some (.int .u8)) (h : bytes? x.list = some r) : convOf P s t (x.av 1 c_u8) = some (sA r) := by
  have h1 := bytes_rows _ h
  cases x with
  | nil => simp only [Sl.list, List.map_nil, mapO, Option.some.injEq] at h1; subst h1; simp [convOf, hs, ht, he, sA, B, Sl.av, mapO]
  | ez => simp only [Sl.list, List.map_nil, mapO, Option.some.injEq] at h1; subst h1; simp [convOf, hs, ht, he, sA, B, Sl.av]
  | full l => simp only [Sl.list] at h1; simp [convOf, hs, ht, he, sA, B, Sl.av, h1]
theorem op_build {hp : Heap} {t : TypeId} {ps : Array (Nat × Operand)} {y : AV} (hop : o.op = .build t ps) (h : buildOf P t (ps.toList.map fun p => (p.1, ev p.2)) = some y) : opF P pol call f ro rid i d o ev hp = some (y, hp) := by
  simp only [opF, hop, h, Option.map_some]
theorem build_st {t : TypeId} {parts : List (Nat × AV)} {fs : Array Field} {z cs : List AV} {pl : List (Nat × Nat)} (hu : P.underlying t = some (.struct fs)) (hz : zeroCells? P t = some z) (hp : placesOf P fs.toList = some pl) (h : fillA (fun i => pl[i]?) z parts = some cs) : buildOf P t parts = some (.agg cs) := by
  simp [buildOf, hu, hz, hp, h]
theorem build_eq {t : TypeId} {parts : List (Nat × AV)} {fs : Array Field} {z cs cs0 : List AV} {pl : List (Nat × Nat)} (hu : P.underlying t = some (.struct fs)) (hz : zeroCells? P t = some z) (hp : placesOf P fs.toList = some pl) (h : fillA (fun i => pl[i]?) z parts = some cs0) (he : cs = cs0) : buildOf P t parts = some (.agg cs) := by
  subst he; simp [buildOf, hu, hz, hp, h]
theorem fill_nil {place : Nat → Option (Nat × Nat)} {cs : List AV} : fillA place cs [] = some cs := rfl
theorem fill_cons {place : Nat → Option (Nat × Nat)} {cs cs' vs : List AV} {i off n : Nat} {x : AV} {r : List (Nat × AV)} [hv : Vl x vs] (hp : place i = some (off, n)) (hl : vs.length = n) (hle : off + n ≤ cs.length) (h : fillA place (writeAll cs off vs) r = some cs') : fillA place cs ((i, x) :: r) = some cs' := by
  simp only [fillA, hp, Option.bind_some, hv.cells]
  rw [if_pos ⟨hl, hle⟩]; exact h
theorem slice_of {t e : TypeId} {len n : Nat} {z : List AV} {parts : List (Nat × AV)} {xs : List (List AV)} (hu : P.underlying t = some (.slice e)) (hs : size? P e = some n) (hz : zeroCells? P e = some z) (hc : ¬ (len * n > 2 ^ 24 ∨ n = 0 ∨ z.length ≠ n)) (h : fillS n (List.replicate len z) parts = some xs) : buildSliceOf P t len parts = some (n, xs) := by
  simp only [buildSliceOf, hu, hs, hz, Option.bind_some]
  rw [if_neg hc, h]; rfl
theorem fillS_nil {n : Nat} {xs : List (List AV)} : fillS n xs [] = some xs := rfl
theorem fillS_cons {n i : Nat} {xs xs' : List (List AV)} {vs : List AV} {x : AV} {r : List (Nat × AV)} [hv : Vl x vs] (hl : vs.length = n) (hle : i < xs.length) (h : fillS n (xs.set i vs) r = some xs') : fillS n xs ((i, x) :: r) = some xs' := by
  simp only [fillS, hv.cells, Option.bind_some]
  rw [if_pos ⟨hl, hle⟩]; exact h
theorem op_bin {hp : Heap} {op : BinOp} {t t2 : TypeId} {x y : Operand} {r : AV} (hop : o.op = .binOp op t x y t2) (h : binOf P op t (ev x) (ev y) (isConst x) (isConst y) = some r) : opF P pol call f ro rid i d o ev hp = some (r, hp) := by
  simp [opF, hop, h]
theorem bin_quo {t : TypeId} {k : IntKind} {a b r : Int} {xc yc : Bool} (h : ckquo k a b = some r) : binOf P .quo t (.int k a) (.int k b) xc yc = some (.int k r) := by
  unfold ckquo at h
  split at h
  · cases h
  · rename_i hb; simp only [Option.some.injEq] at h; subst h; simp [binOf, binScal, hb]
theorem bin_rem {t : TypeId} {k : IntKind} {a b r : Int} {xc yc : Bool} (h : ckrem k a b = some r) : binOf P .rem t (.int k a) (.int k b) xc yc = some (.int k r) := by
  unfold ckrem at h
  split at h
  · cases h
  · rename_i hb; simp only [Option.some.injEq] at h; subst h; simp [binOf, binScal, hb]
end

section
variable {P : Program} {α : Type} {n : Nat} {c : α → List AV}
theorem isNil_sl (e : TypeId) (s : Sl α) : isNil (.slice e) (s.av n c) = some s.isNil := by cases s <;> rfl
theorem bin_nil1 {t e : TypeId} {s : Sl α} {xc : Bool} (hu : P.underlying t = some (.slice e)) : binOf P .eql t (s.av n c) (.sl true 0 []) xc true = some (.bool s.isNil) := by
  cases s <;> simp [binOf, hu, Sl.av, isNil, Sl.isNil, negIf]
theorem bin_nil1n {t e : TypeId} {s : Sl α} {xc : Bool} (hu : P.underlying t = some (.slice e)) : binOf P .neq t (s.av n c) (.sl true 0 []) xc true = some (.bool !s.isNil) := by
  cases s <;> simp [binOf, hu, Sl.av, isNil, Sl.isNil, negIf]
theorem bin_nil2 {t e : TypeId} {s : Sl α} {yc : Bool} (hu : P.underlying t = some (.slice e)) : binOf P .eql t (.sl true 0 []) (s.av n c) true yc = some (.bool s.isNil) := by
  cases s <;> simp [binOf, hu, Sl.av, isNil, Sl.isNil, negIf]
theorem bin_nil2n {t e : TypeId} {s : Sl α} {yc : Bool} (hu : P.underlying t = some (.slice e)) : binOf P .neq t (.sl true 0 []) (s.av n c) true yc = some (.bool !s.isNil) := by
  cases s <;> simp [binOf, hu, Sl.av, isNil, Sl.isNil, negIf]
end
section str
variable {P : Program}
theorem B_app (a b : Str) : B a ++ B b = B (a ++ b) := by
  apply ByteArray.ext
  apply Array.ext'
  simp [B]
theorem B_size (a : Str) : (B a).size = a.length := rfl
theorem B_get (a : Str) (i : Nat) : (B a)[i]? = a[i]? := by
  by_cases h : i < a.length
  · have h' : i < (B a).size := h
    rw [getElem?_pos (B a) i h', getElem?_pos a i h]; rfl
  · have h' : ¬ i < (B a).size := h
    rw [getElem?_neg (B a) i h', getElem?_neg a i h]
theorem B_list (a : Str) : (B a).toList = a := by
  have : (B a).toList = (B a).data.toList := ByteArray.toList_eq _
  exact this
theorem B_sub (a : Str) (l h : Nat) : (B a).extract l h = B ((a.drop l).take (h - l)) := by
  apply ByteArray.ext
  apply Array.ext'
  simp [B, List.extract]
theorem bin_sadd {t : TypeId} {a b r : Str} {xc yc : Bool} (h : sadd a b = some r) : binOf P .add t (.str (B a)) (.str (B b)) xc yc = some (.str (B r)) := by
  unfold sadd at h
  split at h
  · cases h
  · rename_i hb; simp only [Option.some.injEq] at h; subst h
    simp only [binOf, binScal, B_size, if_neg hb, B_app]
theorem bin_seq {t : TypeId} {a b : Str} {xc yc : Bool} : binOf P .eql t (.str (B a)) (.str (B b)) xc yc = some (.bool (a == b)) := by simp [binOf, binScal, B_list]
theorem bin_sne {t : TypeId} {a b : Str} {xc yc : Bool} : binOf P .neq t (.str (B a)) (.str (B b)) xc yc = some (.bool (a != b)) := by simp [binOf, binScal, B_list, bne]
def slt (a b : Str) : Bool := Op.bytesLess a b
def sle (a b : Str) : Bool := Op.bytesLess a b || a == b
theorem bin_slt {t : TypeId} {a b : Str} {xc yc : Bool} : binOf P .lss t (.str (B a)) (.str (B b)) xc yc = some (.bool (slt a b)) := by simp [binOf, binScal, B_list, slt]
theorem bin_sle {t : TypeId} {a b : Str} {xc yc : Bool} : binOf P .leq t (.str (B a)) (.str (B b)) xc yc = some (.bool (sle a b)) := by simp [binOf, binScal, B_list, sle]
theorem bin_sgt {t : TypeId} {a b : Str} {xc yc : Bool} : binOf P .gtr t (.str (B a)) (.str (B b)) xc yc = some (.bool (!sle a b)) := by simp [binOf, binScal, B_list, sle]
theorem bin_sge {t : TypeId} {a b : Str} {xc yc : Bool} : binOf P .geq t (.str (B a)) (.str (B b)) xc yc = some (.bool (!slt a b)) := by simp [binOf, binScal, B_list, slt]
theorem ix_str {t : TypeId} {s : Str} {k : IntKind} {i r : Int} (hu : P.underlying t = some .string) (h : sget s i = some r) : indexOf P t (.str (B s)) (.int k i) = some (.int .u8 r) := by
  unfold sget at h
  obtain ⟨h0, h⟩ := ite_none h
  simp only [Option.map_eq_some_iff] at h
  obtain ⟨b, hb, rfl⟩ := h
  simp [indexOf, aInt, hu, h0, B_get, hb]
theorem sl_str {t : TypeId} {s r : Str} {lo hi : Option AV} {a b : Int} (hu : P.underlying t = some .string) (hl : optInt 0 lo = some a) (hh : optInt s.length hi = some b) (h : ssub s a b = some r) : sliceOf P t (.str (B s)) lo hi none = some (.str (B r)) := by
  unfold ssub at h
  obtain ⟨h0, h⟩ := ite_none h
  simp only [Option.some.injEq] at h
  subst h
  simp only [sliceOf, hu, hl, B_size, hh, Option.bind_some, if_pos h0, B_sub]
  congr 4
  omega
theorem sl_sl {α : Type} {c : α → List AV} {n : Nat} {t e : TypeId} {s r : Sl α} {lo hi : Option AV} {a b : Int} (hu : P.underlying t = some (.slice e)) (hz : size? P e = some n) (hl : optInt 0 lo = some a) (hh : optInt s.list.length hi = some b) (h : s.sub? a b = some r) : sliceOf P t (s.av n c) lo hi none = some (r.av n c) := by
  cases s with
  | nil => simp [Sl.sub?] at h
  | ez => simp [Sl.sub?] at h
  | full xs =>
    simp only [Sl.sub?] at h
    obtain ⟨h0, h⟩ := ite_none h
    simp only [Option.some.injEq] at h
    subst h
    simp only [Sl.list] at hh
    simp only [sliceOf, hu, hz, Sl.av, hl, hh, Option.bind_some, List.length_map, true_and]
    rw [if_pos h0, List.map_take, List.map_drop]
end str
theorem WO_stP {P : Program} {pol : Pol} {f : FuncId} {ro : Bool} {rid i : Nat} {draw : Bool} {ops : Array Oper} {l : List Nat} {tm : Nat → AV} {K : St → Prop} {cur : Frame} {out : List Frame} {glob : List AObj} {t : TypeId} {a x : Operand} {c : Loc} {v off : Nat} {X : AV} {cs cs' vs : List AV} [hv : Vl X vs] [hc : Cs vs] (o : Oper)
    (ho : ops[i]? = some o) (hw : wanted ops o tm = some true) (hop : o.op = .store t a x) (hro : ro = false) (hd : drawn pol f rid ops draw i = false) (ha : St.ev tm a = .ptr c v off) (hx : St.ev tm x = X) (hs : size? P t = some vs.length) (hh : c.here = false) (hk : con2 out glob c v = .cells cs)
    (hl : off + vs.length ≤ cs.length) (hwr : writeAll cs off vs = cs') (h : ∀ out' glob', con2 out' glob' c v = .cells cs' → Same c out glob out' glob' → WO P pol f ro ops rid draw l ⟨putT tm o.dst (.tup []), ⟨cur, out', glob'⟩⟩ K) : WO P pol f ro ops rid draw (i :: l) ⟨tm, ⟨cur, out, glob⟩⟩ K := by
  obtain ⟨out', glob', h1, h2, h3⟩ := st_con (P := P) (cur := cur) (x := X) cs' hs hh hk hl hwr
  refine WO_do o ho hw (op_store hop hd (hp' := ⟨cur, out', glob'⟩) ?_) (h _ _ h2 h3)
  rw [ha, hx, hro]; exact h1
end Go.AE
