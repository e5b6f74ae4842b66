/- Objects that are made, and objects that are written. -/
import Derived.Test.YtimnggioioeehabGreatDoorAeBin
import Derived.Lib.FrozenHead
namespace Go.AE
open Go.RowKit (Below)

variable {P : Program} {κ : Ctx} {im : Imm} {ob : Obm} {h : Heap} {w : World}

def obUpd (ob : Obm) (c : Loc) (v : Nat) (x : Base) : Obm := fun c' v' => if c' = c ∧ v' = v then some x else ob c' v'
theorem obUpd_same (ob : Obm) (c : Loc) (v : Nat) (x : Base) : obUpd ob c v x c v = some x := by simp [obUpd]
theorem obUpd_le {ob : Obm} {c : Loc} {v : Nat} (x : Base) (hn : ob c v = none) : ObLe ob (obUpd ob c v x) := fun c' v' y hy => by
  unfold obUpd
  split
  · rename_i e; obtain ⟨rfl, rfl⟩ := e; rw [hn] at hy; cases hy
  · exact hy

theorem obj_alloc (h : Heap) (g : Bool) (t : Nat) (k : Con) (c' : Loc) : (h.alloc g t k).2.2.obj c' = if c' = (h.alloc g t k).1 then ⟨(h.alloc g t k).2.1, k⟩ else h.obj c' := by
  cases g with
  | false =>
    simp only [Heap.alloc, Bool.false_eq_true, if_false]
    match c' with
    | .fr 0 t' => simp [Heap.obj, upd_apply]
    | .fr (l + 1) t' => simp [Heap.obj]
    | .gl i => simp [Heap.obj]
  | true =>
    simp only [Heap.alloc, if_true]
    match c' with
    | .fr 0 t' => simp [Heap.obj]
    | .fr (l + 1) t' => simp [Heap.obj]
    | .gl i =>
      simp only [Heap.obj, Loc.gl.injEq]
      by_cases e : i = h.glob.length
      · subst e; simp
      · rw [if_neg e]
        rcases Nat.lt_or_ge i h.glob.length with hlt | hge
        · rw [List.getElem?_append_left hlt]
        · rw [List.getElem?_eq_none (by simp; omega), List.getElem?_eq_none hge]
theorem alloc_fst (h : Heap) (g : Bool) (t : Nat) (k k' : Con) : (h.alloc g t k).1 = (h.alloc g t k').1 ∧ (h.alloc g t k).2.1 = (h.alloc g t k').2.1 := by
  cases g <;> simp [Heap.alloc]
theorem alloc_set (h : Heap) (g : Bool) (t : Nat) (k k' : Con) : (h.alloc g t k).2.2.setObj (h.alloc g t k).1 ⟨(h.alloc g t k).2.1, k'⟩ = (h.alloc g t k').2.2 := by
  cases g with
  | false =>
    simp only [Heap.alloc, Bool.false_eq_true, if_false, Heap.setObj]
    congr 1
    funext s
    simp only [upd_apply]
    split <;> rfl
  | true => simp [Heap.alloc, Heap.setObj]
theorem out_alloc (h : Heap) (g : Bool) (t : Nat) (k : Con) : (h.alloc g t k).2.2.out = h.out := by
  cases g <;> simp [Heap.alloc]
theorem alloc_here (h : Heap) (t : Nat) (k : Con) : (h.alloc false t k).1.here = true := by simp [Heap.alloc, Loc.here]

theorem Inv.fresh_alloc (H : Inv κ im ob h w) (g : Bool) (t : Nat) (k : Con) : ∀ v, (h.alloc g t k).2.1 ≤ v → ob (h.alloc g t k).1 v = none := by
  intro v hv
  cases g with
  | false =>
    simp only [Heap.alloc, Bool.false_eq_true, if_false] at hv ⊢
    exact H.fresh (.fr 0 t) v (by simp only [Heap.obj]; omega)
  | true =>
    simp only [Heap.alloc, if_true] at hv ⊢
    exact H.freshG _ v (Nat.le_refl _)

/-- A new object. -/
theorem Inv.new (H : Inv κ im ob h w) (g : Bool) (t : Nat) (k : Con) (x : Base) {w' : World} (hsz : w.heap.size ≤ w'.heap.size) (hos : w'.os = w.os) (htp : w'.tape = w.tape) (hop : w'.output = w.output)
    (hold : ∀ b, b < w.heap.size → w'.heap[b]? = w.heap[b]?) (hg : κ.ro = true → g = false) (hx : ∀ b sz n, x = .blk b sz n → w.heap.size ≤ b)
    (hnew : ObjR im (obUpd ob (h.alloc g t k).1 (h.alloc g t k).2.1 x) κ.B w' (h.alloc g t k).1 ⟨(h.alloc g t k).2.1, k⟩) :
    Inv κ im (obUpd ob (h.alloc g t k).1 (h.alloc g t k).2.1 x) (h.alloc g t k).2.2 w' ∧ ObLe ob (obUpd ob (h.alloc g t k).1 (h.alloc g t k).2.1 x) := by
  have hfr := H.fresh_alloc g t k
  have hle : ObLe ob (obUpd ob (h.alloc g t k).1 (h.alloc g t k).2.1 x) := obUpd_le x (hfr _ (Nat.le_refl _))
  refine ⟨H.upd (h.alloc g t k).1 ⟨(h.alloc g t k).2.1, k⟩ (obj_alloc h g t k) (by rw [out_alloc]) (ImLe.refl _) hle (fun c' v hc => ?_) (fun v hv => ?_) (fun i v hi => ?_) hsz hos htp hop
    (fun b hb _ => hold b hb) (fun b off v hv => .inl hv) hnew (fun b sz n _ hb => ?_) (fun hr => ?_), hle⟩
  · unfold obUpd; rw [if_neg (fun e => hc e.1)]
  · unfold obUpd; rw [if_neg (fun e => by have := e.2; simp at hv; omega)]; exact hfr v (by simp at hv; omega)
  · unfold obUpd
    have hlen : h.glob.length ≤ i := by cases g <;> simp [Heap.alloc] at hi <;> omega
    rw [if_neg]
    · exact H.freshG i v hlen
    · rintro ⟨e, _⟩
      cases g <;> simp [Heap.alloc] at e hi
      omega
  · simp only [obUpd_same, Option.some.injEq] at hb
    exact .inl (hx b sz n hb)
  · rw [hg hr]; exact alloc_here h t k

theorem heap_alloc_old (w : World) (o : Obj) (b : Nat) (hb : b < w.heap.size) : (w.alloc o).heap[b]? = w.heap[b]? := Go.RowKit.Below.heap_alloc w o b hb
theorem heap_alloc_at (w : World) (o : Obj) : (w.alloc o).heap[w.heap.size]? = some o := by show (w.heap.push o)[w.heap.size]? = some o; simp

/-- What goes into an object is right as the object's frame sees it. -/
theorem CellsR.into {c : Loc} {vs : List Value} {cs ds : List AV} (hR : CellsR im ob vs cs) (hd : intoAll c cs = some ds) : CellsR im (view c ob) vs ds := by
  refine ⟨by rw [mapO_length hd]; exact hR.1, fun j v x hv hx => ?_⟩
  obtain ⟨a, ha, hf⟩ := mapO_get' hd j x hx
  exact (hR.2 j v a hv ha).into hf
theorem CellsR.mono {im' : Imm} {ob' : Obm} (hi : ImLe im im') (ho : ObLe ob ob') {vs : List Value} {cs : List AV} (hR : CellsR im ob vs cs) : CellsR im' ob' vs cs :=
  ⟨hR.1, fun j v x hv hx => (hR.2 j v x hv hx).mono hi ho⟩

/-- A new variable of one's own: of cells that are there as values. -/
theorem Inv.newCells (H : Inv κ im ob h w) (g : Bool) (hg : κ.ro = true → g = false) (t : Nat) (T : TypeId) {vs : Array Value} {cs : List AV}
    (hR : ∀ x, CellsR im (view (h.alloc g t .gone).1 (obUpd ob (h.alloc g t .gone).1 (h.alloc g t .gone).2.1 x)) vs.toList cs) (hnm : ∀ (j : Nat) (t' : TypeId), cs[j]? ≠ some (AV.bmark t')) :
    ∃ ob', Inv κ im ob' (h.alloc g t (.cells cs)).2.2 (w.alloc (.cells vs T)) ∧ ObLe ob ob' ∧ V0 im ob' (.pointer (some ⟨w.heap.size, 0, none⟩)) (.ptr (h.alloc g t .gone).1 (h.alloc g t .gone).2.1 0) := by
  obtain ⟨e1, e2⟩ := alloc_fst h g t .gone (.cells cs)
  rw [e1, e2] at hR
  have hR' := hR (.blk w.heap.size 0 0)
  obtain ⟨h1, h2⟩ := H.new g t (.cells cs) (.blk w.heap.size 0 0) (w' := w.alloc (.cells vs T)) (by simp) rfl rfl rfl (fun b hb => heap_alloc_old w _ b hb) hg (fun b sz n e => by cases e; exact Nat.le_refl _)
    ⟨w.heap.size, 0, 0, vs, T, obUpd_same _ _ _ _, heap_alloc_at w _, by have := hR'.1; simp at this; omega, fun j v x hv hx => hR'.2 j v x (by simpa using hv) hx, fun off => by
      cases hi : im w.heap.size off with
      | none => rfl
      | some v => exact absurd (World.block_lt_of_cell? w ⟨w.heap.size, off, none⟩ (H.imw _ _ _ hi)) (by simp), H.ble, .none hnm⟩
  exact ⟨_, h1, h2, by rw [e1, e2]; exact .ptr _ _ _ _ _ _ (obUpd_same _ _ _ _)⟩

theorem Inv.imNone (H : Inv κ im ob h w) {b : Nat} (hb : w.heap.size ≤ b) (off : Nat) : im b off = none := by
  cases hi : im b off with
  | none => rfl
  | some v => exact absurd (World.block_lt_of_cell? w ⟨b, off, none⟩ (H.imw _ _ _ hi)) (by simp; omega)

/-! ### stores -/
theorem setRow_other (w : World) (g : Nat) (cs : Array Value) (b : Nat) (hb : b ≠ g) : (w.setRow g cs).heap[b]? = w.heap[b]? := by
  simp only [World.setRow, Array.getElem?_modify]; rw [if_neg (fun e => hb e.symm)]
theorem setRow_size (w : World) (g : Nat) (cs : Array Value) : (w.setRow g cs).heap.size = w.heap.size := by simp [World.setRow]

theorem writeAll_length : ∀ (vs cs : List AV) (off : Nat), (writeAll cs off vs).length = cs.length
  | [], cs, off => rfl
  | v :: r, cs, off => by simp [writeAll, writeAll_length r]
theorem writeAll_get : ∀ (vs cs : List AV) (off j : Nat), off + vs.length ≤ cs.length → (writeAll cs off vs)[j]? = if off ≤ j ∧ j < off + vs.length then vs[j - off]? else cs[j]?
  | [], cs, off, j, _ => by simp [writeAll]; omega
  | v :: r, cs, off, j, hl => by
    simp only [List.length_cons] at hl
    rw [writeAll, writeAll_get r _ _ _ (by simp; omega)]
    by_cases h1 : off + 1 ≤ j ∧ j < off + 1 + r.length
    · rw [if_pos h1, if_pos (by simp; omega)]
      have : j - off = (j - (off + 1)) + 1 := by omega
      rw [this]; simp
    · rw [if_neg h1]
      by_cases h2 : j = off
      · subst h2
        have hlt : j < cs.length := by omega
        rw [if_pos ⟨Nat.le_refl _, by simp⟩, Nat.sub_self, List.getElem?_set, if_pos rfl, if_pos hlt]; rfl
      · rw [if_neg (by simp; omega), List.getElem?_set_ne (by omega)]

theorem writeOver_eq {cs vs : List AV} {off n : Nat} {r : List AV} (hr : writeOver cs off n vs = some r) : vs.length = n ∧ off + n ≤ cs.length ∧ (∀ v ∈ vs, v.one = true) ∧ r = writeAll cs off vs := by
  unfold writeOver at hr
  split at hr
  · rename_i hc; simp only [Option.some.injEq] at hr
    exact ⟨hc.1, hc.2.1, fun v hv => List.all_eq_true.1 hc.2.2 v hv, hr.symm⟩
  · cases hr

/-- Cells of a block, some of them written. -/
theorem spliced_get {l vs : List Value} {o j : Nat} (hl : o + vs.length ≤ l.length) : (l.take o ++ vs ++ l.drop (o + vs.length))[j]? = if o ≤ j ∧ j < o + vs.length then vs[j - o]? else l[j]? := by
  by_cases h1 : j < o
  · rw [if_neg (by omega), List.append_assoc, List.getElem?_append_left (by simp; omega), List.getElem?_take, if_pos h1]
  · by_cases h2 : j < o + vs.length
    · rw [if_pos ⟨by omega, h2⟩, List.getElem?_append_left (by simp; omega), List.getElem?_append_right (by simp; omega)]
      congr 1; simp; omega
    · rw [if_neg (by omega), List.getElem?_append_right (by simp; omega), List.getElem?_drop]
      congr 1; simp; omega

theorem run_storeVar {t : TypeId} {n b o : Nat} {v : Value} {cur : Array Value} {T : TypeId} {fz : Nat × Nat} (hfz : fz.2 ≤ o) (hn : size? P t = some n) (hs : v.cells.size = n) (hg : w.heap[b]? = some (.cells cur T fz))
    (hfit : o + n ≤ cur.size) (h1 : ∀ x ∈ v.cells.toList, x.oneCell' = true) :
    (storeVar t ⟨b, o, none⟩ v).run P w = .ok () (w.setRow b (cur.toList.take o ++ v.cells.toList ++ cur.toList.drop (o + v.cells.toList.length)).toArray) := by
  have hst := run_storeCells_atF P b o T fz v.cells.toList 0 cur w hg (by omega) (by simp; omega) h1
  simp only [Nat.add_zero] at hst
  simp [storeVar, run_size hn, hs, hst]

theorem CellsR.one {vs : List Value} {cs : List AV} (hR : CellsR im ob vs cs) (h1 : ∀ x ∈ cs, x.one = true) : ∀ v ∈ vs, v.oneCell' = true := by
  intro v hv
  obtain ⟨j, hj, rfl⟩ := List.getElem_of_mem hv
  have hj' : j < cs.length := by rw [← hR.1]; exact hj
  exact (hR.2 j _ cs[j] (by simp [hj]) (by simp [hj'])).oneCell (h1 _ (List.getElem_mem hj'))

/-- An object's content changes in its own block. -/
theorem Inv.write (H : Inv κ im ob h w) {c : Loc} {v b sz n : Nat} {k k' : Con} (hk : h.obj c = ⟨v, k⟩) (hl : k.live) (hb : ob c v = some (.blk b sz n)) {w' : World}
    (hsz : w'.heap.size = w.heap.size) (hos : w'.os = w.os) (htp : w'.tape = w.tape) (hop : w'.output = w.output) (hoth : ∀ b', b' ≠ b → w'.heap[b']? = w.heap[b']?)
    (hnew : ObjR im ob κ.B w' c ⟨v, k'⟩) (hro : κ.ro = true → c.here = true) : Inv κ im ob (h.setObj c ⟨v, k'⟩) w' := by
  have hown : owns h ob c b := ⟨by rw [hk]; exact hl, sz, n, by rw [hk]; exact hb⟩
  have hval : h.valid c := valid_of_con (by rw [hk]; intro e; simp at e; rw [e] at hl; exact hl)
  refine H.upd c ⟨v, k'⟩ (obj_setObj h c _ hval) (out_setObj h c _) (ImLe.refl _) (ObLe.refl _) (fun _ _ _ => rfl) (fun v' hv' => H.fresh c v' (by rw [hk]; exact hv'))
    (fun i v' hi => H.freshG i v' (by rw [glob_setObj] at hi; exact hi)) (by omega) hos htp hop (fun b' _ hn => hoth b' (fun e => hn (e ▸ hown))) (fun b off v hv => .inl hv) hnew
    (fun b' sz' n' _ hb' => ?_) hro
  simp only [hb, Option.some.injEq, Base.blk.injEq] at hb'
  exact .inr (hb'.1 ▸ hown)

theorem here_of {ro : Bool} {c : Loc} (hr : ¬ ((ro && !c.here) = true)) : ro = true → c.here = true := by
  intro e; subst e; simpa using hr

theorem storeAt_run (H : Inv κ im ob h w) {t : TypeId} {va vx : Value} {xa xx : AV} {h' : Heap} (hA : V0 im ob va xa) (hX : V0 im ob vx xx) (hy : storeAt P κ.ro h t xa xx = some h') :
    ∃ w', (Instr.storeAt t va vx).run P w = .ok () w' ∧ Inv κ im ob h' w' := by
  simp only [storeAt, Option.bind_eq_some_iff] at hy
  obtain ⟨n, hn, hy⟩ := hy
  cases hA with
  | ptr c v off b sz n' hb =>
    simp only at hy
    split at hy
    · cases hy
    rename_i hro
    cases hk : h.con c v with
    | cells cs =>
      rw [hk] at hy
      simp only [Option.bind_eq_some_iff, Option.map_eq_some_iff] at hy
      obtain ⟨xs, hxs, vs, hvs, ds, hds, rfl⟩ := hy
      obtain ⟨h1, h2, h3, rfl⟩ := writeOver_eq hds
      have ho := H.objs c
      rw [obj_mk hk (by simp)] at ho
      obtain ⟨b', sz', n2, cur, T, g1, g2, g3, g4, g5, g6⟩ := ho
      rw [hb] at g1; cases g1
      have hR := (hX.cells hxs).into hvs
      have hlen : vx.cells.size = n := by have := hR.1; simp at this; omega
      refine ⟨_, by simp only [Instr.storeAt, Instr.sureAddr]; rw [Sem.run_bind]; simp only [Sem.run_pure, Result.andThen_ok]; exact run_storeVar (Nat.zero_le _) hn hlen g2 (by omega) (hR.one h3),
        H.write (obj_mk hk (by simp)) (by simp [Con.live]) hb (setRow_size _ _ _) rfl rfl rfl (fun b' hb' => setRow_other _ _ _ _ hb') ?_ (here_of hro)⟩
      have hl2 : off + vx.cells.toList.length ≤ cur.toList.length := by simp; omega
      refine ⟨b, sz, n', _, T, hb, setRow_heap w b cur _ T _ g2, ?_, fun j v' x hv hx => ?_, g5, g6.1, fun j t' hx => ?_⟩
      · rw [writeAll_length]; simp; omega
      · rw [List.getElem?_toArray, spliced_get hl2] at hv
        rw [writeAll_get _ _ _ _ (by omega)] at hx
        by_cases hj : off ≤ j ∧ j < off + n
        · rw [if_pos (by simp; omega)] at hv
          rw [if_pos (by omega)] at hx
          exact hR.2 _ _ _ hv hx
        · rw [if_neg (by simp; omega)] at hv
          rw [if_neg (by omega)] at hx
          exact g4 j v' x (by simpa using hv) hx
      · rw [writeAll_get _ _ _ _ (by omega)] at hx
        rw [List.getElem?_toArray, spliced_get hl2]
        by_cases hj : off ≤ j ∧ j < off + n
        · rw [if_pos (by omega)] at hx
          have := h3 _ (List.mem_of_getElem? hx)
          cases this
        · rw [if_neg (by omega)] at hx
          rw [if_neg (by simp; omega)]
          have h9 := g6.2 j t' hx
          refine ⟨h9.1, ?_, by simpa using h9.2.2⟩
          rw [writeAll_length, ← h9.2.1]
          simp
          omega
    | _ => rw [hk] at hy; cases hy
  | eptr c v i j b sz n' hb =>
    simp only at hy
    split at hy
    · cases hy
    rename_i hro
    cases hk : h.con c v with
    | arr nl sz2 xs =>
      rw [hk] at hy
      simp only at hy
      split at hy
      · cases hy
      rename_i hbt
      replace hbt : c.bt = none := by simpa using hbt
      simp only [Option.bind_eq_some_iff, Option.map_eq_some_iff] at hy
      obtain ⟨cs, hcs, ys, hys, vs, hvs, ds, hds, rfl⟩ := hy
      obtain ⟨h1, h2, h3, rfl⟩ := writeOver_eq hds
      have ho := H.objs c
      rw [obj_mk hk (by simp)] at ho
      have hsz : sz = sz2 := (ho.elemAt hb hcs).2.2
      subst hsz
      rcases ho with ⟨_, _, h3⟩ | ⟨_, _, a, h3⟩ | ⟨g0, b', n2, cur, T, fz, g1, g2, g3, g4, g5, g6, g7, g8⟩
      · rw [hb] at h3; cases h3
      · rw [hb] at h3; cases h3
      rw [hb] at g1; cases g1
      have hfz : fz.2 ≤ i * sz + j := by rw [g8.2.2.1 hbt]; exact Nat.zero_le _
      have hR := (hX.cells hys).into hvs
      have hlen : vx.cells.size = n := by have := hR.1; simp at this; omega
      have hi : i < xs.length := (List.getElem?_eq_some_iff.1 hcs).1
      have hcl : cs.length = sz := g5 i cs hcs
      have hfit : i * sz + j + n ≤ cur.size := by
        have : (i + 1) * sz ≤ xs.length * sz := Nat.mul_le_mul_right _ hi
        rw [Nat.succ_mul] at this; omega
      refine ⟨_, by simp only [Instr.storeAt, Instr.sureAddr]; rw [Sem.run_bind]; simp only [Sem.run_pure, Result.andThen_ok]; exact run_storeVar hfz hn hlen g2 hfit (hR.one h3),
        H.write (obj_mk hk (by simp)) (by simp [Con.live]) hb (setRow_size _ _ _) rfl rfl rfl (fun b' hb' => setRow_other _ _ _ _ hb') ?_ (here_of hro)⟩
      have hl2 : i * sz + j + vx.cells.toList.length ≤ cur.toList.length := by simp; omega
      refine .inr (.inr ⟨g0, b, n', _, T, fz, hb, setRow_heap w b cur _ T _ g2, by simp; omega, by simpa using g4, fun i' e he => ?_, fun i' j' e v' x he hx hv => ?_, g7, by simpa using g8⟩)
      · rw [List.getElem?_set] at he
        by_cases hii : i = i'
        · subst hii
          rw [if_pos rfl, if_pos hi] at he
          simp only [Option.some.injEq] at he; subst he; rw [writeAll_length]; exact hcl
        · rw [if_neg hii] at he; exact g5 i' e he
      · have hi' : i' < xs.length := by have := (List.getElem?_eq_some_iff.1 he).1; simpa using this
        rw [List.getElem?_toArray, spliced_get hl2] at hv
        rw [List.getElem?_set] at he
        by_cases hii : i = i'
        · subst hii
          rw [if_pos rfl, if_pos hi] at he
          simp only [Option.some.injEq] at he; subst he
          rw [writeAll_get _ _ _ _ (by omega)] at hx
          by_cases hj : j ≤ j' ∧ j' < j + n
          · rw [if_pos (by simp; omega)] at hv
            rw [if_pos (by omega)] at hx
            exact hR.2 (j' - j) _ _ (by rw [show i * sz + j' - (i * sz + j) = j' - j from by omega] at hv; exact hv) hx
          · rw [if_neg (by simp; omega)] at hv
            rw [if_neg (by omega)] at hx
            exact g6 i j' cs v' x hcs hx (by simpa using hv)
        · rw [if_neg hii] at he
          have hj' : j' < sz := by rw [← g5 i' e he]; exact (List.getElem?_eq_some_iff.1 hx).1
          have hne : ¬ (i * sz + j ≤ i' * sz + j' ∧ i' * sz + j' < i * sz + j + n) := by
            rintro ⟨a1, a2⟩
            rcases Nat.lt_or_gt_of_ne hii with hlt | hgt
            · have : (i + 1) * sz ≤ i' * sz := Nat.mul_le_mul_right _ hlt
              rw [Nat.succ_mul] at this; omega
            · have : (i' + 1) * sz ≤ i * sz := Nat.mul_le_mul_right _ hgt
              rw [Nat.succ_mul] at this; omega
          rw [if_neg (by simp; omega)] at hv
          exact g6 i' j' e v' x he hx (by simpa using hv)
    | _ => rw [hk] at hy; cases hy
  | _ => simp at hy

/-! ### fields of a new object -/
theorem fldOf_run {t : TypeId} {s v : Nat} : ∀ (l : List (Nat × Option Nat)) {h h' : Heap} {ob : Obm} {b sz n : Nat} {vs : Array Value}, Inv κ im ob h w → ob (.fr 0 s) v = some (.blk b sz n) → w.heap[b]? = some (.cells vs t (0, 0)) → (∀ cs, h.con (.fr 0 s) v = .cells cs → vs.size = cs.length) →
    fldOf t (.fr 0 s) v l h = some h' → ∃ ob', Inv κ im ob' h' w ∧ ObLe ob ob'
  | [], h, h', ob, b, sz, n, vs, H, _, _, _, hy => by simp only [fldOf, Option.some.injEq] at hy; subst hy; exact ⟨ob, H, ObLe.refl _⟩
  | (off, k) :: r, h, h', ob, b, sz, n, vs, H, hb, hw, hlen, hy => by
    simp only [fldOf] at hy
    cases hk : h.con (.fr 0 s) v with
    | cells cs =>
      have hl9 := hlen cs hk
      rw [hk] at hy
      simp only at hy
      have hobj := obj_mk hk (by simp)
      have ho := H.objs (.fr 0 s)
      rw [hobj] at ho
      obtain ⟨b', sz', n', cur, T, g1, g2, g3, g4, g5, g6⟩ := ho
      simp only at g1
      rw [hb] at g1; cases g1
      rw [hw] at g2
      simp only [Option.some.injEq, Obj.cells.injEq, and_true] at g2
      obtain ⟨rfl, rfl⟩ := g2
      have hset : ∀ {h2 : Heap} {ob2 : Obm} (x : AV), Inv κ im ob2 h2 w → ObLe ob ob2 → h2.obj (.fr 0 s) = ⟨v, .cells cs⟩ → (∀ y, vs[off]? = some y → V0 im (view (.fr 0 s) ob2) y x) → (∀ t', x = .bmark t' → t' = t ∧ vs[off]? = some (.pointer none)) →
          Inv κ im ob2 (h2.setObj (.fr 0 s) ⟨v, .cells (cs.set off x)⟩) w ∧ ∀ cs', (h2.setObj (.fr 0 s) ⟨v, .cells (cs.set off x)⟩).con (.fr 0 s) v = .cells cs' → vs.size = cs'.length := by
        intro h2 ob2 x H2 hle hobj2 hx hm
        refine ⟨H2.write hobj2 (by simp [Con.live]) (hle _ _ _ hb) rfl rfl rfl rfl (fun _ _ => rfl) ?_ (fun _ => rfl), fun cs' hcs => by
          have h8 : (h2.setObj (.fr 0 s) ⟨v, .cells (cs.set off x)⟩).con (.fr 0 s) v = .cells (cs.set off x) := by simp [Heap.setObj, Heap.con, Heap.obj, AE.upd]
          rw [h8] at hcs; cases hcs; simpa using hl9⟩
        refine ⟨b, sz, n, vs, t, hle _ _ _ hb, hw, by simpa using g3, fun j y z hy hz => ?_, g5, g6.1, fun j t' hz => ?_⟩
        · rw [List.getElem?_set] at hz
          by_cases e : off = j
          · subst e
            rw [if_pos rfl] at hz
            split at hz
            · simp only [Option.some.injEq] at hz; subst hz; exact hx y hy
            · cases hz
          · rw [if_neg e] at hz
            exact (g4 j y z hy hz).mono (ImLe.refl _) (view_mono _ hle)
        · rw [List.getElem?_set] at hz
          by_cases e : off = j
          · subst e
            rw [if_pos rfl] at hz
            split at hz
            · simp only [Option.some.injEq] at hz
              obtain ⟨e1, e2⟩ := hm t' hz
              exact ⟨e1, by simpa using hl9, .inl e2⟩
            · cases hz
          · rw [if_neg e] at hz
            have h9 := g6.2 j t' hz
            exact ⟨h9.1, by simpa using h9.2.1, h9.2.2⟩
      have hoff : ∀ x, cs[off]? = some x → ∃ y, vs[off]? = some y ∧ V0 im (view (.fr 0 s) ob) y x := by
        intro x hx
        have hlt : off < vs.size := by have := (List.getElem?_eq_some_iff.1 hx).1; omega
        exact ⟨vs[off], by simp [hlt], g4 off _ x (by simp [hlt]) hx⟩
      split at hy
      · rename_i hx
        obtain ⟨y, hy1, hy2⟩ := hoff _ hx
        cases hy2
        have H2 := hset (.bmark t) H (ObLe.refl _) hobj (fun y' _ => .bmark y' t) (fun t' e => by cases e; exact ⟨rfl, hy1⟩)
        exact fldOf_run r H2.1 hb hw H2.2 hy
      · rename_i sz0 s2 hx
        obtain ⟨y, hy1, hy2⟩ := hoff _ hx
        split at hy
        · cases hy
        rename_i hne
        cases hy2
        obtain ⟨h1, h2⟩ := H.new false s2 (.arr true 0 []) .nil (w' := w) (Nat.le_refl _) rfl rfl rfl (fun _ _ => rfl) (fun _ => rfl) (fun _ _ _ e => by cases e) (.inl ⟨rfl, rfl, obUpd_same _ _ _ _⟩)
        have hobj2 : (h.alloc false s2 (.arr true 0 [])).2.2.obj (.fr 0 s) = ⟨v, .cells cs⟩ := by
          rw [obj_alloc, if_neg (by simpa [Heap.alloc] using hne)]; exact hobj
        have H3 := hset (.rsl (h.alloc false s2 (.arr true 0 [])).1 (h.alloc false s2 (.arr true 0 [])).2.1 0 0) h1 h2 hobj2 (fun y' hy' => by
          rw [hy1] at hy'; simp only [Option.some.injEq] at hy'; subst hy'
          exact .rslN _ _ (by simp only [view, Heap.alloc, Bool.false_eq_true, if_false, Nat.zero_add]; exact obUpd_same _ _ _ _)) (fun t' e => by cases e)
        obtain ⟨ob', g7, g8⟩ := fldOf_run r H3.1 (h2 _ _ _ hb) hw H3.2 hy
        exact ⟨ob', g7, h2.trans g8⟩
      · cases hy
    | _ => rw [hk] at hy; cases hy
theorem fldsOf_run {t : TypeId} {l : List (Nat × Option Nat)} {h h' : Heap} {x y : AV} {b : Nat} {vs : Array Value} (H : Inv κ im ob h w) (hV : V0 im ob (.pointer (some ⟨b, 0, none⟩)) x) (hw : w.heap[b]? = some (.cells vs t (0, 0))) (hlen : ∀ c v cs, x = .ptr c v 0 → h.con c v = .cells cs → vs.size = cs.length)
    (hy : fldsOf t l (x, h) = some (y, h')) : y = x ∧ ∃ ob', Inv κ im ob' h' w ∧ ObLe ob ob' := by
  unfold fldsOf at hy
  split at hy
  · simp only [Option.some.injEq, Prod.mk.injEq] at hy
    obtain ⟨rfl, rfl⟩ := hy
    exact ⟨rfl, ob, H, ObLe.refl _⟩
  · rename_i e
    simp only at e
    subst e
    simp only [Option.map_eq_some_iff, Prod.mk.injEq] at hy
    obtain ⟨h2, hy, rfl, rfl⟩ := hy
    generalize hp : Value.pointer (some ⟨b, 0, none⟩) = vv at hV
    cases hV with
    | ptr _ _ _ b' sz n hb => cases hp; exact ⟨rfl, fldOf_run _ H hb hw (fun cs hcs => hlen _ _ cs rfl hcs) hy⟩
  · cases hy
theorem ofV_noMark (v : Value) (t : TypeId) : AV.ofV v ≠ .bmark t := by
  intro h
  unfold AV.ofV at h
  split at h <;> cases h
theorem ofL_noMark (t : TypeId) : ∀ (l : List Value) (j : Nat), (AV.ofL l)[j]? ≠ some (.bmark t)
  | [], j => by simp [AV.ofL]
  | v :: l, 0 => by simp only [AV.ofL, List.getElem?_cons_zero, ne_eq, Option.some.injEq]; exact ofV_noMark v t
  | v :: l, j + 1 => by simp only [AV.ofL, List.getElem?_cons_succ]; exact ofL_noMark t l j
theorem cells_noMark {v : Value} {cs : List AV} (h : (AV.ofV v).cells = some cs) (j : Nat) (t : TypeId) : cs[j]? ≠ some (.bmark t) := by
  have one : ∀ a : AV, (∀ t, a ≠ .bmark t) → ([a] : List AV)[j]? ≠ some (.bmark t) := by
    intro a ha
    cases j with
    | zero => simpa using ha t
    | succ j => simp
  have hv := ofV_noMark v
  cases hx : AV.ofV v with
  | agg cs' =>
    rw [hx] at h
    simp only [AV.cells, Option.some.injEq] at h
    subst h
    unfold AV.ofV at hx
    split at hx <;> cases hx
    rename_i cs
    obtain ⟨l⟩ := cs
    rw [show AV.ofA ⟨l⟩ = AV.ofL l from by rw [AV.ofA]]
    exact ofL_noMark t l j
  | undef => rw [hx] at h; cases h
  | tup _ => rw [hx] at h; cases h
  | bmark t' => exact absurd hx (hv t')
  | _ =>
    rw [hx] at h hv
    simp only [AV.cells, Option.some.injEq] at h
    subst h
    exact one _ hv
end Go.AE
