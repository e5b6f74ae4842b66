/- What an abstract heap says of a world, and how it is kept where one object changes. -/
import Derived.Test.YtimnggioioeehabGreatDoorAeRel
namespace Go.AE
open Go.RowKit (Below)

/-- The place can hold an object. -/
def Heap.valid (h : Heap) : Loc → Prop
  | .fr 0 _ => True
  | .fr (l + 1) _ => l < h.out.length
  | .gl i => i < h.glob.length

theorem upd_apply {α : Type} (f : Nat → α) (t : Nat) (x : α) (s : Nat) : upd f t x s = if s = t then x else f s := rfl

theorem obj_setObj (h : Heap) (c : Loc) (o : AObj) (hv : h.valid c) (c' : Loc) : (h.setObj c o).obj c' = if c' = c then o else h.obj c' := by
  match c, hv with
  | .fr 0 t, _ =>
    match c' with
    | .fr 0 t' => simp [Heap.setObj, Heap.obj, upd_apply]
    | .fr (l + 1) t' => simp [Heap.setObj, Heap.obj]
    | .gl i => simp [Heap.setObj, Heap.obj]
  | .fr (l + 1) t, hv =>
    match c' with
    | .fr 0 t' => simp [Heap.setObj, Heap.obj]
    | .fr (l' + 1) t' =>
      simp only [Heap.setObj, Heap.obj, List.getElem?_modify]
      by_cases e : l = l'
      · subst e
        have hv' : l < h.out.length := hv
        simp [hv', upd_apply]
      · have e2 : ¬ (Loc.fr (l' + 1) t' = Loc.fr (l + 1) t) := by simp only [Loc.fr.injEq, Nat.succ.injEq]; omega
        rw [if_neg e2]
        cases h.out[l']? <;> simp [e]
    | .gl i => simp [Heap.setObj, Heap.obj]
  | .gl i, hv =>
    match c' with
    | .fr 0 t' => simp [Heap.setObj, Heap.obj]
    | .fr (l' + 1) t' => simp [Heap.setObj, Heap.obj]
    | .gl i' =>
      simp only [Heap.setObj, Heap.obj, List.getElem?_set, Loc.gl.injEq]
      have hv' : i < h.glob.length := hv
      by_cases e : i = i'
      · subst e; simp [hv']
      · rw [if_neg e, if_neg (fun x => e x.symm)]
theorem valid_of_con {h : Heap} {c : Loc} (hn : (h.obj c).con ≠ .gone) : h.valid c := by
  match c with
  | .fr 0 t => trivial
  | .fr (l + 1) t =>
    by_cases e : l < h.out.length
    · exact e
    · exact absurd (by simp [Heap.obj, List.getElem?_eq_none (Nat.le_of_not_lt e)]) hn
  | .gl i =>
    by_cases e : i < h.glob.length
    · exact e
    · exact absurd (by simp [Heap.obj, List.getElem?_eq_none (Nat.le_of_not_lt e)]) hn
theorem con_eq {h : Heap} {c : Loc} {v : Nat} {k : Con} (hk : h.con c v = k) (hn : k ≠ .gone) : (h.obj c).ver = v ∧ (h.obj c).con = k := by
  unfold Heap.con at hk
  split at hk
  · exact ⟨by assumption, hk⟩
  · exact absurd hk.symm hn
theorem out_setObj (h : Heap) (c : Loc) (o : AObj) : (h.setObj c o).out.length = h.out.length := by
  match c with
  | .fr 0 t => rfl
  | .fr (l + 1) t => simp [Heap.setObj]
  | .gl i => rfl
theorem glob_setObj (h : Heap) (c : Loc) (o : AObj) : (h.setObj c o).glob.length = h.glob.length := by
  match c with
  | .fr 0 t => rfl
  | .fr (l + 1) t => rfl
  | .gl i => simp [Heap.setObj]

def Con.live : Con → Prop
  | .gone | .frz _ _ _ => False
  | _ => True
/-- Block b is the object's at c, and no one else's. -/
def owns (h : Heap) (ob : Obm) (c : Loc) (b : Nat) : Prop := (h.obj c).con.live ∧ ∃ sz n, ob c (h.obj c).ver = some (.blk b sz n)

def keyR : Value → AV → Prop
  | .int k n, .int k' n' => k = k' ∧ n = n'
  | .string s, .str s' => s = s'
  | .bool b, .bool b' => b = b'
  | _, _ => False

/-- Cells that are marked. -/
def Marks (cs : List AV) (c' : Array Value) (t : TypeId) (b : Nat) : Prop := ∀ (j : Nat) (t' : TypeId), cs[j]? = some (AV.bmark t') → t' = t ∧ c'.size = cs.length ∧ (c'[j]? = some (Value.pointer none) ∨ c'[j]? = some (Value.pointer (some ⟨b, j, none⟩)))
theorem Marks.none {cs : List AV} {c' : Array Value} {t : TypeId} {b : Nat} (h : ∀ (j : Nat) (t' : TypeId), cs[j]? ≠ some (AV.bmark t')) : Marks cs c' t b := fun j t' hj => absurd hj (h j t')
def ObjR (im : Imm) (ob : Obm) (B : Nat) (w : World) (c : Loc) (o : AObj) : Prop :=
  match o.con with
  | .gone => True
  | .cells cs => ∃ b sz n c' t, ob c o.ver = some (.blk b sz n) ∧ w.heap[b]? = some (.cells c' t (0, 0)) ∧ cs.length ≤ c'.size ∧
      (∀ (j : Nat) (v : Value) (x : AV), c'[j]? = some v → cs[j]? = some x → V0 im (view c ob) v x) ∧ (∀ off, im b off = none) ∧ (B ≤ b ∧ Marks cs c' t b)
  | .arr nl sz xs => (nl = true ∧ xs = [] ∧ ob c o.ver = some .nil) ∨ (nl = false ∧ xs = [] ∧ ∃ a, ob c o.ver = some (.ez a)) ∨
      (nl = false ∧ ∃ b n c' t fz, ob c o.ver = some (.blk b sz n) ∧ w.heap[b]? = some (.cells c' t fz) ∧ c'.size = n ∧ (xs.length * sz ≤ n ∧ 0 < sz) ∧
        (∀ (i : Nat) (e : List AV), xs[i]? = some e → e.length = sz) ∧
        (∀ (i j : Nat) (e : List AV) (v : Value) (x : AV), xs[i]? = some e → e[j]? = some x → c'[i * sz + j]? = some v → V0 im (view c ob) v x) ∧ (∀ off, im b off = none) ∧ (B ≤ b ∧ (∀ τ, c.bt = some τ → t = τ) ∧ (c.bt = none → fz = (0, 0)) ∧ fz.2 ≤ xs.length * sz))
  | .frz nl sz xs => (nl = true ∧ xs = [] ∧ ob c o.ver = some .nil) ∨ (nl = false ∧ xs = [] ∧ ∃ a, ob c o.ver = some (.ez a)) ∨
      (nl = false ∧ ∃ b n, ob c o.ver = some (.blk b sz n) ∧ (∀ (i : Nat) (e : List AV), xs[i]? = some e → e.length = sz) ∧
        (∀ i j, i < xs.length → j < sz → ∃ v, im b (i * sz + j) = some v) ∧
        (∀ (i j : Nat) (e : List AV) (v : Value) (x : AV), xs[i]? = some e → e[j]? = some x → im b (i * sz + j) = some v → V0 im (view c ob) v x))
  | .map es => ∃ b sz n es' clk, ob c o.ver = some (.blk b sz n) ∧ w.heap[b]? = some (.map es' clk) ∧ es'.size = es.length ∧
      (∀ (j : Nat) (e' : MapEntry) (e : AV × AV), es'[j]? = some e' → es[j]? = some e → keyR e'.key e.1 ∧ V0 im (view c ob) e'.val e.2) ∧ (∀ off, im b off = none) ∧ B ≤ b
  | .iter s pos => ∃ b sz n, ob c o.ver = some (.blk b sz n) ∧ w.heap[b]? = some (.stringIter s pos) ∧ (∀ off, im b off = none) ∧ B ≤ b

/-- An object is as it was where its own block is. -/
theorem ObjR.mono {im im' : Imm} {ob ob' : Obm} {B : Nat} {w w' : World} {c : Loc} {o : AObj} (hi : ImLe im im') (ho : ObLe ob ob')
    (hb : ∀ b sz n, o.con.live → ob c o.ver = some (.blk b sz n) → w'.heap[b]? = w.heap[b]? ∧ ((∀ off, im b off = none) → ∀ off, im' b off = none))
    (h : ObjR im ob B w c o) : ObjR im' ob' B w' c o := by
  have hv := view_mono c ho
  unfold ObjR at h ⊢
  split at h
  · trivial
  · rename_i cs hcon
    obtain ⟨b, sz, n, c', t, h1, h2, h3, h4, h5, h6⟩ := h
    obtain ⟨e1, e2⟩ := hb b sz n (by simp [hcon, Con.live]) h1
    exact ⟨b, sz, n, c', t, ho _ _ _ h1, e1.trans h2, h3, fun j v x hx hy => (h4 j v x hx hy).mono hi hv, e2 h5, h6⟩
  · rename_i nl sz xs hcon
    rcases h with ⟨h1, h2, h3⟩ | ⟨h1, h2, a, h3⟩ | ⟨h0, b, n, c', t, fz, h1, h2, h3, h4, h5, h6, h7, h8⟩
    · exact .inl ⟨h1, h2, ho _ _ _ h3⟩
    · exact .inr (.inl ⟨h1, h2, a, ho _ _ _ h3⟩)
    · obtain ⟨e1, e2⟩ := hb b sz n (by simp [hcon, Con.live]) h1
      exact .inr (.inr ⟨h0, b, n, c', t, fz, ho _ _ _ h1, e1.trans h2, h3, h4, h5, fun i j e v x hx hy hz => (h6 i j e v x hx hy hz).mono hi hv, e2 h7, h8⟩)
  · rename_i nl sz xs hcon
    rcases h with ⟨h1, h2, h3⟩ | ⟨h1, h2, a, h3⟩ | ⟨h0, b, n, h1, h2, h3, h4⟩
    · exact .inl ⟨h1, h2, ho _ _ _ h3⟩
    · exact .inr (.inl ⟨h1, h2, a, ho _ _ _ h3⟩)
    · refine .inr (.inr ⟨h0, b, n, ho _ _ _ h1, h2, fun i j hi' hj => ?_, fun i j e v x hx hy hz => ?_⟩)
      · obtain ⟨v, hv'⟩ := h3 i j hi' hj; exact ⟨v, hi _ _ _ hv'⟩
      · obtain ⟨v', hv'⟩ := h3 i j (List.getElem?_eq_some_iff.1 hx).1 (by rw [← h2 i e hx]; exact (List.getElem?_eq_some_iff.1 hy).1)
        have := hi _ _ _ hv'; rw [hz] at this; cases this
        exact (h4 i j e _ x hx hy hv').mono hi hv
  · rename_i es hcon
    obtain ⟨b, sz, n, es', clk, h1, h2, h3, h4, h5, h6⟩ := h
    obtain ⟨e1, e2⟩ := hb b sz n (by simp [hcon, Con.live]) h1
    exact ⟨b, sz, n, es', clk, ho _ _ _ h1, e1.trans h2, h3, fun j e' e hx hy => ⟨(h4 j e' e hx hy).1, (h4 j e' e hx hy).2.mono hi hv⟩, e2 h5, h6⟩
  · rename_i s pos hcon
    obtain ⟨b, sz, n, h1, h2, h5, h6⟩ := h
    obtain ⟨e1, e2⟩ := hb b sz n (by simp [hcon, Con.live]) h1
    exact ⟨b, sz, n, ho _ _ _ h1, e1.trans h2, e2 h5, h6⟩

/-- A live object's block: it is there, of cells or a map or an iterator, from B on, and nothing in it is immutable. -/
theorem ObjR.block {im : Imm} {ob : Obm} {B : Nat} {w : World} {c : Loc} {o : AObj} (h : ObjR im ob B w c o) {b sz n : Nat} (hl : o.con.live) (hb : ob c o.ver = some (.blk b sz n)) :
    B ≤ b ∧ b < w.heap.size ∧ ∀ off, im b off = none := by
  unfold ObjR at h
  split at h
  · rename_i hcon; simp [hcon, Con.live] at hl
  · obtain ⟨b', sz', n', c', t, h1, h2, h3, h4, h5, h6⟩ := h
    rw [hb] at h1; cases h1
    exact ⟨h6.1, (Array.getElem?_eq_some_iff.1 h2).1, h5⟩
  · rcases h with ⟨_, _, h3⟩ | ⟨_, _, a, h3⟩ | ⟨_, b', n', c', t, fz, h1, h2, h3, h4, h5, h6, h7, h8⟩
    · rw [hb] at h3; cases h3
    · rw [hb] at h3; cases h3
    · rw [hb] at h1; cases h1; exact ⟨h8.1, (Array.getElem?_eq_some_iff.1 h2).1, h7⟩
  · rename_i hcon; simp [hcon, Con.live] at hl
  · obtain ⟨b', sz', n', es', clk, h1, h2, h3, h4, h5, h6⟩ := h
    rw [hb] at h1; cases h1
    exact ⟨h6, (Array.getElem?_eq_some_iff.1 h2).1, h5⟩
  · obtain ⟨b', sz', n', h1, h2, h5, h6⟩ := h
    rw [hb] at h1; cases h1
    exact ⟨h6, (Array.getElem?_eq_some_iff.1 h2).1, h5⟩

/-- What is fixed during one call. -/
structure Ctx where
  B : Nat
  w0 : World
  ro : Bool
  wc : World
  im0 : Imm
  ob0 : Obm
  nout : Nat
  h0 : Heap
  /-- What holds of every world that has grown out of the first. -/
  tabs : World → Prop
  tabsOk : ∀ w, Below B w0 w → tabs w
  /-- Blocks that are out of sight: they stay as they are. -/
  hid : Nat → Prop := fun _ => False

structure Inv (κ : Ctx) (im : Imm) (ob : Obm) (h : Heap) (w : World) : Prop where
  objs : ∀ c, ObjR im ob κ.B w c (h.obj c)
  inj : ∀ c c' b, owns h ob c b → owns h ob c' b → c = c'
  fresh : ∀ c v, (h.obj c).ver < v → ob c v = none
  freshG : ∀ i v, h.glob.length ≤ i → ob (.gl i) v = none
  imw : ∀ b off v, im b off = some v → w.cell? ⟨b, off, none⟩ = some v
  bel : Below κ.B κ.w0 w
  ble : κ.B ≤ w.heap.size
  size : κ.wc.heap.size ≤ w.heap.size
  nout : h.out.length = κ.nout
  curB : κ.ro = true → ∀ t b, owns h ob (.fr 0 t) b → κ.wc.heap.size ≤ b
  roB : κ.ro = true → Below κ.wc.heap.size κ.wc w
  roI : κ.ro = true → ∀ b off, b < κ.wc.heap.size → im b off = κ.im0 b off
  roO : κ.ro = true → ∀ c v, c.here = false → ob c v = κ.ob0 c v
  roH : κ.ro = true → ∀ c, c.here = false → h.obj c = κ.h0.obj c
  hidB : ∀ b, κ.hid b → b < κ.wc.heap.size ∧ w.heap[b]? = κ.wc.heap[b]?
  hidO : ∀ c b, owns h ob c b → ¬ κ.hid b
  hidM : ∀ b off, κ.hid b → im b off = none

theorem Inv.block {κ : Ctx} {im : Imm} {ob : Obm} {h : Heap} {w : World} (H : Inv κ im ob h w) {c : Loc} {b : Nat} (ho : owns h ob c b) : κ.B ≤ b ∧ b < w.heap.size ∧ ∀ off, im b off = none :=
  let ⟨hl, _, _, hb⟩ := ho
  (H.objs c).block hl hb

/-- No object changes: the world has grown, blocks of live objects are as they were. -/
theorem Inv.grow {κ : Ctx} {im im' : Imm} {ob : Obm} {h : Heap} {w w' : World} (H : Inv κ im ob h w) (hi : ImLe im im')
    (hb : Below w.heap.size w w')
    (hn : ∀ b off v, im' b off = some v → im b off = some v ∨ (w.heap.size ≤ b ∧ w'.cell? ⟨b, off, none⟩ = some v)) : Inv κ im' ob h w' := by
  have hsame : ∀ c b, owns h ob c b → w'.heap[b]? = w.heap[b]? := fun c b ho => hb.block b (H.block ho).2.1
  have hnone : ∀ b, b < w.heap.size → (∀ off, im b off = none) → ∀ off, im' b off = none := fun b hlt h0 off => by
    cases hx : im' b off with
    | none => rfl
    | some v =>
      rcases hn b off v hx with h1 | ⟨h1, _⟩
      · rw [h0 off] at h1; cases h1
      · omega
  refine ⟨fun c => (H.objs c).mono hi (ObLe.refl _) (fun b sz n hl hbk => ⟨hsame c b ⟨hl, sz, n, hbk⟩, hnone b (H.block ⟨hl, sz, n, hbk⟩).2.1⟩), H.inj, H.fresh, H.freshG, fun b off v hv => ?_,
    H.bel.trans (hb.mono H.ble), Nat.le_trans H.ble hb.size, Nat.le_trans H.size hb.size, H.nout, H.curB, fun hr => (H.roB hr).trans (hb.mono H.size), fun hr b off hlt => ?_, H.roO, H.roH, fun b hh => ⟨(H.hidB b hh).1, (hb.block b (Nat.lt_of_lt_of_le (H.hidB b hh).1 H.size)).trans (H.hidB b hh).2⟩, H.hidO, fun b off hh => hnone b (Nat.lt_of_lt_of_le (H.hidB b hh).1 H.size) (fun off => H.hidM b off hh) off⟩
  · rcases hn b off v hv with h1 | ⟨_, h1⟩
    · have h2 := H.imw b off v h1
      have hlt : b < w.heap.size := World.block_lt_of_cell? w ⟨b, off, none⟩ h2
      exact (World.cell?_of_block (w := w) (hb.block b hlt)).trans h2
    · exact h1
  · rw [← H.roI hr b off hlt]
    cases hx : im b off with
    | some v => exact hi _ _ _ hx
    | none =>
      cases hy : im' b off with
      | none => rfl
      | some v =>
        rcases hn b off v hy with h1 | ⟨h1, _⟩
        · rw [hx] at h1; cases h1
        · have := H.size; omega

/-- One object changes, at c: it has its own block (elder or new) or none. -/
theorem Inv.upd {κ : Ctx} {im im' : Imm} {ob ob' : Obm} {h h' : Heap} {w w' : World} (H : Inv κ im ob h w) (c : Loc) (o' : AObj)
    (hobj : ∀ c', h'.obj c' = if c' = c then o' else h.obj c') (hout : h'.out.length = h.out.length)
    (hi : ImLe im im') (ho : ObLe ob ob') (hoo : ∀ c' v, c' ≠ c → ob' c' v = ob c' v) (hfr : ∀ v, o'.ver < v → ob' c v = none)
    (hfg : ∀ i v, h'.glob.length ≤ i → ob' (.gl i) v = none)
    (hsz : w.heap.size ≤ w'.heap.size) (hos : w'.os = w.os) (htp : w'.tape = w.tape) (hop : w'.output = w.output)
    (hoth : ∀ b, b < w.heap.size → ¬ owns h ob c b → w'.heap[b]? = w.heap[b]?)
    (himn : ∀ b off v, im' b off = some v → im b off = some v ∨ ((w.heap.size ≤ b ∨ owns h ob c b) ∧ w'.cell? ⟨b, off, none⟩ = some v))
    (hnew : ObjR im' ob' κ.B w' c o') (hown : ∀ b sz n, o'.con.live → ob' c o'.ver = some (.blk b sz n) → w.heap.size ≤ b ∨ owns h ob c b)
    (hro : κ.ro = true → c.here = true) : Inv κ im' ob' h' w' := by
  have howns : ∀ c' b, c' ≠ c → (owns h' ob' c' b ↔ owns h ob c' b) := fun c' b hc => by
    unfold owns; rw [hobj c', if_neg hc, hoo c' _ hc]
  have hc : h'.obj c = o' := by rw [hobj c, if_pos rfl]
  have hown' : ∀ b, owns h' ob' c b → w.heap.size ≤ b ∨ owns h ob c b := fun b ⟨hl, sz, n, hb⟩ => by
    rw [hc] at hl hb; exact hown b sz n hl hb
  have hother : ∀ c' b, c' ≠ c → owns h ob c' b → b < w.heap.size ∧ ¬ owns h ob c b := fun c' b hne hb =>
    ⟨(H.block hb).2.1, fun hx => hne (H.inj _ _ _ hb hx)⟩
  have hcur : ∀ b, κ.ro = true → owns h ob c b → κ.wc.heap.size ≤ b := fun b hr hb => by
    have := hro hr
    match c, this, hb with
    | .fr 0 t, _, hb => exact H.curB hr t b hb
  refine ⟨fun c' => ?_, fun c1 c2 b h1 h2 => ?_, fun c' v hv => ?_, hfg, fun b off v hv => ?_, ?_, Nat.le_trans H.ble hsz, Nat.le_trans H.size hsz, hout.trans H.nout, fun hr t b hb => ?_, fun hr => ?_, fun hr b off hlt => ?_, fun hr c' v hh => ?_, fun hr c' hh => ?_, fun b hh => ?_, fun c' b hb hh => ?_, fun b off hh => ?_⟩
  · by_cases e : c' = c
    · subst e; rw [hc]; exact hnew
    · rw [hobj c', if_neg e]
      refine (H.objs c').mono hi ho (fun b sz n hl hb => ?_)
      have hob : owns h ob c' b := ⟨hl, sz, n, hb⟩
      obtain ⟨hlt, hnc⟩ := hother c' b e hob
      refine ⟨hoth b hlt hnc, fun h0 off => ?_⟩
      cases hx : im' b off with
      | none => rfl
      | some v =>
        rcases himn b off v hx with h1 | ⟨h1 | h1, _⟩
        · rw [h0 off] at h1; cases h1
        · omega
        · exact absurd h1 hnc
  · by_cases e1 : c1 = c
    · by_cases e2 : c2 = c
      · rw [e1, e2]
      · subst e1
        rw [howns c2 b e2] at h2
        obtain ⟨hlt, hnc⟩ := hother c2 b e2 h2
        rcases hown' b h1 with h3 | h3
        · omega
        · exact absurd h3 hnc
    · by_cases e2 : c2 = c
      · subst e2
        rw [howns c1 b e1] at h1
        obtain ⟨hlt, hnc⟩ := hother c1 b e1 h1
        rcases hown' b h2 with h3 | h3
        · omega
        · exact absurd h3 hnc
      · rw [howns c1 b e1] at h1; rw [howns c2 b e2] at h2; exact H.inj _ _ _ h1 h2
  · by_cases e : c' = c
    · subst e; rw [hc] at hv; exact hfr v hv
    · rw [hobj c', if_neg e] at hv; rw [hoo c' v e]; exact H.fresh c' v hv
  · rcases himn b off v hv with h1 | ⟨_, h1⟩
    · have h2 := H.imw b off v h1
      have hlt : b < w.heap.size := World.block_lt_of_cell? w ⟨b, off, none⟩ h2
      have hnc : ¬ owns h ob c b := fun hx => by have := (H.block hx).2.2 off; rw [h1] at this; cases this
      exact (World.cell?_of_block (w := w) (hoth b hlt hnc)).trans h2
    · exact h1
  · exact ⟨hos.trans H.bel.os, htp.trans H.bel.tape, hop.trans H.bel.output, Nat.le_trans H.bel.size hsz, fun k hk => by
      have hlt : k < w.heap.size := Nat.lt_of_lt_of_le hk H.ble
      have hnc : ¬ owns h ob c k := fun hx => by have := (H.block hx).1; omega
      exact (hoth k hlt hnc).trans (H.bel.block k hk)⟩
  · by_cases e : (Loc.fr 0 t) = c
    · subst e
      rcases hown' b hb with h3 | h3
      · exact Nat.le_trans H.size h3
      · exact H.curB hr t b h3
    · rw [howns _ b e] at hb; exact H.curB hr t b hb
  · have hb := H.roB hr
    exact ⟨hos.trans hb.os, htp.trans hb.tape, hop.trans hb.output, Nat.le_trans hb.size hsz, fun k hk => by
      have hlt : k < w.heap.size := Nat.lt_of_lt_of_le hk H.size
      have hnc : ¬ owns h ob c k := fun hx => by have := hcur k hr hx; omega
      exact (hoth k hlt hnc).trans (hb.block k hk)⟩
  · rw [← H.roI hr b off hlt]
    cases hx : im b off with
    | some v => exact hi _ _ _ hx
    | none =>
      cases hy : im' b off with
      | none => rfl
      | some v =>
        rcases himn b off v hy with h1 | ⟨h1 | h1, _⟩
        · rw [hx] at h1; cases h1
        · have := H.size; omega
        · have := hcur b hr h1; omega
  · have e : c' ≠ c := fun e => by subst e; rw [hro hr] at hh; cases hh
    rw [hoo c' v e]; exact H.roO hr c' v hh
  · have e : c' ≠ c := fun e => by subst e; rw [hro hr] at hh; cases hh
    rw [hobj c', if_neg e]; exact H.roH hr c' hh
  · have h1 := H.hidB b hh
    exact ⟨h1.1, (hoth b (Nat.lt_of_lt_of_le h1.1 H.size) fun hx => H.hidO c b hx hh).trans h1.2⟩
  · by_cases e : c' = c
    · subst e
      rcases hown' b hb with h3 | h3
      · have := (H.hidB b hh).1; have := H.size; omega
      · exact H.hidO _ b h3 hh
    · exact H.hidO c' b ((howns c' b e).1 hb) hh
  · cases hy : im' b off with
    | none => rfl
    | some v =>
      rcases himn b off v hy with h1 | ⟨h1 | h1, _⟩
      · rw [H.hidM b off hh] at h1; cases h1
      · have := (H.hidB b hh).1; have := H.size; omega
      · exact absurd hh (H.hidO c b h1)
end Go.AE
