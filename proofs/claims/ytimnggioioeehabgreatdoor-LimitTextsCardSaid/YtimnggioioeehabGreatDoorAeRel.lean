/- What an abstract value says of a value: 'V0'; how pointers are turned; what an abstract heap says of a world: 'HR'. -/
import Derived.Test.YtimnggioioeehabGreatDoorAeCore
import Derived.Below
namespace Go.AE
open Go.RowKit (Below)

/-- Cells that are never written again. -/
abbrev Imm := Nat → Nat → Option Value
/-- What a slice over an array object begins at: nil; an address without room; a block of n cells, sz an element. -/
inductive Base where
  | nil
  | ez (a : Addr)
  | blk (b sz n : Nat)
abbrev Obm := Loc → Nat → Option Base

inductive V0 (im : Imm) (ob : Obm) : Value → AV → Prop
  | undef (v : Value) : V0 im ob v .undef
  | bool (b : Bool) : V0 im ob (.bool b) (.bool b)
  | int (k : IntKind) (n : Int) : V0 im ob (.int k n) (.int k n)
  | str (s : ByteArray) : V0 im ob (.string s) (.str s)
  | nilp : V0 im ob (.pointer none) .nilp
  | bmark (v : Value) (t : TypeId) : V0 im ob v (.bmark t)
  | ptr (c : Loc) (v off b sz n : Nat) (h : ob c v = some (.blk b sz n)) : V0 im ob (.pointer (some ⟨b, off, none⟩)) (.ptr c v off)
  | eptr (c : Loc) (v i j b sz n : Nat) (h : ob c v = some (.blk b sz n)) : V0 im ob (.pointer (some ⟨b, i * sz + j, none⟩)) (.eptr c v i j)
  | cptr (b off : Nat) (cs : List AV) (h1 : ∀ j, j < cs.length → ∃ v, im b (off + j) = some v)
      (h2 : ∀ (j : Nat) (v : Value) (x : AV), im b (off + j) = some v → cs[j]? = some x → V0 im ob v x) : V0 im ob (.pointer (some ⟨b, off, none⟩)) (.cptr cs)
  | snil (sz : Nat) : V0 im ob (.slice none 0 0) (.sl true sz [])
  | sl (b off len cap : Nat) (xs : List (List AV)) (sz : Nat) (hl : xs.length = len) (hc : len ≤ cap) (hz : ∀ (i : Nat) (e : List AV), xs[i]? = some e → e.length = sz)
      (h1 : ∀ i j, i < xs.length → j < sz → ∃ v, im b (off + i * sz + j) = some v)
      (h2 : ∀ (i j : Nat) (e : List AV) (v : Value) (x : AV), xs[i]? = some e → e[j]? = some x → im b (off + i * sz + j) = some v → V0 im ob v x) :
      V0 im ob (.slice (some ⟨b, off, none⟩) len cap) (.sl false sz xs)
  | slE (a : Addr) (cap sz : Nat) : V0 im ob (.slice (some a) 0 cap) (.sl false sz [])
  | ez (a : Addr) : V0 im ob (.slice (some a) 0 0) .ez
  | rslN (c : Loc) (v : Nat) (h : ob c v = some .nil) : V0 im ob (.slice none 0 0) (.rsl c v 0 0)
  | rslE (c : Loc) (v : Nat) (a : Addr) (h : ob c v = some (.ez a)) : V0 im ob (.slice (some a) 0 0) (.rsl c v 0 0)
  | rsl (c : Loc) (v off len cap b sz n : Nat) (h : ob c v = some (.blk b sz n)) (hc : len ≤ cap) (hn : (off + cap) * sz ≤ n) :
      V0 im ob (.slice (some ⟨b, off * sz, none⟩) len cap) (.rsl c v off len)
  | nilm : V0 im ob (.map none) .nilm
  | mp (c : Loc) (v b sz n : Nat) (h : ob c v = some (.blk b sz n)) : V0 im ob (.map (some b)) (.mp c v)
  | fn (f : Fn) (first caps : Array Value) (fs cs : List AV) (h1 : first.size = fs.length) (h2 : caps.size = cs.length)
      (h3 : ∀ (j : Nat) (v : Value) (x : AV), first[j]? = some v → fs[j]? = some x → V0 im ob v x)
      (h4 : ∀ (j : Nat) (v : Value) (x : AV), caps[j]? = some v → cs[j]? = some x → V0 im ob v x) : V0 im ob (.func f first caps) (.fn f fs cs)
  | nilf : V0 im ob .nilFunc .nilf
  | ifc (t : TypeId) (v : Value) (x : AV) (h : V0 im ob v x) : V0 im ob (.iface t v) (.ifc t x)
  | nili : V0 im ob .nilIface .nili
  | agg (vs : Array Value) (cs : List AV) (h1 : vs.size = cs.length)
      (h2 : ∀ (j : Nat) (v : Value) (x : AV), vs[j]? = some v → cs[j]? = some x → V0 im ob v x) : V0 im ob (.agg vs) (.agg cs)
  | tup (vs : Array Value) (cs : List AV) (h1 : vs.size = cs.length)
      (h2 : ∀ (j : Nat) (v : Value) (x : AV), vs[j]? = some v → cs[j]? = some x → V0 im ob v x) : V0 im ob (.tuple vs) (.tup cs)

/-! ### mapO -/
theorem mapO_length {α β : Type} {f : α → Option β} : ∀ {l : List α} {r : List β}, mapO f l = some r → r.length = l.length
  | [], r, h => by simp [mapO] at h; subst h; rfl
  | a :: l, r, h => by
    simp only [mapO, Option.bind_eq_some_iff, Option.map_eq_some_iff] at h
    obtain ⟨x, _, y, hy, rfl⟩ := h
    simp [mapO_length hy]
theorem mapO_get {α β : Type} {f : α → Option β} : ∀ {l : List α} {r : List β}, mapO f l = some r → ∀ (j : Nat) (a : α), l[j]? = some a → ∃ b, r[j]? = some b ∧ f a = some b
  | [], r, h, j, a, ha => by simp at ha
  | a0 :: l, r, h, j, a, ha => by
    simp only [mapO, Option.bind_eq_some_iff, Option.map_eq_some_iff] at h
    obtain ⟨x, hx, y, hy, rfl⟩ := h
    cases j with
    | zero => simp at ha; subst ha; exact ⟨x, by simp, hx⟩
    | succ j => simp at ha; obtain ⟨b, hb, hf⟩ := mapO_get hy j a ha; exact ⟨b, by simpa using hb, hf⟩
theorem mapO_get' {α β : Type} {f : α → Option β} {l : List α} {r : List β} (h : mapO f l = some r) (j : Nat) (b : β) (hb : r[j]? = some b) : ∃ a, l[j]? = some a ∧ f a = some b := by
  have hl := mapO_length h
  have hj : j < l.length := by rw [← hl]; exact (List.getElem?_eq_some_iff.1 hb).1
  obtain ⟨c, hc, hf⟩ := mapO_get h j l[j] (by simp [hj])
  rw [hb] at hc; cases hc
  exact ⟨l[j], by simp [hj], hf⟩

theorem travL_eq (h : AV → Option AV) : ∀ l, AV.travL h l = mapO (AV.trav h) l
  | [] => by simp [AV.travL, mapO]
  | a :: l => by simp [AV.travL, mapO, travL_eq h l]
theorem travLL_eq (h : AV → Option AV) : ∀ l, AV.travLL h l = mapO (AV.travL h) l
  | [] => by simp [AV.travLL, mapO]
  | a :: l => by simp [AV.travLL, mapO, travLL_eq h l]

/-! ### more is known later -/
def ImLe (im im' : Imm) : Prop := ∀ b off v, im b off = some v → im' b off = some v
def ObLe (ob ob' : Obm) : Prop := ∀ c v x, ob c v = some x → ob' c v = some x
theorem ImLe.refl (im : Imm) : ImLe im im := fun _ _ _ h => h
theorem ObLe.refl (ob : Obm) : ObLe ob ob := fun _ _ _ h => h
theorem ImLe.trans {a b c : Imm} (h : ImLe a b) (k : ImLe b c) : ImLe a c := fun _ _ _ x => k _ _ _ (h _ _ _ x)
theorem ObLe.trans {a b c : Obm} (h : ObLe a b) (k : ObLe b c) : ObLe a c := fun _ _ _ x => k _ _ _ (h _ _ _ x)

/-- What h does to pointers is right: then what it does to values is. -/
theorem V0.trav {im im' : Imm} {ob ob' : Obm} {h : AV → Option AV} (hi : ImLe im im')
    (hp : ∀ c v off w y, V0 im ob w (.ptr c v off) → h (.ptr c v off) = some y → V0 im' ob' w y)
    (he : ∀ c v i j w y, V0 im ob w (.eptr c v i j) → h (.eptr c v i j) = some y → V0 im' ob' w y)
    (hr : ∀ c v off len w y, V0 im ob w (.rsl c v off len) → h (.rsl c v off len) = some y → V0 im' ob' w y)
    (hm : ∀ c v w y, V0 im ob w (.mp c v) → h (.mp c v) = some y → V0 im' ob' w y)
    {w : Value} {x : AV} (hw : V0 im ob w x) : ∀ {y : AV}, x.trav h = some y → V0 im' ob' w y := by
  induction hw with
  | undef v => intro y hy; simp [AV.trav] at hy; subst hy; exact .undef v
  | bool b => intro y hy; simp [AV.trav] at hy; subst hy; exact .bool b
  | int k n => intro y hy; simp [AV.trav] at hy; subst hy; exact .int k n
  | str s => intro y hy; simp [AV.trav] at hy; subst hy; exact .str s
  | nilp => intro y hy; simp [AV.trav] at hy; subst hy; exact .nilp
  | bmark v t => intro y hy; simp [AV.trav] at hy; subst hy; exact .bmark v t
  | ptr c v off b sz n hb => intro y hy; rw [AV.trav] at hy; exact hp _ _ _ _ _ (.ptr c v off b sz n hb) hy
  | eptr c v i j b sz n hb => intro y hy; rw [AV.trav] at hy; exact he _ _ _ _ _ _ (.eptr c v i j b sz n hb) hy
  | cptr b off cs h1 h2 ih =>
    intro y hy
    simp only [AV.trav, travL_eq, Option.map_eq_some_iff] at hy
    obtain ⟨ds, hds, rfl⟩ := hy
    have hl := mapO_length hds
    refine .cptr b off ds (fun j hj => ?_) (fun j v x hv hx => ?_)
    · obtain ⟨v, hv⟩ := h1 j (by omega); exact ⟨v, hi _ _ _ hv⟩
    · obtain ⟨a, ha, hf⟩ := mapO_get' hds j x hx
      obtain ⟨v', hv'⟩ := h1 j (by rw [← hl]; exact (List.getElem?_eq_some_iff.1 hx).1)
      have := hi _ _ _ hv'; rw [hv] at this; cases this
      exact ih j _ a hv' ha hf
  | snil sz => intro y hy; simp [AV.trav, AV.travLL] at hy; subst hy; exact .snil sz
  | sl b off len cap xs sz hl hc hz h1 h2 ih =>
    intro y hy
    simp only [AV.trav, travLL_eq, Option.map_eq_some_iff] at hy
    obtain ⟨ys, hys, rfl⟩ := hy
    have hyl := mapO_length hys
    refine .sl b off len cap ys sz (by omega) hc (fun i e he => ?_) (fun i j hi' hj => ?_) (fun i j e v x he hx hv => ?_)
    · obtain ⟨a, ha, hf⟩ := mapO_get' hys i e he
      rw [travL_eq] at hf
      rw [mapO_length hf]; exact hz i a ha
    · obtain ⟨v, hv⟩ := h1 i j (by omega) hj; exact ⟨v, hi _ _ _ hv⟩
    · obtain ⟨a, ha, hf⟩ := mapO_get' hys i e he
      rw [travL_eq] at hf
      obtain ⟨a2, ha2, hf2⟩ := mapO_get' hf j x hx
      have hi' : i < xs.length := (List.getElem?_eq_some_iff.1 ha).1
      have hj' : j < sz := by rw [← hz i a ha]; exact (List.getElem?_eq_some_iff.1 ha2).1
      obtain ⟨v', hv'⟩ := h1 i j hi' hj'
      have := hi _ _ _ hv'; rw [hv] at this; cases this
      exact ih i j a _ a2 ha ha2 hv' hf2
  | slE a cap sz => intro y hy; simp [AV.trav, AV.travLL] at hy; subst hy; exact .slE a cap sz
  | ez a => intro y hy; simp [AV.trav] at hy; subst hy; exact .ez a
  | rslN c v hb => intro y hy; rw [AV.trav] at hy; exact hr _ _ _ _ _ _ (.rslN c v hb) hy
  | rslE c v a hb => intro y hy; rw [AV.trav] at hy; exact hr _ _ _ _ _ _ (.rslE c v a hb) hy
  | rsl c v off len cap b sz n hb hc hn => intro y hy; rw [AV.trav] at hy; exact hr _ _ _ _ _ _ (.rsl c v off len cap b sz n hb hc hn) hy
  | nilm => intro y hy; simp [AV.trav] at hy; subst hy; exact .nilm
  | mp c v b sz n hb => intro y hy; rw [AV.trav] at hy; exact hm _ _ _ _ (.mp c v b sz n hb) hy
  | fn f first caps fs cs h1 h2 h3 h4 ih3 ih4 =>
    intro y hy
    simp only [AV.trav, travL_eq, Option.bind_eq_some_iff, Option.map_eq_some_iff] at hy
    obtain ⟨fs', hfs, cs', hcs, rfl⟩ := hy
    refine .fn f first caps fs' cs' (by rw [mapO_length hfs]; exact h1) (by rw [mapO_length hcs]; exact h2) (fun j v x hv hx => ?_) (fun j v x hv hx => ?_)
    · obtain ⟨a, ha, hf⟩ := mapO_get' hfs j x hx; exact ih3 j v a hv ha hf
    · obtain ⟨a, ha, hf⟩ := mapO_get' hcs j x hx; exact ih4 j v a hv ha hf
  | nilf => intro y hy; simp [AV.trav] at hy; subst hy; exact .nilf
  | ifc t v x hx ih =>
    intro y hy
    simp only [AV.trav, Option.map_eq_some_iff] at hy
    obtain ⟨a, ha, rfl⟩ := hy
    exact .ifc t v a (ih ha)
  | nili => intro y hy; simp [AV.trav] at hy; subst hy; exact .nili
  | agg vs cs h1 h2 ih =>
    intro y hy
    simp only [AV.trav, travL_eq, Option.map_eq_some_iff] at hy
    obtain ⟨ds, hds, rfl⟩ := hy
    refine .agg vs ds (by rw [mapO_length hds]; exact h1) (fun j v x hv hx => ?_)
    obtain ⟨a, ha, hf⟩ := mapO_get' hds j x hx; exact ih j v a hv ha hf
  | tup vs cs h1 h2 ih =>
    intro y hy
    simp only [AV.trav, travL_eq, Option.map_eq_some_iff] at hy
    obtain ⟨ds, hds, rfl⟩ := hy
    refine .tup vs ds (by rw [mapO_length hds]; exact h1) (fun j v x hv hx => ?_)
    obtain ⟨a, ha, hf⟩ := mapO_get' hds j x hx; exact ih j v a hv ha hf

/-- Turning the places alone. -/
theorem V0.mapLoc {im im' : Imm} {ob ob' : Obm} {g : Loc → Option Loc} (hi : ImLe im im') (hg : ∀ c c' v x, g c = some c' → ob c v = some x → ob' c' v = some x)
    {w : Value} {x y : AV} (hw : V0 im ob w x) (hy : x.trav (AV.mapLoc g) = some y) : V0 im' ob' w y := by
  refine V0.trav hi ?_ ?_ ?_ ?_ hw hy
  · intro c v off w y hw hy
    simp only [AV.mapLoc, Option.map_eq_some_iff] at hy
    obtain ⟨c', hc, rfl⟩ := hy
    cases hw with | ptr c v off b sz n hb => exact .ptr c' v off b sz n (hg _ _ _ _ hc hb)
  · intro c v i j w y hw hy
    simp only [AV.mapLoc, Option.map_eq_some_iff] at hy
    obtain ⟨c', hc, rfl⟩ := hy
    cases hw with | eptr c v i j b sz n hb => exact .eptr c' v i j b sz n (hg _ _ _ _ hc hb)
  · intro c v off len w y hw hy
    simp only [AV.mapLoc, Option.map_eq_some_iff] at hy
    obtain ⟨c', hc, rfl⟩ := hy
    cases hw with
    | rslN c v hb => exact .rslN c' v (hg _ _ _ _ hc hb)
    | rslE c v a hb => exact .rslE c' v a (hg _ _ _ _ hc hb)
    | rsl c v off len cap b sz n hb hcap hn => exact .rsl c' v off len cap b sz n (hg _ _ _ _ hc hb) hcap hn
  · intro c v w y hw hy
    simp only [AV.mapLoc, Option.map_eq_some_iff] at hy
    obtain ⟨c', hc, rfl⟩ := hy
    cases hw with | mp c v b sz n hb => exact .mp c' v b sz n (hg _ _ _ _ hc hb)

mutual
theorem trav_id (x : AV) : x.trav (AV.mapLoc some) = some x := by
  cases x <;> simp [AV.trav, AV.mapLoc, travL_id, travLL_id, trav_id]
theorem travL_id (l : List AV) : AV.travL (AV.mapLoc some) l = some l := by
  cases l <;> simp [AV.travL, travL_id, trav_id]
theorem travLL_id (l : List (List AV)) : AV.travLL (AV.mapLoc some) l = some l := by
  cases l <;> simp [AV.travLL, travL_id, travLL_id]
end

theorem V0.mono {im im' : Imm} {ob ob' : Obm} (hi : ImLe im im') (ho : ObLe ob ob') {w : Value} {x : AV} (hw : V0 im ob w x) : V0 im' ob' w x :=
  V0.mapLoc (g := some) hi (fun c c' v x hc hx => by cases hc; exact ho _ _ _ hx) hw (trav_id x)

/-- As an object's frame sees the places. -/
def view : Loc → Obm → Obm
  | .fr l _, ob => fun | .fr l' t => ob (.fr (l + l') t) | .gl i => ob (.gl i)
  | .gl _, ob => fun | .fr _ _ => fun _ => none | .gl i => ob (.gl i)
theorem view_mono {ob ob' : Obm} (c : Loc) (h : ObLe ob ob') : ObLe (view c ob) (view c ob') := by
  intro c' v x hx
  cases c <;> cases c' <;> simp only [view] at hx ⊢ <;> first | exact h _ _ _ hx | cases hx

theorem V0.from_ {im : Imm} {ob : Obm} {c : Loc} {w : Value} {x y : AV} (hw : V0 im (view c ob) w x) (hy : c.from x = some y) : V0 im ob w y := by
  cases c with
  | fr l t =>
    refine V0.mapLoc (ImLe.refl _) (fun c c' v x hc hx => ?_) hw hy
    cases c with
    | fr l' t' => simp only [Loc.up, Option.some.injEq] at hc; subst hc; simpa [view, Nat.add_comm] using hx
    | gl i => simp only [Loc.up, Option.some.injEq] at hc; subst hc; simpa [view] using hx
  | gl i =>
    simp only [Loc.from, Option.some.injEq] at hy; subst hy
    refine V0.mapLoc (g := some) (ImLe.refl _) (fun c c' v x hc hx => ?_) hw (trav_id _)
    cases hc
    cases c with
    | fr l' t' => simp [view] at hx
    | gl i => simpa [view] using hx
theorem V0.into {im : Imm} {ob : Obm} {c : Loc} {w : Value} {x y : AV} (hw : V0 im ob w x) (hy : c.into x = some y) : V0 im (view c ob) w y := by
  cases c with
  | fr l t =>
    refine V0.mapLoc (ImLe.refl _) (fun c c' v x hc hx => ?_) hw hy
    cases c with
    | fr l' t' =>
      simp only [Loc.down] at hc
      split at hc
      · rename_i hle; simp only [Option.some.injEq] at hc; subst hc
        simp only [view]; rw [show l + (l' - l) = l' from by omega]; exact hx
      · cases hc
    | gl i => simp only [Loc.down, Option.some.injEq] at hc; subst hc; simpa [view] using hx
  | gl i =>
    refine V0.mapLoc (ImLe.refl _) (fun c c' v x hc hx => ?_) hw hy
    cases c with
    | fr l' t' => simp [Loc.free] at hc
    | gl i => simp only [Loc.free, Option.some.injEq] at hc; subst hc; simpa [view] using hx

/-- A callee's view of the places; a caller's view of what a callee leaves. -/
def obPush (ob : Obm) : Obm
  | .fr 0 _ => fun _ => none
  | .fr (l + 1) t => ob (.fr l t)
  | .gl i => ob (.gl i)
def obPop (ob : Obm) : Obm
  | .fr l t => ob (.fr (l + 1) t)
  | .gl i => ob (.gl i)
theorem obPop_push (ob : Obm) : obPop (obPush ob) = ob := by funext c v; cases c <;> rfl
theorem V0.push {im : Imm} {ob : Obm} {w : Value} {x y : AV} (hw : V0 im ob w x) (hy : x.trav (AV.mapLoc Loc.push) = some y) : V0 im (obPush ob) w y := by
  refine V0.mapLoc (ImLe.refl _) (fun c c' v x hc hx => ?_) hw hy
  cases c <;> simp only [Loc.push, Option.some.injEq] at hc <;> subst hc <;> simpa [obPush] using hx
theorem V0.pop {im : Imm} {ob : Obm} {w : Value} {x y : AV} (hw : V0 im ob w x) (hy : x.trav (AV.mapLoc Loc.pop) = some y) : V0 im (obPop ob) w y := by
  refine V0.mapLoc (ImLe.refl _) (fun c c' v x hc hx => ?_) hw hy
  match c, hc with
  | .fr (l + 1) t, hc => simp only [Loc.pop, Option.some.injEq] at hc; subst hc; simpa [obPop] using hx
  | .gl i, hc => simp only [Loc.pop, Option.some.injEq] at hc; subst hc; simpa [obPop] using hx
end Go.AE
