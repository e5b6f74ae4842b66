/- Back from a callee; every operation's 'wp'. -/
import Derived.Test.YtimnggioioeehabGreatDoorAeCall
namespace Go.AE
open Go.RowKit (Below)

variable {P : Program} {κ : Ctx} {im : Imm} {ob : Obm} {h : Heap} {w : World}

theorem popped_fr {h' : Heap} {cur : Frame} {out : List Frame} (ho : h'.out = cur :: out) (l t : Nat) : ({ cur, out, glob := h'.glob } : Heap).obj (.fr l t) = h'.obj (.fr (l + 1) t) := by
  cases l <;> simp [Heap.obj, ho]

theorem Inv.popIm (H : Inv κ im ob h w) {ro : Bool} (hr : κ.ro = true → ro = true) {im' : Imm} {ob' : Obm} {h' : Heap} {w' : World} (H' : Inv (pushCtx κ ro im ob h w) im' ob' h' w') {cur : Frame} {out : List Frame} (ho : h'.out = cur :: out) {im2 : Imm} (hle : ImLe im' im2)
    (hnone : ∀ (c : Loc) (b sz n : Nat), c.here = false → (h'.obj c).con.live → ob' c (h'.obj c).ver = some (.blk b sz n) → (∀ off, im' b off = none) → ∀ off, im2 b off = none)
    (himw : ∀ b off v, im2 b off = some v → w'.cell? ⟨b, off, none⟩ = some v) (hold : κ.ro = true → ∀ b off, b < w.heap.size → im2 b off = im' b off) (hhid : ∀ b off, κ.hid b → im2 b off = none) :
    Inv κ im2 (obPop ob') { cur, out, glob := h'.glob } w' := by
  have hobj : ∀ c : Loc, c.here = false → ObjR im2 ob' κ.B w' c (h'.obj c) := fun c hc =>
    (H'.objs c).mono hle (ObLe.refl _) (fun b sz n hl hb => ⟨rfl, hnone c b sz n hc hl hb⟩)
  have hown : ∀ c b, owns { cur, out, glob := h'.glob } (obPop ob') c b → (∃ l t, c = .fr l t ∧ owns h' ob' (.fr (l + 1) t) b) ∨ (∃ i, c = .gl i ∧ owns h' ob' (.gl i) b) := by
    intro c b hb
    match c with
    | .fr l t => exact .inl ⟨l, t, rfl, by unfold owns at hb ⊢; rw [popped_fr ho] at hb; exact hb⟩
    | .gl i => exact .inr ⟨i, rfl, hb⟩
  have hro : κ.ro = true → (pushCtx κ ro im ob h w).ro = true := hr
  refine ⟨fun c => ?_, fun c c' b h1 h2 => ?_, fun c v hv => ?_, fun i v hi => H'.freshG i v hi, fun b off v hv => ?_, H'.bel, H'.ble, Nat.le_trans H.size H'.size, ?_, fun hk t b hb => ?_, fun hk => ?_, fun hk b off hlt => ?_, fun hk c v hc => ?_, fun hk c hc => ?_, fun b hh => ⟨(H.hidB b hh).1, ((H'.hidB b hh).2).trans (H.hidB b hh).2⟩, fun c b hb hh => ?_, hhid⟩
  · match c with
    | .fr l t => rw [popped_fr ho]; exact (hobj (.fr (l + 1) t) rfl).ofEq (view_pop_fr ob' l t) rfl
    | .gl i => exact (hobj (.gl i) rfl).ofEq (view_pop_gl ob' i) rfl
  · rcases hown c b h1 with ⟨l, t, rfl, o1⟩ | ⟨i, rfl, o1⟩ <;> rcases hown c' b h2 with ⟨l', t', rfl, o2⟩ | ⟨i', rfl, o2⟩
    · have := H'.inj _ _ _ o1 o2; cases this; rfl
    · have := H'.inj _ _ _ o1 o2; cases this
    · have := H'.inj _ _ _ o1 o2; cases this
    · exact H'.inj _ _ _ o1 o2
  · match c with
    | .fr l t => rw [popped_fr ho] at hv; exact H'.fresh (.fr (l + 1) t) v hv
    | .gl i => exact H'.fresh (.gl i) v hv
  · exact himw _ _ _ hv
  · have := H'.nout
    rw [ho] at this
    simpa [pushCtx] using this
  · have e1 := H'.roH (hro hk) (.fr 1 t) rfl
    have e2 : (pushCtx κ ro im ob h w).h0.obj (.fr 1 t) = h.obj (.fr 0 t) := pushed_fr h 0 t
    refine H.curB hk t b ?_
    unfold owns at hb ⊢
    rw [popped_fr ho] at hb
    simp only [Nat.zero_add] at hb
    rw [e1, e2] at hb
    obtain ⟨hl, sz, n, hx⟩ := hb
    exact ⟨hl, sz, n, (H'.roO (hro hk) (.fr 1 t) _ rfl).symm.trans hx⟩
  · exact (H.roB hk).trans ((H'.roB (hro hk)).mono H.size)
  · have hlt' : b < w.heap.size := Nat.lt_of_lt_of_le hlt H.size
    rw [hold hk b off hlt', H'.roI (hro hk) b off hlt']
    exact H.roI hk b off hlt
  · match c, hc with
    | .fr (l + 1) t, hc => exact (H'.roO (hro hk) (.fr (l + 2) t) v rfl).trans (H.roO hk (.fr (l + 1) t) v rfl)
    | .gl i, hc => exact (H'.roO (hro hk) (.gl i) v rfl).trans (H.roO hk (.gl i) v rfl)
  · match c, hc with
    | .fr (l + 1) t, hc =>
      rw [popped_fr ho, H'.roH (hro hk) (.fr (l + 2) t) rfl]
      exact (pushed_fr h (l + 1) t).trans (H.roH hk (.fr (l + 1) t) rfl)
    | .gl i, hc => exact (H'.roH (hro hk) (.gl i) rfl).trans (H.roH hk (.gl i) rfl)
  · rcases hown c b hb with ⟨l, t, rfl, o1⟩ | ⟨i, rfl, o1⟩ <;> exact H'.hidO _ _ o1 hh

theorem Inv.pop (H : Inv κ im ob h w) {ro : Bool} (hr : κ.ro = true → ro = true) {im' : Imm} {ob' : Obm} {h' : Heap} {w' : World} (H' : Inv (pushCtx κ ro im ob h w) im' ob' h' w') {cur : Frame} {out : List Frame} (ho : h'.out = cur :: out) :
    Inv κ (imLeft im' ob' h' w') (obPop ob') { cur, out, glob := h'.glob } w' := by
  refine H.popIm hr H' ho (imLeft_le H') (fun c b sz n hc hl hb h0 off => ?_) (fun b off v hv => ?_) (fun hk b off hlt => ?_) (fun b off hh => ?_)
  · unfold imLeft
    rw [if_neg]
    · exact h0 off
    · rintro ⟨t, ht, _⟩
      have := H'.inj _ _ _ ht ⟨hl, sz, n, hb⟩
      subst this
      cases hc
  · rcases imLeft_new H' hv with h1 | ⟨_, h1⟩
    · exact H'.imw _ _ _ h1
    · exact h1
  · unfold imLeft
    rw [if_neg]
    rintro ⟨t, ht, _⟩
    have : w.heap.size ≤ b := H'.curB (hr hk) t b ht
    omega
  · unfold imLeft
    rw [if_neg]
    · exact H'.hidM b off hh
    · rintro ⟨t, ht, _⟩
      exact H'.hidO _ _ ht hh

/-- A block that no object has becomes a new object's. -/
theorem Inv.adopt (H : Inv κ im ob h w) (t : Nat) (k : Con) (x : Base) (hx : ∀ b sz n, x = .blk b sz n → (∀ c, ¬ owns h ob c b) ∧ (κ.ro = true → κ.wc.heap.size ≤ b)) (hxh : ∀ b sz n, x = .blk b sz n → ¬ κ.hid b)
    (hnew : ObLe ob (obUpd ob (h.alloc false t k).1 (h.alloc false t k).2.1 x) → ObjR im (obUpd ob (h.alloc false t k).1 (h.alloc false t k).2.1 x) κ.B w (h.alloc false t k).1 ⟨(h.alloc false t k).2.1, k⟩) :
    Inv κ im (obUpd ob (h.alloc false t k).1 (h.alloc false t k).2.1 x) (h.alloc false t k).2.2 w ∧ ObLe ob (obUpd ob (h.alloc false t k).1 (h.alloc false t k).2.1 x) := by
  have hfr := H.fresh_alloc false t k
  have hle : ObLe ob (obUpd ob (h.alloc false t k).1 (h.alloc false t k).2.1 x) := obUpd_le x (hfr _ (Nat.le_refl _))
  have hobj := obj_alloc h false t k
  have hhere := alloc_here h t k
  generalize hq : h.alloc false t k = q at *
  have hoo : ∀ c' v, c' ≠ q.1 → obUpd ob q.1 q.2.1 x c' v = ob c' v := fun c' v hc => by unfold obUpd; rw [if_neg (fun e => hc e.1)]
  have howns : ∀ c' b, c' ≠ q.1 → (owns q.2.2 (obUpd ob q.1 q.2.1 x) c' b ↔ owns h ob c' b) := fun c' b hc => by
    unfold owns; rw [hobj c', if_neg hc, hoo c' _ hc]
  have hown' : ∀ b, owns q.2.2 (obUpd ob q.1 q.2.1 x) q.1 b → (∀ c, ¬ owns h ob c b) ∧ (κ.ro = true → κ.wc.heap.size ≤ b) := fun b ⟨_, sz, n, hb⟩ => by
    rw [hobj, if_pos rfl] at hb
    simp only [obUpd_same, Option.some.injEq] at hb
    exact hx b sz n hb
  refine ⟨⟨fun c' => ?_, fun c1 c2 b h1 h2 => ?_, fun c' v hv => ?_, fun i v hi => ?_, H.imw, H.bel, H.ble, H.size, ?_, fun hr t' b hb => ?_, H.roB, H.roI, fun hr c v hc => ?_, fun hr c hc => ?_, H.hidB, fun c' b hb hh => ?_, H.hidM⟩, hle⟩
  · by_cases e : c' = q.1
    · subst e; rw [hobj, if_pos rfl]; exact hnew hle
    · rw [hobj, if_neg e]
      exact (H.objs c').mono (ImLe.refl _) hle (fun b sz n hl hb => ⟨rfl, id⟩)
  · by_cases e1 : c1 = q.1
    · by_cases e2 : c2 = q.1
      · rw [e1, e2]
      · subst e1
        exact absurd ((howns c2 b e2).1 h2) ((hown' b h1).1 c2)
    · by_cases e2 : c2 = q.1
      · subst e2
        exact absurd ((howns c1 b e1).1 h1) ((hown' b h2).1 c1)
      · rw [howns c1 b e1] at h1; rw [howns c2 b e2] at h2; exact H.inj _ _ _ h1 h2
  · by_cases e : c' = q.1
    · subst e
      rw [hobj, if_pos rfl] at hv
      unfold obUpd; rw [if_neg (fun e => by have := e.2; simp at hv; omega)]; exact hfr v (by simp at hv; omega)
    · rw [hobj, if_neg e] at hv; rw [hoo c' v e]; exact H.fresh c' v hv
  · have e : (Loc.gl i) ≠ q.1 := fun e => by rw [← e] at hhere; cases hhere
    rw [hoo _ v e]
    exact H.freshG i v (by rw [← hq] at hi; simpa [Heap.alloc] using hi)
  · rw [← hq, out_alloc]; exact H.nout
  · by_cases e : (Loc.fr 0 t') = q.1
    · rw [e] at hb; exact (hown' b hb).2 hr
    · rw [howns _ b e] at hb; exact H.curB hr t' b hb
  · have e : c ≠ q.1 := fun e => by rw [← e] at hhere; rw [hhere] at hc; cases hc
    rw [hoo c v e]; exact H.roO hr c v hc
  · have e : c ≠ q.1 := fun e => by rw [← e] at hhere; rw [hhere] at hc; cases hc
    rw [hobj, if_neg e]; exact H.roH hr c hc
  · by_cases e : c' = q.1
    · subst e
      obtain ⟨_, sz, n, hb⟩ := hb
      rw [hobj, if_pos rfl] at hb
      simp only [obUpd_same, Option.some.injEq] at hb
      exact hxh b sz n hb hh
    · exact H.hidO c' b ((howns c' b e).1 hb) hh

theorem pop_run {v : Value} {x y : AV} (hV : V0 im ob v x) (hy : x.trav (AV.mapLoc Loc.pop) = some y) : V0 im (obPop ob) v y :=
  V0.mapLoc (ImLe.refl _) (fun c c' v x hc hx => by
    cases c with
    | fr l t =>
      cases l with
      | zero => simp [Loc.pop] at hc
      | succ l => simp only [Loc.pop, Option.some.injEq] at hc; subst hc; exact hx
    | gl i => simp only [Loc.pop, Option.some.injEq] at hc; subst hc; exact hx) hV hy

theorem moveAll_run (H : Inv κ im ob h w) {ro : Bool} (hr : κ.ro = true → ro = true) {im' : Imm} {ob' : Obm} {h' : Heap} {w' : World} (H' : Inv (pushCtx κ ro im ob h w) im' ob' h' w') {st1 : Heap} (Hp : Inv κ im' (obPop ob') st1 w')
    (hown : ∀ c b, owns st1 (obPop ob') c b → ∃ c', c'.here = false ∧ owns h' ob' c' b) {slot : Nat} : ∀ (xs : List AV) (vs : List Value) (ys : List AV) (st2 : Heap), vs.length = xs.length → (∀ (j : Nat) v x, vs[j]? = some v → xs[j]? = some x → V0 im' ob' v x) →
      moveAll h'.cur st1 slot xs = some (ys, st2) → ∃ ob2, Inv κ im' ob2 st2 w' ∧ ObLe (obPop ob') ob2 ∧ vs.length = ys.length ∧ ∀ (j : Nat) v x, vs[j]? = some v → ys[j]? = some x → V0 im' ob2 v x
  | [], vs, ys, st2, hl, hv, hy => by
    simp only [moveAll, Option.some.injEq, Prod.mk.injEq] at hy
    obtain ⟨rfl, rfl⟩ := hy
    exact ⟨_, Hp, ObLe.refl _, hl, by simp⟩
  | a :: r, [], ys, st2, hl, hv, hy => by simp at hl
  | a :: r, v0 :: vs, ys, st2, hl, hv, hy => by
    have hV := hv 0 v0 a rfl rfl
    have plain : ((a.trav (AV.mapLoc Loc.pop)).bind fun b => (moveAll h'.cur st1 slot r).map fun q => (b :: q.1, q.2)) = some (ys, st2) →
        ∃ ob2, Inv κ im' ob2 st2 w' ∧ ObLe (obPop ob') ob2 ∧ (v0 :: vs).length = ys.length ∧ ∀ (j : Nat) v x, (v0 :: vs)[j]? = some v → ys[j]? = some x → V0 im' ob2 v x := by
      intro hy
      simp only [Option.bind_eq_some_iff, Option.map_eq_some_iff, Prod.mk.injEq] at hy
      obtain ⟨b, hb, ⟨qs, q2⟩, hq, rfl, rfl⟩ := hy
      obtain ⟨ob2, g1, g2, g3, g4⟩ := moveAll_run H hr H' Hp hown r vs qs q2 (by simpa using hl) (fun j v x h1 h2 => hv (j + 1) v x (by simpa using h1) (by simpa using h2)) hq
      refine ⟨ob2, g1, g2, by simp [g3], fun j v x h1 h2 => ?_⟩
      cases j with
      | zero => simp only [List.getElem?_cons_zero, Option.some.injEq] at h1 h2; subst h1 h2; exact (pop_run hV hb).mono (ImLe.refl _) g2
      | succ j => exact g4 j v x (by simpa using h1) (by simpa using h2)
    unfold moveAll at hy
    split at hy
    · rename_i t ver off len
      split at hy
      case isFalse => cases hy
      rename_i hcnd
      obtain ⟨hver, rfl⟩ := hcnd
      split at hy
      · rename_i nl sz xs hk
        split at hy
        case isFalse => cases hy
        rename_i hlen
        obtain ⟨hlen, hbt, hbt2⟩ := hlen
        simp only [Option.bind_eq_some_iff, Option.map_eq_some_iff, Prod.mk.injEq] at hy
        obtain ⟨zs, hzs, bs, hbs, rfl, rfl⟩ := hy
        have hobj : h'.obj (.fr 0 t) = h'.cur t := rfl
        have hzl : zs.length = xs.length := mapO_length hzs
        have ho := H'.objs (.fr 0 t)
        have hvw : view (.fr 0 t) ob' = ob' := by
          funext c v
          cases c with
          | fr l' t2 => simp [view]
          | gl i => rfl
        have hvw2 : ∀ ob2 : Obm, view (.fr 0 slot) ob2 = ob2 := fun ob2 => by
          funext c v
          cases c with
          | fr l' t2 => simp [view]
          | gl i => rfl
        have hrest : ∀ ob2, ObLe (obPop ob') ob2 → ∀ (j : Nat) v x, vs[j]? = some v → bs[j]? = some x → V0 im' ob2 v x := fun ob2 h2 j v x h3 h4 => by
          obtain ⟨q, hq, hg⟩ := mapO_get' hbs j x h4
          exact (pop_run (hv (j + 1) v q (by simpa using h3) (by simpa using hq)) hg).mono (ImLe.refl _) h2
        have fin : ∀ (x : Base) (ob2 : Obm), ob2 = obUpd (obPop ob') (st1.alloc false slot (.arr nl sz zs)).1 (st1.alloc false slot (.arr nl sz zs)).2.1 x → Inv κ im' ob2 (st1.alloc false slot (.arr nl sz zs)).2.2 w' → ObLe (obPop ob') ob2 →
            V0 im' ob2 v0 (.rsl (st1.alloc false slot (.arr nl sz zs)).1 (st1.alloc false slot (.arr nl sz zs)).2.1 0 len) →
            ∃ ob2, Inv κ im' ob2 (st1.alloc false slot (.arr nl sz zs)).2.2 w' ∧ ObLe (obPop ob') ob2 ∧ (v0 :: vs).length = (AV.rsl (st1.alloc false slot (.arr nl sz zs)).1 (st1.alloc false slot (.arr nl sz zs)).2.1 0 len :: bs).length ∧
              ∀ (j : Nat) v x, (v0 :: vs)[j]? = some v → (AV.rsl (st1.alloc false slot (.arr nl sz zs)).1 (st1.alloc false slot (.arr nl sz zs)).2.1 0 len :: bs)[j]? = some x → V0 im' ob2 v x := by
          intro x ob2 _ g1 g2 g3
          refine ⟨ob2, g1, g2, by simp at hl; simp [mapO_length hbs, hl], fun j v x h1 h2 => ?_⟩
          cases j with
          | zero => simp only [List.getElem?_cons_zero, Option.some.injEq] at h1 h2; subst h1 h2; exact g3
          | succ j => exact hrest ob2 g2 j v x (by simpa using h1) (by simpa using h2)
        have hloc : (st1.alloc false slot (.arr nl sz zs)).1 = .fr 0 slot := rfl
        unfold ObjR at ho
        rw [hobj, hk, hver] at ho
        simp only at ho
        rcases hV.rsl_inv with ⟨rfl, hb⟩ | ⟨a, rfl, hb⟩ | ⟨cap, b, sz', n, rfl, hb, hc, hn⟩
        · rcases ho with ⟨h1, h2, h3⟩ | ⟨_, _, a, h3⟩ | ⟨_, b, n, c', T, fz, h1, _⟩
          · subst h1 h2
            have hz0 : zs = [] := by simpa using hzl
            subst hz0
            have hl0 : len = 0 := by simpa using hlen
            subst hl0
            obtain ⟨g1, g2⟩ := Hp.adopt slot (.arr true sz []) .nil (fun _ _ _ e => by cases e) (fun _ _ _ e => by cases e) (fun _ => .inl ⟨rfl, rfl, obUpd_same _ _ _ _⟩)
            exact fin .nil _ rfl g1 g2 (.rslN _ _ (obUpd_same _ _ _ _))
          · rw [hb] at h3; cases h3
          · rw [hb] at h1; cases h1
        · rcases ho with ⟨_, _, h3⟩ | ⟨h1, h2, a', h3⟩ | ⟨_, b, n, c', T, fz, h1, _⟩
          · rw [hb] at h3; cases h3
          · subst h1 h2
            have hz0 : zs = [] := by simpa using hzl
            subst hz0
            have hl0 : len = 0 := by simpa using hlen
            subst hl0
            obtain ⟨g1, g2⟩ := Hp.adopt slot (.arr false sz []) (.ez a) (fun _ _ _ e => by cases e) (fun _ _ _ e => by cases e) (fun _ => .inr (.inl ⟨rfl, rfl, a, obUpd_same _ _ _ _⟩))
            exact fin (.ez a) _ rfl g1 g2 (.rslE _ _ a (obUpd_same _ _ _ _))
          · rw [hb] at h1; cases h1
        · rcases ho with ⟨_, _, h3⟩ | ⟨_, _, a', h3⟩ | ⟨h0, b', n', cur, T, fz, h1, h2, h3, h4, h5, h6, h7, h8⟩
          · rw [hb] at h3; cases h3
          · rw [hb] at h3; cases h3
          rw [hb] at h1; cases h1
          subst h0
          have hob : owns h' ob' (.fr 0 t) b := ⟨by rw [hobj, hk]; simp [Con.live], sz, n, by rw [hobj, hver]; exact hb⟩
          obtain ⟨g1, g2⟩ := Hp.adopt slot (.arr false sz zs) (.blk b sz n) (fun b2 sz2 n2 e => by
            cases e
            refine ⟨fun c hc => ?_, fun hk => ?_⟩
            · obtain ⟨c', hc', ho'⟩ := hown c b hc
              have := H'.inj _ _ _ hob ho'
              subst this; cases hc'
            · exact Nat.le_trans H.size (H'.curB (hr hk) t b hob)) (fun b2 sz2 n2 e => by cases e; exact H'.hidO _ _ hob) (fun hle => by
            refine .inr (.inr ⟨rfl, b, n, cur, T, fz, obUpd_same _ _ _ _, h2, h3, by rw [hzl]; exact h4, fun i e he => ?_, fun i j e v x he hx hv => ?_, h7, h8.1, fun τ hτ => (by rw [hloc, hbt] at hτ; cases hτ), fun _ => h8.2.2.1 hbt2, by rw [hzl]; exact h8.2.2.2⟩)
            · obtain ⟨q, hq, hg⟩ := mapO_get' hzs i e he
              rw [mapO_length hg]; exact h5 i q hq
            · obtain ⟨q, hq, hg⟩ := mapO_get' hzs i e he
              obtain ⟨q2, hq2, hg2⟩ := mapO_get' hg j x hx
              have := h6 i j q v q2 hq hq2 hv
              rw [hvw] at this
              rw [hloc, hvw2]
              exact (pop_run this hg2).mono (ImLe.refl _) hle)
          refine fin (.blk b sz n) _ rfl g1 g2 ?_
          exact .rsl _ _ 0 len cap b sz n (obUpd_same _ _ _ _) hc hn
      · cases hy
    · exact plain hy

theorem land_run (H : Inv κ im ob h w) {ro : Bool} (hr : κ.ro = true → ro = true) {im' : Imm} {ob' : Obm} {h' h2 : Heap} {w' : World} (H' : Inv (pushCtx κ ro im ob h w) im' ob' h' w') (hi : ImLe im im') (ho : ObLe (obPush ob) ob')
    {v : Value} {r y : AV} (hV : V0 im' ob' v r) {mu draw : Bool} {slot : Nat} (hd : draw = true → ro = true) (hy : landOf h mu draw slot (r, h') = some (y, h2)) :
    ∃ im2 ob2, V0 im2 ob2 v y ∧ Inv κ im2 ob2 h2 w' ∧ ImLe im im2 ∧ ObLe ob ob2 := by
  unfold landOf at hy
  split at hy
  · rename_i hdr
    have hro : (pushCtx κ ro im ob h w).ro = true := hd hdr
    simp only [Option.map_eq_some_iff, Prod.mk.injEq] at hy
    obtain ⟨z, hz, rfl, rfl⟩ := hy
    have hpop : obPop ob' = ob := by
      funext c v
      match c with
      | .fr l t => exact H'.roO hro (.fr (l + 1) t) v rfl
      | .gl i => exact H'.roO hro (.gl i) v rfl
    have hz' := retV_run H' 3 v r z hV hz
    rw [hpop] at hz'
    refine ⟨_, ob, hz', H.grow (hi.trans (imLeft_le H')) (H'.roB hro) (fun b off v hv => ?_), hi.trans (imLeft_le H'), ObLe.refl _⟩
    rcases imLeft_new H' hv with h1 | ⟨⟨t, ht⟩, h1⟩
    · by_cases hlt : b < w.heap.size
      · exact .inl ((H'.roI hro b off hlt).symm.trans h1)
      · exact .inr ⟨by omega, H'.imw _ _ _ h1⟩
    · exact .inr ⟨H'.curB hro t b ht, h1⟩
  · split at hy
    · rename_i cur out hout
      split at hy
      · have Hp := H.popIm hr H' hout (ImLe.refl _) (fun _ _ _ _ _ _ _ h0 => h0) H'.imw (fun _ _ _ _ => rfl) H'.hidM
        have hown : ∀ c b, owns { cur, out, glob := h'.glob } (obPop ob') c b → ∃ c', c'.here = false ∧ owns h' ob' c' b := by
          intro c b hb
          match c with
          | .fr l t => exact ⟨.fr (l + 1) t, rfl, by unfold owns at hb ⊢; rw [popped_fr hout] at hb; exact hb⟩
          | .gl i => exact ⟨.gl i, rfl, hb⟩
        have hle2 : ∀ ob2, ObLe (obPop ob') ob2 → ObLe ob ob2 := fun ob2 h2 c v x hx => h2 c v x (by
          match c with
          | .fr l t => exact ho (.fr (l + 1) t) v x hx
          | .gl i => exact ho (.gl i) v x hx)
        split at hy
        · rename_i vs' hvs'
          simp only at hvs'
          subst hvs'
          simp only [Option.map_eq_some_iff, Prod.mk.injEq] at hy
          obtain ⟨⟨ys, st2⟩, hq, rfl, rfl⟩ := hy
          cases hV with
          | tup us _ h1 h2 =>
            obtain ⟨ob2, g1, g2, g3, g4⟩ := moveAll_run H hr H' Hp hown vs' us.toList ys st2 (by simpa using h1) (fun j v x hv hx => h2 j v x (by simpa using hv) hx) hq
            exact ⟨im', ob2, .tup _ _ (by simpa using g3) (fun j v x hv hx => g4 j v x (by simpa using hv) hx), g1, hi, hle2 ob2 g2⟩
        · simp only [Option.bind_eq_some_iff] at hy
          obtain ⟨⟨ys, st2⟩, hq, hy⟩ := hy
          simp only at hy
          split at hy
          · rename_i b
            simp only [Option.some.injEq, Prod.mk.injEq] at hy
            obtain ⟨rfl, rfl⟩ := hy
            obtain ⟨ob2, g1, g2, g3, g4⟩ := moveAll_run H hr H' Hp hown [r] [v] [b] st2 rfl (fun j v' x hv hx => by
              match j with
              | 0 => simp at hv hx; subst hv hx; exact hV
              | j + 1 => simp at hx) hq
            exact ⟨im', ob2, g4 0 v b rfl rfl, g1, hi, hle2 ob2 g2⟩
          · cases hy
      simp only [Option.map_eq_some_iff, Prod.mk.injEq] at hy
      obtain ⟨z, hz, rfl, rfl⟩ := hy
      refine ⟨_, _, retV_run H' 3 v r z hV hz, H.pop hr H' hout, hi.trans (imLeft_le H'), fun c v x hx => ?_⟩
      match c with
      | .fr l t => exact ho (.fr (l + 1) t) v x hx
      | .gl i => exact ho (.gl i) v x hx
    · cases hy

def obHide (ob : Obm) : Obm := fun c v => if c.here then none else ob c v
def obBack (ob ob2 : Obm) : Obm := fun c v => if c.here then ob c v else ob2 c v
def hidCtx (κ : Ctx) (im : Imm) (ob : Obm) (h : Heap) (w : World) : Ctx := { κ with wc := w, im0 := im, ob0 := obHide ob, h0 := hide h, hid := fun b => κ.hid b ∨ ∃ t, owns h ob (.fr 0 t) b }

theorem hide_obj {c : Loc} (hc : c.here = false) (f : Frame) : ({ h with cur := f } : Heap).obj c = h.obj c := by
  match c, hc with
  | .fr (l + 1) t, _ => simp [Heap.obj]
  | .gl i, _ => rfl
theorem view_far {c : Loc} (hc : c.here = false) {ob ob2 : Obm} (h : ∀ c v, c.here = false → ob c v = ob2 c v) : view c ob = view c ob2 := by
  funext c' v
  match c, hc, c' with
  | .fr (l + 1) t, _, .fr l' t2 => simp only [view]; exact h _ _ (by rw [show l + 1 + l' = (l + l') + 1 from by omega]; rfl)
  | .fr (l + 1) t, _, .gl i => exact h _ _ rfl
  | .gl i, _, .fr l' t2 => rfl
  | .gl i, _, .gl j => exact h _ _ rfl
theorem owns_far {c : Loc} {b : Nat} (hc : c.here = false) {ob2 : Obm} (f : Frame) (he : ∀ c v, c.here = false → ob2 c v = ob c v) : owns { h with cur := f } ob2 c b ↔ owns h ob c b := by
  unfold owns; rw [hide_obj hc, he c _ hc]
theorem hide_gone {ob2 : Obm} {c : Loc} {b : Nat} (hb : owns (hide h) ob2 c b) : c.here = false := by
  match c with
  | .fr 0 t => exact absurd hb.1 (by simp [hide, Heap.obj, Con.live])
  | .fr (l + 1) t => rfl
  | .gl i => rfl
theorem obHide_far {c : Loc} {v : Nat} (hc : c.here = false) : obHide ob c v = ob c v := by simp [obHide, hc]
theorem here_fr {c : Loc} (h : c.here = true) : ∃ t, c = .fr 0 t := by
  match c, h with
  | .fr 0 t, _ => exact ⟨t, rfl⟩

theorem Inv.hide (H : Inv κ im ob h w) : Inv (hidCtx κ im ob h w) im (obHide ob) (hide h) w := by
  have hfar : ∀ c v, Loc.here c = false → obHide ob c v = ob c v := fun c v hc => obHide_far hc
  have hown : ∀ c b, owns (AE.hide h) (obHide ob) c b → Loc.here c = false ∧ owns h ob c b := fun c b hb => ⟨hide_gone hb, (owns_far (hide_gone hb) _ hfar).1 hb⟩
  refine ⟨fun c => ?_, fun c c' b h1 h2 => H.inj _ _ _ (hown _ _ h1).2 (hown _ _ h2).2, fun c v hv => ?_, fun i v hi => H.freshG i v hi, H.imw, H.bel, H.ble, Nat.le_refl _, H.nout, fun _ t b hb => ?_, fun _ => .refl _ _, fun _ _ _ _ => rfl, fun _ _ _ _ => rfl, fun _ _ _ => rfl, fun b hh => ⟨?_, rfl⟩, fun c b hb hh => ?_, fun b off hh => ?_⟩
  · by_cases hc : c.here = true
    · obtain ⟨t, rfl⟩ := here_fr hc
      simp [ObjR, AE.hide, Heap.obj]
    · have hc : c.here = false := by simpa using hc
      have := (H.objs c).ofEq (ob' := obHide ob) (c' := c) (view_far hc hfar) (hfar _ _ hc)
      unfold AE.hide; rw [hide_obj hc]; exact this
  · by_cases hc : c.here = true
    · simp [obHide, hc]
    · have hc : c.here = false := by simpa using hc
      unfold AE.hide at hv
      rw [hide_obj hc] at hv; rw [hfar _ _ hc]; exact H.fresh c v hv
  · have := (hown _ _ hb).1; cases this
  · rcases hh with hh | ⟨t, hb⟩
    · exact Nat.lt_of_lt_of_le (H.hidB b hh).1 H.size
    · exact (H.block hb).2.1
  · obtain ⟨hc, hb⟩ := hown _ _ hb
    rcases hh with hh | ⟨t, hb2⟩
    · exact H.hidO _ _ hb hh
    · have := H.inj _ _ _ hb hb2; subst this; cases hc
  · rcases hh with hh | ⟨t, hb⟩
    · exact H.hidM b off hh
    · exact (H.block hb).2.2 off

theorem obBack_le {ob2 : Obm} (ho : ObLe (obHide ob) ob2) : ObLe ob (obBack ob ob2) := by
  intro c v x hx
  by_cases hc : c.here = true
  · simp [obBack, hc, hx]
  · have hc : c.here = false := by simpa using hc
    simp only [obBack, hc, Bool.false_eq_true, if_false]
    exact ho c v x ((obHide_far hc).trans hx)

theorem Inv.back (H : Inv κ im ob h w) {im2 : Imm} {ob2 : Obm} {h2 : Heap} {w' : World} (H2 : Inv (hidCtx κ im ob h w) im2 ob2 h2 w') (hi : ImLe im im2) (ho : ObLe (obHide ob) ob2) :
    Inv κ im2 (obBack ob ob2) { h2 with cur := h.cur } w' := by
  have hfar : ∀ c v, Loc.here c = false → obBack ob ob2 c v = ob2 c v := fun c v hc => by simp [obBack, hc]
  have hnear : ∀ t v, obBack ob ob2 (.fr 0 t) v = ob (.fr 0 t) v := fun t v => rfl
  have hobj : ∀ t, ({ h2 with cur := h.cur } : Heap).obj (.fr 0 t) = h.obj (.fr 0 t) := fun t => rfl
  have hown : ∀ c b, owns { h2 with cur := h.cur } (obBack ob ob2) c b → (∃ t, c = .fr 0 t ∧ owns h ob (.fr 0 t) b) ∨ (Loc.here c = false ∧ owns h2 ob2 c b) := fun c b hb => by
    by_cases hc : c.here = true
    · obtain ⟨t, rfl⟩ := here_fr hc; exact .inl ⟨t, rfl, hb⟩
    · have hc : c.here = false := by simpa using hc
      exact .inr ⟨hc, (owns_far hc _ hfar).1 hb⟩
  have hle := obBack_le ho
  refine ⟨fun c => ?_, fun c c' b h1 h2' => ?_, fun c v hv => ?_, fun i v hi => H2.freshG i v hi, H2.imw, H2.bel, H2.ble, Nat.le_trans H.size H2.size, H2.nout, fun hr t b hb => ?_, fun hr => (H.roB hr).trans ((H2.roB hr).mono H.size), fun hr b off hlt => ?_, fun hr c v hc => ?_, fun hr c hc => ?_, fun b hh => ⟨(H.hidB b hh).1, (H2.hidB b (.inl hh)).2.trans (H.hidB b hh).2⟩, fun c b hb hh => ?_, fun b off hh => H2.hidM b off (.inl hh)⟩
  · by_cases hc : c.here = true
    · obtain ⟨t, rfl⟩ := here_fr hc
      rw [hobj]
      exact (H.objs (.fr 0 t)).mono hi hle (fun b sz n hl hb => ⟨(H2.hidB b (.inr ⟨t, hl, sz, n, hb⟩)).2, fun _ off => H2.hidM b off (.inr ⟨t, hl, sz, n, hb⟩)⟩)
    · have hc : c.here = false := by simpa using hc
      rw [hide_obj hc]
      exact (H2.objs c).ofEq (view_far hc hfar) (hfar _ _ hc)
  · rcases hown _ _ h1 with ⟨t, rfl, o1⟩ | ⟨hc, o1⟩ <;> rcases hown _ _ h2' with ⟨t', rfl, o2⟩ | ⟨hc', o2⟩
    · exact H.inj _ _ _ o1 o2
    · exact absurd (.inr ⟨t, o1⟩) (H2.hidO _ _ o2)
    · exact absurd (.inr ⟨t', o2⟩) (H2.hidO _ _ o1)
    · exact H2.inj _ _ _ o1 o2
  · by_cases hc : c.here = true
    · obtain ⟨t, rfl⟩ := here_fr hc; exact H.fresh _ v hv
    · have hc : c.here = false := by simpa using hc
      rw [hide_obj hc] at hv; rw [hfar _ _ hc]; exact H2.fresh c v hv
  · exact H.curB hr t b hb
  · exact (H2.roI hr b off (Nat.lt_of_lt_of_le hlt H.size)).trans (H.roI hr b off hlt)
  · exact (hfar _ _ hc).trans ((H2.roO hr c v hc).trans ((obHide_far hc).trans (H.roO hr c v hc)))
  · rw [hide_obj hc]
    exact (H2.roH hr c hc).trans ((hide_obj hc _).trans (H.roH hr c hc))
  · rcases hown _ _ hb with ⟨t, rfl, o1⟩ | ⟨hc, o1⟩
    · exact H.hidO _ _ o1 hh
    · exact H2.hidO _ _ o1 (.inl hh)
theorem V0.far {w : Value} {x y : AV} (hw : V0 im ob w x) (hy : x.trav (AV.mapLoc Loc.far) = some y) : V0 im (obHide ob) w y := by
  refine V0.mapLoc (ImLe.refl _) (fun c c' v x hc hx => ?_) hw hy
  match c, hc with
  | .fr (l + 1) t, hc => simp only [Loc.far, Option.some.injEq] at hc; subst hc; exact hx
  | .gl i, hc => simp only [Loc.far, Option.some.injEq] at hc; subst hc; exact hx
theorem V0.farBack {ob2 : Obm} {w : Value} {x y : AV} (hw : V0 im ob2 w x) (hy : x.trav (AV.mapLoc Loc.far) = some y) : V0 im (obBack ob ob2) w y := by
  refine V0.mapLoc (ImLe.refl _) (fun c c' v x hc hx => ?_) hw hy
  match c, hc with
  | .fr (l + 1) t, hc => simp only [Loc.far, Option.some.injEq] at hc; subst hc; exact hx
  | .gl i, hc => simp only [Loc.far, Option.some.injEq] at hc; subst hc; exact hx

/-- What a caller is told of a call. -/
def CallOk (P : Program) (tabs : World → Prop) (call : CallF) : Prop := ∀ ro g args out glob r h', call ro g args out glob = some (r, h') →
  (∃ fn, P.funcs[g]? = some fn ∧ fn.body.isSome = true ∧ fn.name ≠ "runtime.NumGoroutine") ∧
  ∀ (κ : Ctx) (im : Imm) (ob : Obm) (w : World) (vs : Array Value), κ.ro = ro → κ.tabs = tabs → Inv κ im ob { cur := fun _ => ⟨0, .gone⟩, out, glob } w → ListR im ob vs args →
    Calls P g vs w fun e w' => ∃ v im' ob', e = .returned v ∧ V0 im' ob' v r ∧ Inv κ im' ob' h' w' ∧ ImLe im im' ∧ ObLe ob ob'

/-- What a function that is known by its law gives. -/
def Gives (im : Imm) (ob : Obm) (w : World) (r : AV) (v : Value) (w' : World) : Prop :=
  ∃ im', ImLe im im' ∧ (∀ b off x, im' b off = some x → im b off = some x ∨ (w.heap.size ≤ b ∧ w'.cell? ⟨b, off, none⟩ = some x)) ∧ Below w.heap.size w w' ∧ V0 im' ob v r
def LawOk (P : Program) (tabs : World → Prop) (g : FuncId) (fn : List AV → Option AV) : Prop := ∀ im ob w vs args r, tabs w → (∀ b off v, im b off = some v → w.cell? ⟨b, off, none⟩ = some v) → ListR im ob vs args → fn args = some r →
  ((callFunc g vs).run P w = .ok (.enter g vs) w ∧ Calls P g vs w fun e w' => ∃ v, e = .returned v ∧ Gives im ob w r v w') ∨
  (∃ v w', (callFunc g vs).run P w = .ok (.value v) w' ∧ Gives im ob w r v w')
/-- What a function that is known by what it does to the heap gives. -/
def GivesH (κ : Ctx) (im : Imm) (ob : Obm) (r : AV) (h' : Heap) (v : Value) (w' : World) : Prop := ∃ im' ob', Inv κ im' ob' h' w' ∧ ImLe im im' ∧ ObLe ob ob' ∧ V0 im' ob' v r
def LawHOk (P : Program) (tabs : World → Prop) (g : FuncId) (fn : List AV → Heap → Option (AV × Heap)) : Prop := ∀ (κ : Ctx) im ob h w vs args r h', tabs w → Inv κ im ob h w → κ.ro = false → ListR im ob vs args → fn args h = some (r, h') →
  (callFunc g vs).run P w = .ok (.enter g vs) w ∧ Calls P g vs w fun e w' => ∃ v, e = .returned v ∧ GivesH κ im ob r h' v w'
def LawsOk (P : Program) (tabs : World → Prop) (pol : Pol) : Prop := (∀ g fn, pol.intr g = some fn → LawOk P tabs g fn) ∧ ∀ g fn, pol.intrH g = some fn → LawHOk P tabs g fn

theorem op_wp {pol : Pol} {call : CallF} {f : FuncId} {rid i : Nat} {draw : Bool} (hcall : CallOk P κ.tabs call) (hlaw : LawsOk P κ.tabs pol) (H : Inv κ im ob h w) {a : Act} {ev : Operand → AV} (hE : EvR im ob a.eval ev) {o : Oper} {y : AV} {h' : Heap}
    (hy : opF P pol call f κ.ro rid i draw o ev h = some (y, h')) {next : Act → World → Prop} {Q : Exit → Act → World → Prop}
    (hn : ∀ v w' im' ob', Inv κ im' ob' h' w' → ImLe im im' → ObLe ob ob' → V0 im' ob' v y → next (a.put o.dst v) w') : o.wp P a w next Q := by
  unfold Oper.wp
  by_cases hc : ∃ c g args, o.op = .call c ∧ whoOf P ev c = some (.func g args)
  · obtain ⟨c, g, args, hop, hwho⟩ := hc
    obtain ⟨vs, hvs, hrun⟩ := who_run (P := P) (w := w) hE hop hwho
    rw [hrun]
    obtain ⟨dst, op, ty, pos, after, guard⟩ := o
    simp only at hop
    subst hop
    simp only [opF, hwho, Option.bind_some] at hy
    split at hy
    · rename_i fn hfn
      simp only [Option.map_eq_some_iff, Prod.mk.injEq] at hy
      obtain ⟨r, hr, rfl, rfl⟩ := hy
      have fin : ∀ v w', Gives im ob w r v w' → next (a.put dst v) w' := fun v w' ⟨im', h1, h2, h3, h4⟩ => hn v w' im' ob (H.grow h1 h3 h2) h1 (ObLe.refl _) h4
      rcases hlaw.1 g fn hfn im ob w vs args r (κ.tabsOk w H.bel) H.imw hvs hr with ⟨h1, h2⟩ | ⟨v, w', h1, h2⟩
      · rw [h1, Oper.upon_enter]
        refine h2.mono (fun e w' he => ?_)
        obtain ⟨v, rfl, hg⟩ := he
        exact fin v w' hg
      · rw [h1, Oper.upon_value]
        exact fin v w' h2
    · split at hy
      · rename_i fn hfn
        split at hy
        · cases hy
        rename_i hdr
        have hro : κ.ro = false := by simp at hdr; exact hdr.1.2
        obtain ⟨h1, h2⟩ := hlaw.2 g fn hfn κ im ob h w vs args y h' (κ.tabsOk w H.bel) H hro hvs hy
        rw [h1, Oper.upon_enter]
        refine h2.mono (fun e w' he => ?_)
        obtain ⟨v, rfl, im', ob', g1, g2, g3, g4⟩ := he
        exact hn v w' im' ob' g1 g2 g3 g4
      split at hy
      · simp only [awayOf, Option.bind_eq_some_iff, Option.map_eq_some_iff, Prod.mk.injEq] at hy
        obtain ⟨args1, hargs1, args', hargs, ⟨r, h1⟩, hres, ⟨q, h2⟩, hland, y2, hy2, rfl, rfl⟩ := hy
        obtain ⟨⟨fn, hf, hb, hnm⟩, hc⟩ := hcall _ _ _ _ _ _ _ hres
        rw [callFunc_run hf hb hnm, Oper.upon_enter]
        rw [travL_eq] at hargs hargs1
        have hvs' : ListR im (obPush (obHide ob)) vs args' := ⟨by rw [mapO_length hargs, mapO_length hargs1]; exact hvs.1, fun j v x hv hx => by
          obtain ⟨q, hq, hg⟩ := mapO_get' hargs j x hx
          obtain ⟨q2, hq2, hg2⟩ := mapO_get' hargs1 j q hq
          exact ((hvs.2 j v q2 hv hq2).far hg2).push hg⟩
        have H0 := H.hide
        refine (hc (pushCtx (hidCtx κ im ob h w) κ.ro im (obHide ob) (hide h) w) im (obPush (obHide ob)) w vs rfl rfl (H0.push κ.ro) hvs').mono (fun e w' he => ?_)
        obtain ⟨v, im', ob', rfl, hV, H', hi, ho⟩ := he
        obtain ⟨im2, ob2, g1, g2, g3, g4⟩ := land_run H0 id H' hi ho hV (by nofun) hland
        exact hn v w' im2 (obBack ob ob2) (H.back g2 g3 g4) g3 (obBack_le g4) (g1.farBack hy2)
      simp only [Option.bind_eq_some_iff] at hy
      obtain ⟨args', hargs, ⟨r, h1⟩, hres, hy⟩ := hy
      obtain ⟨⟨fn, hf, hb, hnm⟩, hc⟩ := hcall _ _ _ _ _ _ _ hres
      rw [callFunc_run hf hb hnm, Oper.upon_enter]
      rw [travL_eq] at hargs
      have hvs' : ListR im (obPush ob) vs args' := ⟨by rw [mapO_length hargs]; exact hvs.1, fun j v x hv hx => by
        obtain ⟨q, hq, hg⟩ := mapO_get' hargs j x hx
        exact (hvs.2 j v q hv hq).push hg⟩
      refine (hc (pushCtx κ (κ.ro || draw) im ob h w) im (obPush ob) w vs rfl rfl (H.push (κ.ro || draw)) hvs').mono (fun e w' he => ?_)
      obtain ⟨v, im', ob', rfl, hV, H', hi, ho⟩ := he
      obtain ⟨im2, ob2, g1, g2, g3, g4⟩ := land_run H (by intro e; simp [e]) H' hi ho hV (by intro e; simp [e]) hy
      exact hn v w' im2 ob2 g2 g3 g4 g1
  · obtain ⟨n, w', im', ob', hrun, hres, g1, g2, g3⟩ := step_run H hE hy (fun c g args ho hw => hc ⟨c, g, args, ho, hw⟩)
    rw [hrun]
    rcases hres with ⟨v, rfl, hV⟩ | ⟨rfl, rfl⟩
    · rw [Oper.upon_value]; exact hn v w' im' ob' g1 g2 g3 hV
    · rw [Oper.upon_skip]; exact hn undef w' im' ob' g1 g2 g3 (.tup _ _ rfl (by simp))
end Go.AE
