/- Calls of functions: who is called; into the callee and back. -/
import Derived.Test.YtimnggioioeehabGreatDoorAeStep2
namespace Go.AE
open Go.RowKit (Below)

variable {P : Program} {κ : Ctx} {im : Imm} {ob : Obm} {h : Heap} {w : World}

/-- Values of a list. -/
def ListR (im : Imm) (ob : Obm) (vs : Array Value) (xs : List AV) : Prop :=
  vs.size = xs.length ∧ ∀ (j : Nat) (v : Value) (x : AV), vs[j]? = some v → xs[j]? = some x → V0 im ob v x

theorem ListR.app {vs us : Array Value} {xs ys : List AV} (h1 : ListR im ob vs xs) (h2 : ListR im ob us ys) : ListR im ob (vs ++ us) (xs ++ ys) := by
  refine ⟨by simp [h1.1, h2.1], fun j v x hv hx => ?_⟩
  rw [Array.getElem?_append] at hv
  rw [List.getElem?_append] at hx
  split at hv
  · rename_i hj
    rw [if_pos (by rw [← h1.1]; exact hj)] at hx
    exact h1.2 j v x hv hx
  · rename_i hj
    rw [if_neg (by rw [← h1.1]; exact hj)] at hx
    rw [h1.1] at hv
    exact h2.2 _ v x hv hx
theorem ListR.map {ρ : Operand → Value} {ev : Operand → AV} (hE : EvR im ob ρ ev) (l : Array Operand) : ListR im ob (l.map ρ) (l.toList.map ev) := by
  refine ⟨by simp, fun j v x h1 h2 => ?_⟩
  simp only [Array.getElem?_map, List.getElem?_map, Option.map_eq_some_iff] at h1 h2
  obtain ⟨q, hq, rfl⟩ := h1
  obtain ⟨q', hq', rfl⟩ := h2
  rw [Array.getElem?_toList, hq] at hq'; cases hq'
  exact hE q
theorem ListR.mono {im' : Imm} {ob' : Obm} (hi : ImLe im im') (ho : ObLe ob ob') {vs : Array Value} {xs : List AV} (h1 : ListR im ob vs xs) : ListR im' ob' vs xs :=
  ⟨h1.1, fun j v x hv hx => (h1.2 j v x hv hx).mono hi ho⟩

theorem method_run {t : TypeId} {name : String} {g : FuncId} (hm : methodOf P t name = some g) (n : Nat) (v : Value) : (method (n + 1) t v name).run P w = .ok (g, v) w := by
  simp only [methodOf, Option.bind_eq_some_iff] at hm
  obtain ⟨i, hi, m, hfind, hm⟩ := hm
  split at hm
  · rename_i hp
    have hp : m.path = #[] := by simpa using hp
    simp only [Option.bind_eq_some_iff] at hm
    obtain ⟨fp, hf, hm⟩ := hm
    obtain ⟨f, ptr⟩ := fp
    split at hm
    · rename_i e hu hq
      simp only [Option.some.injEq] at hm hq
      subst hm hq
      simp [method, typeInfo, hi, hfind, hp, follow, hf, receiverAt, und_run hu, Place.get]
    · cases hm
    · rename_i d hne hu hq
      simp only [Option.some.injEq] at hm hq
      subst hm hq
      cases d <;> first
        | exact (hne _ rfl).elim
        | simp [method, typeInfo, hi, hfind, hp, follow, hf, receiverAt, und_run hu, Place.get]
    · cases hm
  · cases hm

theorem who_run {ρ : Operand → Value} {ev : Operand → AV} (hE : EvR im ob ρ ev) {o : Oper} {c : Call} (ho : o.op = .call c) {g : FuncId} {args : List AV} (hw : whoOf P ev c = some (.func g args)) :
    ∃ vs, ListR im ob vs args ∧ (execOp ρ o).run P w = (callFunc g vs).run P w := by
  obtain ⟨callee, cargs, argTypes⟩ := c
  unfold whoOf at hw
  split at hw
  · cases hw
  · rename_i fop hcal
    simp only at hcal
    subst hcal
    have hF := hE fop
    split at hw
    · rename_i f first caps hfe
      rw [hfe] at hF
      generalize hρ : ρ fop = vf at hF
      simp only [Option.some.injEq, Who.func.injEq] at hw
      obtain ⟨rfl, rfl⟩ := hw
      cases hF with
      | fn _ vfirst vcaps _ _ h1 h2 h3 h4 =>
        refine ⟨vfirst ++ cargs.map ρ ++ vcaps, (ListR.app (ListR.app ⟨h1, h3⟩ (ListR.map hE cargs)) ⟨h2, h4⟩), ?_⟩
        simp only [execOp, ho, resolve, hρ, Deferred.ofValue, Sem.run_bind, Sem.run_pure, Result.andThen_ok, invoke]
    · cases hw
  · rename_i r name hcal
    simp only at hcal
    subst hcal
    have hF := hE r
    split at hw
    · rename_i t v hre
      rw [hre] at hF
      generalize hρ : ρ r = vr at hF
      simp only [Option.map_eq_some_iff, Who.func.injEq] at hw
      obtain ⟨f, hf, rfl, rfl⟩ := hw
      cases hF with
      | ifc _ vv _ hv =>
        refine ⟨#[vv] ++ cargs.map ρ, ListR.app (xs := [v]) ⟨rfl, fun j a x h1 h2 => ?_⟩ (ListR.map hE cargs), ?_⟩
        · match j with
          | 0 => simp at h1 h2; subst h1 h2; exact hv
          | j + 1 => simp at h2
        · have hmr := method_run (w := w) hf (P.types.size + (Made.depth - 1)) vv
          have e1 : P.types.size + (Made.depth - 1) + 1 = P.types.size + Made.depth := by
            have : 1 ≤ Made.depth := by decide
            omega
          rw [e1] at hmr
          simp only [execOp, ho, resolve, hρ, Sem.run_bind, Sem.run_pure, Result.andThen_ok, invoke]
          have e2 : (#[Value.iface t vv] ++ cargs.map ρ)[0]? = some (.iface t vv) := by rw [Array.getElem?_append_left (by simp)]; rfl
          have e3 : (#[Value.iface t vv] ++ cargs.map ρ).extract 1 (#[Value.iface t vv] ++ cargs.map ρ).size = cargs.map ρ := by
            apply Array.ext'; simp [List.take_of_length_le]
          simp only [e2, callMethod, Sem.run_bind, run_program, Result.andThen_ok, hmr, e3]
    · cases hw

theorem callFunc_run {g : FuncId} {fn : Func} (hf : P.funcs[g]? = some fn) (hb : fn.body.isSome = true) (hn : fn.name ≠ "runtime.NumGoroutine") (vs : Array Value) : (callFunc g vs).run P w = .ok (.enter g vs) w := by
  have hb' : fn.body ≠ none := by intro e; rw [e] at hb; cases hb
  simp [callFunc, hf, hn, hb']

/-! ### into the callee -/
theorem view_push_fr (ob : Obm) (l t t' : Nat) : view (.fr (l + 1) t) (obPush ob) = view (.fr l t') ob := by
  funext c v
  cases c with
  | fr l' t2 => simp only [view]; rw [show l + 1 + l' = (l + l') + 1 from by omega]; rfl
  | gl i => rfl
theorem view_push_gl (ob : Obm) (i : Nat) : view (.gl i) (obPush ob) = view (.gl i) ob := by
  funext c v
  cases c with
  | fr l' t2 => rfl
  | gl i => rfl

def pushed (h : Heap) : Heap := { cur := fun _ => ⟨0, .gone⟩, out := h.cur :: h.out, glob := h.glob }
def pushCtx (κ : Ctx) (ro : Bool) (im : Imm) (ob : Obm) (h : Heap) (w : World) : Ctx := { B := κ.B, w0 := κ.w0, ro, wc := w, im0 := im, ob0 := obPush ob, nout := κ.nout + 1, h0 := pushed h, tabs := κ.tabs, tabsOk := κ.tabsOk, hid := κ.hid }

theorem pushed_fr (h : Heap) (l t : Nat) : (pushed h).obj (.fr (l + 1) t) = h.obj (.fr l t) := by
  cases l <;> simp [pushed, Heap.obj]

theorem ObjR.ofEq {im : Imm} {ob ob' : Obm} {B : Nat} {w : World} {c c' : Loc} {o : AObj} (hv : view c' ob' = view c ob) (hb : ob' c' o.ver = ob c o.ver) (h : ObjR im ob B w c o) (hbt : c'.bt = c.bt := by rfl) : ObjR im ob' B w c' o := by
  unfold ObjR at h ⊢
  rw [hv, hb, hbt]
  exact h

theorem Inv.push (H : Inv κ im ob h w) (ro : Bool) : Inv (pushCtx κ ro im ob h w) im (obPush ob) (pushed h) w := by
  have hown : ∀ c b, owns (pushed h) (obPush ob) c b → (∃ l t, c = .fr (l + 1) t ∧ owns h ob (.fr l t) b) ∨ (∃ i, c = .gl i ∧ owns h ob (.gl i) b) := by
    intro c b ho
    match c with
    | .fr 0 t => exact absurd ho.1 (by simp [pushed, Heap.obj, Con.live])
    | .fr (l + 1) t => exact .inl ⟨l, t, rfl, by unfold owns at ho ⊢; rw [pushed_fr] at ho; exact ho⟩
    | .gl i => exact .inr ⟨i, rfl, ho⟩
  refine ⟨fun c => ?_, fun c c' b h1 h2 => ?_, fun c v hv => ?_, fun i v hi => H.freshG i v hi, H.imw, H.bel, H.ble, Nat.le_refl _, by simp [pushed, pushCtx, H.nout], fun _ t b hb => ?_, fun _ => .refl _ _, fun _ _ _ _ => rfl, fun _ _ _ _ => rfl, fun _ _ _ => rfl, fun b hh => ⟨Nat.lt_of_lt_of_le (H.hidB b hh).1 H.size, rfl⟩, fun c b hb hh => ?_, H.hidM⟩
  · match c with
    | .fr 0 t => simp [ObjR, pushed, Heap.obj]
    | .fr (l + 1) t => rw [pushed_fr]; exact (H.objs (.fr l t)).ofEq (view_push_fr ob l t t) rfl
    | .gl i => exact (H.objs (.gl i)).ofEq (view_push_gl ob i) rfl
  · rcases hown c b h1 with ⟨l, t, rfl, o1⟩ | ⟨i, rfl, o1⟩ <;> rcases hown c' b h2 with ⟨l', t', rfl, o2⟩ | ⟨i', rfl, o2⟩
    · have := H.inj _ _ _ o1 o2; cases this; rfl
    · have := H.inj _ _ _ o1 o2; cases this
    · have := H.inj _ _ _ o1 o2; cases this
    · exact H.inj _ _ _ o1 o2
  · match c with
    | .fr 0 t => rfl
    | .fr (l + 1) t => rw [pushed_fr] at hv; exact H.fresh (.fr l t) v hv
    | .gl i => exact H.fresh (.gl i) v hv
  · rcases hown _ b hb with ⟨l, t, e, _⟩ | ⟨i, e, _⟩ <;> cases e
  · rcases hown c b hb with ⟨l, t, rfl, o1⟩ | ⟨i, rfl, o1⟩ <;> exact H.hidO _ _ o1 hh

/-! ### and back -/
theorem view_pop_fr (ob : Obm) (l t : Nat) : view (.fr l t) (obPop ob) = view (.fr (l + 1) t) ob := by
  funext c v
  cases c with
  | fr l' t2 => simp only [view]; rw [show l + 1 + l' = (l + l') + 1 from by omega]; rfl
  | gl i => rfl
theorem view_pop_gl (ob : Obm) (i : Nat) : view (.gl i) (obPop ob) = view (.gl i) ob := by
  funext c v
  cases c with
  | fr l' t2 => rfl
  | gl i => rfl

open Classical in
/-- What is known for good once a frame is left: the rows of its arrays. -/
noncomputable def imLeft (im : Imm) (ob : Obm) (h : Heap) (w : World) : Imm := fun b off =>
  if ∃ t, owns h ob (.fr 0 t) b ∧ ∃ nl sz xs, (h.obj (.fr 0 t)).con = .arr nl sz xs then w.cell? ⟨b, off, none⟩ else im b off

theorem imLeft_le (H : Inv κ im ob h w) : ImLe im (imLeft im ob h w) := by
  intro b off v hv
  unfold imLeft
  rw [if_neg]
  · exact hv
  · rintro ⟨t, ho, _⟩
    rw [(H.block ho).2.2 off] at hv; cases hv
theorem imLeft_new (H : Inv κ im ob h w) {b off : Nat} {v : Value} (hv : imLeft im ob h w b off = some v) : im b off = some v ∨ ((∃ t, owns h ob (.fr 0 t) b) ∧ w.cell? ⟨b, off, none⟩ = some v) := by
  unfold imLeft at hv
  split at hv
  · rename_i hx; obtain ⟨t, ho, _⟩ := hx; exact .inr ⟨⟨t, ho⟩, hv⟩
  · exact .inl hv

theorem retV_run (H : Inv κ im ob h w) : ∀ (n : Nat) (v : Value) (x y : AV), V0 im ob v x → retV h.cur n x = some y → V0 (imLeft im ob h w) (obPop ob) v y
  | 0, v, x, y, hV, hy => by
    refine V0.mapLoc (imLeft_le H) (fun c c' v x hc hx => ?_) hV hy
    cases c with
    | fr l t =>
      cases l with
      | zero => simp [Loc.pop] at hc
      | succ l => simp only [Loc.pop, Option.some.injEq] at hc; subst hc; exact hx
    | gl i => simp only [Loc.pop, Option.some.injEq] at hc; subst hc; exact hx
  | n + 1, v, x, y, hV, hy => by
    have hpop : ∀ (a b : AV) (w' : Value), V0 im ob w' a → a.trav (AV.mapLoc Loc.pop) = some b → V0 (imLeft im ob h w) (obPop ob) w' b := fun a b w' hw hb => retV_run H 0 w' a b hw hb
    refine V0.trav (imLeft_le H) (fun c v off w' y hw hy => hpop _ _ _ hw (by simpa [AV.trav, retLeaf] using hy)) (fun c v i j w' y hw hy => hpop _ _ _ hw (by simpa [AV.trav, retLeaf] using hy))
      (fun c v off len w' y hw hy => ?_) (fun c v w' y hw hy => hpop _ _ _ hw (by simpa [AV.trav, retLeaf] using hy)) hV hy
    match c, hw, hy with
    | .gl i, hw, hy => exact hpop _ _ _ hw (by simpa [AV.trav, retLeaf] using hy)
    | .fr (l + 1) t, hw, hy => exact hpop _ _ _ hw (by simpa [AV.trav, retLeaf] using hy)
    | .fr 0 t, hw, hy =>
      simp only [retLeaf] at hy
      split at hy
      case isFalse => cases hy
      rename_i hver
      have hobj : h.obj (.fr 0 t) = h.cur t := rfl
      have hvw : view (.fr 0 t) ob = ob := by
        funext c v
        cases c with
        | fr l' t2 => simp [view]
        | gl i => rfl
      have go : ∀ (nl : Bool) (sz : Nat) (xs : List (List AV)), ((h.cur t).con = .arr nl sz xs ∨ (h.cur t).con = .frz nl sz xs) →
          (if off + len ≤ xs.length then (mapO (mapO (retV h.cur n)) ((xs.drop off).take len)).map (.sl nl sz) else none) = some y → V0 (imLeft im ob h w) (obPop ob) w' y := by
        intro nl sz xs hk hy
        split at hy
        case isFalse => cases hy
        rename_i hle
        simp only [Option.map_eq_some_iff] at hy
        obtain ⟨ys, hel, rfl⟩ := hy
        have hlen : ys.length = len := by have := mapO_length hel; simp at this; omega
        have get : ∀ (i : Nat) (e : List AV), ys[i]? = some e → ∃ a, xs[off + i]? = some a ∧ mapO (retV h.cur n) a = some e := by
          intro i e he
          obtain ⟨a, ha, hf⟩ := mapO_get' hel i e he
          simp only [List.getElem?_take, List.getElem?_drop] at ha
          split at ha
          · exact ⟨a, ha, hf⟩
          · cases ha
        have ho := H.objs (.fr 0 t)
        have hlz : ∀ e : ys.length = 0, ys = [] := fun e => List.length_eq_zero_iff.1 e
        rcases hw.rsl_inv with ⟨rfl, hb⟩ | ⟨a, rfl, hb⟩ | ⟨cap, b, sz', m, rfl, hb, hc, hn⟩
        · have hl0 : len = 0 := by cases hw <;> rfl
          have hys := hlz (by omega)
          subst hys
          have : nl = true := by
            unfold ObjR at ho
            rw [hobj] at ho
            rcases hk with hk | hk <;> rw [hk] at ho
            · rcases ho with ⟨h1, _⟩ | ⟨_, _, a, h3⟩ | ⟨_, b, n, c', T, fz, h1, _⟩
              · exact h1
              · rw [hver, hb] at h3; cases h3
              · rw [hver, hb] at h1; cases h1
            · rcases ho with ⟨h1, _⟩ | ⟨_, _, a, h3⟩ | ⟨_, b, n, h1, _⟩
              · exact h1
              · rw [hver, hb] at h3; cases h3
              · rw [hver, hb] at h1; cases h1
          subst this
          exact .snil _
        · have hl0 : len = 0 := by
            cases hw with
            | rslE => rfl
            | rsl _ _ _ _ _ b' sz' n' hb' => exact absurd (hb.symm.trans hb') (by simp)
          have hys := hlz (by omega)
          subst hys
          have : nl = false := by
            unfold ObjR at ho
            rw [hobj] at ho
            rcases hk with hk | hk <;> rw [hk] at ho
            · rcases ho with ⟨_, _, h3⟩ | ⟨h1, _⟩ | ⟨h1, _⟩
              · rw [hver, hb] at h3; cases h3
              · exact h1
              · exact h1
            · rcases ho with ⟨_, _, h3⟩ | ⟨h1, _⟩ | ⟨h1, _⟩
              · rw [hver, hb] at h3; cases h3
              · exact h1
              · exact h1
          subst this
          exact .slE a 0 sz
        · unfold ObjR at ho
          rw [hobj] at ho
          rcases hk with hk | hk
          · rw [hk] at ho
            rcases ho with ⟨_, _, h3⟩ | ⟨_, _, a, h3⟩ | ⟨h0, b', m', cur, T, fz, h1, h2, h3, h4, h5, h6, h7, h8⟩
            · rw [hver, hb] at h3; cases h3
            · rw [hver, hb] at h3; cases h3
            rw [hver, hb] at h1; cases h1
            subst h0
            have hown : owns h ob (.fr 0 t) b := ⟨by rw [hobj, hk]; simp [Con.live], sz, m, by rw [hobj, hver]; exact hb⟩
            have hat : ∀ o, imLeft im ob h w b o = cur[o]? := fun o => by
              unfold imLeft
              rw [if_pos ⟨t, hown, false, sz, xs, by rw [hobj]; exact hk⟩]
              simp [World.cell?, h2]
            have hin : ∀ i j, i < xs.length → j < sz → i * sz + j < cur.size := fun i j hi hj => by
              have : (i + 1) * sz ≤ xs.length * sz := Nat.mul_le_mul_right _ hi
              rw [Nat.succ_mul] at this; omega
            refine .sl _ _ _ _ _ sz hlen hc (fun i e he => ?_) (fun i j hi hj => ?_) (fun i j e v x he hx hv => ?_)
            · obtain ⟨a, ha, hf⟩ := get i e he
              rw [mapO_length hf]; exact h5 _ a ha
            · have hlt := hin (off + i) j (by omega) hj
              exact ⟨cur[(off + i) * sz + j], by rw [← Nat.add_mul, hat]; simp [hlt]⟩
            · obtain ⟨a, ha, hf⟩ := get i e he
              obtain ⟨q, hq, hg⟩ := mapO_get' hf j x hx
              rw [← Nat.add_mul, hat] at hv
              have hel := h6 _ j a v q ha hq hv
              rw [hvw] at hel
              exact retV_run H n v q x hel hg
          · rw [hk] at ho
            rcases ho with ⟨_, _, h3⟩ | ⟨_, _, a, h3⟩ | ⟨h0, b', m', h1, h2, h3, h4⟩
            · rw [hver, hb] at h3; cases h3
            · rw [hver, hb] at h3; cases h3
            rw [hver, hb] at h1; cases h1
            subst h0
            refine .sl _ _ _ _ _ sz hlen hc (fun i e he => ?_) (fun i j hi hj => ?_) (fun i j e v x he hx hv => ?_)
            · obtain ⟨a, ha, hf⟩ := get i e he
              rw [mapO_length hf]; exact h2 _ a ha
            · obtain ⟨v, hv⟩ := h3 (off + i) j (by omega) hj
              exact ⟨v, by rw [← Nat.add_mul]; exact imLeft_le H _ _ _ hv⟩
            · obtain ⟨a, ha, hf⟩ := get i e he
              obtain ⟨q, hq, hg⟩ := mapO_get' hf j x hx
              rw [← Nat.add_mul] at hv
              obtain ⟨v', hv'⟩ := h3 (off + i) j (by have := (List.getElem?_eq_some_iff.1 ha).1; omega) (by rw [← h2 _ a ha]; exact (List.getElem?_eq_some_iff.1 hq).1)
              have e1 := imLeft_le H _ _ _ hv'
              rw [hv] at e1
              simp only [Option.some.injEq] at e1
              subst e1
              have hel := h4 _ j a v q ha hq hv'
              rw [hvw] at hel
              exact retV_run H n v q x hel hg
      split at hy
      · rename_i nl sz xs hk; exact go nl sz xs (.inl hk) hy
      · rename_i nl sz xs hk; exact go nl sz xs (.inr hk) hy
      · cases hy
end Go.AE
