/- strings.Builder: copyCheck and String by what they do to the heap. -/
import Derived.Test.YtimnggioioeehabGreatDoorGxLib
import Derived.Shelf.Strings.Builder1
namespace Go.AE
open Go.Shelf Go.RowKit Go.Proofs
variable {P : Program} {ρ : Ren}

/-- The numbers of a program that copyCheck and String speak of. -/
structure BldX (P : Program) (ρ : Ren) : Prop where
  t5 : P.underlying (ρ.t 5) = some (.int .u8)
  a5 : ∀ w, (isAgg (ρ.t 5)).run P w = .ok false w
  z5 : ∀ w, (Go.sizeOf (ρ.t 5)).run P w = .ok 1 w
  v5 : ∀ w, (zeroValue (ρ.t 5)).run P w = .ok (.int .u8 0) w
  cellsByte : P.cellsOf (ρ.t 5) = 1

set_option maxHeartbeats 2000000 in
set_option maxRecDepth 100000 in
theorem string_full (L : Lays.n169 P ρ) (X : BldX P ρ) (b off g cap n : Nat) (l : List UInt8) (cur : Array Value) (fz : Nat × Nat) (w : World) (hc : w.cell? ⟨b, off + 1, none⟩ = some (.slice (some ⟨g, 0, none⟩) l.length cap)) (hg : w.heap[g]? = some (.cells cur (ρ.t 5) fz))
    (h0 : l ≠ []) (hlc : l.length ≤ cap) (hcs : l.length ≤ cur.size) (hn : cur.size = n) (hbig : l.length ≤ 9223372036854775807) (hx : ∀ (j : Nat) (x : UInt8), l[j]? = some x → cur[j]? = some (.int .u8 x.toNat)) :
    Calls P (ρ.f 169) #[.pointer (some ⟨b, off, none⟩)] w fun e w' => e = .returned (.string ⟨l.toArray⟩) ∧ w' = w.drew.freeze ⟨g, 0, none⟩ l.length := by
  have hl0 : l.length ≠ 0 := by simpa using h0
  have c1 : w.drew.cell? ⟨b, off + 1, none⟩ = some (.slice (some ⟨g, 0, none⟩) l.length cap) := hc
  have hSD : (Builtin.unsafeSliceData_ #[(ρ.t 37)] (ρ.t 127) #[.slice (some ⟨g, 0, none⟩) l.length cap]).run P w.drew = .ok (.pointer (some ⟨g, 0, none⟩)) w.drew :=
    Lib.run_unsafeSliceData_row _ _ _ _ _ _ (by omega)
  have hUS : (Builtin.unsafeString_ #[(ρ.t 127), (ρ.t 3)] (ρ.t 9) #[.pointer (some ⟨g, 0, none⟩), .int .i64 l.length]).run P w.drew = .ok (.string ⟨l.toArray⟩) (w.drew.freeze ⟨g, 0, none⟩ l.length) := by
    refine Lib.run_unsafeString_row w.drew (ρ.t 127) (ρ.t 3) (ρ.t 9) (ρ.t 5) L.t127 X.cellsByte g cur.size (by have hg' : w.drew.heap[g]? = some (.cells cur (ρ.t 5) fz) := hg; simp [World.shape?, hg']) l h0 (by omega) (by omega) ?_
    intro j x hj
    have hg' : w.drew.heap[g]? = some (.cells cur (ρ.t 5) fz) := hg
    rw [add_eq, Nat.zero_add]
    simp [World.cell?, hg', hx j x hj]
  have mixed := L.mixed
  have t72 := L.t72; have a72 := L.a72; have z72 := L.z72; have v72 := L.v72; have u72 := run_underlying L.t72
  have t70 := L.t70; have a70 := L.a70; have z70 := L.z70; have v70 := L.v70; have u70 := run_underlying L.t70
  have t37 := L.t37; have a37 := L.a37; have z37 := L.z37; have v37 := L.v37; have u37 := run_underlying L.t37
  have t127 := L.t127; have a127 := L.a127; have z127 := L.z127; have v127 := L.v127; have u127 := run_underlying L.t127
  have t3 := L.t3; have a3 := L.a3; have z3 := L.z3; have v3 := L.v3; have u3 := run_underlying L.t3
  have t9 := L.t9; have a9 := L.a9; have z9 := L.z9; have v9 := L.v9; have u9 := run_underlying L.t9
  have t5 := X.t5; have a5 := X.a5; have z5 := X.z5; have v5 := X.v5; have u5 := run_underlying X.t5
  go_enter L.f169, Body.n169_ntmps ρ
  go_wp2
  go_region_o
  all_goals (go_wp2; go_ret; exact ⟨rfl, rfl⟩)

theorem unsafeString_none0 (L : Lays.n169 P ρ) (p : Option Addr) (w : World) : (Builtin.unsafeString_ #[(ρ.t 127), (ρ.t 3)] (ρ.t 9) #[.pointer p, .int .i64 0]).run P w = .ok (.string ⟨#[]⟩) w := by
  cases p <;> rfl
set_option maxHeartbeats 2000000 in
set_option maxRecDepth 100000 in
theorem string_nil (L : Lays.n169 P ρ) (X : BldX P ρ) (b off : Nat) (w : World) (hc : w.cell? ⟨b, off + 1, none⟩ = some (.slice none 0 0)) :
    Calls P (ρ.f 169) #[.pointer (some ⟨b, off, none⟩)] w fun e w' => e = .returned (.string ⟨#[]⟩) ∧ w' = w.drew := by
  have hUS := unsafeString_none0 L
  have c1 : w.drew.cell? ⟨b, off + 1, none⟩ = some (.slice none 0 0) := hc
  have hSD : (Builtin.unsafeSliceData_ #[(ρ.t 37)] (ρ.t 127) #[.slice none 0 0]).run P w.drew = .ok (.pointer none) w.drew := rfl
  have mixed := L.mixed
  have t72 := L.t72; have a72 := L.a72; have z72 := L.z72; have v72 := L.v72; have u72 := run_underlying L.t72
  have t70 := L.t70; have a70 := L.a70; have z70 := L.z70; have v70 := L.v70; have u70 := run_underlying L.t70
  have t37 := L.t37; have a37 := L.a37; have z37 := L.z37; have v37 := L.v37; have u37 := run_underlying L.t37
  have t127 := L.t127; have a127 := L.a127; have z127 := L.z127; have v127 := L.v127; have u127 := run_underlying L.t127
  have t3 := L.t3; have a3 := L.a3; have z3 := L.z3; have v3 := L.v3; have u3 := run_underlying L.t3
  have t9 := L.t9; have a9 := L.a9; have z9 := L.z9; have v9 := L.v9; have u9 := run_underlying L.t9
  have t5 := X.t5; have a5 := X.a5; have z5 := X.z5; have v5 := X.v5; have u5 := run_underlying X.t5
  go_enter L.f169, Body.n169_ntmps ρ
  go_wp2
  go_region_o
  all_goals (go_wp2; go_ret; exact ⟨rfl, rfl⟩)

section
variable {κ : Ctx} {im : Imm} {ob : Obm} {h : Heap} {w : World}
/-- An object whose own block turns: it is given up. -/
theorem Inv.kill (H : Inv κ im ob h w) (hro : κ.ro = false) {c : Loc} {v : Nat} {k : Con} (hobj : h.obj c = ⟨v, k⟩) (hv : h.valid c) {w' : World} (hsz : w'.heap.size = w.heap.size) (hos : w'.os = w.os) (htp : w'.tape = w.tape) (hop : w'.output = w.output)
    (hoth : ∀ b, ¬ owns h ob c b → w'.heap[b]? = w.heap[b]?) : Inv κ im ob (h.setObj c ⟨v, .gone⟩) w' := by
  refine H.upd c ⟨v, .gone⟩ (obj_setObj h c _ hv) (out_setObj h c _) (ImLe.refl _) (ObLe.refl _) (fun _ _ _ => rfl) (fun v' hv' => H.fresh c v' (by rw [hobj]; exact hv')) (fun i v' hi => H.freshG i v' (by rw [glob_setObj] at hi; exact hi))
    (by omega) hos htp hop (fun b _ hb => hoth b hb) (fun _ _ _ hv => .inl hv) trivial (fun _ _ _ hl => by simp [Con.live] at hl) (fun hr => by rw [hro] at hr; cases hr)
/-- An object whose own block turns to cells that are right still. -/
theorem Inv.turn (H : Inv κ im ob h w) (hro : κ.ro = false) {c : Loc} {w' : World} (hsz : w'.heap.size = w.heap.size) (hos : w'.os = w.os) (htp : w'.tape = w.tape) (hop : w'.output = w.output)
    (hoth : ∀ b, ¬ owns h ob c b → w'.heap[b]? = w.heap[b]?) (hnew : ObjR im ob κ.B w' c (h.obj c)) (hown : ∀ b sz n, (h.obj c).con.live → ob c (h.obj c).ver = some (.blk b sz n) → owns h ob c b) : Inv κ im ob h w' := by
  refine H.upd c (h.obj c) (fun c' => by split <;> simp_all) rfl (ImLe.refl _) (ObLe.refl _) (fun _ _ _ => rfl) (fun v' hv' => H.fresh c v' hv') (fun i v' hi => H.freshG i v' hi)
    (by omega) hos htp hop (fun b _ hb => hoth b hb) (fun _ _ _ hv => .inl hv) hnew (fun b sz n hl hb => .inr (hown b sz n hl hb)) (fun hr => by rw [hro] at hr; cases hr)
end

/-- copyCheck: the mark stays a mark. -/
def x_check (P : Program) (tB : TypeId) : List AV → Heap → Option (AV × Heap)
  | [.ptr c v off], h => match h.con c v with
    | .cells cs => match cs[off]? with
      | some (.bmark t) => if liesAt P P.depth t (cs.length / P.cellsOf t) off tB 1 = true then some (.tup [], h) else none
      | _ => none
    | _ => none
  | _, _ => none
theorem law_check {tabs : World → Prop} {g : FuncId} {fn : Func} {tB : TypeId} (hf : P.funcs[g]? = some fn) (hb : fn.body.isSome = true) (hn : fn.name ≠ "runtime.NumGoroutine")
    (hu : ∀ (b off : Nat) (w : World), w.cell? ⟨b, off, none⟩ = some (.pointer (some ⟨b, off, none⟩)) → Calls P g #[.pointer (some ⟨b, off, none⟩)] w fun e w' => e = .returned (.tuple #[]) ∧ w' = w)
    (hfr : ∀ (b off T n : Nat) (w : World), w.cell? ⟨b, off, none⟩ = some (.pointer none) → w.shape? b = some (T, n) → off < n → liesAt P P.depth T (n / P.cellsOf T) off tB 1 = true → w.frozen? ⟨b, off, none⟩ = false → Calls P g #[.pointer (some ⟨b, off, none⟩)] w fun e w' => e = .returned (.tuple #[]) ∧ w' = w.setCell ⟨b, off, none⟩ (.pointer (some ⟨b, off, none⟩))) : LawHOk P tabs g (x_check P tB) := by
  intro κ im ob h w vs args r h' _ H hro hvs hr
  refine ⟨callFunc_run hf hb hn vs, ?_⟩
  unfold x_check at hr
  split at hr
  · rename_i c v off
    split at hr
    · rename_i cs hk
      split at hr
      · rename_i t hm
        split at hr
        · rename_i hlies
          simp only [Option.some.injEq, Prod.mk.injEq] at hr
          obtain ⟨rfl, rfl⟩ := hr
          obtain ⟨v0, rfl, g0⟩ := list1 hvs
          generalize hp : v0 = vp at g0
          cases g0 with
          | ptr _ _ _ b sz n hob =>
          subst hp
          have hobj := obj_mk hk (by simp)
          have ho := H.objs c
          rw [hobj] at ho
          obtain ⟨b', sz', n', cur, T, g1, g2, g3, g4, g5, g6, g7⟩ := ho
          simp only at g1
          rw [hob] at g1; cases g1
          obtain ⟨rfl, hsize, hnil⟩ := g7 off t hm
          have hoff : off < cur.size := by have := (List.getElem?_eq_some_iff.1 hm).1; omega
          have hown : owns h ob c b := ⟨by rw [hobj]; simp [Con.live], sz, n, by rw [hobj]; exact hob⟩
          have fin : ∀ w', Inv κ im ob h w' → ∃ v, Ending.returned (.tuple #[]) = .returned v ∧ GivesH κ im ob (.tup []) h v w' := fun w' H' => ⟨_, rfl, im, ob, H', ImLe.refl _, ObLe.refl _, .tup _ _ rfl (by simp)⟩
          rcases hnil with h0 | h0
          · refine (hfr b off t cur.size w (by simp [World.cell?, g2, h0]) (by simp [World.shape?, g2]) hoff (by rw [hsize]; exact hlies) (by simp [World.frozen?, g2])).mono fun e w' he => ?_
            obtain ⟨rfl, rfl⟩ := he
            refine fin _ (H.turn hro (c := c) (by simp [World.setCell]) rfl rfl rfl (fun b' hb' => ?_) ?_ (fun b' sz' n' hl hb' => ⟨hl, sz', n', hb'⟩))
            · simp only [World.setCell, Array.getElem?_modify]
              rw [if_neg (fun (e : b = b') => hb' (e ▸ hown))]
            · rw [hobj]
              refine ⟨b, sz, n, cur.setIfInBounds off (.pointer (some ⟨b, off, none⟩)), t, hob, by simp [World.setCell, Array.getElem?_modify, g2], by simpa using g3, fun j y x hy hx => ?_, g5, g6, fun j t' hx => ?_⟩
              · rw [Array.getElem?_setIfInBounds] at hy
                by_cases e : off = j
                · subst e
                  rw [hm] at hx
                  simp only [Option.some.injEq] at hx
                  subst hx
                  exact .bmark _ _
                · rw [if_neg e] at hy; exact g4 j y x hy hx
              · obtain ⟨k1, k2, k3⟩ := g7 j t' hx
                refine ⟨k1, by simpa using k2, ?_⟩
                rw [Array.getElem?_setIfInBounds]
                by_cases e : off = j
                · subst e; rw [if_pos rfl, if_pos hoff]; exact .inr rfl
                · rw [if_neg e]; exact k3
          · refine (hu b off w (by simp [World.cell?, g2, h0])).mono fun e w' he => ?_
            obtain ⟨rfl, rfl⟩ := he
            exact fin _ H
        · cases hr
      · cases hr
    · cases hr
  · cases hr

def x_string (uB : TypeId) : List AV → Heap → Option (AV × Heap)
  | [.ptr c v off], h => match h.con c v with
    | .cells cs => (cs[off + 1]?).bind fun a => (c.from a).bind fun a => match a with
      | .rsl c2 v2 0 len => match h.con c2 v2 with
        | .arr nl sz xs => if len = xs.length ∧ (nl = true ∨ (c2.bt = some uB ∧ sz = 1 ∧ xs ≠ [] ∧ xs.length ≤ 2 ^ 62)) then (mapO byteOf xs).map fun l => (.str ⟨⟨l⟩⟩, h) else none
        | _ => none
      | _ => none
    | _ => none
  | _, _ => none
theorem law_string (L : Lays.n169 P ρ) (X : BldX P ρ) {tabs : World → Prop} {g : FuncId} {fn : Func} {uB : TypeId} (hf : P.funcs[g]? = some fn) (hb : fn.body.isSome = true) (hn : fn.name ≠ "runtime.NumGoroutine") (hg : ρ.f 169 = g) (ht : ρ.t 5 = uB) : LawHOk P tabs g (x_string uB) := by
  subst hg ht
  intro κ im ob h w vs args r h' _ H hro hvs hr
  refine ⟨callFunc_run hf hb hn vs, ?_⟩
  unfold x_string at hr
  split at hr
  · rename_i c v off
    split at hr
    · rename_i cs hk
      simp only [Option.bind_eq_some_iff] at hr
      obtain ⟨a0, ha0, a, ha, hr⟩ := hr
      split at hr
      · rename_i c2 v2 len
        split at hr
        · rename_i nl sz xs hk2
          split at hr
          · rename_i hcnd
            obtain ⟨rfl, hcnd⟩ := hcnd
            simp only [Option.map_eq_some_iff, Prod.mk.injEq] at hr
            obtain ⟨l, hl, rfl, rfl⟩ := hr
            obtain ⟨v0, rfl, g0⟩ := list1 hvs
            generalize hp : v0 = vp at g0
            cases g0 with
            | ptr _ _ _ b bsz bn hob =>
            subst hp
            have hobj := obj_mk hk (by simp)
            have ho := H.objs c
            rw [hobj] at ho
            obtain ⟨b', sz', n', cur, T, g1, g2, g3, g4, g5, g6, g7⟩ := ho
            simp only at g1
            rw [hob] at g1; cases g1
            have hlt : off + 1 < cur.size := by have := (List.getElem?_eq_some_iff.1 ha0).1; omega
            have hV := (g4 (off + 1) cur[off + 1] a0 (by simp [hlt]) ha0).from_ ha
            have hcell : w.cell? ⟨b, off + 1, none⟩ = some cur[off + 1] := by simp [World.cell?, g2, hlt]
            have hobj2 := obj_mk hk2 (by simp)
            have hval : h.valid c2 := con_valid hk2 (by simp)
            have ho2 := H.objs c2
            rw [hobj2] at ho2
            have fin : ∀ w', Inv κ im ob h w' → ∃ v, Ending.returned (.string ⟨⟨l⟩⟩) = .returned v ∧ GivesH κ im ob (.str ⟨⟨l⟩⟩) h v w' := fun w' H' => ⟨_, rfl, im, ob, H', ImLe.refl _, ObLe.refl _, .str _⟩
            rcases ho2 with ⟨h1, h2, h3⟩ | ⟨h1, h2, a', h3⟩ | ⟨k0, k1, k2, k3, k4, fz, k5, k6, k7, k8, k9, k10, k11, k12, k13, k14, k15⟩
            · subst h1 h2
              have hl0 : l = [] := by simpa [mapO] using hl.symm
              subst hl0
              have hvv : cur[off + 1] = .slice none 0 0 := by
                rcases hV.rsl_inv with ⟨e, _⟩ | ⟨a', _, e⟩ | ⟨_, _, _, _, _, e, _⟩
                · exact e
                · rw [h3] at e; cases e
                · rw [h3] at e; cases e
              rw [hvv] at hcell
              refine (string_nil L X b off w hcell).mono fun e w' he => ?_
              obtain ⟨rfl, rfl⟩ := he
              exact fin _ H.drew
            · subst h1 h2
              rcases hcnd with e | ⟨_, _, e, _⟩
              · cases e
              · exact absurd rfl e
            · subst k0
              rcases hcnd with e | ⟨hbt, rfl, hne, hbig⟩
              · cases e
              have hT : k4 = ρ.t 5 := k13 _ hbt
              subst hT
              have hll : l.length = xs.length := mapO_length hl
              obtain ⟨cap, hvv⟩ : ∃ cap, cur[off + 1] = .slice (some ⟨k1, 0, none⟩) xs.length cap ∧ xs.length ≤ cap := by
                rcases hV.rsl_inv with ⟨_, e⟩ | ⟨a', _, e⟩ | ⟨cap, b2, sz2, n2, e1, e2, e3, _⟩
                · rw [k5] at e; cases e
                · rw [k5] at e; cases e
                · rw [k5] at e2; cases e2; exact ⟨cap, by simpa using e1, e3⟩
              have hlne : l ≠ [] := by intro e; subst e; exact hne (List.eq_nil_of_length_eq_zero (by simpa using hll.symm))
              have hx : ∀ (j : Nat) (x : UInt8), l[j]? = some x → k3[j]? = some (.int .u8 x.toNat) := by
                intro j x hj
                obtain ⟨e, he, hbx⟩ := mapO_get' hl j x hj
                unfold byteOf at hbx
                split at hbx
                · rename_i n
                  split at hbx
                  · rename_i hn1
                    simp only [Option.some.injEq] at hbx
                    have hjl : j < k3.size := by have := (List.getElem?_eq_some_iff.1 he).1; rw [k7]; have := k8.1; omega
                    have := k10 j 0 _ k3[j] _ he rfl (by simp [hjl])
                    generalize hq : k3[j] = q at this
                    cases this
                    rw [Array.getElem?_eq_getElem hjl, hq, ← hbx]
                    congr 2
                    have : n.toNat < 256 := by omega
                    simp only [Nat.toUInt8_eq, UInt8.toNat_ofNat']
                    omega
                  · cases hbx
                · cases hbx
              rw [hvv.1, ← hll] at hcell
              refine (string_full L X b off k1 cap k2 l k3 fz w hcell k6 hlne (by omega) (by have := k8.1; omega) k7 (by omega) hx).mono fun e w' he => ?_
              obtain ⟨rfl, rfl⟩ := he
              have hown : owns h ob c2 k1 := ⟨by rw [hobj2]; simp [Con.live], 1, k2, by rw [hobj2]; exact k5⟩
              have hfz : w.drew.freeze ⟨k1, 0, none⟩ l.length = { w.drew with heap := w.drew.heap.modify k1 fun
                  | .cells c elem (lo, hi) => .cells c elem (if lo == hi then (0, 0 + l.length) else (min lo 0, max hi (0 + l.length)))
                  | o => o } := by unfold World.freeze; rw [if_neg (by simpa using hlne)]; rfl
              refine fin _ (H.drew.turn hro (c := c2) (by rw [hfz]; simp) (by rw [hfz]) (by rw [hfz]) (by rw [hfz]) (fun b' hb' => ?_) ?_ (fun b' sz' n' hl hb' => ⟨hl, sz', n', hb'⟩))
              · rw [hfz]
                simp only [Array.getElem?_modify]
                rw [if_neg (fun (e : k1 = b') => hb' (e ▸ hown))]
              · rw [hobj2, hfz]
                have k6' : w.drew.heap[k1]? = some (.cells k3 (ρ.t 5) fz) := k6
                obtain ⟨lo, hi⟩ := fz
                refine .inr (.inr ⟨rfl, k1, k2, k3, ρ.t 5, _, k5, by simp only [Array.getElem?_modify, k6', if_true, Option.map_some]; rfl, k7, k8, k9, k10, k11, k12, k13, fun hn => (by rw [hbt] at hn; cases hn), ?_⟩)
                have k15' : hi ≤ xs.length * 1 := k15
                split
                · simp only; omega
                · simp only; omega
          · cases hr
        · cases hr
      · cases hr
    · cases hr
  · cases hr
/-- Grow, of a builder that has no room. -/
def x_grow (P : Program) (tB uB : TypeId) : List AV → Heap → Option (AV × Heap)
  | [.ptr c v off, .int .i64 n], h => if 0 ≤ n ∧ n ≤ 281474976710656 then match h.con c v with
    | .cells cs => match cs[off]? with
      | some (.bmark t) => if liesAt P P.depth t (cs.length / P.cellsOf t) off tB 1 = true then (cs[off + 1]?).bind fun a => (c.from a).bind fun a => match a with
        | .rsl c2 v2 0 0 => match h.con c2 v2 with
          | .arr true _ [] => if c2.bt = some uB ∨ c2.bt = none then
              (c.into (.rsl c2 (v2 + 1) 0 0)).map fun y => (.tup [], (h.setObj c2 ⟨v2 + 1, if n = 0 then .arr true 0 [] else .arr false 1 []⟩).setObj c ⟨v, .cells (cs.set (off + 1) y)⟩)
            else none
          | _ => none
        | _ => none else none
      | _ => none
    | _ => none else none
  | _, _ => none
theorem setCell_alloc (w : World) (b o : Nat) (v : Value) (x : Obj) (hlt : b < w.heap.size) : (w.setCell ⟨b, o, none⟩ v).alloc x = (w.alloc x).setCell ⟨b, o, none⟩ v := by
  unfold World.setCell World.alloc
  simp only
  congr 1
  apply Array.ext_getElem?
  intro i
  simp only [Array.getElem?_push, Array.size_modify, Array.getElem?_modify]
  by_cases hi : i = w.heap.size
  · subst hi
    rw [if_pos rfl, if_neg (by omega), if_pos rfl]
  · rw [if_neg hi, if_neg hi]
theorem law_grow {tabs : World → Prop} {g : FuncId} {fn : Func} {tB uB : TypeId} (hf : P.funcs[g]? = some fn) (hb : fn.body.isSome = true) (hn : fn.name ≠ "runtime.NumGoroutine")
    (hw : ∀ (b off T n : Nat) (cur : Array Value) (w : World), w.heap[b]? = some (.cells cur T (0, 0)) → (cur[off]? = some (.pointer none) ∨ cur[off]? = some (.pointer (some ⟨b, off, none⟩))) → cur[off + 1]? = some (.slice none 0 0) → n ≤ 281474976710656 →
      liesAt P P.depth T (cur.size / P.cellsOf T) off tB 1 = true →
      Calls P g #[.pointer (some ⟨b, off, none⟩), .int .i64 n] w fun e w' => e = .returned (.tuple #[]) ∧ ∃ w1, (w1 = w ∧ cur[off]? = some (.pointer (some ⟨b, off, none⟩)) ∨ w1 = w.setCell ⟨b, off, none⟩ (.pointer (some ⟨b, off, none⟩))) ∧
        (n = 0 ∧ w' = w1.drew ∨ 0 < n ∧ ∃ cs, n ≤ cs.size ∧ w' = ((w1.drew.setCell ⟨b, off + 1, none⟩ (.slice (some ⟨w.heap.size, 0, none⟩) 0 cs.size)).alloc (.cells cs uB)).drew.drew.drew)) : LawHOk P tabs g (x_grow P tB uB) := by
  intro κ im ob h w vs args r h' _ H hro hvs hr
  refine ⟨callFunc_run hf hb hn vs, ?_⟩
  unfold x_grow at hr
  split at hr
  case h_2 => cases hr
  rename_i c v off n
  split at hr
  case isFalse => cases hr
  rename_i hn0
  split at hr
  case h_2 => cases hr
  rename_i cs hk
  split at hr
  case h_2 => cases hr
  rename_i t hm
  split at hr
  case isFalse => cases hr
  rename_i hlies
  simp only [Option.bind_eq_some_iff] at hr
  obtain ⟨a0, ha0, a, ha, hr⟩ := hr
  split at hr
  case h_2 => cases hr
  rename_i c2 v2
  split at hr
  case h_2 => cases hr
  rename_i sz hk2
  split at hr
  case isFalse => cases hr
  rename_i hbt
  obtain ⟨v0, v1, rfl, g0, g1⟩ := list2 hvs
  cases g1
  generalize hp : v0 = vp at g0
  cases g0 with
  | ptr _ _ _ b bsz bn hob =>
  subst hp
  obtain ⟨m, rfl⟩ : ∃ m : Nat, n = m := ⟨n.toNat, by omega⟩
  have hobj := obj_mk hk (by simp)
  have hobj2 := obj_mk hk2 (by simp)
  have hne : c ≠ c2 := by intro e; subst e; rw [hobj] at hobj2; cases hobj2
  have ho := H.objs c
  rw [hobj] at ho
  obtain ⟨b', sz', n', cur, T, p1, p2, p3, p4, p5, p6, p7⟩ := ho
  simp only at p1
  rw [hob] at p1; cases p1
  obtain ⟨rfl, hsize, hnil⟩ := p7 off t hm
  have hoff : off < cur.size := by have := (List.getElem?_eq_some_iff.1 hm).1; omega
  have hoff1 : off + 1 < cur.size := by have := (List.getElem?_eq_some_iff.1 ha0).1; omega
  have hown : owns h ob c b := ⟨by rw [hobj]; simp [Con.live], bsz, bn, by rw [hobj]; exact hob⟩
  have hV := (p4 (off + 1) cur[off + 1] a0 (by simp [hoff1]) ha0).from_ ha
  have ho2 := H.objs c2
  rw [hobj2] at ho2
  have hob2 : ob c2 v2 = some .nil := by
    rcases ho2 with ⟨_, _, h3⟩ | ⟨h1, _⟩ | ⟨h1, _⟩
    · exact h3
    · cases h1
    · cases h1
  have hvv : cur[off + 1]? = some (.slice none 0 0) := by
    rw [Array.getElem?_eq_getElem hoff1]
    rcases hV.rsl_inv with ⟨e, _⟩ | ⟨a', _, e⟩ | ⟨_, _, _, _, _, e, _⟩
    · rw [e]
    · rw [hob2] at e; cases e
    · rw [hob2] at e; cases e
  refine (hw b off t m cur w p2 hnil hvv (by omega) (by rw [hsize]; exact hlies)).mono fun e w' he => ?_
  obtain ⟨rfl, w1, hw1, hrest⟩ := he
  -- the mark
  obtain ⟨cur1, q2, q3, q7, q4, q5, q6, Hm⟩ : ∃ cur1 : Array Value, w1.heap[b]? = some (.cells cur1 t (0, 0)) ∧ cur1.size = cur.size ∧ cur1[off + 1]? = some (.slice none 0 0) ∧ (∀ (j : Nat) (v : Value) (x : AV), cur1[j]? = some v → cs[j]? = some x → V0 im (view c ob) v x) ∧
      Marks cs cur1 t b ∧ w1.heap.size = w.heap.size ∧ Inv κ im ob h w1 := by
    rcases hw1 with ⟨rfl, h0⟩ | rfl
    · exact ⟨cur, p2, rfl, hvv, p4, p7, rfl, H⟩
    · have r1 : (w.setCell ⟨b, off, none⟩ (.pointer (some ⟨b, off, none⟩))).heap[b]? = some (.cells (cur.setIfInBounds off (.pointer (some ⟨b, off, none⟩))) t (0, 0)) := by simp [World.setCell, Array.getElem?_modify, p2]
      have r2 : ∀ (j : Nat) (v : Value) (x : AV), (cur.setIfInBounds off (.pointer (some ⟨b, off, none⟩)))[j]? = some v → cs[j]? = some x → V0 im (view c ob) v x := by
        intro j y x hy hx
        rw [Array.getElem?_setIfInBounds] at hy
        by_cases e : off = j
        · subst e
          rw [hm] at hx
          simp only [Option.some.injEq] at hx
          subst hx
          exact .bmark _ _
        · rw [if_neg e] at hy; exact p4 j y x hy hx
      have r3 : Marks cs (cur.setIfInBounds off (.pointer (some ⟨b, off, none⟩))) t b := by
        intro j t' hx
        obtain ⟨k1, k2, k3⟩ := p7 j t' hx
        refine ⟨k1, by simpa using k2, ?_⟩
        rw [Array.getElem?_setIfInBounds]
        by_cases e : off = j
        · subst e; rw [if_pos rfl, if_pos hoff]; exact .inr rfl
        · rw [if_neg e]; exact k3
      refine ⟨_, r1, by simp, by rw [Array.getElem?_setIfInBounds, if_neg (by omega)]; exact hvv, r2, r3, by simp [World.setCell], H.turn hro (c := c) (by simp [World.setCell]) rfl rfl rfl (fun b' hb' => ?_) ?_ (fun b' sz' n' hl hb' => ⟨hl, sz', n', hb'⟩)⟩
      · simp only [World.setCell, Array.getElem?_modify]
        rw [if_neg (fun (e : b = b') => hb' (e ▸ hown))]
      · rw [hobj]
        exact ⟨b, bsz, bn, _, t, hob, r1, by simpa using p3, r2, p5, p6, r3⟩
  simp only [Option.map_eq_some_iff, Prod.mk.injEq] at hr
  obtain ⟨y, hy, rfl, rfl⟩ := hr
  have hHd : Inv κ im ob h w1.drew := Hm.drew
  have hlt : b < w1.drew.heap.size := by have := (H.block hown).2.1; show b < w1.heap.size; omega
  have hobj' : ∀ k' : Con, (h.setObj c2 ⟨v2 + 1, k'⟩).obj c = ⟨v, .cells cs⟩ := fun k' => by
    rw [obj_setObj h c2 _ (con_valid hk2 (by simp)), if_neg hne]; exact hobj
  -- the cell
  have fin : ∀ (x : Base) (k' : Con) (w2 w3 : World) (sv : Value), Inv κ im (obUpd ob c2 (v2 + 1) x) (h.setObj c2 ⟨v2 + 1, k'⟩) w2 → ObLe ob (obUpd ob c2 (v2 + 1) x) → w2.heap[b]? = some (.cells cur1 t (0, 0)) →
      w3.heap[b]? = some (.cells (cur1.setIfInBounds (off + 1) sv) t (0, 0)) → w3.heap.size = w2.heap.size → w3.os = w2.os → w3.tape = w2.tape → w3.output = w2.output → (∀ b', b' ≠ b → w3.heap[b']? = w2.heap[b']?) →
      V0 im (obUpd ob c2 (v2 + 1) x) sv (.rsl c2 (v2 + 1) 0 0) → Inv κ im (obUpd ob c2 (v2 + 1) x) ((h.setObj c2 ⟨v2 + 1, k'⟩).setObj c ⟨v, .cells (cs.set (off + 1) y)⟩) w3 := by
    intro x k' w2 w3 sv G1 G2 hbk hWk e1 e2 e3 e4 e5 hVn
    have hob' : obUpd ob c2 (v2 + 1) x c v = some (.blk b bsz bn) := G2 _ _ _ hob
    refine G1.write (c := c) (k' := .cells (cs.set (off + 1) y)) (hobj' k') (by simp [Con.live]) hob' (w' := w3) e1 e2 e3 e4 e5 ?_ (fun e => by rw [hro] at e; cases e)
    refine ⟨b, bsz, bn, _, t, hob', hWk, by simp; omega, fun j u x hu hx => ?_, p5, p6, fun j t' hx => ?_⟩
    · rw [Array.getElem?_setIfInBounds] at hu
      rw [List.getElem?_set] at hx
      by_cases e : off + 1 = j
      · subst e
        rw [if_pos rfl, if_pos (by omega)] at hu
        rw [if_pos rfl, if_pos (by omega)] at hx
        simp only [Option.some.injEq] at hu hx
        subst hu hx
        exact hVn.into hy
      · rw [if_neg e] at hu hx
        exact (q4 j u x hu hx).mono (ImLe.refl _) (view_mono c G2)
    · rw [List.getElem?_set] at hx
      by_cases e : off + 1 = j
      · subst e
        rw [if_pos rfl] at hx
        split at hx
        · simp only [Option.some.injEq] at hx
          subst hx
          cases hVi : c <;> subst hVi <;> simp [Loc.into, AV.trav, AV.mapLoc] at hy
        · cases hx
      · rw [if_neg e] at hx
        obtain ⟨k1, k2, k3⟩ := q5 j t' hx
        refine ⟨k1, by simpa using k2, ?_⟩
        rw [Array.getElem?_setIfInBounds, if_neg e]
        exact k3
  rcases hrest with ⟨hm0, rfl⟩ | ⟨hm0, ds, hds, rfl⟩
  · rw [if_pos (by omega)]
    obtain ⟨G1, G2⟩ := hHd.regrow (w' := w1.drew) (.arr true 0 []) .nil hobj2 (by simp [Con.live]) (Nat.le_refl _) rfl rfl rfl (fun b hb _ => rfl)
      (fun hle => .inl ⟨rfl, rfl, obUpd_same _ _ _ _⟩) (fun b sz n e => by cases e) (fun e => by rw [hro] at e; cases e)
    have e7 : cur1.setIfInBounds (off + 1) (.slice none 0 0) = cur1 := by
      apply Array.ext_getElem?
      intro i
      rw [Array.getElem?_setIfInBounds]
      split
      · rename_i e; subst e; rw [q7, if_pos (by omega)]
      · rfl
    refine ⟨_, rfl, im, _, fin .nil _ w1.drew w1.drew (.slice none 0 0) G1 G2 q2 (by rw [e7]; exact q2) rfl rfl rfl rfl (fun _ _ => rfl) (.rslN _ _ (obUpd_same _ _ _ _)), ImLe.refl _, G2, .tup _ _ rfl (by simp)⟩
  rw [if_neg (by omega), setCell_alloc _ _ _ _ _ hlt]
  have F : Fresh w1.drew (w1.drew.alloc (.cells ds uB)) (.cells ds uB) := Fresh.alloc _ _
  obtain ⟨G1, G2⟩ := hHd.regrow (w' := w1.drew.alloc (.cells ds uB)) (.arr false 1 []) (.blk w1.drew.heap.size 1 ds.size) hobj2 (by simp [Con.live]) (by rw [F.size]; omega) rfl rfl rfl (fun b hb _ => F.old b hb)
    (fun hle => .inr (.inr ⟨rfl, w1.drew.heap.size, ds.size, ds, uB, (0, 0), obUpd_same _ _ _ _, F.at_, rfl, ⟨by simp, by omega⟩, by simp, by simp, hHd.imNone (Nat.le_refl _), hHd.ble, fun τ hτ => (by rcases hbt with e | e <;> rw [e] at hτ <;> cases hτ; rfl), fun _ => rfl, Nat.zero_le _⟩))
    (fun b sz n e => by cases e; exact .inl (Nat.le_refl _)) (fun e => by rw [hro] at e; cases e)
  have hVn : V0 im (obUpd ob c2 (v2 + 1) (.blk w1.drew.heap.size 1 ds.size)) (.slice (some ⟨w.heap.size, 0, none⟩) 0 ds.size) (.rsl c2 (v2 + 1) 0 0) := by
    have := V0.rsl (im := im) (ob := obUpd ob c2 (v2 + 1) (.blk w1.drew.heap.size 1 ds.size)) c2 (v2 + 1) 0 0 ds.size w1.drew.heap.size 1 ds.size (obUpd_same ob _ _ _) (Nat.zero_le _) (by omega)
    rw [Nat.zero_mul] at this
    rw [← q6]; exact this
  have hbk : (w1.drew.alloc (.cells ds uB)).heap[b]? = some (.cells cur1 t (0, 0)) := by rw [F.old b hlt]; exact q2
  refine ⟨_, rfl, im, _, (fin _ _ _ ((w1.drew.alloc (.cells ds uB)).setCell ⟨b, off + 1, none⟩ (.slice (some ⟨w.heap.size, 0, none⟩) 0 ds.size)) _ G1 G2 hbk (by simp [World.setCell, Array.getElem?_modify, hbk]) (by simp [World.setCell]) rfl rfl rfl (fun b' hb' => by simp only [World.setCell, Array.getElem?_modify]; rw [if_neg (fun e => hb' e.symm)]) hVn).drew.drew.drew, ImLe.refl _, G2, .tup _ _ rfl (by simp)⟩
end Go.AE
