/- Lines: both texts write the same headers; the law. -/
import Derived.Test.YtpadcfhbcdchbaaDoorGlLimits
namespace Go.GW
open Go.AE

theorem some_ok {s : gatemake_Stream} {k : Int} (l : List Str) (g : Good s k) (hl : 0 < l.length) (hl2 : l.length ≤ 1000) (hk : k ≤ 10000) : ∃ r s', gatemake_Stream_Some s (.full l) = some (r, s') ∧ r ∈ l ∧ Good s' (k + 1) := by
  unfold gatemake_Stream_Some
  simp only [Sl.list]
  obtain ⟨r, s', h3, h4, h5, h6⟩ := next_ok (l.length : Int) g (by omega) (by omega) hk
  rw [h3]
  simp only [Option.bind_some]
  obtain ⟨i, rfl⟩ : ∃ i : Nat, r = i := ⟨r.toNat, by omega⟩
  have hi : i < (Sl.full l).list.length := by simp [Sl.list]; omega
  rw [get_ok hi]
  exact ⟨_, _, rfl, List.getElem_mem _, h6⟩
/-- A limit that the stream hands out. -/
def LimOk (x : api_Limit) : Prop := x.Key.length ≤ 2 ∧ LimNum x
theorem limits_ok {s : gatemake_Stream} {k : Int} (g : Good s k) (hk : k ≤ 8000) : ∃ x s', gatemake_Stream_Limits s = some (x, s') ∧ (∀ y ∈ x.list, LimOk y) ∧ x.list.length ≤ 4 ∧ Good s' (k + 30) := by
  unfold gatemake_Stream_Limits
  rw [rangeS_eq (by simp [Sl.list])]
  obtain ⟨⟨s1, x1⟩, e1, hg1, hl1, hx1⟩ := rangeL_inv (f := gatemake_Stream_Limits_l0) (fin := fun (s_9, out_5) => (s_9, out_5)) (l := (Sl.full [[108, 97], [108, 98], [108, 99]] : Sl Str).list) (v0 := (s, (Sl.nil : Sl api_Limit)))
    (fun i v => Good v.1 (k + 5 * i) ∧ v.2.list.length ≤ i ∧ ∀ y ∈ v.2.list, LimOk y) ⟨by simpa using g, by simp [Sl.list], by simp [Sl.list]⟩ (by
    rintro i ⟨s, x⟩ hi ⟨hg, hl, hx⟩
    have hi3 : i < 3 := by simpa [Sl.list] using hi
    simp only at hg hl hx
    simp only [gatemake_Stream_Limits_l0]
    have hkey : ((Sl.full [[108, 97], [108, 98], [108, 99]] : Sl Str).list[i]).length ≤ 2 := by
      have h := List.getElem_mem hi
      generalize (Sl.full [[108, 97], [108, 98], [108, 99]] : Sl Str).list[i] = y at h
      simp only [Sl.list, List.mem_cons, List.not_mem_nil, or_false] at h
      rcases h with rfl | rfl | rfl <;> simp
    generalize (Sl.full [[108, 97], [108, 98], [108, 99]] : Sl Str).list[i] = key at hkey
    obtain ⟨b, s1, e1, g1⟩ := flip_ok 2 hg (by omega) (by omega) (by omega)
    rw [e1]
    simp only [Option.bind_some]
    cases b with
    | true =>
      rw [if_pos rfl]
      obtain ⟨y, s2, e2, h1, h2, g2⟩ := rightLimit_ok key g1 (by omega)
      rw [e2]
      simp only [Option.bind_some]
      rw [slapp_ok (by simp; omega) (by omega)]
      refine ⟨_, rfl, g2.up (by omega), by rw [slapp_list]; simp; omega, ?_⟩
      rw [slapp_list]
      intro z hz
      rcases List.mem_append.1 hz with hz | hz
      · exact hx z hz
      · simp only [List.mem_singleton] at hz; subst hz; exact ⟨by rw [h1]; exact hkey, h2⟩
    | false =>
      rw [if_neg (by simp)]
      exact ⟨_, rfl, g1.up (by omega), by simp only; omega, hx⟩)
  rw [e1]
  have h3 : (Sl.full [[108, 97], [108, 98], [108, 99]] : Sl Str).list.length = 3 := rfl
  rw [h3] at hg1 hl1
  simp only at hg1 hl1 hx1
  simp only [Option.bind_some]
  obtain ⟨b, s2, e2, g2⟩ := flip_ok 15 hg1 (by omega) (by omega) (by omega)
  rw [e2]
  simp only [Option.bind_some]
  have fin : ∀ (s' : gatemake_Stream) (y : api_Limit), LimOk y → Good s' (k + 30) → ∃ x s'', ((x1.app? 48 [y]).bind fun o => some (o, s')) = some (x, s'') ∧ (∀ y ∈ x.list, LimOk y) ∧ x.list.length ≤ 4 ∧ Good s'' (k + 30) := by
    intro s' y hy hg
    rw [slapp_ok (by simp; omega) (by omega)]
    refine ⟨_, _, rfl, ?_, by rw [slapp_list]; simp; omega, hg⟩
    rw [slapp_list]
    intro z hz
    rcases List.mem_append.1 hz with hz | hz
    · exact hx1 z hz
    · simp only [List.mem_singleton] at hz; subst hz; exact hy
  cases b with
  | false => rw [if_neg (by simp)]; exact ⟨_, _, rfl, hx1, by omega, g2.up (by omega)⟩
  | true =>
    rw [if_pos rfl]
    obtain ⟨key, s3, e3, hkey, g3⟩ := some_ok [[], [108, 97], [122, 122]] g2 (by simp) (by simp) (by omega)
    rw [e3]; simp only [Option.bind_some]
    have hkl : key.length ≤ 2 := by
      simp only [List.mem_cons, List.not_mem_nil, or_false] at hkey
      rcases hkey with rfl | rfl | rfl <;> simp
    obtain ⟨y, s4, e4, h1, h2, g4⟩ := rightLimit_ok key g3 (by omega)
    rw [e4]; simp only [Option.bind_some]
    obtain ⟨n, s5, e5, h5, h6, g5⟩ := next_ok 4 g4 (by omega) (by omega) (by omega)
    rw [e5]; simp only [Option.bind_some]
    have hyk : y.Key.length ≤ 2 := by rw [h1]; exact hkl
    split
    · obtain ⟨r, s6, e6, h7, h8, g6⟩ := odd_ok 1 4 g5 (by omega) (by omega) (by omega) (by omega)
      rw [e6]; simp only [Option.bind_some]
      exact fin _ _ ⟨hyk, ⟨⟨h7, h8⟩, h2.most, h2.per, h2.burst⟩⟩ (g6.up (by omega))
    · split
      · obtain ⟨r, s6, e6, h7, h8, g6⟩ := odd_ok 1 1000000000 g5 (by omega) (by omega) (by omega) (by omega)
        rw [e6]; simp only [Option.bind_some]
        exact fin _ _ ⟨hyk, ⟨h2.kind, ⟨h7, h8⟩, h2.per, h2.burst⟩⟩ (g6.up (by omega))
      · split
        · obtain ⟨r, s6, e6, h7, h8, g6⟩ := odd_ok 0 8640000000 g5 (by omega) (by omega) (by omega) (by omega)
          rw [e6]; simp only [Option.bind_some]
          exact fin _ _ ⟨hyk, ⟨h2.kind, h2.most, ⟨h7, h8⟩, h2.burst⟩⟩ (g6.up (by omega))
        · obtain ⟨r, s6, e6, h7, h8, g6⟩ := odd_ok 0 1000000000 g5 (by omega) (by omega) (by omega) (by omega)
          rw [e6]; simp only [Option.bind_some]
          exact fin _ _ ⟨hyk, ⟨h2.kind, h2.most, h2.per, ⟨h7, h8⟩⟩⟩ (g6.up (by omega))

/-- Right limits. -/
theorem right_of {l : List api_Limit} (h : limsFault l = 0) : l.length ≤ 20 ∧ ∀ x ∈ l, numFault x = 0 := by
  unfold limsFault at h
  split at h
  · cases h
  · refine ⟨by omega, ?_⟩
    have key : ∀ (m : List api_Limit) (k : Nat), (firstSome (fun i x => if ithFault l i x = 0 then none else some (ithFault l i x)) k m).getD 0 = 0 → ∀ x ∈ m, numFault x = 0 := by
      intro m
      induction m with
      | nil => intro k _ x hx; cases hx
      | cons y m ih =>
        intro k hk x hx
        simp only [firstSome] at hk
        by_cases h0 : ithFault l k y = 0
        · rw [if_pos h0] at hk
          rcases List.mem_cons.1 hx with rfl | hx
          · unfold ithFault at h0
            split at h0
            · cases h0
            · split at h0
              · cases h0
              · exact h0
          · exact ih (k + 1) hk x hx
        · rw [if_neg h0] at hk
          simp only [Option.getD_some] at hk
          exact absurd hk h0
    exact key l 0 h
theorem num_of {x : api_Limit} (h : numFault x = 0) : (1 ≤ x.Kind ∧ x.Kind ≤ 4) ∧ (1 ≤ x.Most ∧ x.Most ≤ 1000000000) ∧ 0 ≤ x.Per ∧ x.Per ≤ 8640000000 := by
  unfold numFault at h
  split at h
  · cases h
  split at h
  · cases h
  split at h
  · cases h
  rename_i h1 h2 h3
  have h1 := in_true.1 (by simpa using h1)
  have h2 := in_true.1 (by simpa using h2)
  refine ⟨h1, h2, ?_⟩
  by_cases h4 : x.Kind = 4
  · by_cases hp : x.Per = 0
    · omega
    · exact absurd (.inl ⟨h4, hp⟩) h3
  · cases hb : inB x.Per 1 8640000000 with
    | true => have := in_true.1 hb; omega
    | false => exact absurd (.inr ⟨h4, hb⟩) h3

def kindW (n : Int) : Str := (([[], [119, 105, 110, 100, 111, 119], [115, 108, 105, 100, 105, 110, 103], [98, 117, 99, 107, 101, 116], [111, 110, 99, 101]] : List Str)[n.toNat]?).getD []
theorem kindW_ok {n : Int} (h0 : 0 ≤ n) (h1 : n ≤ 4) : (Sl.full [[], [119, 105, 110, 100, 111, 119], [115, 108, 105, 100, 105, 110, 103], [98, 117, 99, 107, 101, 116], [111, 110, 99, 101]] : Sl Str).get? n = some (kindW n) ∧ (kindW n).length ≤ 7 := by
  obtain ⟨i, rfl⟩ : ∃ i : Nat, n = i := ⟨n.toNat, by omega⟩
  have : i = 0 ∨ i = 1 ∨ i = 2 ∨ i = 3 ∨ i = 4 := by omega
  rcases this with rfl | rfl | rfl | rfl | rfl <;> simp [Sl.get?, Sl.list, kindW]
/-- The header of a limit. -/
def limHead (x : api_Limit) : api_Header := ⟨[120, 45, 108, 105, 109, 105, 116, 45] ++ x.Key, (kindW x.Kind ++ [32] ++ Go.Lib.itoa x.Most) ++ (if x.Per = 0 then [] else [47] ++ Go.Lib.itoa x.Per)⟩
theorem lines_step (x : api_Limit) (out : Sl api_Header) (i : Int) (hx : numFault x = 0) (hk : x.Key.length ≤ 100) (ho : out.list.length ≤ 1000) : limit_Lines_l0 i x out = some (Step.next (out.app [limHead x])) := by
  obtain ⟨h1, h2, h3, h4⟩ := num_of hx
  obtain ⟨hw, hwl⟩ := kindW_ok (n := x.Kind) (by omega) (by omega)
  have l1 := itoa_len (n := x.Most) (by omega)
  have l2 := itoa_len (n := x.Per) (by omega)
  simp only [limit_Lines_l0, limit_kindWords, Option.bind_some, hw, itoa_ok (n := x.Most) (by omega) (by omega), itoa_ok (n := x.Per) (by omega) (by omega)]
  rw [sadd_ok (by simp; omega)]; simp only [Option.bind_some]
  rw [sadd_ok (by simp; omega)]; simp only [Option.bind_some]
  by_cases hp : x.Per = 0
  · rw [if_neg (by simpa using hp)]
    simp only [Option.bind_some]
    rw [sadd_ok (by simp; omega)]; simp only [Option.bind_some]
    rw [slapp_ok (by simp; omega) (by omega)]
    simp [limHead, hp]
  · rw [if_pos hp, sadd_ok (by simp; omega)]; simp only [Option.bind_some]
    rw [sadd_ok (by simp; omega)]; simp only [Option.bind_some]
    rw [sadd_ok (by simp; omega)]; simp only [Option.bind_some]
    rw [slapp_ok (by simp; omega) (by omega)]
    simp [limHead, hp]
theorem linesOf_step (x : api_Limit) (v : api_Verdict) (out : Sl api_Header) (b : Bool) (i : Int) (hx : numFault x = 0) (hk : x.Key.length ≤ 100) (ho : out.list.length ≤ 1000) : gateref1_LinesOf_l0 v i x (out, b) = some (Step.next (out.app [limHead x], b || x.Key == v.By)) := by
  obtain ⟨h1, h2, h3, h4⟩ := num_of hx
  obtain ⟨hw, hwl⟩ := kindW_ok (n := x.Kind) (by omega) (by omega)
  have l1 := itoa_len (n := x.Most) (by omega)
  have l2 := itoa_len (n := x.Per) (by omega)
  simp only [gateref1_LinesOf_l0, gateref1_KindWord, Option.bind_some, hw, itoa_ok (n := x.Most) (by omega) (by omega), itoa_ok (n := x.Per) (by omega) (by omega)]
  rw [sadd_ok (by simp; omega)]; simp only [Option.bind_some]
  rw [sadd_ok (by simp; omega)]; simp only [Option.bind_some]
  by_cases hp : x.Per = 0
  · rw [if_neg (by omega)]
    simp only [Option.bind_some]
    rw [sadd_ok (by simp; omega)]; simp only [Option.bind_some]
    rw [slapp_ok (by simp; omega) (by omega)]
    simp [limHead, hp]
  · rw [if_pos (by omega), sadd_ok (by simp; omega)]; simp only [Option.bind_some]
    rw [sadd_ok (by simp; omega)]; simp only [Option.bind_some]
    rw [sadd_ok (by simp; omega)]; simp only [Option.bind_some]
    rw [slapp_ok (by simp; omega) (by omega)]
    simp [limHead, hp]
theorem there_eq (l : Sl api_Limit) (v : api_Verdict) (hl : l.list.length ≤ 20) : slices_ContainsFunc_api_Limit_api_Limit__limit_Lines_1 l v = some (l.list.any fun x => x.Key == v.By) := by
  unfold slices_ContainsFunc_api_Limit_api_Limit__limit_Lines_1 slices_IndexFunc_api_Limit_api_Limit__limit_Lines_1
  rw [rangeS_eq (by omega)]
  obtain ⟨b, h1, h2⟩ := rangeL_inv2 (f := slices_IndexFunc_api_Limit_api_Limit__limit_Lines_1_l0 v) (fin := fun () => (Res.out () : Res Unit Int)) (l := l.list) (v0 := ()) (fun i _ => (l.list.take i).any (fun x => x.Key == v.By) = false) (fun b => (∃ i : Nat, b = Res.ret (i : Int)) ∧ l.list.any (fun x => x.Key == v.By) = true) (by simp) (by
    intro i u hi hv
    simp only [slices_IndexFunc_api_Limit_api_Limit__limit_Lines_1_l0, limit_Lines_1, Option.bind_some]
    cases hb : l.list[i].Key == v.By with
    | true =>
      right
      refine ⟨_, by rw [if_pos rfl], ⟨i, rfl⟩, ?_⟩
      rw [List.any_eq_true]
      exact ⟨_, List.getElem_mem hi, hb⟩
    | false =>
      left
      refine ⟨(), by simp, ?_⟩
      rw [List.take_succ_eq_append_getElem hi, List.any_append, hv]
      simpa using hb)
  rw [h1]
  rcases h2 with ⟨_, rfl, h2⟩ | ⟨⟨i, rfl⟩, h2⟩
  · rw [List.take_length] at h2
    simp [Res.elim, h2]
  · simp only [Option.bind_some, Res.elim, h2]
    rw [decide_eq_true (by omega)]
/-- What both texts write. -/
def linesSpec (l : List api_Limit) (v : api_Verdict) : Sl api_Header × Int :=
  let out := (l.foldl (fun (o : Sl api_Header) x => o.app [limHead x]) Sl.nil)
  if v.Ok = true ∧ (v.By ≠ [] ∨ v.Wait ≠ 0) then (.nil, 3)
  else if v.Ok = true then (out, 0)
  else if l.any (fun x => x.Key == v.By) = false then (.nil, 8)
  else if inB v.Wait (-1) 345686400000 = false then (.nil, 1)
  else (out.app [⟨[114, 101, 116, 114, 121, 45, 97, 102, 116, 101, 114], if v.Wait = -1 then [110, 101, 118, 101, 114] else Go.Lib.itoa ((v.Wait + 999) / 1000)⟩, ⟨[120, 45, 108, 105, 109, 105, 116, 101, 100, 45, 98, 121], v.By⟩], 0)
theorem fold_len (l : List api_Limit) : ∀ o : Sl api_Header, (l.foldl (fun (o : Sl api_Header) x => o.app [limHead x]) o).list.length = o.list.length + l.length := by
  induction l with
  | nil => intro o; simp
  | cons x l ih => intro o; simp only [List.foldl_cons, List.length_cons]; rw [ih, slapp_list]; simp; omega
theorem take_fold {α β : Type} (f : β → α → β) (b : β) (l : List α) {i : Nat} (h : i < l.length) : (l.take (i + 1)).foldl f b = f ((l.take i).foldl f b) l[i] := by
  rw [List.take_succ_eq_append_getElem h, List.foldl_append]; rfl
/-- A limit that may be written. -/
def Small (l : Sl api_Limit) : Prop := l.list.length ≤ 20 ∧ ∀ x ∈ l.list, numFault x = 0 ∧ x.Key.length ≤ 100
theorem lines_loop (l : Sl api_Limit) (h : Small l) : rangeS limit_Lines_l0 (fun out_5 => out_5) l (Sl.nil : Sl api_Header) = some (l.list.foldl (fun (o : Sl api_Header) x => o.app [limHead x]) Sl.nil) := by
  rw [rangeS_eq (by have := h.1; omega)]
  obtain ⟨v, h1, h2⟩ := rangeL_inv (f := limit_Lines_l0) (fin := fun out_5 => out_5) (l := l.list) (v0 := (Sl.nil : Sl api_Header)) (fun i v => v = (l.list.take i).foldl (fun (o : Sl api_Header) x => o.app [limHead x]) Sl.nil) (by simp) (by
    rintro i v hi rfl
    have hx := h.2 _ (List.getElem_mem hi)
    rw [lines_step _ _ _ hx.1 hx.2 (by rw [fold_len]; have := h.1; simp [Sl.list]; omega)]
    exact ⟨_, rfl, (take_fold (fun (o : Sl api_Header) x => o.app [limHead x]) Sl.nil l.list hi).symm⟩)
  rw [h1, h2, List.take_length]
theorem linesOf_loop (l : Sl api_Limit) (v : api_Verdict) (h : Small l) : rangeS (gateref1_LinesOf_l0 v) (fun (out_5, has3) => (out_5, has3)) l ((Sl.nil : Sl api_Header), false) = some (l.list.foldl (fun (o : Sl api_Header) x => o.app [limHead x]) Sl.nil, l.list.any fun x => x.Key == v.By) := by
  rw [rangeS_eq (by have := h.1; omega)]
  obtain ⟨w, h1, h2, h3⟩ := rangeL_inv (f := gateref1_LinesOf_l0 v) (fin := fun (out_5, has3) => (out_5, has3)) (l := l.list) (v0 := ((Sl.nil : Sl api_Header), false)) (fun i w => w.1 = (l.list.take i).foldl (fun (o : Sl api_Header) x => o.app [limHead x]) Sl.nil ∧ w.2 = (l.list.take i).any fun x => x.Key == v.By) ⟨by simp, by simp⟩ (by
    rintro i ⟨o, b⟩ hi ⟨ho, hb⟩
    simp only at ho hb
    have hx := h.2 _ (List.getElem_mem hi)
    rw [linesOf_step _ _ _ _ _ hx.1 hx.2 (by rw [ho, fold_len]; have := h.1; simp [Sl.list]; omega)]
    refine ⟨_, rfl, ?_, ?_⟩
    · rw [ho]; exact (take_fold (fun (o : Sl api_Header) x => o.app [limHead x]) Sl.nil l.list hi).symm
    · simp only; rw [hb, List.take_succ_eq_append_getElem hi, List.any_append]; simp)
  rw [List.take_length] at h2 h3
  rw [h1]
  obtain ⟨a, b⟩ := w
  simp only at h2 h3
  rw [h2, h3]
theorem up_eq {w : Int} (h0 : 0 ≤ w) (h1 : w ≤ 345686400000) : limit_up w 1000 = some ((w + 999) / 1000) := by
  unfold limit_up
  rw [ckquo_pos h0 (by omega) (by omega), ckrem_pos h0 (by omega)]
  simp only [Option.bind_some]
  split
  · rw [w64_id (by omega) (by omega)]; congr 1; omega
  · congr 1; omega
theorem lines_eq (l : Sl api_Limit) (v : api_Verdict) (hk : ∀ x ∈ l.list, x.Key.length < 1000000000000) (hf : limsFault l.list = 0) (h : Small l) : limit_Lines l v = some (linesSpec l.list v) := by
  unfold limit_Lines linesSpec
  rw [CheckLimits_eq l hk, hf]
  simp only [Option.bind_some, there_eq l v h.1, outside_eq]
  rw [if_neg (by simp)]
  have hlen : (l.list.foldl (fun (o : Sl api_Header) x => o.app [limHead x]) Sl.nil).list.length = l.list.length := by rw [fold_len]; simp [Sl.list]
  have e1 : (v.Ok && !eq_api_Verdict v ⟨true, [], 0⟩) = true ↔ v.Ok = true ∧ (v.By ≠ [] ∨ v.Wait ≠ 0) := by
    obtain ⟨o, b, w⟩ := v
    cases o with
    | false => simp
    | true =>
      have := eq_api_Verdict_iff ⟨true, b, w⟩ ⟨true, [], 0⟩
      cases he : eq_api_Verdict ⟨true, b, w⟩ ⟨true, [], 0⟩ with
      | true => have := this.1 he; simp only [api_Verdict.mk.injEq, true_and] at this; simp [this]
      | false =>
        simp only [Bool.not_false, Bool.and_true, true_and, true_iff]
        apply Decidable.byContradiction
        intro hn
        have h2 : b = [] ∧ w = 0 := by
          constructor
          · apply Decidable.byContradiction; intro h; exact hn (.inl h)
          · apply Decidable.byContradiction; intro h; exact hn (.inr h)
        rw [h2.1, h2.2] at he
        have h3 := (eq_api_Verdict_iff ⟨true, [], 0⟩ ⟨true, [], 0⟩).2 rfl
        rw [h3] at he; cases he
  by_cases c1 : v.Ok = true ∧ (v.By ≠ [] ∨ v.Wait ≠ 0)
  · rw [if_pos (e1.2 c1), if_pos c1]
  · rw [if_neg (fun x => c1 (e1.1 x)), if_neg c1]
    by_cases c2 : v.Ok = true
    · have hw : v.By = [] ∧ v.Wait = 0 := by
        constructor
        · apply Decidable.byContradiction; intro h; exact c1 ⟨c2, .inl h⟩
        · apply Decidable.byContradiction; intro h; exact c1 ⟨c2, .inr h⟩
      rw [if_neg (by rw [c2]; simp), if_pos c2, if_neg (by rw [hw.2]; decide), lines_loop l h]
      simp only [Option.bind_some]
      rw [if_neg (by rw [c2]; simp)]
      simp only [Option.bind_some]
      rw [if_neg (by have := h.1; omega)]
    · have c2' : v.Ok = false := by simpa using c2
      rw [if_neg c2, c2']
      cases ha : l.list.any fun x => x.Key == v.By with
      | false => simp
      | true =>
        simp only [Bool.not_false, Bool.not_true, Bool.and_false, Bool.false_eq_true, if_false]
        cases hb : inB v.Wait (-1) 345686400000 with
        | false => simp
        | true =>
          have hb := in_true.1 hb
          simp only [Bool.not_true, Bool.false_eq_true, if_false]
          rw [lines_loop l h]
          simp only [Option.bind_some, if_true]
          by_cases hw : v.Wait = -1
          · rw [if_neg (by simpa using hw), if_pos hw]
            simp only [Option.bind_some]
            rw [slapp_ok (by rw [hlen]; have := h.1; simp; omega) (by omega)]
            simp only [Option.bind_some]
            rw [if_neg (by rw [slapp_list, List.length_append, hlen]; have := h.1; simp; omega)]
            simp
          · rw [if_pos hw, if_neg hw, up_eq (by omega) (by omega)]
            simp only [Option.bind_some]
            rw [itoa_ok (by omega) (by omega)]
            simp only [Option.bind_some]
            rw [slapp_ok (by rw [hlen]; have := h.1; simp; omega) (by omega)]
            simp only [Option.bind_some]
            rw [if_neg (by rw [slapp_list, List.length_append, hlen]; have := h.1; simp; omega)]
            simp
theorem linesOf_eq (l : Sl api_Limit) (v : api_Verdict) (h : Small l) : gateref1_LinesOf l v = some (linesSpec l.list v) := by
  unfold gateref1_LinesOf linesSpec
  rw [linesOf_loop l v h]
  simp only [Option.bind_some, in_eq]
  have hlen : (l.list.foldl (fun (o : Sl api_Header) x => o.app [limHead x]) Sl.nil).list.length = l.list.length := by rw [fold_len]; simp [Sl.list]
  by_cases c1 : v.Ok = true ∧ (v.By ≠ [] ∨ v.Wait ≠ 0)
  · rw [if_pos (by simpa using c1), if_pos c1]
  · rw [if_neg (by simpa using c1), if_neg c1]
    by_cases c2 : v.Ok = true
    · rw [if_pos c2, if_pos c2]
    · rw [if_neg c2, if_neg c2]
      cases ha : l.list.any fun x => x.Key == v.By with
      | false => simp
      | true =>
        simp only [Bool.not_true, Bool.false_eq_true, if_false]
        cases hb : inB v.Wait (-1) 345686400000 with
        | false => simp
        | true =>
          have hb := in_true.1 hb
          simp only [Bool.not_true, Bool.false_eq_true, if_false]
          by_cases hw : v.Wait = -1
          · rw [if_neg (by omega), if_pos hw]
            simp only [Option.bind_some]
            rw [slapp_ok (by rw [hlen]; have := h.1; simp; omega) (by omega)]
            simp
          · rw [if_pos (by omega), if_neg hw, w64_id (n := v.Wait + 999) (by omega) (by omega), Int.tdiv_eq_ediv_of_nonneg (by omega), w64_id (by omega) (by omega)]
            rw [itoa_ok (by omega) (by omega)]
            simp only [Option.bind_some]
            rw [slapp_ok (by rw [hlen]; have := h.1; simp; omega) (by omega)]
            simp
theorem equal_heads (a : Sl api_Header) (hl : a.list.length ≤ 1000) : slices_Equal_api_Header_api_Header a a = some true := by
  unfold slices_Equal_api_Header_api_Header
  rw [if_neg (by simp), rangeS_eq (by omega)]
  obtain ⟨v, h1, _⟩ := rangeL_inv (f := slices_Equal_api_Header_api_Header_l0 a) (fin := fun () => (Res.out () : Res Unit Bool)) (l := a.list) (v0 := ()) (fun _ _ => True) trivial (by
    intro i v hi _
    simp only [slices_Equal_api_Header_api_Header_l0, get_ok hi, Option.bind_some, (eq_api_Header_iff a.list[i] a.list[i]).2 rfl]
    exact ⟨(), rfl, trivial⟩)
  rw [h1]; rfl
theorem spec_len (l : List api_Limit) (v : api_Verdict) (hl : l.length ≤ 20) : (linesSpec l v).1.list.length ≤ 1000 := by
  have hlen : (l.foldl (fun (o : Sl api_Header) x => o.app [limHead x]) Sl.nil).list.length = l.length := by rw [fold_len]; simp [Sl.list]
  unfold linesSpec
  simp only
  split
  · simp [Sl.list]
  split
  · simp only [hlen]; omega
  split
  · simp [Sl.list]
  split
  · simp [Sl.list]
  · simp only [slapp_list, List.length_append, hlen]; simp; omega
/-- The law. -/
theorem lines_true (l : Sl Int) (h0 : l.list.length ≤ 9223372036854775807) (h1 : ∀ n ∈ l.list, -9223372036854775808 ≤ n ∧ n ≤ 9223372036854775807) : gatelaw1_LinesWritten l = some true := by
  unfold gatelaw1_LinesWritten
  obtain ⟨x, s1, e1, hx, hxl, g1⟩ := limits_ok (s := ⟨l, 0⟩) (k := 0) ⟨by simp, by simp, h0, h1⟩ (by omega)
  rw [e1]; simp only [Option.bind_some]
  obtain ⟨by_, s2, e2, hby, g2⟩ := some_ok [[108, 97], [108, 98], [108, 99], [122, 122], []] g1 (by simp) (by simp) (by omega)
  rw [e2]; simp only [Option.bind_some]
  obtain ⟨w, s3, e3, hw, g3⟩ := pick_ok [(-1), 0, 1, 999, 1000, 1001, (-2), 345686400000, 345686400001] g2 (by simp) (by simp) (by omega)
  rw [e3]; simp only [Option.bind_some]
  obtain ⟨b, s4, e4, g4⟩ := flip_ok 3 g3 (by omega) (by omega) (by omega)
  rw [e4]; simp only [Option.bind_some]
  obtain ⟨v, hv⟩ : ∃ v, (if b = true then (gatemake_Stream_Some s4 (Sl.full [[], [], [108, 97]] : Sl Str)).bind fun (r271, t136) => (gatemake_Stream_Pick t136 (Sl.full [0, 0, 1] : Sl Int)).bind fun (r301, t137) => some (api_Verdict.mk true r271 r301) else some (api_Verdict.mk false by_ w)) = some v := by
    cases b with
    | false => exact ⟨_, if_neg (by simp)⟩
    | true =>
      rw [if_pos rfl]
      obtain ⟨y, s5, e5, _, g5⟩ := some_ok [[], [], [108, 97]] g4 (by simp) (by simp) (by omega)
      rw [e5]; simp only [Option.bind_some]
      obtain ⟨z, s6, e6, _, g6⟩ := pick_ok [0, 0, 1] g5 (by simp) (by simp) (by omega)
      rw [e6]
      exact ⟨_, rfl⟩
  rw [hv]
  simp only [Option.bind_some]
  have hk : ∀ y ∈ x.list, y.Key.length < 1000000000000 := fun y hy => by have := (hx y hy).1; omega
  rw [LimitsFault_eq x hk]
  by_cases hf : limsFault x.list = 0
  · obtain ⟨hl, hn⟩ := right_of hf
    have hs : Small x := ⟨hl, fun y hy => ⟨hn y hy, by have := (hx y hy).1; omega⟩⟩
    rw [lines_eq x v hk hf hs]
    simp only [Option.bind_some]
    rw [if_neg (by simpa using hf), linesOf_eq x v hs]
    simp only [Option.bind_some, if_true, equal_heads _ (spec_len _ _ hl)]
  · have e : limit_Lines x v = some (Sl.nil, limsFault x.list) := by
      unfold limit_Lines
      rw [CheckLimits_eq x hk]
      simp only [Option.bind_some]
      rw [if_pos hf]
    rw [e]
    simp only [Option.bind_some]
    rw [if_pos hf]
    simp [Sl.list]
end Go.GW
