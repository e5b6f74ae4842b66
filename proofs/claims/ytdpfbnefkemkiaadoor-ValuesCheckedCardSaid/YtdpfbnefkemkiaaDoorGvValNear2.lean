/- Near. -/
import Derived.Test.YtdpfbnefkemkiaaDoorGvValNear
namespace Go.GW
open Go.AE

theorem near_ok : ∀ (d j : Nat) (v : api_Value) (s : gatemake_Stream) (c : Int), d + 3 ≤ j → Fits d v → wt d v ≤ 1000000 → Good s c → c + 100 * wt d v ≤ 1000000000 →
    ∃ v' s', gatemake_Stream_Near j s v = some (v', s') ∧ Fits (d + 3) v' ∧ wt (d + 3) v' ≤ 400 * wt d v ∧ Good s' (c + 100 * wt d v)
  | 0, _, _, _, _, _, h, _, _, _ => h.elim
  | d + 1, j, v, s, c, hj, hF, hw, g, hc => by
    obtain ⟨j, rfl⟩ : ∃ i, j = i + 1 := ⟨j - 1, by omega⟩
    have hl := wt_ll (k := d) (v := v)
    have hml := wt_ml (k := d) (v := v)
    have hwd : wt (d + 1) v = 30 + 6 * v.Words.length + (v.List.list.map fun x => wt d x + 1).sum + (v.Members.list.map fun m => 6 * m.Name.length + 4 + wt d m.Value).sum := rfl
    have hF4 : Fits (d + 1 + 3) v := hF.up (by omega)
    have hW1 : W 1 = 1624 := rfl
    have hW2 : W 2 = 9976 := rfl
    have hD1 : Dr 1 = 126 := rfl
    have hD2 : Dr 2 = 774 := rfl
    have upL : ∀ x ∈ v.List.list, wt (d + 3) x = wt d x := fun x hx => wt_up (hF x (kids_l hx)) (by omega)
    have upM : ∀ m ∈ v.Members.list, wt (d + 3) m.Value = wt d m.Value := fun m hm => wt_up (hF _ (kids_m hm)) (by omega)
    have sumM : (v.Members.list.map fun m => 6 * m.Name.length + 4 + wt (d + 3) m.Value).sum = (v.Members.list.map fun m => 6 * m.Name.length + 4 + wt d m.Value).sum := sum_congr (fun m hm => by rw [upM m hm])
    have sumL : (v.List.list.map fun x => wt (d + 3) x + 1).sum = (v.List.list.map fun x => wt d x + 1).sum := sum_congr (fun x hx => by rw [upL x hx])
    rw [gatemake_Stream_Near]
    obtain ⟨b, s1, e1, g1⟩ := flip_ok 3 g (by omega) (by omega) (by omega)
    rw [e1, Option.bind_some]
    simp only
    cases b with
    | true =>
      rw [if_pos rfl]
      obtain ⟨x, s2, e2, h1, h2, g2⟩ := right_ok 2 j s1 _ (by omega) (by omega) g1 (by omega)
      have e2' : gatemake_Stream_RightValue j s1 2 = some (x, s2) := e2
      rw [e2', Option.bind_some]
      exact ⟨_, _, rfl, h1.up (by omega), by rw [wt_up h1 (by omega)]; omega, g2.up (by omega)⟩
    | false =>
      rw [if_neg (by simp)]
      by_cases k4 : v.Kind = 4
      · rw [if_pos k4]
        obtain ⟨l, e2, hl2⟩ := clone_ok (v := v.List) (by omega)
        have hsd : (v.List.list.map fun x => 100 * wt d x + 100).sum = 100 * (v.List.list.map fun x => wt d x + 1).sum := sum_100 (fun x => wt d x) _
        have hsw : (v.List.list.map fun x => 400 * wt d x + 1).sum ≤ 400 * (v.List.list.map fun x => wt d x + 1).sum := sum_400 (fun x => wt d x) _
        rw [e2, Option.bind_some, rangeN_eq (by rw [hl2]; omega)]
        obtain ⟨⟨s3, l3⟩, e3, hlen, hpt, hg3⟩ := rangeL_inv (f := fun i _ v => gatemake_Stream_Near_l0 (gatemake_Stream_Near j) i v) (fin := fun (s_8, l4) => (s_8, l4)) (l := List.range (l.list.length : Int).toNat) (v0 := (s1, l))
          (fun i p => p.2.list.length = v.List.list.length ∧ (∀ (k : Nat) x y, p.2.list[k]? = some x → v.List.list[k]? = some y → Fits (d + 3) x ∧ wt (d + 3) x ≤ 400 * wt d y ∧ (i ≤ k → x = y)) ∧ Good p.1 (c + 1 + (((v.List.list.take i).map fun x => 100 * wt d x + 100).sum : Nat)))
          ⟨by simp [hl2], fun k x y hx hy => by
            simp only [hl2] at hx
            rw [hx] at hy
            cases hy
            have hm : x ∈ v.List.list := List.mem_of_getElem? hx
            exact ⟨(hF x (kids_l hm)).up (by omega), by rw [upL x hm]; omega, fun _ => rfl⟩, by simpa using g1⟩ (by
          rintro i ⟨s4, l4⟩ hi ⟨hlen, hpt, hg⟩
          simp only at hlen hpt hg
          have hi' : i < v.List.list.length := by simpa [hl2] using hi
          have a1 := take_sum (fun x => 100 * wt d x + 100) v.List.list hi'
          have a2 := take_le (fun x => 100 * wt d x + 100) v.List.list (i + 1)
          simp only [gatemake_Stream_Near_l0]
          obtain ⟨b, s5, e5, g5⟩ := flip_ok 2 hg (by omega) (by omega) (by omega)
          rw [e5, Option.bind_some]
          simp only
          cases b with
          | false =>
            rw [if_neg (by simp)]
            exact ⟨_, rfl, hlen, fun k x y hx hy => by
              obtain ⟨q1, q2, q3⟩ := hpt k x y hx hy
              exact ⟨q1, q2, fun hk => q3 (by omega)⟩, g5.up (by rw [a1]; omega)⟩
          | true =>
            rw [if_pos rfl]
            have hgi := get_ok (s := l4) (i := i) (by omega)
            have hget : l4.list[i]'(by omega) = v.List.list[i] := (hpt i _ _ (List.getElem?_eq_getElem (by omega)) (List.getElem?_eq_getElem hi')).2.2 (Nat.le_refl _)
            have hm : v.List.list[i] ∈ v.List.list := List.getElem_mem _
            have hwx := wt_l (k := d) hm
            obtain ⟨x', s6, e6, h6, h7, g6⟩ := near_ok d j v.List.list[i] s5 _ (by omega) (hF _ (kids_l hm)) (by omega) g5 (by omega)
            rw [hgi, Option.bind_some, hget, e6, Option.bind_some]
            simp only [Option.bind_some]
            have hset : l4.set? (i : Int) x' = some (.full (l4.list.set i x')) := by
              unfold Sl.set?
              rw [if_pos (by omega)]
              simp
            rw [hset, Option.bind_some]
            refine ⟨_, rfl, by simpa [Sl.list] using hlen, fun k x y hx hy => ?_, g6.up (by rw [a1]; omega)⟩
            have hx2 : (l4.list.set i x')[k]? = some x := hx
            rw [List.getElem?_set] at hx2
            by_cases hk : i = k
            · subst hk
              rw [if_pos rfl, if_pos (by omega)] at hx2
              cases hx2
              rw [List.getElem?_eq_getElem hi'] at hy
              cases hy
              exact ⟨h6, h7, fun hk => by omega⟩
            · rw [if_neg hk] at hx2
              obtain ⟨q1, q2, q3⟩ := hpt k x y hx2 hy
              exact ⟨q1, q2, fun hk => q3 (by omega)⟩)
        have hrl : (List.range (l.list.length : Int).toNat).length = v.List.list.length := by simp [hl2]
        rw [hrl, List.take_length] at hg3
        simp only at hlen hpt hg3
        have hsum : (l3.list.map fun x => wt (d + 3) x + 1).sum ≤ (v.List.list.map fun x => 400 * wt d x + 1).sum := sum_two hlen (fun i x y hx hy => by have := (hpt i x y hx hy).2.1; omega)
        have hfit : ∀ x ∈ l3.list, Fits (d + 3) x := fun x hx => by
          obtain ⟨k, hk, rfl⟩ := List.getElem_of_mem hx
          exact (hpt k _ _ (List.getElem?_eq_getElem hk) (List.getElem?_eq_getElem (by omega))).1
        have fin : ∀ (l' : Sl api_Value) (s' : gatemake_Stream), (∀ x ∈ l'.list, Fits (d + 3) x) → (l'.list.map fun x => wt (d + 3) x + 1).sum ≤ (v.List.list.map fun x => 400 * wt d x + 1).sum + 1625 → Good s' (c + 100 * wt (d + 1) v) →
            ∃ v' s'', some (api_Value.mk v.Kind v.Flag v.Number v.Words l' v.Members, s') = some (v', s'') ∧ Fits (d + 1 + 3) v' ∧ wt (d + 1 + 3) v' ≤ 400 * wt (d + 1) v ∧ Good s'' (c + 100 * wt (d + 1) v) := by
          intro l' s' q1 q2 q3
          refine ⟨_, _, rfl, fun y hy => ?_, ?_, q3⟩
          · rcases List.mem_append.1 hy with h | h
            · exact q1 y h
            · obtain ⟨m, h2, rfl⟩ := List.mem_map.1 h
              exact hF4 _ (kids_m (v := v) h2)
          · show 30 + 6 * v.Words.length + (l'.list.map fun x => wt (d + 3) x + 1).sum + (v.Members.list.map fun m => 6 * m.Name.length + 4 + wt (d + 3) m.Value).sum ≤ _
            omega
        refine bindE e3 ?_
        simp only
        obtain ⟨b, s5, e5, g5⟩ := flip_ok 3 hg3 (by omega) (by omega) (by omega)
        rw [e5, Option.bind_some]
        simp only
        cases b with
        | true =>
          rw [if_pos rfl]
          obtain ⟨x, s6, e6, h1, h2, g6⟩ := right_ok 1 j s5 _ (by omega) (by omega) g5 (by omega)
          have e6' : gatemake_Stream_RightValue j s5 1 = some (x, s6) := e6
          rw [e6', Option.bind_some]
          simp only
          rw [slapp_ok (by simp; omega) (by omega), Option.bind_some]
          refine fin _ _ ?_ ?_ (g6.up (by omega))
          · rw [slapp_list]
            intro y hy
            rcases List.mem_append.1 hy with h | h
            · exact hfit y h
            · simp only [List.mem_singleton] at h; subst h; exact h1.up (by omega)
          · have h2' : wt 2 x ≤ W 1 := h2
            rw [slapp_list, List.map_append, List.sum_append]
            have : ([x].map fun x => wt (d + 3) x + 1).sum = wt 2 x + 1 := by simp [wt_up h1 (show 1 + 1 ≤ d + 3 by omega)]
            omega
        | false =>
          rw [if_neg (by simp)]
          obtain ⟨b, s6, e6, g6⟩ := flip_ok 3 g5 (by omega) (by omega) (by omega)
          rw [e6, Option.bind_some]
          simp only
          by_cases hb : (b && decide ((l3.list.length : Int) > 0)) = true
          · rw [if_pos hb]
            simp only [Bool.and_eq_true, decide_eq_true_eq] at hb
            have e : w64 ((l3.list.length : Int) - 1) = ((l3.list.length - 1 : Nat) : Int) := by rw [w64_id (by omega) (by omega)]; omega
            obtain ⟨l8, e8, h8⟩ : ∃ l8, l3.sub? 0 (((l3.list.length - 1 : Nat) : Int)) = some l8 ∧ l8.list = l3.list.take (l3.list.length - 1) := sub_take (by omega) (by omega)
            rw [e, e8, Option.bind_some]
            refine fin _ _ ?_ ?_ (g6.up (by omega))
            · rw [h8]; exact fun x hx => hfit x (List.mem_of_mem_take hx)
            · rw [h8]
              have := take_le (fun x => wt (d + 3) x + 1) l3.list (l3.list.length - 1)
              omega
          · rw [if_neg hb]
            exact fin _ _ hfit (by omega) (g6.up (by omega))
      rw [if_neg k4]
      by_cases k5 : v.Kind = 5
      · rw [if_pos k5, rangeS_eq (by omega)]
        have hsd : (v.Members.list.map fun m => 100 * wt d m.Value + 100).sum ≤ 100 * (v.Members.list.map fun m => 6 * m.Name.length + 4 + wt d m.Value).sum := sum_100m (fun m : api_Member => wt d m.Value) (fun m => m.Name.length) _
        have hsw : (v.Members.list.map fun m => 6 * m.Name.length + 4 + 400 * wt d m.Value).sum ≤ 400 * (v.Members.list.map fun m => 6 * m.Name.length + 4 + wt d m.Value).sum := sum_400m (fun m : api_Member => wt d m.Value) (fun m => m.Name.length) _
        obtain ⟨⟨s3, l3⟩, e3, hlen, hfit, hsum, hg3⟩ := rangeL_inv (f := gatemake_Stream_Near_l1 (gatemake_Stream_Near j)) (fin := fun (s_26, l17) => (s_26, l17)) (l := v.Members.list) (v0 := (s1, (Sl.nil : Sl api_Member)))
          (fun i p => p.2.list.length ≤ i ∧ (∀ m ∈ p.2.list, Fits (d + 3) m.Value) ∧ (p.2.list.map fun m => 6 * m.Name.length + 4 + wt (d + 3) m.Value).sum ≤ ((v.Members.list.take i).map fun m => 6 * m.Name.length + 4 + 400 * wt d m.Value).sum ∧ Good p.1 (c + 1 + (((v.Members.list.take i).map fun m => 100 * wt d m.Value + 100).sum : Nat)))
          ⟨by simp [Sl.list], by simp [Sl.list], by simp [Sl.list], by simpa using g1⟩ (by
          rintro i ⟨s4, l4⟩ hi ⟨hlen, hfit, hsum, hg⟩
          simp only at hlen hfit hsum hg
          have a1 := take_sum (fun m : api_Member => 100 * wt d m.Value + 100) v.Members.list hi
          have a2 := take_le (fun m : api_Member => 100 * wt d m.Value + 100) v.Members.list (i + 1)
          have a3 := take_sum (fun m : api_Member => 6 * m.Name.length + 4 + 400 * wt d m.Value) v.Members.list hi
          have hm : v.Members.list[i] ∈ v.Members.list := List.getElem_mem _
          have hwx := wt_m (k := d) hm
          generalize v.Members.list[i] = m at a1 a3 hm hwx
          have add : ∀ (x : api_Value) (s' : gatemake_Stream), Fits (d + 3) x → wt (d + 3) x ≤ 400 * wt d m.Value → Good s' (c + 1 + (((v.Members.list.take (i + 1)).map fun m => 100 * wt d m.Value + 100).sum : Nat)) →
              ∃ v', ((l4.app? 104 [api_Member.mk m.Name x]).bind fun l19 => some (Step.next (s', l19) : Step (gatemake_Stream × Sl api_Member) (gatemake_Stream × Sl api_Member))) = some (Step.next v') ∧ v'.2.list.length ≤ i + 1 ∧ (∀ m ∈ v'.2.list, Fits (d + 3) m.Value) ∧
                (v'.2.list.map fun m => 6 * m.Name.length + 4 + wt (d + 3) m.Value).sum ≤ ((v.Members.list.take (i + 1)).map fun m => 6 * m.Name.length + 4 + 400 * wt d m.Value).sum ∧ Good v'.1 (c + 1 + (((v.Members.list.take (i + 1)).map fun m => 100 * wt d m.Value + 100).sum : Nat)) := by
            intro x s' q1 q2 q3
            rw [slapp_ok (by simp; omega) (by omega), Option.bind_some]
            refine ⟨_, rfl, ?_, ?_, ?_, q3⟩
            · simp only [slapp_list]; simp; omega
            · simp only [slapp_list]
              intro y hy
              rcases List.mem_append.1 hy with h | h
              · exact hfit y h
              · simp only [List.mem_singleton] at h; subst h; exact q1
            · simp only [slapp_list]
              rw [a3, List.map_append, List.sum_append]
              have : ([api_Member.mk m.Name x].map fun m => 6 * m.Name.length + 4 + wt (d + 3) m.Value).sum = 6 * m.Name.length + 4 + wt (d + 3) x := by simp [api_Member.Name, api_Member.Value]
              omega
          simp only [gatemake_Stream_Near_l1]
          obtain ⟨b, s5, e5, g5⟩ := flip_ok 4 hg (by omega) (by omega) (by omega)
          rw [e5, Option.bind_some]
          simp only
          cases b with
          | true =>
            rw [if_pos rfl]
            exact ⟨_, rfl, by simp only; omega, hfit, by simp only; rw [a3]; omega, g5.up (by rw [a1]; omega)⟩
          | false =>
            rw [if_neg (by simp)]
            obtain ⟨b, s6, e6, g6⟩ := flip_ok 2 g5 (by omega) (by omega) (by omega)
            rw [e6, Option.bind_some]
            simp only
            cases b with
            | false =>
              rw [if_neg (by simp)]
              have := add m.Value s6 ((hF _ (kids_m hm)).up (by omega)) (by rw [upM m hm]; omega) (g6.up (by rw [a1]; omega))
              have em : api_Member.mk m.Name m.Value = m := by cases m; rfl
              rw [em] at this
              exact this
            | true =>
              rw [if_pos rfl]
              obtain ⟨x', s7, e7, h7, h8, g7⟩ := near_ok d j m.Value s6 _ (by omega) (hF _ (kids_m hm)) (by omega) g6 (by omega)
              rw [e7, Option.bind_some]
              simp only
              exact add x' s7 h7 h8 (g7.up (by rw [a1]; omega)))
        rw [List.take_length] at hsum hg3
        simp only at hlen hfit hsum hg3
        have fin : ∀ (l' : Sl api_Member) (s' : gatemake_Stream), (∀ m ∈ l'.list, Fits (d + 3) m.Value) → (l'.list.map fun m => 6 * m.Name.length + 4 + wt (d + 3) m.Value).sum ≤ (v.Members.list.map fun m => 6 * m.Name.length + 4 + 400 * wt d m.Value).sum + 1640 → Good s' (c + 100 * wt (d + 1) v) →
            ∃ v' s'', some (api_Value.mk v.Kind v.Flag v.Number v.Words v.List l', s') = some (v', s'') ∧ Fits (d + 1 + 3) v' ∧ wt (d + 1 + 3) v' ≤ 400 * wt (d + 1) v ∧ Good s'' (c + 100 * wt (d + 1) v) := by
          intro l' s' q1 q2 q3
          refine ⟨_, _, rfl, fun y hy => ?_, ?_, q3⟩
          · rcases List.mem_append.1 hy with h | h
            · exact hF4 _ (kids_l (v := v) h)
            · obtain ⟨m, h2, rfl⟩ := List.mem_map.1 h
              exact q1 m h2
          · show 30 + 6 * v.Words.length + (v.List.list.map fun x => wt (d + 3) x + 1).sum + (l'.list.map fun m => 6 * m.Name.length + 4 + wt (d + 3) m.Value).sum ≤ _
            omega
        refine bindE e3 ?_
        simp only
        obtain ⟨s4, t, e4, g4⟩ : ∃ s4 t, (if (l3.list.length : Int) = 0 then some (s3, true) else (l3.get? (w64 ((l3.list.length : Int) - 1))).bind fun x11 => ((if (slt x11.Name [122]) = true then (gatemake_Stream_Flip s3 3).bind fun (r1013, s_38) => some (s_38, r1013) else some (s3, false) : Option (gatemake_Stream × Bool))).bind fun (s_37, t1021) => some (s_37, t1021) : Option (gatemake_Stream × Bool)) = some (s4, t) ∧
            Good s4 (c + 2 + ((v.Members.list.map fun m => 100 * wt d m.Value + 100).sum : Nat)) := by
          by_cases h0 : (l3.list.length : Int) = 0
          · rw [if_pos h0]
            exact ⟨_, _, rfl, hg3.up (by omega)⟩
          · have e : w64 ((l3.list.length : Int) - 1) = ((l3.list.length - 1 : Nat) : Int) := by rw [w64_id (by omega) (by omega)]; omega
            rw [if_neg h0, e, get_ok (by omega), Option.bind_some]
            by_cases hs : slt (l3.list[l3.list.length - 1]'(by omega)).Name [122] = true
            · obtain ⟨b, s6, e6, g6⟩ := flip_ok 3 hg3 (by omega) (by omega) (by omega)
              rw [if_pos hs, e6]
              exact ⟨_, _, rfl, g6.up (by omega)⟩
            · rw [if_neg hs]
              exact ⟨_, _, rfl, hg3.up (by omega)⟩
        refine bindE e4 ?_
        simp only
        cases t with
        | true =>
          rw [if_pos rfl]
          obtain ⟨x, s6, e6, h1, h2, g6⟩ := right_ok 1 j s4 _ (by omega) (by omega) g4 (by omega)
          have e6' : gatemake_Stream_RightValue j s4 1 = some (x, s6) := e6
          rw [e6', Option.bind_some]
          simp only
          rw [slapp_ok (by simp; omega) (by omega), Option.bind_some]
          refine fin _ _ ?_ ?_ (g6.up (by omega))
          · rw [slapp_list]
            intro y hy
            rcases List.mem_append.1 hy with h | h
            · exact hfit y h
            · simp only [List.mem_singleton] at h; subst h; exact h1.up (by omega)
          · have h2' : wt 2 x ≤ W 1 := h2
            rw [slapp_list, List.map_append, List.sum_append]
            have : ([api_Member.mk [122] x].map fun m => 6 * m.Name.length + 4 + wt (d + 3) m.Value).sum = 10 + wt 2 x := by simp [api_Member.Name, api_Member.Value, wt_up h1 (show 1 + 1 ≤ d + 3 by omega)]
            omega
        | false =>
          rw [if_neg (by simp)]
          exact fin _ _ hfit (by omega) (g4.up (by omega))
      · rw [if_neg k5]
        exact ⟨_, _, rfl, hF4, by rw [wt_up hF (by omega)]; omega, g1.up (by omega)⟩
end Go.GW
