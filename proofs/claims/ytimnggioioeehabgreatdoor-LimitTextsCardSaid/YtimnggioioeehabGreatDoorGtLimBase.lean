/- Limits that the stream hands out; words of the kinds. -/
import Derived.Test.YtimnggioioeehabGreatDoorGtLimits
namespace Go.GW
open Go.AE

theorem some_ok {s : gatemake_Stream} {k : Int} (l : List Str) (g : Good s k) (hl : 0 < l.length) (hl2 : l.length ≤ 1000) (hk : k ≤ 10000) : ∃ r s', gatemake_Stream_Some s (.full l) = some (r, s') ∧ r ∈ l ∧ Good s' (k + 1) := by
  unfold gatemake_Stream_Some
  simp only [Sl.list]
  obtain ⟨r, s', h3, h4, h5, h6⟩ := next_ok (l.length : Int) g (by omega) (by omega) (by omega)
  rw [h3]
  simp only [Option.bind_some]
  obtain ⟨i, rfl⟩ : ∃ i : Nat, r = i := ⟨r.toNat, by omega⟩
  have hi : i < (Sl.full l).list.length := by simp [Sl.list]; omega
  rw [get_ok hi]
  exact ⟨_, _, rfl, List.getElem_mem _, h6⟩
/-- A limit that the stream hands out. -/
def LimOk (x : api_Limit) : Prop := x.Key.length ≤ 2 ∧ LimNum x
theorem limits_ok {s : gatemake_Stream} {k : Int} (g : Good s k) (hk : k ≤ 8000) : ∃ x s', gatemake_Stream_Limits s = some (x, s') ∧ (∀ y ∈ x.list, LimOk y) ∧ x.list.length ≤ 4 ∧ Good s' (k + 30) := by
  unfold gatemake_Stream_Limits
  rw [rangeS_eq (by simp [Sl.list])]
  obtain ⟨⟨s1, x1⟩, e1, hg1, hl1, hx1⟩ := rangeL_inv (f := gatemake_Stream_Limits_l0) (fin := fun (s_9, out_5) => (s_9, out_5)) (l := (Sl.full [[108, 97], [108, 98], [108, 99]] : Sl Str).list) (v0 := (s, (Sl.nil : Sl api_Limit)))
    (fun i v => Good v.1 (k + 5 * i) ∧ v.2.list.length ≤ i ∧ ∀ y ∈ v.2.list, LimOk y) ⟨by simpa using g, by simp [Sl.list], by simp [Sl.list]⟩ (by
    rintro i ⟨s, x⟩ hi ⟨hg, hl, hx⟩
    have hi3 : i < 3 := by simpa [Sl.list] using hi
    simp only at hg hl hx
    simp only [gatemake_Stream_Limits_l0]
    have hkey : ((Sl.full [[108, 97], [108, 98], [108, 99]] : Sl Str).list[i]).length ≤ 2 := by
      have h := List.getElem_mem hi
      generalize (Sl.full [[108, 97], [108, 98], [108, 99]] : Sl Str).list[i] = y at h
      simp only [Sl.list, List.mem_cons, List.not_mem_nil, or_false] at h
      rcases h with rfl | rfl | rfl <;> simp
    generalize (Sl.full [[108, 97], [108, 98], [108, 99]] : Sl Str).list[i] = key at hkey
    obtain ⟨b, s1, e1, g1⟩ := flip_ok 2 hg (by omega) (by omega) (by omega)
    rw [e1]
    simp only [Option.bind_some]
    cases b with
    | true =>
      rw [if_pos rfl]
      obtain ⟨y, s2, e2, h1, h2, g2⟩ := rightLimit_ok key g1 (by omega)
      rw [e2]
      simp only [Option.bind_some]
      rw [slapp_ok (by simp; omega) (by omega)]
      refine ⟨_, rfl, g2.up (by omega), by rw [slapp_list]; simp; omega, ?_⟩
      rw [slapp_list]
      intro z hz
      rcases List.mem_append.1 hz with hz | hz
      · exact hx z hz
      · simp only [List.mem_singleton] at hz; subst hz; exact ⟨by rw [h1]; exact hkey, h2⟩
    | false =>
      rw [if_neg (by simp)]
      exact ⟨_, rfl, g1.up (by omega), by simp only; omega, hx⟩)
  rw [e1]
  have h3 : (Sl.full [[108, 97], [108, 98], [108, 99]] : Sl Str).list.length = 3 := rfl
  rw [h3] at hg1 hl1
  simp only at hg1 hl1 hx1
  simp only [Option.bind_some]
  obtain ⟨b, s2, e2, g2⟩ := flip_ok 15 hg1 (by omega) (by omega) (by omega)
  rw [e2]
  simp only [Option.bind_some]
  have fin : ∀ (s' : gatemake_Stream) (y : api_Limit), LimOk y → Good s' (k + 30) → ∃ x s'', ((x1.app? 48 [y]).bind fun o => some (o, s')) = some (x, s'') ∧ (∀ y ∈ x.list, LimOk y) ∧ x.list.length ≤ 4 ∧ Good s'' (k + 30) := by
    intro s' y hy hg
    rw [slapp_ok (by simp; omega) (by omega)]
    refine ⟨_, _, rfl, ?_, by rw [slapp_list]; simp; omega, hg⟩
    rw [slapp_list]
    intro z hz
    rcases List.mem_append.1 hz with hz | hz
    · exact hx1 z hz
    · simp only [List.mem_singleton] at hz; subst hz; exact hy
  cases b with
  | false => rw [if_neg (by simp)]; exact ⟨_, _, rfl, hx1, by omega, g2.up (by omega)⟩
  | true =>
    rw [if_pos rfl]
    obtain ⟨key, s3, e3, hkey, g3⟩ := some_ok [[], [108, 97], [122, 122]] g2 (by simp) (by simp) (by omega)
    rw [e3]; simp only [Option.bind_some]
    have hkl : key.length ≤ 2 := by
      simp only [List.mem_cons, List.not_mem_nil, or_false] at hkey
      rcases hkey with rfl | rfl | rfl <;> simp
    obtain ⟨y, s4, e4, h1, h2, g4⟩ := rightLimit_ok key g3 (by omega)
    rw [e4]; simp only [Option.bind_some]
    obtain ⟨n, s5, e5, h5, h6, g5⟩ := next_ok 4 g4 (by omega) (by omega) (by omega)
    rw [e5]; simp only [Option.bind_some]
    have hyk : y.Key.length ≤ 2 := by rw [h1]; exact hkl
    split
    · obtain ⟨r, s6, e6, h7, h8, g6⟩ := odd_ok 1 4 g5 (by omega) (by omega) (by omega) (by omega)
      rw [e6]; simp only [Option.bind_some]
      exact fin _ _ ⟨hyk, ⟨⟨h7, h8⟩, h2.most, h2.per, h2.burst⟩⟩ (g6.up (by omega))
    · split
      · obtain ⟨r, s6, e6, h7, h8, g6⟩ := odd_ok 1 1000000000 g5 (by omega) (by omega) (by omega) (by omega)
        rw [e6]; simp only [Option.bind_some]
        exact fin _ _ ⟨hyk, ⟨h2.kind, ⟨h7, h8⟩, h2.per, h2.burst⟩⟩ (g6.up (by omega))
      · split
        · obtain ⟨r, s6, e6, h7, h8, g6⟩ := odd_ok 0 8640000000 g5 (by omega) (by omega) (by omega) (by omega)
          rw [e6]; simp only [Option.bind_some]
          exact fin _ _ ⟨hyk, ⟨h2.kind, h2.most, ⟨h7, h8⟩, h2.burst⟩⟩ (g6.up (by omega))
        · obtain ⟨r, s6, e6, h7, h8, g6⟩ := odd_ok 0 1000000000 g5 (by omega) (by omega) (by omega) (by omega)
          rw [e6]; simp only [Option.bind_some]
          exact fin _ _ ⟨hyk, ⟨h2.kind, h2.most, h2.per, ⟨h7, h8⟩⟩⟩ (g6.up (by omega))

/-- Right limits. -/
theorem right_of {l : List api_Limit} (h : limsFault l = 0) : l.length ≤ 20 ∧ ∀ x ∈ l, numFault x = 0 := by
  unfold limsFault at h
  split at h
  · cases h
  · refine ⟨by omega, ?_⟩
    have key : ∀ (m : List api_Limit) (k : Nat), (firstSome (fun i x => if ithFault l i x = 0 then none else some (ithFault l i x)) k m).getD 0 = 0 → ∀ x ∈ m, numFault x = 0 := by
      intro m
      induction m with
      | nil => intro k _ x hx; cases hx
      | cons y m ih =>
        intro k hk x hx
        simp only [firstSome] at hk
        by_cases h0 : ithFault l k y = 0
        · rw [if_pos h0] at hk
          rcases List.mem_cons.1 hx with rfl | hx
          · unfold ithFault at h0
            split at h0
            · cases h0
            · split at h0
              · cases h0
              · exact h0
          · exact ih (k + 1) hk x hx
        · rw [if_neg h0] at hk
          simp only [Option.getD_some] at hk
          exact absurd hk h0
    exact key l 0 h
theorem num_of {x : api_Limit} (h : numFault x = 0) : (1 ≤ x.Kind ∧ x.Kind ≤ 4) ∧ (1 ≤ x.Most ∧ x.Most ≤ 1000000000) ∧ 0 ≤ x.Per ∧ x.Per ≤ 8640000000 := by
  unfold numFault at h
  split at h
  · cases h
  split at h
  · cases h
  split at h
  · cases h
  rename_i h1 h2 h3
  have h1 := in_true.1 (by simpa using h1)
  have h2 := in_true.1 (by simpa using h2)
  refine ⟨h1, h2, ?_⟩
  by_cases h4 : x.Kind = 4
  · by_cases hp : x.Per = 0
    · omega
    · exact absurd (.inl ⟨h4, hp⟩) h3
  · cases hb : inB x.Per 1 8640000000 with
    | true => have := in_true.1 hb; omega
    | false => exact absurd (.inr ⟨h4, hb⟩) h3

def kindW (n : Int) : Str := (([[], [119, 105, 110, 100, 111, 119], [115, 108, 105, 100, 105, 110, 103], [98, 117, 99, 107, 101, 116], [111, 110, 99, 101]] : List Str)[n.toNat]?).getD []
theorem kindW_ok {n : Int} (h0 : 0 ≤ n) (h1 : n ≤ 4) : (Sl.full [[], [119, 105, 110, 100, 111, 119], [115, 108, 105, 100, 105, 110, 103], [98, 117, 99, 107, 101, 116], [111, 110, 99, 101]] : Sl Str).get? n = some (kindW n) ∧ (kindW n).length ≤ 7 := by
  obtain ⟨i, rfl⟩ : ∃ i : Nat, n = i := ⟨n.toNat, by omega⟩
  have : i = 0 ∨ i = 1 ∨ i = 2 ∨ i = 3 ∨ i = 4 := by omega
  rcases this with rfl | rfl | rfl | rfl | rfl <;> simp [Sl.get?, Sl.list, kindW]
end Go.GW
