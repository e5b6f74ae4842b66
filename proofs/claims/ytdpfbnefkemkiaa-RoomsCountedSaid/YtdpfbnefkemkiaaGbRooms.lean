/- RoomsCounted: the law holds of the typed functions. -/
import Derived.Test.YtdpfbnefkemkiaaGbLimits
namespace Go.GW
open Go.AE

theorem or_eq (l : List Int) (hl : l.length < 1000000) : cmp_Or_api_Errno (.full l) = some ((l.find? (· ≠ 0)).getD 0) := by
  unfold cmp_Or_api_Errno
  rw [rangeS_eq (by simp only [Sl.list]; omega)]
  rw [rangeL_find (fun _ x => (if x = 0 then none else some x).map Res.ret) (by
    intro i hi
    simp only [cmp_Or_api_Errno_l0]
    by_cases h0 : (Sl.full l).list[i] = 0
    · simp [h0]
    · simp [h0]), firstSome_map]
  simp only [Option.bind_some, Sl.list]
  have e : ∀ k, firstSome (fun _ x => if x = 0 then none else some x) k l = l.find? (· ≠ 0) := by
    induction l with
    | nil => intro k; rfl
    | cons x l ih =>
      intro k
      simp only [firstSome, List.find?_cons]
      by_cases h0 : x = 0
      · simp [h0]; simpa using ih (by simp at hl; omega) (k + 1)
      · simp [h0]
  rw [e]
  cases l.find? (· ≠ 0) with
  | none => rfl
  | some b => rfl
theorem or3 (a b c : Int) : cmp_Or_api_Errno (.full [a, b, c]) = some (if a ≠ 0 then a else if b ≠ 0 then b else c) := by
  rw [or_eq _ (by simp)]
  congr 1
  simp only [List.find?_cons, List.find?_nil]
  by_cases ha : a = 0 <;> by_cases hb : b = 0 <;> by_cases hc : c = 0 <;> simp [ha, hb, hc]

/-- Rounded up. -/
theorem up_eq {a b : Int} (ha : 0 ≤ a) (hb : 0 < b) (h1 : a ≤ 9223372036854775806) : limit_up a b = some ((a + b - 1) / b) := by
  unfold limit_up
  rw [ckquo_pos ha hb (by omega), ckrem_pos ha hb]
  simp only [Option.bind_some]
  have h2 := Int.emod_nonneg a (show b ≠ 0 by omega)
  have h3 := Int.emod_lt_of_pos a hb
  have h4 := Int.emod_add_mul_ediv a b
  by_cases hr : a % b = 0
  · rw [if_neg (by omega)]
    congr 1
    have e : a + b - 1 = (b - 1) + b * (a / b) := by omega
    rw [e, Int.add_mul_ediv_left _ _ (by omega), Int.ediv_eq_zero_of_lt (a := b - 1) (b := b) (by omega) (by omega)]
    omega
  · rw [if_pos hr]
    congr 1
    have h5 : a / b ≤ a := Int.ediv_le_self b ha
    have h6 : 0 ≤ a / b := Int.ediv_nonneg ha (by omega)
    rw [w64_id (by omega) (by omega)]
    have e : a + b - 1 = (a % b - 1) + b * (a / b + 1) := by rw [Int.mul_add]; omega
    rw [e, Int.add_mul_ediv_left _ _ (by omega), Int.ediv_eq_zero_of_lt (a := a % b - 1) (b := b) (by omega) (by omega)]
    omega

/-- A limit without a fault, by its kind. -/
theorem limFault_zero {x : api_Limit} (h : limFault x = 0) : 1 ≤ x.Kind ∧ x.Kind ≤ 4 ∧ 1 ≤ x.Most ∧ x.Most ≤ 1000000000 ∧ (x.Kind ≠ 4 → 1 ≤ x.Per ∧ x.Per ≤ 8640000000) ∧ (x.Kind = 3 → 1 ≤ x.Burst ∧ x.Burst ≤ 1000000000) := by
  unfold limFault numFault at h
  split at h
  · omega
  split at h
  · omega
  rename_i h1
  split at h
  · omega
  rename_i h2
  split at h
  · omega
  rename_i h3
  split at h
  · omega
  rename_i h4
  simp only [Bool.not_eq_false, in_true] at h1 h2
  refine ⟨h1.1, h1.2, h2.1, h2.2, fun hk => ?_, fun hk => ?_⟩
  · have : ¬ inB x.Per 1 8640000000 = false := fun e => h3 (.inr ⟨hk, e⟩)
    simpa only [Bool.not_eq_false, in_true] using this
  · have : ¬ inB x.Burst 1 1000000000 = false := fun e => h4 (.inr ⟨hk, e⟩)
    simpa only [Bool.not_eq_false, in_true] using this

/-- The reference's windows. -/
theorem windows_eq (l : api_Limit) (hp : 1 ≤ l.Per) (hp2 : l.Per ≤ 8640000000) : ∀ (m : Nat) (n w : Int), n ≤ 100000 → -8640000000 ≤ n → 0 ≤ w → w ≤ 200000 - n → n.toNat ≤ m → loopV (gateref1_RoomOf_l0 l) (w, n) = some (w + (if n < 0 then 0 else n / l.Per + 1)) := by
  intro m
  induction m with
  | zero =>
    intro n w h1 h2 h3 h4 h5
    by_cases hn : n < 0
    · rw [loopV_done (b := w) (by simp only [gateref1_RoomOf_l0]; rw [if_neg (by omega)]), if_pos hn]; simp
    · have : n = 0 := by omega
      subst this
      rw [loopV_next (v' := (w + 1, 0 - l.Per)) (by simp only [gateref1_RoomOf_l0]; rw [if_pos (by omega), w64_id (by omega) (by omega), w64_id (by omega) (by omega)])]
      rw [loopV_done (b := w + 1) (by simp only [gateref1_RoomOf_l0]; rw [if_neg (by omega)]), if_neg (by omega)]
      simp
  | succ m ih =>
    intro n w h1 h2 h3 h4 h5
    by_cases hn : n < 0
    · rw [loopV_done (b := w) (by simp only [gateref1_RoomOf_l0]; rw [if_neg (by omega)]), if_pos hn]; simp
    · rw [loopV_next (v' := (w + 1, n - l.Per)) (by simp only [gateref1_RoomOf_l0]; rw [if_pos (by omega), w64_id (by omega) (by omega), w64_id (by omega) (by omega)])]
      rw [ih (n - l.Per) (w + 1) (by omega) (by omega) (by omega) (by omega) (by omega), if_neg hn]
      congr 1
      by_cases hlt : n - l.Per < 0
      · rw [if_pos hlt, Int.ediv_eq_zero_of_lt (by omega) (by omega)]; omega
      · rw [if_neg hlt]
        have : n / l.Per = (n - l.Per) / l.Per + 1 := by
          rw [show n = (n - l.Per) + 1 * l.Per by omega, Int.add_mul_ediv_right _ _ (by omega)]; simp
        omega

/-- The bucket, by both texts. -/
theorem now_eq (b : limit_bucket) (t : Int) (hm : 1 ≤ b.l.Most) (hm2 : b.l.Most ≤ 1000000000) (hF : 0 ≤ b.l.Burst * b.l.Per) (hF2 : b.l.Burst * b.l.Per ≤ 8640000000000000000) (hl : 0 ≤ b.level) (hl2 : b.level ≤ b.l.Burst * b.l.Per) (h0 : 0 ≤ b.at_) (h1 : t ≤ 1000000)
    (ht : t = b.at_ ∧ b.level = b.l.Burst * b.l.Per ∨ t = b.at_ + 1) : limit_bucket_now b t = some (if t = b.at_ then b.l.Burst * b.l.Per else imin (b.l.Burst * b.l.Per) (b.level + b.l.Most)) := by
  unfold limit_bucket_now
  generalize hg : b.l.Burst * b.l.Per = F at *
  rw [w64_id (n := F) (by omega) (by omega), w64_id (n := F - b.level) (by omega) (by omega), up_eq (by omega) (by omega) (by omega)]
  simp only [Option.bind_some]
  rw [w64_id (n := t - b.at_) (by omega) (by omega)]
  rcases ht with ⟨h2, h3⟩ | h2
  · rw [if_pos (by rw [h3, Int.ediv_eq_zero_of_lt (by omega) (by omega)]; omega), if_pos h2]
  · rw [if_neg (show ¬ t = b.at_ by omega), show t - b.at_ = 1 by omega, Int.mul_one, w64_id (n := b.l.Most) (by omega) (by omega), w64_id (n := b.level + b.l.Most) (by omega) (by omega)]
    unfold imin
    by_cases hc : F - b.level ≤ b.l.Most
    · have : (F - b.level + b.l.Most - 1) / b.l.Most ≤ 1 := by
        have : (F - b.level + b.l.Most - 1) / b.l.Most < 2 := Int.ediv_lt_of_lt_mul (by omega) (by omega)
        omega
      rw [if_pos (by omega)]
      by_cases e : b.level + b.l.Most < F
      · omega
      · rw [if_neg e]
    · have : 2 ≤ (F - b.level + b.l.Most - 1) / b.l.Most := (Int.le_ediv_iff_mul_le (by omega)).2 (by omega)
      rw [if_neg (by omega), if_pos (by omega)]
theorem bucket_eq (l : api_Limit) (hm : 1 ≤ l.Most) (hm2 : l.Most ≤ 1000000000) (hp : 1 ≤ l.Per) (hp2 : l.Per ≤ 8640000000) (hb : 1 ≤ l.Burst) (hb2 : l.Burst ≤ 1000000000) (long : Nat) (hlong : long ≤ 100000) :
    ∃ r, rangeN limit_Room_l0 (fun (_, sum2) => sum2) (long : Int) (limit_bucket.mk l 0 (w64 (l.Burst * l.Per)), 0) = some r ∧ rangeN (gateref1_RoomOf_l1 l) (fun (_, sum1) => sum1) (long : Int) (w64 (l.Burst * l.Per), 0) = some r := by
  have hF0 : 1 ≤ l.Burst * l.Per := Int.mul_le_mul hb hp (by omega) (by omega)
  have hF2 : l.Burst * l.Per ≤ 1000000000 * 8640000000 := Int.mul_le_mul hb2 hp2 (by omega) (by omega)
  rw [rangeN_eq (by omega), rangeN_eq (by omega)]
  simp only [Int.toNat_natCast]
  generalize hL : List.range long = L
  have hLl : L.length = long := by rw [← hL]; simp
  -- both loops side by side
  have key : ∀ (m i : Nat) (b : limit_bucket) (n sum : Int), L.length - i = m → i ≤ L.length → b.l = l → 0 ≤ b.level → b.level ≤ l.Burst * l.Per → (i = 0 ∧ b.at_ = 0 ∧ b.level = l.Burst * l.Per ∧ n = l.Burst * l.Per ∨ 0 < i ∧ b.at_ = (i : Int) - 1 ∧ n = imin (l.Burst * l.Per) (b.level + l.Most)) →
      0 ≤ sum → sum ≤ i * 1000000000 → ∃ r, rangeL (fun i _ v => limit_Room_l0 i v) (fun (_, sum2) => sum2) i (L.drop i) (b, sum) = some r ∧ rangeL (fun i _ v => gateref1_RoomOf_l1 l i v) (fun (_, sum1) => sum1) i (L.drop i) (n, sum) = some r := by
    intro m
    induction m with
    | zero =>
      intro i b n sum h1 h2 _ _ _ _ _ _
      have : i = L.length := by omega
      subst this
      rw [List.drop_length]
      exact ⟨sum, rfl, rfl⟩
    | succ m ih =>
      intro i b n sum h1 h2 h3 h4 h5 h6 h7 h8
      have hlt : i < L.length := by omega
      rw [List.drop_eq_getElem_cons hlt]
      simp only [rangeL]
      -- what is in it now
      have hnow : limit_bucket_now b (i : Int) = some n ∧ 0 ≤ n ∧ n ≤ l.Burst * l.Per := by
        rw [now_eq b i (by rw [h3]; exact hm) (by rw [h3]; exact hm2) (by rw [h3]; omega) (by rw [h3]; omega) h4 (by rw [h3]; exact h5) (by omega) (by omega) (by rw [h3]; omega), h3]
        rcases h6 with ⟨e1, e2, e3, e4⟩ | ⟨e1, e2, e3⟩
        · rw [if_pos (by omega), e4]; exact ⟨rfl, by omega, by omega⟩
        · rw [if_neg (by omega), ← e3]
          refine ⟨rfl, ?_⟩
          rw [e3]; unfold imin; split <;> omega
      obtain ⟨hn1, hn2, hn3⟩ := hnow
      have hq0 : 0 ≤ n / l.Per := Int.ediv_nonneg hn2 (by omega)
      have hq1 : n / l.Per ≤ 1000000000 := by
        have : n / l.Per ≤ l.Burst := Int.ediv_le_of_le_mul (by omega) hn3
        omega
      have hr0 := Int.emod_nonneg n (show l.Per ≠ 0 by omega)
      have hr1 := Int.emod_lt_of_pos n (show 0 < l.Per by omega)
      have hr2 := Int.emod_add_mul_ediv n l.Per
      have hmost : limit_bucket_most b (i : Int) = some (n / l.Per) := by
        unfold limit_bucket_most
        rw [hn1, h3]
        simp only [Option.bind_some]
        rw [ckquo_pos hn2 (by omega) (by omega)]; rfl
      have hmul : n / l.Per * l.Per = l.Per * (n / l.Per) := Int.mul_comm _ _
      have hlev : w64 (n - w64 (n / l.Per * l.Per)) = n % l.Per := by
        rw [hmul, w64_id (n := l.Per * (n / l.Per)) (by omega) (by omega), w64_id (by omega) (by omega)]; omega
      have hadd : limit_bucket_add b (i : Int) (n / l.Per) 0 = some { b with at_ := i, level := n % l.Per } := by
        unfold limit_bucket_add
        rw [hn1, h3]
        simp only [Option.bind_some]
        rw [hlev]
      have hs : w64 (sum + n / l.Per) = sum + n / l.Per := w64_id (by omega) (by omega)
      have e1 : limit_Room_l0 (i : Int) (b, sum) = some (.next ({ b with at_ := i, level := n % l.Per }, sum + n / l.Per)) := by
        simp only [limit_Room_l0, hmost, hadd, Option.bind_some, hs]
      have e2 : gateref1_RoomOf_l1 l (i : Int) (n, sum) = some (.next (imin (l.Burst * l.Per) (n % l.Per + l.Most), sum + n / l.Per)) := by
        simp only [gateref1_RoomOf_l1]
        rw [ckquo_pos hn2 (by omega) (by omega), ckrem_pos hn2 (by omega)]
        simp only [Option.bind_some]
        rw [hs, w64_id (n := l.Burst * l.Per) (by omega) (by omega), w64_id (n := n % l.Per + l.Most) (by omega) (by omega)]
      rw [e1, e2]
      simp only [Option.bind_some]
      refine ih (i + 1) _ _ _ (by omega) (by omega) h3 hr0 ?_ (.inr ⟨by omega, by simp only; omega, rfl⟩) (by omega) (by omega)
      simp only
      have hle : n % l.Per ≤ n := by
        have : 0 ≤ l.Per * (n / l.Per) := Int.mul_nonneg (by omega) hq0
        omega
      omega
  have hw : w64 (l.Burst * l.Per) = l.Burst * l.Per := w64_id (by omega) (by omega)
  rw [hw]
  exact key L.length 0 ⟨l, 0, l.Burst * l.Per⟩ (l.Burst * l.Per) 0 (by omega) (by omega) rfl (by simp only; omega) (by simp only; omega) (.inl ⟨rfl, rfl, rfl, rfl⟩) (by omega) (by omega)

/-- Room, by both texts. -/
theorem room_eq (x : api_Limit) (long : Int) (hk : x.Key.length < 1000000000000) (hl0 : -1152921504606846976 ≤ long) (hl1 : long ≤ 1152921504606846976) :
    ∃ n e, limit_Room x long = some (n, e) ∧ e = (if limFault x ≠ 0 then limFault x else if x.Kind = 4 then 10 else if long < 1 ∨ long > 100000 then 1 else 0) ∧ (e = 0 → gateref1_RoomOf x long = some n) := by
  unfold limit_Room
  rw [CheckLimits_eq _ (by intro y hy; simp only [Sl.list, List.mem_singleton] at hy; subst hy; exact hk)]
  simp only [Option.bind_some, Sl.list, limsFault_one, outside_eq]
  by_cases h0 : limFault x = 0
  · rw [if_neg (by omega), if_neg (show ¬ limFault x ≠ 0 by omega)]
    obtain ⟨k1, k2, k3, k4, k5, k6⟩ := limFault_zero h0
    by_cases h4 : x.Kind = 4
    · rw [if_pos h4, if_pos h4]; exact ⟨_, _, rfl, rfl, fun h => by omega⟩
    · rw [if_neg h4, if_neg h4]
      obtain ⟨p1, p2⟩ := k5 h4
      rcases bool_cases (inB long 1 100000) with hin | hin
      · obtain ⟨q1, q2⟩ := in_true.1 hin
        rw [if_neg (by rw [hin]; simp), if_neg (show ¬ (long < 1 ∨ long > 100000) by omega)]
        by_cases c1 : x.Kind = 1
        · rw [if_pos c1, w64_id (n := long - 1) (by omega) (by omega), up_eq (by omega) (by omega) (by omega)]
          simp only [Option.bind_some]
          refine ⟨_, _, rfl, rfl, fun _ => ?_⟩
          unfold gateref1_RoomOf
          rw [if_pos c1, w64_id (n := long - 2) (by omega) (by omega), windows_eq x p1 p2 200000 (long - 2) 1 (by omega) (by omega) (by omega) (by omega) (by omega)]
          simp only [Option.bind_some]
          have e : 1 + (if long - 2 < 0 then 0 else (long - 2) / x.Per + 1) = 1 + (long - 1 + x.Per - 1) / x.Per := by
            by_cases hlt : long - 2 < 0
            · rw [if_pos hlt, Int.ediv_eq_zero_of_lt (by omega) (by omega)]
            · rw [if_neg hlt, show long - 1 + x.Per - 1 = (long - 2) + 1 * x.Per by omega, Int.add_mul_ediv_right _ _ (by omega)]
          rw [e]
          have h5 : 0 ≤ (long - 1 + x.Per - 1) / x.Per := Int.ediv_nonneg (by omega) (by omega)
          have h6 : (long - 1 + x.Per - 1) / x.Per ≤ long - 1 + x.Per - 1 := Int.ediv_le_self _ (by omega)
          rw [w64_id (n := 1 + (long - 1 + x.Per - 1) / x.Per) (by omega) (by omega), Int.mul_comm]
        · rw [if_neg c1]
          by_cases c2 : x.Kind = 2
          · rw [if_pos c2, up_eq (by omega) (by omega) (by omega)]
            simp only [Option.bind_some]
            refine ⟨_, _, rfl, rfl, fun _ => ?_⟩
            unfold gateref1_RoomOf
            rw [if_neg c1, if_pos c2, w64_id (n := long + x.Per) (by omega) (by omega), w64_id (n := long + x.Per - 1) (by omega) (by omega), ckquo_pos (by omega) (by omega) (by omega)]
            simp only [Option.bind_some]
            rw [Int.mul_comm]
          · rw [if_neg c2]
            obtain ⟨b1, b2⟩ := k6 (by omega)
            obtain ⟨n, rfl⟩ : ∃ n : Nat, long = n := ⟨long.toNat, by omega⟩
            obtain ⟨r, e1, e2⟩ := bucket_eq x k3 k4 p1 p2 b1 b2 n (by omega)
            rw [e1]
            refine ⟨_, _, rfl, rfl, fun _ => ?_⟩
            unfold gateref1_RoomOf
            rw [if_neg c1, if_neg c2, e2]; rfl
      · rw [if_pos (by rw [hin]; rfl), if_pos (by rw [in_false] at hin; omega)]
        exact ⟨_, _, rfl, rfl, fun h => by omega⟩
  · rw [if_pos h0, if_pos h0]; exact ⟨_, _, rfl, rfl, fun h => absurd h h0⟩
/-- The shares of a level, by both texts. -/
theorem shares_eq (wants weights : Sl Int) (t : Int) (hl : wants.list.length ≤ 500) (hw : weights.list.length = wants.list.length) :
    ∃ (a : Ar Int) (sum : Int), limit_shares wants weights t = some (a.sl, sum) ∧ gateref1_FairOf_1 t wants weights = some (a.sl, sum) ∧ a.list.length = wants.list.length := by
  unfold limit_shares gateref1_FairOf_1
  rw [rangeS_eq (by omega), rangeS_eq (by omega)]
  obtain ⟨v, w, h1, h2, h3, h4⟩ := rangeL_two (f := limit_shares_l0 weights t) (fin := fun x => x) (g := gateref1_FairOf_1_l0 t weights) (fin2 := fun x => x) (l := wants.list) (v0 := (Ar.nil, 0)) (w0 := (Ar.nil, 0)) (fun i v w => v = w ∧ v.1.list.length = i) ⟨rfl, rfl⟩ (by
    rintro i ⟨a, sum⟩ _ hi ⟨rfl, h2⟩
    simp only at h2
    have happ : a.app? 8 [imin wants.list[i] (w64 (weights.list[i] * t))] = some (a.app [imin wants.list[i] (w64 (weights.list[i] * t))]) := app_ok (by simp; omega) (by omega)
    have hlen : (a.app [imin wants.list[i] (w64 (weights.list[i] * t))]).list.length = i + 1 := by rw [app_list]; simp [h2]
    refine ⟨(a.app [imin wants.list[i] (w64 (weights.list[i] * t))], w64 (sum + imin wants.list[i] (w64 (weights.list[i] * t)))), _, ?_, ?_, rfl, hlen⟩
    · simp only [limit_shares_l0, get_ok (show i < weights.list.length by omega), Option.bind_some, happ]
    · simp only [gateref1_FairOf_1_l0, get_ok (show i < weights.list.length by omega), Option.bind_some, happ]
      rw [app_get _ _ h2]
      simp only [Option.bind_some])
  subst h3
  rw [show (fun x : Ar Int × Int => match x with | (out_3, sum2) => (out_3, sum2)) = fun x => x from rfl]
  rw [h1, h2]
  exact ⟨v.1, v.2, rfl, rfl, h4⟩
theorem fault_same (most : Int) (wants weights : Sl Int) : limit_shareFault most wants weights = gateref1_FairFault most wants weights := by
  unfold limit_shareFault gateref1_FairFault
  have e : limit_shareFault_l0 weights = gateref1_FairFault_l0 weights := by
    funext i n u
    cases u
    simp only [limit_shareFault_l0, gateref1_FairFault_l0, outside_eq, in_eq, Option.bind_some]
  rw [e]
  simp only [outside_eq, in_eq, Option.bind_some]
  have e2 : (¬ (weights.list.length : Int) = (wants.list.length : Int)) = (¬ (wants.list.length : Int) = (weights.list.length : Int)) := by
    apply propext; omega
  simp only [e2]
theorem fault_some (most : Int) (wants weights : Sl Int) : ∃ e, gateref1_FairFault most wants weights = some e ∧ (e = 0 → wants.list.length ≤ 500 ∧ weights.list.length = wants.list.length) := by
  unfold gateref1_FairFault
  simp only [in_eq, Option.bind_some]
  by_cases h1 : (!inB most 0 1000000000) = true
  · rw [if_pos h1]; exact ⟨1, rfl, fun h => by omega⟩
  · rw [if_neg h1]
    by_cases h2 : (wants.list.length : Int) > 500
    · rw [if_pos h2]; exact ⟨2, rfl, fun h => by omega⟩
    · rw [if_neg h2]
      by_cases h3 : (wants.list.length : Int) = (weights.list.length : Int)
      · rw [if_neg (by omega), rangeS_eq (by omega)]
        obtain ⟨b, h4, h5⟩ := rangeL_inv2 (f := gateref1_FairFault_l0 weights) (fin := fun () => (Res.out () : Res Unit Int)) (l := wants.list) (v0 := ()) (fun _ _ => True) (fun b => b = Res.ret 1) trivial (by
          intro i v hi _
          cases v
          simp only [gateref1_FairFault_l0, in_eq, Option.bind_some, get_ok (show i < weights.list.length by omega)]
          cases inB wants.list[i] 0 1000000000 <;> cases inB weights.list[i] 1 1000 <;> simp)
        rw [h4]
        rcases h5 with ⟨_, rfl, _⟩ | rfl
        · exact ⟨0, rfl, fun _ => by omega⟩
        · exact ⟨1, rfl, fun h => by omega⟩
      · rw [if_pos h3]; exact ⟨3, rfl, fun h => by omega⟩
/-- Fair, by both texts. -/
theorem fair_eq (most : Int) (wants weights : Sl Int) : ∃ y e, limit_Fair most wants weights = some (y, e) ∧ gateref1_FairFault most wants weights = some e ∧ (e ≠ 0 → y.list = []) ∧ (e = 0 → ∃ z, gateref1_FairOf most wants weights = some z ∧ z.list = y.list ∧ y.list.length ≤ 500) := by
  obtain ⟨e, h1, h2⟩ := fault_some most wants weights
  unfold limit_Fair
  rw [fault_same, h1]
  simp only [Option.bind_some]
  by_cases h0 : e = 0
  · subst h0
    obtain ⟨hl, hw⟩ := h2 rfl
    rw [if_neg (by omega)]
    have hsh : ∀ t, limit_shares wants weights t = gateref1_FairOf_1 t wants weights := by
      intro t
      obtain ⟨a, sum, e1, e2, _⟩ := shares_eq wants weights t hl hw
      rw [e1, e2]
    have hl0 : limit_Fair_l0 most wants weights = gateref1_FairOf_l0 most wants weights := by
      funext ⟨lo, hi⟩
      simp only [limit_Fair_l0, gateref1_FairOf_l0, hsh]
    have hl1 : limit_Fair_l1 most weights = gateref1_FairOf_l1 most weights := rfl
    obtain ⟨a, sum, e1, e2, e3⟩ := shares_eq wants weights 1000000000 hl hw
    unfold gateref1_FairOf
    rw [e1, e2]
    simp only [Option.bind_some, Ar.ar_sl]
    by_cases hs : sum ≤ most
    · rw [if_pos hs, if_pos hs]
      exact ⟨_, _, rfl, rfl, fun h => absurd rfl h, fun _ => ⟨_, rfl, rfl, by rw [sl_list]; omega⟩⟩
    · rw [if_neg hs, if_neg hs, hl0]
      obtain ⟨lo, e4, _⟩ := loopV_inv (f := gateref1_FairOf_l0 most wants weights) (fun v => 0 ≤ v.1 ∧ v.1 < v.2 ∧ v.2 ≤ 1000000000) (fun v => (v.2 - v.1).toNat) (fun _ => True) (by
        rintro ⟨lo, hi⟩ ⟨i1, i2, i3⟩
        simp only at i1 i2 i3
        simp only [gateref1_FairOf_l0]
        by_cases hgt : hi - lo > 1
        · left
          rw [w64_id (n := hi - lo) (by omega) (by omega), if_pos hgt, w64_id (n := lo + hi) (by omega) (by omega), Int.tdiv_eq_ediv_of_nonneg (by omega), w64_id (n := (lo + hi) / 2) (by omega) (by omega)]
          obtain ⟨b, sum2, e5, e6, _⟩ := shares_eq wants weights ((lo + hi) / 2) hl hw
          rw [e6]
          simp only [Option.bind_some]
          by_cases hc : sum2 ≤ most
          · rw [if_pos hc]; exact ⟨_, rfl, ⟨by simp only; omega, by simp only; omega, by simp only; omega⟩, by simp only; omega⟩
          · rw [if_neg hc]; exact ⟨_, rfl, ⟨by simp only; omega, by simp only; omega, by simp only; omega⟩, by simp only; omega⟩
        · right
          rw [w64_id (n := hi - lo) (by omega) (by omega), if_neg hgt]
          exact ⟨_, rfl, trivial⟩) (0, 1000000000) ⟨by simp, by simp, by simp⟩
      rw [e4]
      simp only [Option.bind_some]
      obtain ⟨b, sum3, e5, e6, e7⟩ := shares_eq wants weights lo hl hw
      rw [e5, e6]
      simp only [Option.bind_some, Ar.ar_sl]
      rw [rangeS_eq (by omega), rangeS_eq (by omega), hl1]
      obtain ⟨v, e8, e9⟩ := rangeL_inv (f := gateref1_FairOf_l1 most weights) (fin := fun v => v.1) (l := wants.list) (v0 := (b, sum3)) (fun _ v => v.1.list.length = wants.list.length) e7 (by
        rintro i ⟨c, s⟩ hi hc
        simp only at hc
        simp only [gateref1_FairOf_l1, aget_ok (show i < c.list.length by omega), get_ok (show i < weights.list.length by omega), Option.bind_some, aset_ok (show i < c.list.length by omega)]
        exact ⟨_, rfl, by simp [Ar.list]; exact hc⟩)
      have e8' : rangeL (gateref1_FairOf_l1 most weights) (fun x : Ar Int × Int => match x with | (out_6, sum6) => out_6) 0 wants.list (b, sum3) = some v.1 := e8
      rw [e8']
      exact ⟨_, _, rfl, rfl, fun h => absurd rfl h, fun _ => ⟨_, rfl, rfl, by rw [sl_list]; omega⟩⟩
  · rw [if_pos h0]; exact ⟨_, _, rfl, rfl, fun _ => rfl, fun h => absurd h h0⟩
theorem equal_same (a b : Sl Int) (h : a.list = b.list) (hl : a.list.length ≤ 500) : slices_Equal_int_int a b = some true := by
  unfold slices_Equal_int_int
  rw [if_neg (by rw [h]; omega), rangeS_eq (by omega)]
  obtain ⟨v, h1, _⟩ := rangeL_inv (f := slices_Equal_int_int_l0 b) (fin := fun () => (Res.out () : Res Unit Bool)) (l := a.list) (v0 := ()) (fun _ _ => True) trivial (by
    intro i v hi _
    cases v
    have hb : i < b.list.length := by rw [← h]; exact hi
    simp only [slices_Equal_int_int_l0, get_ok hb, Option.bind_some]
    rw [if_neg (by simp [h])]
    exact ⟨_, rfl, trivial⟩)
  rw [h1]; rfl

set_option maxHeartbeats 4000000 in
theorem rooms_true (l : Sl Int) (hl : l.list.length ≤ 9223372036854775807) (hw : ∀ n ∈ l.list, -9223372036854775808 ≤ n ∧ n ≤ 9223372036854775807) : gatelaw1_RoomsCounted l = some true := by
  unfold gatelaw1_RoomsCounted
  have g0 : Good (gatemake_Stream.mk l 0) 0 := ⟨by simp, by simp, hl, hw⟩
  obtain ⟨x0, s1, e1, hx1, hx2, g1⟩ := rightLimit_ok [108, 97] g0 (by omega)
  rw [e1]; simp only [Option.bind_some]
  obtain ⟨b, s2, e2, g2⟩ := flip_ok 12 g1 (by omega) (by omega) (by omega)
  rw [e2]; simp only [Option.bind_some]
  -- the limit
  obtain ⟨s3, x, e3, hx3, g3⟩ : ∃ s3 x, (if b = true then (gatemake_Stream_Odd s2 1 1000000000).bind fun x_1 => match x_1 with
      | (r221, t165) => (gatemake_Stream_Odd t165 1 8640000000).bind fun x_2 => match x_2 with
        | (r241, t166) => some (t166, { x0 with Most := r221, Per := r241 }) else some (s2, x0)) = some (s3, x) ∧ x.Key.length < 1000000000000 ∧ Good s3 20 := by
    cases b with
    | true =>
      obtain ⟨r1, s3, e3, _, _, g3⟩ := odd_ok 1 1000000000 g2 (by omega) (by omega) (by omega) (by omega)
      obtain ⟨r2, s4, e4, _, _, g4⟩ := odd_ok 1 8640000000 g3 (by omega) (by omega) (by omega) (by omega)
      rw [if_pos rfl, e3]; simp only [Option.bind_some]
      rw [e4]
      exact ⟨_, _, rfl, by simp only [hx1]; simp, g4.up (by omega)⟩
    | false => rw [if_neg (by simp)]; exact ⟨_, _, rfl, by rw [hx1]; simp, g2.up (by omega)⟩
  rw [e3]; simp only [Option.bind_some]
  obtain ⟨long, s4, e4, hlong, g4⟩ := pick_ok [1, 2, 3, 7, 8, 11, 100, 101, 0, 100000, 100001] g3 (by simp) (by simp) (by omega)
  rw [e4]; simp only [Option.bind_some]
  have hlb : 0 ≤ long ∧ long ≤ 100001 := by
    simp only [List.mem_cons, List.not_mem_nil, or_false] at hlong; omega
  obtain ⟨n, e, e5, he, hroom⟩ := room_eq x long hx3 (by omega) (by omega)
  rw [e5]; simp only [Option.bind_some]
  rw [LimitsFault_eq _ (by intro y hy; simp only [Sl.list, List.mem_singleton] at hy; subst hy; exact hx3)]
  simp only [Option.bind_some, Sl.list, limsFault_one]
  have hw1 : gatelaw1_when (x.Kind == 4) 10 = some (if x.Kind = 4 then 10 else 0) := by
    unfold gatelaw1_when
    by_cases h : x.Kind = 4 <;> simp [h]
  have hw2 : gatelaw1_when ((decide (long < 1)) || (decide (long > 100000))) 1 = some (if long < 1 ∨ long > 100000 then 1 else 0) := by
    unfold gatelaw1_when
    by_cases h : long < 1 ∨ long > 100000
    · rw [if_pos (by simpa using h), if_pos h]
    · rw [if_neg (by simpa using h), if_neg h]
  rw [hw1, hw2]
  simp only [Option.bind_some, or3]
  have hfault : (if limFault x ≠ 0 then limFault x else if (if x.Kind = 4 then (10 : Int) else 0) ≠ 0 then (if x.Kind = 4 then 10 else 0) else if long < 1 ∨ long > 100000 then 1 else 0) = e := by
    rw [he]
    by_cases h4 : x.Kind = 4 <;> simp [h4]
  rw [hfault]
  rw [if_neg (by omega)]
  have hsec : (if e = 0 then (gateref1_RoomOf x long).bind fun r623 => some (n != r623) else some false) = some false := by
    by_cases h0 : e = 0
    · rw [if_pos h0, hroom h0]; simp
    · rw [if_neg h0]
  rw [hsec]
  simp only [Option.bind_some]
  rw [if_neg (by simp)]
  obtain ⟨most, s5, e6, _, g5⟩ := pick_ok [0, 1, 7, 10, 30, 100, 1000000000, -1] g4 (by simp) (by simp) (by omega)
  rw [e6]; simp only [Option.bind_some]
  obtain ⟨m, s6, e7, hm0, hm1, g6⟩ := next_ok 6 g5 (by omega) (by omega) (by omega)
  rw [e7]; simp only [Option.bind_some]
  rw [rangeN_eq (by omega)]
  obtain ⟨⟨s7, wa, we⟩, e8, hI⟩ := rangeL_inv (f := fun i _ v => gatelaw1_RoomsCounted_l0 i v) (fin := fun v => v) (l := List.range m.toNat) (v0 := (s6, Ar.nil, Ar.nil)) (fun i v => Good v.1 (40 + 2 * i) ∧ v.2.1.list.length = i ∧ v.2.2.list.length = i) ⟨g6.up (by omega), rfl, rfl⟩ (by
    rintro i ⟨s, wa, we⟩ hi ⟨i1, i2, i3⟩
    simp only [List.length_range] at hi i1 i2 i3
    obtain ⟨p, t1, f1, _, k1⟩ := pick_ok [0, 1, 3, 9, 20, 1000000000] i1 (by simp) (by simp) (by omega)
    obtain ⟨q, t2, f2, _, k2⟩ := pick_ok [1, 1, 2, 5, 1000] k1 (by simp) (by simp) (by omega)
    simp only [gatelaw1_RoomsCounted_l0, f1, Option.bind_some, app_ok (a := wa) (bytes := 8) (l := [p]) (by simp; omega) (by omega), f2, app_ok (a := we) (bytes := 8) (l := [q]) (by simp; omega) (by omega)]
    exact ⟨_, rfl, k2.up (by omega), by rw [app_list]; simp [i2], by rw [app_list]; simp [i3]⟩)
  simp only [List.length_range] at hI
  obtain ⟨g7, hwa, hwe⟩ := hI
  have e8' : rangeL (fun i _ v => gatelaw1_RoomsCounted_l0 i v) (fun x : gatemake_Stream × Ar Int × Ar Int => match x with | (t1615, wants3, weights3) => (t1615, wants3, weights3)) 0 (List.range m.toNat) (s6, Ar.nil, Ar.nil) = some (s7, wa, we) := e8
  rw [e8']; simp only [Option.bind_some]
  -- the odd numbers
  obtain ⟨s8, b2, e9, hb2, g8⟩ : ∃ s8 b2, (if (wa.list.length : Int) > 0 then (gatemake_Stream_Flip s7 20).bind fun x_1 => match x_1 with | (r911, t1627) => some (t1627, r911) else some (s7, false)) = some (s8, b2) ∧ (b2 = true → 0 < wa.list.length) ∧ Good s8 100 := by
    by_cases h : (wa.list.length : Int) > 0
    · obtain ⟨r, t, f, k⟩ := flip_ok 20 g7 (by omega) (by omega) (by omega)
      rw [if_pos h, f]
      exact ⟨_, _, rfl, fun _ => by omega, k.up (by omega)⟩
    · rw [if_neg h]
      exact ⟨_, _, rfl, fun h => by simp at h, g7.up (by omega)⟩
  rw [e9]; simp only [Option.bind_some]
  obtain ⟨s9, wa2, we2, e10, hl2, g9⟩ : ∃ s9 wa2 we2, (if b2 = true then (gatemake_Stream_Odd s8 0 1000000000).bind fun x_1 => match x_1 with
      | (r961, t1624) => (gatemake_Stream_Odd t1624 1 1000).bind fun x_2 => match x_2 with
        | (r981, t1625) => (wa.get? 0).bind fun _ => (wa.set? 0 r961).bind fun wants8 => (we.get? 0).bind fun _ => (we.set? 0 r981).bind fun weights8 => some (t1625, wants8, weights8)
      else some (s8, wa, we)) = some (s9, wa2, we2) ∧ wa2.list.length ≤ 10 ∧ Good s9 120 := by
    cases b2 with
    | true =>
      have h0 := hb2 rfl
      obtain ⟨r1, t1, f1, _, _, k1⟩ := odd_ok 0 1000000000 g8 (by omega) (by omega) (by omega) (by omega)
      obtain ⟨r2, t2, f2, _, _, k2⟩ := odd_ok 1 1000 k1 (by omega) (by omega) (by omega) (by omega)
      rw [if_pos rfl, f1]; simp only [Option.bind_some]
      rw [f2]; simp only [Option.bind_some]
      rw [show wa.get? 0 = some wa.list[0] from aget_ok (i := 0) h0, show we.get? 0 = some (we.list[0]'(by omega)) from aget_ok (i := 0) (by omega), show wa.set? 0 r1 = _ from aset_ok (i := 0) h0 r1, show we.set? 0 r2 = _ from aset_ok (i := 0) (by omega) r2]
      exact ⟨_, _, _, rfl, by show (List.set _ _ _).length ≤ 10; rw [List.length_set]; omega, k2.up (by omega)⟩
    | false =>
      rw [if_neg (by simp)]
      exact ⟨_, _, _, rfl, by omega, g8.up (by omega)⟩
  rw [e10]; simp only [Option.bind_some]
  obtain ⟨b3, s10, e11, g10⟩ := flip_ok 20 g9 (by omega) (by omega) (by omega)
  rw [e11]; simp only [Option.bind_some]
  obtain ⟨wa3, e12⟩ : ∃ wa3, (if b3 = true then (wa2.app? 8 [1]).bind fun wants11 => some wants11 else some wa2) = some wa3 := by
    cases b3 with
    | true => rw [if_pos rfl, app_ok (by simp; omega) (by omega)]; exact ⟨_, rfl⟩
    | false => exact ⟨_, rfl⟩
  rw [e12]; simp only [Option.bind_some]
  obtain ⟨y, f, e13, e14, h1, h2⟩ := fair_eq most wa3.sl we2.sl
  rw [e13]; simp only [Option.bind_some]
  rw [e14]; simp only [Option.bind_some]
  by_cases h0 : f = 0
  · rw [if_neg (by omega)]
    obtain ⟨z, e15, hz, hz2⟩ := h2 h0
    rw [if_pos h0, e15]
    simp only [Option.bind_some]
    rw [equal_same y z hz.symm hz2]
    simp
  · rw [if_pos h0]
    have hy : y.list = [] := h1 h0
    simp only [Sl.list] at hy
    simp [hy]
end Go.GW
