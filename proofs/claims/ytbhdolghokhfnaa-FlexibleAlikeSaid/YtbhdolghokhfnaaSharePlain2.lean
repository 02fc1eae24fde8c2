/-
  The plain law of Share, what shares are like: their sum, a weight of 0, greater weights, equal weights, opposite totals, weights so many times as great.
-/
import Derived.Test.YtbhdolghokhfnaaSharePlain
namespace Go.Proofs.Ytbhdolghokhfnaa

theorem gets_zero (t : Nat) (ws : List Int) (hS : 0 < wSum ws) (i : Nat) (h : wAt ws i = 0) : gets t ws i = 0 := by
  have h1 : quo t ws i = 0 := by simp [quo, h]
  have h2 : lost t ws i = 0 := by simp [lost, h]
  have h3 : over t ws ≤ rank (lost t ws) ws.length i := by
    refine Nat.le_trans (over_lt t ws hS) ?_
    unfold rank
    refine List.countP_mono_left fun k _ hk => ?_
    rw [before_iff]
    simp at hk
    omega
  unfold gets
  rw [h1, if_neg (by omega)]

theorem gets_less (t : Nat) (ws : List Int) (hS : 0 < wSum ws) (i k : Nat) (h : wAt ws i < wAt ws k) : gets t ws i ≤ gets t ws k := by
  have e1 : wSum ws * quo t ws i + lost t ws i = t * wAt ws i := Nat.div_add_mod _ _
  have e2 : wSum ws * quo t ws k + lost t ws k = t * wAt ws k := Nat.div_add_mod _ _
  have l1 : lost t ws i < wSum ws := Nat.mod_lt _ hS
  have l2 : lost t ws k < wSum ws := Nat.mod_lt _ hS
  have hq : quo t ws i ≤ quo t ws k := Nat.div_le_div_right (Nat.mul_le_mul_left t (by omega))
  rcases Nat.lt_or_ge (quo t ws i) (quo t ws k) with hlt | hge
  · unfold gets
    split <;> split <;> omega
  · have hqe : quo t ws i = quo t ws k := by omega
    rcases Nat.eq_zero_or_pos t with h0 | h0
    · subst h0
      have ho : over 0 ws = 0 := by simp [over]
      unfold gets
      rw [ho, hqe]
      simp
    · have hm : t * wAt ws i < t * wAt ws k := Nat.mul_lt_mul_of_pos_left h h0
      have hl : lost t ws i < lost t ws k := by rw [hqe] at e1; omega
      have hr := rank_mono (n := ws.length) (show before (lost t ws) k i = true by rw [before_iff]; omega)
      unfold gets
      rw [hqe]
      split <;> split <;> omega

theorem gets_alike (t : Nat) (ws : List Int) (i k : Nat) (h : wAt ws i = wAt ws k) (hk : k < i) : gets t ws i ≤ gets t ws k ∧ gets t ws k ≤ gets t ws i + 1 := by
  have e1 : quo t ws i = quo t ws k := by simp [quo, h]
  have e2 : lost t ws i = lost t ws k := by simp [lost, h]
  have hr := rank_mono (n := ws.length) (show before (lost t ws) k i = true by rw [before_iff]; omega)
  unfold gets
  rw [e1]
  split <;> split <;> omega

theorem countP_range_lt (m : Nat) : ∀ n, (List.range n).countP (fun k => decide (k < m)) = min m n
  | 0 => by simp
  | n + 1 => by
    rw [List.range_succ, List.countP_append, countP_range_lt m n]
    by_cases h : n < m <;> simp [h] <;> omega

theorem order_ranks (r : Nat → Nat) (n : Nat) : (order r n).map (rank r n) = List.range n := by
  refine List.ext_getElem (by simp [order_len]) fun k h1 h2 => ?_
  rw [List.getElem_map, rank_order, List.getElem_range]

theorem ranks_count (r : Nat → Nat) (n m : Nat) : (List.range n).countP (fun i => decide (rank r n i < m)) = min m n := by
  rw [← (order_perm r n).countP_eq, ← countP_range_lt m n, ← order_ranks r n, List.countP_map]
  rfl

theorem sumTo_count (p : Nat → Prop) [DecidablePred p] (n : Nat) : sumTo (fun i => if p i then 1 else 0) n = (List.range n).countP (fun i => decide (p i)) := by
  induction n with
  | zero => simp [sumTo]
  | succ n ih =>
    rw [List.range_succ, List.countP_append, sumTo, ih]
    by_cases h : p n <;> simp [h]

theorem gets_sum (t : Nat) (ws : List Int) (hS : 0 < wSum ws) : sumTo (gets t ws) ws.length = t := by
  have h1 : sumTo (gets t ws) ws.length = sumTo (quo t ws) ws.length + sumTo (fun i => if rank (lost t ws) ws.length i < over t ws then 1 else 0) ws.length := sumTo_add _ _ _
  have h2 := quos_le t ws hS (Nat.le_refl _)
  have h3 := over_le t ws hS
  rw [h1, sumTo_count, ranks_count]
  unfold over at *
  omega

theorem sgn_mul (n : Int) : sgn n * sgn n = 1 := by unfold sgn; split <;> rfl
theorem shareAt_sgn (total : Int) (ws : List Int) (i : Nat) : shareAt total ws i * sgn total = gets total.natAbs ws i := by
  unfold shareAt
  rw [Int.mul_comm, ← Int.mul_assoc, sgn_mul, Int.one_mul]
theorem shareAt_pos (total : Int) (ws : List Int) (i : Nat) (h : 0 ≤ total) : shareAt total ws i = gets total.natAbs ws i := by
  unfold shareAt sgn
  rw [if_neg (by omega), Int.one_mul]
theorem shareAt_neg (total : Int) (ws : List Int) (i : Nat) (h : total < 0) : shareAt total ws i = -(gets total.natAbs ws i : Int) := by
  unfold shareAt sgn
  rw [if_pos h]
  omega

/-- All shares up to a place, together. -/
theorem shares_take (total : Int) (ws : List Int) (k : Nat) (hk : k ≤ ws.length) : ((shares total ws).take k).sum = sgn total * (sumTo (gets total.natAbs ws) k : Nat) := by
  induction k with
  | zero => simp [sumTo]
  | succ k ih =>
    have hl : k < (shares total ws).length := by simp [shares]; omega
    rw [List.take_succ_eq_append_getElem hl, List.sum_append, ih (by omega)]
    simp only [shares, List.getElem_map, List.getElem_range, shareAt, sumTo, List.sum_cons, List.sum_nil, Int.add_zero]
    rw [Int.natCast_add, Int.mul_add]
theorem shares_sum (total : Int) (ws : List Int) (hS : 0 < wSum ws) : (shares total ws).sum = total := by
  have h := shares_take total ws ws.length (Nat.le_refl _)
  rw [gets_sum _ _ hS, List.take_of_length_le (by simp [shares])] at h
  rw [h]
  unfold sgn
  split <;> omega

/-! Turned. -/
theorem gets_none (ws : List Int) (i : Nat) : gets 0 ws i = 0 := by
  have ho : over 0 ws = 0 := by simp [over]
  unfold gets
  rw [ho]
  simp [quo]
theorem shareAt_opp (total : Int) (ws : List Int) (i : Nat) : shareAt (-total) ws i = - shareAt total ws i := by
  unfold shareAt
  rw [Int.natAbs_neg]
  rcases Int.lt_trichotomy total 0 with h | h | h
  · simp only [sgn, if_pos h, if_neg (show ¬ -total < 0 by omega)]
    omega
  · subst h
    simp [gets_none]
  · simp only [sgn, if_neg (show ¬ total < 0 by omega), if_pos (show -total < 0 by omega)]
    omega

theorem wAt_times (ws : List Int) (m : Nat) (i : Nat) : wAt (ws.map (· * (m : Int))) i = wAt ws i * m := by
  unfold wAt
  rcases Nat.lt_or_ge i ws.length with h | h
  · simp [List.getD, h]
    rcases Int.le_total 0 ws[i] with h0 | h0
    · obtain ⟨a, ha⟩ := Int.eq_ofNat_of_zero_le h0
      rw [ha, ← Int.natCast_mul, Int.toNat_natCast, Int.toNat_natCast]
    · have h1 : ws[i] * (m : Int) ≤ 0 := Int.mul_nonpos_of_nonpos_of_nonneg h0 (by omega)
      rw [Int.toNat_of_nonpos h1, Int.toNat_of_nonpos h0]
      simp
  · simp [List.getD, List.getElem?_eq_none h]
theorem wSum_times (ws : List Int) (m : Nat) : wSum (ws.map (· * (m : Int))) = wSum ws * m := by
  unfold wSum
  rw [List.length_map, Nat.mul_comm, ← sumTo_mul]
  exact sumTo_congr fun i _ => by rw [wAt_times, Nat.mul_comm]
theorem gets_times (t : Nat) (ws : List Int) (m : Nat) (hm : 0 < m) (i : Nat) : gets t (ws.map (· * (m : Int))) i = gets t ws i := by
  have h1 : ∀ i, quo t (ws.map (· * (m : Int))) i = quo t ws i := fun i => by
    unfold quo
    rw [wAt_times, wSum_times, ← Nat.mul_assoc, Nat.mul_div_mul_right _ _ hm]
  have h2 : ∀ i, lost t (ws.map (· * (m : Int))) i = lost t ws i * m := fun i => by
    unfold lost
    rw [wAt_times, wSum_times, ← Nat.mul_assoc, Nat.mul_mod_mul_right]
  have h3 : over t (ws.map (· * (m : Int))) = over t ws := by
    unfold over
    rw [List.length_map, sumTo_congr fun i _ => h1 i]
  have h4 : ∀ j i, before (lost t (ws.map (· * (m : Int)))) j i = before (lost t ws) j i := fun j i => by
    unfold before
    rw [h2, h2]
    have e1 : lost t ws i * m < lost t ws j * m ↔ lost t ws i < lost t ws j := Nat.mul_lt_mul_right hm
    have e2 : lost t ws i * m = lost t ws j * m ↔ lost t ws i = lost t ws j := ⟨fun h => Nat.eq_of_mul_eq_mul_right hm h, fun h => by rw [h]⟩
    rw [decide_eq_decide, e1, e2]
  have h5 : rank (lost t (ws.map (· * (m : Int)))) (ws.map (· * (m : Int))).length i = rank (lost t ws) ws.length i := by
    unfold rank
    rw [List.length_map]
    congr 1
    funext j
    exact h4 j i
  unfold gets
  rw [h1, h3, h5]
theorem shares_times (total : Int) (ws : List Int) (m : Nat) (hm : 0 < m) : shares total (ws.map (· * (m : Int))) = shares total ws := by
  unfold shares
  rw [List.length_map]
  refine List.map_congr_left fun i _ => ?_
  unfold shareAt
  rw [gets_times _ _ _ hm]

end Go.Proofs.Ytbhdolghokhfnaa
