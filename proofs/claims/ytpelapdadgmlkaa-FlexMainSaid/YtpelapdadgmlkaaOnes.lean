/-
  Plain: shares of places with a weight of 1; what windowpaneref17.places tells.
-/
import Derived.Test.YtpelapdadgmlkaaFlexShape
namespace Go.Proofs.Ytpelapdadgmlkaa
open Go.RowKit

/-- Which places have a weight of 1: from a to b. -/
structure OnesAt (ws : List Int) (a b : Nat) : Prop where
  le : b ≤ ws.length
  lt : a < b
  at_ : ∀ i, wAt ws i = if a ≤ i ∧ i < b then 1 else 0

theorem ind_sum (a b : Nat) : ∀ n, sumTo (fun i => if a ≤ i ∧ i < b then 1 else 0) n = min b n - min a n
  | 0 => by simp [sumTo]
  | n + 1 => by
    rw [sumTo, ind_sum a b n]
    split <;> omega
theorem ones_sum {ws : List Int} {a b : Nat} (h : OnesAt ws a b) : wSum ws = b - a := by
  have h1 := h.le
  have h2 := h.lt
  unfold wSum
  rw [sumTo_congr (g := fun i => if a ≤ i ∧ i < b then 1 else 0) (fun i _ => h.at_ i), ind_sum]
  omega
theorem ones_quo {ws : List Int} {a b : Nat} (h : OnesAt ws a b) (t i : Nat) : quo t ws i = t / (b - a) * (if a ≤ i ∧ i < b then 1 else 0) := by
  unfold quo
  rw [ones_sum h, h.at_ i]
  split <;> simp
theorem ones_lost {ws : List Int} {a b : Nat} (h : OnesAt ws a b) (t i : Nat) : lost t ws i = if a ≤ i ∧ i < b then t % (b - a) else 0 := by
  unfold lost
  rw [ones_sum h, h.at_ i]
  split <;> simp
theorem ones_over {ws : List Int} {a b : Nat} (h : OnesAt ws a b) (t : Nat) : over t ws = t % (b - a) := by
  have h1 := h.le
  have h2 := h.lt
  unfold over
  rw [sumTo_congr (g := fun i => t / (b - a) * (if a ≤ i ∧ i < b then 1 else 0)) (fun i _ => ones_quo h t i), sumTo_mul, ind_sum, show min b ws.length - min a ws.length = b - a by omega]
  have h3 := Nat.div_add_mod t (b - a)
  rw [Nat.mul_comm] at h3
  omega
theorem ones_gets {ws : List Int} {a b : Nat} (h : OnesAt ws a b) (t i : Nat) (h1 : a ≤ i) (h2 : i < b) : gets t ws i = t / (b - a) + if i - a < t % (b - a) then 1 else 0 := by
  have h3 := h.le
  unfold gets
  rw [ones_quo h, if_pos ⟨h1, h2⟩, Nat.mul_one, ones_over h]
  rcases Nat.eq_zero_or_pos (t % (b - a)) with h0 | h0
  · rw [h0]; simp
  · have hr : rank (lost t ws) ws.length i = i - a := by
      unfold rank
      have e : ∀ j, before (lost t ws) j i = decide (a ≤ j ∧ j < i) := fun j => by
        cases hb : before (lost t ws) j i with
        | true =>
          rw [before_iff, ones_lost h, ones_lost h, if_pos ⟨h1, h2⟩] at hb
          symm
          rw [decide_eq_true_iff]
          split at hb <;> omega
        | false =>
          rw [before_false, ones_lost h, ones_lost h, if_pos ⟨h1, h2⟩] at hb
          symm
          rw [decide_eq_false_iff_not]
          intro hc
          rw [if_pos (by omega)] at hb
          omega
      rw [show (fun j => before (lost t ws) j i) = fun j => decide (a ≤ j ∧ j < i) from funext e, ← sumTo_count, ind_sum]
      omega
    rw [hr]

theorem ones_rep (m : Nat) (hm : 0 < m) : OnesAt (List.replicate m 1) 0 m := by
  refine ⟨by simp, hm, fun i => ?_⟩
  unfold wAt
  by_cases h : i < m
  · rw [getD_at (by simpa using h), List.getElem_replicate, if_pos ⟨by omega, h⟩]; rfl
  · rw [if_neg (by omega)]
    simp [List.getD, h]
theorem ones_mid (n : Nat) (hn : 1 < n) : OnesAt (wgts n 0 1 0) 1 n := by
  refine ⟨by rw [wgts_len]; omega, hn, fun i => ?_⟩
  unfold wAt
  by_cases h : i < (wgts n 0 1 0).length
  · rw [getD_at h, wgts_at h]
    rw [wgts_len] at h
    unfold wgAt
    by_cases h0 : i = 0
    · rw [if_pos h0, if_neg (by omega)]; rfl
    · rw [if_neg h0]
      by_cases h1 : i = n
      · rw [if_pos h1, if_neg (by omega)]; rfl
      · rw [if_neg h1, if_pos (by omega)]; rfl
  · rw [show (wgts n 0 1 0).getD i 0 = 0 by simp [List.getD, h]]
    rw [wgts_len] at h
    rw [if_neg (by omega)]; rfl
theorem rep_all (n : Nat) : wgts n 1 1 1 = List.replicate (n + 1) 1 := by
  refine List.ext_getElem (by simp [wgts_len]) fun i h1 h2 => ?_
  rw [wgts_at h1, List.getElem_replicate]
  simp [wgAt]
theorem between_same {n : Nat} (hn : 1 < n) {left : Int} (hl : 0 < left) {i : Nat} (h0 : 0 < i) (hi : i < n) :
    (zsOf left (wgts n 0 1 0)).getD i 0 = (zsOf left (List.replicate (n - 1) 1)).getD (i - 1) 0 := by
  have o1 := ones_mid n hn
  have o2 := ones_rep (n - 1) (by omega)
  have l1 : i < (zsOf left (wgts n 0 1 0)).length := by rw [zsOf_len, wgts_len]; omega
  have l2 : i - 1 < (zsOf left (List.replicate (n - 1) 1)).length := by rw [zsOf_len, List.length_replicate]; omega
  rw [getD_at l1, getD_at l2, zsOf_at, zsOf_at, ones_sum o1, ones_sum o2, if_neg (by omega), if_neg (by omega), shareAt_pos _ _ _ (by omega), shareAt_pos _ _ _ (by omega), ones_gets o1 _ _ (by omega) hi, ones_gets o2 _ _ (by omega) (by omega)]
  simp

/-- What windowpaneref17.places tells: all places but the last. -/
def placesR (n : Nat) (left : Int) (j : Nat) : List Int := (List.range n).map fun i => (moreR n left j).getD i 0
theorem placesR_len (n : Nat) (left : Int) (j : Nat) : (placesR n left j).length = n := by simp [placesR]
theorem placesR_at {n : Nat} {left : Int} {j i : Nat} (h : i < (placesR n left j).length) : (placesR n left j)[i] = (moreR n left j).getD i 0 := by simp [placesR]
theorem places_zero {n : Nat} {left : Int} {j : Nat} (h : ∀ i, i < n → (moreR n left j).getD i 0 = 0) : placesR n left j = List.replicate n 0 := by
  refine List.ext_getElem (by simp [placesR]) fun i h1 h2 => ?_
  rw [placesR_at h1, List.getElem_replicate, h i (by simpa [placesR] using h1)]
theorem places_first {n : Nat} {left : Int} {j : Nat} (h : ∀ i, 0 < i → i < n → (moreR n left j).getD i 0 = 0) : placesR n left j = (List.replicate n 0).set 0 ((moreR n left j).getD 0 0) := by
  refine List.ext_getElem (by simp [placesR]) fun i h1 h2 => ?_
  have hi : i < n := by simpa [placesR] using h1
  rw [placesR_at h1, List.getElem_set]
  split
  · rename_i e; rw [← e]
  · rw [List.getElem_replicate, h i (by omega) hi]
/-- How far the places are told, from place a on. -/
def plTo (n : Nat) (left : Int) (j a k : Nat) : List Int := (List.range n).map fun i => if a ≤ i ∧ i < k then (moreR n left j).getD i 0 else 0
theorem plTo_len (n : Nat) (left : Int) (j a k : Nat) : (plTo n left j a k).length = n := by simp [plTo]
theorem plTo_start (n : Nat) (left : Int) (j a : Nat) : plTo n left j a a = List.replicate n 0 := by
  refine List.ext_getElem (by simp [plTo]) fun i h1 h2 => ?_
  simp only [plTo, List.getElem_map, List.getElem_range, List.getElem_replicate]
  rw [if_neg (by omega)]
theorem plTo_step (n : Nat) (left : Int) (j : Nat) {a k : Nat} (h : a ≤ k) : plTo n left j a (k + 1) = (plTo n left j a k).set k ((moreR n left j).getD k 0) := by
  refine List.ext_getElem (by simp [plTo]) fun i h1 h2 => ?_
  rw [List.getElem_set]
  simp only [plTo, List.getElem_map, List.getElem_range]
  by_cases e : k = i
  · rw [if_pos e, if_pos (by omega), e]
  · rw [if_neg e]
    by_cases h3 : a ≤ i ∧ i < k
    · rw [if_pos h3, if_pos (by omega)]
    · rw [if_neg h3, if_neg (by omega)]
theorem plTo_all {n : Nat} {left : Int} {j a : Nat} (h : ∀ i, i < a → i < n → (moreR n left j).getD i 0 = 0) : plTo n left j a n = placesR n left j := by
  unfold plTo placesR
  refine List.map_congr_left fun i hi => ?_
  have hi' : i < n := by simpa using hi
  by_cases h3 : a ≤ i
  · rw [if_pos ⟨h3, hi'⟩]
  · rw [if_neg (by omega), h i (by omega) hi']

end Go.Proofs.Ytpelapdadgmlkaa
