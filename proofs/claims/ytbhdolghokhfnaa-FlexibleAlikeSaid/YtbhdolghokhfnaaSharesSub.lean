/-
  Plain: shares do not change where places without weight are left out.
-/
import Derived.Test.YtbhdolghokhfnaaGivenPlain
namespace Go.Proofs.Ytbhdolghokhfnaa

/-- The places that are kept. -/
def keptI (q : Nat → Bool) (n : Nat) : List Nat := (List.range n).filter q
theorem keptI_lt {q : Nat → Bool} {n i : Nat} (h : i ∈ keptI q n) : i < n ∧ q i = true := by
  unfold keptI at h
  rw [List.mem_filter] at h
  exact ⟨by simpa using h.1, h.2⟩
theorem keptI_mem {q : Nat → Bool} {n i : Nat} : i ∈ keptI q n ↔ i < n ∧ q i = true := by simp [keptI]
theorem keptI_sorted (q : Nat → Bool) (n : Nat) : (keptI q n).Pairwise (· < ·) := List.Pairwise.filter _ List.pairwise_lt_range
theorem keptI_nodup (q : Nat → Bool) (n : Nat) : (keptI q n).Nodup := (keptI_sorted q n).imp (fun h e => by subst e; exact Nat.lt_irrefl _ h)
theorem keptI_mono {q : Nat → Bool} {n j k : Nat} (hj : j < (keptI q n).length) (hk : k < (keptI q n).length) : (keptI q n)[j] < (keptI q n)[k] ↔ j < k := by
  have hs := List.pairwise_iff_getElem.1 (keptI_sorted q n)
  constructor
  · intro h
    rcases Nat.lt_trichotomy j k with h1 | rfl | h1
    · exact h1
    · exact absurd h (Nat.lt_irrefl _)
    · exact absurd (hs k j hk hj h1) (by omega)
  · exact fun h => hs j k hj hk h
theorem countP_at {l : List Nat} (f : Nat → Bool) : (List.range l.length).countP (fun j => f (l.getD j 0)) = l.countP f := by
  have e : l = (List.range l.length).map (fun j => l.getD j 0) := List.ext_getElem (by simp) fun i h1 h2 => by simp [h1]
  conv => rhs; rw [e]
  rw [List.countP_map]
  rfl
theorem countP_kept (f q : Nat → Bool) (n : Nat) (h : ∀ i, i < n → f i = true → q i = true) : (keptI q n).countP f = (List.range n).countP f := by
  unfold keptI
  rw [List.countP_filter]
  refine List.countP_congr fun i hi => ?_
  have := h i (by simpa using hi)
  cases hf : f i <;> simp_all
theorem sumTo_at {l : List Nat} (f : Nat → Nat) : sumTo (fun j => f (l.getD j 0)) l.length = (l.map f).sum := by
  rw [← sumTo_map]
  congr 1
  refine List.ext_getElem (by simp) fun i h1 h2 => by
    have : i < l.length := by simpa using h1
    simp [this]
theorem sum_kept (f : Nat → Nat) (q : Nat → Bool) : ∀ n, (∀ i, i < n → q i = false → f i = 0) → ((keptI q n).map f).sum = sumTo f n
  | 0, _ => rfl
  | n + 1, h => by
    have ih := sum_kept f q n fun i hi => h i (by omega)
    unfold keptI at ih ⊢
    rw [List.range_succ, List.filter_append, List.map_append, List.sum_append, ih, sumTo]
    cases hq : q n with
    | true => simp [hq]
    | false => simp [hq, h n (by omega) hq]

section
variable {ws : List Int} {q : Nat → Bool}
def subW (ws : List Int) (q : Nat → Bool) : List Int := (keptI q ws.length).map fun i => ws.getD i 0
theorem subW_len (ws : List Int) (q : Nat → Bool) : (subW ws q).length = (keptI q ws.length).length := by simp [subW]
theorem subW_at {j : Nat} (h : j < (subW ws q).length) : wAt (subW ws q) j = wAt ws ((keptI q ws.length).getD j 0) := by
  have h' : j < (keptI q ws.length).length := by rwa [subW_len] at h
  rw [wAt_at h]
  unfold wAt subW
  simp [h']
theorem subW_sum (hz : ∀ i, i < ws.length → q i = false → wAt ws i = 0) : wSum (subW ws q) = wSum ws := by
  unfold wSum
  rw [sumTo_congr (g := fun j => wAt ws ((keptI q ws.length).getD j 0)) fun j hj => subW_at hj, subW_len, sumTo_at (wAt ws), sum_kept _ _ _ hz]
theorem subW_quo (t : Nat) (hz : ∀ i, i < ws.length → q i = false → wAt ws i = 0) {j : Nat} (h : j < (subW ws q).length) : quo t (subW ws q) j = quo t ws ((keptI q ws.length).getD j 0) := by
  unfold quo
  rw [subW_sum hz, subW_at h]
theorem subW_lost (t : Nat) (hz : ∀ i, i < ws.length → q i = false → wAt ws i = 0) {j : Nat} (h : j < (subW ws q).length) : lost t (subW ws q) j = lost t ws ((keptI q ws.length).getD j 0) := by
  unfold lost
  rw [subW_sum hz, subW_at h]
theorem subW_over (t : Nat) (hz : ∀ i, i < ws.length → q i = false → wAt ws i = 0) : over t (subW ws q) = over t ws := by
  unfold over
  rw [sumTo_congr (g := fun j => quo t ws ((keptI q ws.length).getD j 0)) fun j hj => subW_quo t hz hj, subW_len, sumTo_at (quo t ws), sum_kept _ _ _ fun i hi hq => by unfold quo; rw [hz i hi hq]; simp]
theorem rank_zero {t : Nat} {ws : List Int} (hS : 0 < wSum ws) {i : Nat} (h : lost t ws i = 0) : ¬ rank (lost t ws) ws.length i < over t ws := by
  have h1 := over_lt t ws hS
  have h2 : (List.range ws.length).countP (fun k => decide (0 < lost t ws k)) ≤ rank (lost t ws) ws.length i := by
    unfold rank
    refine List.countP_mono_left fun k _ hk => ?_
    rw [before_iff]
    simp at hk
    omega
  omega
theorem subW_gets (t : Nat) (hS : 0 < wSum ws) (hz : ∀ i, i < ws.length → q i = false → wAt ws i = 0) {j : Nat} (h : j < (subW ws q).length) : gets t (subW ws q) j = gets t ws ((keptI q ws.length).getD j 0) := by
  have h' : j < (keptI q ws.length).length := by rwa [subW_len] at h
  have hg : (keptI q ws.length).getD j 0 = (keptI q ws.length)[j] := by simp [h']
  unfold gets
  rw [subW_quo t hz h, subW_over t hz]
  congr 1
  rcases Nat.eq_zero_or_pos (lost t ws ((keptI q ws.length).getD j 0)) with h0 | h0
  · rw [if_neg (rank_zero hS h0)]
    have hS2 : 0 < wSum (subW ws q) := by rw [subW_sum hz]; exact hS
    have := rank_zero (t := t) hS2 (i := j) (by rw [subW_lost t hz h]; exact h0)
    rw [subW_over t hz] at this
    rw [if_neg this]
  · have e : rank (lost t (subW ws q)) (subW ws q).length j = rank (lost t ws) ws.length ((keptI q ws.length).getD j 0) := by
      unfold rank
      rw [subW_len]
      rw [← countP_kept (fun k => before (lost t ws) k ((keptI q ws.length).getD j 0)) q ws.length fun k hk hb => ?_]
      · rw [← countP_at (l := keptI q ws.length)]
        refine List.countP_congr fun k hk => ?_
        have hk' : k < (keptI q ws.length).length := by simpa using hk
        have hgk : (keptI q ws.length).getD k 0 = (keptI q ws.length)[k] := by simp [hk']
        rw [before_iff, before_iff, subW_lost t hz h, subW_lost t hz (by rw [subW_len]; exact hk')]
        have := keptI_mono hk' h'
        rw [← hg, ← hgk] at this
        rw [this]
      · rw [before_iff] at hb
        cases hq : q k with
        | true => rfl
        | false =>
          have : lost t ws k = 0 := by unfold lost; rw [hz k hk hq]; simp
          omega
    rw [e]
/-- Shares of the places that are kept are the shares that they have among all. -/
theorem zsOf_sub (total : Int) (hz : ∀ i, i < ws.length → q i = false → wAt ws i = 0) : zsOf total (subW ws q) = (keptI q ws.length).map fun i => (zsOf total ws).getD i 0 := by
  refine List.ext_getElem (by rw [zsOf_len, subW_len]; simp) fun j h1 h2 => ?_
  have hj : j < (subW ws q).length := by rwa [zsOf_len] at h1
  have hj' : j < (keptI q ws.length).length := by rwa [subW_len] at hj
  have hlt := (keptI_lt (List.getElem_mem hj')).1
  rw [zsOf_at, List.getElem_map]
  have hz2 : (zsOf total ws).getD (keptI q ws.length)[j] 0 = (zsOf total ws)[(keptI q ws.length)[j]]'(by rw [zsOf_len]; exact hlt) := by simp [zsOf_len, hlt]
  rw [hz2, zsOf_at, subW_sum hz]
  by_cases h0 : wSum ws = 0
  · rw [if_pos h0, if_pos h0]
  · rw [if_neg h0, if_neg h0]
    unfold shareAt
    rw [subW_gets _ (by omega) hz hj]
    simp [hj']
end

end Go.Proofs.Ytbhdolghokhfnaa
