/-
  What the laws on shares ask of what fixed.Share tells; the law's sign.
-/
import Derived.Test.YtbhdolghokhfnaaWhole
namespace Go.Proofs.Ytbhdolghokhfnaa
open Go.RowKit

/-- What fixed.Share tells of weights that may be. -/
def zsOf (total : Int) (ws : List Int) : List Int := if wSum ws = 0 then List.replicate ws.length 0 else shares total ws
theorem shareR_ok {total : Int} {ws : List Int} (hf : fit total = true) (hl : ws.length ≤ 2048) (hw : ws.all isWeight = true) : shareR total ws = (zsOf total ws, 0) := by
  unfold shareR zsOf
  rw [if_neg (by simp [hf, hw]; omega)]
  split <;> rfl
theorem zsOf_len (total : Int) (ws : List Int) : (zsOf total ws).length = ws.length := by
  unfold zsOf
  split <;> simp [shares]
theorem zsOf_at {total : Int} {ws : List Int} {i : Nat} (hi : i < (zsOf total ws).length) : (zsOf total ws)[i] = if wSum ws = 0 then 0 else shareAt total ws i := by
  unfold zsOf at hi ⊢
  by_cases h : wSum ws = 0
  · simp [h]
  · simp [h, shares]
theorem gets_le (t : Nat) (ws : List Int) (hS : 0 < wSum ws) {i : Nat} (hi : i < ws.length) : gets t ws i ≤ t := by
  have h1 := gets_sum t ws hS
  have h2 : sumTo (gets t ws) (i + 1) ≤ sumTo (gets t ws) ws.length := sumTo_mono hi
  rw [sumTo] at h2
  omega

/-- All that the law asks of what is told. -/
structure GivenFacts (total : Int) (ws zs : List Int) : Prop where
  len : zs.length = ws.length
  zero : ∀ i (h : i < ws.length) (h' : i < zs.length), ws[i] = 0 → zs[i] = 0
  pos : 0 ≤ total → ∀ i (h' : i < zs.length), 0 ≤ zs[i] ∧ zs[i] ≤ 1099511627776
  neg : total < 0 → ∀ i (h' : i < zs.length), zs[i] ≤ 0 ∧ -1099511627776 ≤ zs[i]
  more : ∀ i k (hi : i < ws.length) (hk : k < ws.length) (hi' : i < zs.length) (hk' : k < zs.length), ws[i] < ws[k] → zs[i] * sgn total ≤ zs[k] * sgn total
  alike : ∀ i k (hi : i < ws.length) (hk : k < ws.length) (hi' : i < zs.length) (hk' : k < zs.length), k < i → ws[k] = ws[i] → 0 ≤ (zs[k] - zs[i]) * sgn total ∧ (zs[k] - zs[i]) * sgn total ≤ 1
  sum : zs.sum = if wSum ws = 0 then 0 else total

theorem given_facts {total : Int} {ws : List Int} (hf : fit total = true) (hw : ws.all isWeight = true) : GivenFacts total ws (zsOf total ws) := by
  have hfit := (fit_iff total).1 hf
  have hwn : ∀ i (h : i < ws.length), 0 ≤ ws[i] := fun i h => (weight_at hw i h).1
  rcases Nat.eq_zero_or_pos (wSum ws) with h0 | h0
  · have hz : ∀ i (h' : i < (zsOf total ws).length), (zsOf total ws)[i] = 0 := fun i h' => by rw [zsOf_at, if_pos h0]
    refine ⟨zsOf_len _ _, fun i _ h' _ => hz i h', fun _ i h' => by rw [hz]; omega, fun _ i h' => by rw [hz]; omega, fun i k _ _ hi' hk' _ => by rw [hz, hz]; omega, fun i k _ _ hi' hk' _ _ => by rw [hz, hz]; omega, ?_⟩
    rw [if_pos h0]
    unfold zsOf
    rw [if_pos h0]
    simp
  · have hz : ∀ i (h' : i < (zsOf total ws).length), (zsOf total ws)[i] = shareAt total ws i := fun i h' => by rw [zsOf_at, if_neg (by omega)]
    have hwA : ∀ i (h : i < ws.length), wAt ws i = ws[i].toNat := fun i h => wAt_at h
    refine ⟨zsOf_len _ _, fun i h h' e => ?_, fun ht i h' => ?_, fun ht i h' => ?_, fun i k hi hk hi' hk' hlt => ?_, fun i k hi hk hi' hk' hki e => ?_, ?_⟩
    · rw [hz]
      unfold shareAt
      rw [gets_zero _ _ h0 i (by rw [hwA i h, e]; rfl)]
      simp
    · rw [hz, shareAt_pos _ _ _ ht]
      have := gets_le total.natAbs ws h0 (i := i) (by rwa [zsOf_len] at h')
      omega
    · rw [hz, shareAt_neg _ _ _ ht]
      have := gets_le total.natAbs ws h0 (i := i) (by rwa [zsOf_len] at h')
      omega
    · rw [hz, hz, shareAt_sgn, shareAt_sgn]
      have h1 := hwn i hi
      have := gets_less total.natAbs ws h0 i k (by rw [hwA i hi, hwA k hk]; omega)
      omega
    · rw [hz, hz, Int.sub_mul, shareAt_sgn, shareAt_sgn]
      have := gets_alike total.natAbs ws i k (by rw [hwA i hi, hwA k hk, e]) hki
      omega
    · rw [if_neg (by omega)]
      unfold zsOf
      rw [if_neg (by omega)]
      exact shares_sum total ws h0

theorem sign_any (n : Int) (w : World) : Calls Try.prog 20 #[.int .i64 n] w fun e w' => e = .returned (.int .i64 (sgn n)) ∧ w = w' := by
  by_cases h : n < 0
  · have H := Lib.hid (show sgn n = -1 from if_pos h)
    go_enter Try.func20, Try.ntmps20
    go_wp2_with fail
    go_ret
    exact ⟨by rw [H.out]; rfl, rfl⟩
  · have H := Lib.hid (show sgn n = 1 from if_neg h)
    go_enter Try.func20, Try.ntmps20
    go_wp2_with fail
    go_ret
    exact ⟨by rw [H.out]; rfl, rfl⟩

end Go.Proofs.Ytbhdolghokhfnaa
