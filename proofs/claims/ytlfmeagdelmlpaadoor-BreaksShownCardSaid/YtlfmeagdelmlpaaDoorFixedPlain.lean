/-
  Plain: lengths, sums of lengths, products, parts, as Lean functions, and small facts on them. No program.
-/
import Derived.Below
namespace Go.Proofs.YtlfmeagdelmlpaaDoor

/-- Is a number a length? -/
def fit (n : Int) : Bool := decide (-1099511627776 ≤ n) && decide (n ≤ 1099511627776)
theorem fit_iff (n : Int) : fit n = true ↔ -1099511627776 ≤ n ∧ n ≤ 1099511627776 := by simp [fit]
theorem fit_false (n : Int) : fit n = false ↔ n < -1099511627776 ∨ 1099511627776 < n := by
  rw [← Bool.not_eq_true, fit_iff]; omega

def told (out : Int) (of : List Int) : Int × Int := if of.all fit = true ∧ fit out = true then (out, 0) else (0, 10)
theorem told_yes {out : Int} {of : List Int} (h : of.all fit = true) (h' : fit out = true) : told out of = (out, 0) := if_pos ⟨h, h'⟩
theorem told_no1 {out : Int} {of : List Int} (h : of.all fit = false) : told out of = (0, 10) := if_neg (by simp [h])
theorem told_no2 {out : Int} {of : List Int} (h : fit out = false) : told out of = (0, 10) := if_neg (by simp [h])

def addR (zs : List Int) : Int × Int := told zs.sum zs
def subR (a b : Int) : Int × Int := told (a - b) [a, b]
def mulR (a b : Int) : Int × Int := told (a * b) [a, b]
def partR (n of : Int) : Int × Int := if n < 0 ∨ 100000 < n then (0, 2) else if fit of = true then told ((n * of).tdiv 10000) [] else (0, 10)
def clampR (n least most : Int) : Int := max least (min most n)

theorem take_all (zs : List Int) (k : Nat) (hk : k < zs.length) : (zs.take (k + 1)).all fit = ((zs.take k).all fit && fit zs[k]) := by
  rw [List.take_succ_eq_append_getElem hk, List.all_append]; simp
theorem all_false_at (zs : List Int) (k : Nat) (hk : k < zs.length) (h : fit zs[k] = false) : zs.all fit = false := by
  rw [← Bool.not_eq_true]; intro ha
  have := List.all_eq_true.1 ha zs[k] (List.getElem_mem hk)
  simp [h] at this
theorem all_at {zs : List Int} (h : zs.all fit = true) (k : Nat) (hk : k < zs.length) : -1099511627776 ≤ zs[k] ∧ zs[k] ≤ 1099511627776 :=
  (fit_iff _).1 (List.all_eq_true.1 h zs[k] (List.getElem_mem hk))
theorem take_sum (zs : List Int) (k : Nat) (hk : k < zs.length) : (zs.take (k + 1)).sum = (zs.take k).sum + zs[k] := by
  rw [List.take_succ_eq_append_getElem hk, List.sum_append]; simp
theorem sum_bd {zs : List Int} (h : zs.all fit = true) (k : Nat) : -(1099511627776 * (k : Int)) ≤ (zs.take k).sum ∧ (zs.take k).sum ≤ 1099511627776 * (k : Int) := by
  induction k with
  | zero => simp
  | succ k ih =>
    by_cases hk : k < zs.length
    · rw [take_sum zs k hk]
      have := all_at h k hk
      omega
    · rw [List.take_of_length_le (by omega)] at ih ⊢
      omega

end Go.Proofs.YtlfmeagdelmlpaaDoor
