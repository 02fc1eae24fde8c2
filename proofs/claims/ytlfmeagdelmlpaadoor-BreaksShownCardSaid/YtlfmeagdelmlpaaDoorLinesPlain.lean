/-
  The plain law of Split: lines as a fold over the boxes' places: where one begins, and what is told so far.
-/
import Derived.Test.YtlfmeagdelmlpaaDoorFixedPlain
namespace Go.Proofs.YtlfmeagdelmlpaaDoor

/-- Behind the first i boxes: the lines that are told, and where the one that is open begins. 'ok a t': may box t stand in a line that begins at a. -/
def lnTo (ok : Nat → Nat → Bool) : Nat → List (Nat × Nat) × Nat
  | 0 => ([], 0)
  | i + 1 => if decide ((lnTo ok i).2 < i) && !ok (lnTo ok i).2 i then ((lnTo ok i).1 ++ [((lnTo ok i).2, i)], i) else lnTo ok i
def linesOf (ok : Nat → Nat → Bool) (n : Nat) : List (Nat × Nat) := if n = 0 then [] else (lnTo ok n).1 ++ [((lnTo ok n).2, n)]

theorem lnTo_break {ok : Nat → Nat → Bool} {i from_ : Nat} {out : List (Nat × Nat)} (h : lnTo ok i = (out, from_)) (h1 : from_ < i) (h2 : ok from_ i = false) : lnTo ok (i + 1) = (out ++ [(from_, i)], i) := by
  rw [lnTo, h]
  simp [h1, h2]
theorem lnTo_on {ok : Nat → Nat → Bool} {i from_ : Nat} {out : List (Nat × Nat)} (h : lnTo ok i = (out, from_)) (h2 : i ≤ from_ ∨ ok from_ i = true) : lnTo ok (i + 1) = (out, from_) := by
  rw [lnTo, h]
  rcases h2 with h2 | h2
  · simp [show ¬ from_ < i by omega]
  · simp [h2]
theorem lnTo_lt (ok : Nat → Nat → Bool) : ∀ i, 0 < i → (lnTo ok i).2 < i
  | 0, h => absurd h (by omega)
  | i + 1, _ => by
    rw [lnTo]
    split
    · exact Nat.lt_succ_self _
    · rcases Nat.eq_zero_or_pos i with h | h
      · subst h
        simp [lnTo]
      · have := lnTo_lt ok i h
        omega
theorem lnTo_one (ok : Nat → Nat → Bool) : lnTo ok 1 = ([], 0) := by simp [lnTo]
theorem linesOf_end {ok : Nat → Nat → Bool} {n from_ : Nat} {out : List (Nat × Nat)} (hn : 0 < n) (h : lnTo ok n = (out, from_)) : linesOf ok n = out ++ [(from_, n)] := by
  unfold linesOf
  rw [if_neg (by omega), h]
/-- At most as many lines are told as boxes were seen. -/
theorem lnTo_len (ok : Nat → Nat → Bool) : ∀ i, (lnTo ok i).1.length ≤ i - 1
  | 0 => by simp [lnTo]
  | i + 1 => by
    have := lnTo_len ok i
    rw [lnTo]
    split
    · rename_i h
      simp at h
      simp
      have : 0 < i := by omega
      omega
    · omega

/-- How long the boxes from a on and ahead of b are, with the gaps between them. -/
def longOf (zs : List Int) (gap : Int) (a b : Nat) : Int := gap * ((b : Int) - a - 1) + ((zs.take b).sum - (zs.take a).sum)
theorem longOf_one (zs : List Int) (gap : Int) (a : Nat) (h : a < zs.length) : longOf zs gap a (a + 1) = zs[a] := by
  unfold longOf
  rw [take_sum zs a h, show ((a + 1 : Nat) : Int) - (a : Int) - 1 = 0 by omega]
  omega
theorem longOf_more (zs : List Int) (gap : Int) (a b : Nat) (h : b < zs.length) : longOf zs gap a (b + 1) = longOf zs gap a b + gap + zs[b] := by
  unfold longOf
  rw [take_sum zs b h, show ((b + 1 : Nat) : Int) - (a : Int) - 1 = ((b : Int) - a - 1) + 1 by omega, Int.mul_add]
  omega
def okAt (zs : List Int) (gap room : Int) (wrap : Bool) (a t : Nat) : Bool := !wrap || decide (room = -1) || decide (longOf zs gap a (t + 1) ≤ room)
def splitR (zs : List Int) (gap room : Int) (wrap : Bool) : List (Nat × Nat) × Int :=
  if 2048 < zs.length ∨ gap < 0 ∨ room < -1 then ([], 2)
  else if zs.all fit = true ∧ fit gap = true ∧ fit room = true then (linesOf (okAt zs gap room wrap) zs.length, 0) else ([], 10)
theorem split_arg {zs : List Int} {gap room : Int} {wrap : Bool} (h : 2048 < zs.length ∨ gap < 0 ∨ room < -1) : splitR zs gap room wrap = ([], 2) := if_pos h
theorem split_over {zs : List Int} {gap room : Int} {wrap : Bool} (h : ¬ (2048 < zs.length ∨ gap < 0 ∨ room < -1)) (h2 : ¬ (zs.all fit = true ∧ fit gap = true ∧ fit room = true)) : splitR zs gap room wrap = ([], 10) := by
  unfold splitR
  rw [if_neg h, if_neg h2]
theorem split_ok {zs : List Int} {gap room : Int} {wrap : Bool} (h : ¬ (2048 < zs.length ∨ gap < 0 ∨ room < -1)) (h2 : zs.all fit = true ∧ fit gap = true ∧ fit room = true) : splitR zs gap room wrap = (linesOf (okAt zs gap room wrap) zs.length, 0) := by
  unfold splitR
  rw [if_neg h, if_pos h2]

end Go.Proofs.YtlfmeagdelmlpaaDoor
