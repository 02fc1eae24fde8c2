/-
  A style's words, as the other one writes them: plain.
-/
import Derived.Test.YtaoehdmdjplegaaGreatDoorStyC
namespace Go.Proofs.YtaoehdmdjplegaaGreatDoor
open Go.RowKit Go.Shelf

/-- Words, each with a blank ahead. -/
def blk (l : List (List UInt8)) : List UInt8 := l.flatMap (32 :: ·)
theorem blk_append (a b : List (List UInt8)) : blk (a ++ b) = blk a ++ blk b := by simp [blk]
/-- The other one's lists of words. -/
def rpicksT : List (List (List UInt8)) := picksT.map fun t => t.tail.map fun x => if x = [63] then [] else x
def pickTs : List (List (List UInt8)) → List Nat → Option (List UInt8)
  | t :: T, x :: X => match pickT t x with
    | none => none
    | some a => (pickTs T X).map (a ++ ·)
  | _, _ => some []
def lenTs : List (List UInt8) → List (Nat × Int) → Option (List UInt8)
  | t :: T, x :: X => match lenT t x with
    | none => none
    | some a => (lenTs T X).map (a ++ ·)
  | _, _ => some []
def numTs : List (List UInt8) → List Int → List UInt8
  | t :: T, x :: X => numV t x ++ numTs T X
  | _, _ => []
def flagT (s : Sty) : List UInt8 := (if s.whole then 32 :: wholeB else []) ++ (if s.wrap then 32 :: wrapB else [])
/-- A style's text; none: it has none. -/
def stylT (s : Sty) : Option (List UInt8) := match pickTs rpicksT s.picks, lenTs lensT s.lens with
  | some a, some b => some (a ++ (flagT s ++ (b ++ numTs numsT s.nums)))
  | _, _ => none

theorem pick_same : ∀ i : Fin 7, ∀ x : Fin 256, pickT (rpicksT[i.val]'i.isLt) x.val = (pickW (picksT[i.val]'i.isLt) x.val).map blk := by decide +kernel
theorem picks_same : ∀ (m i : Nat), i + m = 7 → ∀ X : List Nat, (∀ x ∈ X, x < 256) → pickTs (rpicksT.drop i) X = (pickWs (picksT.drop i) X).map blk
  | 0, i, hi, X, _ => by
    have e1 : rpicksT.drop i = [] := List.drop_of_length_le (by show 7 ≤ i; omega)
    have e2 : picksT.drop i = [] := List.drop_of_length_le (by show 7 ≤ i; omega)
    rw [e1, e2]; rfl
  | m + 1, i, hi, X, hX => by
    have e1 : rpicksT.drop i = rpicksT[i]'(show i < 7 by omega) :: rpicksT.drop (i + 1) := List.drop_eq_getElem_cons (show i < 7 by omega)
    have e2 : picksT.drop i = picksT[i]'(show i < 7 by omega) :: picksT.drop (i + 1) := List.drop_eq_getElem_cons (show i < 7 by omega)
    rw [e1, e2]
    cases X with
    | nil => rfl
    | cons x X =>
      have ih := picks_same m (i + 1) (by omega) X (fun y hy => hX y (by simp [hy]))
      have h0 := pick_same ⟨i, by omega⟩ ⟨x, hX x (by simp)⟩
      simp only at h0
      rw [pickTs, pickWs, h0, ih]
      cases pickW (picksT[i]'(show i < 7 by omega)) x with
      | none => rfl
      | some a =>
        cases pickWs (picksT.drop (i + 1)) X with
        | none => rfl
        | some b => simp [blk_append]
theorem lens_same : ∀ (T : List (List UInt8)) (X : List (Nat × Int)), lenTs T X = (lenWs T X).map blk
  | [], _ => rfl
  | t :: T, [] => rfl
  | t :: T, x :: X => by
    have ih := lens_same T X
    rw [lenTs, lenWs, ih]
    unfold lenT
    cases lenW t x with
    | none => rfl
    | some a =>
      cases lenWs T X with
      | none => rfl
      | some b => simp [blk]
theorem nums_same : ∀ (T : List (List UInt8)) (X : List Int), numTs T X = blk (numWs T X)
  | [], _ => rfl
  | t :: T, [] => rfl
  | t :: T, x :: X => by
    have ih := nums_same T X
    rw [numTs, numWs, ih, blk_append]
    congr 1
    unfold numV numW
    split <;> simp [blk]
theorem flag_same (s : Sty) : flagT s = blk (flagW s) := by
  unfold flagT flagW
  rw [blk_append]
  cases s.whole <;> cases s.wrap <;> simp [blk]
/-- BOTH WRITE THE SAME. -/
theorem styl_same {s : Sty} (h : s.Ok) : stylT s = (stylW s).map blk := by
  have h1 := picks_same 7 0 rfl s.picks h.pk
  simp only [List.drop_zero] at h1
  unfold stylT stylW
  rw [h1, lens_same, nums_same, flag_same]
  cases pickWs picksT s.picks with
  | none => rfl
  | some a =>
    cases lenWs lensT s.lens with
    | none => rfl
    | some b => simp [blk_append]
theorem joinC_blk : ∀ (w : List UInt8) (l : List (List UInt8)), joinC (w :: l) = w ++ blk l
  | w, [] => by simp [joinC, blk]
  | w, v :: l => by
    have := joinC_blk v l
    rw [joinC, this]
    simp [blk]

/-! ### Step by step -/
theorem picks_at (s : Sty) (h : s.Ok) {k : Nat} (hk : k < 7) : pickTs (rpicksT.drop k) (s.picks.drop k) = match pickT (rpicksT[k]'hk) (s.picks[k]'(by rw [h.p]; exact hk)) with
    | none => none
    | some a => (pickTs (rpicksT.drop (k + 1)) (s.picks.drop (k + 1))).map (a ++ ·) := by
  rw [List.drop_eq_getElem_cons (show k < rpicksT.length from hk), List.drop_eq_getElem_cons (show k < s.picks.length by rw [h.p]; exact hk)]; rfl
theorem picks_stop (s : Sty) (h : s.Ok) : pickTs (rpicksT.drop 7) (s.picks.drop 7) = some [] := by
  rw [List.drop_of_length_le (show s.picks.length ≤ 7 by rw [h.p]; exact Nat.le_refl _)]; rfl
theorem lens_at (s : Sty) (h : s.Ok) {k : Nat} (hk : k < 11) : lenTs (lensT.drop k) (s.lens.drop k) = match lenT (lensT[k]'hk) (s.lens[k]'(by rw [h.l]; exact hk)) with
    | none => none
    | some a => (lenTs (lensT.drop (k + 1)) (s.lens.drop (k + 1))).map (a ++ ·) := by
  rw [List.drop_eq_getElem_cons (show k < lensT.length from hk), List.drop_eq_getElem_cons (show k < s.lens.length by rw [h.l]; exact hk)]; rfl
theorem lens_stop (s : Sty) (h : s.Ok) : lenTs (lensT.drop 11) (s.lens.drop 11) = some [] := by
  rw [List.drop_of_length_le (show s.lens.length ≤ 11 by rw [h.l]; exact Nat.le_refl _)]; rfl
theorem nums_at (s : Sty) (h : s.Ok) {k : Nat} (hk : k < 16) : numTs (numsT.drop k) (s.nums.drop k) = numV (numsT[k]'hk) (s.nums[k]'(by rw [h.n]; exact hk)) ++ numTs (numsT.drop (k + 1)) (s.nums.drop (k + 1)) := by
  rw [List.drop_eq_getElem_cons (show k < numsT.length from hk), List.drop_eq_getElem_cons (show k < s.nums.length by rw [h.n]; exact hk)]; rfl
theorem nums_stop (s : Sty) (h : s.Ok) : numTs (numsT.drop 16) (s.nums.drop 16) = [] := by
  rw [List.drop_of_length_le (show s.nums.length ≤ 16 by rw [h.n]; exact Nat.le_refl _)]; rfl
theorem rpicks_small : ∀ t ∈ rpicksT, t.length ≤ 100 ∧ ∀ x ∈ t, x.length ≤ 100 := by decide
theorem lensT_small : ∀ t ∈ lensT, t.length ≤ 100 := by decide
theorem numsT_small : ∀ t ∈ numsT, t.length ≤ 100 := by decide

end Go.Proofs.YtaoehdmdjplegaaGreatDoor
