/-
  Rows of lines in memory: owned, appended to, read; what a closure over boxes sees.
-/
import Derived.RangeFuncBox
import Derived.RangeFuncLeaves
import Derived.RangeFuncNested
import Derived.Shelf.Abstract
import Derived.WalkKit
import Derived.OwnWalkIn
import Derived.TacticsInMore
import Derived.LoopNIn
import Derived.LoopIn
import Derived.Maps.AppendAt
import Derived.Test.YtbhdolghokhfnaaLinesPlain2
import Derived.Test.YtbhdolghokhfnaaInts
import Derived.Test.YtbhdolghokhfnaaFixedPlain
namespace Go.Proofs.Ytbhdolghokhfnaa
open Go.RowKit Go.Shelf

/-! Plain. -/
theorem lnTo_congr {ok ok' : Nat → Nat → Bool} {n : Nat} (h : ∀ a t, a < t → t < n → ok a t = ok' a t) : ∀ i, i ≤ n → lnTo ok i = lnTo ok' i
  | 0, _ => rfl
  | i + 1, hi => by
    rw [lnTo, lnTo, lnTo_congr h i (by omega)]
    by_cases h1 : (lnTo ok' i).2 < i
    · rw [h _ _ h1 (by omega)]
    · simp [h1]
theorem linesOf_congr {ok ok' : Nat → Nat → Bool} {n : Nat} (h : ∀ a t, a < t → t < n → ok a t = ok' a t) : linesOf ok n = linesOf ok' n := by
  unfold linesOf
  rw [lnTo_congr h n (Nat.le_refl _)]
theorem linesOf_len (ok : Nat → Nat → Bool) (n : Nat) : (linesOf ok n).length ≤ n := by
  unfold linesOf
  split
  · simp
  · have := lnTo_len ok n
    simp
    omega
/-- May box t stand in a line that begins at a, in so much room. -/
def okIn (zs : List Int) (gap R : Int) (a t : Nat) : Bool := decide (longOf zs gap a (t + 1) ≤ R)
theorem longOf_bd {zs : List Int} {gap : Int} (h : zs.all fit = true) (hl : zs.length ≤ 2048) (g0 : 0 ≤ gap) (g1 : gap ≤ 1099511627776) {a b : Nat} (hab : a ≤ b) (hb : b ≤ zs.length) :
    -4505798650626048 ≤ longOf zs gap a b ∧ longOf zs gap a b ≤ 6755399441055744 := by
  have h1 := sum_bd h a
  have h2 := sum_bd h b
  have h3 : gap * ((b : Int) - a - 1) ≤ 1099511627776 * 2048 := by
    rcases Int.lt_or_le ((b : Int) - a - 1) 0 with hn | hn
    · have : gap * ((b : Int) - a - 1) ≤ 0 := Int.mul_nonpos_of_nonneg_of_nonpos g0 (by omega)
      omega
    · exact Int.mul_le_mul g1 (by omega) hn (by omega)
  have h4 : -1099511627776 ≤ gap * ((b : Int) - a - 1) := by
    rcases Int.lt_or_le ((b : Int) - a - 1) 0 with hn | hn
    · rw [show (b : Int) - a - 1 = -1 by omega]; omega
    · have := Int.mul_nonneg g0 hn; omega
  unfold longOf
  omega
/-- What Split's own room comes to. -/
theorem okIn_split {zs : List Int} {gap room : Int} {wrap : Bool} (h : zs.all fit = true) (hl : zs.length ≤ 2048) (g0 : 0 ≤ gap) (g1 : gap ≤ 1099511627776) (r0 : -1 ≤ room) (R : Int) (hR : R = if !wrap || decide (room < 0) then 4611686018427387904 else room) :
    linesOf (okIn zs gap R) zs.length = linesOf (okAt zs gap room wrap) zs.length := by
  refine linesOf_congr fun a t hat ht => ?_
  have := longOf_bd h hl g0 g1 (show a ≤ t + 1 by omega) (show t + 1 ≤ zs.length by omega)
  unfold okIn okAt
  rw [hR]
  cases wrap with
  | false => simp; omega
  | true =>
    by_cases hr : room < 0
    · have : room = -1 := by omega
      simp [this]
      omega
    · simp [hr, show room ≠ -1 by omega]

/-! Rows. -/
theorem Try.infoLine : (Try.prog.info? 90).map (fun i => (i.zero, i.size, i.bytes)) = some (some (.agg #[.int .i64 0, .int .i64 0]), 2, 16) := by kernel_rfl
def encL (x : Nat × Nat) : List Value := [.int .i64 (x.1 : Int), .int .i64 (x.2 : Int)]
def valL (x : Nat × Nat) : Value := .agg #[.int .i64 (x.1 : Int), .int .i64 (x.2 : Int)]
def rowL (L : List (Nat × Nat)) : List Value := L.flatMap encL
theorem rowL_snoc (L : List (Nat × Nat)) (x : Nat × Nat) : rowL (L ++ [x]) = rowL L ++ encL x := by simp [rowL]
theorem rowL_len : ∀ L : List (Nat × Nat), (rowL L).length = L.length * 2
  | [] => rfl
  | x :: L => by
    show (encL x ++ rowL L).length = _
    rw [List.length_append, rowL_len L]
    simp [encL]
    omega
theorem rowL_at : ∀ {L : List (Nat × Nat)} {k : Nat} (hk : k < L.length), (rowL L)[k * 2]? = some (.int .i64 ((L[k]).1 : Int)) ∧ (rowL L)[k * 2 + 1]? = some (.int .i64 ((L[k]).2 : Int))
  | x :: L, 0, _ => by
    show (encL x ++ rowL L)[_]? = _ ∧ (encL x ++ rowL L)[_]? = _
    simp [encL]
  | x :: L, k + 1, hk => by
    have h := rowL_at (L := L) (k := k) (by simpa using hk)
    show (encL x ++ rowL L)[_]? = _ ∧ (encL x ++ rowL L)[_]? = _
    rw [List.getElem?_append_right (by simp [encL]; omega), List.getElem?_append_right (by simp [encL]; omega)]
    rw [show (k + 1) * 2 - (encL x).length = k * 2 by simp [encL]; omega, show (k + 1) * 2 + 1 - (encL x).length = k * 2 + 1 by simp [encL]; omega]
    simpa using h
def OwnsL (w : World) (base : Nat) (v : Value) (L : List (Nat × Nat)) : Prop := w.ownsRow base 90 2 v L.length (rowL L)
theorem OwnsL.nil (w : World) (base : Nat) : OwnsL w base (.slice none 0 0) [] := World.ownsRow_nil _ _ _ _
theorem OwnsL.below {w w' : World} {base : Nat} {v : Value} {L : List (Nat × Nat)} (h : OwnsL w base v L) (hb : Below w.heap.size w w') : OwnsL w' base v L := by
  refine World.ownsRow.kept (row := none) h ⟨hb.os, hb.tape, hb.output, hb.size, fun k hk _ => hb.block k hk⟩ ?_
  cases hv : v.ownBlock with
  | none => exact .inl rfl
  | some g => exact .inr (by simp)
theorem OwnsL.base_le {w : World} {base base' : Nat} {v : Value} {L : List (Nat × Nat)} (h : OwnsL w base v L) (hb : base' ≤ base) : OwnsL w base' v L := by
  obtain ⟨h1, h2⟩ := h
  refine ⟨h1, ?_⟩
  rcases h2 with h2 | ⟨g, cap, cur, e, hg, r⟩
  · exact .inl h2
  · exact .inr ⟨g, cap, cur, e, by omega, r⟩
/-- A slice of lines, read: what its cells hold; they may be written. -/
def LinesIn (w : World) (lo hi : Nat) (v : Value) (L : List (Nat × Nat)) : Prop :=
  (L = [] ∧ ∃ A c, v = .slice A 0 c) ∨ ∃ g cap, v = .slice (some ⟨g, 0, none⟩) L.length cap ∧ 0 < L.length ∧ lo ≤ g ∧ g < hi ∧ L.length ≤ cap ∧
    (∀ k (h : k < L.length), w.cell? ⟨g, k * 2, none⟩ = some (.int .i64 ((L[k]).1 : Int)) ∧ w.cell? ⟨g, k * 2 + 1, none⟩ = some (.int .i64 ((L[k]).2 : Int))) ∧ ∀ o, w.frozen? ⟨g, o, none⟩ = false
theorem OwnsL.lines {w : World} {base : Nat} {v : Value} {L : List (Nat × Nat)} (h : OwnsL w base v L) : LinesIn w base w.heap.size v L := by
  rcases h.2 with ⟨rfl, h0⟩ | ⟨g, cap, cur, rfl, hg, hb, hc, _, hs, ht⟩
  · exact .inl ⟨List.eq_nil_of_length_eq_zero h0, _, _, by first | rfl | rw [h0]⟩
  · rcases Nat.eq_zero_or_pos L.length with h0 | h0
    · exact .inl ⟨List.eq_nil_of_length_eq_zero h0, _, _, by rw [h0]⟩
    · refine .inr ⟨g, cap, rfl, h0, hg, (Array.getElem?_eq_some_iff.1 hb).1, hc, fun k hk => ?_, fun o => by simp [World.frozen?, hb]⟩
      have hcell : ∀ j, j < L.length * 2 → w.cell? ⟨g, j, none⟩ = (rowL L)[j]? := fun j hj => by
        rw [cell_of_row w g j cur _ _ hb, ← ht, List.getElem?_take_of_lt hj, Array.getElem?_toList]
      obtain ⟨a, b⟩ := rowL_at hk
      exact ⟨(hcell _ (by omega)).trans a, (hcell _ (by omega)).trans b⟩
theorem LinesIn.below {w w' : World} {lo hi : Nat} {v : Value} {L : List (Nat × Nat)} (h : LinesIn w lo hi v L) (hb : Below hi w w') : LinesIn w' lo hi v L := by
  rcases h with h | ⟨g, cap, e, h0, h1, h2, h3, hc, hf⟩
  · exact .inl h
  · exact .inr ⟨g, cap, e, h0, h1, h2, h3, fun k hk => ⟨(hb.cell (p := ⟨g, k * 2, none⟩) h2).trans (hc k hk).1, (hb.cell (p := ⟨g, k * 2 + 1, none⟩) h2).trans (hc k hk).2⟩, fun o => (World.frozen?_of_block (a := ⟨g, o, none⟩) (hb.block g h2)).trans (hf o)⟩

/-- What a round of the loop keeps: whatever lay below n₀, and the closure's three boxes. -/
def KeepB (n₀ b : Nat) (W W' : World) : Prop := Below n₀ W W' ∧ ∀ k t v, b ≤ k → k < b + 3 → t ≠ 90 → Boxed W k t v → Boxed W' k t v
theorem KeepB.refl (n₀ b : Nat) (W : World) : KeepB n₀ b W W := ⟨Below.refl _ _, fun _ _ _ _ _ _ h => h⟩
theorem KeepB.trans {n₀ b : Nat} {A B C : World} (h : KeepB n₀ b A B) (k : KeepB n₀ b B C) : KeepB n₀ b A C := ⟨h.1.trans k.1, fun i t v h1 h2 h3 h4 => k.2 i t v h1 h2 h3 (h.2 i t v h1 h2 h3 h4)⟩
theorem KeepB.put {n₀ b : Nat} {w : World} (hn : n₀ ≤ w.heap.size) (W : World) (l : Nat) (o o' : Obj) (hl : w.heap.size ≤ l) (h : W.heap[l]? = some o) (hc : o.isCells = false) (hw : o.isWalk = false) : KeepB n₀ b W (W.putObj l o') := by
  refine ⟨belowK_b hn W l o o' hl h hc hw, fun k t v _ _ _ hb => hb.kept (grownBy_putObj' W l o') fun e => ?_⟩
  cases e
  rw [show W.heap[l]? = _ from hb] at h
  cases h
  cases hc

end Go.Proofs.Ytbhdolghokhfnaa
