/-
  Walks: windowpanelaw17.left.
-/
import Derived.Test.YtpelapdadgmlkaaFlexMain2
namespace Go.Proofs.Ytpelapdadgmlkaa
open Go.RowKit

/-- The struct How as a value. -/
def howV (gap room : Int) (j : Nat) (back : Bool) : Value := .agg #[.int .i64 gap, .int .i64 room, .int .u8 j, .bool back]
def lfTo (outer : List Int) (gap room : Int) (k : Nat) : Int := room - (outer.take k).sum - gap * ((k - 1 : Nat) : Int)
def LfA (outer : List Int) (gap room : Int) (B : Nat) (w0 : World) (n i : Value) (wr : World) : Prop :=
  ∃ k : Nat, k ≤ outer.length ∧ i = .int .i64 k ∧ n = .int .i64 (lfTo outer gap room k) ∧ Below B w0 wr

theorem lfTo_succ (outer : List Int) (gap room : Int) {k : Nat} (hk : k < outer.length) : lfTo outer gap room (k + 1) = if 0 < k then lfTo outer gap room k - outer[k] - gap else lfTo outer gap room k - outer[k] := by
  unfold lfTo
  rw [take_sum outer k hk]
  split
  · rename_i h
    rw [show ((k + 1 - 1 : Nat) : Int) = ((k - 1 : Nat) : Int) + 1 by omega, Int.mul_add]
    omega
  · rename_i h
    rw [show k + 1 - 1 = k - 1 by omega]
    omega
theorem lfTo_bd {outer : List Int} {gap room : Int} (hO : outer.all fit = true) (g0 : 0 ≤ gap) (g1 : gap ≤ 1099511627776) (r0 : 0 ≤ room) (r1 : room ≤ 1099511627776) (k : Nat) : -(2199023255552 * (k : Int)) ≤ lfTo outer gap room k ∧ lfTo outer gap room k ≤ 1099511627776 + 1099511627776 * (k : Int) := by
  obtain ⟨b1, b2⟩ := sum_bd hO k
  have h1 : 0 ≤ gap * ((k - 1 : Nat) : Int) := Int.mul_nonneg g0 (by omega)
  have h2 : gap * ((k - 1 : Nat) : Int) ≤ 1099511627776 * ((k - 1 : Nat) : Int) := Int.mul_le_mul_of_nonneg_right g1 (by omega)
  unfold lfTo
  omega

set_option maxRecDepth 100000 in
set_option maxHeartbeats 4000000 in
theorem left17_any (outer : List Int) (gap room : Int) (j : Nat) (back : Bool) (v : Value) (B : Nat) (w : World) (h : Ints w B v outer) (hB : B ≤ w.heap.size)
    (hl : outer.length ≤ 200) (hO : outer.all fit = true) (g0 : 0 ≤ gap) (g1 : gap ≤ 1099511627776) (r0 : 0 ≤ room) (r1 : room ≤ 1099511627776) :
    Calls Try.prog 86 #[v, howV gap room j back] w fun e w' => e = .returned (.int .i64 (lfTo outer gap room outer.length)) ∧ Below w.heap.size w w' := by
  obtain ⟨A, c, rfl, _, hr⟩ := h
  have HO := Lib.hid hO; clear hO
  unfold howV
  go_enter Try.func86, Try.ntmps86
  go_wp2_with fail
  have hb0 : Below w.heap.size w (w.alloc (.cells #[.int .i64 gap, .int .i64 room, .int .u8 j, .bool back] 82)) := (Below.refl _ _).alloc (Nat.le_refl _) _
  have hs0 : (w.alloc (.cells #[.int .i64 gap, .int .i64 room, .int .u8 j, .bool back] 82)).heap.size = w.heap.size + 1 := World.size_alloc _ _
  have hc0 : (w.alloc (.cells #[.int .i64 gap, .int .i64 room, .int .u8 j, .bool back] 82)).cell? ⟨w.heap.size, 0, none⟩ = some (.int .i64 gap) := by simp [go_sem]
  have hr1 := hr.below (hb0.mono hB)
  generalize w.alloc (.cells #[.int .i64 gap, .int .i64 room, .int .u8 j, .bool back] 82) = w0 at *
  go_loopw [5, 6] (LfA outer gap room (w.heap.size + 1) w0) (fun _ i _ => outer.length - (intOf i).toNat)
  case atStart => exact ⟨0, by omega, rfl, by simp [lfTo], Below.refl _ _⟩
  case round =>
    obtain ⟨k, hk, rfl, rfl, hbr⟩ := hrel
    have d0 := (hbr.cell (p := ⟨w.heap.size, 0, none⟩) (by simp)).trans hc0
    obtain ⟨n1, n2⟩ := lfTo_bd HO.out g0 g1 r0 r1 k
    by_cases hlt : k < outer.length
    · obtain ⟨ad, rfl, hbb, hcell⟩ := (hr1.below (hbr.mono (by omega))).val hlt
      obtain ⟨x3, x4⟩ := (fit_iff _).1 (List.all_eq_true.1 HO.out _ (List.getElem_mem hlt))
      have HT := lfTo_succ outer gap room hlt
      generalize outer[k] = x at *
      generalize lfTo outer gap room k = y at *
      rcases Nat.eq_zero_or_pos k with h0 | h0
      · rw [if_neg (by omega)] at HT
        have HT' := Lib.hid HT; clear HT
        have hz0 : ¬ (0 : Int) < (k : Int) := by omega
        have hcell0 : wr.cell? ad = some (.int .i64 x) := by have := hcell; rw [h0] at this; exact this
        go_wp2_with fail
        go_roundw
        case rel => exact ⟨k + 1, hlt, by go_num, by rw [HT'.out], hbr⟩
        case measure => simp [intOf] <;> omega
      · rw [if_pos h0] at HT
        have HT' := Lib.hid HT; clear HT
        go_wp2_with fail
        go_roundw
        case rel => exact ⟨k + 1, hlt, by go_num, by rw [HT'.out], hbr⟩
        case measure => simp [intOf] <;> omega
    · obtain rfl : k = outer.length := by omega
      go_wp2_with fail
      go_ret
      exact ⟨rfl, hb0.trans (hbr.mono (by omega))⟩

end Go.Proofs.Ytpelapdadgmlkaa
