/-
  Walks: windowpanelaw17.near.
-/
import Derived.Test.YtpelapdadgmlkaaFlexMain2
namespace Go.Proofs.Ytpelapdadgmlkaa
open Go.RowKit

def isNear (n : Int) : Bool := decide (0 ≤ n ∧ n ≤ 268435456)
theorem isNear_iff (n : Int) : isNear n = true ↔ 0 ≤ n ∧ n ≤ 268435456 := by simp [isNear]
def nearHead (outer : List Int) (gap room : Int) (j : Nat) : Prop := outer.length ≤ 200 ∧ 0 ≤ gap ∧ gap ≤ 268435456 ∧ 0 ≤ room ∧ room ≤ 274877906944 ∧ j ≤ 4
def NrA (outer : List Int) (w0 : World) (i : Value) (wr : World) : Prop :=
  ∃ k : Nat, k ≤ outer.length ∧ i = .int .i64 k ∧ (outer.take k).all isNear = true ∧ wr = w0

set_option maxRecDepth 100000 in
set_option maxHeartbeats 4000000 in
theorem near17_main (outer : List Int) (gap room : Int) (j : Nat) (back : Bool) (v : Value) (B : Nat) (w : World) (h : Ints w B v outer) (hB : B ≤ w.heap.size) (hd : nearHead outer gap room j) :
    Calls Try.prog 85 #[v, .agg #[.int .i64 gap, .int .i64 room, .int .u8 j, .bool back]] w fun e w' => e = .returned (.bool (outer.all isNear)) ∧ Below w.heap.size w w' := by
  obtain ⟨A, c, rfl, _, hr⟩ := h
  obtain ⟨q1, q2, q3, q4, q5, q6⟩ := hd
  go_enter Try.func85, Try.ntmps85
  go_wp2_with fail
  have hb0 : Below w.heap.size w (w.alloc (.cells #[.int .i64 gap, .int .i64 room, .int .u8 j, .bool back] 82)) := (Below.refl _ _).alloc (Nat.le_refl _) _
  have hr1 := hr.below (hb0.mono hB)
  generalize w.alloc (.cells #[.int .i64 gap, .int .i64 room, .int .u8 j, .bool back] 82) = w0 at *
  go_loopw [5] (NrA outer w0) (fun i _ => outer.length - (intOf i).toNat)
  case atStart => exact ⟨0, by omega, rfl, rfl, rfl⟩
  case round =>
    obtain ⟨k, hk, rfl, hall, rfl⟩ := hrel
    have HA := Lib.hid hall; clear hall
    by_cases hlt : k < outer.length
    · obtain ⟨ad, rfl, hbb, hcell⟩ := hr1.val hlt
      by_cases hx : isNear outer[k] = true
      · have HT := Lib.hid (show (outer.take (k + 1)).all isNear = true by rw [List.take_succ_eq_append_getElem hlt, List.all_append, HA.out]; simp [hx])
        obtain ⟨x1, x2⟩ := (isNear_iff _).1 hx
        clear hx
        generalize outer[k] = x at *
        go_wp2_with fail
        go_roundw
        case rel => exact ⟨k + 1, hlt, by go_num, HT.out, rfl⟩
        case measure => simp [intOf]; omega
      · have hn : outer.all isNear = false := by
          cases e : outer.all isNear with
          | false => rfl
          | true => exact absurd (List.all_eq_true.1 e _ (List.getElem_mem hlt)) hx
        have hx2 : outer[k] < 0 ∨ (¬ outer[k] < 0 ∧ 268435456 < outer[k]) := by
          rw [isNear_iff] at hx; omega
        have HN := Lib.hid hn
        clear hx hn
        generalize outer[k] = x at *
        rcases hx2 with x1 | ⟨x1, x2⟩
        all_goals
          go_wp2_with fail
          go_ret
          exact ⟨by rw [HN.out]; rfl, hb0⟩
    · obtain rfl : k = outer.length := by omega
      have h1 := HA.out
      rw [List.take_of_length_le (Nat.le_refl _)] at h1
      have HN := Lib.hid h1
      clear h1 HA
      go_wp2_with fail
      go_ret
      exact ⟨by rw [HN.out]; rfl, hb0⟩

set_option maxRecDepth 100000 in
set_option maxHeartbeats 4000000 in
theorem near17_bad (outer : List Int) (gap room : Int) (j : Nat) (hj : j < 256) (back : Bool) (v : Value) (B : Nat) (w : World) (h : Ints w B v outer) (hm : outer.length ≤ 17592186044416) (hd : ¬ nearHead outer gap room j) :
    Calls Try.prog 85 #[v, .agg #[.int .i64 gap, .int .i64 room, .int .u8 j, .bool back]] w fun e w' => e = .returned (.bool false) ∧ Below w.heap.size w w' := by
  obtain ⟨A, c, rfl, _, _⟩ := h
  have h3 : 200 < outer.length ∨ (¬ 200 < outer.length ∧ gap < 0) ∨ (¬ 200 < outer.length ∧ ¬ gap < 0 ∧ 268435456 < gap) ∨ (¬ 200 < outer.length ∧ ¬ gap < 0 ∧ ¬ 268435456 < gap ∧ room < 0) ∨ (¬ 200 < outer.length ∧ ¬ gap < 0 ∧ ¬ 268435456 < gap ∧ ¬ room < 0 ∧ 274877906944 < room) ∨ (¬ 200 < outer.length ∧ ¬ gap < 0 ∧ ¬ 268435456 < gap ∧ ¬ room < 0 ∧ ¬ 274877906944 < room ∧ 4 < j) := by
    unfold nearHead at hd; omega
  clear hd
  have hb0 : Below w.heap.size w (w.alloc (.cells #[.int .i64 gap, .int .i64 room, .int .u8 j, .bool back] 82)) := (Below.refl _ _).alloc (Nat.le_refl _) _
  rcases h3 with g1 | ⟨g1, g2⟩ | ⟨g1, g2, g3⟩ | ⟨g1, g2, g3, g4⟩ | ⟨g1, g2, g3, g4, g5⟩ | ⟨g1, g2, g3, g4, g5, g6⟩
  all_goals
    go_enter Try.func85, Try.ntmps85
    go_wp2_with fail
    go_ret
    exact ⟨rfl, hb0⟩

end Go.Proofs.Ytpelapdadgmlkaa
