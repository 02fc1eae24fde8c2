/-
  Walks: breaks.blank, windowpaneref09.blank, windowpanelaw09.word: what they answer.
-/
import Derived.Test.YtlfmeagdelmlpaaDoorPieces
namespace Go.Proofs.YtlfmeagdelmlpaaDoor
open Go.RowKit

theorem eq32 (c : UInt8) (n : Nat) (hn : n < 256) : (((c.toNat : Nat) : Int) == (n : Int)) = (c == UInt8.ofNat n) := by
  rw [Bool.eq_iff_iff, beq_iff_eq, beq_iff_eq]
  constructor
  · intro h
    have : c.toNat = n := by omega
    rw [← this]
    simp
  · intro h
    subst h
    simp [UInt8.toNat_ofNat']
    omega
theorem isB_int (c : UInt8) : isB c = ((((c.toNat : Nat) : Int) == 32) || (((c.toNat : Nat) : Int) == 10)) := by
  rw [show (32 : Int) = ((32 : Nat) : Int) from rfl, show (10 : Int) = ((10 : Nat) : Int) from rfl, eq32 c 32 (by decide), eq32 c 10 (by decide)]
  rfl

theorem blank_any (c : UInt8) (w : World) : Calls Tryd.prog 24 #[.int .u8 (c.toNat : Nat)] w fun e w' => e = .returned (.bool (isB c)) ∧ w = w' := by
  have hb := isB_int c
  cases h1 : (((c.toNat : Nat) : Int) == 32) with
  | true =>
    rw [h1, Bool.true_or] at hb
    rw [hb]
    clear hb
    go_enter Tryd.func24, Tryd.ntmps24
    go_wp2
    go_ret
    exact ⟨rfl, rfl⟩
  | false =>
    rw [h1, Bool.false_or] at hb
    rw [hb]
    clear hb
    go_enter Tryd.func24, Tryd.ntmps24
    go_wp2
    go_ret
    exact ⟨rfl, rfl⟩
theorem rblank_any (c : UInt8) (w : World) : Calls Tryd.prog 15 #[.int .u8 (c.toNat : Nat)] w fun e w' => e = .returned (.bool (isB c)) ∧ w = w' := by
  have hb := isB_int c
  cases h1 : (((c.toNat : Nat) : Int) == 32) with
  | true =>
    rw [h1, Bool.true_or] at hb
    rw [hb]
    clear hb
    go_enter Tryd.func15, Tryd.ntmps15
    go_wp2
    go_ret
    exact ⟨rfl, rfl⟩
  | false =>
    rw [h1, Bool.false_or] at hb
    rw [hb]
    clear hb
    go_enter Tryd.func15, Tryd.ntmps15
    go_wp2
    go_ret
    exact ⟨rfl, rfl⟩

end Go.Proofs.YtlfmeagdelmlpaaDoor
