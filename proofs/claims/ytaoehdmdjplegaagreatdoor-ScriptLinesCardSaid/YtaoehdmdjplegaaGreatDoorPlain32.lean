/-
  Walks: script.plain: what it answers (written by gen_plain32.py).
-/
import Derived.Test.YtaoehdmdjplegaaGreatDoorQuotedP
namespace Go.Proofs.YtaoehdmdjplegaaGreatDoor
open Go.RowKit Go.Shelf

theorem str_eq' {a b : List UInt8} (h : a = b) : ((mkB a).toList == b) = true := by
  rw [Lib.toList_data, mkB_toList, h]; simp
theorem str_ne' {a b : List UInt8} (h : a ≠ b) : ((mkB a).toList == b) = false := by
  rw [Lib.toList_data, mkB_toList, beq_eq_false_iff_ne]; exact h
/-- The kinds that a word tells, and how many numbers. -/
def rowOf (x : List UInt8) : Nat × Nat × Nat := match plainT.find? (·.1 = x) with
  | none => (0, 0, 0)
  | some t => t.2

set_option maxRecDepth 100000 in
set_option maxHeartbeats 4000000 in
theorem plain_any (x : List UInt8) (w : World) :
    Calls Tryz.prog 24 #[.string (mkB x)] w fun e w' => e = .returned (.tuple #[.int .u8 (rowOf x).1, .int .u8 (rowOf x).2.1, .int .i64 (rowOf x).2.2]) ∧ w' = w := by
  by_cases h0 : x = [114, 101, 109, 111, 118, 101]
  · subst h0
    go_enter Tryz.func24, Tryz.ntmps24
    have m0 : ((mkB [114, 101, 109, 111, 118, 101]).toList == ([114, 101, 109, 111, 118, 101] : List UInt8)) = true := str_eq' rfl
    go_wp2_with fail
    go_ret3
    exact ⟨rfl, rfl⟩
  have n0 : ((mkB x).toList == ([114, 101, 109, 111, 118, 101] : List UInt8)) = false := str_ne' (b := [114, 101, 109, 111, 118, 101]) h0
  by_cases h1 : x = [109, 111, 118, 101]
  · subst h1
    go_enter Tryz.func24, Tryz.ntmps24
    have m0 : ((mkB [109, 111, 118, 101]).toList == ([114, 101, 109, 111, 118, 101] : List UInt8)) = false := str_ne' (b := [114, 101, 109, 111, 118, 101]) (by decide)
    have m1 : ((mkB [109, 111, 118, 101]).toList == ([109, 111, 118, 101] : List UInt8)) = true := str_eq' rfl
    clear n0
    go_wp2_with fail
    go_ret3
    exact ⟨rfl, rfl⟩
  have n1 : ((mkB x).toList == ([109, 111, 118, 101] : List UInt8)) = false := str_ne' (b := [109, 111, 118, 101]) h1
  by_cases h2 : x = [115, 117, 98, 115, 99, 114, 105, 98, 101]
  · subst h2
    go_enter Tryz.func24, Tryz.ntmps24
    have m0 : ((mkB [115, 117, 98, 115, 99, 114, 105, 98, 101]).toList == ([114, 101, 109, 111, 118, 101] : List UInt8)) = false := str_ne' (b := [114, 101, 109, 111, 118, 101]) (by decide)
    have m1 : ((mkB [115, 117, 98, 115, 99, 114, 105, 98, 101]).toList == ([109, 111, 118, 101] : List UInt8)) = false := str_ne' (b := [109, 111, 118, 101]) (by decide)
    have m2 : ((mkB [115, 117, 98, 115, 99, 114, 105, 98, 101]).toList == ([115, 117, 98, 115, 99, 114, 105, 98, 101] : List UInt8)) = true := str_eq' rfl
    clear n0 n1
    go_wp2_with fail
    go_ret3
    exact ⟨rfl, rfl⟩
  have n2 : ((mkB x).toList == ([115, 117, 98, 115, 99, 114, 105, 98, 101] : List UInt8)) = false := str_ne' (b := [115, 117, 98, 115, 99, 114, 105, 98, 101]) h2
  by_cases h3 : x = [108, 101, 97, 118, 101]
  · subst h3
    go_enter Tryz.func24, Tryz.ntmps24
    have m0 : ((mkB [108, 101, 97, 118, 101]).toList == ([114, 101, 109, 111, 118, 101] : List UInt8)) = false := str_ne' (b := [114, 101, 109, 111, 118, 101]) (by decide)
    have m1 : ((mkB [108, 101, 97, 118, 101]).toList == ([109, 111, 118, 101] : List UInt8)) = false := str_ne' (b := [109, 111, 118, 101]) (by decide)
    have m2 : ((mkB [108, 101, 97, 118, 101]).toList == ([115, 117, 98, 115, 99, 114, 105, 98, 101] : List UInt8)) = false := str_ne' (b := [115, 117, 98, 115, 99, 114, 105, 98, 101]) (by decide)
    have m3 : ((mkB [108, 101, 97, 118, 101]).toList == ([108, 101, 97, 118, 101] : List UInt8)) = true := str_eq' rfl
    clear n0 n1 n2
    go_wp2_with fail
    go_ret3
    exact ⟨rfl, rfl⟩
  have n3 : ((mkB x).toList == ([108, 101, 97, 118, 101] : List UInt8)) = false := str_ne' (b := [108, 101, 97, 118, 101]) h3
  by_cases h4 : x = [116, 105, 99, 107]
  · subst h4
    go_enter Tryz.func24, Tryz.ntmps24
    have m0 : ((mkB [116, 105, 99, 107]).toList == ([114, 101, 109, 111, 118, 101] : List UInt8)) = false := str_ne' (b := [114, 101, 109, 111, 118, 101]) (by decide)
    have m1 : ((mkB [116, 105, 99, 107]).toList == ([109, 111, 118, 101] : List UInt8)) = false := str_ne' (b := [109, 111, 118, 101]) (by decide)
    have m2 : ((mkB [116, 105, 99, 107]).toList == ([115, 117, 98, 115, 99, 114, 105, 98, 101] : List UInt8)) = false := str_ne' (b := [115, 117, 98, 115, 99, 114, 105, 98, 101]) (by decide)
    have m3 : ((mkB [116, 105, 99, 107]).toList == ([108, 101, 97, 118, 101] : List UInt8)) = false := str_ne' (b := [108, 101, 97, 118, 101]) (by decide)
    have m4 : ((mkB [116, 105, 99, 107]).toList == ([116, 105, 99, 107] : List UInt8)) = true := str_eq' rfl
    clear n0 n1 n2 n3
    go_wp2_with fail
    go_ret3
    exact ⟨rfl, rfl⟩
  have n4 : ((mkB x).toList == ([116, 105, 99, 107] : List UInt8)) = false := str_ne' (b := [116, 105, 99, 107]) h4
  by_cases h5 : x = [100, 101, 108, 105, 118, 101, 114]
  · subst h5
    go_enter Tryz.func24, Tryz.ntmps24
    have m0 : ((mkB [100, 101, 108, 105, 118, 101, 114]).toList == ([114, 101, 109, 111, 118, 101] : List UInt8)) = false := str_ne' (b := [114, 101, 109, 111, 118, 101]) (by decide)
    have m1 : ((mkB [100, 101, 108, 105, 118, 101, 114]).toList == ([109, 111, 118, 101] : List UInt8)) = false := str_ne' (b := [109, 111, 118, 101]) (by decide)
    have m2 : ((mkB [100, 101, 108, 105, 118, 101, 114]).toList == ([115, 117, 98, 115, 99, 114, 105, 98, 101] : List UInt8)) = false := str_ne' (b := [115, 117, 98, 115, 99, 114, 105, 98, 101]) (by decide)
    have m3 : ((mkB [100, 101, 108, 105, 118, 101, 114]).toList == ([108, 101, 97, 118, 101] : List UInt8)) = false := str_ne' (b := [108, 101, 97, 118, 101]) (by decide)
    have m4 : ((mkB [100, 101, 108, 105, 118, 101, 114]).toList == ([116, 105, 99, 107] : List UInt8)) = false := str_ne' (b := [116, 105, 99, 107]) (by decide)
    have m5 : ((mkB [100, 101, 108, 105, 118, 101, 114]).toList == ([100, 101, 108, 105, 118, 101, 114] : List UInt8)) = true := str_eq' rfl
    clear n0 n1 n2 n3 n4
    go_wp2_with fail
    go_ret3
    exact ⟨rfl, rfl⟩
  have n5 : ((mkB x).toList == ([100, 101, 108, 105, 118, 101, 114] : List UInt8)) = false := str_ne' (b := [100, 101, 108, 105, 118, 101, 114]) h5
  by_cases h6 : x = [100, 114, 111, 112]
  · subst h6
    go_enter Tryz.func24, Tryz.ntmps24
    have m0 : ((mkB [100, 114, 111, 112]).toList == ([114, 101, 109, 111, 118, 101] : List UInt8)) = false := str_ne' (b := [114, 101, 109, 111, 118, 101]) (by decide)
    have m1 : ((mkB [100, 114, 111, 112]).toList == ([109, 111, 118, 101] : List UInt8)) = false := str_ne' (b := [109, 111, 118, 101]) (by decide)
    have m2 : ((mkB [100, 114, 111, 112]).toList == ([115, 117, 98, 115, 99, 114, 105, 98, 101] : List UInt8)) = false := str_ne' (b := [115, 117, 98, 115, 99, 114, 105, 98, 101]) (by decide)
    have m3 : ((mkB [100, 114, 111, 112]).toList == ([108, 101, 97, 118, 101] : List UInt8)) = false := str_ne' (b := [108, 101, 97, 118, 101]) (by decide)
    have m4 : ((mkB [100, 114, 111, 112]).toList == ([116, 105, 99, 107] : List UInt8)) = false := str_ne' (b := [116, 105, 99, 107]) (by decide)
    have m5 : ((mkB [100, 114, 111, 112]).toList == ([100, 101, 108, 105, 118, 101, 114] : List UInt8)) = false := str_ne' (b := [100, 101, 108, 105, 118, 101, 114]) (by decide)
    have m6 : ((mkB [100, 114, 111, 112]).toList == ([100, 114, 111, 112] : List UInt8)) = true := str_eq' rfl
    clear n0 n1 n2 n3 n4 n5
    go_wp2_with fail
    go_ret3
    exact ⟨rfl, rfl⟩
  have n6 : ((mkB x).toList == ([100, 114, 111, 112] : List UInt8)) = false := str_ne' (b := [100, 114, 111, 112]) h6
  by_cases h7 : x = [99, 111, 112, 121]
  · subst h7
    go_enter Tryz.func24, Tryz.ntmps24
    have m0 : ((mkB [99, 111, 112, 121]).toList == ([114, 101, 109, 111, 118, 101] : List UInt8)) = false := str_ne' (b := [114, 101, 109, 111, 118, 101]) (by decide)
    have m1 : ((mkB [99, 111, 112, 121]).toList == ([109, 111, 118, 101] : List UInt8)) = false := str_ne' (b := [109, 111, 118, 101]) (by decide)
    have m2 : ((mkB [99, 111, 112, 121]).toList == ([115, 117, 98, 115, 99, 114, 105, 98, 101] : List UInt8)) = false := str_ne' (b := [115, 117, 98, 115, 99, 114, 105, 98, 101]) (by decide)
    have m3 : ((mkB [99, 111, 112, 121]).toList == ([108, 101, 97, 118, 101] : List UInt8)) = false := str_ne' (b := [108, 101, 97, 118, 101]) (by decide)
    have m4 : ((mkB [99, 111, 112, 121]).toList == ([116, 105, 99, 107] : List UInt8)) = false := str_ne' (b := [116, 105, 99, 107]) (by decide)
    have m5 : ((mkB [99, 111, 112, 121]).toList == ([100, 101, 108, 105, 118, 101, 114] : List UInt8)) = false := str_ne' (b := [100, 101, 108, 105, 118, 101, 114]) (by decide)
    have m6 : ((mkB [99, 111, 112, 121]).toList == ([100, 114, 111, 112] : List UInt8)) = false := str_ne' (b := [100, 114, 111, 112]) (by decide)
    have m7 : ((mkB [99, 111, 112, 121]).toList == ([99, 111, 112, 121] : List UInt8)) = true := str_eq' rfl
    clear n0 n1 n2 n3 n4 n5 n6
    go_wp2_with fail
    go_ret3
    exact ⟨rfl, rfl⟩
  have n7 : ((mkB x).toList == ([99, 111, 112, 121] : List UInt8)) = false := str_ne' (b := [99, 111, 112, 121]) h7
  by_cases h8 : x = [99, 111, 114, 114, 117, 112, 116]
  · subst h8
    go_enter Tryz.func24, Tryz.ntmps24
    have m0 : ((mkB [99, 111, 114, 114, 117, 112, 116]).toList == ([114, 101, 109, 111, 118, 101] : List UInt8)) = false := str_ne' (b := [114, 101, 109, 111, 118, 101]) (by decide)
    have m1 : ((mkB [99, 111, 114, 114, 117, 112, 116]).toList == ([109, 111, 118, 101] : List UInt8)) = false := str_ne' (b := [109, 111, 118, 101]) (by decide)
    have m2 : ((mkB [99, 111, 114, 114, 117, 112, 116]).toList == ([115, 117, 98, 115, 99, 114, 105, 98, 101] : List UInt8)) = false := str_ne' (b := [115, 117, 98, 115, 99, 114, 105, 98, 101]) (by decide)
    have m3 : ((mkB [99, 111, 114, 114, 117, 112, 116]).toList == ([108, 101, 97, 118, 101] : List UInt8)) = false := str_ne' (b := [108, 101, 97, 118, 101]) (by decide)
    have m4 : ((mkB [99, 111, 114, 114, 117, 112, 116]).toList == ([116, 105, 99, 107] : List UInt8)) = false := str_ne' (b := [116, 105, 99, 107]) (by decide)
    have m5 : ((mkB [99, 111, 114, 114, 117, 112, 116]).toList == ([100, 101, 108, 105, 118, 101, 114] : List UInt8)) = false := str_ne' (b := [100, 101, 108, 105, 118, 101, 114]) (by decide)
    have m6 : ((mkB [99, 111, 114, 114, 117, 112, 116]).toList == ([100, 114, 111, 112] : List UInt8)) = false := str_ne' (b := [100, 114, 111, 112]) (by decide)
    have m7 : ((mkB [99, 111, 114, 114, 117, 112, 116]).toList == ([99, 111, 112, 121] : List UInt8)) = false := str_ne' (b := [99, 111, 112, 121]) (by decide)
    have m8 : ((mkB [99, 111, 114, 114, 117, 112, 116]).toList == ([99, 111, 114, 114, 117, 112, 116] : List UInt8)) = true := str_eq' rfl
    clear n0 n1 n2 n3 n4 n5 n6 n7
    go_wp2_with fail
    go_ret3
    exact ⟨rfl, rfl⟩
  have n8 : ((mkB x).toList == ([99, 111, 114, 114, 117, 112, 116] : List UInt8)) = false := str_ne' (b := [99, 111, 114, 114, 117, 112, 116]) h8
  have HR := Lib.hid (show rowOf x = (0, 0, 0) by
    have hf : plainT.find? (·.1 = x) = none := by
      simp [plainT, Ne.symm h0, Ne.symm h1, Ne.symm h2, Ne.symm h3, Ne.symm h4, Ne.symm h5, Ne.symm h6, Ne.symm h7, Ne.symm h8]
    unfold rowOf
    rw [hf])
  go_enter Tryz.func24, Tryz.ntmps24
  go_wp2_with fail
  go_ret3
  exact ⟨by rw [HR.out]; rfl, rfl⟩

end Go.Proofs.YtaoehdmdjplegaaGreatDoor
