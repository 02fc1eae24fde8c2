/-
  Walks: windowpaneref32.length: what it answers.
-/
import Derived.Deep.QuietTactic
import Derived.BigQuiet
import Derived.Test.YtaoehdmdjplegaaGreatDoorPicked
namespace Go.Proofs.YtaoehdmdjplegaaGreatDoor
open Go.RowKit Go.Shelf

/-- A length's text; none: it has none. -/
def lenT (name : List UInt8) (x : Nat × Int) : Option (List UInt8) := (lenW name x).map fun l => l.flatMap (32 :: ·)
def LenPost (name : List UInt8) (x : Nat × Int) (w : World) (e : Ending) (w' : World) : Prop :=
  ∃ s : List UInt8, e = .returned (.tuple #[.string (mkB s), .bool (lenT name x).isSome]) ∧ (∀ t, lenT name x = some t → s = t) ∧ s.length ≤ 200 ∧ Below w.heap.size w w'

theorem digits_same {n : Int} (h : I64 n) (w : World) : Calls Tryz.prog 42 #[.int .i64 n] w fun e w' => e = .returned (.string (mkB (Lib.itoa n))) ∧ w' = w := (digits_any h w).mono fun _ _ ⟨a, b⟩ => ⟨a, b.symm⟩
theorem below_box (w : World) (o : Obj) (n : Nat) : Below w.heap.size w ((w.alloc o).drewN n) := below_drewN ((Below.refl _ _).alloc (Nat.le_refl _) _) n

set_option maxRecDepth 100000 in
set_option maxHeartbeats 4000000 in
theorem rlength_any (name : List UInt8) (hl : name.length ≤ 100) (k : Nat) (hk : k < 256) (n : Int) (hn : I64 n) (w : World) :
    Calls Tryz.prog 79 #[.string (mkB name), .agg #[.int .u8 k, .int .i64 n]] w (LenPost name (k, n) w) := by
  have z1 : (mkB name).size ≤ 100 := by rw [mkB_size]; exact hl
  have hd := Lib.hid (digits_same hn)
  have z2 := itoa_size hn
  have z3 : (Lib.itoa n).length ≤ 21 := by rw [mkB_size] at z2; exact z2
  by_cases k0 : k = 0
  · subst k0
    by_cases n0 : n = 0
    · subst n0
      go_enter Tryz.func79, Tryz.ntmps79
      go_wp2_with fail
      go_region
      go_wp2_with fail
      go_ret2
      refine ⟨[], rfl, ?_, by simp, below_box w _ 1⟩
      intro t ht
      unfold lenT lenW at ht
      rw [if_pos rfl] at ht
      injection ht
    · have en : (n == 0) = false := by simpa using n0
      have HP := Lib.hid (show lenT name (0, n) = none by
        unfold lenT lenW
        rw [if_neg (by intro h; injection h with _ h; exact n0 h), if_neg (by simp), if_neg (by simp)]; rfl)
      go_enter Tryz.func79, Tryz.ntmps79
      go_wp2_with fail
      go_region
      go_wp2_with fail
      go_ret2
      exact ⟨[], by rw [HP.out]; rfl, fun t ht => by (rw [HP.out] at ht; cases ht), by simp, below_box w _ 1⟩
  · have e0 : (((k : Nat) : Int) == 0) = false := by rw [beq_eq_false_iff_ne]; omega
    by_cases k1 : k = 1
    · subst k1
      have HP := Lib.hid (show lenT name (1, n) = some (32 :: (name ++ 61 :: Lib.itoa n)) by
        unfold lenT lenW
        rw [if_neg (by intro h; injection h with h _; cases h), if_neg (by simp), if_pos rfl]; simp)
      go_enter Tryz.func79, Tryz.ntmps79
      go_wp2_with fail
      refine (hd.out _).mono ?_
      rintro e w' ⟨rfl, rfl⟩
      go_wp2_with fail
      go_ret2
      refine ⟨32 :: (name ++ 61 :: Lib.itoa n), ?_, fun t ht => by (rw [HP.out] at ht; injection ht), by simp; omega, below_box w _ 0⟩
      rw [HP.out, show (32 :: (name ++ 61 :: Lib.itoa n)) = [32] ++ name ++ [61] ++ Lib.itoa n by simp, ← mkB_append, ← mkB_append, ← mkB_append]; rfl
    · have e1 : (((k : Nat) : Int) == 1) = false := by rw [beq_eq_false_iff_ne]; omega
      have h00 : ¬ ((k, n) : Nat × Int) = (0, 0) := by intro h; injection h with h _; exact k0 h
      by_cases k2 : k = 2
      · subst k2
        have HP := Lib.hid (show lenT name (2, n) = some (32 :: (name ++ 61 :: (Lib.itoa n ++ [112]))) by
          unfold lenT lenW
          rw [if_neg h00, if_pos rfl]; simp)
        go_enter Tryz.func79, Tryz.ntmps79
        go_wp2_with fail
        go_quiet ((go_at_call 42; exact Calls.quiet_of_same (hd.out _)))
        go_wp2_with fail
        go_ret2
        refine ⟨32 :: (name ++ 61 :: (Lib.itoa n ++ [112])), ?_, fun t ht => by (rw [HP.out] at ht; injection ht), by simp; omega, below_box w _ _⟩
        rw [HP.out, show (32 :: (name ++ 61 :: (Lib.itoa n ++ [112]))) = [32] ++ name ++ [61] ++ Lib.itoa n ++ [112] by simp, ← mkB_append, ← mkB_append, ← mkB_append, ← mkB_append]; rfl
      · have e2 : (((k : Nat) : Int) == 2) = false := by rw [beq_eq_false_iff_ne]; omega
        have HP := Lib.hid (show lenT name (k, n) = none by
          unfold lenT lenW
          rw [if_neg h00, if_neg k2, if_neg k1]; rfl)
        go_enter Tryz.func79, Tryz.ntmps79
        go_wp2_with fail
        go_quiet ((go_at_call 42; exact Calls.quiet_of_same (hd.out _)))
        go_wp2_with fail
        go_ret2
        refine ⟨32 :: (name ++ 61 :: (Lib.itoa n ++ [112])), ?_, fun t ht => by (rw [HP.out] at ht; cases ht), by simp; omega, below_box w _ _⟩
        rw [HP.out, show (32 :: (name ++ 61 :: (Lib.itoa n ++ [112]))) = [32] ++ name ++ [61] ++ Lib.itoa n ++ [112] by simp, ← mkB_append, ← mkB_append, ← mkB_append, ← mkB_append]; rfl

end Go.Proofs.YtaoehdmdjplegaaGreatDoor
