/-
  Walks: windowpaneref32.digits, hexed, hex, number: what they answer.
-/
import Derived.Lib.ItoaLen
import Derived.Test.YtaoehdmdjplegaaGreatDoorStrB
namespace Go.Proofs.YtaoehdmdjplegaaGreatDoor
open Go.RowKit Go.Shelf

theorem itoa_size {n : Int} (h : I64 n) : (mkB (Lib.itoa n)).size ≤ 21 := by
  rw [mkB_size]
  have := h.1
  have := h.2
  exact Lib.itoa_length_le n (by omega) (by omega)
theorem itoa_pos {k : Nat} (h : 10 ≤ k) : Lib.itoa (k : Int) = Lib.itoa ((k / 10 : Nat) : Int) ++ Lib.itoa ((k % 10 : Nat) : Int) := by
  unfold Lib.itoa
  rw [if_neg (by omega), if_neg (by omega), if_neg (by omega)]
  simp only [Int.toNat_natCast]
  rw [decDigits_step (by omega), Lib.decDigits_one (by omega : k % 10 < 10)]
theorem itoa_min {k : Nat} (h : 10 ≤ k) : Lib.itoa (-(k : Int)) = Lib.itoa (-((k / 10 : Nat) : Int)) ++ Lib.itoa ((k % 10 : Nat) : Int) := by
  unfold Lib.itoa
  rw [if_pos (by omega), if_pos (by omega), if_neg (by omega)]
  simp only [Int.toNat_natCast, Int.natAbs_neg, Int.natAbs_natCast, List.cons_append]
  rw [decDigits_step (by omega : ¬ k < 10), Lib.decDigits_one (by omega : k % 10 < 10)]
theorem digit_at {k : Nat} (h : k < 10) : (⟨#[48, 49, 50, 51, 52, 53, 54, 55, 56, 57]⟩ : ByteArray).extract k (k + 1) = mkB (Lib.decDigits k) := by
  have key : ∀ k : Fin 10, (⟨#[48, 49, 50, 51, 52, 53, 54, 55, 56, 57]⟩ : ByteArray).extract k.val (k.val + 1) = mkB [UInt8.ofNat (48 + k.val)] := by decide
  rw [Lib.decDigits_one h]
  exact key ⟨k, h⟩


theorem digits_small {k : Nat} (hk : k < 10) (w : World) : Calls Tryz.prog 42 #[.int .i64 k] w fun e w' => e = .returned (.string (mkB (Lib.itoa k))) ∧ w = w' := by
  have e := Lib.hid (digit_at hk)
  have hi : Lib.itoa (k : Int) = Lib.decDigits k := by unfold Lib.itoa; rw [if_neg (by omega)]; simp
  rw [hi]
  clear hi
  have hw : IntKind.i64.wrap ((k : Int) + 1) = ((k + 1 : Nat) : Int) := by rw [IntKind.wrap_i64]; omega
  have hz : (⟨#[48, 49, 50, 51, 52, 53, 54, 55, 56, 57]⟩ : ByteArray).size = 10 := rfl
  go_enter Tryz.func42, Tryz.ntmps42
  go_wp2
  go_ret
  exact ⟨by rw [← e.out]; rfl, rfl⟩
set_option maxRecDepth 100000 in
theorem digits_neg {k : Nat} (hk : k < 10) (h0 : 0 < k) (w : World) : Calls Tryz.prog 42 #[.int .i64 (-(k : Int))] w fun e w' => e = .returned (.string (mkB (Lib.itoa (-(k : Int))))) ∧ w = w' := by
  have hi : Lib.itoa (-(k : Int)) = [45] ++ Lib.itoa (k : Int) := by
    unfold Lib.itoa
    rw [if_pos (by omega), if_neg (by omega)]
    simp
  have HI := Lib.hid hi
  clear hi
  have hm : (k : Int) % 10 = (k : Int) := by omega
  have hd : decide ((k : Int) < 10) = true := by simp; omega
  go_enter Tryz.func42, Tryz.ntmps42
  go_wp2_with fail
  refine (digits_small hk _).mono ?_
  rintro e w' ⟨rfl, rfl⟩
  have z1 := itoa_size (n := (k : Int)) ⟨by omega, by omega⟩
  go_wp2_with fail
  go_ret
  exact ⟨by rw [HI.out, ← mkB_append]; rfl, rfl⟩

set_option maxRecDepth 100000 in
theorem digits_pos : ∀ (m k : Nat), k ≤ m → k < 9223372036854775808 → ∀ w : World, Calls Tryz.prog 42 #[.int .i64 k] w fun e w' => e = .returned (.string (mkB (Lib.itoa k))) ∧ w = w' := by
  intro m
  induction m with
  | zero => exact fun k hk _ w => digits_small (by omega) w
  | succ m ih =>
    intro k hk hb w
    by_cases h10 : k < 10
    · exact digits_small h10 w
    · have HI := Lib.hid (itoa_pos (k := k) (by omega))
      have hd : (((k : Int)) < 10) = False := by simp; omega
      have hd2 : (((k : Int)) < 0) = False := by simp
      have hq : (k : Int) / 10 = ((k / 10 : Nat) : Int) := by omega
      have hr : (k : Int) % 10 = ((k % 10 : Nat) : Int) := by omega
      have z1 := itoa_size (n := ((k / 10 : Nat) : Int)) ⟨by omega, by omega⟩
      have z2 := itoa_size (n := ((k % 10 : Nat) : Int)) ⟨by omega, by omega⟩
      have c1 := Lib.hid (ih (k / 10) (by omega) (by omega))
      have c2 := Lib.hid (fun w => digits_small (k := k % 10) (by omega) w)
      have b1 : k / 10 < 9223372036854775808 := by omega
      have b2 : k % 10 < 10 := by omega
      clear ih
      generalize k / 10 = q at *
      generalize k % 10 = r at *
      go_enter Tryz.func42, Tryz.ntmps42
      go_wp2_with fail
      refine (c1.out _).mono ?_
      rintro e w' ⟨rfl, rfl⟩
      go_wp2_with fail
      refine (c2.out _).mono ?_
      rintro e w' ⟨rfl, rfl⟩
      go_wp2_with fail
      go_ret
      exact ⟨by rw [HI.out, ← mkB_append]; rfl, rfl⟩
set_option maxRecDepth 100000 in
theorem digits_min : ∀ (m k : Nat), k ≤ m → 0 < k → k ≤ 9223372036854775808 → ∀ w : World, Calls Tryz.prog 42 #[.int .i64 (-(k : Int))] w fun e w' => e = .returned (.string (mkB (Lib.itoa (-(k : Int))))) ∧ w = w' := by
  intro m
  induction m with
  | zero => exact fun k hk h0 _ w => absurd h0 (by omega)
  | succ m ih =>
    intro k hk h0 hb w
    by_cases h10 : k < 10
    · exact digits_neg h10 h0 w
    · have HI := Lib.hid (itoa_min (k := k) (by omega))
      have hd : ((k : Int) < 10) = False := by simp; omega
      have hd2 : decide ((k : Int) < 10) = false := by simp; omega
      have hq : (k : Int) / 10 = ((k / 10 : Nat) : Int) := by omega
      have hr : (k : Int) % 10 = ((k % 10 : Nat) : Int) := by omega
      have z1 := itoa_size (n := -((k / 10 : Nat) : Int)) ⟨by omega, by omega⟩
      have z2 := itoa_size (n := ((k % 10 : Nat) : Int)) ⟨by omega, by omega⟩
      have c1 := Lib.hid (ih (k / 10) (by omega) (by omega) (by omega))
      have c2 := Lib.hid (fun w => digits_small (k := k % 10) (by omega) w)
      have b1 : k / 10 < 9223372036854775808 := by omega
      have b2 : k % 10 < 10 := by omega
      clear ih
      generalize k / 10 = q at *
      generalize k % 10 = r at *
      go_enter Tryz.func42, Tryz.ntmps42
      go_wp2_with fail
      refine (c1.out _).mono ?_
      rintro e w' ⟨rfl, rfl⟩
      go_wp2_with fail
      refine (c2.out _).mono ?_
      rintro e w' ⟨rfl, rfl⟩
      go_wp2_with fail
      go_ret
      exact ⟨by rw [HI.out, ← mkB_append]; rfl, rfl⟩
theorem digits_any {n : Int} (h : I64 n) (w : World) : Calls Tryz.prog 42 #[.int .i64 n] w fun e w' => e = .returned (.string (mkB (Lib.itoa n))) ∧ w = w' := by
  have h0 := h.1
  have h1 := h.2
  by_cases hn : n < 0
  · obtain ⟨k, rfl⟩ : ∃ k : Nat, n = -(k : Int) := ⟨n.natAbs, by omega⟩
    exact digits_min k k (Nat.le_refl _) (by omega) (by omega) w
  · obtain ⟨k, rfl⟩ : ∃ k : Nat, n = (k : Int) := ⟨n.toNat, by omega⟩
    exact digits_pos k k (Nat.le_refl _) (by omega) w

end Go.Proofs.YtaoehdmdjplegaaGreatDoor
