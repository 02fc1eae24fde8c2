/-
  Walks: the reference's division bit by bit.
-/
import Derived.Test.YtbhdolghokhfnaaWords
import Derived.Test.YtbhdolghokhfnaaLift
namespace Go.Proofs.Ytbhdolghokhfnaa
open Go.RowKit

theorem half_pow (t j : Nat) : t / 2 ^ j = 2 * (t / 2 ^ (j + 1)) + t / 2 ^ j % 2 := by
  rw [Nat.pow_succ, ← Nat.div_div_eq_div_mul]
  omega
theorem qr_of {q r s x : Nat} (h : q * s + r = x) (hr : r < s) : x / s = q ∧ x % s = r := by
  have hs : 0 < s := by omega
  subst h
  rw [Nat.add_comm, Nat.add_mul_div_right _ _ hs, Nat.div_eq_of_lt hr, Nat.add_mul_mod_self_right, Nat.mod_eq_of_lt hr]
  omega

def DvA (t w s : Nat) (q r k : Value) : Prop := ∃ j : Nat, j ≤ 41 ∧ k = .int .i64 ((j : Int) - 1) ∧ q = .int .i64 (t / 2 ^ j * w / s : Nat) ∧ r = .int .i64 (t / 2 ^ j * w % s : Nat)
def DvB (x s : Nat) (q r : Value) : Prop := ∃ a b : Nat, q = .int .i64 a ∧ r = .int .i64 b ∧ a * s + b = x ∧ (b : Int) ≤ 4613000000000000000

set_option maxRecDepth 100000 in
set_option maxHeartbeats 1000000 in
theorem divided_any (t wt s : Nat) (w : World) (ht : t ≤ 1099511627776) (hw : wt ≤ s) (hw2 : wt ≤ 1125899906842624) (hs0 : 0 < s) (hs : s ≤ 2305843009213693952) :
    Calls Try.prog 86 #[.int .i64 t, .int .i64 wt, .int .i64 s] w fun e w' => e = .returned (.tuple #[.int .i64 (t * wt / s : Nat), .int .i64 (t * wt % s : Nat)]) ∧ w = w' := by
  have HS0 := Lib.hid hs0
  have hsI : (1 : Int) ≤ s := by omega
  have hsI2 : (s : Int) ≤ 2305843009213693952 := by omega
  have hwI : (wt : Int) ≤ 1125899906842624 := by omega
  have HW := Lib.hid hw
  have HT := Lib.hid ht
  have HW2 := Lib.hid hw2
  clear hs0 hs hw hw2 ht
  obtain ⟨q0, hq0⟩ : ∃ q0, t * wt / s = q0 := ⟨_, rfl⟩
  obtain ⟨r0, hr0⟩ : ∃ r0, t * wt % s = r0 := ⟨_, rfl⟩
  rw [hq0, hr0]
  have HQ0 := Lib.hid hq0
  have HR0 := Lib.hid hr0
  clear hq0 hr0
  go_enter Try.func86, Try.ntmps86
  go_wp2_with fail
  go_loop [8, 9, 10] (DvA t wt s) (fun _ _ k => (intOf k + 1).toNat)
  case atStart => exact ⟨41, by omega, rfl, by rw [Nat.div_eq_of_lt (show t < 2 ^ 41 by have := HT.out; omega)]; simp, by rw [Nat.div_eq_of_lt (show t < 2 ^ 41 by have := HT.out; omega)]; simp⟩
  case round =>
    obtain ⟨j, hj, rfl, rfl, rfl⟩ := hrel
    rcases Nat.eq_zero_or_pos j with h0 | h0
    · subst h0
      rw [Nat.pow_zero, Nat.div_one, HQ0.out, HR0.out]
      go_wp2_with fail
      go_ret2
      exact ⟨rfl, rfl⟩
    · obtain ⟨i, rfl⟩ : ∃ i, j = i + 1 := ⟨j - 1, by omega⟩
      have hiI : (i : Int) ≤ 40 := by omega
      have hhalf := half_pow t i
      obtain ⟨T, hT⟩ : ∃ T, t / 2 ^ i = T := ⟨_, rfl⟩
      obtain ⟨U, hU⟩ : ∃ U, t / 2 ^ (i + 1) = U := ⟨_, rfl⟩
      rw [hT, hU] at hhalf
      have hUt : U ≤ 1099511627776 := by rw [← hU]; exact Nat.le_trans (Nat.div_le_self _ _) HT.out
      rw [hU]
      have eT : (t : Int) / 2 ^ i = (T : Int) := by rw [← hT]; simp
      have hTn : T ≤ 1099511627776 := by
        rw [← hT]
        exact Nat.le_trans (Nat.div_le_self _ _) HT.out
      have hTI : (T : Int) ≤ 1099511627776 := by omega
      have HTS := Lib.hid (Nat.mul_le_mul_left T HW.out)
      have eB : bits .and .i64 (T : Int) 1 = ((T % 2 : Nat) : Int) := by
        have hTt : T ≤ 1099511627776 := by rw [← hT]; exact Nat.le_trans (Nat.div_le_self _ _) HT.out
        have h := i64_and_nat T 1 (by omega) (by omega)
        rw [show T &&& 1 = T % 2 from Nat.and_one_is_mod T] at h
        exact h
      have hb : T % 2 = 0 ∨ T % 2 = 1 := by omega
      obtain ⟨b, hbb⟩ : ∃ b, T % 2 = b := ⟨_, rfl⟩
      rw [hbb] at eB hhalf hb
      have hqr := Nat.div_add_mod (U * wt) s
      have hrl := Nat.mod_lt (U * wt) HS0.out
      have hq : U * wt / s ≤ 1099511627776 := by
        refine Nat.le_trans (Nat.div_le_of_le_mul ?_) hUt
        rw [Nat.mul_comm s]
        exact Nat.mul_le_mul_left U HW.out
      generalize U * wt / s = q at *
      obtain ⟨r, hr⟩ : ∃ r, U * wt % s = r := ⟨_, rfl⟩
      rw [hr] at hqr hrl ⊢
      have hx : T * wt = 2 * q * s + (2 * r + b * wt) := by
        rw [hhalf, Nat.add_mul, Nat.mul_assoc, ← hqr, Nat.mul_add, ← Nat.mul_assoc, Nat.mul_right_comm 2 s q]
        omega
      have HX := Lib.hid hx
      have hrI : (r : Int) < 2305843009213693952 := by omega
      have hqI : (q : Int) ≤ 1099511627776 := by omega
      have HTT := Lib.hid hT
      clear hT hU hhalf hqr hrl hq hUt hr hx hbb
      rcases hb with rfl | rfl
      all_goals
        go_wp2_with fail
        go_loop [8, 9] (DvB (T * wt) s) (fun _ r => (intOf r).toNat)
        case atStart =>
          first
            | exact ⟨2 * q, 2 * r, by go_num, by go_num, by rw [HX.out, Nat.zero_mul]; omega, by omega⟩
            | exact ⟨2 * q, 2 * r + wt, by go_num, by go_num, by rw [HX.out, Nat.one_mul], by omega⟩
        case round =>
          obtain ⟨a, c, rfl, rfl, hac, hcb⟩ := hrel
          have HAC := Lib.hid hac; clear hac
          by_cases hge : (s : Int) ≤ c
          · have haT : (a : Int) + 1 ≤ T := by
              have h1 : (a + 1) * s ≤ T * s := by
                refine Nat.le_trans ?_ HTS.out
                rw [← HAC.out, Nat.add_mul]
                omega
              have := Nat.le_of_mul_le_mul_right h1 HS0.out
              omega
            go_wp2_with fail
            go_round
            case rel => exact ⟨a + 1, c - s, by go_num, by go_num, by rw [← HAC.out, Nat.add_mul]; omega, by omega⟩
            case measure => simp [intOf]; omega
          · have hfin := qr_of HAC.out (by omega)
            have HF1 := Lib.hid hfin.1
            have HF2 := Lib.hid hfin.2
            clear hfin
            have haT : (a : Int) ≤ T := by
              have h1 : a * s ≤ T * s := by
                refine Nat.le_trans ?_ HTS.out
                rw [← HAC.out]
                omega
              have := Nat.le_of_mul_le_mul_right h1 HS0.out
              omega
            go_wp2_with fail
            go_round
            case rel => exact ⟨i, by omega, by go_num, by rw [HTT.out, HF1.out], by rw [HTT.out, HF2.out]⟩
            case measure => simp [intOf]
end Go.Proofs.Ytbhdolghokhfnaa
