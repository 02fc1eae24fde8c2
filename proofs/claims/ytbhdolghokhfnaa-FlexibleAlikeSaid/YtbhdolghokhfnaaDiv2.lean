/-
  Walks: math/bits.Div64: for every y above the high word: the quotient and what is left.
-/
import Derived.Test.YtbhdolghokhfnaaDiv
import Derived.Deep.QuietTactic
import Derived.BigQuiet
namespace Go.Proofs.Ytbhdolghokhfnaa
open Go.RowKit

theorem bitLen_bd {y : Nat} (h0 : y ≠ 0) (hy : y < 18446744073709551616) : 1 ≤ Lib.bitLen y ∧ Lib.bitLen y ≤ 64 ∧ 2 ^ (Lib.bitLen y - 1) ≤ y ∧ y < 2 ^ Lib.bitLen y := by
  have h := Lib.bitLenAux_bounds 64 y hy h0
  have h2 := Lib.bitLen_le y 64 (Nat.le_refl _) hy
  exact ⟨h.1, h2, h.2.1, h.2.2⟩

/-- The divisor, moved to the left as far as it goes. -/
theorem norm_bd {y : Nat} (h0 : y ≠ 0) (hy : y < 18446744073709551616) : 9223372036854775808 ≤ y * 2 ^ (64 - Lib.bitLen y) ∧ y * 2 ^ (64 - Lib.bitLen y) < 18446744073709551616 := by
  obtain ⟨h1, h2, h3, h4⟩ := bitLen_bd h0 hy
  generalize Lib.bitLen y = L at *
  have e1 : 2 ^ (L - 1) * 2 ^ (64 - L) = 9223372036854775808 := by rw [← Nat.pow_add, show L - 1 + (64 - L) = 63 by omega]
  have e2 : 2 ^ L * 2 ^ (64 - L) = 18446744073709551616 := by rw [← Nat.pow_add, show L + (64 - L) = 64 by omega]
  have g1 := Nat.mul_le_mul_right (2 ^ (64 - L)) h3
  have g2 := Nat.mul_lt_mul_of_pos_right h4 (Nat.two_pow_pos (64 - L))
  omega

theorem div64_nought (lo y : Nat) (w : World) (h2 : 0 < y) (hlo : lo < 18446744073709551616) (hy : y < 18446744073709551616) :
    Calls Try.prog 41 #[.int .u64 0, .int .u64 lo, .int .u64 y] w fun e w' => e = .returned (.tuple #[.int .u64 ((lo / y : Nat) : Int), .int .u64 ((lo % y : Nat) : Int)]) ∧ Quiet w w' := by
  have ew : IntKind.u64.wrap ((lo : Int) / (y : Int)) = (lo : Int) / (y : Int) := by
    have h := Nat.div_le_self lo y
    rw [← Int.natCast_ediv, IntKind.wrap_u64]
    generalize lo / y = z at *
    omega
  have t1 : ((y : Int) == 0) = false := by simp; omega
  have t1' : ¬ (y : Int) = 0 := by omega
  have t2 : decide ((y : Int) ≤ 0) = false := by simp; omega
  go_enter Try.func41, Try.ntmps41
  go_wp2_with fail
  go_quiet (fail)
  go_wp2_with fail
  go_ret2
  exact ⟨by simp, ⟨_, rfl⟩⟩

theorem or_add {a b s : Nat} (h : b < 2 ^ s) : a * 2 ^ s ||| b = a * 2 ^ s + b := by
  rw [Nat.mul_comm]
  exact (Nat.two_pow_add_eq_or_of_lt h a).symm

theorem low_split (lo s : Nat) (hs : s ≤ 64) : lo * 2 ^ s = lo / 2 ^ (64 - s) * 18446744073709551616 + lo * 2 ^ s % 18446744073709551616 := by
  have e : (18446744073709551616 : Nat) = 2 ^ (64 - s) * 2 ^ s := by rw [← Nat.pow_add, show 64 - s + s = 64 by omega]
  have h : lo * 2 ^ s / 18446744073709551616 = lo / 2 ^ (64 - s) := by rw [e, Nat.mul_div_mul_right _ _ (Nat.two_pow_pos s)]
  have := Nat.div_add_mod (lo * 2 ^ s) 18446744073709551616
  rw [h] at this
  omega

theorem high_lt {lo s : Nat} (hlo : lo < 18446744073709551616) (hs : s ≤ 64) : lo / 2 ^ (64 - s) < 2 ^ s := by
  refine Nat.div_lt_of_lt_mul ?_
  rw [← Nat.pow_add, show 64 - s + s = 64 by omega]
  exact hlo

theorem div64_some (hi lo y : Nat) (w : World) (h1 : 0 < hi) (h2 : hi < y) (hlo : lo < 18446744073709551616) (hy : y < 18446744073709551616) :
    Calls Try.prog 41 #[.int .u64 hi, .int .u64 lo, .int .u64 y] w fun e w' => e = .returned (.tuple #[.int .u64 (((hi * 18446744073709551616 + lo) / y : Nat) : Int), .int .u64 (((hi * 18446744073709551616 + lo) % y : Nat) : Int)]) ∧ w = w' := by
  obtain ⟨b1, b2, b3, b4⟩ := bitLen_bd (y := y) (by omega) hy
  obtain ⟨n1, n2⟩ := norm_bd (y := y) (by omega) hy
  have hlz := Try.bits_LeadingZeros64 (y : Int) w (by omega) (by omega)
  rw [Int.toNat_natCast] at hlz
  generalize Lib.bitLen y = L at *
  obtain ⟨s, hs⟩ : ∃ s, 64 - L = s := ⟨_, rfl⟩
  rw [show (64 : Int) - (L : Int) = (s : Int) by omega] at hlz
  rw [hs] at n1 n2
  have hs64 : s ≤ 63 := by omega
  have hsp : 0 < 2 ^ s := Nat.two_pow_pos s
  have hhi : (hi + 1) * 2 ^ s ≤ y * 2 ^ s := Nat.mul_le_mul_right _ h2
  rw [Nat.add_mul, Nat.one_mul] at hhi
  have hG := high_lt (s := s) hlo (by omega)
  have hsplit := low_split lo s (by omega)
  have hX : (hi * 18446744073709551616 + lo) * 2 ^ s = (hi * 2 ^ s + lo / 2 ^ (64 - s)) * (4294967296 * 4294967296) + lo * 2 ^ s % 18446744073709551616 / 4294967296 * 4294967296 + lo * 2 ^ s % 18446744073709551616 % 4294967296 := by
    have e1 : hi * 18446744073709551616 * 2 ^ s = hi * 2 ^ s * 18446744073709551616 := Nat.mul_right_comm _ _ _
    rw [Nat.add_mul, e1]
    generalize hi * 2 ^ s = H at *
    generalize lo * 2 ^ s = W0 at *
    generalize lo / 2 ^ (64 - s) = G at *
    omega
  have eor : hi * 2 ^ s ||| lo / 2 ^ (64 - s) = hi * 2 ^ s + lo / 2 ^ (64 - s) := or_add hG
  have eY : IntKind.u64.wrap ((y : Int) * 2 ^ s) = ((y * 2 ^ s : Nat) : Int) := by
    have e : ((y : Int) * 2 ^ s) = ((y * 2 ^ s : Nat) : Int) := by simp
    rw [e, IntKind.wrap_u64]
    omega
  have eH : IntKind.u64.wrap ((hi : Int) * 2 ^ s) = ((hi * 2 ^ s : Nat) : Int) := by
    have e : ((hi : Int) * 2 ^ s) = ((hi * 2 ^ s : Nat) : Int) := by simp
    rw [e, IntKind.wrap_u64]
    omega
  have eW : IntKind.u64.wrap ((lo : Int) * 2 ^ s) = ((lo * 2 ^ s % 18446744073709551616 : Nat) : Int) := by
    have e : ((lo : Int) * 2 ^ s) = ((lo * 2 ^ s : Nat) : Int) := by simp
    rw [e, IntKind.wrap_u64]
    omega
  have eG : (lo : Int) / 2 ^ (64 - s) = ((lo / 2 ^ (64 - s) : Nat) : Int) := by simp
  have eU := bits_or_u64_nat (hi * 2 ^ s) (lo / 2 ^ (64 - s)) (by omega) (by omega)
  rw [eor] at eU
  have eand : ∀ a : Nat, a < 18446744073709551616 → bits .and .u64 (a : Int) 4294967295 = ((a % 4294967296 : Nat) : Int) := fun a ha => by
    have h := bits_and_u64_nat a 4294967295 ha (by omega)
    rw [show a &&& 4294967295 = a % 4294967296 from Nat.and_two_pow_sub_one_eq_mod a 32] at h
    exact h
  have hUY : hi * 2 ^ s + lo / 2 ^ (64 - s) < y * 2 ^ s := by omega
  have hq : (hi * 2 ^ s + lo / 2 ^ (64 - s)) / (y * 2 ^ s / 4294967296) ≤ 4294967297 :=
    digit_top (n0 := y * 2 ^ s % 4294967296) (y := y * 2 ^ s) (by omega) hUY (Nat.mod_lt _ (by omega)) (by omega)
  have hdm := Nat.div_add_mod (hi * 2 ^ s + lo / 2 ^ (64 - s)) (y * 2 ^ s / 4294967296)
  rw [Nat.mul_comm] at hdm
  have hr : (hi * 2 ^ s + lo / 2 ^ (64 - s)) % (y * 2 ^ s / 4294967296) < 4294967296 := by
    have := Nat.mod_lt (hi * 2 ^ s + lo / 2 ^ (64 - s)) (show y * 2 ^ s / 4294967296 > 0 by omega)
    omega
  have hrI : (((hi * 2 ^ s + lo / 2 ^ (64 - s)) % (y * 2 ^ s / 4294967296) : Nat) : Int) < 4294967296 := Int.ofNat_lt.2 hr
  have hd1 : ((lo * 2 ^ s % 18446744073709551616 / 4294967296 : Nat) : Int) < 4294967296 := Int.ofNat_lt.2 (Nat.div_lt_of_lt_mul (Nat.mod_lt _ (by omega)))
  have hd0 : ((lo * 2 ^ s % 18446744073709551616 % 4294967296 : Nat) : Int) < 4294967296 := Int.ofNat_lt.2 (Nat.mod_lt _ (by omega))
  obtain ⟨p, hp⟩ := wrap_some (((hi * 2 ^ s + lo / 2 ^ (64 - s)) / (y * 2 ^ s / 4294967296) : Nat) * (y * 2 ^ s / 4294967296 : Nat) : Int)
  have er := wrap_left hdm hrI hp
  refine div64_great hi lo y s (y * 2 ^ s) (y * 2 ^ s / 4294967296) (y * 2 ^ s % 4294967296) (hi * 2 ^ s) (lo / 2 ^ (64 - s)) (hi * 2 ^ s + lo / 2 ^ (64 - s)) (lo * 2 ^ s % 18446744073709551616) _ _ _ p _ w (by omega) (by omega) (by omega)
    (hlz.mono fun e w' h => ⟨h.1, h.2.symm⟩) eY (Int.natCast_ediv _ _).symm (eand _ n2) eH eG eU eW (Int.natCast_ediv _ _).symm (eand _ (Nat.mod_lt _ (by omega))) (Int.natCast_ediv _ _).symm hp er
    (by omega) (by omega) (by omega) hd1 hd0 (Int.ofNat_le.2 hq) hrI
    (Lib.hid hdm) (Lib.hid (by omega)) (Lib.hid hUY) (Lib.hid n2) (Lib.hid rfl) (Lib.hid (Nat.mod_lt _ (by omega))) (hi * 18446744073709551616 + lo) (Lib.hid hX) (Lib.hid ?_)
  refine Nat.div_lt_of_lt_mul ?_
  have := Nat.mul_le_mul_right 18446744073709551616 (show hi + 1 ≤ y from h2)
  omega

/-- bits.Div64, where the quotient fits a word. -/
theorem div64_any (hi lo y : Nat) (w : World) (h2 : hi < y) (hlo : lo < 18446744073709551616) (hy : y < 18446744073709551616) :
    Calls Try.prog 41 #[.int .u64 hi, .int .u64 lo, .int .u64 y] w fun e w' => e = .returned (.tuple #[.int .u64 (((hi * 18446744073709551616 + lo) / y : Nat) : Int), .int .u64 (((hi * 18446744073709551616 + lo) % y : Nat) : Int)]) ∧ Quiet w w' := by
  rcases Nat.eq_zero_or_pos hi with h0 | h0
  · subst h0
    have := div64_nought lo y w h2 hlo hy
    rw [Nat.zero_mul, Nat.zero_add]
    exact this
  · exact (div64_some hi lo y w h0 h2 hlo hy).mono fun e w' h => ⟨h.1, by rw [h.2]; exact Quiet.refl _⟩

end Go.Proofs.Ytbhdolghokhfnaa
