/-
  Walks: math/bits.Div64, where the quotient fits a word: what it answers.
-/
import Derived.Test.YtbhdolghokhfnaaInts
import Derived.Test.YtbhdolghokhfnaaDivPlain
import Derived.Test.YtbhdolghokhfnaaShelf
import Derived.Laws.Bits64b
import Derived.Lib.ItoaNum
namespace Go.Proofs.Ytbhdolghokhfnaa
open Go.RowKit

theorem digit_step {k n t u : Nat} (h : (k + 1) * n + t = u) : k * n + (t + n) = u := by
  rw [Nat.add_mul] at h
  omega
theorem mul_small_bd {k n m : Nat} (h : k * n = m) (hk : (k : Int) < 4294967296) (hn : (n : Int) < 4294967296) : (m : Int) ≤ 18446744065119617025 := by
  have := Nat.mul_le_mul (show k ≤ 4294967295 by omega) (show n ≤ 4294967295 by omega)
  omega
theorem mul_small {k n m : Nat} (h : k * n = m) (hk : (k : Int) < 4294967296) (hn : (n : Int) < 4294967296) : IntKind.u64.wrap ((k : Int) * n) = (m : Int) := by
  have := mul_small_bd h hk hn
  rw [← Int.natCast_mul, h, IntKind.wrap_u64]
  omega
theorem wrap_some (x : Int) : ∃ a : Nat, IntKind.u64.wrap x = (a : Int) := by
  refine ⟨(x % 18446744073709551616).toNat, ?_⟩
  rw [IntKind.wrap_u64]
  omega
theorem rest_lt {x k Y : Nat} (h1 : k * Y ≤ x) (h2 : x < (k + 1) * Y) : x - k * Y < Y := by
  rw [Nat.add_mul] at h2
  omega
theorem wrap_rest {u d z A B C : Nat} (h1 : z ≤ u * 4294967296 + d) (h2 : u * 4294967296 + d - z < 18446744073709551616) (fA : IntKind.u64.wrap ((u : Int) * 4294967296) = (A : Int)) (fB : IntKind.u64.wrap ((A : Int) + d) = (B : Int)) (fC : IntKind.u64.wrap ((z : Nat) : Int) = (C : Int)) :
    IntKind.u64.wrap ((B : Int) - C) = ((u * 4294967296 + d - z : Nat) : Int) := by
  rw [IntKind.wrap_u64] at *
  omega
theorem wrap_quo {k j D x : Nat} (h : x = k * 4294967296 + j) (hx : x < 18446744073709551616) (fD : IntKind.u64.wrap ((k : Int) * 4294967296) = (D : Int)) : IntKind.u64.wrap ((D : Int) + j) = (x : Int) := by
  rw [IntKind.wrap_u64] at *
  omega
theorem wrap_left {q n r u p : Nat} (h : q * n + r = u) (hr : (r : Int) < 4294967296) (hp : IntKind.u64.wrap ((q : Int) * n) = (p : Int)) : IntKind.u64.wrap ((u : Int) - p) = (r : Int) := by
  rw [← Int.natCast_mul] at hp
  generalize q * n = z at *
  rw [IntKind.wrap_u64] at *
  omega
/-- What the two digits and the last rest are. -/
theorem div64_end {X s U d1 d0 y Y k u2 j : Nat} (hX : X * 2 ^ s = U * (4294967296 * 4294967296) + d1 * 4294967296 + d0) (hY : Y = y * 2 ^ s) (E1 : U * 4294967296 + d1 = k * Y + u2) (FE : j * Y ≤ u2 * 4294967296 + d0) (FL : u2 * 4294967296 + d0 < (j + 1) * Y) (_hd : d0 < 4294967296) :
    X / y = k * 4294967296 + j ∧ X % y = (u2 * 4294967296 + d0 - j * Y) / 2 ^ s := by
  have h := digits_two E1 (Nat.add_sub_of_le FE).symm (rest_lt FE FL)
  rw [← hX] at h
  have h2 : 0 < 2 ^ s := Nat.two_pow_pos s
  constructor
  · rw [← h.1, hY, Nat.mul_div_mul_right _ _ h2]
  · rw [← h.2]
    subst hY
    rw [Nat.mul_mod_mul_right, Nat.mul_div_cancel _ h2]

theorem div_ret {X y R s : Nat} (h : X % y = R / 2 ^ s) : Ending.returned (.tuple #[.int .u64 ((X : Int) / y), .int .u64 ((R : Int) / 2 ^ s)]) = .returned (.tuple #[.int .u64 ((X : Int) / y), .int .u64 ((X : Int) % y)]) := by
  have e : ((X : Int) % y) = (R : Int) / 2 ^ s := by rw [← Int.natCast_emod, h]; simp
  rw [e]

def DivMu (a : Value) : Nat := (intOf a).toNat
def DivInv (U d n1 Y : Nat) (a c : Value) : Prop := ∃ k t : Nat, a = .int .u64 k ∧ c = .int .u64 t ∧ k * n1 + t = U ∧ (k : Int) ≤ 4294967297 ∧ (t : Int) < 4294967296 ∧ U * 4294967296 + d < (k + 1) * Y

set_option maxRecDepth 100000 in
set_option maxHeartbeats 4000000 in
theorem div64_great (hi lo y s Y n1 n0 H G U W d1 d0 q p r : Nat) (w : World) (h1 : (0 : Int) < hi) (h2 : (hi : Int) < y) (hs : (s : Int) ≤ 63)
    (hlz : Calls Try.prog 62 #[.int .u64 y] w fun e w' => e = .returned (.int .i64 (s : Int)) ∧ w = w')
    (eY : IntKind.u64.wrap ((y : Int) * 2 ^ s) = (Y : Int)) (en1 : (Y : Int) / 4294967296 = (n1 : Int)) (en0 : bits .and .u64 (Y : Int) 4294967295 = (n0 : Int))
    (eH : IntKind.u64.wrap ((hi : Int) * 2 ^ s) = (H : Int)) (eG : (lo : Int) / 2 ^ (64 - s) = (G : Int)) (eU : bits .or .u64 (H : Int) (G : Int) = (U : Int))
    (eW : IntKind.u64.wrap ((lo : Int) * 2 ^ s) = (W : Int)) (ed1 : (W : Int) / 4294967296 = (d1 : Int)) (ed0 : bits .and .u64 (W : Int) 4294967295 = (d0 : Int))
    (eqk : (U : Int) / (n1 : Int) = (q : Int)) (epk : IntKind.u64.wrap ((q : Int) * n1) = (p : Int)) (erk : IntKind.u64.wrap ((U : Int) - p) = (r : Int))
    (hn1 : (2147483648 : Int) ≤ n1) (hn1' : (n1 : Int) < 4294967296) (hn0 : (n0 : Int) < 4294967296) (hd1 : (d1 : Int) < 4294967296) (hd0 : (d0 : Int) < 4294967296) (hqk : (q : Int) ≤ 4294967297) (hrk : (r : Int) < 4294967296)
    (HR : Hid (q * n1 + r = U)) (HY : Hid (Y = n1 * 4294967296 + n0)) (HUY : Hid (U < Y)) (HYb : Hid (Y < 18446744073709551616)) (HYy : Hid (Y = y * 2 ^ s)) (Hd0 : Hid (d0 < 4294967296))
    (X : Nat) (HX : Hid (X * 2 ^ s = U * (4294967296 * 4294967296) + d1 * 4294967296 + d0)) (HQ : Hid (X / y < 18446744073709551616)) :
    Calls Try.prog 41 #[.int .u64 hi, .int .u64 lo, .int .u64 y] w fun e w' => e = .returned (.tuple #[.int .u64 ((X / y : Nat) : Int), .int .u64 ((X % y : Nat) : Int)]) ∧ w = w' := by
  have HF := Lib.hid (digit_first (u := U) (n1 := n1) (n0 := n0) (show d1 < 4294967296 by omega) (by omega))
  have eq' : U / n1 = q := by have : ((U / n1 : Nat) : Int) = q := by rw [Int.natCast_ediv]; exact eqk
                              omega
  rw [eq', ← HY.out] at HF
  clear eq'
  have t1 : ((y : Int) == 0) = false := by simp; omega
  have t2 : decide ((y : Int) ≤ (hi : Int)) = false := by simp; omega
  have t2' : decide (y ≤ hi) = false := by simp; omega
  have t3 : ((hi : Int) == 0) = false := by simp; omega
  go_enter Try.func41, Try.ntmps41
  go_wp2_with fail
  refine hlz.mono ?_
  rintro e w' ⟨rfl, rfl⟩
  go_wp2_with fail
  go_loop [15, 16] (DivInv U d1 n1 Y) (fun a _ => DivMu a)
  case atStart => exact ⟨q, r, rfl, rfl, HR.out, hqk, hrk, HF.out⟩
  case round =>
    clear eqk epk erk hqk hrk
    obtain ⟨k, t, rfl, rfl, hr, hq, hrl, hlt⟩ := hrel
    have Hr := Lib.hid hr; clear hr
    have Hlt := Lib.hid hlt; clear hlt
    by_cases hge : (4294967296 : Int) ≤ k
    · have Hlt2 := Lib.hid (digit_hi (q := k) HUY.out (show d1 < 4294967296 by omega) (by omega))
      clear Hlt
      have h0 : 0 < k := Nat.pos_of_ne_zero (fun e => by have := Hlt2.out; rw [e] at this; omega)
      obtain ⟨k, rfl⟩ : ∃ i, k = i + 1 := ⟨k - 1, by omega⟩
      have Hr2 := Lib.hid (digit_step Hr.out)
      have hgeB : decide ((4294967296 : Int) ≤ (k : Int) + 1) = true := by simp; omega
      clear h0
      by_cases hbr : (4294967296 : Int) ≤ t + n1
      · have FE := Lib.hid (show k * Y ≤ U * 4294967296 + d1 by rw [HY.out]; exact digit_brk Hr2.out (by omega) (by omega) (by omega))
        have FL := Hlt2; clear Hlt2 Hr Hr2
        obtain ⟨A, fA⟩ : ∃ A : Nat, IntKind.u64.wrap ((U : Int) * 4294967296) = (A : Int) := wrap_some _
        obtain ⟨B, fB⟩ : ∃ B : Nat, IntKind.u64.wrap ((A : Int) + d1) = (B : Int) := wrap_some _
        obtain ⟨C, fC⟩ : ∃ C : Nat, IntKind.u64.wrap ((k : Int) * Y) = (C : Int) := wrap_some _
        have fU := wrap_rest (u := U) (d := d1) (z := k * Y) FE.out (Nat.lt_trans (rest_lt FE.out FL.out) HYb.out) (C := C) fA fB (by rw [Int.natCast_mul]; exact fC)
        have E1 := Lib.hid (show U * 4294967296 + d1 = k * Y + (U * 4294967296 + d1 - k * Y) by have := FE.out; omega)
        have Hu2Y := Lib.hid (rest_lt FE.out FL.out)
        generalize U * 4294967296 + d1 - k * Y = u2 at fU E1 Hu2Y
        clear FE FL
        obtain ⟨q2, eqj'⟩ : ∃ q, u2 / n1 = q := ⟨_, rfl⟩
        have hq2 := digit_top HY.out Hu2Y.out (show n0 < 4294967296 by omega) (by omega)
        rw [eqj'] at hq2
        have HF2 := Lib.hid (digit_first (u := u2) (n1 := n1) (n0 := n0) (show d0 < 4294967296 by omega) (by omega))
        rw [eqj', ← HY.out] at HF2
        have eqj : (u2 : Int) / (n1 : Int) = (q2 : Int) := by rw [← eqj']; exact (Int.natCast_ediv _ _).symm
        have hqj : (q2 : Int) ≤ 4294967297 := by omega
        obtain ⟨r2, hr2⟩ : ∃ r, u2 % n1 = r := ⟨_, rfl⟩
        have hrj : (r2 : Int) < 4294967296 := by have := Nat.mod_lt u2 (show n1 > 0 by omega); omega
        have HR2 := Lib.hid (show q2 * n1 + r2 = u2 by rw [← eqj', ← hr2, Nat.mul_comm]; exact Nat.div_add_mod _ _)
        clear eqj' hr2 hq2
        obtain ⟨p2, epj⟩ : ∃ p : Nat, IntKind.u64.wrap ((q2 : Int) * n1) = (p : Int) := wrap_some _
        have erj := wrap_left HR2.out (by omega) epj
        go_wp2_with fail
        go_loop [18, 16] (DivInv u2 d0 n1 Y) (fun a _ => DivMu a)
        case atStart => exact ⟨q2, r2, rfl, rfl, HR2.out, hqj, hrj, HF2.out⟩
        case round =>
          clear eqj epj erj hqj hrj
          obtain ⟨j, t2, rfl, rfl, hr, hq, hrl, hlt⟩ := hrel
          have Hr := Lib.hid hr; clear hr
          have Hlt := Lib.hid hlt; clear hlt
          by_cases hge : (4294967296 : Int) ≤ j
          · have Hlt2 := Lib.hid (digit_hi (q := j) Hu2Y.out (show d0 < 4294967296 by omega) (by omega))
            clear Hlt
            have h0 : 0 < j := Nat.pos_of_ne_zero (fun e => by have := Hlt2.out; rw [e] at this; omega)
            obtain ⟨j, rfl⟩ : ∃ i, j = i + 1 := ⟨j - 1, by omega⟩
            have Hr2 := Lib.hid (digit_step Hr.out)
            have hgeB : decide ((4294967296 : Int) ≤ (j : Int) + 1) = true := by simp; omega
            clear h0
            by_cases hbr : (4294967296 : Int) ≤ t2 + n1
            · have FE := Lib.hid (show j * Y ≤ u2 * 4294967296 + d0 by rw [HY.out]; exact digit_brk Hr2.out (by omega) (by omega) (by omega))
              have FL := Hlt2; clear Hlt2 Hr Hr2
              have hfin := div64_end HX.out HYy.out E1.out FE.out FL.out Hd0.out
              obtain ⟨A2, fA2⟩ : ∃ A : Nat, IntKind.u64.wrap ((u2 : Int) * 4294967296) = (A : Int) := wrap_some _
              obtain ⟨B2, fB2⟩ : ∃ B : Nat, IntKind.u64.wrap ((A2 : Int) + d0) = (B : Int) := wrap_some _
              obtain ⟨C2, fC2⟩ : ∃ C : Nat, IntKind.u64.wrap ((j : Int) * Y) = (C : Int) := wrap_some _
              obtain ⟨D2, fD2⟩ : ∃ C : Nat, IntKind.u64.wrap ((k : Int) * 4294967296) = (C : Int) := wrap_some _
              have fR := wrap_rest (u := u2) (d := d0) (z := j * Y) FE.out (Nat.lt_trans (rest_lt FE.out FL.out) HYb.out) (C := C2) fA2 fB2 (by rw [Int.natCast_mul]; exact fC2)
              have fQ := wrap_quo hfin.1 HQ.out fD2
              have HF2 := Lib.hid hfin.2
              clear hfin
              generalize u2 * 4294967296 + d0 - j * Y = R2 at fR HF2
              go_wp2_with fail
              go_ret2
              exact ⟨div_ret HF2.out, rfl⟩
            · have hbr1 : (t2 : Int) + n1 < 4294967296 := by omega
              have hb1 : decide ((4294967296 : Int) ≤ (t2 : Int) + n1) = false := by simp; omega
              clear hbr
              go_wp2_with fail
              go_round
              case rel => exact ⟨j, t2 + n1, by go_num, by go_num, Hr2.out, by omega, by omega, Hlt2.out⟩
              case measure => simp [DivMu, intOf]
          · obtain ⟨m, hm⟩ : ∃ m, j * n0 = m := ⟨_, rfl⟩
            have em : IntKind.u64.wrap ((j : Int) * n0) = (m : Int) := mul_small hm (by omega) (by omega)
            have hmb := mul_small_bd hm (by omega) (by omega)
            have Hm := Lib.hid hm; clear hm
            by_cases hgt : (4294967296 : Int) * t2 + d0 < m
            · have Hlt2 := Lib.hid (show u2 * 4294967296 + d0 < j * Y by rw [HY.out]; exact digit_mul Hr.out (by rw [Hm.out]; omega))
              clear Hlt
              have h0 : 0 < j := Nat.pos_of_ne_zero (fun e => by have := Hlt2.out; rw [e] at this; omega)
              obtain ⟨j, rfl⟩ : ∃ i, j = i + 1 := ⟨j - 1, by omega⟩
              have Hr2 := Lib.hid (digit_step Hr.out)
              have hgeB : decide ((4294967296 : Int) ≤ (j : Int) + 1) = false := by simp; omega
              have em1 : IntKind.u64.wrap (((j : Int) + 1) * n0) = (m : Int) := by exact_mod_cast em
              have hgtB : decide ((4294967296 : Int) * t2 + d0 < m) = true := by simp; omega
              clear em
              clear h0
              by_cases hbr : (4294967296 : Int) ≤ t2 + n1
              · have FE := Lib.hid (show j * Y ≤ u2 * 4294967296 + d0 by rw [HY.out]; exact digit_brk Hr2.out (by omega) (by omega) (by omega))
                have FL := Hlt2; clear Hlt2 Hr Hr2
                have hfin := div64_end HX.out HYy.out E1.out FE.out FL.out Hd0.out
                obtain ⟨A2, fA2⟩ : ∃ A : Nat, IntKind.u64.wrap ((u2 : Int) * 4294967296) = (A : Int) := wrap_some _
                obtain ⟨B2, fB2⟩ : ∃ B : Nat, IntKind.u64.wrap ((A2 : Int) + d0) = (B : Int) := wrap_some _
                obtain ⟨C2, fC2⟩ : ∃ C : Nat, IntKind.u64.wrap ((j : Int) * Y) = (C : Int) := wrap_some _
                obtain ⟨D2, fD2⟩ : ∃ C : Nat, IntKind.u64.wrap ((k : Int) * 4294967296) = (C : Int) := wrap_some _
                have fR := wrap_rest (u := u2) (d := d0) (z := j * Y) FE.out (Nat.lt_trans (rest_lt FE.out FL.out) HYb.out) (C := C2) fA2 fB2 (by rw [Int.natCast_mul]; exact fC2)
                have fQ := wrap_quo hfin.1 HQ.out fD2
                have HF2 := Lib.hid hfin.2
                clear hfin
                generalize u2 * 4294967296 + d0 - j * Y = R2 at fR HF2
                go_wp2_with fail
                go_ret2
                exact ⟨div_ret HF2.out, rfl⟩
              · have hbr1 : (t2 : Int) + n1 < 4294967296 := by omega
                have hb1 : decide ((4294967296 : Int) ≤ (t2 : Int) + n1) = false := by simp; omega
                clear hbr
                go_wp2_with fail
                go_round
                case rel => exact ⟨j, t2 + n1, by go_num, by go_num, Hr2.out, by omega, by omega, Hlt2.out⟩
                case measure => simp [DivMu, intOf]
            · have FE := Lib.hid (show j * Y ≤ u2 * 4294967296 + d0 by rw [HY.out]; exact digit_done Hr.out (by rw [Hm.out]; omega))
              have FL := Hlt; clear Hlt Hm
              have hfin := div64_end HX.out HYy.out E1.out FE.out FL.out Hd0.out
              obtain ⟨A2, fA2⟩ : ∃ A : Nat, IntKind.u64.wrap ((u2 : Int) * 4294967296) = (A : Int) := wrap_some _
              obtain ⟨B2, fB2⟩ : ∃ B : Nat, IntKind.u64.wrap ((A2 : Int) + d0) = (B : Int) := wrap_some _
              obtain ⟨C2, fC2⟩ : ∃ C : Nat, IntKind.u64.wrap ((j : Int) * Y) = (C : Int) := wrap_some _
              obtain ⟨D2, fD2⟩ : ∃ C : Nat, IntKind.u64.wrap ((k : Int) * 4294967296) = (C : Int) := wrap_some _
              have fR := wrap_rest (u := u2) (d := d0) (z := j * Y) FE.out (Nat.lt_trans (rest_lt FE.out FL.out) HYb.out) (C := C2) fA2 fB2 (by rw [Int.natCast_mul]; exact fC2)
              have fQ := wrap_quo hfin.1 HQ.out fD2
              have HF2 := Lib.hid hfin.2
              clear hfin
              generalize u2 * 4294967296 + d0 - j * Y = R2 at fR HF2
              go_wp2_with fail
              go_ret2
              exact ⟨div_ret HF2.out, rfl⟩
      · have hbr1 : (t : Int) + n1 < 4294967296 := by omega
        have hb1 : decide ((4294967296 : Int) ≤ (t : Int) + n1) = false := by simp; omega
        clear hbr
        go_wp2_with fail
        go_round
        case rel => exact ⟨k, t + n1, by go_num, by go_num, Hr2.out, by omega, by omega, Hlt2.out⟩
        case measure => simp [DivMu, intOf]
    · obtain ⟨m, hm⟩ : ∃ m, k * n0 = m := ⟨_, rfl⟩
      have em : IntKind.u64.wrap ((k : Int) * n0) = (m : Int) := mul_small hm (by omega) (by omega)
      have hmb := mul_small_bd hm (by omega) (by omega)
      have Hm := Lib.hid hm; clear hm
      by_cases hgt : (4294967296 : Int) * t + d1 < m
      · have Hlt2 := Lib.hid (show U * 4294967296 + d1 < k * Y by rw [HY.out]; exact digit_mul Hr.out (by rw [Hm.out]; omega))
        clear Hlt
        have h0 : 0 < k := Nat.pos_of_ne_zero (fun e => by have := Hlt2.out; rw [e] at this; omega)
        obtain ⟨k, rfl⟩ : ∃ i, k = i + 1 := ⟨k - 1, by omega⟩
        have Hr2 := Lib.hid (digit_step Hr.out)
        have hgeB : decide ((4294967296 : Int) ≤ (k : Int) + 1) = false := by simp; omega
        have em1 : IntKind.u64.wrap (((k : Int) + 1) * n0) = (m : Int) := by exact_mod_cast em
        have hgtB : decide ((4294967296 : Int) * t + d1 < m) = true := by simp; omega
        clear em
        clear h0
        by_cases hbr : (4294967296 : Int) ≤ t + n1
        · have FE := Lib.hid (show k * Y ≤ U * 4294967296 + d1 by rw [HY.out]; exact digit_brk Hr2.out (by omega) (by omega) (by omega))
          have FL := Hlt2; clear Hlt2 Hr Hr2
          obtain ⟨A, fA⟩ : ∃ A : Nat, IntKind.u64.wrap ((U : Int) * 4294967296) = (A : Int) := wrap_some _
          obtain ⟨B, fB⟩ : ∃ B : Nat, IntKind.u64.wrap ((A : Int) + d1) = (B : Int) := wrap_some _
          obtain ⟨C, fC⟩ : ∃ C : Nat, IntKind.u64.wrap ((k : Int) * Y) = (C : Int) := wrap_some _
          have fU := wrap_rest (u := U) (d := d1) (z := k * Y) FE.out (Nat.lt_trans (rest_lt FE.out FL.out) HYb.out) (C := C) fA fB (by rw [Int.natCast_mul]; exact fC)
          have E1 := Lib.hid (show U * 4294967296 + d1 = k * Y + (U * 4294967296 + d1 - k * Y) by have := FE.out; omega)
          have Hu2Y := Lib.hid (rest_lt FE.out FL.out)
          generalize U * 4294967296 + d1 - k * Y = u2 at fU E1 Hu2Y
          clear FE FL
          obtain ⟨q2, eqj'⟩ : ∃ q, u2 / n1 = q := ⟨_, rfl⟩
          have hq2 := digit_top HY.out Hu2Y.out (show n0 < 4294967296 by omega) (by omega)
          rw [eqj'] at hq2
          have HF2 := Lib.hid (digit_first (u := u2) (n1 := n1) (n0 := n0) (show d0 < 4294967296 by omega) (by omega))
          rw [eqj', ← HY.out] at HF2
          have eqj : (u2 : Int) / (n1 : Int) = (q2 : Int) := by rw [← eqj']; exact (Int.natCast_ediv _ _).symm
          have hqj : (q2 : Int) ≤ 4294967297 := by omega
          obtain ⟨r2, hr2⟩ : ∃ r, u2 % n1 = r := ⟨_, rfl⟩
          have hrj : (r2 : Int) < 4294967296 := by have := Nat.mod_lt u2 (show n1 > 0 by omega); omega
          have HR2 := Lib.hid (show q2 * n1 + r2 = u2 by rw [← eqj', ← hr2, Nat.mul_comm]; exact Nat.div_add_mod _ _)
          clear eqj' hr2 hq2
          obtain ⟨p2, epj⟩ : ∃ p : Nat, IntKind.u64.wrap ((q2 : Int) * n1) = (p : Int) := wrap_some _
          have erj := wrap_left HR2.out (by omega) epj
          go_wp2_with fail
          go_loop [18, 16] (DivInv u2 d0 n1 Y) (fun a _ => DivMu a)
          case atStart => exact ⟨q2, r2, rfl, rfl, HR2.out, hqj, hrj, HF2.out⟩
          case round =>
            clear eqj epj erj hqj hrj
            obtain ⟨j, t2, rfl, rfl, hr, hq, hrl, hlt⟩ := hrel
            have Hr := Lib.hid hr; clear hr
            have Hlt := Lib.hid hlt; clear hlt
            by_cases hge : (4294967296 : Int) ≤ j
            · have Hlt2 := Lib.hid (digit_hi (q := j) Hu2Y.out (show d0 < 4294967296 by omega) (by omega))
              clear Hlt
              have h0 : 0 < j := Nat.pos_of_ne_zero (fun e => by have := Hlt2.out; rw [e] at this; omega)
              obtain ⟨j, rfl⟩ : ∃ i, j = i + 1 := ⟨j - 1, by omega⟩
              have Hr2 := Lib.hid (digit_step Hr.out)
              have hgeB : decide ((4294967296 : Int) ≤ (j : Int) + 1) = true := by simp; omega
              clear h0
              by_cases hbr : (4294967296 : Int) ≤ t2 + n1
              · have FE := Lib.hid (show j * Y ≤ u2 * 4294967296 + d0 by rw [HY.out]; exact digit_brk Hr2.out (by omega) (by omega) (by omega))
                have FL := Hlt2; clear Hlt2 Hr Hr2
                have hfin := div64_end HX.out HYy.out E1.out FE.out FL.out Hd0.out
                obtain ⟨A2, fA2⟩ : ∃ A : Nat, IntKind.u64.wrap ((u2 : Int) * 4294967296) = (A : Int) := wrap_some _
                obtain ⟨B2, fB2⟩ : ∃ B : Nat, IntKind.u64.wrap ((A2 : Int) + d0) = (B : Int) := wrap_some _
                obtain ⟨C2, fC2⟩ : ∃ C : Nat, IntKind.u64.wrap ((j : Int) * Y) = (C : Int) := wrap_some _
                obtain ⟨D2, fD2⟩ : ∃ C : Nat, IntKind.u64.wrap ((k : Int) * 4294967296) = (C : Int) := wrap_some _
                have fR := wrap_rest (u := u2) (d := d0) (z := j * Y) FE.out (Nat.lt_trans (rest_lt FE.out FL.out) HYb.out) (C := C2) fA2 fB2 (by rw [Int.natCast_mul]; exact fC2)
                have fQ := wrap_quo hfin.1 HQ.out fD2
                have HF2 := Lib.hid hfin.2
                clear hfin
                generalize u2 * 4294967296 + d0 - j * Y = R2 at fR HF2
                go_wp2_with fail
                go_ret2
                exact ⟨div_ret HF2.out, rfl⟩
              · have hbr1 : (t2 : Int) + n1 < 4294967296 := by omega
                have hb1 : decide ((4294967296 : Int) ≤ (t2 : Int) + n1) = false := by simp; omega
                clear hbr
                go_wp2_with fail
                go_round
                case rel => exact ⟨j, t2 + n1, by go_num, by go_num, Hr2.out, by omega, by omega, Hlt2.out⟩
                case measure => simp [DivMu, intOf]
            · obtain ⟨m, hm⟩ : ∃ m, j * n0 = m := ⟨_, rfl⟩
              have em : IntKind.u64.wrap ((j : Int) * n0) = (m : Int) := mul_small hm (by omega) (by omega)
              have hmb := mul_small_bd hm (by omega) (by omega)
              have Hm := Lib.hid hm; clear hm
              by_cases hgt : (4294967296 : Int) * t2 + d0 < m
              · have Hlt2 := Lib.hid (show u2 * 4294967296 + d0 < j * Y by rw [HY.out]; exact digit_mul Hr.out (by rw [Hm.out]; omega))
                clear Hlt
                have h0 : 0 < j := Nat.pos_of_ne_zero (fun e => by have := Hlt2.out; rw [e] at this; omega)
                obtain ⟨j, rfl⟩ : ∃ i, j = i + 1 := ⟨j - 1, by omega⟩
                have Hr2 := Lib.hid (digit_step Hr.out)
                have hgeB : decide ((4294967296 : Int) ≤ (j : Int) + 1) = false := by simp; omega
                have em1 : IntKind.u64.wrap (((j : Int) + 1) * n0) = (m : Int) := by exact_mod_cast em
                have hgtB : decide ((4294967296 : Int) * t2 + d0 < m) = true := by simp; omega
                clear em
                clear h0
                by_cases hbr : (4294967296 : Int) ≤ t2 + n1
                · have FE := Lib.hid (show j * Y ≤ u2 * 4294967296 + d0 by rw [HY.out]; exact digit_brk Hr2.out (by omega) (by omega) (by omega))
                  have FL := Hlt2; clear Hlt2 Hr Hr2
                  have hfin := div64_end HX.out HYy.out E1.out FE.out FL.out Hd0.out
                  obtain ⟨A2, fA2⟩ : ∃ A : Nat, IntKind.u64.wrap ((u2 : Int) * 4294967296) = (A : Int) := wrap_some _
                  obtain ⟨B2, fB2⟩ : ∃ B : Nat, IntKind.u64.wrap ((A2 : Int) + d0) = (B : Int) := wrap_some _
                  obtain ⟨C2, fC2⟩ : ∃ C : Nat, IntKind.u64.wrap ((j : Int) * Y) = (C : Int) := wrap_some _
                  obtain ⟨D2, fD2⟩ : ∃ C : Nat, IntKind.u64.wrap ((k : Int) * 4294967296) = (C : Int) := wrap_some _
                  have fR := wrap_rest (u := u2) (d := d0) (z := j * Y) FE.out (Nat.lt_trans (rest_lt FE.out FL.out) HYb.out) (C := C2) fA2 fB2 (by rw [Int.natCast_mul]; exact fC2)
                  have fQ := wrap_quo hfin.1 HQ.out fD2
                  have HF2 := Lib.hid hfin.2
                  clear hfin
                  generalize u2 * 4294967296 + d0 - j * Y = R2 at fR HF2
                  go_wp2_with fail
                  go_ret2
                  exact ⟨div_ret HF2.out, rfl⟩
                · have hbr1 : (t2 : Int) + n1 < 4294967296 := by omega
                  have hb1 : decide ((4294967296 : Int) ≤ (t2 : Int) + n1) = false := by simp; omega
                  clear hbr
                  go_wp2_with fail
                  go_round
                  case rel => exact ⟨j, t2 + n1, by go_num, by go_num, Hr2.out, by omega, by omega, Hlt2.out⟩
                  case measure => simp [DivMu, intOf]
              · have FE := Lib.hid (show j * Y ≤ u2 * 4294967296 + d0 by rw [HY.out]; exact digit_done Hr.out (by rw [Hm.out]; omega))
                have FL := Hlt; clear Hlt Hm
                have hfin := div64_end HX.out HYy.out E1.out FE.out FL.out Hd0.out
                obtain ⟨A2, fA2⟩ : ∃ A : Nat, IntKind.u64.wrap ((u2 : Int) * 4294967296) = (A : Int) := wrap_some _
                obtain ⟨B2, fB2⟩ : ∃ B : Nat, IntKind.u64.wrap ((A2 : Int) + d0) = (B : Int) := wrap_some _
                obtain ⟨C2, fC2⟩ : ∃ C : Nat, IntKind.u64.wrap ((j : Int) * Y) = (C : Int) := wrap_some _
                obtain ⟨D2, fD2⟩ : ∃ C : Nat, IntKind.u64.wrap ((k : Int) * 4294967296) = (C : Int) := wrap_some _
                have fR := wrap_rest (u := u2) (d := d0) (z := j * Y) FE.out (Nat.lt_trans (rest_lt FE.out FL.out) HYb.out) (C := C2) fA2 fB2 (by rw [Int.natCast_mul]; exact fC2)
                have fQ := wrap_quo hfin.1 HQ.out fD2
                have HF2 := Lib.hid hfin.2
                clear hfin
                generalize u2 * 4294967296 + d0 - j * Y = R2 at fR HF2
                go_wp2_with fail
                go_ret2
                exact ⟨div_ret HF2.out, rfl⟩
        · have hbr1 : (t : Int) + n1 < 4294967296 := by omega
          have hb1 : decide ((4294967296 : Int) ≤ (t : Int) + n1) = false := by simp; omega
          clear hbr
          go_wp2_with fail
          go_round
          case rel => exact ⟨k, t + n1, by go_num, by go_num, Hr2.out, by omega, by omega, Hlt2.out⟩
          case measure => simp [DivMu, intOf]
      · have FE := Lib.hid (show k * Y ≤ U * 4294967296 + d1 by rw [HY.out]; exact digit_done Hr.out (by rw [Hm.out]; omega))
        have FL := Hlt; clear Hlt Hm
        obtain ⟨A, fA⟩ : ∃ A : Nat, IntKind.u64.wrap ((U : Int) * 4294967296) = (A : Int) := wrap_some _
        obtain ⟨B, fB⟩ : ∃ B : Nat, IntKind.u64.wrap ((A : Int) + d1) = (B : Int) := wrap_some _
        obtain ⟨C, fC⟩ : ∃ C : Nat, IntKind.u64.wrap ((k : Int) * Y) = (C : Int) := wrap_some _
        have fU := wrap_rest (u := U) (d := d1) (z := k * Y) FE.out (Nat.lt_trans (rest_lt FE.out FL.out) HYb.out) (C := C) fA fB (by rw [Int.natCast_mul]; exact fC)
        have E1 := Lib.hid (show U * 4294967296 + d1 = k * Y + (U * 4294967296 + d1 - k * Y) by have := FE.out; omega)
        have Hu2Y := Lib.hid (rest_lt FE.out FL.out)
        generalize U * 4294967296 + d1 - k * Y = u2 at fU E1 Hu2Y
        clear FE FL
        obtain ⟨q2, eqj'⟩ : ∃ q, u2 / n1 = q := ⟨_, rfl⟩
        have hq2 := digit_top HY.out Hu2Y.out (show n0 < 4294967296 by omega) (by omega)
        rw [eqj'] at hq2
        have HF2 := Lib.hid (digit_first (u := u2) (n1 := n1) (n0 := n0) (show d0 < 4294967296 by omega) (by omega))
        rw [eqj', ← HY.out] at HF2
        have eqj : (u2 : Int) / (n1 : Int) = (q2 : Int) := by rw [← eqj']; exact (Int.natCast_ediv _ _).symm
        have hqj : (q2 : Int) ≤ 4294967297 := by omega
        obtain ⟨r2, hr2⟩ : ∃ r, u2 % n1 = r := ⟨_, rfl⟩
        have hrj : (r2 : Int) < 4294967296 := by have := Nat.mod_lt u2 (show n1 > 0 by omega); omega
        have HR2 := Lib.hid (show q2 * n1 + r2 = u2 by rw [← eqj', ← hr2, Nat.mul_comm]; exact Nat.div_add_mod _ _)
        clear eqj' hr2 hq2
        obtain ⟨p2, epj⟩ : ∃ p : Nat, IntKind.u64.wrap ((q2 : Int) * n1) = (p : Int) := wrap_some _
        have erj := wrap_left HR2.out (by omega) epj
        go_wp2_with fail
        go_loop [18, 16] (DivInv u2 d0 n1 Y) (fun a _ => DivMu a)
        case atStart => exact ⟨q2, r2, rfl, rfl, HR2.out, hqj, hrj, HF2.out⟩
        case round =>
          clear eqj epj erj hqj hrj
          obtain ⟨j, t2, rfl, rfl, hr, hq, hrl, hlt⟩ := hrel
          have Hr := Lib.hid hr; clear hr
          have Hlt := Lib.hid hlt; clear hlt
          by_cases hge : (4294967296 : Int) ≤ j
          · have Hlt2 := Lib.hid (digit_hi (q := j) Hu2Y.out (show d0 < 4294967296 by omega) (by omega))
            clear Hlt
            have h0 : 0 < j := Nat.pos_of_ne_zero (fun e => by have := Hlt2.out; rw [e] at this; omega)
            obtain ⟨j, rfl⟩ : ∃ i, j = i + 1 := ⟨j - 1, by omega⟩
            have Hr2 := Lib.hid (digit_step Hr.out)
            have hgeB : decide ((4294967296 : Int) ≤ (j : Int) + 1) = true := by simp; omega
            clear h0
            by_cases hbr : (4294967296 : Int) ≤ t2 + n1
            · have FE := Lib.hid (show j * Y ≤ u2 * 4294967296 + d0 by rw [HY.out]; exact digit_brk Hr2.out (by omega) (by omega) (by omega))
              have FL := Hlt2; clear Hlt2 Hr Hr2
              have hfin := div64_end HX.out HYy.out E1.out FE.out FL.out Hd0.out
              obtain ⟨A2, fA2⟩ : ∃ A : Nat, IntKind.u64.wrap ((u2 : Int) * 4294967296) = (A : Int) := wrap_some _
              obtain ⟨B2, fB2⟩ : ∃ B : Nat, IntKind.u64.wrap ((A2 : Int) + d0) = (B : Int) := wrap_some _
              obtain ⟨C2, fC2⟩ : ∃ C : Nat, IntKind.u64.wrap ((j : Int) * Y) = (C : Int) := wrap_some _
              obtain ⟨D2, fD2⟩ : ∃ C : Nat, IntKind.u64.wrap ((k : Int) * 4294967296) = (C : Int) := wrap_some _
              have fR := wrap_rest (u := u2) (d := d0) (z := j * Y) FE.out (Nat.lt_trans (rest_lt FE.out FL.out) HYb.out) (C := C2) fA2 fB2 (by rw [Int.natCast_mul]; exact fC2)
              have fQ := wrap_quo hfin.1 HQ.out fD2
              have HF2 := Lib.hid hfin.2
              clear hfin
              generalize u2 * 4294967296 + d0 - j * Y = R2 at fR HF2
              go_wp2_with fail
              go_ret2
              exact ⟨div_ret HF2.out, rfl⟩
            · have hbr1 : (t2 : Int) + n1 < 4294967296 := by omega
              have hb1 : decide ((4294967296 : Int) ≤ (t2 : Int) + n1) = false := by simp; omega
              clear hbr
              go_wp2_with fail
              go_round
              case rel => exact ⟨j, t2 + n1, by go_num, by go_num, Hr2.out, by omega, by omega, Hlt2.out⟩
              case measure => simp [DivMu, intOf]
          · obtain ⟨m, hm⟩ : ∃ m, j * n0 = m := ⟨_, rfl⟩
            have em : IntKind.u64.wrap ((j : Int) * n0) = (m : Int) := mul_small hm (by omega) (by omega)
            have hmb := mul_small_bd hm (by omega) (by omega)
            have Hm := Lib.hid hm; clear hm
            by_cases hgt : (4294967296 : Int) * t2 + d0 < m
            · have Hlt2 := Lib.hid (show u2 * 4294967296 + d0 < j * Y by rw [HY.out]; exact digit_mul Hr.out (by rw [Hm.out]; omega))
              clear Hlt
              have h0 : 0 < j := Nat.pos_of_ne_zero (fun e => by have := Hlt2.out; rw [e] at this; omega)
              obtain ⟨j, rfl⟩ : ∃ i, j = i + 1 := ⟨j - 1, by omega⟩
              have Hr2 := Lib.hid (digit_step Hr.out)
              have hgeB : decide ((4294967296 : Int) ≤ (j : Int) + 1) = false := by simp; omega
              have em1 : IntKind.u64.wrap (((j : Int) + 1) * n0) = (m : Int) := by exact_mod_cast em
              have hgtB : decide ((4294967296 : Int) * t2 + d0 < m) = true := by simp; omega
              clear em
              clear h0
              by_cases hbr : (4294967296 : Int) ≤ t2 + n1
              · have FE := Lib.hid (show j * Y ≤ u2 * 4294967296 + d0 by rw [HY.out]; exact digit_brk Hr2.out (by omega) (by omega) (by omega))
                have FL := Hlt2; clear Hlt2 Hr Hr2
                have hfin := div64_end HX.out HYy.out E1.out FE.out FL.out Hd0.out
                obtain ⟨A2, fA2⟩ : ∃ A : Nat, IntKind.u64.wrap ((u2 : Int) * 4294967296) = (A : Int) := wrap_some _
                obtain ⟨B2, fB2⟩ : ∃ B : Nat, IntKind.u64.wrap ((A2 : Int) + d0) = (B : Int) := wrap_some _
                obtain ⟨C2, fC2⟩ : ∃ C : Nat, IntKind.u64.wrap ((j : Int) * Y) = (C : Int) := wrap_some _
                obtain ⟨D2, fD2⟩ : ∃ C : Nat, IntKind.u64.wrap ((k : Int) * 4294967296) = (C : Int) := wrap_some _
                have fR := wrap_rest (u := u2) (d := d0) (z := j * Y) FE.out (Nat.lt_trans (rest_lt FE.out FL.out) HYb.out) (C := C2) fA2 fB2 (by rw [Int.natCast_mul]; exact fC2)
                have fQ := wrap_quo hfin.1 HQ.out fD2
                have HF2 := Lib.hid hfin.2
                clear hfin
                generalize u2 * 4294967296 + d0 - j * Y = R2 at fR HF2
                go_wp2_with fail
                go_ret2
                exact ⟨div_ret HF2.out, rfl⟩
              · have hbr1 : (t2 : Int) + n1 < 4294967296 := by omega
                have hb1 : decide ((4294967296 : Int) ≤ (t2 : Int) + n1) = false := by simp; omega
                clear hbr
                go_wp2_with fail
                go_round
                case rel => exact ⟨j, t2 + n1, by go_num, by go_num, Hr2.out, by omega, by omega, Hlt2.out⟩
                case measure => simp [DivMu, intOf]
            · have FE := Lib.hid (show j * Y ≤ u2 * 4294967296 + d0 by rw [HY.out]; exact digit_done Hr.out (by rw [Hm.out]; omega))
              have FL := Hlt; clear Hlt Hm
              have hfin := div64_end HX.out HYy.out E1.out FE.out FL.out Hd0.out
              obtain ⟨A2, fA2⟩ : ∃ A : Nat, IntKind.u64.wrap ((u2 : Int) * 4294967296) = (A : Int) := wrap_some _
              obtain ⟨B2, fB2⟩ : ∃ B : Nat, IntKind.u64.wrap ((A2 : Int) + d0) = (B : Int) := wrap_some _
              obtain ⟨C2, fC2⟩ : ∃ C : Nat, IntKind.u64.wrap ((j : Int) * Y) = (C : Int) := wrap_some _
              obtain ⟨D2, fD2⟩ : ∃ C : Nat, IntKind.u64.wrap ((k : Int) * 4294967296) = (C : Int) := wrap_some _
              have fR := wrap_rest (u := u2) (d := d0) (z := j * Y) FE.out (Nat.lt_trans (rest_lt FE.out FL.out) HYb.out) (C := C2) fA2 fB2 (by rw [Int.natCast_mul]; exact fC2)
              have fQ := wrap_quo hfin.1 HQ.out fD2
              have HF2 := Lib.hid hfin.2
              clear hfin
              generalize u2 * 4294967296 + d0 - j * Y = R2 at fR HF2
              go_wp2_with fail
              go_ret2
              exact ⟨div_ret HF2.out, rfl⟩

end Go.Proofs.Ytbhdolghokhfnaa
