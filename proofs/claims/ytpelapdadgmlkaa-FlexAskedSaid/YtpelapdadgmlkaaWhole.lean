/-
  Walks: the law FixedWhole.
-/
import Derived.Test.YtpelapdadgmlkaaBack
namespace Go.Proofs.Ytpelapdadgmlkaa
open Go.RowKit

theorem partR_of {n a p : Int} (h0 : 0 ≤ n) (h1 : n ≤ 100000) (ha : 0 ≤ a) (ha2 : a ≤ 1099511627776) (hp : n * a = p) : partR n a = if fit (p / 10000) = true then (p / 10000, 0) else (0, 10) := by
  have h2 : 0 ≤ p := by rw [← hp]; exact Int.mul_nonneg h0 ha
  unfold partR
  rw [if_neg (by omega), if_pos ((fit_iff a).2 (by omega)), hp, Int.tdiv_eq_ediv_of_nonneg h2]
  cases h : fit (p / 10000) with
  | true => rw [if_pos rfl]; exact told_yes (by simp) h
  | false => rw [if_neg (by simp)]; exact told_no2 h
theorem part_at (n a x c : Int) (h : partR n a = (x, c)) (w : World) :
    Calls Try.prog 57 #[.int .i64 n, .int .i64 a] w fun e w' => e = .returned (.tuple #[.int .i64 x, .int .i64 c]) ∧ Below w.heap.size w w' := by
  have h1 := part_any n a w
  rwa [h] at h1
theorem prod_bd {n a : Int} (h0 : 0 ≤ n) (h1 : n ≤ 100000) (ha : 0 ≤ a) (ha2 : a ≤ 1099511627776) : 0 ≤ n * a ∧ n * a ≤ 109951162777600000 := by
  refine ⟨Int.mul_nonneg h0 ha, ?_⟩
  have h2 : n * a ≤ 100000 * 1099511627776 := Int.mul_le_mul h1 ha2 ha (by omega)
  omega

set_option maxRecDepth 100000 in
set_option maxHeartbeats 2000000 in
theorem whole_main (a b n m p x y z cx vx cy vy cz vz : Int) (w : World) (g1 : 0 ≤ a) (g2 : a ≤ b) (g3 : b ≤ 1099511627776) (g4 : 0 ≤ n) (g5 : n ≤ m) (g6 : m ≤ 100000)
    (hw : Hid (partR 10000 a = (a, 0))) (hx : Hid (partR n a = (vx, cx))) (hy : Hid (partR n b = (vy, cy))) (hz : Hid (partR m a = (vz, cz))) (hp : IntKind.i64.wrap (n * a) = p) (p0 : 0 ≤ p) (p1 : p ≤ 109951162777600000)
    (dx : 10000 * x ≤ p) (dx2 : p < 10000 * x + 10000) (hxy : x ≤ y) (hxz : x ≤ z) (kx : cx = 0 ∧ vx = x ∨ cx = 10 ∧ vx = 0 ∧ cy = 10 ∧ cz = 10) (ky : cy = 0 ∧ vy = y ∨ cy = 10 ∧ vy = 0) (kz : cz = 0 ∧ vz = z ∨ cz = 10 ∧ vz = 0) :
    LawReturns 23 #[.int .i64 a, .int .i64 b, .int .i64 n, .int .i64 m] w := by
  unfold LawReturns
  have e1 := fun W => part_at 10000 a a 0 hw.out W
  have e2 := fun W => part_at n a vx cx hx.out W
  have e3 := fun W => part_at n b vy cy hy.out W
  have e4 := fun W => part_at m a vz cz hz.out W
  have o1 : ¬ a < 0 := by omega
  have o2 : ¬ b < a := by omega
  have o3 : ¬ 1099511627776 < b := by omega
  have o4 : ¬ n < 0 := by omega
  have o5 : ¬ m < n := by omega
  have o6 : ¬ 100000 < m := by omega
  have o7 : ¬ p < 10000 * x := by omega
  have o8 : ¬ 10000 * x + 10000 ≤ p := by omega
  rcases kx with ⟨rfl, rfl⟩ | ⟨rfl, rfl, rfl, rfl⟩
  · rcases ky with ⟨rfl, rfl⟩ | ⟨rfl, rfl⟩ <;> rcases kz with ⟨rfl, rfl⟩ | ⟨rfl, rfl⟩
    all_goals
      go_enter Try.func23, Try.ntmps23
      go_wp2_with fail
      refine (awake01 _).mono ?_
      rintro e w1 ⟨rfl, h1⟩
      go_wp2_with fail
      refine (e1 _).mono ?_
      rintro e w2 ⟨rfl, h2⟩
      go_wp2_with fail
      refine (e2 _).mono ?_
      rintro e w3 ⟨rfl, h3⟩
      go_wp2_with fail
      refine (e3 _).mono ?_
      rintro e w4 ⟨rfl, h4⟩
      go_wp2_with fail
      refine (e4 _).mono ?_
      rintro e w5 ⟨rfl, h5⟩
      go_wp2_with fail
      go_ret
      exact ⟨by first | rfl | simp, below2 (below2 (below2 (below2 h1 h2) h3) h4) h5⟩
  · rcases ky with ⟨h, _⟩ | ⟨_, rfl⟩
    · omega
    rcases kz with ⟨h, _⟩ | ⟨_, rfl⟩
    · omega
    go_enter Try.func23, Try.ntmps23
    go_wp2_with fail
    refine (awake01 _).mono ?_
    rintro e w1 ⟨rfl, h1⟩
    go_wp2_with fail
    refine (e1 _).mono ?_
    rintro e w2 ⟨rfl, h2⟩
    go_wp2_with fail
    refine (e2 _).mono ?_
    rintro e w3 ⟨rfl, h3⟩
    go_wp2_with fail
    refine (e3 _).mono ?_
    rintro e w4 ⟨rfl, h4⟩
    go_wp2_with fail
    refine (e4 _).mono ?_
    rintro e w5 ⟨rfl, h5⟩
    go_wp2_with fail
    go_ret
    exact ⟨by first | rfl | simp, below2 (below2 (below2 (below2 h1 h2) h3) h4) h5⟩

set_option maxRecDepth 100000 in
theorem fixedWhole_walk (a b n m : Int) (w : World) : LawReturns 23 #[.int .i64 a, .int .i64 b, .int .i64 n, .int .i64 m] w := by
  by_cases g1 : a < 0
  · go_enter Try.func23, Try.ntmps23
    go_wp2_with fail
    refine (awake01 _).mono ?_
    rintro e w1 ⟨rfl, h1⟩
    go_wp2_with fail
    go_ret
    exact ⟨rfl, h1⟩
  by_cases g2 : b < a
  · go_enter Try.func23, Try.ntmps23
    go_wp2_with fail
    refine (awake01 _).mono ?_
    rintro e w1 ⟨rfl, h1⟩
    go_wp2_with fail
    go_ret
    exact ⟨rfl, h1⟩
  by_cases g3 : 1099511627776 < b
  · go_enter Try.func23, Try.ntmps23
    go_wp2_with fail
    refine (awake01 _).mono ?_
    rintro e w1 ⟨rfl, h1⟩
    go_wp2_with fail
    go_ret
    exact ⟨rfl, h1⟩
  by_cases g4 : n < 0
  · go_enter Try.func23, Try.ntmps23
    go_wp2_with fail
    refine (awake01 _).mono ?_
    rintro e w1 ⟨rfl, h1⟩
    go_wp2_with fail
    go_ret
    exact ⟨rfl, h1⟩
  by_cases g5 : m < n
  · go_enter Try.func23, Try.ntmps23
    go_wp2_with fail
    refine (awake01 _).mono ?_
    rintro e w1 ⟨rfl, h1⟩
    go_wp2_with fail
    go_ret
    exact ⟨rfl, h1⟩
  by_cases g6 : 100000 < m
  · go_enter Try.func23, Try.ntmps23
    go_wp2_with fail
    refine (awake01 _).mono ?_
    rintro e w1 ⟨rfl, h1⟩
    go_wp2_with fail
    go_ret
    exact ⟨rfl, h1⟩
  obtain ⟨p0, p1⟩ := prod_bd (n := n) (a := a) (by omega) (by omega) (by omega) (by omega)
  have hq : n * a ≤ n * b := Int.mul_le_mul_of_nonneg_left (by omega) (by omega)
  have hr : n * a ≤ m * a := Int.mul_le_mul_of_nonneg_right (by omega) (by omega)
  have hw : partR 10000 a = (a, 0) := by
    rw [partR_of (by omega) (by omega) (by omega) (by omega) rfl, show 10000 * a / 10000 = a by omega, if_pos ((fit_iff a).2 (by omega))]
  have hx := partR_of (n := n) (a := a) (by omega) (by omega) (by omega) (by omega) rfl
  have hy := partR_of (n := n) (a := b) (by omega) (by omega) (by omega) (by omega) rfl
  have hz := partR_of (n := m) (a := a) (by omega) (by omega) (by omega) (by omega) rfl
  have hp : IntKind.i64.wrap (n * a) = n * a := by rw [IntKind.wrap_i64]; omega
  generalize hP : n * a = P at *
  generalize n * b = Q at *
  generalize m * a = R at *
  have key : ∀ A : Int, ∃ v c, (if fit (A / 10000) = true then (A / 10000, (0 : Int)) else (0, 10)) = (v, c) ∧ (c = 0 ∧ v = A / 10000 ∧ A / 10000 ≤ 1099511627776 ∨ c = 10 ∧ v = 0 ∧ (1099511627776 < A / 10000 ∨ A / 10000 < -1099511627776)) := by
    intro A
    cases h : fit (A / 10000) with
    | true => exact ⟨_, _, if_pos rfl, .inl ⟨rfl, rfl, ((fit_iff _).1 h).2⟩⟩
    | false => exact ⟨0, 10, if_neg (by simp), .inr ⟨rfl, rfl, ((fit_false _).1 h).symm⟩⟩
  obtain ⟨vx, cx, ex, kx⟩ := key P
  obtain ⟨vy, cy, ey, ky⟩ := key Q
  obtain ⟨vz, cz, ez, kz⟩ := key R
  exact whole_main a b n m P (P / 10000) (Q / 10000) (R / 10000) cx vx cy vy cz vz w (by omega) (by omega) (by omega) (by omega) (by omega) (by omega) hw (hx.trans ex) (hy.trans ey) (hz.trans ez) (by rw [hP]; exact hp) p0 p1 (by omega) (by omega) (by omega) (by omega) (by omega) (by omega) (by omega)
end Go.Proofs.Ytpelapdadgmlkaa
