/-
  Walks: the law FixedBack.
-/
import Derived.Test.YtpelapdadgmlkaaAwake01
namespace Go.Proofs.Ytpelapdadgmlkaa
open Go.RowKit

/-- A number, brought to a length. -/
def lenOf (n : Int) : Int := n.tmod 1099511627777
theorem lenOf_bd (n : Int) : -1099511627776 ≤ lenOf n ∧ lenOf n ≤ 1099511627776 := by
  unfold lenOf
  have h1 := Int.tmod_lt_of_pos n (show (0 : Int) < 1099511627777 by omega)
  have h2 := Int.lt_tmod_of_pos n (show (0 : Int) < 1099511627777 by omega)
  omega
theorem lenOf_fit (n : Int) : fit (lenOf n) = true := (fit_iff _).2 (lenOf_bd n)
theorem length_any (n : Int) (w : World) : Calls Try.prog 80 #[.int .i64 n] w fun e w' => e = .returned (.int .i64 (lenOf n)) ∧ w = w' := by
  have hb := lenOf_bd n
  have H := Lib.hid (show n.tmod 1099511627777 = lenOf n from rfl)
  have hw : IntKind.i64.wrap (n.tmod 1099511627777) = lenOf n := by
    rw [H.out, IntKind.wrap_i64]
    omega
  go_enter Try.func80, Try.ntmps80
  go_wp2_with fail
  go_ret
  exact ⟨by first | rfl | (rw [← H.out]; rfl), rfl⟩

theorem add2 (a b x c : Int) (h : addR [a, b] = (x, c)) (w : World) :
    Calls Try.prog 39 #[.slice (some ⟨w.heap.size, 0, none⟩) 2 2] (w.alloc (.cells #[.int .i64 a, .int .i64 b] 3)) fun e w' => e = .returned (.tuple #[.int .i64 x, .int .i64 c]) ∧ Below w.heap.size w w' := by
  have h1 := add_any [a, b] _ _ _ (Ints.built w [a, b] 3) (by simp)
  rw [h] at h1
  exact h1.mono fun e w' ⟨he, hb⟩ => ⟨he, below_alloc hb⟩
theorem sub2 (a b x c : Int) (h : subR a b = (x, c)) (w : World) :
    Calls Try.prog 53 #[.int .i64 a, .int .i64 b] w fun e w' => e = .returned (.tuple #[.int .i64 x, .int .i64 c]) ∧ Below w.heap.size w w' := by
  have h1 := sub_any a b w
  rwa [h] at h1
theorem addR_ok {a b : Int} (ha : fit a = true) (hb : fit b = true) (h : fit (a + b) = true) : addR [a, b] = (a + b, 0) := by
  have : [a, b].sum = a + b := by simp
  unfold addR
  rw [this]
  exact told_yes (by simp [ha, hb]) h
theorem addR_no {a b : Int} (h : fit (a + b) = false) : addR [a, b] = (0, 10) := by
  have : [a, b].sum = a + b := by simp
  unfold addR
  rw [this]
  exact told_no2 h
theorem subR_ok {a b : Int} (ha : fit a = true) (hb : fit b = true) (h : fit (a - b) = true) : subR a b = (a - b, 0) := told_yes (by simp [ha, hb]) h
theorem subR_no {a b : Int} (h : fit (a - b) = false) : subR a b = (0, 10) := told_no2 h

set_option maxRecDepth 100000 in
set_option maxHeartbeats 1000000 in
theorem fixedBack_walk (n m : Int) (w : World) : LawReturns 25 #[.int .i64 n, .int .i64 m] w := by
  unfold LawReturns
  have hn := fun W => length_any n W
  have hm := fun W => length_any m W
  obtain ⟨ba1, ba2⟩ := lenOf_bd n
  obtain ⟨bb1, bb2⟩ := lenOf_bd m
  have fa := lenOf_fit n
  have fb := lenOf_fit m
  generalize lenOf n = a at *
  generalize lenOf m = b at *
  cases hs : fit (a + b) <;> cases hd : fit (a - b)
  · have s1 := (fit_false _).1 hs
    have d1 := (fit_false _).1 hd
    have ha := fun W => add2 a b 0 10 (addR_no hs) W
    have hd' := fun W => sub2 a b 0 10 (subR_no hd) W
    have hf := fun W => fits_one (a - b) 3 W
    rw [hd] at hf
    clear hs hd fa fb d1
    rcases s1 with s1 | s1
    · have o1 : ¬ 1099511627776 < a + b := by omega
      go_enter Try.func25, Try.ntmps25
      go_wp2_with fail
      refine (awake01 _).mono ?_
      rintro e w1 ⟨rfl, h1⟩
      go_wp2_with fail
      refine (hn _).mono ?_
      rintro e w2 ⟨rfl, rfl⟩
      go_wp2_with fail
      refine (hm _).mono ?_
      rintro e w2 ⟨rfl, rfl⟩
      go_wp2_with fail
      refine (ha _).mono ?_
      rintro e w2 ⟨rfl, h2⟩
      go_wp2_with fail
      refine (hd' _).mono ?_
      rintro e w3 ⟨rfl, h3⟩
      go_wp2_with fail
      refine (hf _).mono ?_
      rintro e w5 ⟨rfl, rfl⟩
      go_wp2_with fail
      go_ret
      have hb := below2 (below2 h1 h2) h3
      exact ⟨by simp, hb.alloc hb.size _⟩
    · go_enter Try.func25, Try.ntmps25
      go_wp2_with fail
      refine (awake01 _).mono ?_
      rintro e w1 ⟨rfl, h1⟩
      go_wp2_with fail
      refine (hn _).mono ?_
      rintro e w2 ⟨rfl, rfl⟩
      go_wp2_with fail
      refine (hm _).mono ?_
      rintro e w2 ⟨rfl, rfl⟩
      go_wp2_with fail
      refine (ha _).mono ?_
      rintro e w2 ⟨rfl, h2⟩
      go_wp2_with fail
      refine (hd' _).mono ?_
      rintro e w3 ⟨rfl, h3⟩
      go_wp2_with fail
      refine (hf _).mono ?_
      rintro e w5 ⟨rfl, rfl⟩
      go_wp2_with fail
      go_ret
      have hb := below2 (below2 h1 h2) h3
      exact ⟨by simp, hb.alloc hb.size _⟩
  · have s1 := (fit_false _).1 hs
    have d1 := (fit_iff _).1 hd
    have ha := fun W => add2 a b 0 10 (addR_no hs) W
    have hd' := fun W => sub2 a b (a - b) 0 (subR_ok fa fb hd) W
    have hy := fun W => add2 (a - b) b a 0 ((addR_ok hd fb (by rw [show a - b + b = a by omega]; exact fa)).trans (by rw [show a - b + b = a by omega])) W
    clear hs hd fa fb d1
    rcases s1 with s1 | s1
    · have o1 : ¬ 1099511627776 < a + b := by omega
      go_enter Try.func25, Try.ntmps25
      go_wp2_with fail
      refine (awake01 _).mono ?_
      rintro e w1 ⟨rfl, h1⟩
      go_wp2_with fail
      refine (hn _).mono ?_
      rintro e w2 ⟨rfl, rfl⟩
      go_wp2_with fail
      refine (hm _).mono ?_
      rintro e w2 ⟨rfl, rfl⟩
      go_wp2_with fail
      refine (ha _).mono ?_
      rintro e w2 ⟨rfl, h2⟩
      go_wp2_with fail
      refine (hd' _).mono ?_
      rintro e w3 ⟨rfl, h3⟩
      go_wp2_with fail
      refine (hy _).mono ?_
      rintro e w5 ⟨rfl, h5⟩
      go_wp2_with fail
      go_ret
      exact ⟨by simp, below2 (below2 (below2 h1 h2) h3) h5⟩
    · go_enter Try.func25, Try.ntmps25
      go_wp2_with fail
      refine (awake01 _).mono ?_
      rintro e w1 ⟨rfl, h1⟩
      go_wp2_with fail
      refine (hn _).mono ?_
      rintro e w2 ⟨rfl, rfl⟩
      go_wp2_with fail
      refine (hm _).mono ?_
      rintro e w2 ⟨rfl, rfl⟩
      go_wp2_with fail
      refine (ha _).mono ?_
      rintro e w2 ⟨rfl, h2⟩
      go_wp2_with fail
      refine (hd' _).mono ?_
      rintro e w3 ⟨rfl, h3⟩
      go_wp2_with fail
      refine (hy _).mono ?_
      rintro e w5 ⟨rfl, h5⟩
      go_wp2_with fail
      go_ret
      exact ⟨by simp, below2 (below2 (below2 h1 h2) h3) h5⟩
  · have s1 := (fit_iff _).1 hs
    have d1 := (fit_false _).1 hd
    have ha := fun W => add2 a b (a + b) 0 (addR_ok fa fb hs) W
    have hx := fun W => sub2 (a + b) b a 0 ((subR_ok hs fb (by rw [show a + b - b = a by omega]; exact fa)).trans (by rw [show a + b - b = a by omega])) W
    have hd' := fun W => sub2 a b 0 10 (subR_no hd) W
    have hf := fun W => fits_one (a - b) 3 W
    rw [hd] at hf
    have o1 : ¬ 1099511627776 < a + b := by omega
    have o2 : ¬ a + b < -1099511627776 := by omega
    clear s1
    clear hs hd fa fb d1
    go_enter Try.func25, Try.ntmps25
    go_wp2_with fail
    refine (awake01 _).mono ?_
    rintro e w1 ⟨rfl, h1⟩
    go_wp2_with fail
    refine (hn _).mono ?_
    rintro e w2 ⟨rfl, rfl⟩
    go_wp2_with fail
    refine (hm _).mono ?_
    rintro e w2 ⟨rfl, rfl⟩
    go_wp2_with fail
    refine (ha _).mono ?_
    rintro e w2 ⟨rfl, h2⟩
    go_wp2_with fail
    refine (hd' _).mono ?_
    rintro e w3 ⟨rfl, h3⟩
    go_wp2_with fail
    refine (hx _).mono ?_
    rintro e w4 ⟨rfl, h4⟩
    go_wp2_with fail
    refine (hf _).mono ?_
    rintro e w5 ⟨rfl, rfl⟩
    go_wp2_with fail
    go_ret
    have hb := below2 (below2 (below2 h1 h2) h3) h4
    exact ⟨by simp, hb.alloc hb.size _⟩
  · have s1 := (fit_iff _).1 hs
    have d1 := (fit_iff _).1 hd
    have ha := fun W => add2 a b (a + b) 0 (addR_ok fa fb hs) W
    have hx := fun W => sub2 (a + b) b a 0 ((subR_ok hs fb (by rw [show a + b - b = a by omega]; exact fa)).trans (by rw [show a + b - b = a by omega])) W
    have hd' := fun W => sub2 a b (a - b) 0 (subR_ok fa fb hd) W
    have hy := fun W => add2 (a - b) b a 0 ((addR_ok hd fb (by rw [show a - b + b = a by omega]; exact fa)).trans (by rw [show a - b + b = a by omega])) W
    have o1 : ¬ 1099511627776 < a + b := by omega
    have o2 : ¬ a + b < -1099511627776 := by omega
    clear s1
    clear hs hd fa fb d1
    go_enter Try.func25, Try.ntmps25
    go_wp2_with fail
    refine (awake01 _).mono ?_
    rintro e w1 ⟨rfl, h1⟩
    go_wp2_with fail
    refine (hn _).mono ?_
    rintro e w2 ⟨rfl, rfl⟩
    go_wp2_with fail
    refine (hm _).mono ?_
    rintro e w2 ⟨rfl, rfl⟩
    go_wp2_with fail
    refine (ha _).mono ?_
    rintro e w2 ⟨rfl, h2⟩
    go_wp2_with fail
    refine (hd' _).mono ?_
    rintro e w3 ⟨rfl, h3⟩
    go_wp2_with fail
    refine (hx _).mono ?_
    rintro e w4 ⟨rfl, h4⟩
    go_wp2_with fail
    refine (hy _).mono ?_
    rintro e w5 ⟨rfl, h5⟩
    go_wp2_with fail
    go_ret
    exact ⟨by simp, below2 (below2 (below2 (below2 h1 h2) h3) h4) h5⟩
end Go.Proofs.Ytpelapdadgmlkaa
