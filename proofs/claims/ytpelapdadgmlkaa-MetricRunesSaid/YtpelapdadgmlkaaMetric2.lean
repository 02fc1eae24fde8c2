/-
  Walks: heights of fonts, the reference's shares, the law MetricShares.
-/
import Derived.Test.YtpelapdadgmlkaaMetric
namespace Go.Proofs.Ytpelapdadgmlkaa
open Go.RowKit

theorem times_any (n font : Int) (w : World) (hn : 0 ≤ n) :
    Calls Try.prog 106 #[.int .i64 n, .int .i64 font] w fun e w' => e = .returned (.tuple #[.int .i64 (timesR n font).1, .int .i64 (timesR n font).2]) ∧ w = w' := by
  by_cases h1 : font < 1
  · have H := Lib.hid (show timesR n font = (0, 2) from if_pos (.inl h1))
    go_enter Try.func106, Try.ntmps106
    go_wp2_with fail
    go_ret2
    exact ⟨by rw [H.out]; rfl, rfl⟩
  by_cases h2 : 1000 < font
  · have H := Lib.hid (show timesR n font = (0, 2) from if_pos (.inr h2))
    go_enter Try.func106, Try.ntmps106
    go_wp2_with fail
    go_ret2
    exact ⟨by rw [H.out]; rfl, rfl⟩
  have hd : 1099511627776 / font < n ↔ 1099511627776 < n * font := Int.ediv_lt_iff_lt_mul (by omega)
  have hp : 0 ≤ n * font := Int.mul_nonneg hn (by omega)
  by_cases h3 : 1099511627776 / font < n
  · have H := Lib.hid (show timesR n font = (0, 10) from (if_neg (by omega)).trans (if_pos (hd.1 h3)))
    clear hd
    go_enter Try.func106, Try.ntmps106
    go_wp2_with fail
    go_ret2
    exact ⟨by rw [H.out]; rfl, rfl⟩
  · have hle : n * font ≤ 1099511627776 := by have := (not_congr hd).1 h3; omega
    have H := Lib.hid (show timesR n font = (n * font, 0) from (if_neg (by omega)).trans (if_neg (by omega)))
    clear hd
    go_enter Try.func106, Try.ntmps106
    go_wp2_with fail
    go_ret2
    exact ⟨by rw [H.out]; rfl, rfl⟩

theorem up_any (font : Int) (w : World) :
    Calls Try.prog 61 #[.int .i64 font] w fun e w' => e = .returned (.tuple #[.int .i64 (timesR 60 font).1, .int .i64 (timesR 60 font).2]) ∧ w = w' := by
  have h := times_any 60 font w (by omega)
  go_enter Try.func61, Try.ntmps61
  go_wp2_with (go_at_call 106; refine h.mono ?_; rintro e w' ⟨rfl, rfl⟩)
  go_ret2
  exact ⟨rfl, rfl⟩
theorem down_any (font : Int) (w : World) :
    Calls Try.prog 63 #[.int .i64 font] w fun e w' => e = .returned (.tuple #[.int .i64 (timesR 20 font).1, .int .i64 (timesR 20 font).2]) ∧ w = w' := by
  have h := times_any 20 font w (by omega)
  go_enter Try.func63, Try.ntmps63
  go_wp2_with (go_at_call 106; refine h.mono ?_; rintro e w' ⟨rfl, rfl⟩)
  go_ret2
  exact ⟨rfl, rfl⟩
theorem rup (font : Int) (w : World) :
    Calls Try.prog 62 #[.int .i64 font] w fun e w' => e = .returned (.tuple #[.int .i64 (timesR 60 font).1, .int .i64 (timesR 60 font).2]) ∧ w = w' := by
  by_cases h1 : font < 1
  · have H := Lib.hid (show timesR 60 font = (0, 2) from if_pos (.inl h1))
    go_enter Try.func62, Try.ntmps62
    go_wp2_with fail
    go_ret2
    exact ⟨by rw [H.out]; rfl, rfl⟩
  by_cases h2 : 1000 < font
  · have H := Lib.hid (show timesR 60 font = (0, 2) from if_pos (.inr h2))
    go_enter Try.func62, Try.ntmps62
    go_wp2_with fail
    go_ret2
    exact ⟨by rw [H.out]; rfl, rfl⟩
  have H := Lib.hid (show timesR 60 font = (60 * font, 0) from (if_neg (by omega)).trans (if_neg (by omega)))
  go_enter Try.func62, Try.ntmps62
  go_wp2_with fail
  go_ret2
  exact ⟨by rw [H.out]; rfl, rfl⟩
theorem rdown (font : Int) (w : World) :
    Calls Try.prog 64 #[.int .i64 font] w fun e w' => e = .returned (.tuple #[.int .i64 (timesR 20 font).1, .int .i64 (timesR 20 font).2]) ∧ w = w' := by
  by_cases h1 : font < 1
  · have H := Lib.hid (show timesR 20 font = (0, 2) from if_pos (.inl h1))
    go_enter Try.func64, Try.ntmps64
    go_wp2_with fail
    go_ret2
    exact ⟨by rw [H.out]; rfl, rfl⟩
  by_cases h2 : 1000 < font
  · have H := Lib.hid (show timesR 20 font = (0, 2) from if_pos (.inr h2))
    go_enter Try.func64, Try.ntmps64
    go_wp2_with fail
    go_ret2
    exact ⟨by rw [H.out]; rfl, rfl⟩
  have H := Lib.hid (show timesR 20 font = (20 * font, 0) from (if_neg (by omega)).trans (if_neg (by omega)))
  go_enter Try.func64, Try.ntmps64
  go_wp2_with fail
  go_ret2
  exact ⟨by rw [H.out]; rfl, rfl⟩

theorem memb_take (s : ByteArray) (r : Int) (k : Nat) (hk : k < s.size) (h : memb (s.data.toList.take k) r = false) (hne : ((s[k].toNat : Int) == r) = false) : memb (s.data.toList.take (k + 1)) r = false := by
  rw [List.take_succ_eq_append_getElem (by simpa using hk)]
  unfold memb at h ⊢
  have e : s.data.toList[k]'(by simpa using hk) = s[k] := by rw [Array.getElem_toList]; rfl
  rw [List.any_append, h, e]
  simpa using hne
theorem memb_at (s : ByteArray) (r : Int) (k : Nat) (hk : k < s.size) (he : ((s[k].toNat : Int) == r) = true) : memb s.data.toList r = true :=
  List.any_eq_true.2 ⟨s[k], get_mem s k hk, he⟩

theorem has_any (s : ByteArray) (r : Int) (w : World) (hs : s.size ≤ 9223372036854775807) :
    Calls Try.prog 108 #[.string s, .int .i32 r] w fun e w' => e = .returned (.bool (memb s.data.toList r)) ∧ w = w' := by
  go_enter Try.func108, Try.ntmps108
  go_wp2_with fail
  go_loop [5] (fun i => ∃ k : Nat, k ≤ s.size ∧ i = .int .i64 k ∧ Hid (memb (s.data.toList.take k) r = false)) (fun i => s.size - (intOf i).toNat)
  case atStart => exact ⟨0, by omega, rfl, rfl⟩
  case round =>
    obtain ⟨k, hk, rfl, H⟩ := hrel
    by_cases hlt : k < s.size
    · have hb := s[k].toNat_lt
      cases he : ((s[k].toNat : Int) == r) with
      | true =>
        have HE := Lib.hid (memb_at s r k hlt he)
        go_wp2_with fail
        go_ret
        exact ⟨by rw [HE.out]; rfl, rfl⟩
      | false =>
        have HE := Lib.hid (memb_take s r k hlt H.out he)
        go_wp2_with fail
        go_round
        case rel => exact ⟨k + 1, by omega, by go_num, HE⟩
        case measure => simp [intOf]; omega
    · go_wp2_with fail
      go_ret
      refine ⟨?_, rfl⟩
      have h := H.out
      rw [List.take_of_length_le (by simp; omega)] at h
      rw [h]; rfl

set_option maxRecDepth 100000 in
theorem rshare (r : Int) (w : World) (b1 : -2147483648 ≤ r) (b2 : r ≤ 2147483647) :
    Calls Try.prog 66 #[.int .i32 r] w fun e w' => e = .returned (.int .i64 (share r)) ∧ w = w' := by
  rw [share_eq r b1 b2]
  unfold share'
  have c1 := has_any ⟨thin'.toArray⟩ r w (by simp [ByteArray.size, thin'])
  have c2 := has_any ⟨wide.toArray⟩ r w (by simp [ByteArray.size, wide])
  simp only [] at c1 c2
  by_cases g0 : 768 ≤ r ∧ r ≤ 879
  · rw [if_pos g0]
    obtain ⟨g1, g2⟩ := g0
    go_enter Try.func66, Try.ntmps66
    go_wp2_with fail
    go_ret
    exact ⟨rfl, rfl⟩
  rw [if_neg g0]
  have n0 : (decide (768 ≤ r) && decide (r ≤ 879)) = false := by simp; omega
  by_cases e10 : r = 10
  · subst e10
    rw [if_pos (by omega)]
    clear g0 n0 c1 c2
    go_enter Try.func66, Try.ntmps66
    go_wp2_with fail
    go_ret
    exact ⟨rfl, rfl⟩
  by_cases e32 : r = 32
  · subst e32
    rw [if_pos (by omega)]
    clear g0 n0 c1 c2
    go_enter Try.func66, Try.ntmps66
    go_wp2_with fail
    go_ret
    exact ⟨rfl, rfl⟩
  have q10 : (r == 10) = false := by simp [e10]
  have q32 : (r == 32) = false := by simp [e32]
  by_cases h32 : r < 32
  · have f1 : memb thin' r = false := by
      cases h : memb thin' r with
      | false => rfl
      | true => have := memb_thin'_bd r h; omega
    rw [if_neg (by simp [e10, e32, f1]), if_pos h32]
    clear c1 c2 f1 g0 e10 e32
    go_enter Try.func66, Try.ntmps66
    go_wp2_with fail
    go_ret
    exact ⟨rfl, rfl⟩
  have g33 : 32 < r := by omega
  by_cases h128 : r < 128
  · have g768 : ¬ 768 ≤ r := by omega
    clear g0 n0
    cases f1 : memb thin' r with
    | true =>
      rw [if_pos (by simp)]
      have hc1 := c1
      rw [f1] at hc1
      clear c1 c2 f1 e10 e32
      go_enter Try.func66, Try.ntmps66
      go_wp2_with fail
      refine hc1.mono ?_
      rintro e w' ⟨rfl, rfl⟩
      go_wp2_with fail
      go_ret
      exact ⟨rfl, rfl⟩
    | false =>
      rw [if_neg (by simp [e10, e32]), if_neg h32]
      have hc1 := c1
      rw [f1] at hc1
      cases f2 : memb wide r with
      | true =>
        rw [if_pos rfl]
        have hc2 := c2
        rw [f2] at hc2
        clear c1 c2 f1 f2 e10 e32
        go_enter Try.func66, Try.ntmps66
        go_wp2_with fail
        refine hc1.mono ?_
        rintro e w' ⟨rfl, rfl⟩
        go_wp2_with fail
        refine hc2.mono ?_
        rintro e w' ⟨rfl, rfl⟩
        go_wp2_with fail
        go_ret
        exact ⟨rfl, rfl⟩
      | false =>
        rw [if_neg (by simp)]
        have hc2 := c2
        rw [f2] at hc2
        clear c1 c2 f1 f2 e10 e32
        by_cases g65 : 65 ≤ r
        · by_cases g90 : r ≤ 90
          · rw [if_pos ⟨g65, g90⟩]
            go_enter Try.func66, Try.ntmps66
            go_wp2_with fail
            refine hc1.mono ?_
            rintro e w' ⟨rfl, rfl⟩
            go_wp2_with fail
            refine hc2.mono ?_
            rintro e w' ⟨rfl, rfl⟩
            go_wp2_with fail
            go_ret
            exact ⟨rfl, rfl⟩
          · rw [if_neg (by omega), if_neg (by omega)]
            go_enter Try.func66, Try.ntmps66
            go_wp2_with fail
            refine hc1.mono ?_
            rintro e w' ⟨rfl, rfl⟩
            go_wp2_with fail
            refine hc2.mono ?_
            rintro e w' ⟨rfl, rfl⟩
            go_wp2_with fail
            go_ret
            exact ⟨rfl, rfl⟩
        · rw [if_neg (by omega), if_neg (by omega)]
          go_enter Try.func66, Try.ntmps66
          go_wp2_with fail
          refine hc1.mono ?_
          rintro e w' ⟨rfl, rfl⟩
          go_wp2_with fail
          refine hc2.mono ?_
          rintro e w' ⟨rfl, rfl⟩
          go_wp2_with fail
          go_ret
          exact ⟨rfl, rfl⟩
  · have f1 : memb thin' r = false := by
      cases h : memb thin' r with
      | false => rfl
      | true => have := memb_thin'_bd r h; omega
    have f2 : memb wide r = false := by
      cases h : memb wide r with
      | false => rfl
      | true => have := memb_wide_bd r h; omega
    rw [if_neg (by simp [e10, e32, f1]), if_neg h32, if_neg (by simp [f2]), if_neg (by omega)]
    clear c1 c2 f1 f2 e10 e32
    by_cases g5 : 4352 ≤ r
    · rw [if_pos g5]
      clear g0 n0
      go_enter Try.func66, Try.ntmps66
      go_wp2_with fail
      go_ret
      exact ⟨rfl, rfl⟩
    · rw [if_neg g5]
      by_cases g768 : 768 ≤ r
      · have g879 : ¬ r ≤ 879 := by omega
        clear g0 n0
        go_enter Try.func66, Try.ntmps66
        go_wp2_with fail
        go_ret
        exact ⟨rfl, rfl⟩
      · clear g0 n0
        go_enter Try.func66, Try.ntmps66
        go_wp2_with fail
        go_ret
        exact ⟨rfl, rfl⟩

theorem i32_bounds {n : Int} (h : (Lit.int .i32 n).wf = true) : -2147483648 ≤ n ∧ n ≤ 2147483647 := by
  simp [Lit.wf, IntKind.min, IntKind.max, IntKind.signed, IntKind.bits] at h
  exact ⟨by omega, by omega⟩

set_option maxRecDepth 100000 in
theorem metricShares_walk (r font : Int) (w : World) (b1 : -2147483648 ≤ r) (b2 : r ≤ 2147483647) :
    LawReturns 8 #[.int .i32 r, .int .i64 font] w := by
  unfold LawReturns
  have h1 := fun w => up_any font w
  have h2 := fun w => rup font w
  have h3 := fun w => down_any font w
  have h4 := fun w => rdown font w
  have h5 := fun w => share_any r w
  have h6 := fun w => rshare r w b1 b2
  generalize timesR 60 font = x at *
  generalize timesR 20 font = y at *
  generalize share r = z at *
  obtain ⟨x1, x2⟩ := x
  obtain ⟨y1, y2⟩ := y
  go_enter Try.func8, Try.ntmps8
  go_wp2_with fail
  refine (h1 _).mono ?_
  rintro e w1 ⟨rfl, rfl⟩
  go_wp2_with fail
  refine (h2 _).mono ?_
  rintro e w1 ⟨rfl, rfl⟩
  go_wp2_with fail
  refine (h3 _).mono ?_
  rintro e w1 ⟨rfl, rfl⟩
  go_wp2_with fail
  refine (h4 _).mono ?_
  rintro e w1 ⟨rfl, rfl⟩
  go_wp2_with fail
  refine (h5 _).mono ?_
  rintro e w1 ⟨rfl, hb1⟩
  go_wp2_with fail
  refine (h6 _).mono ?_
  rintro e w2 ⟨rfl, rfl⟩
  go_wp2_with fail
  go_ret
  exact ⟨rfl, hb1⟩

end Go.Proofs.Ytpelapdadgmlkaa
