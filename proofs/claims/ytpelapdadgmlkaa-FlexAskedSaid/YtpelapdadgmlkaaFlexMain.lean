/-
  Walks: package flex: weights, more, Main: what each call answers.
-/
import Derived.Test.YtpelapdadgmlkaaShareWalk
import Derived.Test.YtpelapdadgmlkaaBack
import Derived.Deep.RegionHeld3
namespace Go.Proofs.Ytpelapdadgmlkaa
open Go.RowKit

/-! Plain. -/
def wgAt (n : Nat) (a b c : Int) (i : Nat) : Int := if i = 0 then a else if i = n then c else b
def wgTo (n : Nat) (a b c : Int) (k : Nat) : List Int := (List.range k).map (wgAt n a b c)
def wgts (n : Nat) (a b c : Int) : List Int := wgTo n a b c (n + 1)
theorem wgTo_succ (n : Nat) (a b c : Int) (k : Nat) : wgTo n a b c (k + 1) = wgTo n a b c k ++ [wgAt n a b c k] := by simp [wgTo, List.range_succ]
theorem wgTo_len (n : Nat) (a b c : Int) (k : Nat) : (wgTo n a b c k).length = k := by simp [wgTo]

def WgA (n : Nat) (a b c : Int) (base : Nat) (w1 : World) (l i : Value) (wr : World) : Prop :=
  ∃ k : Nat, k ≤ n + 1 ∧ i = .int .i64 k ∧ Owns wr base l (wgTo n a b c k) ∧ Below base w1 wr

set_option maxRecDepth 100000 in
set_option maxHeartbeats 4000000 in
theorem weights_any (n : Nat) (hn : n ≤ 300) (a b c : Int) (w : World) :
    Calls Try.prog 142 #[.int .i64 n, .agg #[.int .i64 a, .int .i64 b, .int .i64 c]] w (CopyPost (wgts n a b c) w) := by
  go_enter Try.func142, Try.ntmps142
  go_wp2_with fail
  have hb0 : Below w.heap.size w (w.alloc (.cells #[.int .i64 a, .int .i64 b, .int .i64 c] 166)) := (Below.refl _ _).alloc (Nat.le_refl _) _
  have hs0 : (w.alloc (.cells #[.int .i64 a, .int .i64 b, .int .i64 c] 166)).heap.size = w.heap.size + 1 := World.size_alloc _ _
  have hc0 : (w.alloc (.cells #[.int .i64 a, .int .i64 b, .int .i64 c] 166)).cell? ⟨w.heap.size, 0, none⟩ = some (.int .i64 a) := by simp [go_sem]
  have hc1 : (w.alloc (.cells #[.int .i64 a, .int .i64 b, .int .i64 c] 166)).cell? ⟨w.heap.size, 1, none⟩ = some (.int .i64 b) := by simp [go_sem]
  have hc2 : (w.alloc (.cells #[.int .i64 a, .int .i64 b, .int .i64 c] 166)).cell? ⟨w.heap.size, 2, none⟩ = some (.int .i64 c) := by simp [go_sem]
  generalize w.alloc (.cells #[.int .i64 a, .int .i64 b, .int .i64 c] 166) = w0 at *
  obtain ⟨B, hB⟩ : ∃ B, w.heap.size = B := ⟨_, rfl⟩
  rw [hB] at hb0 hs0 hc0 hc1 hc2
  have HB := Lib.hid hB; clear hB
  rw [HB.out]
  go_loopw [5, 9] (WgA n a b c (B + 1) w0) (fun _ i _ => n + 1 - (intOf i).toNat)
  case atStart => exact ⟨0, by omega, rfl, Owns.nil _ _, Below.refl _ _⟩
  case round =>
    obtain ⟨k, hk, rfl, hown, hbr⟩ := hrel
    have hbase : B + 1 ≤ wr.heap.size := by rw [← hs0]; exact hbr.size
    have d0 := (hbr.cell (p := ⟨B, 0, none⟩) (by simp)).trans hc0
    have d1 := (hbr.cell (p := ⟨B, 1, none⟩) (by simp)).trans hc1
    have d2 := (hbr.cell (p := ⟨B, 2, none⟩) (by simp)).trans hc2
    have hlk : (wgTo n a b c k).length < 17592186044416 := by rw [wgTo_len]; omega
    by_cases hlt : k < n + 1
    · have HT := Lib.hid (wgTo_succ n a b c k)
      rcases Nat.eq_zero_or_pos k with h0 | h0
      · subst h0
        have HV := Lib.hid (show wgAt n a b c 0 = a by simp [wgAt])
        go_wp2_with (at_builtin; refine append_int _ a rfl _ _ rfl (B + 1) u5 _ rfl hown rfl hlk hbase ?_; intro v3 w3 hown3 hb3)
        go_roundw
        case rel => exact ⟨1, by omega, by go_num, by rw [HT.out, HV.out]; exact hown3, hbr.trans hb3⟩
        case measure => simp [intOf] <;> omega
      · have k0 : ((k : Int) == 0) = false := beq_eq_false_iff_ne.2 (by omega)
        by_cases hkn : k = n
        · subst hkn
          have HV := Lib.hid (show wgAt k a b c k = c by unfold wgAt; rw [if_neg (by omega), if_pos rfl])
          go_wp2_with (at_builtin; refine append_int _ c rfl _ _ rfl (B + 1) u5 _ rfl hown rfl hlk hbase ?_; intro v3 w3 hown3 hb3)
          go_roundw
          case rel => exact ⟨k + 1, by omega, by go_num, by rw [HT.out, HV.out]; exact hown3, hbr.trans hb3⟩
          case measure => simp [intOf] <;> omega
        · have kn : ((k : Int) == (n : Int)) = false := beq_eq_false_iff_ne.2 (by omega)
          have HV := Lib.hid (show wgAt n a b c k = b by unfold wgAt; rw [if_neg (by omega), if_neg hkn])
          go_wp2_with (at_builtin; refine append_int _ b rfl _ _ rfl (B + 1) u5 _ rfl hown rfl hlk hbase ?_; intro v3 w3 hown3 hb3)
          go_roundw
          case rel => exact ⟨k + 1, by omega, by go_num, by rw [HT.out, HV.out]; exact hown3, hbr.trans hb3⟩
          case measure => simp [intOf] <;> omega
    · obtain rfl : k = n + 1 := by omega
      go_wp2_with fail
      go_ret
      exact ⟨_, rfl, by rw [HB.out]; exact hown.base_le (by omega), by rw [HB.out]; exact hb0.trans (hbr.mono (by omega))⟩

/-- How much more is ahead of each box, by how they stand. -/
def moreW (n : Nat) (left : Int) (j : Nat) : List Int :=
  if j = 1 then wgts n 1 0 0
  else if j = 4 then (if left ≤ 0 then wgts n 0 0 1 else wgts n 1 1 1)
  else if j = 3 then (if left ≤ 0 then wgts n 0 0 1 else if 1 < n then wgts n 0 1 0 else wgts n 0 1 1)
  else wgts n 0 0 1
def moreR (n : Nat) (left : Int) (j : Nat) : List Int :=
  if j = 2 then (wgts n 0 0 0).set 0 (left.tdiv 2) else (shareR left (moreW n left j)).1

theorem wgts_len (n : Nat) (a b c : Int) : (wgts n a b c).length = n + 1 := wgTo_len _ _ _ _ _

set_option maxRecDepth 100000 in
set_option maxHeartbeats 4000000 in
theorem more_any (n : Nat) (hn : n ≤ 300) (left : Int) (hf : fit left = true) (j : Nat) (hj : j ≤ 4) (w : World) :
    Calls Try.prog 121 #[.int .i64 n, .int .i64 left, .int .u8 j] w (CopyPost (moreR n left j) w) := by
  obtain ⟨f1, f2⟩ := (fit_iff _).1 hf
  clear hf
  have W : Hid (∀ (a b c : Int) (w : World), Calls Try.prog 142 #[.int .i64 n, .agg #[.int .i64 a, .int .i64 b, .int .i64 c]] w (CopyPost (wgts n a b c) w)) := Lib.hid fun a b c w => weights_any n hn a b c w
  have S : Hid (∀ (a b c : Int) (v : Value) (w : World), Ints w w.heap.size v (wgts n a b c) → Calls Try.prog 78 #[.int .i64 left, v] w (SharePost left (wgts n a b c) w)) := Lib.hid fun a b c v w h => share_any left _ v _ w h (Nat.le_refl _) (by rw [wgts_len]; omega)
  have fin : ∀ (a b c : Int) (w1 w2 w3 : World) (hw : Below w.heap.size w w1) (h2 : Below w1.heap.size w1 w2) (h3 : Below w2.heap.size w2 w3) (v : Value), moreR n left j = (shareR left (wgts n a b c)).1 → Owns w3 w2.heap.size v (shareR left (wgts n a b c)).1 → CopyPost (moreR n left j) w (.returned v) w3 := by
    intro a b c w1 w2 w3 hw h2 h3 v e ho
    rw [e]
    exact ⟨v, rfl, ho.base_le (Nat.le_trans hw.size h2.size), (hw.trans (h2.mono hw.size)).trans (h3.mono (Nat.le_trans hw.size h2.size))⟩
  have hj' : j = 0 ∨ j = 1 ∨ j = 2 ∨ j = 3 ∨ j = 4 := by omega
  rcases hj' with rfl | rfl | rfl | rfl | rfl
  · have HR := Lib.hid (show moreR n left 0 = (shareR left (wgts n 0 0 1)).1 by rfl)
    go_enter Try.func121, Try.ntmps121
    go_wp2_with fail
    refine (W.out _ _ _ _).mono ?_
    rintro e w2 ⟨v2, rfl, ho2, hb2⟩
    go_wp2_with fail
    refine (S.out _ _ _ _ _ ho2.ints).mono ?_
    rintro e w3 ⟨v3, rfl, ho3, hb3⟩
    go_wp2_with fail
    go_ret
    exact fin 0 0 1 _ _ _ ((Below.refl _ _).alloc (Nat.le_refl _) _) hb2 hb3 _ HR.out ho3
  · have HR := Lib.hid (show moreR n left 1 = (shareR left (wgts n 1 0 0)).1 by rfl)
    go_enter Try.func121, Try.ntmps121
    go_wp2_with fail
    refine (W.out _ _ _ _).mono ?_
    rintro e w2 ⟨v2, rfl, ho2, hb2⟩
    go_wp2_with fail
    refine (S.out _ _ _ _ _ ho2.ints).mono ?_
    rintro e w3 ⟨v3, rfl, ho3, hb3⟩
    go_wp2_with fail
    go_ret
    exact fin 1 0 0 _ _ _ ((Below.refl _ _).alloc (Nat.le_refl _) _) hb2 hb3 _ HR.out ho3
  · have HR := Lib.hid (show moreR n left 2 = (wgts n 0 0 0).set 0 (left.tdiv 2) from rfl)
    have hd : wrap64 (left.tdiv 2) = left.tdiv 2 := by
      have : -1099511627776 ≤ left.tdiv 2 ∧ left.tdiv 2 ≤ 1099511627776 := by
        rcases Int.le_total 0 left with h | h
        · rw [Int.tdiv_eq_ediv_of_nonneg h]; omega
        · rw [show left = -(-left) by omega, Int.neg_tdiv, Int.tdiv_eq_ediv_of_nonneg (by omega)]; omega
      unfold wrap64; omega
    have hd2 : IntKind.i64.wrap (left.tdiv 2) = left.tdiv 2 := by rw [IntKind.wrap_i64]; unfold wrap64 at hd; exact hd
    go_enter Try.func121, Try.ntmps121
    go_wp2_with fail
    refine (W.out _ _ _ _).mono ?_
    rintro e w2 ⟨v2, rfl, ho2, hb2⟩
    obtain ⟨g, cap, rfl, hcap, hg, hgl, hcc, hff⟩ := ho2.open_ (by rw [wgts_len]; omega)
    have c0 := hcc 0 (by rw [wgts_len]; omega)
    have f0 := hff 0
    have l0 : ((wgts n 0 0 0).length : Int) ≠ 0 := by rw [wgts_len]; omega
    go_wp2_with fail
    go_ret
    rw [HR.out]
    refine ⟨_, rfl, ?_, ?_⟩
    · have h5 := (World.ownsRow.stored ho2 0 (.int .i64 (left.tdiv 2))).1
      refine Owns.base_le (base := (w.alloc (.cells #[.int .i64 0, .int .i64 0, .int .i64 1] 166)).heap.size) ?_ (by rw [World.size_alloc]; omega)
      unfold Owns
      rw [List.length_set, List.map_set]
      exact h5
    · rw [World.size_alloc] at hg
      exact (((Below.refl w.heap.size w).alloc (Nat.le_refl _) _).trans (hb2.mono (by rw [World.size_alloc]; omega))).setCell (p := ⟨g, 0, none⟩) (show w.heap.size ≤ g by omega) _
  · by_cases h1 : 1 < n
    · by_cases hl : left ≤ 0
      · have HR := Lib.hid (show moreR n left 3 = (shareR left (wgts n 0 0 1)).1 by unfold moreR moreW; rw [if_neg (by omega), if_neg (by omega), if_neg (by omega), if_pos rfl, if_pos hl])
        go_enter Try.func121, Try.ntmps121
        go_wp2_with fail
        refine (W.out _ _ _ _).mono ?_
        rintro e w2 ⟨v2, rfl, ho2, hb2⟩
        go_wp2_with fail
        refine (S.out _ _ _ _ _ ho2.ints).mono ?_
        rintro e w3 ⟨v3, rfl, ho3, hb3⟩
        go_wp2_with fail
        go_ret
        exact fin 0 0 1 _ _ _ ((Below.refl _ _).alloc (Nat.le_refl _) _) hb2 hb3 _ HR.out ho3
      · have HR := Lib.hid (show moreR n left 3 = (shareR left (wgts n 0 1 0)).1 by unfold moreR moreW; rw [if_neg (by omega), if_neg (by omega), if_neg (by omega), if_pos rfl, if_neg hl, if_pos h1])
        go_enter Try.func121, Try.ntmps121
        go_wp2_with fail
        refine (W.out _ _ _ _).mono ?_
        rintro e w2 ⟨v2, rfl, ho2, hb2⟩
        go_wp2_with fail
        refine (S.out _ _ _ _ _ ho2.ints).mono ?_
        rintro e w3 ⟨v3, rfl, ho3, hb3⟩
        go_wp2_with fail
        go_ret
        exact fin 0 1 0 _ _ _ ((Below.refl _ _).alloc (Nat.le_refl _) _) hb2 hb3 _ HR.out ho3
    · by_cases hl : left ≤ 0
      · have HR := Lib.hid (show moreR n left 3 = (shareR left (wgts n 0 0 1)).1 by unfold moreR moreW; rw [if_neg (by omega), if_neg (by omega), if_neg (by omega), if_pos rfl, if_pos hl])
        go_enter Try.func121, Try.ntmps121
        go_wp2_with fail
        refine (W.out _ _ _ _).mono ?_
        rintro e w2 ⟨v2, rfl, ho2, hb2⟩
        go_wp2_with fail
        refine (S.out _ _ _ _ _ ho2.ints).mono ?_
        rintro e w3 ⟨v3, rfl, ho3, hb3⟩
        go_wp2_with fail
        go_ret
        exact fin 0 0 1 _ _ _ ((Below.refl _ _).alloc (Nat.le_refl _) _) hb2 hb3 _ HR.out ho3
      · have HR := Lib.hid (show moreR n left 3 = (shareR left (wgts n 0 1 1)).1 by unfold moreR moreW; rw [if_neg (by omega), if_neg (by omega), if_neg (by omega), if_pos rfl, if_neg hl, if_neg h1])
        go_enter Try.func121, Try.ntmps121
        go_wp2_with fail
        refine (W.out _ _ _ _).mono ?_
        rintro e w2 ⟨v2, rfl, ho2, hb2⟩
        go_wp2_with fail
        refine (S.out _ _ _ _ _ ho2.ints).mono ?_
        rintro e w3 ⟨v3, rfl, ho3, hb3⟩
        go_wp2_with fail
        go_ret
        exact fin 0 1 1 _ _ _ ((Below.refl _ _).alloc (Nat.le_refl _) _) hb2 hb3 _ HR.out ho3
  · by_cases hl : left ≤ 0
    · have HR := Lib.hid (show moreR n left 4 = (shareR left (wgts n 0 0 1)).1 by unfold moreR moreW; rw [if_neg (by omega), if_neg (by omega), if_pos rfl, if_pos hl])
      go_enter Try.func121, Try.ntmps121
      go_wp2_with fail
      refine (W.out _ _ _ _).mono ?_
      rintro e w2 ⟨v2, rfl, ho2, hb2⟩
      go_wp2_with fail
      refine (S.out _ _ _ _ _ ho2.ints).mono ?_
      rintro e w3 ⟨v3, rfl, ho3, hb3⟩
      go_wp2_with fail
      go_ret
      exact fin 0 0 1 _ _ _ ((Below.refl _ _).alloc (Nat.le_refl _) _) hb2 hb3 _ HR.out ho3
    · have HR := Lib.hid (show moreR n left 4 = (shareR left (wgts n 1 1 1)).1 by unfold moreR moreW; rw [if_neg (by omega), if_neg (by omega), if_pos rfl, if_neg hl])
      go_enter Try.func121, Try.ntmps121
      go_wp2_with fail
      refine (W.out _ _ _ _).mono ?_
      rintro e w2 ⟨v2, rfl, ho2, hb2⟩
      go_wp2_with fail
      refine (S.out _ _ _ _ _ ho2.ints).mono ?_
      rintro e w3 ⟨v3, rfl, ho3, hb3⟩
      go_wp2_with fail
      go_ret
      exact fin 1 1 1 _ _ _ ((Below.refl _ _).alloc (Nat.le_refl _) _) hb2 hb3 _ HR.out ho3

end Go.Proofs.Ytpelapdadgmlkaa
