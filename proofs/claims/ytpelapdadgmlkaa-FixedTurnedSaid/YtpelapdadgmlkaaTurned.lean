/-
  Walks: the law FixedTurned.
-/
import Derived.Test.YtpelapdadgmlkaaGivenPlain
import Derived.Deep.QuietTactic
import Derived.BigQuiet
namespace Go.Proofs.Ytpelapdadgmlkaa
open Go.RowKit

theorem zsOf_opp (t : Int) (ws : List Int) : zsOf (-t) ws = (zsOf t ws).map (fun x => -x) := by
  refine List.ext_getElem (by simp [zsOf_len]) fun i h1 h2 => ?_
  rw [zsOf_at, List.getElem_map, zsOf_at]
  by_cases h : wSum ws = 0
  · simp [h]
  · rw [if_neg h, if_neg h, shareAt_opp]
theorem zsOf_times (t : Int) (ws : List Int) (m : Nat) (hm : 0 < m) : zsOf t (ws.map (· * (m : Int))) = zsOf t ws := by
  unfold zsOf
  rw [wSum_times, List.length_map, shares_times t ws m hm]
  by_cases h : wSum ws = 0
  · rw [if_pos h, if_pos (by rw [h]; simp)]
  · rw [if_neg h, if_neg (by intro e; rcases Nat.mul_eq_zero.1 e with e | e <;> omega)]
theorem partR_opp (n t : Int) : partR n (-t) = (-(partR n t).1, (partR n t).2) := by
  unfold partR
  by_cases h : n < 0 ∨ 100000 < n
  · rw [if_pos h, if_pos h]
    rfl
  · rw [if_neg h, if_neg h, fit_neg]
    cases hf : fit t with
    | false => simp
    | true =>
      rw [if_pos rfl, if_pos rfl, Int.mul_neg, Int.neg_tdiv]
      cases hg : fit ((n * t).tdiv 10000) with
      | true => rw [told_yes (by simp) (by rw [fit_neg]; exact hg), told_yes (by simp) hg]
      | false => rw [told_no2 (by rw [fit_neg]; exact hg), told_no2 hg]; rfl
theorem partR_bd (n t : Int) : -1099511627776 ≤ (partR n t).1 ∧ (partR n t).1 ≤ 1099511627776 := by
  unfold partR
  by_cases h : n < 0 ∨ 100000 < n
  · rw [if_pos h]
    simp
  · rw [if_neg h]
    cases hf : fit t with
    | false => simp
    | true =>
      rw [if_pos rfl]
      cases hg : fit ((n * t).tdiv 10000) with
      | true => rw [told_yes (by simp) hg]; exact (fit_iff _).1 hg
      | false => rw [told_no2 hg]; simp
def isLow (n : Int) : Bool := decide (0 ≤ n ∧ n ≤ 1099511627776)
theorem isLow_iff (n : Int) : isLow n = true ↔ 0 ≤ n ∧ n ≤ 1099511627776 := by simp [isLow]
theorem low_weight {ws : List Int} (h : ws.all isLow = true) : ws.all isWeight = true :=
  List.all_eq_true.2 fun x hx => by
    have := (isLow_iff _).1 (List.all_eq_true.1 h x hx)
    exact (isWeight_iff _).2 (by omega)
theorem low_times {ws : List Int} {m : Nat} (h : ws.all isLow = true) (hm : m ≤ 1000) : (ws.map (· * (m : Int))).all isWeight = true :=
  List.all_eq_true.2 fun x hx => by
    obtain ⟨y, hy, rfl⟩ := List.mem_map.1 hx
    have h1 := (isLow_iff _).1 (List.all_eq_true.1 h y hy)
    have h2 : y * (m : Int) ≤ 1099511627776 * 1000 := Int.mul_le_mul h1.2 (by omega) (by omega) (by omega)
    have h3 : 0 ≤ y * (m : Int) := Int.mul_nonneg h1.1 (by omega)
    exact (isWeight_iff _).2 (by omega)
theorem take_low {ws : List Int} {k : Nat} (hk : k < ws.length) (h : (ws.take k).all isLow = true) (h2 : isLow ws[k] = true) : (ws.take (k + 1)).all isLow = true := by
  rw [List.take_succ_eq_append_getElem hk, List.all_append, h]
  simp [h2]
theorem take_times {ws : List Int} {k : Nat} (hk : k < ws.length) (m : Nat) : (ws.take (k + 1)).map (· * (m : Int)) = (ws.take k).map (· * (m : Int)) ++ [ws[k] * (m : Int)] := by
  rw [List.take_succ_eq_append_getElem hk, List.map_append]
  rfl
/-- Loop 1: weights that may be, so far, each so many times. -/
def TurA (ws : List Int) (m base : Nat) (w1 : World) (many i : Value) (wr : World) : Prop :=
  ∃ k : Nat, k ≤ ws.length ∧ i = .int .i64 k ∧ Owns wr base many ((ws.take k).map (· * (m : Int))) ∧ Below base w1 wr ∧ (ws.take k).all isLow = true
def TurB (zs : List Int) (w3 : World) (i : Value) (wr : World) : Prop := ∃ k : Nat, k ≤ zs.length ∧ i = .int .i64 k ∧ Quiet w3 wr

set_option maxRecDepth 100000 in
set_option maxHeartbeats 4000000 in
theorem turned_main (n : Int) (v : Value) (ws : List Int) (p : Int) (m : Nat) (w : World) (h : Ints w w.heap.size v ws) (hl : ws.length ≤ 200) (hm1 : 1 ≤ m) (hm2 : m ≤ 1000) :
    LawReturns 22 #[.int .i64 n, v, .int .i64 p, .int .i64 m] w := by
  unfold LawReturns
  have hn := fun W => length_any n W
  obtain ⟨ht1, ht2⟩ := lenOf_bd n
  have hft := lenOf_fit n
  generalize lenOf n = t at *
  have HFT := Lib.hid hft; clear hft
  have h' := h
  obtain ⟨A, c, rfl, hc, hr⟩ := h'
  have nm1 : ¬ (m : Int) < 1 := by omega
  have nm2 : ¬ (1000 : Int) < m := by omega
  go_enter Try.func22, Try.ntmps22
  go_wp2_with fail
  refine (awake01 _).mono ?_
  rintro e w1 ⟨rfl, h1⟩
  have hr1 := hr.below h1
  have hI1 := h.below h1
  clear h hr
  go_wp2_with fail
  refine (hn _).mono ?_
  rintro e w2 ⟨rfl, rfl⟩
  go_wp2_with fail
  go_loopw [9, 10] (TurA ws m w.heap.size w1) (fun _ i _ => ws.length - (intOf i).toNat)
  case atStart => exact ⟨0, by omega, rfl, Owns.nil _ _, Below.refl _ _, rfl⟩
  case round =>
    obtain ⟨k, hk, rfl, hown, hbr, hall⟩ := hrel
    have Hall := Lib.hid hall; clear hall
    have hbase : w.heap.size ≤ wr.heap.size := Nat.le_trans h1.size hbr.size
    by_cases hlt : k < ws.length
    · obtain ⟨ad, rfl, hbb, hcell⟩ := (hr1.below hbr).val hlt
      by_cases hwk : isLow ws[k] = true
      · obtain ⟨q1, q2⟩ := (isLow_iff _).1 hwk
        have hn1 : ¬ ws[k] < 0 := by omega
        have hn2 : ¬ 1099511627776 < ws[k] := by omega
        have HA := Lib.hid (take_low hlt Hall.out hwk)
        have HT := Lib.hid (take_times hlt m)
        have hx1 : ws[k] * (m : Int) ≤ 1099511627776 * 1000 := Int.mul_le_mul q2 (by omega) (by omega) (by omega)
        have hx0 : 0 ≤ ws[k] * (m : Int) := Int.mul_nonneg q1 (by omega)
        obtain ⟨x, hx⟩ : ∃ x, ws[k] * (m : Int) = x := ⟨_, rfl⟩
        rw [hx] at hx0 hx1
        have hwx : IntKind.i64.wrap (ws[k] * (m : Int)) = x := by rw [hx, IntKind.wrap_i64]; omega
        have HX := Lib.hid hx
        clear hwk hx
        have hlk : ((ws.take k).map (· * (m : Int))).length < 17592186044416 := by simp; omega
        go_wp2_with (at_builtin; refine append_int _ x rfl _ _ rfl w.heap.size u9 _ rfl hown rfl hlk hbase ?_; intro v3 w3 hown3 hb3)
        go_roundw
        case rel => exact ⟨k + 1, hlt, by go_num, by rw [HT.out, HX.out]; exact hown3, hbr.trans hb3, HA.out⟩
        case measure => simp [intOf]; omega
      · have hwk2 : ws[k] < 0 ∨ 1099511627776 < ws[k] := by
          rcases Int.lt_or_le ws[k] 0 with h | h
          · exact .inl h
          · refine .inr (Int.not_le.1 fun h2 => hwk ((isLow_iff _).2 ⟨h, h2⟩))
        clear hwk
        rcases hwk2 with hwk2 | hwk2
        all_goals
          go_wp2_with fail
          all_goals
            go_ret
            exact ⟨rfl, h1.trans hbr⟩
    · obtain rfl : k = ws.length := by omega
      rw [List.take_of_length_le (Nat.le_refl _)] at hown
      have hall' : ws.all isLow = true := by have := Hall.out; rwa [List.take_of_length_le (Nat.le_refl _)] at this
      have hfn : fit (-t) = true := by rw [fit_neg]; exact HFT.out
      have hI2 := hI1.below hbr
      have hB1 : w.heap.size ≤ wr.heap.size := hbase
      have s1 := share_any t ws _ _ wr hI2 hB1 (by omega)
      have s2 := fun W (hb : Below wr.heap.size wr W) => share_any (-t) ws _ _ W (hI2.below (hb.mono hB1)) (Nat.le_trans hB1 hb.size) (by omega)
      have s3 := fun W (hb : Below wr.heap.size wr W) => share_any t (ws.map (· * (m : Int))) _ _ W (hown.ints.below hb) hb.size (by simp; omega)
      unfold SharePost at s1 s2 s3
      rw [shareR_ok HFT.out (by omega) (low_weight hall')] at s1
      simp only [shareR_ok hfn (by omega) (low_weight hall'), zsOf_opp] at s2
      simp only [shareR_ok HFT.out (show (ws.map (· * (m : Int))).length ≤ 2048 by simp; omega) (low_times hall' hm2), zsOf_times t ws m hm1] at s3
      have hzl : (zsOf t ws).length = ws.length := zsOf_len _ _
      have F := given_facts HFT.out (low_weight hall')
      have hzb : ∀ i (h' : i < (zsOf t ws).length), -1099511627776 ≤ (zsOf t ws)[i] ∧ (zsOf t ws)[i] ≤ 1099511627776 := fun i h' => by
        rcases Int.lt_or_le t 0 with ht | ht
        · have := F.neg ht i h'; omega
        · have := F.pos ht i h'; omega
      generalize zsOf t ws = zs at *
      have HZB := Lib.hid hzb
      clear hzb F Hall hall' hfn
      have hb0 := h1.trans hbr
      go_wp2_with fail
      refine s1.mono ?_
      rintro e w3 ⟨v3, rfl, ho3, hb3⟩
      go_wp2_with fail
      refine (s2 w3 hb3).mono ?_
      rintro e w4 ⟨v4, rfl, ho4, hb4⟩
      have hb34 := hb3.trans (hb4.mono hb3.size)
      go_wp2_with fail
      refine (s3 w4 hb34).mono ?_
      rintro e w5 ⟨v5, rfl, ho5, hb5⟩
      have hbb := hb0.trans ((hb34.trans (hb5.mono hb34.size)).mono hbase)
      obtain ⟨A3, c3, rfl, hc3, hr3⟩ := (ho3.ints.below hb4).below (hb5.mono hb4.size)
      obtain ⟨A4, c4, rfl, hc4, hr4⟩ := ho4.ints.below hb5
      obtain ⟨A5, c5, rfl, hc5, hr5⟩ := ho5.ints
      rw [List.length_map] at hc4
      have hml : (zs.map (fun x => -x)).length = zs.length := List.length_map _
      rw [hml]
      have hle : ((zs.length : Int) != (ws.length : Int)) = false := by simp [hzl]
      have hzl1 : zs.length ≤ 200 := by omega
      clear hzl s1 s2 s3 ho3 ho4 ho5 hown hI1 hI2 hr1
      have hp := fun W => part_any p t W
      have hq := fun W => part_any p (-t) W
      rw [partR_opp] at hq
      obtain ⟨pb1, pb2⟩ := partR_bd p t
      generalize partR p t = pr at *
      obtain ⟨x1, x2⟩ := pr
      change -1099511627776 ≤ x1 at pb1
      change x1 ≤ 1099511627776 at pb2
      have hwx1 : IntKind.i64.wrap x1 = x1 := by rw [IntKind.wrap_i64]; omega
      go_wp2_with fail
      go_loopw [17] (TurB zs w5) (fun i _ => zs.length - (intOf i).toNat)
      case atStart => exact ⟨0, by omega, rfl, Quiet.refl _⟩
      case round =>
        obtain ⟨i, hi, rfl, mo, rfl⟩ := hrel
        by_cases hli : i < zs.length
        · obtain ⟨ad3, rfl, _, k3⟩ := hr3.val hli
          obtain ⟨ad4, rfl, _, k4⟩ := hr4.val (by rw [hml]; exact hli)
          obtain ⟨ad5, rfl, _, k5⟩ := hr5.val hli
          obtain ⟨z1, z2⟩ := HZB.out i hli
          rw [List.getElem_map] at k4
          generalize zs[i] = z at *
          have hwz : IntKind.i64.wrap z = z := by rw [IntKind.wrap_i64]; omega
          go_wp2_with fail
          go_quiet (fail)
          go_wp2_with fail
          go_roundw
          case rel => exact ⟨i + 1, hli, by go_num, _, rfl⟩
          case measure => simp [intOf]; omega
        · obtain rfl : i = zs.length := by omega
          clear hi hli hml hle
          go_wp2_with fail
          refine (hp _).mono ?_
          rintro e w6 ⟨rfl, hb6⟩
          go_wp2_with fail
          refine (hq _).mono ?_
          rintro e w7 ⟨rfl, hb7⟩
          go_wp2_with fail
          go_ret
          exact ⟨by simp, below2 (below2 (below_drewN hbb mo) hb6) hb7⟩

set_option maxRecDepth 100000 in
theorem fixedTurned_walk (n : Int) (v : Value) (ws : List Int) (p m : Int) (w : World) (h : Ints w w.heap.size v ws) (hl : ws.length ≤ 17592186044416) :
    LawReturns 22 #[.int .i64 n, v, .int .i64 p, .int .i64 m] w := by
  have early : 200 < ws.length ∨ m < 1 ∨ 1000 < m → LawReturns 22 #[.int .i64 n, v, .int .i64 p, .int .i64 m] w := by
    intro hc
    unfold LawReturns
    obtain ⟨A, c, rfl, hc, hr⟩ := h
    have h3 : 200 < ws.length ∨ (¬ 200 < ws.length ∧ m < 1) ∨ (¬ 200 < ws.length ∧ ¬ m < 1 ∧ 1000 < m) := by omega
    clear hc
    rcases h3 with g1 | ⟨g1, g2⟩ | ⟨g1, g2, g3⟩
    all_goals
      go_enter Try.func22, Try.ntmps22
      go_wp2_with fail
      refine (awake01 _).mono ?_
      rintro e w1 ⟨rfl, h1⟩
      go_wp2_with fail
      go_ret
      exact ⟨rfl, h1⟩
  by_cases h0 : 200 < ws.length ∨ m < 1 ∨ 1000 < m
  · exact early h0
  · obtain ⟨k, rfl⟩ := Int.eq_ofNat_of_zero_le (show 0 ≤ m by omega)
    exact turned_main n v ws p k w h (by omega) (by omega) (by omega)

end Go.Proofs.Ytpelapdadgmlkaa
