/-
  Walks: the law FixedGiven.
-/
import Derived.Test.YtbhdolghokhfnaaGivenPlain
import Derived.Test.YtbhdolghokhfnaaLexB
import Derived.Deep.QuietTactic
import Derived.BigQuiet
namespace Go.Proofs.Ytbhdolghokhfnaa
open Go.RowKit

/-- Loop 1: weights that may be, so far; whether one is not 0. -/
def GivA (ws : List Int) (s i : Value) : Prop := ∃ (k : Nat) (b : Bool), k ≤ ws.length ∧ i = .int .i64 k ∧ s = .bool b ∧ (b = true ↔ 0 < sumTo (wAt ws) k) ∧ (ws.take k).all isWeight = true
def GivB (zs : List Int) (s i : Value) : Prop := ∃ k : Nat, k ≤ zs.length ∧ i = .int .i64 k ∧ s = .int .i64 (zs.take k).sum
theorem sums_bd {zs : List Int} (h : ∀ i (h' : i < zs.length), -1099511627776 ≤ zs[i] ∧ zs[i] ≤ 1099511627776) (hl : zs.length ≤ 2048) (k : Nat) : -2251799813685248 ≤ (zs.take k).sum ∧ (zs.take k).sum ≤ 2251799813685248 := by
  have hz : zs.all fit = true := List.all_eq_true.2 fun x hx => by
    obtain ⟨i, hi, rfl⟩ := List.mem_iff_getElem.1 hx
    exact (fit_iff _).2 (h i hi)
  rcases Nat.lt_or_ge k 2048 with h1 | h1
  · have := sum_bd hz k
    omega
  · have := sum_bd hz zs.length
    rw [List.take_of_length_le (Nat.le_refl _)] at this
    rw [List.take_of_length_le (by omega)]
    omega

set_option maxRecDepth 100000 in
set_option maxHeartbeats 40000000 in
theorem given_main (n : Int) (v : Value) (ws : List Int) (w : World) (h : Ints w w.heap.size v ws) (hl : ws.length ≤ 200) :
    LawReturns 5 #[.int .i64 n, v] w := by
  unfold LawReturns
  have hn := fun W => length_any n W
  obtain ⟨ht1, ht2⟩ := lenOf_bd n
  have hft := lenOf_fit n
  generalize lenOf n = t at *
  have HFT := Lib.hid hft; clear hft
  have h' := h
  obtain ⟨A, c, rfl, hc, hr⟩ := h'
  go_enter Try.func5, Try.ntmps5
  go_wp2_with fail
  refine (awake01 _).mono ?_
  rintro e w1 ⟨rfl, h1⟩
  have hr1 := hr.below h1
  have hI1 := h.below h1
  clear h hr
  go_wp2_with fail
  refine (hn _).mono ?_
  rintro e w2 ⟨rfl, rfl⟩
  go_wp2_with fail
  go_loop [5, 6] (GivA ws) (fun _ i => ws.length - (intOf i).toNat)
  case atStart => exact ⟨0, false, by omega, rfl, rfl, by simp [sumTo], rfl⟩
  case round =>
    obtain ⟨k, b, hk, rfl, rfl, hb, hall⟩ := hrel
    have Hall := Lib.hid hall; clear hall
    have Hb := Lib.hid hb; clear hb
    by_cases hlt : k < ws.length
    · obtain ⟨ad, rfl, hbb, hcell⟩ := hr1.val hlt
      by_cases hwk : isWeight ws[k] = true
      · obtain ⟨q1, q2⟩ := (isWeight_iff _).1 hwk
        have hn1 : ¬ ws[k] < 0 := by omega
        have hn2 : ¬ 1125899906842624 < ws[k] := by omega
        have HA := Lib.hid (take_all_w hlt Hall.out hwk)
        have HS := Lib.hid (sum_step hlt hwk)
        clear hwk
        cases b
        all_goals
          by_cases hw0 : 0 < ws[k]
          all_goals
            go_wp2_with fail
            go_round
            case rel => exact ⟨k + 1, _, hlt, by go_num, rfl, by have := HS.out; have := Hb.out; simp at this ⊢; omega, HA.out⟩
            case measure => simp [intOf]; omega
      · have hwk2 : ws[k] < 0 ∨ 1125899906842624 < ws[k] := by
          rcases Int.lt_or_le ws[k] 0 with h | h
          · exact .inl h
          · refine .inr (Int.not_le.1 fun h2 => hwk ((isWeight_iff _).2 ⟨h, h2⟩))
        clear hwk
        rcases hwk2 with hwk2 | hwk2
        all_goals
          go_wp2_with fail
          all_goals
            go_ret
            exact ⟨rfl, h1⟩
    · obtain rfl : k = ws.length := by omega
      have hall' : ws.all isWeight = true := by have := Hall.out; rwa [List.take_of_length_le (Nat.le_refl _)] at this
      have F := given_facts HFT.out hall'
      have HWP := Lib.hid (fun k (hk : k < ws.length) => (weight_at hall' k hk).1)
      have hsh := share_any t ws _ _ w1 hI1 (Nat.le_trans (Nat.le_refl _) h1.size) (by omega)
      unfold SharePost at hsh
      rw [shareR_ok HFT.out (by omega) hall'] at hsh
      have hb' : b = true ↔ 0 < wSum ws := Hb.out
      clear Hall hall' Hb hlt
      obtain ⟨zs, hzs⟩ : ∃ zs, zsOf t ws = zs := ⟨_, rfl⟩
      rw [hzs] at F hsh
      clear hzs
      have HBF := Lib.hid hb'; clear hb'
      have hzl : zs.length = ws.length := F.len
      have hzb : ∀ i (h' : i < zs.length), -1099511627776 ≤ zs[i] ∧ zs[i] ≤ 1099511627776 := fun i h' => by
        rcases Int.lt_or_le t 0 with ht | ht
        · have := F.neg ht i h'; omega
        · have := F.pos ht i h'; omega
      have HZB := Lib.hid (sums_bd hzb (by omega))
      have HZ1 := Lib.hid hzb
      clear hzb
      go_wp2_with fail
      refine hsh.mono ?_
      rintro e w3 ⟨v3, rfl, ho3, hb3⟩
      have hI3 := ho3.ints
      obtain ⟨A3, c3, rfl, hc3, hr3⟩ := hI3
      have hr13 := hr1.below (hb3.mono h1.size)
      have hbb := below2 h1 hb3
      have HZL := Lib.hid hzl
      have hzl1 : zs.length ≤ 200 := by omega
      clear hsh ho3 hI1 hr1
      have hle : ((zs.length : Int) != (ws.length : Int)) = false := by simp [hzl]
      clear hzl
      by_cases hneg : t < 0
      · go_wp2_with fail
        go_loopw [9, 10] (fun s i wr => GivB zs s i ∧ Quiet w3 wr) (fun _ i _ => zs.length - (intOf i).toNat)
        case atStart => exact ⟨⟨0, by omega, rfl, rfl⟩, Quiet.refl _⟩
        case round =>
          obtain ⟨⟨i, hi, rfl, rfl⟩, mo, rfl⟩ := hrel
          obtain ⟨sb1, sb2⟩ := HZB.out i
          by_cases hli : i < zs.length
          · have hlw : i < ws.length := by have := HZL.out; omega
            obtain ⟨ad, rfl, hbw, cw⟩ := hr13.val hlw
            obtain ⟨ad3, rfl, hbz, cz⟩ := hr3.val hli
            obtain ⟨zb1, zb2⟩ := HZ1.out i hli
            have hts := Lib.hid (take_sum zs i hli)
            have hz0 := F.zero i hlw hli
            have hsg : sgn t = -1 := if_pos hneg
            have hzs : zs[i] ≤ 0 := (F.neg hneg i hli).1
            have HM := Lib.hid (fun k (hk : k < ws.length) (hk' : k < zs.length) => And.intro (F.more i k hlw hk hli hk') (F.more k i hk hlw hk' hli))
            have HAL := Lib.hid (fun k (hk : k < ws.length) (hk' : k < zs.length) (hki : k < i) => F.alike i k hlw hk hli hk' hki)
            rw [hsg] at HM HAL
            have hs := fun W => sign_any t W
            rw [hsg] at hs
            clear hsg
            generalize hwi : ws[i] = x at *
            generalize hzi : zs[i] = z at *
            clear hwi hzi
            by_cases hx0 : x = 0
            · obtain rfl := hz0 hx0
              subst hx0
              clear hz0 hzs
              go_wp2_with fail
              go_loopw [11] (fun q wr => (∃ k : Nat, k ≤ i ∧ q = .int .i64 k) ∧ Quiet w3 wr) (fun q _ => i - (intOf q).toNat)
              case atStart => exact ⟨⟨0, by omega, rfl⟩, mo, rfl⟩
              case round =>
                obtain ⟨⟨k, hk, rfl⟩, mi, rfl⟩ := hrel
                by_cases hlk : k < i
                · have hkw : k < ws.length := by omega
                  have hkz : k < zs.length := by omega
                  obtain ⟨_, e1, _, cwk⟩ := hr13.val hkw
                  cases e1
                  obtain ⟨_, e1, _, czk⟩ := hr3.val hkz
                  cases e1
                  obtain ⟨ub1, ub2⟩ := HZ1.out k hkz
                  obtain ⟨m1, m2⟩ := HM.out k hkw hkz
                  have m3 := HAL.out k hkw hkz hlk
                  have hyp := HWP.out k hkw
                  generalize ws[k] = y at *
                  generalize zs[k] = u at *
                  rcases Int.lt_trichotomy y 0 with hy | hy | hy
                  · exact absurd hyp (by omega)
                  · have hq := m3 hy
                    subst hy
                    clear m1 m2 m3
                    have hq1 : u ≤ 0 := by omega
                    have hq2 : -1 ≤ u := by omega
                    clear hq
                    have hwu : IntKind.i64.wrap u = u := by rw [IntKind.wrap_i64]; omega
                    have hwv : IntKind.i64.wrap (-u) = -u := by rw [IntKind.wrap_i64]; omega
                    have d1 : decide (1 < -u) = false := by simp; omega
                    have d2 : decide (-u < 0) = false := by simp; omega
                    have d3 : decide (0 < u) = false := by simp; omega
                    have d4 : decide (u < -1) = false := by simp; omega
                    have e1 : decide (0 < 0) = false := by simp
                    as_aux_lemma =>
                      go_wp2_with fail
                      refine wp_region_quiet_lit (by kernel_rfl) (lexB_of 111 (by kernel_rfl)) ?_
                      iterate 16 (first | go_big_quiet_step ((go_at_call 20; first | exact quiet_left (hs _) | exact quiet_add_left (hs _))) | quiet_step ((go_at_call 20; first | exact quiet_left (hs _) | exact quiet_add_left (hs _))))
                      as_aux_lemma =>
                        iterate 16 (first | go_big_quiet_step ((go_at_call 20; first | exact quiet_left (hs _) | exact quiet_add_left (hs _))) | quiet_step ((go_at_call 20; first | exact quiet_left (hs _) | exact quiet_add_left (hs _))))
                        as_aux_lemma =>
                          iterate 16 (first | go_big_quiet_step ((go_at_call 20; first | exact quiet_left (hs _) | exact quiet_add_left (hs _))) | quiet_step ((go_at_call 20; first | exact quiet_left (hs _) | exact quiet_add_left (hs _))))
                          as_aux_lemma =>
                            iterate 16 (first | go_big_quiet_step ((go_at_call 20; first | exact quiet_left (hs _) | exact quiet_add_left (hs _))) | quiet_step ((go_at_call 20; first | exact quiet_left (hs _) | exact quiet_add_left (hs _))))
                            as_aux_lemma =>
                              iterate 16 (first | go_big_quiet_step ((go_at_call 20; first | exact quiet_left (hs _) | exact quiet_add_left (hs _))) | quiet_step ((go_at_call 20; first | exact quiet_left (hs _) | exact quiet_add_left (hs _))))
                              as_aux_lemma =>
                                iterate 16 (first | go_big_quiet_step ((go_at_call 20; first | exact quiet_left (hs _) | exact quiet_add_left (hs _))) | quiet_step ((go_at_call 20; first | exact quiet_left (hs _) | exact quiet_add_left (hs _))))
                                as_aux_lemma =>
                                  repeat (first | go_big_quiet_step ((go_at_call 20; first | exact quiet_left (hs _) | exact quiet_add_left (hs _))) | quiet_step ((go_at_call 20; first | exact quiet_left (hs _) | exact quiet_add_left (hs _))))
                                  as_aux_lemma =>
                                    refine wpQuiet_nil ?_
                                    intro _ hw'
                                    obtain ⟨nq, hw''⟩ := hw'
                                    subst hw''
                                    as_aux_lemma =>
                                      go_wp2_with fail
                                      go_roundw
                                      case rel => exact ⟨⟨k + 1, by omega, by go_num⟩, _, rfl⟩
                                      case measure => simp [intOf]; omega
                  · have hq : u ≤ 0 := by have := m1 hy; omega
                    have b1 : (y == 0) = false := by simp; omega
                    have b2 : decide (0 < y) = true := by simp; omega
                    have b3 : decide (y < 0) = false := by simp; omega
                    clear m1 m2 m3 hy
                    have hwu : IntKind.i64.wrap (-u) = -u := by rw [IntKind.wrap_i64]; omega
                    have d1 : decide (0 < u) = false := by simp; omega
                    have d2 : decide (-u < 0) = false := by simp; omega
                    as_aux_lemma =>
                      go_wp2_with fail
                      refine wp_region_quiet_lit (by kernel_rfl) (lexB_of 111 (by kernel_rfl)) ?_
                      iterate 16 (first | go_big_quiet_step ((go_at_call 20; first | exact quiet_left (hs _) | exact quiet_add_left (hs _))) | quiet_step ((go_at_call 20; first | exact quiet_left (hs _) | exact quiet_add_left (hs _))))
                      as_aux_lemma =>
                        iterate 16 (first | go_big_quiet_step ((go_at_call 20; first | exact quiet_left (hs _) | exact quiet_add_left (hs _))) | quiet_step ((go_at_call 20; first | exact quiet_left (hs _) | exact quiet_add_left (hs _))))
                        as_aux_lemma =>
                          iterate 16 (first | go_big_quiet_step ((go_at_call 20; first | exact quiet_left (hs _) | exact quiet_add_left (hs _))) | quiet_step ((go_at_call 20; first | exact quiet_left (hs _) | exact quiet_add_left (hs _))))
                          as_aux_lemma =>
                            iterate 16 (first | go_big_quiet_step ((go_at_call 20; first | exact quiet_left (hs _) | exact quiet_add_left (hs _))) | quiet_step ((go_at_call 20; first | exact quiet_left (hs _) | exact quiet_add_left (hs _))))
                            as_aux_lemma =>
                              iterate 16 (first | go_big_quiet_step ((go_at_call 20; first | exact quiet_left (hs _) | exact quiet_add_left (hs _))) | quiet_step ((go_at_call 20; first | exact quiet_left (hs _) | exact quiet_add_left (hs _))))
                              as_aux_lemma =>
                                iterate 16 (first | go_big_quiet_step ((go_at_call 20; first | exact quiet_left (hs _) | exact quiet_add_left (hs _))) | quiet_step ((go_at_call 20; first | exact quiet_left (hs _) | exact quiet_add_left (hs _))))
                                as_aux_lemma =>
                                  repeat (first | go_big_quiet_step ((go_at_call 20; first | exact quiet_left (hs _) | exact quiet_add_left (hs _))) | quiet_step ((go_at_call 20; first | exact quiet_left (hs _) | exact quiet_add_left (hs _))))
                                  as_aux_lemma =>
                                    refine wpQuiet_nil ?_
                                    intro _ hw'
                                    obtain ⟨nq, hw''⟩ := hw'
                                    subst hw''
                                    as_aux_lemma =>
                                      go_wp2_with fail
                                      go_roundw
                                      case rel => exact ⟨⟨k + 1, by omega, by go_num⟩, _, rfl⟩
                                      case measure => simp [intOf]; omega
                · go_wp2_with fail
                  go_roundw
                  case rel => exact ⟨⟨i + 1, by omega, by go_num, by rw [hts.out, Int.add_zero]⟩, mi, rfl⟩
                  case measure => simp [intOf]; omega
            · have hxb : (x == 0) = false := by simp [hx0]
              clear hz0
              go_wp2_with fail
              go_loopw [11] (fun q wr => (∃ k : Nat, k ≤ i ∧ q = .int .i64 k) ∧ Quiet w3 wr) (fun q _ => i - (intOf q).toNat)
              case atStart => exact ⟨⟨0, by omega, rfl⟩, mo, rfl⟩
              case round =>
                obtain ⟨⟨k, hk, rfl⟩, mi, rfl⟩ := hrel
                by_cases hlk : k < i
                · have hkw : k < ws.length := by omega
                  have hkz : k < zs.length := by omega
                  obtain ⟨_, e1, _, cwk⟩ := hr13.val hkw
                  cases e1
                  obtain ⟨_, e1, _, czk⟩ := hr3.val hkz
                  cases e1
                  obtain ⟨ub1, ub2⟩ := HZ1.out k hkz
                  obtain ⟨m1, m2⟩ := HM.out k hkw hkz
                  have m3 := HAL.out k hkw hkz hlk
                  have hyp := HWP.out k hkw
                  generalize ws[k] = y at *
                  generalize zs[k] = u at *
                  rcases Int.lt_trichotomy y x with hy | hy | hy
                  · have hq : z ≤ u := by have := m2 hy; omega
                    have b1 : (y == x) = false := by simp; omega
                    have b2 : decide (x < y) = false := by simp; omega
                    have b3 : decide (y < x) = true := by simp; omega
                    clear m1 m2 m3 hy
                    have hwu : IntKind.i64.wrap (-u) = -u := by rw [IntKind.wrap_i64]; omega
                    have hwz : IntKind.i64.wrap (-z) = -z := by rw [IntKind.wrap_i64]; omega
                    have d1 : decide (u < z) = false := by simp; omega
                    have d2 : decide (-z < -u) = false := by simp; omega
                    as_aux_lemma =>
                      go_wp2_with fail
                      refine wp_region_quiet_lit (by kernel_rfl) (lexB_of 111 (by kernel_rfl)) ?_
                      iterate 16 (first | go_big_quiet_step ((go_at_call 20; first | exact quiet_left (hs _) | exact quiet_add_left (hs _))) | quiet_step ((go_at_call 20; first | exact quiet_left (hs _) | exact quiet_add_left (hs _))))
                      as_aux_lemma =>
                        iterate 16 (first | go_big_quiet_step ((go_at_call 20; first | exact quiet_left (hs _) | exact quiet_add_left (hs _))) | quiet_step ((go_at_call 20; first | exact quiet_left (hs _) | exact quiet_add_left (hs _))))
                        as_aux_lemma =>
                          iterate 16 (first | go_big_quiet_step ((go_at_call 20; first | exact quiet_left (hs _) | exact quiet_add_left (hs _))) | quiet_step ((go_at_call 20; first | exact quiet_left (hs _) | exact quiet_add_left (hs _))))
                          as_aux_lemma =>
                            iterate 16 (first | go_big_quiet_step ((go_at_call 20; first | exact quiet_left (hs _) | exact quiet_add_left (hs _))) | quiet_step ((go_at_call 20; first | exact quiet_left (hs _) | exact quiet_add_left (hs _))))
                            as_aux_lemma =>
                              iterate 16 (first | go_big_quiet_step ((go_at_call 20; first | exact quiet_left (hs _) | exact quiet_add_left (hs _))) | quiet_step ((go_at_call 20; first | exact quiet_left (hs _) | exact quiet_add_left (hs _))))
                              as_aux_lemma =>
                                iterate 16 (first | go_big_quiet_step ((go_at_call 20; first | exact quiet_left (hs _) | exact quiet_add_left (hs _))) | quiet_step ((go_at_call 20; first | exact quiet_left (hs _) | exact quiet_add_left (hs _))))
                                as_aux_lemma =>
                                  repeat (first | go_big_quiet_step ((go_at_call 20; first | exact quiet_left (hs _) | exact quiet_add_left (hs _))) | quiet_step ((go_at_call 20; first | exact quiet_left (hs _) | exact quiet_add_left (hs _))))
                                  as_aux_lemma =>
                                    refine wpQuiet_nil ?_
                                    intro _ hw'
                                    obtain ⟨nq, hw''⟩ := hw'
                                    subst hw''
                                    as_aux_lemma =>
                                      go_wp2_with fail
                                      go_roundw
                                      case rel => exact ⟨⟨k + 1, by omega, by go_num⟩, _, rfl⟩
                                      case measure => simp [intOf]; omega
                  · have hq := m3 hy
                    subst hy
                    clear m1 m2 m3
                    obtain ⟨d, hd⟩ : ∃ d, u - z = d := ⟨_, rfl⟩
                    rw [hd] at hq
                    have hwd : IntKind.i64.wrap (u - z) = d := by rw [hd, IntKind.wrap_i64]; omega
                    clear hd
                    have hq1 : d ≤ 0 := by omega
                    have hq2 : -1 ≤ d := by omega
                    clear hq
                    have hwv : IntKind.i64.wrap (-d) = -d := by rw [IntKind.wrap_i64]; omega
                    have d1 : decide (1 < -d) = false := by simp; omega
                    have d2 : decide (-d < 0) = false := by simp; omega
                    have d3 : decide (0 < d) = false := by simp; omega
                    have d4 : decide (d < -1) = false := by simp; omega
                    have e1 : decide (y < y) = false := by simp
                    as_aux_lemma =>
                      go_wp2_with fail
                      refine wp_region_quiet_lit (by kernel_rfl) (lexB_of 111 (by kernel_rfl)) ?_
                      iterate 16 (first | go_big_quiet_step ((go_at_call 20; first | exact quiet_left (hs _) | exact quiet_add_left (hs _))) | quiet_step ((go_at_call 20; first | exact quiet_left (hs _) | exact quiet_add_left (hs _))))
                      as_aux_lemma =>
                        iterate 16 (first | go_big_quiet_step ((go_at_call 20; first | exact quiet_left (hs _) | exact quiet_add_left (hs _))) | quiet_step ((go_at_call 20; first | exact quiet_left (hs _) | exact quiet_add_left (hs _))))
                        as_aux_lemma =>
                          iterate 16 (first | go_big_quiet_step ((go_at_call 20; first | exact quiet_left (hs _) | exact quiet_add_left (hs _))) | quiet_step ((go_at_call 20; first | exact quiet_left (hs _) | exact quiet_add_left (hs _))))
                          as_aux_lemma =>
                            iterate 16 (first | go_big_quiet_step ((go_at_call 20; first | exact quiet_left (hs _) | exact quiet_add_left (hs _))) | quiet_step ((go_at_call 20; first | exact quiet_left (hs _) | exact quiet_add_left (hs _))))
                            as_aux_lemma =>
                              iterate 16 (first | go_big_quiet_step ((go_at_call 20; first | exact quiet_left (hs _) | exact quiet_add_left (hs _))) | quiet_step ((go_at_call 20; first | exact quiet_left (hs _) | exact quiet_add_left (hs _))))
                              as_aux_lemma =>
                                iterate 16 (first | go_big_quiet_step ((go_at_call 20; first | exact quiet_left (hs _) | exact quiet_add_left (hs _))) | quiet_step ((go_at_call 20; first | exact quiet_left (hs _) | exact quiet_add_left (hs _))))
                                as_aux_lemma =>
                                  repeat (first | go_big_quiet_step ((go_at_call 20; first | exact quiet_left (hs _) | exact quiet_add_left (hs _))) | quiet_step ((go_at_call 20; first | exact quiet_left (hs _) | exact quiet_add_left (hs _))))
                                  as_aux_lemma =>
                                    refine wpQuiet_nil ?_
                                    intro _ hw'
                                    obtain ⟨nq, hw''⟩ := hw'
                                    subst hw''
                                    as_aux_lemma =>
                                      go_wp2_with fail
                                      go_roundw
                                      case rel => exact ⟨⟨k + 1, by omega, by go_num⟩, _, rfl⟩
                                      case measure => simp [intOf]; omega
                  · have hq : u ≤ z := by have := m1 hy; omega
                    have b1 : (y == x) = false := by simp; omega
                    have b2 : decide (x < y) = true := by simp; omega
                    have b3 : decide (y < x) = false := by simp; omega
                    clear m1 m2 m3 hy
                    have hwu : IntKind.i64.wrap (-u) = -u := by rw [IntKind.wrap_i64]; omega
                    have hwz : IntKind.i64.wrap (-z) = -z := by rw [IntKind.wrap_i64]; omega
                    have d1 : decide (z < u) = false := by simp; omega
                    have d2 : decide (-u < -z) = false := by simp; omega
                    as_aux_lemma =>
                      go_wp2_with fail
                      refine wp_region_quiet_lit (by kernel_rfl) (lexB_of 111 (by kernel_rfl)) ?_
                      iterate 16 (first | go_big_quiet_step ((go_at_call 20; first | exact quiet_left (hs _) | exact quiet_add_left (hs _))) | quiet_step ((go_at_call 20; first | exact quiet_left (hs _) | exact quiet_add_left (hs _))))
                      as_aux_lemma =>
                        iterate 16 (first | go_big_quiet_step ((go_at_call 20; first | exact quiet_left (hs _) | exact quiet_add_left (hs _))) | quiet_step ((go_at_call 20; first | exact quiet_left (hs _) | exact quiet_add_left (hs _))))
                        as_aux_lemma =>
                          iterate 16 (first | go_big_quiet_step ((go_at_call 20; first | exact quiet_left (hs _) | exact quiet_add_left (hs _))) | quiet_step ((go_at_call 20; first | exact quiet_left (hs _) | exact quiet_add_left (hs _))))
                          as_aux_lemma =>
                            iterate 16 (first | go_big_quiet_step ((go_at_call 20; first | exact quiet_left (hs _) | exact quiet_add_left (hs _))) | quiet_step ((go_at_call 20; first | exact quiet_left (hs _) | exact quiet_add_left (hs _))))
                            as_aux_lemma =>
                              iterate 16 (first | go_big_quiet_step ((go_at_call 20; first | exact quiet_left (hs _) | exact quiet_add_left (hs _))) | quiet_step ((go_at_call 20; first | exact quiet_left (hs _) | exact quiet_add_left (hs _))))
                              as_aux_lemma =>
                                iterate 16 (first | go_big_quiet_step ((go_at_call 20; first | exact quiet_left (hs _) | exact quiet_add_left (hs _))) | quiet_step ((go_at_call 20; first | exact quiet_left (hs _) | exact quiet_add_left (hs _))))
                                as_aux_lemma =>
                                  repeat (first | go_big_quiet_step ((go_at_call 20; first | exact quiet_left (hs _) | exact quiet_add_left (hs _))) | quiet_step ((go_at_call 20; first | exact quiet_left (hs _) | exact quiet_add_left (hs _))))
                                  as_aux_lemma =>
                                    refine wpQuiet_nil ?_
                                    intro _ hw'
                                    obtain ⟨nq, hw''⟩ := hw'
                                    subst hw''
                                    as_aux_lemma =>
                                      go_wp2_with fail
                                      go_roundw
                                      case rel => exact ⟨⟨k + 1, by omega, by go_num⟩, _, rfl⟩
                                      case measure => simp [intOf]; omega
                · go_wp2_with fail
                  go_roundw
                  case rel => exact ⟨⟨i + 1, by omega, by go_num, by rw [hts.out]⟩, mi, rfl⟩
                  case measure => simp [intOf]; omega
          · obtain rfl : i = zs.length := by omega
            have hsum := F.sum
            rw [List.take_of_length_le (Nat.le_refl _)] at sb1 sb2 ⊢
            cases b
            · have h0 : wSum ws = 0 := by have := HBF.out; simp at this; omega
              rw [if_pos h0] at hsum
              rw [hsum]
              clear hsum
              go_wp2_with fail
              go_ret
              exact ⟨rfl, below_drewN hbb mo⟩
            · have h0 : wSum ws ≠ 0 := by have := HBF.out.1 rfl; omega
              rw [if_neg h0] at hsum
              rw [hsum]
              clear hsum
              go_wp2_with fail
              go_ret
              exact ⟨by simp, below_drewN hbb mo⟩
      · go_wp2_with fail
        go_loopw [9, 10] (fun s i wr => GivB zs s i ∧ Quiet w3 wr) (fun _ i _ => zs.length - (intOf i).toNat)
        case atStart => exact ⟨⟨0, by omega, rfl, rfl⟩, Quiet.refl _⟩
        case round =>
          obtain ⟨⟨i, hi, rfl, rfl⟩, mo, rfl⟩ := hrel
          obtain ⟨sb1, sb2⟩ := HZB.out i
          by_cases hli : i < zs.length
          · have hlw : i < ws.length := by have := HZL.out; omega
            obtain ⟨ad, rfl, hbw, cw⟩ := hr13.val hlw
            obtain ⟨ad3, rfl, hbz, cz⟩ := hr3.val hli
            obtain ⟨zb1, zb2⟩ := HZ1.out i hli
            have hts := Lib.hid (take_sum zs i hli)
            have hz0 := F.zero i hlw hli
            have hsg : sgn t = 1 := if_neg (by omega)
            have hzs : 0 ≤ zs[i] := (F.pos (by omega) i hli).1
            have HM := Lib.hid (fun k (hk : k < ws.length) (hk' : k < zs.length) => And.intro (F.more i k hlw hk hli hk') (F.more k i hk hlw hk' hli))
            have HAL := Lib.hid (fun k (hk : k < ws.length) (hk' : k < zs.length) (hki : k < i) => F.alike i k hlw hk hli hk' hki)
            rw [hsg] at HM HAL
            have hs := fun W => sign_any t W
            rw [hsg] at hs
            clear hsg
            generalize hwi : ws[i] = x at *
            generalize hzi : zs[i] = z at *
            clear hwi hzi
            by_cases hx0 : x = 0
            · obtain rfl := hz0 hx0
              subst hx0
              clear hz0 hzs
              go_wp2_with fail
              go_loopw [11] (fun q wr => (∃ k : Nat, k ≤ i ∧ q = .int .i64 k) ∧ Quiet w3 wr) (fun q _ => i - (intOf q).toNat)
              case atStart => exact ⟨⟨0, by omega, rfl⟩, mo, rfl⟩
              case round =>
                obtain ⟨⟨k, hk, rfl⟩, mi, rfl⟩ := hrel
                by_cases hlk : k < i
                · have hkw : k < ws.length := by omega
                  have hkz : k < zs.length := by omega
                  obtain ⟨_, e1, _, cwk⟩ := hr13.val hkw
                  cases e1
                  obtain ⟨_, e1, _, czk⟩ := hr3.val hkz
                  cases e1
                  obtain ⟨ub1, ub2⟩ := HZ1.out k hkz
                  obtain ⟨m1, m2⟩ := HM.out k hkw hkz
                  have m3 := HAL.out k hkw hkz hlk
                  have hyp := HWP.out k hkw
                  generalize ws[k] = y at *
                  generalize zs[k] = u at *
                  rcases Int.lt_trichotomy y 0 with hy | hy | hy
                  · exact absurd hyp (by omega)
                  · have hq := m3 hy
                    subst hy
                    clear m1 m2 m3
                    have hq1 : 0 ≤ u := by omega
                    have hq2 : u ≤ 1 := by omega
                    clear hq
                    have hwu : IntKind.i64.wrap u = u := by rw [IntKind.wrap_i64]; omega
                    have d1 : decide (1 < u) = false := by simp; omega
                    have d2 : decide (u < 0) = false := by simp; omega
                    have e1 : decide (0 < 0) = false := by simp
                    as_aux_lemma =>
                      go_wp2_with fail
                      refine wp_region_quiet_lit (by kernel_rfl) (lexB_of 111 (by kernel_rfl)) ?_
                      iterate 16 (first | go_big_quiet_step ((go_at_call 20; first | exact quiet_left (hs _) | exact quiet_add_left (hs _))) | quiet_step ((go_at_call 20; first | exact quiet_left (hs _) | exact quiet_add_left (hs _))))
                      as_aux_lemma =>
                        iterate 16 (first | go_big_quiet_step ((go_at_call 20; first | exact quiet_left (hs _) | exact quiet_add_left (hs _))) | quiet_step ((go_at_call 20; first | exact quiet_left (hs _) | exact quiet_add_left (hs _))))
                        as_aux_lemma =>
                          iterate 16 (first | go_big_quiet_step ((go_at_call 20; first | exact quiet_left (hs _) | exact quiet_add_left (hs _))) | quiet_step ((go_at_call 20; first | exact quiet_left (hs _) | exact quiet_add_left (hs _))))
                          as_aux_lemma =>
                            iterate 16 (first | go_big_quiet_step ((go_at_call 20; first | exact quiet_left (hs _) | exact quiet_add_left (hs _))) | quiet_step ((go_at_call 20; first | exact quiet_left (hs _) | exact quiet_add_left (hs _))))
                            as_aux_lemma =>
                              iterate 16 (first | go_big_quiet_step ((go_at_call 20; first | exact quiet_left (hs _) | exact quiet_add_left (hs _))) | quiet_step ((go_at_call 20; first | exact quiet_left (hs _) | exact quiet_add_left (hs _))))
                              as_aux_lemma =>
                                iterate 16 (first | go_big_quiet_step ((go_at_call 20; first | exact quiet_left (hs _) | exact quiet_add_left (hs _))) | quiet_step ((go_at_call 20; first | exact quiet_left (hs _) | exact quiet_add_left (hs _))))
                                as_aux_lemma =>
                                  repeat (first | go_big_quiet_step ((go_at_call 20; first | exact quiet_left (hs _) | exact quiet_add_left (hs _))) | quiet_step ((go_at_call 20; first | exact quiet_left (hs _) | exact quiet_add_left (hs _))))
                                  as_aux_lemma =>
                                    refine wpQuiet_nil ?_
                                    intro _ hw'
                                    obtain ⟨nq, hw''⟩ := hw'
                                    subst hw''
                                    as_aux_lemma =>
                                      go_wp2_with fail
                                      go_roundw
                                      case rel => exact ⟨⟨k + 1, by omega, by go_num⟩, _, rfl⟩
                                      case measure => simp [intOf]; omega
                  · have hq : 0 ≤ u := by have := m1 hy; omega
                    have b1 : (y == 0) = false := by simp; omega
                    have b2 : decide (0 < y) = true := by simp; omega
                    have b3 : decide (y < 0) = false := by simp; omega
                    clear m1 m2 m3 hy
                    have hwu : IntKind.i64.wrap u = u := by rw [IntKind.wrap_i64]; omega
                    have d1 : decide (u < 0) = false := by simp; omega
                    as_aux_lemma =>
                      go_wp2_with fail
                      refine wp_region_quiet_lit (by kernel_rfl) (lexB_of 111 (by kernel_rfl)) ?_
                      iterate 16 (first | go_big_quiet_step ((go_at_call 20; first | exact quiet_left (hs _) | exact quiet_add_left (hs _))) | quiet_step ((go_at_call 20; first | exact quiet_left (hs _) | exact quiet_add_left (hs _))))
                      as_aux_lemma =>
                        iterate 16 (first | go_big_quiet_step ((go_at_call 20; first | exact quiet_left (hs _) | exact quiet_add_left (hs _))) | quiet_step ((go_at_call 20; first | exact quiet_left (hs _) | exact quiet_add_left (hs _))))
                        as_aux_lemma =>
                          iterate 16 (first | go_big_quiet_step ((go_at_call 20; first | exact quiet_left (hs _) | exact quiet_add_left (hs _))) | quiet_step ((go_at_call 20; first | exact quiet_left (hs _) | exact quiet_add_left (hs _))))
                          as_aux_lemma =>
                            iterate 16 (first | go_big_quiet_step ((go_at_call 20; first | exact quiet_left (hs _) | exact quiet_add_left (hs _))) | quiet_step ((go_at_call 20; first | exact quiet_left (hs _) | exact quiet_add_left (hs _))))
                            as_aux_lemma =>
                              iterate 16 (first | go_big_quiet_step ((go_at_call 20; first | exact quiet_left (hs _) | exact quiet_add_left (hs _))) | quiet_step ((go_at_call 20; first | exact quiet_left (hs _) | exact quiet_add_left (hs _))))
                              as_aux_lemma =>
                                iterate 16 (first | go_big_quiet_step ((go_at_call 20; first | exact quiet_left (hs _) | exact quiet_add_left (hs _))) | quiet_step ((go_at_call 20; first | exact quiet_left (hs _) | exact quiet_add_left (hs _))))
                                as_aux_lemma =>
                                  repeat (first | go_big_quiet_step ((go_at_call 20; first | exact quiet_left (hs _) | exact quiet_add_left (hs _))) | quiet_step ((go_at_call 20; first | exact quiet_left (hs _) | exact quiet_add_left (hs _))))
                                  as_aux_lemma =>
                                    refine wpQuiet_nil ?_
                                    intro _ hw'
                                    obtain ⟨nq, hw''⟩ := hw'
                                    subst hw''
                                    as_aux_lemma =>
                                      go_wp2_with fail
                                      go_roundw
                                      case rel => exact ⟨⟨k + 1, by omega, by go_num⟩, _, rfl⟩
                                      case measure => simp [intOf]; omega
                · go_wp2_with fail
                  go_roundw
                  case rel => exact ⟨⟨i + 1, by omega, by go_num, by rw [hts.out, Int.add_zero]⟩, mi, rfl⟩
                  case measure => simp [intOf]; omega
            · have hxb : (x == 0) = false := by simp [hx0]
              clear hz0
              go_wp2_with fail
              go_loopw [11] (fun q wr => (∃ k : Nat, k ≤ i ∧ q = .int .i64 k) ∧ Quiet w3 wr) (fun q _ => i - (intOf q).toNat)
              case atStart => exact ⟨⟨0, by omega, rfl⟩, mo, rfl⟩
              case round =>
                obtain ⟨⟨k, hk, rfl⟩, mi, rfl⟩ := hrel
                by_cases hlk : k < i
                · have hkw : k < ws.length := by omega
                  have hkz : k < zs.length := by omega
                  obtain ⟨_, e1, _, cwk⟩ := hr13.val hkw
                  cases e1
                  obtain ⟨_, e1, _, czk⟩ := hr3.val hkz
                  cases e1
                  obtain ⟨ub1, ub2⟩ := HZ1.out k hkz
                  obtain ⟨m1, m2⟩ := HM.out k hkw hkz
                  have m3 := HAL.out k hkw hkz hlk
                  have hyp := HWP.out k hkw
                  generalize ws[k] = y at *
                  generalize zs[k] = u at *
                  rcases Int.lt_trichotomy y x with hy | hy | hy
                  · have hq : u ≤ z := by have := m2 hy; omega
                    have b1 : (y == x) = false := by simp; omega
                    have b2 : decide (x < y) = false := by simp; omega
                    have b3 : decide (y < x) = true := by simp; omega
                    clear m1 m2 m3 hy
                    have hwu : IntKind.i64.wrap u = u := by rw [IntKind.wrap_i64]; omega
                    have hwz : IntKind.i64.wrap z = z := by rw [IntKind.wrap_i64]; omega
                    have d1 : decide (z < u) = false := by simp; omega
                    as_aux_lemma =>
                      go_wp2_with fail
                      refine wp_region_quiet_lit (by kernel_rfl) (lexB_of 111 (by kernel_rfl)) ?_
                      iterate 16 (first | go_big_quiet_step ((go_at_call 20; first | exact quiet_left (hs _) | exact quiet_add_left (hs _))) | quiet_step ((go_at_call 20; first | exact quiet_left (hs _) | exact quiet_add_left (hs _))))
                      as_aux_lemma =>
                        iterate 16 (first | go_big_quiet_step ((go_at_call 20; first | exact quiet_left (hs _) | exact quiet_add_left (hs _))) | quiet_step ((go_at_call 20; first | exact quiet_left (hs _) | exact quiet_add_left (hs _))))
                        as_aux_lemma =>
                          iterate 16 (first | go_big_quiet_step ((go_at_call 20; first | exact quiet_left (hs _) | exact quiet_add_left (hs _))) | quiet_step ((go_at_call 20; first | exact quiet_left (hs _) | exact quiet_add_left (hs _))))
                          as_aux_lemma =>
                            iterate 16 (first | go_big_quiet_step ((go_at_call 20; first | exact quiet_left (hs _) | exact quiet_add_left (hs _))) | quiet_step ((go_at_call 20; first | exact quiet_left (hs _) | exact quiet_add_left (hs _))))
                            as_aux_lemma =>
                              iterate 16 (first | go_big_quiet_step ((go_at_call 20; first | exact quiet_left (hs _) | exact quiet_add_left (hs _))) | quiet_step ((go_at_call 20; first | exact quiet_left (hs _) | exact quiet_add_left (hs _))))
                              as_aux_lemma =>
                                iterate 16 (first | go_big_quiet_step ((go_at_call 20; first | exact quiet_left (hs _) | exact quiet_add_left (hs _))) | quiet_step ((go_at_call 20; first | exact quiet_left (hs _) | exact quiet_add_left (hs _))))
                                as_aux_lemma =>
                                  repeat (first | go_big_quiet_step ((go_at_call 20; first | exact quiet_left (hs _) | exact quiet_add_left (hs _))) | quiet_step ((go_at_call 20; first | exact quiet_left (hs _) | exact quiet_add_left (hs _))))
                                  as_aux_lemma =>
                                    refine wpQuiet_nil ?_
                                    intro _ hw'
                                    obtain ⟨nq, hw''⟩ := hw'
                                    subst hw''
                                    as_aux_lemma =>
                                      go_wp2_with fail
                                      go_roundw
                                      case rel => exact ⟨⟨k + 1, by omega, by go_num⟩, _, rfl⟩
                                      case measure => simp [intOf]; omega
                  · have hq := m3 hy
                    subst hy
                    clear m1 m2 m3
                    obtain ⟨d, hd⟩ : ∃ d, u - z = d := ⟨_, rfl⟩
                    rw [hd] at hq
                    have hwd : IntKind.i64.wrap (u - z) = d := by rw [hd, IntKind.wrap_i64]; omega
                    clear hd
                    have hq1 : 0 ≤ d := by omega
                    have hq2 : d ≤ 1 := by omega
                    clear hq
                    have hwv : IntKind.i64.wrap d = d := by rw [IntKind.wrap_i64]; omega
                    have d1 : decide (1 < d) = false := by simp; omega
                    have d2 : decide (d < 0) = false := by simp; omega
                    have e1 : decide (y < y) = false := by simp
                    as_aux_lemma =>
                      go_wp2_with fail
                      refine wp_region_quiet_lit (by kernel_rfl) (lexB_of 111 (by kernel_rfl)) ?_
                      iterate 16 (first | go_big_quiet_step ((go_at_call 20; first | exact quiet_left (hs _) | exact quiet_add_left (hs _))) | quiet_step ((go_at_call 20; first | exact quiet_left (hs _) | exact quiet_add_left (hs _))))
                      as_aux_lemma =>
                        iterate 16 (first | go_big_quiet_step ((go_at_call 20; first | exact quiet_left (hs _) | exact quiet_add_left (hs _))) | quiet_step ((go_at_call 20; first | exact quiet_left (hs _) | exact quiet_add_left (hs _))))
                        as_aux_lemma =>
                          iterate 16 (first | go_big_quiet_step ((go_at_call 20; first | exact quiet_left (hs _) | exact quiet_add_left (hs _))) | quiet_step ((go_at_call 20; first | exact quiet_left (hs _) | exact quiet_add_left (hs _))))
                          as_aux_lemma =>
                            iterate 16 (first | go_big_quiet_step ((go_at_call 20; first | exact quiet_left (hs _) | exact quiet_add_left (hs _))) | quiet_step ((go_at_call 20; first | exact quiet_left (hs _) | exact quiet_add_left (hs _))))
                            as_aux_lemma =>
                              iterate 16 (first | go_big_quiet_step ((go_at_call 20; first | exact quiet_left (hs _) | exact quiet_add_left (hs _))) | quiet_step ((go_at_call 20; first | exact quiet_left (hs _) | exact quiet_add_left (hs _))))
                              as_aux_lemma =>
                                iterate 16 (first | go_big_quiet_step ((go_at_call 20; first | exact quiet_left (hs _) | exact quiet_add_left (hs _))) | quiet_step ((go_at_call 20; first | exact quiet_left (hs _) | exact quiet_add_left (hs _))))
                                as_aux_lemma =>
                                  repeat (first | go_big_quiet_step ((go_at_call 20; first | exact quiet_left (hs _) | exact quiet_add_left (hs _))) | quiet_step ((go_at_call 20; first | exact quiet_left (hs _) | exact quiet_add_left (hs _))))
                                  as_aux_lemma =>
                                    refine wpQuiet_nil ?_
                                    intro _ hw'
                                    obtain ⟨nq, hw''⟩ := hw'
                                    subst hw''
                                    as_aux_lemma =>
                                      go_wp2_with fail
                                      go_roundw
                                      case rel => exact ⟨⟨k + 1, by omega, by go_num⟩, _, rfl⟩
                                      case measure => simp [intOf]; omega
                  · have hq : z ≤ u := by have := m1 hy; omega
                    have b1 : (y == x) = false := by simp; omega
                    have b2 : decide (x < y) = true := by simp; omega
                    have b3 : decide (y < x) = false := by simp; omega
                    clear m1 m2 m3 hy
                    have hwu : IntKind.i64.wrap u = u := by rw [IntKind.wrap_i64]; omega
                    have hwz : IntKind.i64.wrap z = z := by rw [IntKind.wrap_i64]; omega
                    have d1 : decide (u < z) = false := by simp; omega
                    as_aux_lemma =>
                      go_wp2_with fail
                      refine wp_region_quiet_lit (by kernel_rfl) (lexB_of 111 (by kernel_rfl)) ?_
                      iterate 16 (first | go_big_quiet_step ((go_at_call 20; first | exact quiet_left (hs _) | exact quiet_add_left (hs _))) | quiet_step ((go_at_call 20; first | exact quiet_left (hs _) | exact quiet_add_left (hs _))))
                      as_aux_lemma =>
                        iterate 16 (first | go_big_quiet_step ((go_at_call 20; first | exact quiet_left (hs _) | exact quiet_add_left (hs _))) | quiet_step ((go_at_call 20; first | exact quiet_left (hs _) | exact quiet_add_left (hs _))))
                        as_aux_lemma =>
                          iterate 16 (first | go_big_quiet_step ((go_at_call 20; first | exact quiet_left (hs _) | exact quiet_add_left (hs _))) | quiet_step ((go_at_call 20; first | exact quiet_left (hs _) | exact quiet_add_left (hs _))))
                          as_aux_lemma =>
                            iterate 16 (first | go_big_quiet_step ((go_at_call 20; first | exact quiet_left (hs _) | exact quiet_add_left (hs _))) | quiet_step ((go_at_call 20; first | exact quiet_left (hs _) | exact quiet_add_left (hs _))))
                            as_aux_lemma =>
                              iterate 16 (first | go_big_quiet_step ((go_at_call 20; first | exact quiet_left (hs _) | exact quiet_add_left (hs _))) | quiet_step ((go_at_call 20; first | exact quiet_left (hs _) | exact quiet_add_left (hs _))))
                              as_aux_lemma =>
                                iterate 16 (first | go_big_quiet_step ((go_at_call 20; first | exact quiet_left (hs _) | exact quiet_add_left (hs _))) | quiet_step ((go_at_call 20; first | exact quiet_left (hs _) | exact quiet_add_left (hs _))))
                                as_aux_lemma =>
                                  repeat (first | go_big_quiet_step ((go_at_call 20; first | exact quiet_left (hs _) | exact quiet_add_left (hs _))) | quiet_step ((go_at_call 20; first | exact quiet_left (hs _) | exact quiet_add_left (hs _))))
                                  as_aux_lemma =>
                                    refine wpQuiet_nil ?_
                                    intro _ hw'
                                    obtain ⟨nq, hw''⟩ := hw'
                                    subst hw''
                                    as_aux_lemma =>
                                      go_wp2_with fail
                                      go_roundw
                                      case rel => exact ⟨⟨k + 1, by omega, by go_num⟩, _, rfl⟩
                                      case measure => simp [intOf]; omega
                · go_wp2_with fail
                  go_roundw
                  case rel => exact ⟨⟨i + 1, by omega, by go_num, by rw [hts.out]⟩, mi, rfl⟩
                  case measure => simp [intOf]; omega
          · obtain rfl : i = zs.length := by omega
            have hsum := F.sum
            rw [List.take_of_length_le (Nat.le_refl _)] at sb1 sb2 ⊢
            cases b
            · have h0 : wSum ws = 0 := by have := HBF.out; simp at this; omega
              rw [if_pos h0] at hsum
              rw [hsum]
              clear hsum
              go_wp2_with fail
              go_ret
              exact ⟨rfl, below_drewN hbb mo⟩
            · have h0 : wSum ws ≠ 0 := by have := HBF.out.1 rfl; omega
              rw [if_neg h0] at hsum
              rw [hsum]
              clear hsum
              go_wp2_with fail
              go_ret
              exact ⟨by simp, below_drewN hbb mo⟩

set_option maxRecDepth 100000 in
theorem fixedGiven_walk (n : Int) (v : Value) (ws : List Int) (w : World) (h : Ints w w.heap.size v ws) (hl : ws.length ≤ 17592186044416) :
    LawReturns 5 #[.int .i64 n, v] w := by
  by_cases g1 : 200 < ws.length
  · unfold LawReturns
    obtain ⟨A, c, rfl, hc, hr⟩ := h
    go_enter Try.func5, Try.ntmps5
    go_wp2_with fail
    refine (awake01 _).mono ?_
    rintro e w1 ⟨rfl, h1⟩
    go_wp2_with fail
    go_ret
    exact ⟨rfl, h1⟩
  · exact given_main n v ws w h (by omega)

end Go.Proofs.Ytbhdolghokhfnaa
