/-
  Walks: windowpaneref17.Main: what it answers.
-/
import Derived.Test.YtpelapdadgmlkaaRef17
import Derived.Test.YtpelapdadgmlkaaLeft17
namespace Go.Proofs.Ytpelapdadgmlkaa
open Go.RowKit

set_option maxRecDepth 100000 in
set_option maxHeartbeats 4000000 in
theorem rmain_bad (outer : List Int) (gap room : Int) (j : Nat) (back : Bool) (v : Value) (B : Nat) (w : World) (h : Ints w B v outer) (hm : outer.length ≤ 17592186044416) (hj : j < 256)
    (hbad : 300 < outer.length ∨ gap < 0 ∨ room < 0 ∨ 4 < j) :
    Calls Try.prog 82 #[v, .int .i64 gap, .int .i64 room, .int .u8 j, .bool back] w (MainPost outer gap room j back w) := by
  have HR := Lib.hid (show mainR outer gap room j back = ([], 2) by unfold mainR; rw [if_pos hbad])
  obtain ⟨A, c, rfl, _, _⟩ := h
  have h3 : 300 < outer.length ∨ (¬ 300 < outer.length ∧ gap < 0) ∨ (¬ 300 < outer.length ∧ ¬ gap < 0 ∧ room < 0) ∨ (¬ 300 < outer.length ∧ ¬ gap < 0 ∧ ¬ room < 0 ∧ 4 < j) := by omega
  clear hbad
  rcases h3 with g1 | ⟨g1, g2⟩ | ⟨g1, g2, g3⟩ | ⟨g1, g2, g3, g4⟩
  all_goals
    go_enter Try.func82, Try.ntmps82
    go_wp2_with fail
    go_ret2
    exact ⟨_, by rw [HR.out]; rfl, by rw [HR.out]; exact Owns.nil _ _, Below.refl _ _⟩

set_option maxRecDepth 100000 in
set_option maxHeartbeats 4000000 in
theorem rmain_unfit (outer : List Int) (gap room : Int) (j : Nat) (back : Bool) (v : Value) (B : Nat) (w : World) (h : Ints w B v outer)
    (g1 : ¬ 300 < outer.length) (g2 : ¬ gap < 0) (g3 : ¬ room < 0) (g4 : ¬ 4 < j) (hun : ¬ (outer.all fit = true ∧ fit gap = true ∧ fit room = true)) :
    Calls Try.prog 82 #[v, .int .i64 gap, .int .i64 room, .int .u8 j, .bool back] w (MainPost outer gap room j back w) := by
  have HR := Lib.hid (show mainR outer gap room j back = ([], 10) by unfold mainR; rw [if_neg (by omega), if_neg hun])
  have hf1 := rall outer v B w h (by omega)
  have hf2 := rfits gap w
  have hf3 := rfits room w
  obtain ⟨A, c, rfl, _, _⟩ := h
  cases hA : outer.all fit with
  | false =>
    rw [hA] at hf1
    clear hun hA hf2 hf3
    go_enter Try.func82, Try.ntmps82
    go_wp2_with fail
    refine hf1.mono ?_
    rintro e w2 ⟨rfl, rfl⟩
    go_wp2_with fail
    go_ret2
    exact ⟨_, by rw [HR.out]; rfl, by rw [HR.out]; exact Owns.nil _ _, Below.refl _ _⟩
  | true =>
    rw [hA] at hf1
    cases hg : fit gap with
    | false =>
      rw [hg] at hf2
      clear hun hA hg hf3
      go_enter Try.func82, Try.ntmps82
      go_wp2_with fail
      refine hf1.mono ?_
      rintro e w2 ⟨rfl, rfl⟩
      go_wp2_with fail
      refine hf2.mono ?_
      rintro e w2 ⟨rfl, rfl⟩
      go_wp2_with fail
      go_ret2
      exact ⟨_, by rw [HR.out]; rfl, by rw [HR.out]; exact Owns.nil _ _, Below.refl _ _⟩
    | true =>
      have hr : fit room = false := by
        cases h1 : fit room with
        | false => rfl
        | true => exact absurd ⟨hA, hg, h1⟩ hun
      rw [hg] at hf2
      rw [hr] at hf3
      clear hun hA hg hr
      go_enter Try.func82, Try.ntmps82
      go_wp2_with fail
      refine hf1.mono ?_
      rintro e w2 ⟨rfl, rfl⟩
      go_wp2_with fail
      refine hf2.mono ?_
      rintro e w2 ⟨rfl, rfl⟩
      go_wp2_with fail
      refine hf3.mono ?_
      rintro e w2 ⟨rfl, rfl⟩
      go_wp2_with fail
      go_ret2
      exact ⟨_, by rw [HR.out]; rfl, by rw [HR.out]; exact Owns.nil _ _, Below.refl _ _⟩

theorem lfTo_bd3 {outer : List Int} {gap room : Int} (hO : outer.all fit = true) (hl : outer.length ≤ 300) (g0 : 0 ≤ gap) (g1 : gap ≤ 1099511627776) (r0 : 0 ≤ room) (r1 : room ≤ 1099511627776) (k : Nat) (hk : k ≤ outer.length) :
    -659706976665600 ≤ lfTo outer gap room k ∧ lfTo outer gap room k ≤ 330952999960576 := by
  have := lfTo_bd hO g0 g1 r0 r1 k
  omega

set_option maxRecDepth 100000 in
set_option maxHeartbeats 4000000 in
theorem rmain_good (outer : List Int) (gap room : Int) (j : Nat) (back : Bool) (v : Value) (B : Nat) (w : World) (h : Ints w B v outer) (hB : B ≤ w.heap.size)
    (g1 : ¬ 300 < outer.length) (g2 : ¬ gap < 0) (g3 : ¬ room < 0) (g4 : ¬ 4 < j) (hA : outer.all fit = true) (hg : fit gap = true) (hr : fit room = true) :
    Calls Try.prog 82 #[v, .int .i64 gap, .int .i64 room, .int .u8 j, .bool back] w (MainPost outer gap room j back w) := by
  have nb : ¬ (300 < outer.length ∨ gap < 0 ∨ room < 0 ∨ 4 < j) := by omega
  have hf1 := rall outer v B w h (by omega)
  have hf2 := rfits gap w
  have hf3 := rfits room w
  have hf4 := rfits (lfTo outer gap room outer.length) w
  rw [hA] at hf1
  rw [hg] at hf2
  rw [hr] at hf3
  obtain ⟨p1, p2⟩ := (fit_iff _).1 hg
  obtain ⟨p3, p4⟩ := (fit_iff _).1 hr
  have h' := h
  obtain ⟨A, c, rfl, _, hrd⟩ := h'
  have HBD := Lib.hid (fun k (hk : k ≤ outer.length) => lfTo_bd3 hA (by omega) (by omega) p2 (by omega) p4 k hk)
  have HST := Lib.hid (fun k (hk : k < outer.length) => lfTo_succ outer gap room hk)
  have HR0 := Lib.hid (fun (h0 : outer.length = 0) => show mainR outer gap room j back = ([], 0) by unfold mainR; rw [if_neg nb, if_pos ⟨hA, hg, hr⟩, if_pos h0])
  have HL0 := Lib.hid (fun (h0 : outer.length = 0) => show lfTo outer gap room outer.length = room by rw [h0]; simp [lfTo])
  have HRb := Lib.hid (fun (h0 : 0 < outer.length) (hl : fit (lfTo outer gap room outer.length) = false) => show mainR outer gap room j back = ([], 10) by
    rw [lfTo_left gap room h0] at hl
    unfold mainR; rw [if_neg nb, if_pos ⟨hA, hg, hr⟩, if_neg (by omega), if_neg (by rw [hl]; simp)])
  have HRo := Lib.hid (fun (h0 : 0 < outer.length) (hl : fit (lfTo outer gap room outer.length) = true) => show mainR outer gap room j back = if (atTo (moreR outer.length (lfTo outer gap room outer.length) j) outer gap room back outer.length).all fit = true then (atTo (moreR outer.length (lfTo outer gap room outer.length) j) outer gap room back outer.length, 0) else ([], 10) by
    rw [lfTo_left gap room h0] at hl ⊢
    unfold mainR; rw [if_neg nb, if_pos ⟨hA, hg, hr⟩, if_neg (by omega), if_pos hl])
  have HA := Lib.hid hA
  have HRF := Lib.hid hr
  clear nb hA hg hr
  go_enter Try.func82, Try.ntmps82
  go_wp2_with fail
  refine hf1.mono ?_
  rintro e w2 ⟨rfl, rfl⟩
  go_wp2_with fail
  refine hf2.mono ?_
  rintro e w2 ⟨rfl, rfl⟩
  go_wp2_with fail
  refine hf3.mono ?_
  rintro e w2 ⟨rfl, rfl⟩
  clear hf1 hf2 hf3
  go_wp2_with fail
  go_loopw [12, 13] (RmL outer gap room w) (fun _ i _ => outer.length - (intOf i).toNat)
  case atStart => exact ⟨0, by omega, rfl, by simp [lfTo], rfl⟩
  case round =>
    obtain ⟨k, hk, rfl, rfl, rfl⟩ := hrel
    by_cases hlt : k < outer.length
    · obtain ⟨ad, rfl, hbb, hcell⟩ := hrd.val hlt
      obtain ⟨n1, n2⟩ := HBD.out k hk
      obtain ⟨x3, x4⟩ := (fit_iff _).1 (List.all_eq_true.1 HA.out _ (List.getElem_mem hlt))
      have HT := Lib.hid (HST.out k hlt)
      generalize outer[k] = x at *
      generalize lfTo outer gap room k = y at *
      rcases Nat.eq_zero_or_pos k with h0 | h0
      · rw [if_neg (by omega)] at HT
        have hz0 : ¬ (0 : Int) < (k : Int) := by omega
        have hcell0 : wr.cell? ad = some (.int .i64 x) := by have := hcell; rw [h0] at this; exact this
        go_wp2_with fail
        go_roundw
        case rel => exact ⟨k + 1, hlt, by go_num, by rw [HT.out], rfl⟩
        case measure => simp [intOf] <;> omega
      · rw [if_pos h0] at HT
        go_wp2_with fail
        go_roundw
        case rel => exact ⟨k + 1, hlt, by go_num, by rw [HT.out], rfl⟩
        case measure => simp [intOf] <;> omega
    · obtain rfl : k = outer.length := by omega
      cases hfl : fit (lfTo outer gap room outer.length) with
      | false =>
        rw [hfl] at hf4
        have h0 : 0 < outer.length := by
          rcases Nat.eq_zero_or_pos outer.length with h0 | h0
          · rw [HL0.out h0, HRF.out] at hfl; cases hfl
          · exact h0
        have HR := Lib.hid (HRb.out h0 hfl)
        clear hfl HRo
        generalize lfTo outer gap room outer.length = L at *
        go_wp2_with fail
        refine hf4.mono ?_
        rintro e w2 ⟨rfl, rfl⟩
        go_wp2_with fail
        go_ret2
        exact ⟨_, by rw [HR.out]; rfl, by rw [HR.out]; exact Owns.nil _ _, Below.refl _ _⟩
      | true =>
        rw [hfl] at hf4
        rcases Nat.eq_zero_or_pos outer.length with h0 | h0
        · have HR := Lib.hid (HR0.out h0)
          have hq : ((outer.length : Int) == 0) = true := by simp [h0]
          clear hfl HRo HRb h0
          generalize lfTo outer gap room outer.length = L at *
          go_wp2_with fail
          refine hf4.mono ?_
          rintro e w2 ⟨rfl, rfl⟩
          go_wp2_with fail
          go_ret2
          exact ⟨_, by rw [HR.out]; rfl, by rw [HR.out]; exact Owns.nil _ _, Below.refl _ _⟩
        · have HR := Lib.hid (HRo.out h0 hfl)
          have hq : ((outer.length : Int) == 0) = false := beq_eq_false_iff_ne.2 (by omega)
          clear HRo HRb HBD HST HL0 HR0
          generalize lfTo outer gap room outer.length = L at *
          have pl := rplaces_any outer.length h0 (by omega) L hfl j (by omega) wr
          have hml := moreR_len (show outer.length ≤ 300 by omega) hfl j
          have hmb := moreR_bd (show outer.length ≤ 300 by omega) hfl j
          unfold PlPost at pl
          have HPL := Lib.hid (fun k (hk : k < (placesR outer.length L j).length) => placesR_at (left := L) (j := j) hk)
          have hpl := placesR_len outer.length L j
          generalize placesR outer.length L j = P at *
          generalize moreR outer.length L j = M at *
          have HYB := Lib.hid (yB_bd hmb HA.out (by omega) p2)
          have HMB := Lib.hid hmb
          clear hfl hmb
          go_wp2_with fail
          refine hf4.mono ?_
          rintro e w2 ⟨rfl, rfl⟩
          go_wp2_with fail
          refine pl.mono ?_
          rintro e w2 ⟨pv, rfl, hpo, hb2⟩
          have hI := hpo.ints
          obtain ⟨PA, Pc, rfl, hPc, hPr⟩ := hI
          have hrd2 := hrd.below (hb2.mono hB)
          have hs2 := hb2.size
          clear pl hf4 hpo
          go_wp2_with fail
          go_loopw [15, 16, 17] (RmA M outer gap room back w2) (fun _ _ i _ => outer.length - (intOf i).toNat)
          case atStart => exact ⟨0, by omega, rfl, by simp [endAt], Owns.nil _ _, Below.refl _ _⟩
          case round =>
            obtain ⟨k, hk, rfl, rfl, hown, hbr⟩ := hrel
            have hbase := hbr.size
            by_cases hlt : k < outer.length
            · obtain ⟨ad, rfl, hbb, hcell⟩ := (hrd2.below (hbr.mono (by omega))).val hlt
              obtain ⟨md, rfl, hmB, hmc⟩ := (hPr.below hbr).val (show k < P.length by omega)
              have hPk : (k : Int) < (P.length : Int) := by omega
              obtain ⟨y1, y2⟩ := HYB.out k (by omega)
              obtain ⟨m1, m2⟩ := HMB.out k (by omega)
              obtain ⟨x3, x4⟩ := (fit_iff _).1 (List.all_eq_true.1 HA.out _ (List.getElem_mem hlt))
              have e12 : -990660058185728 ≤ endAt M outer gap k ∧ endAt M outer gap k ≤ 990660058185728 := by
                have hz := (fit_iff _).1 (getD_fit HA.out (k - 1))
                unfold endAt
                split <;> omega
              obtain ⟨e1, e2⟩ := e12
              have HP := HPL.out k (by omega)
              rw [← getD_at (show k < M.length by omega)] at m1 m2
              rw [← HP] at m1 m2
              have HY := yB_end M outer gap k
              rw [← HP] at HY
              have HE := endAt_succ M outer gap k
              rw [getD_at hlt] at HE
              have HF : atF M outer gap room back k = if back then room - yB M outer gap (k + 1) - outer[k] else yB M outer gap (k + 1) := by
                rw [← getD_at hlt]; rfl
              have HT := Lib.hid (atTo_succ M outer gap room back k)
              have hlk : (atTo M outer gap room back k).length < 17592186044416 := by rw [atTo_len]; omega
              clear HP
              generalize P[k]'(show k < P.length by omega) = m at *
              generalize outer[k] = x at *
              generalize endAt M outer gap k = en at *
              generalize yB M outer gap (k + 1) = yy at *
              rcases Nat.eq_zero_or_pos k with h0k | h0k
              · have hz0 : ¬ (0 : Int) < (k : Int) := by omega
                have hmc0 : wr.cell? md = some (.int .i64 m) := by have := hmc; rw [h0k] at this; exact this
                have hcell0 : wr.cell? ad = some (.int .i64 x) := by have := hcell; rw [h0k] at this; exact this
                rw [if_neg (by omega)] at HY
                have HE2 := Lib.hid (show endAt M outer gap (k + 1) = en + m + x by rw [HE, HY]; omega)
                cases back with
                | false =>
                  have HV := Lib.hid (show atF M outer gap room false k = en + m by rw [HF, if_neg (by simp), HY]; omega)
                  clear HE HF HY
                  go_wp2_with (at_builtin; refine append_int _ (en + m) rfl _ _ rfl w2.heap.size u15 _ rfl hown rfl hlk hbase ?_; intro v3 w3 hown3 hb3)
                  go_roundw
                  case rel => exact ⟨k + 1, by omega, by go_num, by rw [HE2.out], by rw [HT.out, HV.out]; exact hown3, hbr.trans hb3⟩
                  case measure => simp [intOf] <;> omega
                | true =>
                  have HV := Lib.hid (show atF M outer gap room true k = room - (en + m + x) by rw [HF, if_pos rfl, HY]; omega)
                  clear HE HF HY
                  go_wp2_with (at_builtin; refine append_int _ (room - (en + m + x)) rfl _ _ rfl w2.heap.size u15 _ rfl hown rfl hlk hbase ?_; intro v3 w3 hown3 hb3)
                  go_roundw
                  case rel => exact ⟨k + 1, by omega, by go_num, by rw [HE2.out], by rw [HT.out, HV.out]; exact hown3, hbr.trans hb3⟩
                  case measure => simp [intOf] <;> omega
              · rw [if_pos h0k] at HY
                have HE2 := Lib.hid (show endAt M outer gap (k + 1) = en + m + gap + x by rw [HE, HY])
                cases back with
                | false =>
                  have HV := Lib.hid (show atF M outer gap room false k = en + m + gap by rw [HF, if_neg (by simp), HY])
                  clear HE HF HY
                  go_wp2_with (at_builtin; refine append_int _ (en + m + gap) rfl _ _ rfl w2.heap.size u15 _ rfl hown rfl hlk hbase ?_; intro v3 w3 hown3 hb3)
                  go_roundw
                  case rel => exact ⟨k + 1, by omega, by go_num, by rw [HE2.out], by rw [HT.out, HV.out]; exact hown3, hbr.trans hb3⟩
                  case measure => simp [intOf] <;> omega
                | true =>
                  have HV := Lib.hid (show atF M outer gap room true k = room - (en + m + gap + x) by rw [HF, if_pos rfl, HY]; omega)
                  clear HE HF HY
                  go_wp2_with (at_builtin; refine append_int _ (room - (en + m + gap + x)) rfl _ _ rfl w2.heap.size u15 _ rfl hown rfl hlk hbase ?_; intro v3 w3 hown3 hb3)
                  go_roundw
                  case rel => exact ⟨k + 1, by omega, by go_num, by rw [HE2.out], by rw [HT.out, HV.out]; exact hown3, hbr.trans hb3⟩
                  case measure => simp [intOf] <;> omega
            · obtain rfl : k = outer.length := by omega
              have fA := rall _ _ _ wr hown.ints (by rw [atTo_len]; omega)
              have HO := Lib.hid (hown.base_le hs2)
              generalize atTo M outer gap room back outer.length = T at *
              have hbf := hb2.trans (hbr.mono hs2)
              cases hT : T.all fit with
              | true =>
                rw [hT] at fA HR
                clear hT
                go_wp2_with fail
                refine fA.mono ?_
                rintro e w4 ⟨rfl, rfl⟩
                go_wp2_with fail
                go_ret2
                exact ⟨_, by rw [HR.out]; rfl, by rw [HR.out]; exact HO.out, hbf⟩
              | false =>
                rw [hT] at fA HR
                clear hT
                go_wp2_with fail
                refine fA.mono ?_
                rintro e w4 ⟨rfl, rfl⟩
                go_wp2_with fail
                go_ret2
                exact ⟨_, by rw [HR.out]; rfl, by rw [HR.out]; exact Owns.nil _ _, hbf⟩

/-- windowpaneref17.Main: what it answers. -/
theorem rmain_any (outer : List Int) (gap room : Int) (j : Nat) (hj : j < 256) (back : Bool) (v : Value) (B : Nat) (w : World) (h : Ints w B v outer) (hB : B ≤ w.heap.size) (hm : outer.length ≤ 17592186044416) :
    Calls Try.prog 82 #[v, .int .i64 gap, .int .i64 room, .int .u8 j, .bool back] w (MainPost outer gap room j back w) := by
  by_cases hb : 300 < outer.length ∨ gap < 0 ∨ room < 0 ∨ 4 < j
  · exact rmain_bad outer gap room j back v B w h hm hj hb
  · by_cases hf : outer.all fit = true ∧ fit gap = true ∧ fit room = true
    · exact rmain_good outer gap room j back v B w h hB (by omega) (by omega) (by omega) (by omega) hf.1 hf.2.1 hf.2.2
    · exact rmain_unfit outer gap room j back v B w h (by omega) (by omega) (by omega) (by omega) hf

end Go.Proofs.Ytpelapdadgmlkaa
