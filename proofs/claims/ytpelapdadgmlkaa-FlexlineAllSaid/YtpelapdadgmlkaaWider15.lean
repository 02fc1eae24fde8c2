/-
  Walks: the law FlexlineWider.
-/
import Derived.Test.YtpelapdadgmlkaaLinesLaws
import Derived.Deep.QuietTactic
import Derived.BigQuiet
namespace Go.Proofs.Ytpelapdadgmlkaa
open Go.RowKit

def NgB (zs : List Int) (w0 : World) (i : Value) (wr : World) : Prop :=
  ∃ k : Nat, k ≤ zs.length ∧ i = .int .i64 k ∧ (zs.take k).all isPos = true ∧ wr = w0
theorem takeB_pos {zs : List Int} {k : Nat} (hk : k < zs.length) (h : (zs.take k).all isPos = true) (h2 : 0 ≤ zs[k]) : (zs.take (k + 1)).all isPos = true := by
  rw [List.take_succ_eq_append_getElem hk, List.all_append, h]
  simp [isPos, h2]
theorem LinesIn.form {w : World} {lo hi : Nat} {v : Value} {L : List (Nat × Nat)} (h : LinesIn w lo hi v L) : ∃ A c, v = .slice A L.length c := by
  rcases h with ⟨rfl, A, c, e⟩ | ⟨g, cap, e, _⟩
  · exact ⟨A, c, e⟩
  · exact ⟨_, _, e⟩
theorem LinesIn.open_ {w : World} {lo hi : Nat} {A : Option Addr} {c : Nat} {L : List (Nat × Nat)} (h : LinesIn w lo hi (.slice A L.length c) L) (h0 : 0 < L.length) :
    ∃ g, A = some ⟨g, 0, none⟩ ∧ ∀ k (hk : k < L.length), w.cell? ⟨g, k * 2, none⟩ = some (.int .i64 ((L[k]).1 : Int)) ∧ w.cell? ⟨g, k * 2 + 1, none⟩ = some (.int .i64 ((L[k]).2 : Int)) := by
  rcases h with ⟨rfl, _⟩ | ⟨g, cap, e, _, _, _, _, hc, _⟩
  · simp at h0
  · injection e with e1 e2 e3
    exact ⟨g, e1, hc⟩

set_option maxRecDepth 100000 in
set_option maxHeartbeats 4000000 in
theorem wider_main (zs : List Int) (gap room more : Int) (v : Value) (w : World) (h : Ints w w.heap.size v zs) (hd : smallOk zs gap room) (hd2 : smallOk zs gap more) (r0 : ¬ room < 0) (r1 : ¬ more < room) :
    LawReturns 17 #[v, .int .i64 gap, .int .i64 room, .int .i64 more] w := by
  unfold LawReturns
  have gy := fun v B w h => great_yes zs gap room v B w h hd
  have gy2 := fun v B w h => great_yes zs gap more v B w h hd2
  have sa := fun v B w h hB => lines15 zs gap room true _ (split_small hd true) hd.1.1 v B w h hB
  have sb := fun v B w h hB => lines15 zs gap more true _ (split_small hd2 true) hd.1.1 v B w h hB
  have sc := fun v B w h hB => lines15 zs 0 room true _ (split_small (small_zero hd) true) hd.1.1 v B w h hB
  have HB := Lib.hid (fun hp => wider_lines (zs := zs) hp (gap := gap) (gap' := gap) hd.1.2.1 (Int.le_refl _) (show 0 ≤ room by omega) (show room ≤ more by omega))
  have HC := Lib.hid (fun hp => wider_lines (zs := zs) hp (gap := gap) (gap' := 0) (Int.le_refl _) hd.1.2.1 (show 0 ≤ room by omega) (Int.le_refl room))
  have hl300 := hd.1.1
  have hla := linesOf_len (okAt zs gap room true) zs.length
  have hlb := linesOf_len (okAt zs gap more true) zs.length
  have hlc := linesOf_len (okAt zs 0 room true) zs.length
  clear hd hd2
  generalize linesOf (okAt zs gap room true) zs.length = La at *
  generalize linesOf (okAt zs gap more true) zs.length = Lb at *
  generalize linesOf (okAt zs 0 room true) zs.length = Lc at *
  obtain ⟨A, c, rfl, hc, hr⟩ := h
  have hI : Ints w w.heap.size (.slice A zs.length c) zs := ⟨A, c, rfl, hc, hr⟩
  go_enter Try.func17, Try.ntmps17
  go_wp2_with fail
  refine (awake15 _).mono ?_
  rintro e w1 ⟨rfl, hb1⟩
  have hs1 := hb1.size
  have hI1 := hI.below hb1
  have hr1 := hr.below hb1
  go_wp2_with fail
  refine (gy _ _ w1 hI1).mono ?_
  rintro e w2 ⟨rfl, rfl⟩
  go_wp2_with fail
  refine (gy2 _ _ w1 hI1).mono ?_
  rintro e w2 ⟨rfl, rfl⟩
  clear gy gy2 hI hr
  go_wp2_with fail
  go_loopw [9] (NgB zs w1) (fun i _ => zs.length - (intOf i).toNat)
  case atStart => exact ⟨0, by omega, rfl, rfl, rfl⟩
  case round =>
    obtain ⟨k, hk, rfl, hall, rfl⟩ := hrel
    have HA := Lib.hid hall; clear hall
    by_cases hlt : k < zs.length
    · obtain ⟨ad, rfl, _, hcell⟩ := hr1.val hlt
      by_cases hx : 0 ≤ zs[k]
      · have HT := Lib.hid (takeB_pos hlt HA.out hx)
        generalize zs[k] = x at *
        go_wp2_with fail
        go_roundw
        case rel => exact ⟨k + 1, hlt, by go_num, HT.out, rfl⟩
        case measure => simp [intOf]; omega
      · have hx' : zs[k] < 0 := by omega
        generalize zs[k] = x at *
        go_wp2_with fail
        go_ret
        exact ⟨rfl, hb1⟩
    · obtain rfl : k = zs.length := by omega
      have h1 := HA.out
      rw [List.take_of_length_le (Nat.le_refl _)] at h1
      obtain ⟨lb1, lb2⟩ := HB.out h1
      obtain ⟨lc1, _⟩ := HC.out h1
      have HL := Lib.hid lb2
      clear h1 HA HB HC lb2
      have sa' := sa _ _ wr hI1 (by omega)
      clear sa
      go_wp2_with fail
      refine sa'.mono ?_
      rintro e w2 ⟨va, rfl, La2, hb2⟩
      have hs2 := hb2.size
      have hI2 := hI1.below (hb2.mono hs1)
      have sb' := sb _ _ w2 hI2 (by omega)
      clear sb
      go_wp2_with fail
      refine sb'.mono ?_
      rintro e w3 ⟨vb, rfl, Lb3, hb3⟩
      have hs3 := hb3.size
      have hI3 := hI2.below (hb3.mono (by omega))
      have La3 := La2.below hb3
      have sc' := sc _ _ w3 hI3 (by omega)
      clear sc
      go_wp2_with fail
      refine sc'.mono ?_
      rintro e w4 ⟨vc, rfl, Lc4, hb4⟩
      have hs4 := hb4.size
      have La4 := La3.below (hb4.mono hs3)
      have Lb4 := Lb3.below hb4
      obtain ⟨Aa, ca, rfl⟩ := La4.form
      obtain ⟨Ab, cb, rfl⟩ := Lb4.form
      obtain ⟨Ac, cc, rfl⟩ := Lc4.form
      have hbw : Below w.heap.size w w4 := hb1.trans ((hb2.mono hs1).trans ((hb3.mono (by omega)).trans (hb4.mono (by omega))))
      have n1 : decide (La.length < Lb.length) = false := decide_eq_false (by omega)
      have n2 : decide (La.length < Lc.length) = false := decide_eq_false (by omega)
      clear sa' sb' sc' La2 La3 Lb3 Lc4 hI1 hI2 hI3 hb2 hb3 hb4
      go_wp2_with fail
      go_loopw [16] (SaA Lb.length w4) (fun i _ => Lb.length - (intOf i).toNat)
      case atStart => exact ⟨0, by omega, rfl, Quiet.refl _⟩
      case round =>
        obtain ⟨i, hi, rfl, mo, rfl⟩ := hrel
        by_cases hli : i < Lb.length
        · have hla' : i < La.length := by omega
          have ia : (i : Int) < (La.length : Int) := by omega
          obtain ⟨ga, rfl, hca⟩ := La4.open_ (by omega)
          obtain ⟨gb, rfl, hcb⟩ := Lb4.open_ (by omega)
          have a2 := (hca i hla').2
          have b2 := (hcb i hli).2
          have hle := HL.out i hli hla'
          clear hca hcb La4 Lb4
          generalize (La[i]).2 = x at *
          generalize (Lb[i]).2 = y at *
          have hxy : decide (y < x) = false := decide_eq_false (by omega)
          go_wp2_with fail
          go_quiet (fail)
          go_wp2_with fail
          go_roundw
          case rel => exact ⟨i + 1, hli, by go_num, _, rfl⟩
          case measure => simp [intOf]; omega
        · obtain rfl : i = Lb.length := by omega
          go_wp2_with fail
          go_ret
          exact ⟨rfl, below_drewN hbw mo⟩

set_option maxRecDepth 100000 in
set_option maxHeartbeats 1000000 in
theorem flexlineWider_walk (zs : List Int) (gap room more : Int) (v : Value) (w : World) (h : Ints w w.heap.size v zs) (hl : zs.length ≤ 17592186044416) :
    LawReturns 17 #[v, .int .i64 gap, .int .i64 room, .int .i64 more] w := by
  by_cases hd : smallOk zs gap room
  · by_cases hd2 : smallOk zs gap more
    · by_cases hr : ¬ room < 0 ∧ ¬ more < room
      · exact wider_main zs gap room more v w h hd hd2 hr.1 hr.2
      · unfold LawReturns
        have gy := fun v B w h => great_yes zs gap room v B w h hd
        have gy2 := fun v B w h => great_yes zs gap more v B w h hd2
        have h2 : room < 0 ∨ (¬ room < 0 ∧ more < room) := by omega
        obtain ⟨A, c, rfl, hc, hrd⟩ := h
        have hI : Ints w w.heap.size (.slice A zs.length c) zs := ⟨A, c, rfl, hc, hrd⟩
        clear hd hd2 hr
        rcases h2 with g1 | ⟨g1, g2⟩
        all_goals
          go_enter Try.func17, Try.ntmps17
          go_wp2_with fail
          refine (awake15 _).mono ?_
          rintro e w1 ⟨rfl, hb1⟩
          have hI1 := hI.below hb1
          go_wp2_with fail
          refine (gy _ _ w1 hI1).mono ?_
          rintro e w2 ⟨rfl, rfl⟩
          go_wp2_with fail
          refine (gy2 _ _ w1 hI1).mono ?_
          rintro e w2 ⟨rfl, rfl⟩
          go_wp2_with fail
          go_ret
          exact ⟨rfl, hb1⟩
    · unfold LawReturns
      have gy := fun v B w h => great_yes zs gap room v B w h hd
      have gn := fun v B w h => great_no zs gap more v B w h hl hd2
      obtain ⟨A, c, rfl, hc, hrd⟩ := h
      have hI : Ints w w.heap.size (.slice A zs.length c) zs := ⟨A, c, rfl, hc, hrd⟩
      clear hd hd2
      go_enter Try.func17, Try.ntmps17
      go_wp2_with fail
      refine (awake15 _).mono ?_
      rintro e w1 ⟨rfl, hb1⟩
      have hI1 := hI.below hb1
      go_wp2_with fail
      refine (gy _ _ w1 hI1).mono ?_
      rintro e w2 ⟨rfl, rfl⟩
      go_wp2_with fail
      refine (gn _ _ w1 hI1).mono ?_
      rintro e w2 ⟨rfl, rfl⟩
      go_wp2_with fail
      go_ret
      exact ⟨rfl, hb1⟩
  · unfold LawReturns
    have gn := fun v B w h => great_no zs gap room v B w h hl hd
    obtain ⟨A, c, rfl, hc, hrd⟩ := h
    have hI : Ints w w.heap.size (.slice A zs.length c) zs := ⟨A, c, rfl, hc, hrd⟩
    clear hd
    go_enter Try.func17, Try.ntmps17
    go_wp2_with fail
    refine (awake15 _).mono ?_
    rintro e w1 ⟨rfl, hb1⟩
    have hI1 := hI.below hb1
    go_wp2_with fail
    refine (gn _ _ w1 hI1).mono ?_
    rintro e w2 ⟨rfl, rfl⟩
    go_wp2_with fail
    go_ret
    exact ⟨rfl, hb1⟩

end Go.Proofs.Ytpelapdadgmlkaa
