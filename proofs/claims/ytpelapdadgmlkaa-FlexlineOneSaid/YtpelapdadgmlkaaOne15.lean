/-
  Walks: the law FlexlineOne.
-/
import Derived.Test.YtpelapdadgmlkaaLinesLaws
namespace Go.Proofs.Ytpelapdadgmlkaa
open Go.RowKit

def NgA (zs : List Int) (w0 : World) (i : Value) (wr : World) : Prop :=
  ∃ k : Nat, k ≤ zs.length ∧ i = .int .i64 k ∧ (zs.take k).all isPos = true ∧ wr = w0
theorem take_pos {zs : List Int} {k : Nat} (hk : k < zs.length) (h : (zs.take k).all isPos = true) (h2 : 0 ≤ zs[k]) : (zs.take (k + 1)).all isPos = true := by
  rw [List.take_succ_eq_append_getElem hk, List.all_append, h]
  simp [isPos, h2]

set_option maxRecDepth 100000 in
set_option maxHeartbeats 4000000 in
theorem one_main (zs : List Int) (gap room : Int) (v : Value) (w : World) (h : Ints w w.heap.size v zs) (hd : smallOk zs gap room) (hn : 0 < zs.length) :
    LawReturns 16 #[v, .int .i64 gap, .int .i64 room] w := by
  unfold LawReturns
  have gy := fun v B w h => great_yes zs gap room v B w h hd
  have sp := fun v B w h hB => lines15 zs gap room false _ (split_one hd) hd.1.1 v B w h hB
  have HS := Lib.hid (fun (hp : zs.all isPos = true) v B w h hB => lines15 zs gap _ true _ (split_all hd hp) hd.1.1 v B w h hB)
  have lg := fun v B w h => long15_any zs gap v B w h (by have := hd.1.1; omega) (small_fit hd).1 hd.1.2.1 (by have := hd.1.2.2.1; omega)
  have hone : oneL zs.length = [(0, zs.length)] := if_neg (by omega)
  rw [hone] at sp HS
  obtain ⟨lb1, lb2⟩ := longAll_bd hd
  have hl300 := hd.1.1
  clear hd hone
  generalize longAll zs gap = lo at *
  obtain ⟨mx, hmx⟩ : ∃ mx, max 0 lo = mx := ⟨_, rfl⟩
  rw [hmx] at HS
  obtain ⟨A, c, rfl, hc, hr⟩ := h
  have hI : Ints w w.heap.size (.slice A zs.length c) zs := ⟨A, c, rfl, hc, hr⟩
  have hmin : min (zs.length : Int) 1 = 1 := by omega
  go_enter Try.func16, Try.ntmps16
  go_wp2_with fail
  refine (awake15 _).mono ?_
  rintro e w1 ⟨rfl, hb1⟩
  have hs1 := hb1.size
  have hI1 := hI.below hb1
  go_wp2_with fail
  refine (gy _ _ w1 hI1).mono ?_
  rintro e w2 ⟨rfl, rfl⟩
  go_wp2_with fail
  refine (sp _ _ w1 hI1 hs1).mono ?_
  rintro e w2 ⟨v1, rfl, L1, hb2⟩
  have hI2 := hI1.below (hb2.mono hs1)
  have hs2 := hb2.size
  have hbw : Below w.heap.size w w2 := hb1.trans (hb2.mono hs1)
  rcases L1 with ⟨hnil, _⟩ | ⟨g, cap, rfl, _, _, hg, hcap, hcs, _⟩
  · simp at hnil
  simp only [List.length_cons, List.length_nil, Nat.zero_add] at hcap hcs ⊢
  obtain ⟨c0, c1⟩ := hcs 0 (by omega)
  simp only [List.getElem_cons_zero, Nat.zero_mul, Nat.zero_add] at c0 c1
  obtain ⟨A', c', e', hc', hr2⟩ := hI2
  cases e'
  have hI2' : Ints w2 w.heap.size (.slice A zs.length c) zs := ⟨A, c, rfl, hc, hr2⟩
  clear hcs hr hI hI1 gy sp
  go_wp2_with fail
  go_loopw [9] (NgA zs w2) (fun i _ => zs.length - (intOf i).toNat)
  case atStart => exact ⟨0, by omega, rfl, rfl, rfl⟩
  case round =>
    obtain ⟨k, hk, rfl, hall, rfl⟩ := hrel
    have HA := Lib.hid hall; clear hall
    by_cases hlt : k < zs.length
    · obtain ⟨ad, rfl, _, hcell⟩ := hr2.val hlt
      by_cases hx : 0 ≤ zs[k]
      · have HT := Lib.hid (take_pos hlt HA.out hx)
        generalize zs[k] = x at *
        go_wp2_with fail
        go_roundw
        case rel => exact ⟨k + 1, hlt, by go_num, HT.out, rfl⟩
        case measure => simp [intOf]; omega
      · have hx' : zs[k] < 0 := by omega
        generalize zs[k] = x at *
        go_wp2_with fail
        go_ret
        exact ⟨rfl, hbw⟩
    · obtain rfl : k = zs.length := by omega
      have h1 := HA.out
      rw [List.take_of_length_le (Nat.le_refl _)] at h1
      have sq := HS.out h1
      clear h1 HA
      have sq' := sq _ _ wr hI2' (by omega)
      have lg' := lg _ _ wr hI2'
      clear lg sq HS
      go_wp2_with fail
      refine lg'.mono ?_
      rintro e w4 ⟨rfl, rfl⟩
      go_wp2_with fail
      try rw [hmx]
      refine sq'.mono ?_
      rintro e w5 ⟨v5, rfl, L5, hb5⟩
      obtain ⟨A5, c5, rfl⟩ : ∃ A5 c5, v5 = .slice A5 1 c5 := by
        rcases L5 with ⟨hnil, _⟩ | ⟨g5, cap5, e5, _⟩
        · simp at hnil
        · exact ⟨_, _, e5⟩
      clear L5
      go_wp2_with fail
      go_ret
      exact ⟨by simp, hbw.trans (hb5.mono (by omega))⟩

set_option maxRecDepth 100000 in
set_option maxHeartbeats 4000000 in
theorem one_none (zs : List Int) (gap room : Int) (v : Value) (w : World) (h : Ints w w.heap.size v zs) (hd : smallOk zs gap room) (hn : zs.length = 0) :
    LawReturns 16 #[v, .int .i64 gap, .int .i64 room] w := by
  unfold LawReturns
  have gy := fun v B w h => great_yes zs gap room v B w h hd
  have sp := fun v B w h hB => lines15 zs gap room false _ (split_one hd) hd.1.1 v B w h hB
  have HS := Lib.hid (fun (hp : zs.all isPos = true) v B w h hB => lines15 zs gap _ true _ (split_all hd hp) hd.1.1 v B w h hB)
  have lg := fun v B w h => long15_any zs gap v B w h (by have := hd.1.1; omega) (small_fit hd).1 hd.1.2.1 (by have := hd.1.2.2.1; omega)
  have hone : oneL zs.length = [] := if_pos hn
  rw [hone] at sp HS
  obtain ⟨lb1, lb2⟩ := longAll_bd hd
  have hl300 := hd.1.1
  clear hd hone
  generalize longAll zs gap = lo at *
  obtain ⟨mx, hmx⟩ : ∃ mx, max 0 lo = mx := ⟨_, rfl⟩
  rw [hmx] at HS
  obtain ⟨A, c, rfl, hc, hr⟩ := h
  have hI : Ints w w.heap.size (.slice A zs.length c) zs := ⟨A, c, rfl, hc, hr⟩
  have hmin : min (zs.length : Int) 1 = 0 := by omega
  have HN := Lib.hid hn; clear hn
  go_enter Try.func16, Try.ntmps16
  go_wp2_with fail
  refine (awake15 _).mono ?_
  rintro e w1 ⟨rfl, hb1⟩
  have hs1 := hb1.size
  have hI1 := hI.below hb1
  go_wp2_with fail
  refine (gy _ _ w1 hI1).mono ?_
  rintro e w2 ⟨rfl, rfl⟩
  go_wp2_with fail
  refine (sp _ _ w1 hI1 hs1).mono ?_
  rintro e w2 ⟨v1, rfl, L1, hb2⟩
  have hI2 := hI1.below (hb2.mono hs1)
  have hs2 := hb2.size
  have hbw : Below w.heap.size w w2 := hb1.trans (hb2.mono hs1)
  obtain ⟨A1, c1, rfl⟩ : ∃ A1 c1, v1 = .slice A1 0 c1 := by
    rcases L1 with ⟨_, A1, c1, e⟩ | ⟨g, cap, e, h0, _⟩
    · exact ⟨A1, c1, e⟩
    · simp at h0
  clear L1
  obtain ⟨A', c', e', hc', hr2⟩ := hI2
  cases e'
  have hI2' : Ints w2 w.heap.size (.slice A zs.length c) zs := ⟨A, c, rfl, hc, hr2⟩
  clear hr hI hI1 gy sp
  go_wp2_with fail
  go_loopw [9] (NgA zs w2) (fun i _ => zs.length - (intOf i).toNat)
  case atStart => exact ⟨0, by omega, rfl, rfl, rfl⟩
  case round =>
    obtain ⟨k, hk, rfl, hall, rfl⟩ := hrel
    have HA := Lib.hid hall; clear hall
    obtain rfl : k = zs.length := by have := HN.out; omega
    have h1 := HA.out
    rw [List.take_of_length_le (Nat.le_refl _)] at h1
    have sq := HS.out h1
    clear h1 HA
    have sq' := sq _ _ wr hI2' (by omega)
    have lg' := lg _ _ wr hI2'
    clear lg sq HS
    go_wp2_with fail
    refine lg'.mono ?_
    rintro e w4 ⟨rfl, rfl⟩
    go_wp2_with fail
    try rw [hmx]
    refine sq'.mono ?_
    rintro e w5 ⟨v5, rfl, L5, hb5⟩
    obtain ⟨A5, c5, rfl⟩ : ∃ A5 c5, v5 = .slice A5 0 c5 := by
      rcases L5 with ⟨_, A5, c5, e⟩ | ⟨g, cap, e, h0, _⟩
      · exact ⟨A5, c5, e⟩
      · simp at h0
    clear L5
    go_wp2_with fail
    go_ret
    exact ⟨by simp, hbw.trans (hb5.mono (by omega))⟩

set_option maxRecDepth 100000 in
theorem flexlineOne_walk (zs : List Int) (gap room : Int) (v : Value) (w : World) (h : Ints w w.heap.size v zs) (hl : zs.length ≤ 17592186044416) :
    LawReturns 16 #[v, .int .i64 gap, .int .i64 room] w := by
  by_cases hd : smallOk zs gap room
  · rcases Nat.eq_zero_or_pos zs.length with h0 | h0
    · exact one_none zs gap room v w h hd h0
    · exact one_main zs gap room v w h hd h0
  · unfold LawReturns
    have gn := fun v B w h => great_no zs gap room v B w h hl hd
    obtain ⟨A, c, rfl, hc, hr⟩ := h
    have hI : Ints w w.heap.size (.slice A zs.length c) zs := ⟨A, c, rfl, hc, hr⟩
    clear hd
    go_enter Try.func16, Try.ntmps16
    go_wp2_with fail
    refine (awake15 _).mono ?_
    rintro e w1 ⟨rfl, hb1⟩
    go_wp2_with fail
    refine (gn _ _ w1 (hI.below hb1)).mono ?_
    rintro e w2 ⟨rfl, rfl⟩
    go_wp2_with fail
    go_ret
    exact ⟨rfl, hb1⟩

end Go.Proofs.Ytpelapdadgmlkaa
