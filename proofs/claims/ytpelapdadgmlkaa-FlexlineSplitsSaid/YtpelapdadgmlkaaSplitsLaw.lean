/-
  Walks: the law FlexlineSplits.
-/
import Derived.Test.YtpelapdadgmlkaaRSplit
import Derived.Test.YtpelapdadgmlkaaShares
namespace Go.Proofs.Ytpelapdadgmlkaa
open Go.RowKit

theorem splitR_len (zs : List Int) (gap room : Int) (wrap : Bool) : (splitR zs gap room wrap).1.length ≤ 2048 := by
  unfold splitR
  split
  · simp
  · split
    · have := linesOf_len (okAt zs gap room wrap) zs.length
      show (linesOf (okAt zs gap room wrap) zs.length).length ≤ 2048
      omega
    · simp
def SplB (n g base : Nat) (W0 : World) (i : Value) (wr : World) : Prop :=
  ∃ k : Nat, k ≤ n ∧ i = .int .i64 k ∧ (∀ j, j < n → ∃ x, wr.cell? ⟨g, j * 2, none⟩ = some x) ∧ (∀ j, j < n → wr.frozen? ⟨g, j * 2, none⟩ = false) ∧ Below base W0 wr

set_option maxRecDepth 100000 in
set_option maxHeartbeats 4000000 in
theorem splits_main (zs : List Int) (gap room : Int) (wrap : Bool) (v : Value) (w : World) (h : Ints w w.heap.size v zs) (hl : zs.length ≤ 300 ∨ (2048 < zs.length ∧ zs.length ≤ 3000)) :
    LawReturns 5 #[v, .int .i64 gap, .int .i64 room, .bool wrap] w := by
  unfold LawReturns
  have h' := h
  obtain ⟨A, c, rfl, hc, hr⟩ := h'
  clear hr
  have hlz := splitR_len zs gap room wrap
  have hl3 : zs.length ≤ 3000 := by omega
  have cp := copy_any zs _ _ w h (by omega)
  have hl' : (¬ 300 < zs.length ∧ ¬ 3000 < zs.length) ∨ (300 < zs.length ∧ ¬ zs.length ≤ 2048 ∧ ¬ 3000 < zs.length) := by omega
  clear hl
  rcases hl' with ⟨z1, z2⟩ | ⟨z1, z2, z3⟩
  all_goals
    go_enter Try.func5, Try.ntmps5
    go_wp2_with fail
    refine cp.mono ?_
    rintro e w2 ⟨mv, rfl, hm2, hb2⟩
    have hI2 := h.below hb2
    have hs2 : w.heap.size ≤ w2.heap.size := hb2.size
    have rs := rsplit_any zs gap room wrap _ _ w2 hI2 hs2 (by omega)
    clear cp
    go_wp2_with fail
    refine rs.mono ?_
    rintro e w3 ⟨wv, rfl, hw3, hb3⟩
    have hI3 := (hI2.below (hb3.mono hs2)).more (Nat.le_trans hs2 hb3.size)
    have hM3 := (hm2.ints.below hb3).more hb3.size
    have hW3 := hw3.lines
    have hb03 : Below w.heap.size w w3 := hb2.trans (hb3.mono hs2)
    have hs3 : w.heap.size ≤ w3.heap.size := hb03.size
    clear h hI2 rs hm2 hw3 hb2 hb3
    have HS : Hid (∀ v' W, Ints W w3.heap.size v' zs → w3.heap.size ≤ W.heap.size → Calls Try.prog 47 #[v', .int .i64 gap, .int .i64 room, .bool wrap] W (SplitPost zs gap room wrap W)) := Lib.hid fun v' W hi hb => split_any zs gap room wrap _ _ W hi hb (by omega)
    unfold SplitPost at HS
    generalize (splitR zs gap room wrap).1 = L at *
    generalize (splitR zs gap room wrap).2 = cd at *
    go_wp2_with fail
    go_loopw [12] (ShaA w3 w3.heap.size) (fun i _ => 2 - (intOf i).toNat)
    case atStart => exact ⟨0, by omega, rfl, Below.refl _ _⟩
    case round =>
      obtain ⟨k, hk, rfl, hbr⟩ := hrel
      by_cases hlt : k < 2
      · have hMr := hM3.below hbr
        have sh := HS.out _ _ hMr hbr.size
        go_wp2_with fail
        refine sh.mono ?_
        rintro e w4 ⟨lv, rfl, hl4, hb4⟩
        have hb34 : Below w3.heap.size w3 w4 := hbr.trans (hb4.mono hbr.size)
        have hW4 := hW3.below hb34
        have hM4 := hM3.below hb34
        have hI4 := hI3.below hb34
        have hs4 : w3.heap.size ≤ w4.heap.size := hb34.size
        have hL4 := hl4.lines
        have q1 := rsame_lines L _ _ _ _ _ _ w4 hL4 hW4 (by omega)
        have q2 := fun W (hq : Below w4.heap.size w4 W) => same_self zs _ _ _ W (hM4.below (hq.mono hb34.size)) (hI4.below (hq.mono hb34.size)) (by omega)
        obtain ⟨A4, c4, hlv⟩ : ∃ A4 c4, lv = .slice A4 L.length c4 := by
          rcases hL4 with ⟨rfl, A4, c4, e⟩ | ⟨g, cap, e, _⟩
          · exact ⟨A4, c4, e⟩
          · exact ⟨_, _, e⟩
        subst hlv
        go_wp2_with fail
        refine q1.mono ?_
        rintro e w5 ⟨rfl, m5, rfl⟩
        go_wp2_with fail
        refine (q2 _ (below_drewN (Below.refl _ _) m5)).mono ?_
        rintro e w6 ⟨rfl, m6, rfl⟩
        clear q1 q2 sh HS
        go_wp2_with fail
        obtain ⟨g, hgA, hgb, hgc⟩ : ∃ g, (0 < L.length → A4 = some ⟨g, 0, none⟩) ∧ w3.heap.size ≤ g ∧ ∀ j, j < L.length → (∃ x, w4.cell? ⟨g, j * 2, none⟩ = some x) ∧ w4.frozen? ⟨g, j * 2, none⟩ = false := by
          rcases hL4 with ⟨rfl, _⟩ | ⟨g, cap, e, h0, hg, _, _, hcc, hff⟩
          · exact ⟨w4.heap.size, fun h => by simp at h, by omega, fun j h => by simp at h⟩
          · injection e with e1 e2 e3
            exact ⟨g, fun _ => e1, by have := hbr.size; omega, fun j hj => ⟨⟨_, (hcc j hj).1⟩, hff _⟩⟩
        clear hl4 hL4 hW4 hM4 hI4 hW3 hM3 hI3 hMr
        go_loopw [15] (SplB L.length g w3.heap.size w3) (fun i _ => L.length - (intOf i).toNat)
        case atStart => exact ⟨0, by omega, rfl, fun j hj => (hgc j hj).1, fun j hj => (hgc j hj).2, below_drewN hb34 _⟩
        case round =>
          obtain ⟨i, hi, rfl, hcc, hff, hbi⟩ := hrel
          by_cases hli : i < L.length
          · obtain rfl := hgA (by omega)
            obtain ⟨x, hx⟩ := hcc i hli
            have hf := hff i hli
            go_wp2_with fail
            go_roundw
            case rel =>
              refine ⟨i + 1, hli, by go_num, fun j hj => ?_, fun j hj => ?_, ?_⟩
              · exact cell?_setCell_some (hcc j hj).choose_spec
              · simpa using hff j hj
              · exact hbi.setCell (p := ⟨g, i * 2, none⟩) hgb _
            case measure => simp [intOf]; omega
          · obtain rfl : i = L.length := by omega
            go_wp2_with fail
            go_roundw
            case rel => exact ⟨k + 1, hlt, by go_num, hbi⟩
            case measure => simp [intOf]; omega
      · obtain rfl : k = 2 := by omega
        go_wp2_with fail
        go_ret
        exact ⟨rfl, hb03.trans (hbr.mono hs3)⟩

set_option maxRecDepth 100000 in
theorem flexlineSplits_walk (zs : List Int) (gap room : Int) (wrap : Bool) (v : Value) (w : World) (h : Ints w w.heap.size v zs) (hl : zs.length ≤ 17592186044416) :
    LawReturns 5 #[v, .int .i64 gap, .int .i64 room, .bool wrap] w := by
  by_cases h0 : zs.length ≤ 300 ∨ (2048 < zs.length ∧ zs.length ≤ 3000)
  · exact splits_main zs gap room wrap v w h h0
  · unfold LawReturns
    have h1 : (300 < zs.length ∧ zs.length ≤ 2048) ∨ (300 < zs.length ∧ ¬ zs.length ≤ 2048 ∧ 3000 < zs.length) := by omega
    clear h0
    obtain ⟨A, c, rfl, hc, hr⟩ := h
    rcases h1 with ⟨g1, g2⟩ | ⟨g1, g2, g3⟩
    all_goals
      go_enter Try.func5, Try.ntmps5
      go_wp2_with fail
      go_ret
      exact ⟨rfl, Below.refl _ _⟩

end Go.Proofs.Ytpelapdadgmlkaa
