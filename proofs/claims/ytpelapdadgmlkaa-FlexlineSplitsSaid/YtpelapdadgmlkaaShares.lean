/-
  Walks: the law FixedShares.
-/
import Derived.Test.YtpelapdadgmlkaaRShare
import Derived.Test.YtpelapdadgmlkaaShareWalk
import Derived.Test.YtpelapdadgmlkaaBack
import Derived.Deep.RegionHeld3
namespace Go.Proofs.Ytpelapdadgmlkaa
open Go.RowKit

theorem shareR_len (t : Int) (ws : List Int) : (shareR t ws).1.length ≤ ws.length := by
  unfold shareR
  split
  · simp
  · split <;> simp [shares]

def ShaA (W0 : World) (base : Nat) (i : Value) (wr : World) : Prop :=
  ∃ k : Nat, k ≤ 2 ∧ i = .int .i64 k ∧ Below base W0 wr
def ShaB (n g base : Nat) (W0 : World) (i : Value) (wr : World) : Prop :=
  ∃ k : Nat, k ≤ n ∧ i = .int .i64 k ∧ (∀ j, j < n → ∃ x, wr.cell? ⟨g, j, none⟩ = some x) ∧ (∀ j, j < n → wr.frozen? ⟨g, j, none⟩ = false) ∧ Below base W0 wr

set_option maxRecDepth 100000 in
set_option maxHeartbeats 4000000 in
theorem shares_main (total : Int) (v : Value) (ws : List Int) (w : World) (h : Ints w w.heap.size v ws) (hl : ws.length ≤ 2100) :
    LawReturns 19 #[.int .i64 total, v] w := by
  unfold LawReturns
  have h' := h
  obtain ⟨A, c, rfl, hc, hr⟩ := h'
  clear hr
  have cp := copy_any ws _ _ w h (by omega)
  have hlz := shareR_len total ws
  go_enter Try.func19, Try.ntmps19
  go_wp2_with fail
  refine cp.mono ?_
  rintro e w2 ⟨mv, rfl, hm2, hb2⟩
  have hI2 := h.below hb2
  have hs2 : w.heap.size ≤ w2.heap.size := hb2.size
  have rs := rshare_any total ws _ _ w2 hI2 hs2 (by omega)
  clear cp
  go_wp2_with fail
  refine rs.mono ?_
  rintro e w3 ⟨wv, rfl, hw3, hb3⟩
  have hI3 := (hI2.below (hb3.mono hs2)).more (Nat.le_trans hs2 hb3.size)
  have hM3 := (hm2.ints.below hb3).more hb3.size
  have hW3 := hw3.ints
  have hb03 : Below w.heap.size w w3 := hb2.trans (hb3.mono hs2)
  have hs3 : w.heap.size ≤ w3.heap.size := hb03.size
  clear h hI2 rs hm2 hw3 hb2 hb3
  have HS : Hid (∀ v' W, Ints W w3.heap.size v' ws → w3.heap.size ≤ W.heap.size → Calls Try.prog 78 #[.int .i64 total, v'] W (SharePost total ws W)) := Lib.hid fun v' W hi hb => share_any total ws _ _ W hi hb (by omega)
  unfold SharePost at HS
  generalize (shareR total ws).1 = zs at *
  generalize (shareR total ws).2 = cd at *
  go_wp2_with fail
  go_loopw [8] (ShaA w3 w3.heap.size) (fun i _ => 2 - (intOf i).toNat)
  case atStart => exact ⟨0, by omega, rfl, Below.refl _ _⟩
  case round =>
    obtain ⟨k, hk, rfl, hbr⟩ := hrel
    by_cases hlt : k < 2
    · have hMr := hM3.below hbr
      have sh := HS.out _ _ hMr hbr.size
      go_wp2_with fail
      refine sh.mono ?_
      rintro e w4 ⟨lv, rfl, hl4, hb4⟩
      have hb34 : Below w3.heap.size w3 w4 := hbr.trans (hb4.mono hbr.size)
      have hW4 := hW3.below hb34
      have hM4 := hM3.below hb34
      have hI4 := hI3.below hb34
      have hs4 : w3.heap.size ≤ w4.heap.size := hb34.size
      have q1 := fun W (hq : Below w4.heap.size w4 W) => same_self zs _ _ _ W (hl4.ints.below hq) ((hW4.below (hq.mono hb34.size)).more hb34.size) (by omega)
      have q2 := fun W (hq : Below w4.heap.size w4 W) => same_self ws _ _ _ W (hM4.below (hq.mono hb34.size)) (hI4.below (hq.mono hb34.size)) (by omega)
      have hl4' := hl4
      obtain ⟨A4, c4, rfl, _, _⟩ := hl4'.ints
      go_wp2_with fail
      refine (q1 w4 (Below.refl _ _)).mono ?_
      rintro e w5 ⟨rfl, m5, rfl⟩
      go_wp2_with fail
      refine (q2 _ (below_drewN (Below.refl _ _) m5)).mono ?_
      rintro e w6 ⟨rfl, m6, rfl⟩
      clear q1 q2 sh HS
      go_wp2_with fail
      obtain ⟨g, hgA, hgb, hgc⟩ : ∃ g, (0 < zs.length → A4 = some ⟨g, 0, none⟩) ∧ w3.heap.size ≤ g ∧ ∀ j, j < zs.length → (∃ x, w4.cell? ⟨g, j, none⟩ = some x) ∧ w4.frozen? ⟨g, j, none⟩ = false := by
        rcases Nat.eq_zero_or_pos zs.length with h0 | h0
        · exact ⟨w4.heap.size, fun h => by omega, by omega, fun j h => by omega⟩
        · obtain ⟨g, cap, e, _, hg, _, hcc, hff⟩ := hl4.open_ h0
          injection e with e1 e2 e3
          exact ⟨g, fun _ => e1, by have := hbr.size; omega, fun j hj => ⟨⟨_, hcc j hj⟩, hff j⟩⟩
      clear hl4 hW4 hM4 hI4 hW3 hM3 hI3 hMr
      go_loopw [11] (ShaB zs.length g w3.heap.size w3) (fun i _ => zs.length - (intOf i).toNat)
      case atStart => exact ⟨0, by omega, rfl, fun j hj => (hgc j hj).1, fun j hj => (hgc j hj).2, below_drewN hb34 _⟩
      case round =>
        obtain ⟨i, hi, rfl, hcc, hff, hbi⟩ := hrel
        by_cases hli : i < zs.length
        · obtain rfl := hgA (by omega)
          obtain ⟨x, hx⟩ := hcc i hli
          have hf := hff i hli
          go_wp2_with fail
          go_roundw
          case rel => 
            refine ⟨i + 1, hli, by go_num, fun j hj => ?_, fun j hj => ?_, ?_⟩
            · exact cell?_setCell_some (hcc j hj).choose_spec
            · simpa using hff j hj
            · exact hbi.setCell (p := ⟨g, i, none⟩) hgb _
          case measure => simp [intOf]; omega
        · obtain rfl : i = zs.length := by omega
          go_wp2_with fail
          go_roundw
          case rel => exact ⟨k + 1, hlt, by go_num, hbi⟩
          case measure => simp [intOf]; omega
    · obtain rfl : k = 2 := by omega
      go_wp2_with fail
      go_ret
      exact ⟨rfl, hb03.trans (hbr.mono hs3)⟩

set_option maxRecDepth 100000 in
theorem fixedShares_walk (total : Int) (v : Value) (ws : List Int) (w : World) (h : Ints w w.heap.size v ws) (hl : ws.length ≤ 17592186044416) :
    LawReturns 19 #[.int .i64 total, v] w := by
  by_cases h0 : ws.length ≤ 2100
  · exact shares_main total v ws w h h0
  · unfold LawReturns
    have g1 : 2100 < ws.length := by omega
    clear h0
    obtain ⟨A, c, rfl, hc, hr⟩ := h
    go_enter Try.func19, Try.ntmps19
    go_wp2_with fail
    go_ret
    exact ⟨rfl, Below.refl _ _⟩

end Go.Proofs.Ytpelapdadgmlkaa
