/-
  Walks: the law FlexlineOrders.
-/
import Derived.Test.YtbhdolghokhfnaaRefOrder
import Derived.Test.YtbhdolghokhfnaaShares
namespace Go.Proofs.Ytbhdolghokhfnaa
open Go.RowKit

set_option maxRecDepth 100000 in
set_option maxHeartbeats 400000 in
theorem ins_nil (fv : Value) (w : World) : Calls Try.prog 72 #[.slice none 0 0, .int .i64 0, .int .i64 0, fv] w fun e w' => e = .returned (.tuple #[]) ∧ w = w' := by
  go_enter Try.func72, Try.ntmps72
  go_wp2_with fail
  refine wp_loop_rounds 1 ?_
  rw [rounds_succ]
  go_wp2_with fail
  go_end0
  exact ⟨rfl, rfl⟩
set_option maxRecDepth 100000 in
set_option maxHeartbeats 400000 in
theorem stable_nil (fv : Value) (w : World) : Calls Try.prog 56 #[.slice none 0 0, .int .i64 0, fv] w fun e w' => e = .returned (.tuple #[]) ∧ w = w' := by
  go_enter Try.func56, Try.ntmps56
  go_wp2_with fail
  refine wp_loop_rounds 1 ?_
  rw [rounds_succ]
  go_wp2_with fail
  refine (ins_nil _ _).mono ?_
  rintro e w' ⟨rfl, rfl⟩
  go_wp2_with fail
  refine wp_loop_rounds 1 ?_
  rw [rounds_succ]
  go_wp2_with fail
  go_end0
  exact ⟨rfl, rfl⟩
set_option maxRecDepth 100000 in
set_option maxHeartbeats 400000 in
theorem sorted_nil (fv : Value) (w : World) : Calls Try.prog 29 #[.slice none 0 0, fv] w fun e w' => e = .returned (.tuple #[]) ∧ w = w' := by
  go_enter Try.func29, Try.ntmps29
  go_wp2_with fail
  refine (stable_nil _ _).mono ?_
  rintro e w' ⟨rfl, rfl⟩
  go_wp2_with fail
  go_end0
  exact ⟨rfl, rfl⟩
theorem IsOrd.nil : IsOrd [] [] := ⟨by simp, List.Pairwise.nil⟩
set_option maxRecDepth 100000 in
set_option maxHeartbeats 400000 in
theorem order_nil (v : Value) (B : Nat) (w : World) (h : Ints w B v []) : Calls Try.prog 14 #[v] w (OrderPost [] w) := by
  obtain ⟨A, c, rfl, hc, hr⟩ := h
  clear hr
  go_enter Try.func14, Try.ntmps14
  go_wp2_with fail
  refine wp_loop_rounds 1 ?_
  rw [rounds_succ]
  go_wp2_with fail
  refine (sorted_nil _ _).mono ?_
  rintro e w' ⟨rfl, rfl⟩
  go_wp2_with fail
  go_ret
  exact ⟨_, [], rfl, IsOrd.nil, Owns.nil _ _, (Below.refl _ _).alloc (Nat.le_refl _) _⟩
theorem order_any (l : List Int) (h300 : l.length ≤ 1000000) (v : Value) (B : Nat) (w : World) (h : Ints w B v l) (hB : B ≤ w.heap.size) : Calls Try.prog 14 #[v] w (OrderPost l w) := by
  match l, h300, h with
  | [], _, h => exact order_nil v B w h
  | x :: l, h300, h => exact order_some (N := l.length) (x :: l) (x :: l).length rfl rfl h300 v B w h hB

set_option maxRecDepth 100000 in
set_option maxHeartbeats 4000000 in
theorem orders_main (zs : List Int) (v : Value) (w : World) (h : Ints w w.heap.size v zs) (hl : zs.length ≤ 300) :
    LawReturns 3 #[v] w := by
  unfold LawReturns
  have h' := h
  obtain ⟨A, c, rfl, hc, hr⟩ := h'
  clear hr
  have cp := copy_any zs _ _ w h (by omega)
  have hl1 : ¬ 300 < zs.length := by omega
  go_enter Try.func3, Try.ntmps3
  go_wp2_with fail
  refine cp.mono ?_
  rintro e w2 ⟨mv, rfl, hm2, hb2⟩
  have hI2 := h.below hb2
  have hs2 : w.heap.size ≤ w2.heap.size := hb2.size
  have rs := reforder_any zs zs.length rfl (by omega) _ _ w2 hI2 hs2
  clear cp
  go_wp2_with fail
  refine rs.mono ?_
  rintro e w3 ⟨wv, os, rfl, hos, hw3, hb3⟩
  have hI3 := (hI2.below (hb3.mono hs2)).more (Nat.le_trans hs2 hb3.size)
  have hM3 := (hm2.ints.below hb3).more hb3.size
  have hW3 := hw3.ints
  have hb03 : Below w.heap.size w w3 := hb2.trans (hb3.mono hs2)
  have hs3 : w.heap.size ≤ w3.heap.size := hb03.size
  have hlo : (os.map fun j => ((j : Nat) : Int)).length = zs.length := by simp [hos.len]
  clear h hI2 rs hm2 hw3 hb2 hb3
  have HS : Hid (∀ v' W, Ints W w3.heap.size v' zs → w3.heap.size ≤ W.heap.size → Calls Try.prog 14 #[v'] W (OrderPost zs W)) := Lib.hid fun v' W hi hb => order_any zs (by omega) _ _ W hi hb
  unfold OrderPost at HS
  have HU := Lib.hid (fun os' (ho : IsOrd zs os') => hos.unique ho)
  have HLO := Lib.hid hlo
  clear hos hlo
  go_wp2_with fail
  go_loopw [5] (ShaA w3 w3.heap.size) (fun i _ => 2 - (intOf i).toNat)
  case atStart => exact ⟨0, by omega, rfl, Below.refl _ _⟩
  case round =>
    obtain ⟨k, hk, rfl, hbr⟩ := hrel
    by_cases hlt : k < 2
    · have hMr := hM3.below hbr
      have sh := HS.out _ _ hMr hbr.size
      go_wp2_with fail
      refine sh.mono ?_
      rintro e w4 ⟨lv, os', rfl, ho', hl4, hb4⟩
      obtain rfl := HU.out os' ho'
      clear ho'
      have hb34 : Below w3.heap.size w3 w4 := hbr.trans (hb4.mono hbr.size)
      have hW4 := hW3.below hb34
      have hM4 := hM3.below hb34
      have hI4 := hI3.below hb34
      have hs4 : w3.heap.size ≤ w4.heap.size := hb34.size
      have hl4b := hl4.base_le (base' := w3.heap.size) (by have := hbr.size; omega)
      generalize hzo : (os.map fun j => ((j : Nat) : Int)) = zo at *
      have HLZ : Hid (zo.length = zs.length) := HLO
      have hzl : zo.length ≤ 300 := by rw [HLZ.out]; omega
      clear hzo
      have q1 := fun W (hq : Below w4.heap.size w4 W) => same_self zo _ _ _ W (hl4.ints.below hq) ((hW4.below (hq.mono hb34.size)).more hb34.size) (by omega)
      have q2 := fun W (hq : Below w4.heap.size w4 W) => same_self zs _ _ _ W (hM4.below (hq.mono hb34.size)) (hI4.below (hq.mono hb34.size)) (by omega)
      obtain ⟨A4, c4, rfl, _, _⟩ := hl4.ints
      go_wp2_with fail
      refine (q1 w4 (Below.refl _ _)).mono ?_
      rintro e w5 ⟨rfl, m5, rfl⟩
      go_wp2_with fail
      refine (q2 _ (below_drewN (Below.refl _ _) m5)).mono ?_
      rintro e w6 ⟨rfl, m6, rfl⟩
      clear q1 q2 sh HS
      go_wp2_with fail
      obtain ⟨g, hgA, hgb, hgc⟩ : ∃ g, (0 < zo.length → A4 = some ⟨g, 0, none⟩) ∧ w3.heap.size ≤ g ∧ ∀ j, j < zo.length → (∃ x, w4.cell? ⟨g, j, none⟩ = some x) ∧ w4.frozen? ⟨g, j, none⟩ = false := by
        rcases Nat.eq_zero_or_pos zo.length with h0 | h0
        · exact ⟨w4.heap.size, fun h => by omega, by omega, fun j h => by omega⟩
        · obtain ⟨g, cap, e, _, hg, _, hcc, hff⟩ := hl4b.open1 h0
          injection e with e1 e2 e3
          exact ⟨g, fun _ => e1, hg, fun j hj => ⟨⟨_, hcc j hj⟩, hff j⟩⟩
      clear hl4 hl4b hW4 hM4 hI4 hW3 hM3 hI3 hMr
      go_loopw [7] (ShaB zo.length g w3.heap.size w3) (fun i _ => zo.length - (intOf i).toNat)
      case atStart => exact ⟨0, by omega, rfl, fun j hj => (hgc j hj).1, fun j hj => (hgc j hj).2, below_drewN hb34 _⟩
      case round =>
        obtain ⟨i, hi, rfl, hcc, hff, hbi⟩ := hrel
        by_cases hli : i < zo.length
        · obtain rfl := hgA (by omega)
          obtain ⟨x, hx⟩ := hcc i hli
          have hf := hff i hli
          go_wp2_with fail
          go_roundw
          case rel =>
            refine ⟨i + 1, hli, by go_num, fun j hj => ?_, fun j hj => ?_, ?_⟩
            · exact cell?_setCell_some (hcc j hj).choose_spec
            · simpa using hff j hj
            · exact hbi.setCell (p := ⟨g, i, none⟩) hgb _
          case measure => simp [intOf]; omega
        · obtain rfl : i = zo.length := by omega
          go_wp2_with fail
          go_roundw
          case rel => exact ⟨k + 1, hlt, by go_num, hbi⟩
          case measure => simp [intOf]; omega
    · obtain rfl : k = 2 := by omega
      go_wp2_with fail
      go_ret
      exact ⟨rfl, hb03.trans (hbr.mono hs3)⟩

set_option maxRecDepth 100000 in
theorem flexlineOrders_walk (zs : List Int) (v : Value) (w : World) (h : Ints w w.heap.size v zs) (_hl : zs.length ≤ 17592186044416) :
    LawReturns 3 #[v] w := by
  by_cases h0 : zs.length ≤ 300
  · exact orders_main zs v w h h0
  · unfold LawReturns
    have h1 : 300 < zs.length := by omega
    obtain ⟨A, c, rfl, hc, hr⟩ := h
    go_enter Try.func3, Try.ntmps3
    go_wp2_with fail
    go_ret
    exact ⟨rfl, Below.refl _ _⟩

end Go.Proofs.Ytbhdolghokhfnaa
