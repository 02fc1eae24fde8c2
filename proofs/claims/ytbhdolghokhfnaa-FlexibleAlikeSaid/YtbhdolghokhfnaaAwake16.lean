/-
  Walks: the chapter's examples of layer 16.
-/
import Derived.Test.YtbhdolghokhfnaaNear16
import Derived.Test.YtbhdolghokhfnaaCopy16
import Derived.Deep.RegionHeld3
namespace Go.Proofs.Ytbhdolghokhfnaa
open Go.RowKit

set_option maxRecDepth 100000 in
set_option maxHeartbeats 1000000 in
theorem told16_yes (a b : It) (gap room x y : Int) (hR : sizesR [a, b] gap room = ([x, y], 0)) (w : World) :
    Calls Try.prog 55 #[a.val, b.val, .int .i64 gap, .int .i64 room, .int .i64 x, .int .i64 y] w fun e w' => e = .returned (.bool true) ∧ Below w.heap.size w w' := by
  have hs := fun W : World => sizes_any [a, b] gap room _ _ _ (Items.built W [a, b] (W.heap.size + 1) (Nat.lt_succ_self _)) (by simp)
  unfold SizesPost at hs
  rw [hR] at hs
  clear hR
  obtain ⟨a0, a1, a2, a3, a4, a5⟩ := a
  obtain ⟨b0, b1, b2, b3, b4, b5⟩ := b
  unfold It.val
  simp only [rowT, encT, List.flatMap_cons, List.flatMap_nil, List.append_nil, List.cons_append, List.nil_append, List.length_cons, List.length_nil, Nat.zero_add, Nat.reduceAdd] at hs
  have hx : (x == x) = true := by simp
  have hy : (y == y) = true := by simp
  go_enter Try.func55, Try.ntmps55
  go_wp2_with fail
  have hs1 := hs ((w.alloc (.cells #[.int .i64 a0, .int .i64 a1, .int .i64 a2, .int .i64 a3, .int .i64 a4, .int .i64 a5] 39)).alloc (.cells #[.int .i64 b0, .int .i64 b1, .int .i64 b2, .int .i64 b3, .int .i64 b4, .int .i64 b5] 39))
  simp only [World.size_alloc] at hs1
  refine hs1.mono ?_
  clear hs1 hs
  rintro e w1 ⟨v1, rfl, ho, hb⟩
  obtain ⟨g, cap, rfl, hcap, _, hl, hc, _⟩ := ho.openI (by simp)
  have c0 : w1.cell? ⟨g, 0, none⟩ = some (.int .i64 x) := hc 0 (by simp)
  have c1 : w1.cell? ⟨g, 1, none⟩ = some (.int .i64 y) := hc 1 (by simp)
  simp only [List.length_cons, List.length_nil, Nat.zero_add, Nat.reduceAdd] at hcap ⊢
  clear hc ho
  go_wp2_with fail
  go_ret
  refine ⟨by simp, ?_⟩
  refine Below.trans ((((Below.refl _ w).alloc (Nat.le_refl _) _).alloc (by rw [World.size_alloc]; omega) _).alloc (by rw [World.size_alloc, World.size_alloc]; omega) _) (hb.mono (by first | omega | (simp only [World.size_alloc]; omega) | (simp; omega)))

set_option maxRecDepth 100000 in
set_option maxHeartbeats 8000000 in
theorem awake16 (w : World) : Calls Try.prog 26 #[] w fun e w' => e = .returned (.bool true) ∧ Below w.heap.size w w' := by
  have bx := fun b g s W => box16_any b g s W
  have s1 := fun W : World => sizes_any [⟨10, 0, 1000, 0, 0, 0⟩] 0 5 _ _ _ (Items.built W [⟨10, 0, 1000, 0, 0, 0⟩] (W.heap.size + 1) (Nat.lt_succ_self _)) (by simp)
  have s2 := fun W : World => sizes_any [⟨-1, 0, 1000, 0, 0, 0⟩] 0 5 _ _ _ (Items.built W [⟨-1, 0, 1000, 0, 0, 0⟩] (W.heap.size + 1) (Nat.lt_succ_self _)) (by simp)
  have s3 := fun W : World => sizes_any [] 0 5 (.slice none 0 0) 0 W ⟨none, 0, rfl, Nat.le_refl _, fun h => absurd h (by simp)⟩ (Nat.zero_le _)
  unfold SizesPost at s1 s2 s3
  rw [show sizesR [⟨10, 0, 1000, 0, 0, 0⟩] 0 5 = ([10], 0) from by decide +kernel] at s1
  rw [show sizesR [⟨-1, 0, 1000, 0, 0, 0⟩] 0 5 = ([], 2) from by decide +kernel] at s2
  rw [show sizesR [] 0 5 = ([], 0) from by decide +kernel] at s3
  simp only [rowT, encT, List.flatMap_cons, List.flatMap_nil, List.append_nil, List.length_cons, List.length_nil, Nat.zero_add] at s1 s2
  have t1 := fun W => told16_yes ⟨10, 0, 1000, 1, 1, 0⟩ ⟨10, 0, 1000, 3, 1, 0⟩ 5 45 15 25 (by decide +kernel) W
  have t2 := fun W => told16_yes ⟨10, 0, 1000, 0, 1, 0⟩ ⟨10, 0, 12, 1, 1, 0⟩ 0 50 10 12 (by decide +kernel) W
  have t3 := fun W => told16_yes ⟨30, 0, 1000, 0, 1, 0⟩ ⟨10, 0, 1000, 0, 1, 0⟩ 0 20 15 5 (by decide +kernel) W
  have t4 := fun W => told16_yes ⟨30, 25, 1000, 0, 1, 0⟩ ⟨10, 0, 1000, 0, 1, 0⟩ 0 30 25 5 (by decide +kernel) W
  have t5 := fun W => told16_yes ⟨10, 0, 1000, 1, 1, 0⟩ ⟨10, 0, 1000, 1, 1, 0⟩ 0 (-1) 10 10 (by decide +kernel) W
  have f1 := fun W => first_any ⟨30, 25, 1000, 0, 1, 0⟩ W
  rw [show firstR ⟨30, 25, 1000, 0, 1, 0⟩ = 30 from by decide] at f1
  have f2 := fun W => first_any ⟨3, 5, 4, 0, 0, 0⟩ W
  rw [show firstR ⟨3, 5, 4, 0, 0, 0⟩ = 5 from by decide] at f2
  unfold It.val at t1 t2 t3 t4 t5 f1 f2
  go_enter Try.func26, Try.ntmps26
  go_wp2_with fail
  refine (bx _ _ _ _).mono ?_
  rintro e w1 ⟨rfl, h1⟩
  go_wp2_with fail
  refine (bx _ _ _ _).mono ?_
  rintro e w2 ⟨rfl, h2⟩
  go_wp2_with fail
  have hS : Blk ((w2.alloc (.cells #[.int .i64 10, .int .i64 0, .int .i64 12, .int .i64 1, .int .i64 1, .int .i64 0] 39)).alloc (.cells #[.int .i64 30, .int .i64 25, .int .i64 1000, .int .i64 0, .int .i64 1, .int .i64 0] 39)) w2.heap.size 39 #[.int .i64 10, .int .i64 0, .int .i64 12, .int .i64 1, .int .i64 1, .int .i64 0] := Blk.alloc (Blk.new w2 39 #[.int .i64 10, .int .i64 0, .int .i64 12, .int .i64 1, .int .i64 1, .int .i64 0]) _
  have hT : Blk ((w2.alloc (.cells #[.int .i64 10, .int .i64 0, .int .i64 12, .int .i64 1, .int .i64 1, .int .i64 0] 39)).alloc (.cells #[.int .i64 30, .int .i64 25, .int .i64 1000, .int .i64 0, .int .i64 1, .int .i64 0] 39)) (w2.heap.size + 1) 39 #[.int .i64 30, .int .i64 25, .int .i64 1000, .int .i64 0, .int .i64 1, .int .i64 0] := by
    have := Blk.new (w2.alloc (.cells #[.int .i64 10, .int .i64 0, .int .i64 12, .int .i64 1, .int .i64 1, .int .i64 0] 39)) 39 #[.int .i64 30, .int .i64 25, .int .i64 1000, .int .i64 0, .int .i64 1, .int .i64 0]
    rwa [World.size_alloc] at this
  have hb3 : Below w2.heap.size w2 ((w2.alloc (.cells #[.int .i64 10, .int .i64 0, .int .i64 12, .int .i64 1, .int .i64 1, .int .i64 0] 39)).alloc (.cells #[.int .i64 30, .int .i64 25, .int .i64 1000, .int .i64 0, .int .i64 1, .int .i64 0] 39)) := ((Below.refl _ _).alloc (Nat.le_refl _) _).alloc (by rw [World.size_alloc]; omega) _
  have hz3 : ((w2.alloc (.cells #[.int .i64 10, .int .i64 0, .int .i64 12, .int .i64 1, .int .i64 1, .int .i64 0] 39)).alloc (.cells #[.int .i64 30, .int .i64 25, .int .i64 1000, .int .i64 0, .int .i64 1, .int .i64 0] 39)).heap.size = w2.heap.size + 1 + 1 := by rw [World.size_alloc, World.size_alloc]
  generalize (w2.alloc (.cells #[.int .i64 10, .int .i64 0, .int .i64 12, .int .i64 1, .int .i64 1, .int .i64 0] 39)).alloc (.cells #[.int .i64 30, .int .i64 25, .int .i64 1000, .int .i64 0, .int .i64 1, .int .i64 0] 39) = w3 at *
  obtain ⟨tb, htb⟩ : ∃ x, w2.heap.size + 1 = x := ⟨_, rfl⟩
  rw [htb] at hT hz3 ⊢
  obtain ⟨sb, hsb⟩ : ∃ x, w2.heap.size = x := ⟨_, rfl⟩
  rw [hsb] at hS hb3 htb ⊢
  have h03 : Below w.heap.size w w3 := (h1.trans (h2.mono h1.size)).trans (hb3.mono (by rw [← hsb]; exact (h1.trans (h2.mono h1.size)).size))
  have hls : sb < w3.heap.size := by omega
  have hlt : tb < w3.heap.size := by omega
  clear hb3 hz3 htb hsb h1 h2
  refine (bx _ _ _ _).mono ?_
  rintro e w4 ⟨rfl, h4⟩
  go_wp2_with fail
  refine (s1 _).mono ?_
  rintro e w5 ⟨v5, rfl, ho5, h5⟩
  obtain ⟨g5, cap5, rfl, hcap5, _, hl5, hc5, _⟩ := ho5.openI (by simp)
  have c5 : w5.cell? ⟨g5, 0, none⟩ = some (.int .i64 10) := hc5 0 (by simp)
  simp only [List.length_cons, List.length_nil, Nat.zero_add] at hcap5 ⊢
  clear hc5 ho5 s1
  go_wp2_with fail
  refine (bx _ _ _ _).mono ?_
  rintro e w6 ⟨rfl, h6⟩
  go_wp2_with fail
  refine (s2 _).mono ?_
  rintro e w7 ⟨v7, rfl, ho7, h7⟩
  obtain ⟨A7, c7, rfl⟩ := ho7.form
  clear ho7 s2
  go_wp2_with fail
  refine (s3 _).mono ?_
  rintro e w8 ⟨v8, rfl, ho8, h8⟩
  obtain ⟨A8, c8, rfl⟩ := ho8.form
  clear ho8 s3
  simp only [List.length_nil]
  have k4 := h4.size
  have h45 : Below w4.heap.size w4 w5 := below_alloc h5
  have h56 : Below w5.heap.size w5 w6 := h6
  have h67 : Below w6.heap.size w6 w7 := below_alloc h7
  have h57 : Below w5.heap.size w5 w8 := (h56.trans (h67.mono h56.size)).trans (h8.mono ((h56.trans (h67.mono h56.size)).size))
  have h38 : Below w3.heap.size w3 w8 := (h4.trans (h45.mono k4)).trans (h57.mono ((h4.trans (h45.mono k4)).size))
  have h08 : Below w.heap.size w w8 := h03.trans (h38.mono h03.size)
  have hkeep : ∀ w', Below w8.heap.size w8 w' → w'.cell? ⟨sb, 0, none⟩ = some (.int .i64 10) ∧ w'.cell? ⟨sb, 1, none⟩ = some (.int .i64 0) ∧ w'.cell? ⟨sb, 2, none⟩ = some (.int .i64 12) ∧ w'.cell? ⟨sb, 3, none⟩ = some (.int .i64 1) ∧ w'.cell? ⟨sb, 4, none⟩ = some (.int .i64 1) ∧ w'.cell? ⟨sb, 5, none⟩ = some (.int .i64 0) ∧ w'.cell? ⟨tb, 0, none⟩ = some (.int .i64 30) ∧ w'.cell? ⟨tb, 1, none⟩ = some (.int .i64 25) ∧ w'.cell? ⟨tb, 2, none⟩ = some (.int .i64 1000) ∧ w'.cell? ⟨tb, 3, none⟩ = some (.int .i64 0) ∧ w'.cell? ⟨tb, 4, none⟩ = some (.int .i64 1) ∧ w'.cell? ⟨tb, 5, none⟩ = some (.int .i64 0) ∧ w'.cell? ⟨g5, 0, none⟩ = some (.int .i64 10) := fun w' hb' => by
    have hS' := Blk.below (Blk.below hS h38 hls) hb' (Nat.lt_of_lt_of_le hls h38.size)
    have hT' := Blk.below (Blk.below hT h38 hlt) hb' (Nat.lt_of_lt_of_le hlt h38.size)
    exact ⟨Blk.cell hS' 0, Blk.cell hS' 1, Blk.cell hS' 2, Blk.cell hS' 3, Blk.cell hS' 4, Blk.cell hS' 5, Blk.cell hT' 0, Blk.cell hT' 1, Blk.cell hT' 2, Blk.cell hT' 3, Blk.cell hT' 4, Blk.cell hT' 5,
      (hb'.cell (p := ⟨g5, 0, none⟩) (Nat.lt_of_lt_of_le hl5 h57.size)).trans ((h57.cell (p := ⟨g5, 0, none⟩) hl5).trans c5)⟩
  have hQ : Below w8.heap.size w8 w8.drew := (Below.refl _ _).drew
  clear h4 h5 h6 h7 h8 h45 h56 h67 h57 h38 h03 c5 hl5 hS hT
  go_wp2_with fail
  go_region_held3 (fun w' => w'.cell? ⟨sb, 0, none⟩ = some (.int .i64 10) ∧ w'.cell? ⟨sb, 1, none⟩ = some (.int .i64 0) ∧ w'.cell? ⟨sb, 2, none⟩ = some (.int .i64 12) ∧ w'.cell? ⟨sb, 3, none⟩ = some (.int .i64 1) ∧ w'.cell? ⟨sb, 4, none⟩ = some (.int .i64 1) ∧ w'.cell? ⟨sb, 5, none⟩ = some (.int .i64 0) ∧ w'.cell? ⟨tb, 0, none⟩ = some (.int .i64 30) ∧ w'.cell? ⟨tb, 1, none⟩ = some (.int .i64 25) ∧ w'.cell? ⟨tb, 2, none⟩ = some (.int .i64 1000) ∧ w'.cell? ⟨tb, 3, none⟩ = some (.int .i64 0) ∧ w'.cell? ⟨tb, 4, none⟩ = some (.int .i64 1) ∧ w'.cell? ⟨tb, 5, none⟩ = some (.int .i64 0) ∧ w'.cell? ⟨g5, 0, none⟩ = some (.int .i64 10))
    (first | exact hkeep _ hQ | go_keep)
    (first
      | (go_at_call 54; with_reducible refine (bx _ _ _ _).mono ?_; rintro e wN ⟨rfl, hN⟩; replace hQ := hQ.trans (hN.mono hQ.size))
      | (go_at_call 24; (first | with_reducible refine (f1 _).mono ?_ | with_reducible refine (f2 _).mono ?_); rintro e wN ⟨rfl, hN⟩; replace hQ := hQ.trans (hN.mono hQ.size))
      | (go_at_call 55; (first | with_reducible refine (t1 _).mono ?_ | with_reducible refine (t2 _).mono ?_ | with_reducible refine (t3 _).mono ?_ | with_reducible refine (t4 _).mono ?_ | with_reducible refine (t5 _).mono ?_); rintro e wN ⟨rfl, hN⟩; replace hQ := hQ.trans (hN.mono hQ.size)))
  go_wp2_with fail
  go_ret
  exact ⟨rfl, h08.trans (hQ.mono h08.size)⟩

end Go.Proofs.Ytbhdolghokhfnaa
