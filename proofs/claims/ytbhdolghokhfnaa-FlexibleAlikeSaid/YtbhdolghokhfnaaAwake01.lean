/-
  Walks: the chapter's examples of layer 1, as the laws call them.
-/
import Derived.Test.YtbhdolghokhfnaaShareWalk
namespace Go.Proofs.Ytbhdolghokhfnaa
open Go.RowKit

/-- A slice of the call's own that is not empty, written out. -/
theorem Owns.open_ {w : World} {base : Nat} {v : Value} {zs : List Int} (h : Owns w base v zs) (h0 : 0 < zs.length) :
    ∃ g cap, v = .slice (some ⟨g, 0, none⟩) zs.length cap ∧ zs.length ≤ cap ∧ base ≤ g ∧ g < w.heap.size ∧ (∀ k (hk : k < zs.length), w.cell? ⟨g, k, none⟩ = some (.int .i64 zs[k])) ∧ ∀ k, w.frozen? ⟨g, k, none⟩ = false := by
  rcases h.2 with ⟨_, e⟩ | ⟨g, cap, cur, rfl, hg, hb, hc, _, _, ht⟩
  · omega
  · refine ⟨g, cap, rfl, hc, hg, (Array.getElem?_eq_some_iff.1 hb).1, fun k hk => ?_, fun k => by simp [World.frozen?, hb]⟩
    rw [cell_of_row w g k cur _ _ hb, ← Array.getElem?_toList]
    have h1 : (cur.toList.take (zs.length * 1))[k]? = some (.int .i64 zs[k]) := by rw [ht]; simp [hk]
    rw [List.getElem?_take_of_lt (by omega)] at h1
    exact h1

theorem below_alloc {w w1 : World} {o : Obj} (h : Below (w.alloc o).heap.size (w.alloc o) w1) : Below w.heap.size w w1 := ((Below.refl _ w).alloc (Nat.le_refl _) _).trans (h.mono (by simp))

theorem share_built (total : Int) (ws : List Int) (w : World) (r : List Int) (c : Int) (hm : ws.length ≤ 2048) (hr : shareR total ws = (r, c)) :
    Calls Try.prog 19 #[.int .i64 total, .slice (some ⟨w.heap.size, 0, none⟩) ws.length ws.length] (w.alloc (.cells (ws.map (Value.int .i64)).toArray 3)) fun e w' =>
      ∃ v, e = .returned (.tuple #[v, .int .i64 c]) ∧ Owns w' (w.heap.size + 1) v r ∧ Below w.heap.size w w' := by
  have h := share_any total ws _ _ _ (Ints.built w ws 3) (by simp) (by omega)
  refine h.mono fun e w' ⟨v, he, ho, hb⟩ => ⟨v, by rw [he, hr], by rw [hr] at ho; simpa using ho, ?_⟩
  exact ((Below.refl _ w).alloc (Nat.le_refl _) _).trans (hb.mono (by simp))

set_option maxRecDepth 100000 in
set_option maxHeartbeats 400000 in
theorem awake01 (w : World) : Calls Try.prog 17 #[] w fun e w' => e = .returned (.bool true) ∧ Below w.heap.size w w' := by
  have a1 := fun W => add_any [1, 2, 3] _ _ _ (Ints.built W [1, 2, 3] 3) (by decide)
  rw [show addR [1, 2, 3] = (6, 0) from by decide] at a1
  have a2 := fun W => add_any [1099511627776, 1] _ _ _ (Ints.built W [1099511627776, 1] 3) (by decide)
  rw [show addR [1099511627776, 1] = (0, 10) from by decide] at a2
  have m1 := fun W => mul_any 1048576 1048576 W (by decide) (by decide)
  rw [show mulR 1048576 1048576 = (1099511627776, 0) from by decide] at m1
  have m2 := fun W => mul_any 2097152 1048576 W (by decide) (by decide)
  rw [show mulR 2097152 1048576 = (0, 10) from by decide] at m2
  have p1 := fun W => part_any 5000 (-7) W
  rw [show partR 5000 (-7) = (-3, 0) from by decide] at p1
  have p2 := fun W => part_any 100001 1 W
  rw [show partR 100001 1 = (0, 2) from by decide] at p2
  have s1 := fun W => share_built 10 [1, 1, 1] W [4, 3, 3] 0 (by decide) (by decide +kernel)
  have s2 := fun W => share_built (-10) [1, 2] W [-3, -7] 0 (by decide) (by decide +kernel)
  have c1 := fun W => clamp_any 5 1 3 W
  rw [show clampR 5 1 3 = 3 from by decide] at c1
  have c2 := fun W => clamp_any 5 7 3 W
  rw [show clampR 5 7 3 = 7 from by decide] at c2
  have f1 := fun W => fits_one 1099511627776 3 W
  rw [show fit 1099511627776 = true from by decide] at f1
  have f2 := fun W => fits_two 0 1099511627777 3 W
  rw [show (fit 0 && fit 1099511627777) = false from by decide] at f2
  simp only [List.length_cons, List.length_nil, Nat.zero_add, Nat.reduceAdd, List.map_cons, List.map_nil] at a1 a2 s1 s2
  go_enter Try.func17, Try.ntmps17
  go_wp2_with fail
  refine (a1 _).mono ?_
  rintro e w1 ⟨rfl, h1⟩
  go_wp2_with fail
  refine (a2 _).mono ?_
  rintro e w2 ⟨rfl, h2⟩
  go_wp2_with fail
  refine (m1 _).mono ?_
  rintro e w3 ⟨rfl, h3⟩
  go_wp2_with fail
  refine (m2 _).mono ?_
  rintro e w4 ⟨rfl, h4⟩
  go_wp2_with fail
  refine (p1 _).mono ?_
  rintro e w5 ⟨rfl, h5⟩
  go_wp2_with fail
  refine (p2 _).mono ?_
  rintro e w6 ⟨rfl, h6⟩
  go_wp2_with fail
  refine (s1 _).mono ?_
  rintro e w7 ⟨v7, rfl, ho7, h7⟩
  obtain ⟨g7, cap7, rfl, hcap7, _, hl7, hc7, _⟩ := ho7.open_ (by decide)
  have c70 : w7.cell? ⟨g7, 0, none⟩ = some (.int .i64 4) := hc7 0 (by decide)
  have c71 : w7.cell? ⟨g7, 1, none⟩ = some (.int .i64 3) := hc7 1 (by decide)
  have c72 : w7.cell? ⟨g7, 2, none⟩ = some (.int .i64 3) := hc7 2 (by decide)
  simp only [List.length_cons, List.length_nil, Nat.zero_add, Nat.reduceAdd] at hcap7 ⊢
  clear hc7 ho7
  go_wp2_with fail
  refine (s2 _).mono ?_
  rintro e w8 ⟨v8, rfl, ho8, h8⟩
  obtain ⟨g8, cap8, rfl, hcap8, _, hl8, hc8, _⟩ := ho8.open_ (by decide)
  have c80 : w8.cell? ⟨g8, 0, none⟩ = some (.int .i64 (-3)) := hc8 0 (by decide)
  have c81 : w8.cell? ⟨g8, 1, none⟩ = some (.int .i64 (-7)) := hc8 1 (by decide)
  have d70 := (h8.cell (p := ⟨g7, 0, none⟩) hl7).trans c70
  have d71 := (h8.cell (p := ⟨g7, 1, none⟩) hl7).trans c71
  have d72 := (h8.cell (p := ⟨g7, 2, none⟩) hl7).trans c72
  have hl78 : g7 < w8.heap.size := Nat.lt_of_lt_of_le hl7 h8.size
  simp only [List.length_cons, List.length_nil, Nat.zero_add, Nat.reduceAdd] at hcap8 ⊢
  clear hc8 ho8 c70 c71 c72
  go_wp2_with fail
  refine (c1 _).mono ?_
  rintro e w9 ⟨rfl, rfl⟩
  go_wp2_with fail
  refine (c2 _).mono ?_
  rintro e w9 ⟨rfl, rfl⟩
  go_wp2_with fail
  refine (f1 _).mono ?_
  rintro e w9 ⟨rfl, rfl⟩
  go_wp2_with fail
  have f3 := f2 (w8.alloc (.cells #[.int .i64 1099511627776] 3))
  rw [World.size_alloc] at f3
  refine f3.mono ?_
  rintro e w9 ⟨rfl, rfl⟩
  go_wp2_with fail
  go_ret
  have hb := below2 (below2 (below2 (below2 (below2 (below2 (below2 (below_alloc h1) (below_alloc h2)) h3) h4) h5) h6) h7) h8
  exact ⟨rfl, (hb.alloc hb.size _).alloc (by have := hb.size; simp; omega) _⟩
end Go.Proofs.Ytbhdolghokhfnaa
