/-
  Walks: the law FlexAcross.
-/
import Derived.Test.YtpelapdadgmlkaaAwake17
namespace Go.Proofs.Ytpelapdadgmlkaa
open Go.RowKit

theorem two_form {zs : List Int} (h : zs.length = 2) : ∃ a b, zs = [a, b] := by
  match zs, h with
  | [a, b], _ => exact ⟨a, b, rfl⟩
theorem zs01 {r : Int} (hf : fit r = true) : (zsOf r [0, 1]).getD 0 0 = 0 := by
  have F := given_facts hf (show [0, 1].all isWeight = true from by decide)
  obtain ⟨a, b, e⟩ := two_form F.len
  have h0 := F.zero 0 (by simp) (by rw [e]; simp) rfl
  rw [e]
  simp only [e] at h0
  simpa using h0
theorem zs10 {r : Int} (hf : fit r = true) : (zsOf r [1, 0]).getD 0 0 = r := by
  have F := given_facts hf (show [1, 0].all isWeight = true from by decide)
  obtain ⟨a, b, e⟩ := two_form F.len
  have h0 := F.zero 1 (by simp) (by rw [e]; simp) rfl
  have h1 := F.sum
  rw [if_neg (by decide)] at h1
  simp only [e] at h0 h1 ⊢
  simp at h0 h1 ⊢
  omega
theorem mainR_alone {outer room : Int} (h1 : 0 ≤ outer) (h2 : outer ≤ 268435456) (h3 : 0 ≤ room) (h4 : room ≤ 274877906944) (j : Nat) (hj : j ≤ 4) (x : Int) (hx : (moreR 1 (room - outer) j).getD 0 0 = x) (hf : fit x = true) :
    mainR [outer] 7 room j false = ([x], 0) := by
  have hL : leftOf [outer] 7 room = room - outer := by simp [leftOf]
  have hA : ∀ M, atTo M [outer] 7 room false 1 = [M.getD 0 0] := fun M => by simp [atTo, atF, yB, List.range_succ]
  unfold mainR
  rw [if_neg (by simp; omega), if_pos ⟨by simp [fit_iff]; omega, by decide, (fit_iff _).2 (by omega)⟩, if_neg (by simp), hL, if_pos ((fit_iff _).2 (by omega))]
  simp only [List.length_cons, List.length_nil, Nat.zero_add, hA, hx]
  rw [if_pos (by simp [hf])]
theorem tdiv_two (r : Int) : (0 ≤ r → 0 ≤ r.tdiv 2 ∧ 2 * r.tdiv 2 ≤ r ∧ r ≤ 2 * r.tdiv 2 + 1) ∧ (r < 0 → r.tdiv 2 ≤ 0 ∧ r ≤ 2 * r.tdiv 2 ∧ 2 * r.tdiv 2 ≤ r + 1) := by
  refine ⟨fun h => ?_, fun h => ?_⟩
  · rw [Int.tdiv_eq_ediv_of_nonneg h]; omega
  · rw [show r.tdiv 2 = -((-r).tdiv 2) by rw [Int.neg_tdiv]; omega, Int.tdiv_eq_ediv_of_nonneg (by omega)]; omega
theorem alone0 {outer room : Int} (h1 : 0 ≤ outer) (h2 : outer ≤ 268435456) (h3 : 0 ≤ room) (h4 : room ≤ 274877906944) : mainR [outer] 7 room 0 false = ([0], 0) := by
  have hf : fit (room - outer) = true := (fit_iff _).2 (by omega)
  refine mainR_alone h1 h2 h3 h4 0 (by omega) 0 ?_ (by decide)
  rw [moreR_eq (by omega) hf, if_neg (by omega), show moreW 1 (room - outer) 0 = [0, 1] from by unfold moreW; simp; decide]
  exact zs01 hf
theorem alone1 {outer room : Int} (h1 : 0 ≤ outer) (h2 : outer ≤ 268435456) (h3 : 0 ≤ room) (h4 : room ≤ 274877906944) : mainR [outer] 7 room 1 false = ([room - outer], 0) := by
  have hf : fit (room - outer) = true := (fit_iff _).2 (by omega)
  refine mainR_alone h1 h2 h3 h4 1 (by omega) _ ?_ hf
  rw [moreR_eq (by omega) hf, if_neg (by omega), show moreW 1 (room - outer) 1 = [1, 0] from by unfold moreW; simp; decide]
  exact zs10 hf
theorem alone2 {outer room : Int} (h1 : 0 ≤ outer) (h2 : outer ≤ 268435456) (h3 : 0 ≤ room) (h4 : room ≤ 274877906944) : mainR [outer] 7 room 2 false = ([(room - outer).tdiv 2], 0) := by
  have hf : fit (room - outer) = true := (fit_iff _).2 (by omega)
  have ht := tdiv_two (room - outer)
  refine mainR_alone h1 h2 h3 h4 2 (by omega) _ ?_ ((fit_iff _).2 (by omega))
  rw [moreR_eq (by omega) hf, if_pos rfl, show wgts 1 0 0 0 = [0, 0] from by decide]
  simp
theorem cross_fit {outer room : Int} (h1 : 0 ≤ outer) (h2 : outer ≤ 268435456) (h3 : 0 ≤ room) (h4 : room ≤ 274877906944) (a : Int) (ha : a = 0 ∨ a = 1 ∨ a = 2 ∨ a = 5) : crossR outer room a = (crossAt outer room a, 0) := by
  have ht := tdiv_two (room - outer)
  rw [cross_ok _ _ _ (by omega)]
  have hx : fit (crossAt outer room a) = true := by
    rw [fit_iff]
    unfold crossAt
    split
    · omega
    · split <;> omega
  exact told_yes (by simp [fit_iff]; omega) hx

def AcrA (w1 : World) (B : Nat) (i : Value) (wr : World) : Prop :=
  ∃ k : Nat, k ≤ 3 ∧ i = .int .i64 k ∧ Below B w1 wr

set_option maxRecDepth 100000 in
set_option maxHeartbeats 4000000 in
theorem across_main (outer room : Int) (p1 : 0 ≤ outer) (p2 : outer ≤ 268435456) (p3 : 0 ≤ room) (p4 : room ≤ 274877906944) (w : World) :
    LawReturns 30 #[.int .i64 outer, .int .i64 room] w := by
  unfold LawReturns
  have c5 := fun W => cross_any outer room 5 W
  rw [cross_fit p1 p2 p3 p4 5 (by omega), show crossAt outer room 5 = 0 from by simp [crossAt]] at c5
  obtain ⟨ht1, ht2⟩ := tdiv_two (room - outer)
  go_enter Try.func30, Try.ntmps30
  go_wp2_with fail
  refine (awake17 _).mono ?_
  rintro e w1 ⟨rfl, h1⟩
  go_wp2_with fail
  obtain ⟨o, ho⟩ : ∃ o, Obj.cells #[.int .u8 0, .int .u8 1, .int .u8 2] 64 = o := ⟨_, rfl⟩
  have hb0 : Below w.heap.size w (w1.alloc (Obj.cells #[.int .u8 0, .int .u8 1, .int .u8 2] 5)) := h1.alloc h1.size _
  have hs0 : (w1.alloc (Obj.cells #[.int .u8 0, .int .u8 1, .int .u8 2] 5)).heap.size = w1.heap.size + 1 := World.size_alloc _ _
  have hc0 : (w1.alloc (Obj.cells #[.int .u8 0, .int .u8 1, .int .u8 2] 5)).cell? ⟨w1.heap.size, 0, none⟩ = some (.int .u8 0) := by simp [go_sem]
  have hc1 : (w1.alloc (Obj.cells #[.int .u8 0, .int .u8 1, .int .u8 2] 5)).cell? ⟨w1.heap.size, 1, none⟩ = some (.int .u8 1) := by simp [go_sem]
  have hc2 : (w1.alloc (Obj.cells #[.int .u8 0, .int .u8 1, .int .u8 2] 5)).cell? ⟨w1.heap.size, 2, none⟩ = some (.int .u8 2) := by simp [go_sem]
  clear ho o
  have hs1 := h1.size
  generalize w1.alloc (Obj.cells #[.int .u8 0, .int .u8 1, .int .u8 2] 5) = w2 at *
  generalize w1.heap.size = B at *
  go_loopw [6] (AcrA w2 (B + 1)) (fun i _ => 3 - (intOf i).toNat)
  case atStart => exact ⟨0, by omega, rfl, Below.refl _ _⟩
  case round =>
    obtain ⟨k, hk, rfl, hbr⟩ := hrel
    have e0 := (hbr.cell (p := ⟨B, 0, none⟩) (by simp)).trans hc0
    have e1 := (hbr.cell (p := ⟨B, 1, none⟩) (by simp)).trans hc1
    have e2 := (hbr.cell (p := ⟨B, 2, none⟩) (by simp)).trans hc2
    by_cases hlt : k < 3
    · have hk3 : k = 0 ∨ k = 1 ∨ k = 2 := by omega
      rcases hk3 with rfl | rfl | rfl
      · have cr := fun W => cross_any outer room 0 W
        rw [cross_fit p1 p2 p3 p4 0 (by omega), show crossAt outer room 0 = 0 from by simp [crossAt]] at cr
        have fm := fun W => flexMain_any [outer] 7 room 0 (by decide) false _ _ _ (Ints.built W [outer] 3) (by simp) (by simp)
        unfold MainPost at fm
        rw [alone0 p1 p2 p3 p4] at fm
        simp only [List.length_cons, List.length_nil, Nat.zero_add, List.map_cons, List.map_nil] at fm
        rcases Int.lt_or_le (room - outer) 0 with hro | hro
        all_goals
          go_wp2_with fail
          refine (cr _).mono ?_
          rintro e w3 ⟨rfl, hb3⟩
          have d0 := (hb3.cell (p := ⟨B, 0, none⟩) (by show B < _; have := hbr.size; omega)).trans e0
          have d1 := (hb3.cell (p := ⟨B, 1, none⟩) (by show B < _; have := hbr.size; omega)).trans e1
          have d2 := (hb3.cell (p := ⟨B, 2, none⟩) (by show B < _; have := hbr.size; omega)).trans e2
          have hs3 := hb3.size
          have hr3 := hbr.size
          have dA : ∀ o i, (w3.alloc o).cell? ⟨B, i, none⟩ = w3.cell? ⟨B, i, none⟩ := fun o i => World.cell?_alloc_lt w3 o _ (by show B < _; omega)
          go_wp2_with fail
          refine (fm _).mono ?_
          rintro e w4 ⟨v4, rfl, ho4, hb4⟩
          obtain ⟨g, cap, rfl, hcap, _, hl, hc, _⟩ := ho4.open_ (by simp)
          have q0 : w4.cell? ⟨g, 0, none⟩ = some (.int .i64 0) := hc 0 (by simp)
          simp only [List.length_cons, List.length_nil, Nat.zero_add] at hcap ⊢
          clear hc ho4
          go_wp2_with fail
          go_roundw
          case rel => exact ⟨0+1, by omega, by go_num, hbr.trans ((hb3.mono (show B + 1 ≤ wr.heap.size by omega)).trans ((below_alloc hb4).mono (show B + 1 ≤ w3.heap.size by omega)))⟩
          case measure => simp [intOf]
      · have cr := fun W => cross_any outer room 1 W
        rw [cross_fit p1 p2 p3 p4 1 (by omega), show crossAt outer room 1 = (room - outer) from by simp [crossAt]] at cr
        have fm := fun W => flexMain_any [outer] 7 room 1 (by decide) false _ _ _ (Ints.built W [outer] 3) (by simp) (by simp)
        unfold MainPost at fm
        rw [alone1 p1 p2 p3 p4] at fm
        simp only [List.length_cons, List.length_nil, Nat.zero_add, List.map_cons, List.map_nil] at fm
        rcases Int.lt_or_le (room - outer) 0 with hro | hro
        all_goals
          go_wp2_with fail
          refine (cr _).mono ?_
          rintro e w3 ⟨rfl, hb3⟩
          have d0 := (hb3.cell (p := ⟨B, 0, none⟩) (by show B < _; have := hbr.size; omega)).trans e0
          have d1 := (hb3.cell (p := ⟨B, 1, none⟩) (by show B < _; have := hbr.size; omega)).trans e1
          have d2 := (hb3.cell (p := ⟨B, 2, none⟩) (by show B < _; have := hbr.size; omega)).trans e2
          have hs3 := hb3.size
          have hr3 := hbr.size
          have dA : ∀ o i, (w3.alloc o).cell? ⟨B, i, none⟩ = w3.cell? ⟨B, i, none⟩ := fun o i => World.cell?_alloc_lt w3 o _ (by show B < _; omega)
          go_wp2_with fail
          refine (fm _).mono ?_
          rintro e w4 ⟨v4, rfl, ho4, hb4⟩
          obtain ⟨g, cap, rfl, hcap, _, hl, hc, _⟩ := ho4.open_ (by simp)
          have q0 : w4.cell? ⟨g, 0, none⟩ = some (.int .i64 (room - outer)) := hc 0 (by simp)
          simp only [List.length_cons, List.length_nil, Nat.zero_add] at hcap ⊢
          clear hc ho4
          go_wp2_with fail
          go_roundw
          case rel => exact ⟨1+1, by omega, by go_num, hbr.trans ((hb3.mono (show B + 1 ≤ wr.heap.size by omega)).trans ((below_alloc hb4).mono (show B + 1 ≤ w3.heap.size by omega)))⟩
          case measure => simp [intOf]
      · have cr := fun W => cross_any outer room 2 W
        rw [cross_fit p1 p2 p3 p4 2 (by omega), show crossAt outer room 2 = ((room - outer).tdiv 2) from by simp [crossAt]] at cr
        have fm := fun W => flexMain_any [outer] 7 room 2 (by decide) false _ _ _ (Ints.built W [outer] 3) (by simp) (by simp)
        unfold MainPost at fm
        rw [alone2 p1 p2 p3 p4] at fm
        simp only [List.length_cons, List.length_nil, Nat.zero_add, List.map_cons, List.map_nil] at fm
        generalize (room - outer).tdiv 2 = q at *
        rcases Int.lt_or_le (room - outer) 0 with hro | hro
        all_goals
          go_wp2_with fail
          refine (cr _).mono ?_
          rintro e w3 ⟨rfl, hb3⟩
          have d0 := (hb3.cell (p := ⟨B, 0, none⟩) (by show B < _; have := hbr.size; omega)).trans e0
          have d1 := (hb3.cell (p := ⟨B, 1, none⟩) (by show B < _; have := hbr.size; omega)).trans e1
          have d2 := (hb3.cell (p := ⟨B, 2, none⟩) (by show B < _; have := hbr.size; omega)).trans e2
          have hs3 := hb3.size
          have hr3 := hbr.size
          have dA : ∀ o i, (w3.alloc o).cell? ⟨B, i, none⟩ = w3.cell? ⟨B, i, none⟩ := fun o i => World.cell?_alloc_lt w3 o _ (by show B < _; omega)
          go_wp2_with fail
          refine (fm _).mono ?_
          rintro e w4 ⟨v4, rfl, ho4, hb4⟩
          obtain ⟨g, cap, rfl, hcap, _, hl, hc, _⟩ := ho4.open_ (by simp)
          have q0 : w4.cell? ⟨g, 0, none⟩ = some (.int .i64 q) := hc 0 (by simp)
          simp only [List.length_cons, List.length_nil, Nat.zero_add] at hcap ⊢
          clear hc ho4
          go_wp2_with fail
          go_roundw
          case rel => exact ⟨2+1, by omega, by go_num, hbr.trans ((hb3.mono (show B + 1 ≤ wr.heap.size by omega)).trans ((below_alloc hb4).mono (show B + 1 ≤ w3.heap.size by omega)))⟩
          case measure => simp [intOf]
    · obtain rfl : k = 3 := by omega
      go_wp2_with fail
      refine (c5 _).mono ?_
      rintro e w3 ⟨rfl, hb3⟩
      go_wp2_with fail
      go_ret
      have := hbr.size
      exact ⟨by simp, hb0.trans ((hbr.mono (by omega)).trans (hb3.mono (by omega)))⟩

set_option maxRecDepth 100000 in
theorem flexAcross_walk (outer room : Int) (w : World) :
    LawReturns 30 #[.int .i64 outer, .int .i64 room] w := by
  by_cases hb : 0 ≤ outer ∧ outer ≤ 268435456 ∧ 0 ≤ room ∧ room ≤ 274877906944
  · exact across_main outer room hb.1 hb.2.1 hb.2.2.1 hb.2.2.2 w
  · unfold LawReturns
    have h3 : outer < 0 ∨ (¬ outer < 0 ∧ 268435456 < outer) ∨ (¬ outer < 0 ∧ ¬ 268435456 < outer ∧ room < 0) ∨ (¬ outer < 0 ∧ ¬ 268435456 < outer ∧ ¬ room < 0 ∧ 274877906944 < room) := by omega
    clear hb
    rcases h3 with g1 | ⟨g1, g2⟩ | ⟨g1, g2, g3⟩ | ⟨g1, g2, g3, g4⟩
    all_goals
      go_enter Try.func30, Try.ntmps30
      go_wp2_with fail
      refine (awake17 _).mono ?_
      rintro e w1 ⟨rfl, h1⟩
      go_wp2_with fail
      go_ret
      exact ⟨rfl, h1⟩

end Go.Proofs.Ytpelapdadgmlkaa
