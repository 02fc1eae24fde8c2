/-
  Walks: windowpanelaw15.told, awake, great: the chapter's examples.
-/
import Derived.Test.YtbhdolghokhfnaaOrd4
import Derived.Test.YtbhdolghokhfnaaRSplit
namespace Go.Proofs.Ytbhdolghokhfnaa
open Go.RowKit

def flatL (L : List (Nat × Nat)) : List Int := L.flatMap fun x => [(x.1 : Int), (x.2 : Int)]
theorem flatL_len : ∀ L : List (Nat × Nat), (flatL L).length = 2 * L.length
  | [] => rfl
  | x :: L => by
    show ([(x.1 : Int), (x.2 : Int)] ++ flatL L).length = _
    rw [List.length_append, flatL_len L]
    simp
    omega
theorem flatL_at : ∀ {L : List (Nat × Nat)} {k : Nat} (hk : k < L.length), (flatL L)[2 * k]? = some ((L[k]).1 : Int) ∧ (flatL L)[2 * k + 1]? = some ((L[k]).2 : Int)
  | x :: L, 0, _ => by
    show ([(x.1 : Int), (x.2 : Int)] ++ flatL L)[_]? = _ ∧ ([(x.1 : Int), (x.2 : Int)] ++ flatL L)[_]? = _
    simp
  | x :: L, k + 1, hk => by
    have h := flatL_at (L := L) (k := k) (by simpa using hk)
    show ([(x.1 : Int), (x.2 : Int)] ++ flatL L)[_]? = _ ∧ ([(x.1 : Int), (x.2 : Int)] ++ flatL L)[_]? = _
    rw [List.getElem?_append_right (by simp; omega), List.getElem?_append_right (by simp; omega)]
    rw [show 2 * (k + 1) - [(x.1 : Int), (x.2 : Int)].length = 2 * k by simp; omega, show 2 * (k + 1) + 1 - [(x.1 : Int), (x.2 : Int)].length = 2 * k + 1 by simp; omega]
    simpa using h

set_option maxRecDepth 100000 in
set_option maxHeartbeats 4000000 in
theorem told15 (L : List (Nat × Nat)) (v wv : Value) (lo hi B : Nat) (w : World) (h : LinesIn w lo hi v L) (h' : Ints w B wv (flatL L)) (hm : L.length ≤ 1000) :
    Calls Try.prog 33 #[v, .int .i64 0, wv] w fun e w' => e = .returned (.bool true) ∧ Quiet w w' := by
  obtain ⟨A', c', rfl, hc', hr⟩ := h'
  have hl2 := flatL_len L
  have hlq : (((2 * L.length : Nat) : Int) != ((flatL L).length : Int)) = false := by simp [hl2]
  rcases h with ⟨rfl, A, c, rfl⟩ | ⟨g, cap, rfl, h0, _, _, hc, hcs, _⟩
  · clear hlq
    go_enter Try.func33, Try.ntmps33
    go_wp2_with fail
    go_loopw [7] (SaA 0 w) (fun _ _ => 0)
    case atStart => exact ⟨0, by omega, rfl, Quiet.refl _⟩
    case round =>
      obtain ⟨i, hi, rfl, mo, rfl⟩ := hrel
      obtain rfl : i = 0 := by omega
      go_wp2_with fail
      go_ret
      exact ⟨rfl, _, rfl⟩
  · have hw2 : IntKind.i64.wrap (2 * (L.length : Int)) = ((2 * L.length : Nat) : Int) := by rw [IntKind.wrap_i64]; omega
    rw [hl2] at hr hc' ⊢
    have hr' : Reads w B 1 A' (flatL L).length ((flatL L).map (Value.int .i64)) := by rw [hl2]; exact hr
    clear hr hlq
    go_enter Try.func33, Try.ntmps33
    go_wp2_with fail
    go_loopw [7] (SaA L.length w) (fun i _ => L.length - (intOf i).toNat)
    case atStart => exact ⟨0, by omega, rfl, Quiet.refl _⟩
    case round =>
      obtain ⟨i, hi, rfl, mo, rfl⟩ := hrel
      by_cases hli : i < L.length
      · obtain ⟨a1, a2⟩ := hcs i hli
        obtain ⟨ad, rfl, _, b1⟩ := hr'.val (show 2 * i < (flatL L).length by omega)
        obtain ⟨_, e', _, b2⟩ := hr'.val (show 2 * i + 1 < (flatL L).length by omega)
        cases e'
        obtain ⟨f1, f2⟩ := flatL_at hli
        rw [List.getElem?_eq_getElem (by omega)] at f1 f2
        injection f1 with f1
        injection f2 with f2
        rw [f1] at b1
        rw [f2] at b2
        have HC := Lib.hid hcs
        clear hcs f1 f2
        generalize (L[i]).1 = x at *
        generalize (L[i]).2 = y at *
        have hi1 : IntKind.i64.wrap (2 * (i : Int)) = ((2 * i : Nat) : Int) := by rw [IntKind.wrap_i64]; omega
        have hi2 : IntKind.i64.wrap (((2 * i : Nat) : Int) + 1) = ((2 * i + 1 : Nat) : Int) := by rw [IntKind.wrap_i64]; omega
        have hj1 : ((2 * i : Nat) : Int) < ((2 * L.length : Nat) : Int) := by omega
        have hj2 : ((2 * i + 1 : Nat) : Int) < ((2 * L.length : Nat) : Int) := by omega
        generalize 2 * i + 1 = i2 at *
        generalize 2 * i = i1 at *
        go_wp2_with fail
        go_quiet (fail)
        go_wp2_with fail
        go_roundw
        case rel => exact ⟨i + 1, hli, by go_num, _, rfl⟩
        case measure => simp [intOf]; omega
      · obtain rfl : i = L.length := by omega
        clear hcs
        go_wp2_with fail
        go_ret
        exact ⟨rfl, _, rfl⟩

theorem lines15 (zs : List Int) (gap room : Int) (wrap : Bool) (L : List (Nat × Nat)) (hR : splitR zs gap room wrap = (L, 0)) (hm : zs.length ≤ 300) (v : Value) (B : Nat) (w : World) (h : Ints w B v zs) (hB : B ≤ w.heap.size) :
    Calls Try.prog 32 #[v, .int .i64 gap, .int .i64 room, .bool wrap] w fun e w' => ∃ v', e = .returned (.tuple #[v', .int .i64 0]) ∧ LinesIn w' w.heap.size w'.heap.size v' L ∧ Below w.heap.size w w' := by
  have := split_any zs gap room wrap v B w h hB (by omega)
  unfold SplitPost at this
  rw [hR] at this
  exact this.mono fun e w' ⟨v', h1, h2, h3⟩ => ⟨v', h1, h2.lines, h3⟩

set_option maxRecDepth 100000 in
set_option maxHeartbeats 4000000 in
theorem awake15 (w : World) : Calls Try.prog 16 #[] w fun e w' => e = .returned (.bool true) ∧ Below w.heap.size w w' := by
  have s0 := fun W => order4 _ _ (W.alloc (.cells #[.int .i64 0, .int .i64 (-1), .int .i64 0, .int .i64 (-1)] 3)) (Ints.built W [0, -1, 0, -1] 3) (by simp)
  have l1 := lines15 [3, 3, 3] 1 7 true [(0, 2), (2, 3)] (by decide +kernel) (by decide)
  have l2 := lines15 [3, 3, 3] 1 6 true [(0, 1), (1, 2), (2, 3)] (by decide +kernel) (by decide)
  have l3 := lines15 [3, 3, 3] 1 6 false [(0, 3)] (by decide +kernel) (by decide)
  have l4 := fun W => lines15 [9, 1] 0 5 true [(0, 1), (1, 2)] (by decide +kernel) (by decide) _ _ (W.alloc (.cells #[.int .i64 9, .int .i64 1] 3)) (Ints.built W [9, 1] 3) (by simp)
  have l5 := fun W => lines15 [9, 1] 0 (-1) true [(0, 2)] (by decide +kernel) (by decide) _ _ (W.alloc (.cells #[.int .i64 9, .int .i64 1] 3)) (Ints.built W [9, 1] 3) (by simp)
  have l6 := fun W => lines15 [] 0 5 true [] (by decide +kernel) (by decide) _ 0 W (Ints.nil _ _) (by simp)
  have l7 := fun W => split_any [1] (-1) 5 true _ _ (W.alloc (.cells #[.int .i64 1] 3)) (Ints.built W [1] 3) (by simp) (by simp)
  unfold SplitPost at l7
  rw [show splitR [1] (-1) 5 true = ([], 2) from by decide +kernel] at l7
  simp only [List.length_cons, List.length_nil, Nat.zero_add, Nat.reduceAdd] at s0 l4 l5 l7
  go_enter Try.func16, Try.ntmps16
  go_wp2_with fail
  refine (s0 _).mono ?_
  rintro e w1 ⟨g, cap, rfl, hcap, c0, c1, c2, c3, hg, h1⟩
  have hI := Ints.built w1 [3, 3, 3] 3
  have hb3 : Below w1.heap.size w1 (w1.alloc (.cells #[.int .i64 3, .int .i64 3, .int .i64 3] 3)) := (Below.refl _ _).alloc (Nat.le_refl _) _
  have hs3 : (w1.alloc (.cells #[.int .i64 3, .int .i64 3, .int .i64 3] 3)).heap.size = w1.heap.size + 1 := World.size_alloc _ _
  simp only [List.length_cons, List.length_nil, Nat.zero_add, Nat.reduceAdd, List.map_cons, List.map_nil] at hI
  have h1' := below_alloc h1
  clear h1 s0
  go_wp2_with fail
  change Ints (w1.alloc (.cells #[.int .i64 3, .int .i64 3, .int .i64 3] 3)) _ _ _ at hI
  generalize w1.alloc (.cells #[.int .i64 3, .int .i64 3, .int .i64 3] 3) = W1 at *
  refine (l1 _ _ W1 hI (by omega)).mono ?_
  rintro e w2 ⟨v2, rfl, L2, h2⟩
  have s2 := h2.size
  go_wp2_with fail
  refine (l2 _ _ w2 (hI.below (h2.mono (by omega))) (by omega)).mono ?_
  rintro e w3 ⟨v3, rfl, L3, h3⟩
  have s3 := h3.size
  go_wp2_with fail
  refine (l3 _ _ w3 ((hI.below (h2.mono (by omega))).below (h3.mono (by omega))) (by omega)).mono ?_
  rintro e w4 ⟨v4, rfl, L4, h4⟩
  have s4 := h4.size
  clear l1 l2 l3 hI
  go_wp2_with fail
  refine (l4 _).mono ?_
  rintro e w5 ⟨v5, rfl, L5, h5⟩
  have h5' := below_alloc h5
  have s5 := h5'.size
  clear h5
  go_wp2_with fail
  refine (l5 _).mono ?_
  rintro e w6 ⟨v6, rfl, L6, h6⟩
  have h6' := below_alloc h6
  have s6 := h6'.size
  clear h6
  go_wp2_with fail
  refine (l6 _).mono ?_
  rintro e w7 ⟨v7, rfl, L7, h7⟩
  have s7 := h7.size
  go_wp2_with fail
  refine (l7 _).mono ?_
  rintro e w8 ⟨v8, rfl, _, h8⟩
  have h8' := below_alloc h8
  have s8 := h8'.size
  clear h8 l4 l5 l6 l7
  -- what lies behind all that
  have b7 : Below w7.heap.size w7 w8 := h8'
  have b6 : Below w6.heap.size w6 w8 := h7.trans (b7.mono s7)
  have b5 : Below w5.heap.size w5 w8 := h6'.trans (b6.mono s6)
  have b4 : Below w4.heap.size w4 w8 := h5'.trans (b5.mono s5)
  have b3 : Below w3.heap.size w3 w8 := h4.trans (b4.mono s4)
  have b2 : Below w2.heap.size w2 w8 := h3.trans (b3.mono s3)
  have b1 : Below w1.heap.size w1 w8 := hb3.trans ((h2.mono (by omega)).trans (b2.mono (by omega)))
  have k0 := (b1.cell (p := ⟨g, 0, none⟩) hg).trans c0
  have k1 := (b1.cell (p := ⟨g, 1, none⟩) hg).trans c1
  have k2 := (b1.cell (p := ⟨g, 2, none⟩) hg).trans c2
  have k3 := (b1.cell (p := ⟨g, 3, none⟩) hg).trans c3
  have L2' := L2.below b2
  have L3' := L3.below b3
  have L4' := L4.below b4
  have L5' := L5.below b5
  have L6' := L6.below b6
  have L7' := L7.below b7
  have bw : Below w.heap.size w w8 := below2 h1' b1
  have t2 := fun W (hb : Below w8.heap.size w8 W) => told15 [(0, 2), (2, 3)] v2 _ _ _ _ (W.alloc (.cells #[.int .i64 0, .int .i64 2, .int .i64 2, .int .i64 3] 3)) (L2'.below ((hb.alloc hb.size _).mono (Nat.le_trans (Nat.le_refl _) b2.size))) (Ints.built W [0, 2, 2, 3] 3) (by decide)
  have t3 := fun W (hb : Below w8.heap.size w8 W) => told15 [(0, 1), (1, 2), (2, 3)] v3 _ _ _ _ (W.alloc (.cells #[.int .i64 0, .int .i64 1, .int .i64 1, .int .i64 2, .int .i64 2, .int .i64 3] 3)) (L3'.below ((hb.alloc hb.size _).mono b3.size)) (Ints.built W [0, 1, 1, 2, 2, 3] 3) (by decide)
  have t4 := fun W (hb : Below w8.heap.size w8 W) => told15 [(0, 3)] v4 _ _ _ _ (W.alloc (.cells #[.int .i64 0, .int .i64 3] 3)) (L4'.below ((hb.alloc hb.size _).mono b4.size)) (Ints.built W [0, 3] 3) (by decide)
  have t5 := fun W (hb : Below w8.heap.size w8 W) => told15 [(0, 1), (1, 2)] v5 _ _ _ _ (W.alloc (.cells #[.int .i64 0, .int .i64 1, .int .i64 1, .int .i64 2] 3)) (L5'.below ((hb.alloc hb.size _).mono b5.size)) (Ints.built W [0, 1, 1, 2] 3) (by decide)
  have t6 := fun W (hb : Below w8.heap.size w8 W) => told15 [(0, 2)] v6 _ _ _ _ (W.alloc (.cells #[.int .i64 0, .int .i64 2] 3)) (L6'.below ((hb.alloc hb.size _).mono b6.size)) (Ints.built W [0, 2] 3) (by decide)
  have t7 := fun W (hb : Below w8.heap.size w8 W) => told15 [] v7 _ _ _ 0 W (L7'.below (hb.mono b7.size)) (Ints.nil _ _) (by decide)
  simp only [List.length_cons, List.length_nil, Nat.zero_add, Nat.reduceAdd] at t2 t3 t4 t5 t6 t7
  clear h1' h2 h3 h4 h5' h6' h7 h8' b1 b2 b3 b4 b5 b6 b7 c0 c1 c2 c3 L2 L3 L4 L5 L6 L7 L2' L3' L4' L5' L6' L7'
  go_wp2_with fail
  refine (t2 _ (Below.refl _ _)).mono ?_
  rintro e w9 ⟨rfl, q⟩
  have r9 : Below w8.heap.size w8 w9 := ((Below.refl _ _).alloc (Nat.le_refl _) _).trans (q.below _)
  clear q t2
  go_wp2_with fail
  refine (t3 _ r9).mono ?_
  rintro e w10 ⟨rfl, q⟩
  have r10 : Below w8.heap.size w8 w10 := (r9.alloc r9.size _).trans (q.below _)
  clear q t3
  go_wp2_with fail
  refine (t4 _ r10).mono ?_
  rintro e w11 ⟨rfl, q⟩
  have r11 : Below w8.heap.size w8 w11 := (r10.alloc r10.size _).trans (q.below _)
  clear q t4
  go_wp2_with fail
  refine (t5 _ r11).mono ?_
  rintro e w12 ⟨rfl, q⟩
  have r12 : Below w8.heap.size w8 w12 := (r11.alloc r11.size _).trans (q.below _)
  clear q t5
  go_wp2_with fail
  refine (t6 _ r12).mono ?_
  rintro e w13 ⟨rfl, q⟩
  have r13 : Below w8.heap.size w8 w13 := (r12.alloc r12.size _).trans (q.below _)
  clear q t6
  go_wp2_with fail
  refine (t7 _ r13).mono ?_
  rintro e w14 ⟨rfl, q⟩
  have r14 : Below w8.heap.size w8 w14 := r13.trans (q.below _)
  go_wp2_with fail
  go_ret
  exact ⟨by simp, below2 bw r14⟩

def isGreat (n : Int) : Bool := decide (-1073741824 ≤ n ∧ n ≤ 1073741824)
theorem isGreat_iff (n : Int) : isGreat n = true ↔ -1073741824 ≤ n ∧ n ≤ 1073741824 := by simp [isGreat]
def greatHead (zs : List Int) (gap room : Int) : Prop := zs.length ≤ 300 ∧ 0 ≤ gap ∧ gap ≤ 1073741824 ∧ -1 ≤ room ∧ room ≤ 549755813888
/-- great: the boxes, the gap and the room such as are gone through. -/
def smallOk (zs : List Int) (gap room : Int) : Prop := greatHead zs gap room ∧ zs.all isGreat = true
def GrA (zs : List Int) (w0 : World) (i : Value) (wr : World) : Prop :=
  ∃ k : Nat, k ≤ zs.length ∧ i = .int .i64 k ∧ (zs.take k).all isGreat = true ∧ wr = w0

end Go.Proofs.Ytbhdolghokhfnaa
