/-
  Walks: windowpanelaw09.word, awake: what they answer.
-/
import Derived.Test.YtlfmeagdelmlpaaDoorRefShown
import Derived.Test.YtlfmeagdelmlpaaDoorHeldB
import Derived.Test.YtlfmeagdelmlpaaDoorLexE
namespace Go.Proofs.YtlfmeagdelmlpaaDoor
open Go.RowKit Go.Shelf

theorem word_any (t : ByteArray) (w : World) : Calls Tryd.prog 22 #[.string t] w fun e w' => e = .returned (.agg #[.int .u8 0, .string t]) ∧ Below w.heap.size w w' := by
  go_enter Tryd.func22, Tryd.ntmps22
  go_wp2
  exact bodyPost_ret (v := .agg #[.int .u8 0, .string t]) (by simp [results, Tryd.results22, go_sem]) rfl ⟨rfl, (Below.refl _ _).alloc (Nat.le_refl _) _⟩

theorem below_of {w1 w2 w3 : World} {B : Nat} (h1 : Below B w1 w2) (h2 : Below w2.heap.size w2 w3) (hB : B ≤ w1.heap.size) : Below B w1 w3 := h1.trans (h2.mono (Nat.le_trans hB h1.size))
/-- A row of pieces, seen from whatever world is as this one below its heap. -/
theorem owns_cells {w : World} {base : Nat} {v : Value} {L : List Pc} (h : OwnsP w base v L) (h0 : 0 < L.length) :
    ∃ g cap, v = .slice (some ⟨g, 0, none⟩) L.length cap ∧ ∀ w' : World, Below w.heap.size w w' → ∀ k (hk : k < L.length), w'.cell? ⟨g, k * 2, none⟩ = some (.int .u8 ((L[k]).1 : Nat)) ∧ w'.cell? ⟨g, k * 2 + 1, none⟩ = some (.string (mkB (L[k]).2)) := by
  rcases h.pieces with ⟨rfl, _⟩ | ⟨g, cap, e, _, _, hg, _, hc, _⟩
  · simp at h0
  · exact ⟨g, cap, e, fun w' hb k hk => ⟨(hb.cell (p := ⟨g, k * 2, none⟩) hg).trans (hc k hk).1, (hb.cell (p := ⟨g, k * 2 + 1, none⟩) hg).trans (hc k hk).2⟩⟩

set_option maxRecDepth 100000 in
set_option maxHeartbeats 4000000 in
theorem awake09 (m : Int) (w : World) (hm : w.cell? ⟨0, 0, none⟩ = some (.int .i64 m)) :
    Calls Tryd.prog 13 #[] w fun e w' => e = .returned (.bool true) ∧ Below w.heap.size w w' := by
  have c1 := fun W h => cut_any ⟨#[97, 32, 32, 98, 10, 99, 32]⟩ (by decide) 0 m W h
  have c2 := fun W h => cut_any ⟨#[97, 32, 32, 98, 10, 99, 32]⟩ (by decide) 1 m W h
  have c3 := fun W h => cut_any ⟨#[97, 32, 32, 98, 10, 99, 32]⟩ (by decide) 2 m W h
  have c4 := fun W h => cut_any ⟨#[]⟩ (by decide) 1 m W h
  have c5 := fun W h => cut_any ⟨#[97]⟩ (by decide) 3 m W h
  have c6 := fun W h => cut_any ⟨#[10]⟩ (by decide) 2 m W h
  have c7 := fun W h => cut_any ⟨#[10]⟩ (by decide) 1 m W h
  have c8 := fun W h => shown_any ⟨#[97, 32, 32, 98, 10, 99, 32]⟩ (by decide) 0 m W h
  unfold CutPost at c1 c2 c3 c4 c5 c6 c7
  rw [show cutR 0 (⟨#[97, 32, 32, 98, 10, 99, 32]⟩ : ByteArray).data.toList = [(0, [97]), (1, [32]), (0, [98]), (1, [32]), (0, [99]), (1, [32])] by rfl] at c1 c8
  rw [show cutR 1 (⟨#[97, 32, 32, 98, 10, 99, 32]⟩ : ByteArray).data.toList = [(0, [97, 32, 98, 32, 99, 32])] by rfl] at c2
  rw [show cutR 2 (⟨#[97, 32, 32, 98, 10, 99, 32]⟩ : ByteArray).data.toList = [(0, [97, 32, 32, 98]), (2, []), (0, [99, 32])] by rfl] at c3
  rw [show cutR 1 (⟨#[]⟩ : ByteArray).data.toList = [] by rfl] at c4
  rw [show cutR 3 (⟨#[97]⟩ : ByteArray).data.toList = [] by rfl] at c5
  rw [show cutR 2 (⟨#[10]⟩ : ByteArray).data.toList = [(2, [])] by rfl] at c6
  rw [show cutR 1 (⟨#[10]⟩ : ByteArray).data.toList = [(0, [32])] by rfl] at c7
  rw [show mkB (shownR [(0, [97]), (1, [32]), (0, [98]), (1, [32]), (0, [99]), (1, [32])]) = ⟨#[97, 32, 98, 32, 99, 32]⟩ by rfl] at c8
  have d1 := c1 w hm
  go_enter Tryd.func13, Tryd.ntmps13
  go_wp2_with fail
  refine d1.mono ?_
  rintro e w1 ⟨va, rfl, oa, b1⟩
  obtain ⟨ga, ca, rfl, fa⟩ := owns_cells oa (by decide)
  have d2 := c2 w1 (cell_later b1 hm)
  clear d1
  go_wp2_with fail
  refine d2.mono ?_
  rintro e w2 ⟨vb, rfl, ob, b2⟩
  obtain ⟨gb, cb, rfl, fb⟩ := owns_cells ob (by decide)
  have b12 := below_of b1 b2 (Nat.le_refl _)
  have d3 := c3 w2 (cell_later b12 hm)
  clear d2
  go_wp2_with fail
  refine d3.mono ?_
  rintro e w3 ⟨vc, rfl, oc, b3⟩
  obtain ⟨gc, cc, rfl, fc⟩ := owns_cells oc (by decide)
  have b13 := below_of b12 b3 (Nat.le_refl _)
  have d4 := c4 w3 (cell_later b13 hm)
  clear d3
  have FA := Lib.hid fa
  have FB := Lib.hid fb
  have FC := Lib.hid fc
  clear fa fb fc
  simp only [List.length_cons, List.length_nil, Nat.zero_add, Nat.reduceAdd]
  go_wp2_with fail
  refine d4.mono ?_
  rintro e w4 ⟨vd, rfl, od, b4⟩
  obtain ⟨A4, c4', rfl⟩ := owns_form od
  have b14 := below_of b13 b4 (Nat.le_refl _)
  have d5 := c5 w4 (cell_later b14 hm)
  clear d4 od
  go_wp2_with fail
  refine d5.mono ?_
  rintro e w5 ⟨ve, rfl, oe, b5⟩
  obtain ⟨A5, c5', rfl⟩ := owns_form oe
  have b15 := below_of b14 b5 (Nat.le_refl _)
  have d6 := c6 w5 (cell_later b15 hm)
  clear d5 oe
  go_wp2_with fail
  refine d6.mono ?_
  rintro e w6 ⟨vf, rfl, of_, b6⟩
  obtain ⟨gf, cf, rfl, ff⟩ := owns_cells of_ (by decide)
  have b16 := below_of b15 b6 (Nat.le_refl _)
  have d7 := c7 w6 (cell_later b16 hm)
  have FF := Lib.hid ff
  clear d6 ff
  go_wp2_with fail
  refine d7.mono ?_
  rintro e w7 ⟨vg, rfl, og, b7⟩
  obtain ⟨gg, cg, rfl, fg⟩ := owns_cells og (by decide)
  have b17 := below_of b16 b7 (Nat.le_refl _)
  have FG := Lib.hid fg
  clear d7 fg
  simp only [List.length_cons, List.length_nil, Nat.zero_add]
  -- THE LAST REGION
  go_wp2_with fail
  have n1 := (Blk.new w7 26 #[.int .u8 1, .string ⟨#[32]⟩]).alloc (.cells #[.int .u8 2, .string ⟨#[]⟩] 26)
  have n2 := Blk.new (w7.alloc (.cells #[.int .u8 1, .string ⟨#[32]⟩] 26)) 26 #[.int .u8 2, .string ⟨#[]⟩]
  rw [World.size_alloc] at n2
  have b8 : Below w7.heap.size w7 ((w7.alloc (.cells #[.int .u8 1, .string ⟨#[32]⟩] 26)).alloc (.cells #[.int .u8 2, .string ⟨#[]⟩] 26)) := ((Below.refl _ w7).alloc (Nat.le_refl _) _).alloc (by simp) _
  have s8 := n2.lt
  generalize (w7.alloc (.cells #[.int .u8 1, .string ⟨#[32]⟩] 26)).alloc (.cells #[.int .u8 2, .string ⟨#[]⟩] 26) = W8 at *
  have a7 := b8
  have a6 := below_of b7 a7 (Nat.le_refl _)
  have a5 := below_of b6 a6 (Nat.le_refl _)
  have a4 := below_of b5 a5 (Nat.le_refl _)
  have a3 := below_of b4 a4 (Nat.le_refl _)
  have a2 := below_of b3 a3 (Nat.le_refl _)
  have a1 := below_of b2 a2 (Nat.le_refl _)
  have ka0 := fun W : BW W8.heap.size W8 => (FA.out W.val (a1.trans (W.ok.mono a1.size)) 0 (by decide)).1
  have ta0 := fun W : BW W8.heap.size W8 => (FA.out W.val (a1.trans (W.ok.mono a1.size)) 0 (by decide)).2
  change ∀ W : BW W8.heap.size W8, W.val.cell? ⟨ga, 0, none⟩ = some (.int .u8 0) at ka0
  change ∀ W : BW W8.heap.size W8, W.val.cell? ⟨ga, 1, none⟩ = some (.string ⟨#[97]⟩) at ta0
  have ka1 := fun W : BW W8.heap.size W8 => (FA.out W.val (a1.trans (W.ok.mono a1.size)) 1 (by decide)).1
  have ta1 := fun W : BW W8.heap.size W8 => (FA.out W.val (a1.trans (W.ok.mono a1.size)) 1 (by decide)).2
  change ∀ W : BW W8.heap.size W8, W.val.cell? ⟨ga, 2, none⟩ = some (.int .u8 1) at ka1
  change ∀ W : BW W8.heap.size W8, W.val.cell? ⟨ga, 3, none⟩ = some (.string ⟨#[32]⟩) at ta1
  have ka2 := fun W : BW W8.heap.size W8 => (FA.out W.val (a1.trans (W.ok.mono a1.size)) 2 (by decide)).1
  have ta2 := fun W : BW W8.heap.size W8 => (FA.out W.val (a1.trans (W.ok.mono a1.size)) 2 (by decide)).2
  change ∀ W : BW W8.heap.size W8, W.val.cell? ⟨ga, 4, none⟩ = some (.int .u8 0) at ka2
  change ∀ W : BW W8.heap.size W8, W.val.cell? ⟨ga, 5, none⟩ = some (.string ⟨#[98]⟩) at ta2
  have ka3 := fun W : BW W8.heap.size W8 => (FA.out W.val (a1.trans (W.ok.mono a1.size)) 3 (by decide)).1
  have ta3 := fun W : BW W8.heap.size W8 => (FA.out W.val (a1.trans (W.ok.mono a1.size)) 3 (by decide)).2
  change ∀ W : BW W8.heap.size W8, W.val.cell? ⟨ga, 6, none⟩ = some (.int .u8 1) at ka3
  change ∀ W : BW W8.heap.size W8, W.val.cell? ⟨ga, 7, none⟩ = some (.string ⟨#[32]⟩) at ta3
  have ka4 := fun W : BW W8.heap.size W8 => (FA.out W.val (a1.trans (W.ok.mono a1.size)) 4 (by decide)).1
  have ta4 := fun W : BW W8.heap.size W8 => (FA.out W.val (a1.trans (W.ok.mono a1.size)) 4 (by decide)).2
  change ∀ W : BW W8.heap.size W8, W.val.cell? ⟨ga, 8, none⟩ = some (.int .u8 0) at ka4
  change ∀ W : BW W8.heap.size W8, W.val.cell? ⟨ga, 9, none⟩ = some (.string ⟨#[99]⟩) at ta4
  have ka5 := fun W : BW W8.heap.size W8 => (FA.out W.val (a1.trans (W.ok.mono a1.size)) 5 (by decide)).1
  have ta5 := fun W : BW W8.heap.size W8 => (FA.out W.val (a1.trans (W.ok.mono a1.size)) 5 (by decide)).2
  change ∀ W : BW W8.heap.size W8, W.val.cell? ⟨ga, 10, none⟩ = some (.int .u8 1) at ka5
  change ∀ W : BW W8.heap.size W8, W.val.cell? ⟨ga, 11, none⟩ = some (.string ⟨#[32]⟩) at ta5
  have kb0 := fun W : BW W8.heap.size W8 => (FB.out W.val (a2.trans (W.ok.mono a2.size)) 0 (by decide)).1
  have tb0 := fun W : BW W8.heap.size W8 => (FB.out W.val (a2.trans (W.ok.mono a2.size)) 0 (by decide)).2
  change ∀ W : BW W8.heap.size W8, W.val.cell? ⟨gb, 0, none⟩ = some (.int .u8 0) at kb0
  change ∀ W : BW W8.heap.size W8, W.val.cell? ⟨gb, 1, none⟩ = some (.string ⟨#[97, 32, 98, 32, 99, 32]⟩) at tb0
  have kc0 := fun W : BW W8.heap.size W8 => (FC.out W.val (a3.trans (W.ok.mono a3.size)) 0 (by decide)).1
  have tc0 := fun W : BW W8.heap.size W8 => (FC.out W.val (a3.trans (W.ok.mono a3.size)) 0 (by decide)).2
  change ∀ W : BW W8.heap.size W8, W.val.cell? ⟨gc, 0, none⟩ = some (.int .u8 0) at kc0
  change ∀ W : BW W8.heap.size W8, W.val.cell? ⟨gc, 1, none⟩ = some (.string ⟨#[97, 32, 32, 98]⟩) at tc0
  have kc1 := fun W : BW W8.heap.size W8 => (FC.out W.val (a3.trans (W.ok.mono a3.size)) 1 (by decide)).1
  have tc1 := fun W : BW W8.heap.size W8 => (FC.out W.val (a3.trans (W.ok.mono a3.size)) 1 (by decide)).2
  change ∀ W : BW W8.heap.size W8, W.val.cell? ⟨gc, 2, none⟩ = some (.int .u8 2) at kc1
  change ∀ W : BW W8.heap.size W8, W.val.cell? ⟨gc, 3, none⟩ = some (.string ⟨#[]⟩) at tc1
  have kc2 := fun W : BW W8.heap.size W8 => (FC.out W.val (a3.trans (W.ok.mono a3.size)) 2 (by decide)).1
  have tc2 := fun W : BW W8.heap.size W8 => (FC.out W.val (a3.trans (W.ok.mono a3.size)) 2 (by decide)).2
  change ∀ W : BW W8.heap.size W8, W.val.cell? ⟨gc, 4, none⟩ = some (.int .u8 0) at kc2
  change ∀ W : BW W8.heap.size W8, W.val.cell? ⟨gc, 5, none⟩ = some (.string ⟨#[99, 32]⟩) at tc2
  have kf0 := fun W : BW W8.heap.size W8 => (FF.out W.val (a6.trans (W.ok.mono a6.size)) 0 (by decide)).1
  have tf0 := fun W : BW W8.heap.size W8 => (FF.out W.val (a6.trans (W.ok.mono a6.size)) 0 (by decide)).2
  change ∀ W : BW W8.heap.size W8, W.val.cell? ⟨gf, 0, none⟩ = some (.int .u8 2) at kf0
  change ∀ W : BW W8.heap.size W8, W.val.cell? ⟨gf, 1, none⟩ = some (.string ⟨#[]⟩) at tf0
  have kg0 := fun W : BW W8.heap.size W8 => (FG.out W.val (a7.trans (W.ok.mono a7.size)) 0 (by decide)).1
  have tg0 := fun W : BW W8.heap.size W8 => (FG.out W.val (a7.trans (W.ok.mono a7.size)) 0 (by decide)).2
  change ∀ W : BW W8.heap.size W8, W.val.cell? ⟨gg, 0, none⟩ = some (.int .u8 0) at kg0
  change ∀ W : BW W8.heap.size W8, W.val.cell? ⟨gg, 1, none⟩ = some (.string ⟨#[32]⟩) at tg0
  have kx := fun W : BW W8.heap.size W8 => (W.ok.cell (p := ⟨w7.heap.size, 0, none⟩) n1.lt).trans (n1.cell 0)
  have tx := fun W : BW W8.heap.size W8 => (W.ok.cell (p := ⟨w7.heap.size, 1, none⟩) n1.lt).trans (n1.cell 1)
  change ∀ W : BW W8.heap.size W8, W.val.cell? ⟨w7.heap.size, 0, none⟩ = some (.int .u8 1) at kx
  change ∀ W : BW W8.heap.size W8, W.val.cell? ⟨w7.heap.size, 1, none⟩ = some (.string ⟨#[32]⟩) at tx
  have ky := fun W : BW W8.heap.size W8 => (W.ok.cell (p := ⟨w7.heap.size + 1, 0, none⟩) n2.lt).trans (n2.cell 0)
  have ty := fun W : BW W8.heap.size W8 => (W.ok.cell (p := ⟨w7.heap.size + 1, 1, none⟩) n2.lt).trans (n2.cell 1)
  change ∀ W : BW W8.heap.size W8, W.val.cell? ⟨w7.heap.size + 1, 0, none⟩ = some (.int .u8 2) at ky
  change ∀ W : BW W8.heap.size W8, W.val.cell? ⟨w7.heap.size + 1, 1, none⟩ = some (.string ⟨#[]⟩) at ty
  have b18 : Below w.heap.size w W8 := b17.trans (b8.mono b17.size)
  have d8 := fun W : BW W8.heap.size W8 => c8 W.val (cell_later (b18.trans (W.ok.mono b18.size)) hm)
  have d9 := fun (t : ByteArray) (W : BW W8.heap.size W8) => word_any t W.val
  clear n1 n2 oa ob oc of_ og c1 c2 c3 c4 c5 c6 c7 c8
  refine wp_region_heldq W8.heap.size (by kernel_rfl) (lexB_last 42 0 (by decide) (by kernel_rfl)) ?_
  iterate 16 (first | go_big_quiet_step ((first | (go_at_call 22; exact held_calls (Nat.le_refl _) _ (d9 _ _)) | (go_at_call 11; exact held_calls (Nat.le_refl _) _ (d8 _)))) | quiet_step ((first | (go_at_call 22; exact held_calls (Nat.le_refl _) _ (d9 _ _)) | (go_at_call 11; exact held_calls (Nat.le_refl _) _ (d8 _)))))
  as_aux_lemma =>
    iterate 16 (first | go_big_quiet_step ((first | (go_at_call 22; exact held_calls (Nat.le_refl _) _ (d9 _ _)) | (go_at_call 11; exact held_calls (Nat.le_refl _) _ (d8 _)))) | quiet_step ((first | (go_at_call 22; exact held_calls (Nat.le_refl _) _ (d9 _ _)) | (go_at_call 11; exact held_calls (Nat.le_refl _) _ (d8 _)))))
    as_aux_lemma =>
      iterate 16 (first | go_big_quiet_step ((first | (go_at_call 22; exact held_calls (Nat.le_refl _) _ (d9 _ _)) | (go_at_call 11; exact held_calls (Nat.le_refl _) _ (d8 _)))) | quiet_step ((first | (go_at_call 22; exact held_calls (Nat.le_refl _) _ (d9 _ _)) | (go_at_call 11; exact held_calls (Nat.le_refl _) _ (d8 _)))))
      as_aux_lemma =>
        iterate 16 (first | go_big_quiet_step ((first | (go_at_call 22; exact held_calls (Nat.le_refl _) _ (d9 _ _)) | (go_at_call 11; exact held_calls (Nat.le_refl _) _ (d8 _)))) | quiet_step ((first | (go_at_call 22; exact held_calls (Nat.le_refl _) _ (d9 _ _)) | (go_at_call 11; exact held_calls (Nat.le_refl _) _ (d8 _)))))
        as_aux_lemma =>
          iterate 16 (first | go_big_quiet_step ((first | (go_at_call 22; exact held_calls (Nat.le_refl _) _ (d9 _ _)) | (go_at_call 11; exact held_calls (Nat.le_refl _) _ (d8 _)))) | quiet_step ((first | (go_at_call 22; exact held_calls (Nat.le_refl _) _ (d9 _ _)) | (go_at_call 11; exact held_calls (Nat.le_refl _) _ (d8 _)))))
          as_aux_lemma =>
            iterate 16 (first | go_big_quiet_step ((first | (go_at_call 22; exact held_calls (Nat.le_refl _) _ (d9 _ _)) | (go_at_call 11; exact held_calls (Nat.le_refl _) _ (d8 _)))) | quiet_step ((first | (go_at_call 22; exact held_calls (Nat.le_refl _) _ (d9 _ _)) | (go_at_call 11; exact held_calls (Nat.le_refl _) _ (d8 _)))))
            as_aux_lemma =>
              repeat (first | go_big_quiet_step ((first | (go_at_call 22; exact held_calls (Nat.le_refl _) _ (d9 _ _)) | (go_at_call 11; exact held_calls (Nat.le_refl _) _ (d8 _)))) | quiet_step ((first | (go_at_call 22; exact held_calls (Nat.le_refl _) _ (d9 _ _)) | (go_at_call 11; exact held_calls (Nat.le_refl _) _ (d8 _)))))
              refine wpQuiet_nil ?_
              rintro _ ⟨W9, rfl⟩
              go_wp2_with fail
              go_ret
              exact ⟨by first | rfl | simp, b18.trans (W9.ok.mono b18.size)⟩

end Go.Proofs.YtlfmeagdelmlpaaDoor
