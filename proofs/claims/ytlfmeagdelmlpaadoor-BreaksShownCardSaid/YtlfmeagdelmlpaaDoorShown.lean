/-
  Walks: breaks.Shown: what it answers.
-/
import Derived.Test.YtlfmeagdelmlpaaDoorCutK
namespace Go.Proofs.YtlfmeagdelmlpaaDoor
open Go.RowKit Go.Shelf

theorem owns_others {e b : Nat} {X Y : World} {base : Nat} {v : Value} {L : List Pc} {cs : Array Value} {T : TypeId} {fz : Nat × Nat} (h : OwnsP X base v L) (ho : Lib.OthersKept e (some b) X Y) (he : 26 ≠ e)
    (hb : X.heap[b]? = some (.cells cs T fz)) (hT : T ≠ 26) : OwnsP Y base v L := by
  obtain ⟨h1, h2⟩ := h
  refine ⟨h1, ?_⟩
  rcases h2 with h2 | ⟨g, cap, cur, rfl, hg, hk, r⟩
  · exact .inl h2
  · refine .inr ⟨g, cap, cur, rfl, hg, ho g _ hk (fun e' => ?_) (fun c fz' e' => ?_), r⟩
    · have := Option.some.inj e'
      subst this
      rw [hb] at hk
      injection hk with hk
      injection hk with _ hk
      exact hT hk
    · injection e' with _ e'
      exact he e'

def ShA (L : List Pc) (v : Value) (B base : Nat) (w : World) (i : Value) (wr : World) : Prop :=
  ∃ k : Nat, k ≤ L.length ∧ i = .int .i64 k ∧ Lib.IsBuilderF 40 5 B B (Lib.byteCells (shownR (L.take k))) wr ∧ OwnsP wr base v L ∧ Below B w wr

theorem shownR_take {L : List Pc} {k : Nat} (h : k < L.length) : shownR (L.take (k + 1)) = shownR (L.take k) ++ shownP L[k] := by rw [List.take_succ_eq_append_getElem h, shownR_snoc]
theorem bytes_app (a b : List UInt8) : Lib.byteCells (a ++ b) = Lib.byteCells a ++ Lib.byteCells b := by unfold Lib.byteCells; rw [List.map_append]
theorem cell_piece {w : World} {base : Nat} {v : Value} {L : List Pc} (h : OwnsP w base v L) {k : Nat} (hk : k < L.length) :
    ∃ g cap, v = .slice (some ⟨g, 0, none⟩) L.length cap ∧ w.cell? ⟨g, k * 2, none⟩ = some (.int .u8 ((L[k]).1 : Nat)) ∧ w.cell? ⟨g, k * 2 + 1, none⟩ = some (.string (mkB (L[k]).2)) := by
  rcases h.pieces with ⟨rfl, _⟩ | ⟨g, cap, e, _, _, _, _, hc, _⟩
  · simp at hk
  · exact ⟨g, cap, e, hc k hk⟩
theorem owns_form {w : World} {base : Nat} {v : Value} {L : List Pc} (h : OwnsP w base v L) : ∃ A c, v = .slice A L.length c := h.pieces.form

set_option maxRecDepth 100000 in
set_option maxHeartbeats 4000000 in
theorem shown_any (s : ByteArray) (hs : s.size ≤ 4000) (ws : Int) (m : Int) (w : World) (hm : w.cell? ⟨0, 0, none⟩ = some (.int .i64 m)) :
    Calls Tryd.prog 11 #[.string s, .int .u8 ws] w fun e w' => e = .returned (.string (mkB (shownR (cutR ws s.data.toList)))) ∧ Below w.heap.size w w' := by
  have hb0 : Below w.heap.size w (w.alloc (.cells #[.pointer none, .slice none 0 0] 40)) := (Below.refl _ w).alloc (Nat.le_refl _) _
  have hz0 : (w.alloc (.cells #[.pointer none, .slice none 0 0] 40)).heap.size = w.heap.size + 1 := by simp
  have bB : Lib.IsBuilderF 40 5 w.heap.size w.heap.size [] (w.alloc (.cells #[.pointer none, .slice none 0 0] 40)) :=
    .inl ⟨Nat.le_refl _, .slice none 0 0, heap_alloc_new w _, World.ownsRowF_nil _ _ _ _, by simp [Value.ownBlock]⟩
  have hcut := cut_any s hs ws m _ (cell_later hb0 hm)
  unfold CutPost at hcut
  rw [hz0] at hcut
  obtain ⟨b1, b2⟩ := cutR_bd ws s.data.toList
  rw [size_len] at b1 b2
  have hbd : ∀ k, (shownR ((cutR ws s.data.toList).take k)).length ≤ 8000 := fun k => by
    have h1 := shown_len ((cutR ws s.data.toList).take k)
    have h2 := sumL_le (L := cutR ws s.data.toList) k
    rw [List.length_take] at h1
    omega
  have htx : ∀ k (h : k < (cutR ws s.data.toList).length), ((cutR ws s.data.toList)[k]).2.length ≤ 4000 := fun k h => by
    have := text_le h
    omega
  have hLl : (cutR ws s.data.toList).length ≤ 4000 := by omega
  generalize cutR ws s.data.toList = L at *
  have HBD := Lib.hid hbd
  have HTX := Lib.hid htx
  clear hbd htx b1 b2
  go_enter Tryd.func11, Tryd.ntmps11
  go_wp2_with fail
  refine hcut.mono ?_
  rintro e w2 ⟨v, rfl, hown, hb1⟩
  have bB2 := isBuilder_below bB (by rw [hz0]; exact hb1)
  have hb2 : Below w.heap.size w w2 := hb0.trans (hb1.mono (by omega))
  obtain ⟨A, c, rfl⟩ := owns_form hown
  clear hcut bB hb0 hb1 hz0
  go_wp2_with fail
  go_loopw [12] (ShA L (.slice A L.length c) w.heap.size (w.heap.size + 1) w) (fun i _ => L.length - (intOf i).toNat)
  case atStart => exact ⟨0, by omega, rfl, bB2, hown, hb2⟩
  case round =>
    obtain ⟨k, hk, rfl, hB, ho, hbr⟩ := hrel
    have hsz := hbr.size
    by_cases hlt : k < L.length
    · obtain ⟨g, cap, e0, c0, c1⟩ := cell_piece ho hlt
      injection e0 with e1 _ e2
      subst e1 e2
      have HT := Lib.hid (shownR_take hlt)
      have ht4 := HTX.out k hlt
      have hb8 := HBD.out k
      generalize L[k] = p at *
      obtain ⟨pk, pt⟩ := p
      simp only at c0 c1 ht4
      generalize shownR (L.take k) = S at *
      have hB1 : Lib.IsBuilderF 40 5 w.heap.size w.heap.size (Lib.byteCells S) (wr.alloc (.cells #[.int .u8 (pk : Nat), .string (mkB pt)] 26)) := isBuilder_below hB ((Below.refl _ _).alloc (Nat.le_refl _) _)
      have ho1 : OwnsP (wr.alloc (.cells #[.int .u8 (pk : Nat), .string (mkB pt)] 26)) (w.heap.size + 1) (.slice (some ⟨g, 0, none⟩) L.length c) L := World.ownsRow.alloc ho _
      have hbW : Below w.heap.size w (wr.alloc (.cells #[.int .u8 (pk : Nat), .string (mkB pt)] 26)) := hbr.alloc hsz _
      have hcl : (Lib.byteCells S).length ≤ 8000 := by simpa [Lib.byteCells] using hb8
      have k0 := (Blk.new wr 26 #[.int .u8 (pk : Nat), .string (mkB pt)]).cell 0
      have k1 := (Blk.new wr 26 #[.int .u8 (pk : Nat), .string (mkB pt)]).cell 1
      have hNew := Lib.hid (Blk.new wr 26 #[.int .u8 (pk : Nat), .string (mkB pt)])
      have hsz1 : w.heap.size ≤ (wr.alloc (.cells #[.int .u8 (pk : Nat), .string (mkB pt)] 26)).heap.size := by simp; omega
      simp at k0 k1
      by_cases h2 : pk = 2
      · subst h2
        have HE := Lib.hid (show shownR (L.take (k + 1)) = S ++ [10] ++ pt by rw [HT.out]; simp [shownP])
        have hwb := Tryd.Builder_WriteByte_k w.heap.size w.heap.size _ 10 _ hB1 (by omega) hsz1
        go_wp2_with fail
        refine hwb.mono ?_
        rintro e w3 ⟨rfl, h1, h2, h3⟩
        have hB3 : Lib.IsBuilderF 40 5 w.heap.size w.heap.size (Lib.byteCells (S ++ [10])) w3 := .inr (by rw [bytes_app]; exact h1)
        obtain ⟨cs, hbk⟩ := isBuilder_block hB1
        have ho3 := owns_others ho1 h3 (by decide) hbk (by decide)
        have hN3 : Blk w3 wr.heap.size 26 #[.int .u8 ((2 : Nat) : Int), .string (mkB pt)] := h3 _ _ hNew.out (fun e => by have e' := Option.some.inj e; have := hbr.size; rw [← e'] at hbk; rw [show (wr.alloc _).heap[wr.heap.size]? = _ from hNew.out] at hbk; cases hbk) (fun c fz e => by cases e)
        have c3 := hN3.cell 1
        simp at c3
        have hbW3 : Below w.heap.size w w3 := hbW.trans h2
        have hws := Tryd.Builder_WriteString_k w.heap.size w.heap.size _ (mkB pt) w3 hB3 (by rw [bytes_app, List.length_append, mkB_size]; simp [Lib.byteCells] at hcl ⊢; omega) hbW3.size
        obtain ⟨cs3, hbk3⟩ := isBuilder_block hB3
        clear h1 h2 h3 hN3 k0 k1 c0 c1 hwb
        go_wp2_with fail
        refine hws.mono ?_
        rintro e w4 ⟨rfl, h1, h2, h3⟩
        have hB4 : Lib.IsBuilderF 40 5 w.heap.size w.heap.size (Lib.byteCells (S ++ [10] ++ pt)) w4 := .inr (by rw [bytes_app]; exact h1)
        have ho4 := owns_others ho3 h3 (by decide) hbk3 (by decide)
        clear h1 h3
        go_wp2_with fail
        go_roundw
        case rel => exact ⟨k + 1, by omega, by go_num, by rw [HE.out]; exact hB4, ho4, hbW3.trans h2⟩
        case measure => simp [intOf] <;> omega
      · have hne : (((pk : Nat) : Int) == 2) = false := by
          rw [beq_eq_false_iff_ne]
          omega
        have HE := Lib.hid (show shownR (L.take (k + 1)) = S ++ pt by rw [HT.out]; simp [shownP, h2])
        have hws := Tryd.Builder_WriteString_k w.heap.size w.heap.size _ (mkB pt) _ hB1 (by rw [mkB_size]; omega) hsz1
        obtain ⟨cs3, hbk3⟩ := isBuilder_block hB1
        clear h2
        go_wp2_with fail
        refine hws.mono ?_
        rintro e w4 ⟨rfl, h1, h2, h3⟩
        have hB4 : Lib.IsBuilderF 40 5 w.heap.size w.heap.size (Lib.byteCells (S ++ pt)) w4 := .inr (by rw [bytes_app]; exact h1)
        have ho4 := owns_others ho1 h3 (by decide) hbk3 (by decide)
        clear h1 h3
        go_wp2_with fail
        go_roundw
        case rel => exact ⟨k + 1, by omega, by go_num, by rw [HE.out]; exact hB4, ho4, hbW.trans h2⟩
        case measure => simp [intOf] <;> omega
    · obtain rfl : k = L.length := by omega
      rw [List.take_of_length_le (Nat.le_refl _)] at hB
      have hst := Tryd.Builder_String_any_k w.heap.size w.heap.size _ wr hB hsz
      clear hB
      go_wp2_with fail
      refine hst.mono ?_
      rintro e w4 ⟨rfl, _, h2, _⟩
      go_wp2_with fail
      go_ret
      exact ⟨rfl, hbr.trans h2⟩

end Go.Proofs.YtlfmeagdelmlpaaDoor
