/-
  Walks: windowpaneref09.Shown, Same; windowpanelaw09.bare: what they answer.
-/
import Derived.Test.YtlfmeagdelmlpaaDoorRefCut2
namespace Go.Proofs.YtlfmeagdelmlpaaDoor
open Go.RowKit Go.Shelf

/-- Only draws lie between. -/
def QuietP (w w' : World) : Prop := ∃ n, w' = w.drewN n
theorem QuietP.refl (w : World) : QuietP w w := ⟨0, rfl⟩
theorem QuietP.below {w w' : World} (h : QuietP w w') (B : Nat) : Below B w w' := by
  obtain ⟨m, rfl⟩ := h
  exact below_drewN (Below.refl _ _) m

def RhA (L : List Pc) (out i : Value) : Prop := ∃ k : Nat, k ≤ L.length ∧ i = .int .i64 k ∧ out = .string (mkB (shownR (L.take k)))

set_option maxRecDepth 100000 in
set_option maxHeartbeats 4000000 in
theorem rshown_any (s : ByteArray) (hs : s.size ≤ 4000) (ws : Int) (w : World) :
    Calls Tryd.prog 12 #[.string s, .int .u8 ws] w fun e w' => e = .returned (.string (mkB (shownR (cutR ws s.data.toList)))) ∧ Below w.heap.size w w' := by
  have hcut := rcut_any s hs ws w
  unfold CutPost at hcut
  obtain ⟨b1, b2⟩ := cutR_bd ws s.data.toList
  rw [size_len] at b1 b2
  have hbd : ∀ k, (shownR ((cutR ws s.data.toList).take k)).length ≤ 8000 := fun k => by
    have h1 := shown_len ((cutR ws s.data.toList).take k)
    have h2 := sumL_le (L := cutR ws s.data.toList) k
    rw [List.length_take] at h1
    omega
  have htx : ∀ k (h : k < (cutR ws s.data.toList).length), ((cutR ws s.data.toList)[k]).2.length ≤ 4000 := fun k h => by
    have := text_le h
    omega
  have hLl : (cutR ws s.data.toList).length ≤ 4000 := by omega
  generalize cutR ws s.data.toList = L at *
  have HBD := Lib.hid hbd
  have HTX := Lib.hid htx
  clear hbd htx b1 b2
  go_enter Tryd.func12, Tryd.ntmps12
  go_wp2_with fail
  refine hcut.mono ?_
  rintro e w2 ⟨v, rfl, ho, hb1⟩
  obtain ⟨A, c, rfl⟩ := owns_form ho
  clear hcut
  go_wp2_with fail
  go_loop [6, 7] (RhA L) (fun _ i => L.length - (intOf i).toNat)
  case atStart => exact ⟨0, by omega, rfl, rfl⟩
  case round =>
    obtain ⟨k, hk, rfl, rfl⟩ := hrel
    by_cases hlt : k < L.length
    · obtain ⟨g, cap, e0, c0, c1⟩ := cell_piece ho hlt
      injection e0 with e1 _ e2
      subst e1 e2
      have HT := Lib.hid (shownR_take hlt)
      have ht4 := HTX.out k hlt
      have hb8 := HBD.out k
      generalize L[k] = p at *
      obtain ⟨pk, pt⟩ := p
      simp only at c0 c1 ht4
      generalize shownR (L.take k) = S at *
      have z1 : (mkB S).size ≤ 8000 := by rw [mkB_size]; exact hb8
      have z2 : (mkB pt).size ≤ 4000 := by rw [mkB_size]; exact ht4
      by_cases h2 : pk = 2
      · subst h2
        have HE := Lib.hid (show shownR (L.take (k + 1)) = S ++ [10] ++ pt by rw [HT.out]; simp [shownP])
        go_wp2_with fail
        go_round
        case rel => exact ⟨k + 1, by omega, by go_num, by rw [HE.out, show (⟨#[10]⟩ : ByteArray) = mkB [10] from rfl, mkB_append, mkB_append]⟩
        case measure => simp [intOf]; omega
      · have hne : (((pk : Nat) : Int) == 2) = false := by
          rw [beq_eq_false_iff_ne]
          omega
        have HE := Lib.hid (show shownR (L.take (k + 1)) = S ++ pt by rw [HT.out]; simp [shownP, h2])
        clear h2
        go_wp2_with fail
        go_round
        case rel => exact ⟨k + 1, by omega, by go_num, by rw [HE.out, mkB_append]⟩
        case measure => simp [intOf]; omega
    · obtain rfl : k = L.length := by omega
      rw [List.take_of_length_le (Nat.le_refl _)]
      go_wp2_with fail
      go_ret
      exact ⟨rfl, hb1⟩

def SpA (n : Nat) (w : World) (i : Value) (wr : World) : Prop := ∃ k : Nat, k ≤ n ∧ i = .int .i64 k ∧ QuietP w wr

set_option maxRecDepth 100000 in
set_option maxHeartbeats 4000000 in
/-- The same pieces are the same. -/
theorem rsame_pieces (L : List Pc) (v u : Value) (lo hi lo' hi' : Nat) (w : World) (h : PiecesIn w lo hi v L) (h' : PiecesIn w lo' hi' u L) (hm : L.length ≤ 1000000) :
    Calls Tryd.prog 10 #[v, u] w fun e w' => e = .returned (.bool true) ∧ QuietP w w' := by
  rcases h with ⟨rfl, A, c, rfl⟩ | ⟨g, cap, rfl, h0, _, _, hc, hcs, _⟩
  · rcases h' with ⟨_, A', c', rfl⟩ | ⟨g', cap', _, h0, _⟩
    · go_enter Tryd.func10, Tryd.ntmps10
      go_wp2_with fail
      go_loopw [5] (SpA 0 w) (fun _ _ => 0)
      case atStart => exact ⟨0, by omega, rfl, QuietP.refl _⟩
      case round =>
        obtain ⟨i, hi, rfl, mo, rfl⟩ := hrel
        obtain rfl : i = 0 := by omega
        go_wp2_with fail
        go_ret
        exact ⟨rfl, _, rfl⟩
    · simp at h0
  · rcases h' with ⟨rfl, _⟩ | ⟨g', cap', rfl, _, _, _, hc', hcs', _⟩
    · simp at h0
    · go_enter Tryd.func10, Tryd.ntmps10
      go_wp2_with fail
      go_loopw [5] (SpA L.length w) (fun i _ => L.length - (intOf i).toNat)
      case atStart => exact ⟨0, by omega, rfl, QuietP.refl _⟩
      case round =>
        obtain ⟨i, hi, rfl, mo, rfl⟩ := hrel
        by_cases hli : i < L.length
        · obtain ⟨a1, a2⟩ := hcs i hli
          obtain ⟨b1, b2⟩ := hcs' i hli
          have HC := Lib.hid hcs
          have HC' := Lib.hid hcs'
          clear hcs hcs'
          generalize (L[i]).1 = x at *
          generalize mkB (L[i]).2 = y at *
          go_wp2_with fail
          go_quiet (fail)
          go_wp2_with fail
          go_roundw
          case rel => exact ⟨i + 1, hli, by go_num, _, rfl⟩
          case measure => simp [intOf]; omega
        · obtain rfl : i = L.length := by omega
          clear hcs hcs'
          go_wp2_with fail
          go_ret
          exact ⟨rfl, _, rfl⟩

def BaA (s : ByteArray) (out i : Value) : Prop := ∃ k : Nat, k ≤ s.size ∧ i = .int .i64 k ∧ out = .string (mkB (bareR (s.data.toList.take k)))

set_option maxRecDepth 100000 in
set_option maxHeartbeats 4000000 in
theorem bare_any (s : ByteArray) (hs : s.size ≤ 4000) (w : World) :
    Calls Tryd.prog 14 #[.string s] w fun e w' => e = .returned (.string (mkB (bareR s.data.toList))) ∧ w = w' := by
  go_enter Tryd.func14, Tryd.ntmps14
  go_wp2_with fail
  go_loop [3, 4] (BaA s) (fun _ i => s.size - (intOf i).toNat)
  case atStart => exact ⟨0, by omega, rfl, rfl⟩
  case round =>
    obtain ⟨k, hk, rfl, rfl⟩ := hrel
    by_cases hlt : k < s.size
    · have hlt' : k < s.data.toList.length := by simpa using hlt
      have hst := bare_take hlt'
      rw [get_len hlt] at hst
      have HX := Lib.hid (extract_one hlt)
      have hl : (mkB (bareR (s.data.toList.take k))).size ≤ 4000 := by
        rw [mkB_size]
        have : (bareR (s.data.toList.take k)).length ≤ (s.data.toList.take k).length := List.length_filter_le _ _
        rw [List.length_take, size_len] at this
        omega
      have hb := isB_int s[k]
      generalize bareR (s.data.toList.take k) = S at *
      cases h1 : (((s[k].toNat : Nat) : Int) == 32) with
      | true =>
        rw [h1, Bool.true_or] at hb
        rw [hb] at hst
        have HN := Lib.hid hst
        have h1' : (((s[k].toNat : Nat) : Int) != 32) = false := by unfold bne; rw [h1]; rfl
        clear hst hb
        go_wp2_with fail
        go_round
        case rel => exact ⟨k + 1, by omega, by go_num, by rw [HN.out]; simp⟩
        case measure => simp [intOf]; omega
      | false =>
        rw [h1, Bool.false_or] at hb
        have h1' : (((s[k].toNat : Nat) : Int) != 32) = true := by unfold bne; rw [h1]; rfl
        cases h2 : (((s[k].toNat : Nat) : Int) == 10) with
        | true =>
          rw [h2] at hb
          rw [hb] at hst
          have HN := Lib.hid hst
          have h2' : (((s[k].toNat : Nat) : Int) != 10) = false := by unfold bne; rw [h2]; rfl
          clear hst hb
          go_wp2_with fail
          go_round
          case rel => exact ⟨k + 1, by omega, by go_num, by rw [HN.out]; simp⟩
          case measure => simp [intOf]; omega
        | false =>
          rw [h2] at hb
          rw [hb] at hst
          have HN := Lib.hid hst
          have h2' : (((s[k].toNat : Nat) : Int) != 10) = true := by unfold bne; rw [h2]; rfl
          clear hst hb
          go_wp2_with fail
          go_round
          case rel => exact ⟨k + 1, by omega, by go_num, by rw [HN.out, HX.out, mkB_append]; simp⟩
          case measure => simp [intOf]; omega
    · obtain rfl : k = s.size := by omega
      rw [List.take_of_length_le (by simp)]
      go_wp2_with fail
      go_ret
      exact ⟨rfl, rfl⟩

end Go.Proofs.YtlfmeagdelmlpaaDoor
