/-
  Walks: windowpaneref09.Cut, byte by byte: what it answers.
-/
import Derived.Test.YtlfmeagdelmlpaaDoorShown
namespace Go.Proofs.YtlfmeagdelmlpaaDoor
open Go.RowKit Go.Shelf

theorem owns_last {w : World} {base : Nat} {v : Value} {M : List Pc} {p : Pc} (h : OwnsP w base v (M ++ [p])) :
    ∃ g cap, v = .slice (some ⟨g, 0, none⟩) (M.length + 1) cap ∧ base ≤ g ∧ w.cell? ⟨g, M.length * 2, none⟩ = some (.int .u8 (p.1 : Nat)) ∧ w.cell? ⟨g, M.length * 2 + 1, none⟩ = some (.string (mkB p.2)) ∧ w.frozen? ⟨g, M.length * 2 + 1, none⟩ = false := by
  rcases h.pieces with ⟨e, _⟩ | ⟨g, cap, e, _, h1, _, _, hc, hf⟩
  · simp at e
  · obtain ⟨c0, c1⟩ := hc M.length (by simp)
    rw [List.length_append] at e
    rw [List.getElem_append_right (Nat.le_refl _)] at c0 c1
    simp at c0 c1
    exact ⟨g, cap, e, h1, c0, c1, hf _⟩
theorem OwnsP.setLast {w : World} {base g cap : Nat} {M : List Pc} {k : Nat} {t : List UInt8} (h : OwnsP w base (.slice (some ⟨g, 0, none⟩) (M.length + 1) cap) (M ++ [(k, t)])) (t' : List UInt8) :
    OwnsP (w.setCell ⟨g, M.length * 2 + 1, none⟩ (.string (mkB t'))) base (.slice (some ⟨g, 0, none⟩) (M.length + 1) cap) (M ++ [(k, t')]) := by
  have hl : (M ++ [(k, t)]).length = M.length + 1 := by simp
  have h2 : OwnsP w base (.slice (some ⟨g, 0, none⟩) (M ++ [(k, t)]).length cap) (M ++ [(k, t)]) := by rw [hl]; exact h
  have h3 := h2.setText (k := M.length) (by rw [hl]; omega) t'
  have e : (M ++ [(k, t)]).set M.length (((M ++ [(k, t)])[M.length]'(by rw [hl]; omega)).1, t') = M ++ [(k, t')] := by
    rw [List.getElem_append_right (Nat.le_refl _), List.set_append_right _ _ (Nat.le_refl _)]
    simp
  rw [e, hl] at h3
  exact h3
theorem turns_last {L : List Pc} (h : Turns L) : L = [] ∨ (∃ M, L = M ++ [(1, [32])]) ∨ ∃ M t, L = M ++ [(0, t)] := by
  cases h with
  | nil => exact .inl rfl
  | blank _ _ => exact .inr (.inl ⟨_, rfl⟩)
  | word _ _ _ _ => exact .inr (.inr ⟨_, _, rfl⟩)
theorem ends_last {L : List Pc} (h : Ends L) : L = [] ∨ (∃ M, L = M ++ [(2, [])]) ∨ ∃ M t, L = M ++ [(0, t)] := by
  cases h with
  | nil => exact .inl rfl
  | hard _ => exact .inr (.inl ⟨_, rfl⟩)
  | word _ _ _ _ => exact .inr (.inr ⟨_, _, rfl⟩)

def RcA (f : List UInt8 → List Pc) (s : ByteArray) (B : Nat) (w : World) (v i : Value) (wr : World) : Prop :=
  ∃ k : Nat, k ≤ s.size ∧ i = .int .i64 k ∧ OwnsP wr B v (f (s.data.toList.take k)) ∧ Below B w wr

set_option maxRecDepth 100000 in
set_option maxHeartbeats 4000000 in
theorem rcut_normal (s : ByteArray) (hs : s.size ≤ 4000) (w : World) : Calls Tryd.prog 8 #[.string s, .int .u8 0] w (CutPost 0 s w) := by
  go_enter Tryd.func8, Tryd.ntmps8
  go_wp2_with fail
  go_loopw [5, 6] (RcA cutN s w.heap.size w) (fun _ i _ => s.size - (intOf i).toNat)
  case atStart => exact ⟨0, by omega, rfl, OwnsP.nil _ _, Below.refl _ _⟩
  case round =>
    obtain ⟨k, hk, rfl, ho, hbr⟩ := hrel
    have hsz := hbr.size
    by_cases hlt : k < s.size
    · have hlt' : k < s.data.toList.length := by simpa using hlt
      have hbl := (cutN_bd (s.data.toList.take k)).2
      rw [List.length_take, size_len] at hbl
      have hl47 : (cutN (s.data.toList.take k)).length < 9000 := by omega
      have hsum := (cutN_bd (s.data.toList.take k)).1
      rw [List.length_take, size_len] at hsum
      have hst := cutN_take hlt'
      rw [get_len hlt] at hst
      have HX := Lib.hid (extract_one hlt)
      have hbk := fun w => rblank_any s[k] w
      have htl := turns_last (turns_cut (s.data.toList.take k))
      clear hbl
      have HNx : ∀ {L'}, stepN (cutN (s.data.toList.take k)) s[k] = L' → Hid (cutN (s.data.toList.take (k + 1)) = L') := fun h => Lib.hid (hst.trans h)
      clear hst
      generalize cutN (s.data.toList.take k) = L at *
      cases hb : isB s[k] with
      | true =>
        rw [hb] at hbk
        rcases htl with rfl | ⟨M, rfl⟩ | ⟨M, t, rfl⟩
        · have HN := HNx (stepN_blank hb rfl)
          obtain ⟨A, c, rfl⟩ := owns_form ho
          clear hb HNx
          go_wp2_with (first | ((with_reducible refine (hbk _).mono ?_); rintro e w5 ⟨rfl, rfl⟩) | (at_builtin; refine append_piece _ (1, [32]) _ _ rfl rfl rfl _ _ rfl w.heap.size _ [] rfl ho rfl (by decide) hsz ?_; intro v3 w3 ho3 hb3))
          go_roundw
          case rel => exact ⟨k + 1, by omega, by go_num, by rw [HN.out]; exact ho3, hbr.trans hb3⟩
          case measure => simp [intOf]; omega
        · have HN := HNx (stepN_again hb (by rw [lastK_snoc]; rfl))
          obtain ⟨g, cap, rfl, hg, c0, c1, cf⟩ := owns_last ho
          simp only at c0
          have hm : M.length < 9000 := by simp at hl47; omega
          clear hb HNx
          go_wp2_with (first | ((with_reducible refine (hbk _).mono ?_); rintro e w5 ⟨rfl, rfl⟩))
          go_roundw
          case rel => exact ⟨k + 1, by omega, by go_num, by rw [HN.out]; exact ho, hbr⟩
          case measure => simp [intOf]; omega
        · have HN := HNx (stepN_blank hb (by rw [lastK_snoc]; rfl))
          obtain ⟨g, cap, rfl, hg, c0, c1, cf⟩ := owns_last ho
          simp only at c0
          have hm : M.length < 9000 := by simp at hl47; omega
          have hl48 : (M ++ [((0, t) : Pc)]).length < 1000000 := by omega
          clear hb HNx
          go_wp2_with (first | ((with_reducible refine (hbk _).mono ?_); rintro e w5 ⟨rfl, rfl⟩) | (at_builtin; refine append_piece _ (1, [32]) _ _ rfl rfl rfl _ _ rfl w.heap.size _ (M ++ [(0, t)]) rfl ho rfl hl48 hsz ?_; intro v3 w3 ho3 hb3))
          go_roundw
          case rel => exact ⟨k + 1, by omega, by go_num, by rw [HN.out]; exact ho3, hbr.trans hb3⟩
          case measure => simp [intOf]; omega
      | false =>
        rw [hb] at hbk
        rcases htl with rfl | ⟨M, rfl⟩ | ⟨M, t, rfl⟩
        · have HN := HNx (stepN_word hb rfl)
          obtain ⟨A, c, rfl⟩ := owns_form ho
          clear hb HNx
          go_wp2_with (first | ((with_reducible refine (hbk _).mono ?_); rintro e w5 ⟨rfl, rfl⟩) | (at_builtin; refine append_piece _ (0, [s[k]]) _ _ rfl (congrArg Value.string HX.out) rfl _ _ rfl w.heap.size _ [] rfl ho rfl (by decide) hsz ?_; intro v3 w3 ho3 hb3))
          go_roundw
          case rel => exact ⟨k + 1, by omega, by go_num, by rw [HN.out]; exact ho3, hbr.trans hb3⟩
          case measure => simp [intOf]; omega
        · have HN := HNx (stepN_word hb (by rw [lastK_snoc]; rfl))
          obtain ⟨g, cap, rfl, hg, c0, c1, cf⟩ := owns_last ho
          simp only at c0
          have hm : M.length < 9000 := by simp at hl47; omega
          have hl48 : (M ++ [((1, [32]) : Pc)]).length < 1000000 := by omega
          clear hb HNx
          go_wp2_with (first | ((with_reducible refine (hbk _).mono ?_); rintro e w5 ⟨rfl, rfl⟩) | (at_builtin; refine append_piece _ (0, [s[k]]) _ _ rfl (congrArg Value.string HX.out) rfl _ _ rfl w.heap.size _ (M ++ [(1, [32])]) rfl ho rfl hl48 hsz ?_; intro v3 w3 ho3 hb3))
          go_roundw
          case rel => exact ⟨k + 1, by omega, by go_num, by rw [HN.out]; exact ho3, hbr.trans hb3⟩
          case measure => simp [intOf]; omega
        · have HN := HNx (by rw [stepN_on hb (by rw [lastK_snoc]; rfl), addLast_snoc])
          obtain ⟨g, cap, rfl, hg, c0, c1, cf⟩ := owns_last ho
          simp only at c0 c1
          have hm : M.length < 9000 := by simp at hl47; omega
          have hmt : (mkB t).size ≤ 4000 := by rw [sumL_snoc] at hsum; rw [mkB_size]; simp only at hsum; omega
          clear hb HNx
          go_wp2_with (first | ((with_reducible refine (hbk _).mono ?_); rintro e w5 ⟨rfl, rfl⟩))
          go_roundw
          case rel => exact ⟨k + 1, by omega, by go_num, by rw [HN.out, HX.out, mkB_append]; exact ho.setLast _, hbr.setCell (p := ⟨g, _, none⟩) hg _⟩
          case measure => simp [intOf]; omega
    · obtain rfl : k = s.size := by omega
      go_wp2_with fail
      go_ret
      refine ⟨_, rfl, ?_, hbr⟩
      rw [List.take_of_length_le (by simp)] at ho
      exact ho

end Go.Proofs.YtlfmeagdelmlpaaDoor
