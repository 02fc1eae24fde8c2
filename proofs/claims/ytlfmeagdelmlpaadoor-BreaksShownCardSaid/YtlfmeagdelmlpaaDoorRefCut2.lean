/-
  Walks: windowpaneref09.Cut of WsStay, WsKeep, any other Ws.
-/
import Derived.Test.YtlfmeagdelmlpaaDoorRefCut
namespace Go.Proofs.YtlfmeagdelmlpaaDoor
open Go.RowKit Go.Shelf

theorem owns_single {w : World} {base : Nat} {v : Value} {k : Nat} {t : List UInt8} (h : OwnsP w base v [(k, t)]) :
    ∃ g cap, v = .slice (some ⟨g, 0, none⟩) 1 cap ∧ base ≤ g ∧ w.cell? ⟨g, 0, none⟩ = some (.int .u8 (k : Nat)) ∧ w.cell? ⟨g, 1, none⟩ = some (.string (mkB t)) ∧ w.frozen? ⟨g, 1, none⟩ = false ∧
      ∀ t', OwnsP (w.setCell ⟨g, 1, none⟩ (.string (mkB t'))) base (.slice (some ⟨g, 0, none⟩) 1 cap) [(k, t')] := by
  have h' : OwnsP w base v ([] ++ [(k, t)]) := h
  obtain ⟨g, cap, rfl, hg, c0, c1, cf⟩ := owns_last h'
  simp only [List.length_nil, Nat.zero_mul, Nat.zero_add] at c0 c1 cf
  refine ⟨g, cap, rfl, hg, c0, c1, cf, fun t' => ?_⟩
  exact OwnsP.setLast (M := []) h' t'

def RsA (s : ByteArray) (B : Nat) (w : World) (v i : Value) (wr : World) : Prop :=
  ∃ k : Nat, k ≤ s.size ∧ i = .int .i64 k ∧ OwnsP wr B v (if k = 0 then [] else [(0, nrm false (s.data.toList.take k))]) ∧ Below B w wr

set_option maxRecDepth 100000 in
set_option maxHeartbeats 4000000 in
theorem rcut_stay (s : ByteArray) (hs : s.size ≤ 4000) (w : World) : Calls Tryd.prog 8 #[.string s, .int .u8 1] w (CutPost 1 s w) := by
  go_enter Tryd.func8, Tryd.ntmps8
  go_wp2_with fail
  go_loopw [5, 6] (RsA s w.heap.size w) (fun _ i _ => s.size - (intOf i).toNat)
  case atStart => exact ⟨0, by omega, rfl, OwnsP.nil _ _, Below.refl _ _⟩
  case round =>
    obtain ⟨k, hk, rfl, ho, hbr⟩ := hrel
    have hsz := hbr.size
    by_cases hlt : k < s.size
    · have hlt' : k < s.data.toList.length := by simpa using hlt
      have hst := nrm_take hlt'
      rw [get_len hlt] at hst
      have HX := Lib.hid (extract_one hlt)
      have hbk := fun w => rblank_any s[k] w
      rcases Nat.eq_zero_or_pos k with h0 | h0
      · subst h0
        rw [if_pos rfl] at ho
        obtain ⟨A, c, rfl⟩ := owns_form ho
        have hm0 : (mkB []).size ≤ 4000 := by decide
        have HX0 : Hid (s.extract 0 1 = mkB [s[0]]) := HX
        have hst0 : nrm false (s.data.toList.take 1) = if isB s[0] then ([32] : List UInt8) else [s[0]] := by rw [hst]; simp [nrm, lastB]
        clear hst
        cases hb : isB s[0] with
        | true =>
          rw [hb] at hbk hst0
          have HN := Lib.hid hst0
          clear hb hst0
          go_wp2_with (first | ((with_reducible refine (hbk _).mono ?_); rintro e w5 ⟨rfl, rfl⟩) | (at_builtin; refine append_piece _ (0, []) _ _ rfl rfl rfl _ _ rfl w.heap.size _ [] rfl ho rfl (by decide) hsz ?_; intro v3 w3 ho3 hb3; obtain ⟨g3, cap3, rfl, hg3, c0, c1, cf, hset⟩ := owns_single ho3; have HS := Lib.hid hset; clear hset))
          go_roundw
          case rel => exact ⟨1, by omega, by go_num, by rw [if_neg (by decide), HN.out]; exact HS.out [32], (hbr.trans hb3).setCell (p := ⟨g3, _, none⟩) hg3 _⟩
          case measure => simp [intOf]; omega
        | false =>
          rw [hb] at hbk hst0
          have HN := Lib.hid hst0
          clear hb hst0
          go_wp2_with (first | ((with_reducible refine (hbk _).mono ?_); rintro e w5 ⟨rfl, rfl⟩) | (at_builtin; refine append_piece _ (0, []) _ _ rfl rfl rfl _ _ rfl w.heap.size _ [] rfl ho rfl (by decide) hsz ?_; intro v3 w3 ho3 hb3; obtain ⟨g3, cap3, rfl, hg3, c0, c1, cf, hset⟩ := owns_single ho3; have HS := Lib.hid hset; clear hset))
          go_roundw
          case rel => exact ⟨1, by omega, by go_num, by rw [if_neg (by decide), HN.out, HX0.out, mkB_append]; exact HS.out [s[0]], (hbr.trans hb3).setCell (p := ⟨g3, _, none⟩) hg3 _⟩
          case measure => simp [intOf]; omega
      · obtain ⟨j, rfl⟩ : ∃ j, k = j + 1 := ⟨k - 1, by omega⟩
        rw [if_neg (by omega)] at ho
        have hltj : j < s.size := by omega
        have hlb := lastB_take (l := s.data.toList) (k := j + 1) (by omega) (by omega) false
        have hgj : s.data.toList[j + 1 - 1]'(by simp; omega) = s[j] := by simp only [Nat.add_sub_cancel]; exact get_len hltj
        rw [hgj] at hlb
        rw [hlb] at hst
        have hbj := fun w => rblank_any s[j] w
        have hTl := nrm_len (s.data.toList.take (j + 1)) false
        rw [List.length_take, size_len] at hTl
        clear hlb hgj h0
        generalize nrm false (s.data.toList.take (j + 1)) = T at *
        obtain ⟨g, cap, rfl, hg, c0, c1, cf, hset⟩ := owns_single ho
        have HS := Lib.hid hset
        have hmt : (mkB T).size ≤ 4000 := by rw [mkB_size]; omega
        clear hset hTl
        cases hb : isB s[j + 1] with
        | true =>
          rw [hb] at hbk hst
          cases hb2 : isB s[j] with
          | true =>
            rw [hb2] at hbj hst
            have HN := Lib.hid hst
            clear hb hb2 hst
            go_wp2_with (first | ((with_reducible refine (hbk _).mono ?_); rintro e w5 ⟨rfl, rfl⟩) | ((with_reducible refine (hbj _).mono ?_); rintro e w5 ⟨rfl, rfl⟩))
            go_roundw
            case rel => exact ⟨j + 1 + 1, by omega, by go_num, by rw [if_neg (by omega), HN.out]; simpa using ho, hbr⟩
            case measure => simp [intOf]; omega
          | false =>
            rw [hb2] at hbj hst
            have HN := Lib.hid hst
            clear hb hb2 hst
            go_wp2_with (first | ((with_reducible refine (hbk _).mono ?_); rintro e w5 ⟨rfl, rfl⟩) | ((with_reducible refine (hbj _).mono ?_); rintro e w5 ⟨rfl, rfl⟩))
            go_roundw
            case rel => exact ⟨j + 1 + 1, by omega, by go_num, by rw [if_neg (by omega), HN.out]; exact HS.out (T ++ [32]), hbr.setCell (p := ⟨g, _, none⟩) hg _⟩
            case measure => simp [intOf]; omega
        | false =>
          rw [hb] at hbk hst
          have HN := Lib.hid hst
          clear hb hst
          go_wp2_with (first | ((with_reducible refine (hbk _).mono ?_); rintro e w5 ⟨rfl, rfl⟩))
          go_roundw
          case rel => exact ⟨j + 1 + 1, by omega, by go_num, by rw [if_neg (by omega), HN.out, HX.out, mkB_append]; exact HS.out (T ++ [s[j + 1]]), hbr.setCell (p := ⟨g, _, none⟩) hg _⟩
          case measure => simp [intOf]; omega
    · obtain rfl : k = s.size := by omega
      go_wp2_with fail
      go_ret
      refine ⟨_, rfl, ?_, hbr⟩
      show OwnsP _ _ _ (cutS _)
      unfold cutS
      rw [List.take_of_length_le (by simp)] at ho
      by_cases h0 : s.size = 0
      · rw [if_pos h0] at ho
        rw [if_pos (List.eq_nil_of_length_eq_zero (by simpa using h0))]
        exact ho
      · rw [if_neg h0] at ho
        rw [if_neg (fun e => h0 (by rw [← size_len, e]; rfl))]
        exact ho

theorem ten_int (c : UInt8) : (((c.toNat : Nat) : Int) == 10) = (c == 10) := by
  rw [show (10 : Int) = ((10 : Nat) : Int) from rfl, eq32 c 10 (by decide)]
  rfl

set_option maxRecDepth 100000 in
set_option maxHeartbeats 4000000 in
theorem rcut_keep (s : ByteArray) (hs : s.size ≤ 4000) (w : World) : Calls Tryd.prog 8 #[.string s, .int .u8 2] w (CutPost 2 s w) := by
  go_enter Tryd.func8, Tryd.ntmps8
  go_wp2_with fail
  go_loopw [5, 6] (RcA cutK s w.heap.size w) (fun _ i _ => s.size - (intOf i).toNat)
  case atStart => exact ⟨0, by omega, rfl, OwnsP.nil _ _, Below.refl _ _⟩
  case round =>
    obtain ⟨k, hk, rfl, ho, hbr⟩ := hrel
    have hsz := hbr.size
    by_cases hlt : k < s.size
    · have hlt' : k < s.data.toList.length := by simpa using hlt
      have hcb := hards_cut (s.data.toList.take k)
      have hbl := hcb.2.2
      rw [List.length_take, size_len] at hbl
      have hl47 : (cutK (s.data.toList.take k)).length < 9000 := by omega
      have hsum : sumL (cutK (s.data.toList.take k)) ≤ 4000 := by
        have := hcb.2.1
        rw [List.length_take, size_len] at this
        omega
      have hst := cutK_take hlt'
      rw [get_len hlt] at hst
      have HX := Lib.hid (extract_one hlt)
      have htn := ten_int s[k]
      have htl := ends_last (ends_cut (s.data.toList.take k))
      clear hbl hcb
      have HNx : ∀ {L'}, stepK (cutK (s.data.toList.take k)) s[k] = L' → Hid (cutK (s.data.toList.take (k + 1)) = L') := fun h => Lib.hid (hst.trans h)
      clear hst
      generalize cutK (s.data.toList.take k) = L at *
      cases hb : (s[k] == 10) with
      | true =>
        rw [hb] at htn
        have HN := HNx (stepK_end hb)
        have hl48 : L.length < 1000000 := by omega
        obtain ⟨A, c, rfl⟩ := owns_form ho
        clear hb HNx htl
        go_wp2_with (at_builtin; refine append_piece _ (2, []) _ _ rfl rfl rfl _ _ rfl w.heap.size _ L rfl ho rfl hl48 hsz ?_; intro v3 w3 ho3 hb3)
        go_roundw
        case rel => exact ⟨k + 1, by omega, by go_num, by rw [HN.out]; exact ho3, hbr.trans hb3⟩
        case measure => simp [intOf]; omega
      | false =>
        rw [hb] at htn
        rcases htl with rfl | ⟨M, rfl⟩ | ⟨M, t, rfl⟩
        · have HN := HNx (stepK_word hb rfl)
          obtain ⟨A, c, rfl⟩ := owns_form ho
          clear hb HNx
          go_wp2_with (at_builtin; refine append_piece _ (0, [s[k]]) _ _ rfl (congrArg Value.string HX.out) rfl _ _ rfl w.heap.size _ [] rfl ho rfl (by decide) hsz ?_; intro v3 w3 ho3 hb3)
          go_roundw
          case rel => exact ⟨k + 1, by omega, by go_num, by rw [HN.out]; exact ho3, hbr.trans hb3⟩
          case measure => simp [intOf]; omega
        · have HN := HNx (stepK_word hb (by rw [lastK_snoc]; rfl))
          obtain ⟨g, cap, rfl, hg, c0, c1, cf⟩ := owns_last ho
          simp only at c0
          have hm : M.length < 9000 := by simp at hl47; omega
          have hl48 : (M ++ [((2, []) : Pc)]).length < 1000000 := by omega
          clear hb HNx
          go_wp2_with (at_builtin; refine append_piece _ (0, [s[k]]) _ _ rfl (congrArg Value.string HX.out) rfl _ _ rfl w.heap.size _ (M ++ [(2, [])]) rfl ho rfl hl48 hsz ?_; intro v3 w3 ho3 hb3)
          go_roundw
          case rel => exact ⟨k + 1, by omega, by go_num, by rw [HN.out]; exact ho3, hbr.trans hb3⟩
          case measure => simp [intOf]; omega
        · have HN := HNx (by rw [stepK_on hb (by rw [lastK_snoc]; rfl), addLast_snoc])
          obtain ⟨g, cap, rfl, hg, c0, c1, cf⟩ := owns_last ho
          simp only at c0 c1
          have hm : M.length < 9000 := by simp at hl47; omega
          have hmt : (mkB t).size ≤ 4000 := by rw [sumL_snoc] at hsum; rw [mkB_size]; simp only at hsum; omega
          clear hb HNx
          go_wp2_with fail
          go_roundw
          case rel => exact ⟨k + 1, by omega, by go_num, by rw [HN.out, HX.out, mkB_append]; exact ho.setLast _, hbr.setCell (p := ⟨g, _, none⟩) hg _⟩
          case measure => simp [intOf]; omega
    · obtain rfl : k = s.size := by omega
      go_wp2_with fail
      go_ret
      refine ⟨_, rfl, ?_, hbr⟩
      rw [List.take_of_length_le (by simp)] at ho
      exact ho

def RoA (s : ByteArray) (v i : Value) : Prop := ∃ k : Nat, v = .slice none 0 0 ∧ k ≤ s.size ∧ i = .int .i64 k
set_option maxRecDepth 100000 in
set_option maxHeartbeats 4000000 in
theorem rcut_none (s : ByteArray) (hs : s.size ≤ 4000) (ws : Int) (h0 : ws ≠ 0) (h1 : ws ≠ 1) (h2 : ws ≠ 2) (w : World) : Calls Tryd.prog 8 #[.string s, .int .u8 ws] w (CutPost ws s w) := by
  have e0 : (ws == 0) = false := by simpa using h0
  have e1 : (ws == 1) = false := by simpa using h1
  have e2 : (ws == 2) = false := by simpa using h2
  have HE := Lib.hid (show cutR ws s.data.toList = [] by unfold cutR; rw [if_neg h0, if_neg h1, if_neg h2])
  clear h0 h1 h2
  go_enter Tryd.func8, Tryd.ntmps8
  go_wp2_with fail
  go_loop [5, 6] (RoA s) (fun _ i => s.size - (intOf i).toNat)
  case atStart => exact ⟨0, rfl, by omega, rfl⟩
  case round =>
    obtain ⟨k, rfl, hk, rfl⟩ := hrel
    by_cases hlt : k < s.size
    · go_wp2_with fail
      go_round
      case rel => exact ⟨k + 1, rfl, by omega, by go_num⟩
      case measure => simp [intOf]; omega
    · obtain rfl : k = s.size := by omega
      go_wp2_with fail
      go_ret
      exact ⟨_, rfl, by rw [HE.out]; exact OwnsP.nil _ _, Below.refl _ _⟩

/-- windowpaneref09.Cut, of any Ws. -/
theorem rcut_any (s : ByteArray) (hs : s.size ≤ 4000) (ws : Int) (w : World) : Calls Tryd.prog 8 #[.string s, .int .u8 ws] w (CutPost ws s w) := by
  by_cases h0 : ws = 0
  · subst h0; exact rcut_normal s hs w
  · by_cases h1 : ws = 1
    · subst h1; exact rcut_stay s hs w
    · by_cases h2 : ws = 2
      · subst h2; exact rcut_keep s hs w
      · exact rcut_none s hs ws h0 h1 h2 w

end Go.Proofs.YtlfmeagdelmlpaaDoor
