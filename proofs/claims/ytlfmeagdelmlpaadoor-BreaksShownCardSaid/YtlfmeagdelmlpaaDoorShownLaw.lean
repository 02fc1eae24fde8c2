/-
  Walk: the law BreaksShown.
-/
import Derived.Test.YtlfmeagdelmlpaaDoorTurns09
namespace Go.Proofs.YtlfmeagdelmlpaaDoor
open Go.RowKit Go.Shelf

def SwA (n : Nat) (i : Value) : Prop := ∃ k : Nat, i = .int .i64 k ∧ (k = 0 ∨ k + 1 ≤ n)
theorem mkB_toL (t : List UInt8) : (mkB t).toList = t := by rw [Go.Lib.toList_data]; rfl
theorem get_mkB2 {t : List UInt8} {j : Nat} (h : j < (mkB t).size) : (mkB t)[j] = t[j]'(by rw [mkB_size] at h; exact h) := by
  rw [← get_len h]
  rfl
theorem n32_int (c : UInt8) : (((c.toNat : Nat) : Int) == 32) = (c == 32) := by
  rw [show (32 : Int) = ((32 : Nat) : Int) from rfl, eq32 c 32 (by decide)]
  rfl

set_option maxRecDepth 100000 in
set_option maxHeartbeats 4000000 in
theorem shown_law (s : ByteArray) (ws m : Int) (w : World) (hm : w.cell? ⟨0, 0, none⟩ = some (.int .i64 m)) (hr : s.size ≤ 9223372036854775807) (hws : 0 ≤ ws) :
    LawReturns 4 #[.string s, .int .u8 ws] w := by
  unfold LawReturns
  have haw := awake09 m w hm
  by_cases hl : 3000 < s.size
  · go_enter Tryd.func4, Tryd.ntmps4
    go_wp2_with fail
    refine haw.mono ?_
    rintro e w0 ⟨rfl, hb0⟩
    go_wp2_with fail
    go_ret
    exact ⟨rfl, hb0⟩
  · have hsz : s.size ≤ 4000 := by omega
    have hsh := fun ws W h => shown_any s hsz ws m W h
    by_cases h3 : 2 < ws
    · have hc := fun W h => cut_any s hsz ws m W h
      unfold CutPost at hc
      have e0 : cutR ws s.data.toList = [] := by unfold cutR; rw [if_neg (by omega), if_neg (by omega), if_neg (by omega)]
      have h1 := hsh ws
      rw [e0] at h1 hc
      have e1 : mkB (shownR []) = ⟨#[]⟩ := rfl
      rw [e1] at h1
      clear hsh e0 e1
      go_enter Tryd.func4, Tryd.ntmps4
      go_wp2_with fail
      refine haw.mono ?_
      rintro e w0 ⟨rfl, hb0⟩
      have d1 := h1 w0 (cell_later hb0 hm)
      clear h1 haw
      go_wp2_with fail
      refine d1.mono ?_
      rintro e w1 ⟨rfl, hb1⟩
      have b01 := below_of hb0 hb1 (Nat.le_refl _)
      have d2 := hc w1 (cell_later b01 hm)
      clear d1 hc
      go_wp2_with fail
      refine d2.mono ?_
      rintro e w2 ⟨v, rfl, ho, hb2⟩
      obtain ⟨A, c, rfl⟩ := owns_form ho
      have b02 := below_of b01 hb2 (Nat.le_refl _)
      clear d2
      go_wp2_with fail
      go_ret
      exact ⟨by first | rfl | simp, b02⟩
    · obtain ⟨t, ht⟩ : ∃ t, shownR (cutR ws s.data.toList) = t := ⟨_, rfl⟩
      -- what is told of t
      have hn0 : shownR (cutR 0 s.data.toList) = nrm false s.data.toList := shown_N _
      have hn1 : shownR (cutR 1 s.data.toList) = nrm false s.data.toList := shown_S _
      have hcase : (ws = 2 ∧ t = s.data.toList) ∨ (ws ≠ 2 ∧ t = nrm false s.data.toList) := by
        have : ws = 0 ∨ ws = 1 ∨ ws = 2 := by omega
        rcases this with rfl | rfl | rfl
        · exact .inr ⟨by omega, ht.symm.trans hn0⟩
        · exact .inr ⟨by omega, ht.symm.trans hn1⟩
        · exact .inl ⟨rfl, ht.symm.trans (shown_K _)⟩
      have hag : shownR (cutR ws t) = t := by
        have : ws = 0 ∨ ws = 1 ∨ ws = 2 := by omega
        rcases this with rfl | rfl | rfl
        · rcases hcase with ⟨h, _⟩ | ⟨_, h⟩
          · omega
          · subst h; exact (shown_N _).trans (nrm_nrm _ _)
        · rcases hcase with ⟨h, _⟩ | ⟨_, h⟩
          · omega
          · subst h; exact (shown_S _).trans (nrm_nrm _ _)
        · exact shown_K _
      have hbare : bareR t = bareR s.data.toList := by
        rcases hcase with ⟨_, rfl⟩ | ⟨_, rfl⟩
        · rfl
        · exact bare_nrm _ _
      have htl : t.length ≤ 3000 := by
        rcases hcase with ⟨_, rfl⟩ | ⟨_, rfl⟩
        · simp; omega
        · have := nrm_len s.data.toList false
          rw [size_len] at this
          omega
      have htz : (mkB t).size = t.length := mkB_size t
      have h1 := hsh ws
      have h4 := hsh 0
      have h5 := hsh 1
      rw [ht] at h1
      rw [hn0] at h4
      rw [hn1] at h5
      have h2 := fun W h => shown_any (mkB t) (by omega) ws m W h
      rw [mkB_toList, hag] at h2
      have k1 := fun W => bare_any (mkB t) (by omega) W
      rw [mkB_toList, hbare] at k1
      have k2 := fun W => bare_any s hsz W
      have hts : (mkB t).size ≤ 3000 := by omega
      have HTZ := Lib.hid htz
      clear hsh ht hn0 hn1 hag hbare htl htz
      generalize mkB (bareR s.data.toList) = bs at *
      generalize mkB (nrm false s.data.toList) = ns at *
      rcases hcase with ⟨rfl, ht2⟩ | ⟨hw2, ht2⟩
      · have et : mkB t = s := by rw [ht2]; rfl
        rw [et] at h1 h2 k1 hts
        clear ht2 et
        go_enter Tryd.func4, Tryd.ntmps4
        go_wp2_with fail
        refine haw.mono ?_
        rintro e w0 ⟨rfl, hb0⟩
        have d1 := h1 w0 (cell_later hb0 hm)
        clear h1 haw
        go_wp2_with fail
        refine d1.mono ?_
        rintro e w1 ⟨rfl, hb1⟩
        have b01 := below_of hb0 hb1 (Nat.le_refl _)
        have d2 := h2 w1 (cell_later b01 hm)
        clear d1 h2
        go_wp2_with fail
        refine d2.mono ?_
        rintro e w2 ⟨rfl, hb2⟩
        have b02 := below_of b01 hb2 (Nat.le_refl _)
        have d3 := k1 w2
        have d4 := k2 w2
        clear d2 k1 k2
        go_wp2_with fail
        refine d3.mono ?_
        rintro e w3 ⟨rfl, rfl⟩
        clear d3
        go_wp2_with fail
        refine d4.mono ?_
        rintro e w3 ⟨rfl, rfl⟩
        clear d4
        have d5 := h4 w2 (cell_later b02 hm)
        clear h4
        go_wp2_with fail
        refine d5.mono ?_
        rintro e w4 ⟨rfl, hb4⟩
        have b04 := below_of b02 hb4 (Nat.le_refl _)
        have d6 := h5 w4 (cell_later b04 hm)
        clear d5 h5
        go_wp2_with fail
        refine d6.mono ?_
        rintro e w5 ⟨rfl, hb5⟩
        have b05 := below_of b04 hb5 (Nat.le_refl _)
        clear d6
        go_wp2_with fail
        go_loop [6] (fun i => i = .int .i64 0) (fun _ => 0)
        case atStart => rfl
        case round =>
          subst hrel
          by_cases h1s : 1 < s.size
          all_goals
            go_wp2_with fail
            go_ret
            exact ⟨rfl, b05⟩
      · have hten : 10 ∉ t := by rw [ht2]; exact nrm_ten _ _
        have hap : apartR t := by rw [ht2]; exact (nrm_apart _ _).1
        have h01 : ws = 0 ∨ ws = 1 := by omega
        have HTE := Lib.hid hten
        have HAP := Lib.hid hap
        clear ht2 hten hap hw2
        rcases h01 with rfl | rfl
        all_goals
          go_enter Tryd.func4, Tryd.ntmps4
          go_wp2_with fail
          refine haw.mono ?_
          rintro e w0 ⟨rfl, hb0⟩
          have d1 := h1 w0 (cell_later hb0 hm)
          clear h1 haw
          go_wp2_with fail
          refine d1.mono ?_
          rintro e w1 ⟨rfl, hb1⟩
          have b01 := below_of hb0 hb1 (Nat.le_refl _)
          have d2 := h2 w1 (cell_later b01 hm)
          clear d1 h2
          go_wp2_with fail
          refine d2.mono ?_
          rintro e w2 ⟨rfl, hb2⟩
          have b02 := below_of b01 hb2 (Nat.le_refl _)
          have d3 := k1 w2
          have d4 := k2 w2
          clear d2 k1 k2
          go_wp2_with fail
          refine d3.mono ?_
          rintro e w3 ⟨rfl, rfl⟩
          clear d3
          go_wp2_with fail
          refine d4.mono ?_
          rintro e w3 ⟨rfl, rfl⟩
          clear d4
          have d5 := h4 w2 (cell_later b02 hm)
          clear h4
          go_wp2_with fail
          refine d5.mono ?_
          rintro e w4 ⟨rfl, hb4⟩
          have b04 := below_of b02 hb4 (Nat.le_refl _)
          have d6 := h5 w4 (cell_later b04 hm)
          clear d5 h5
          go_wp2_with fail
          refine d6.mono ?_
          rintro e w5 ⟨rfl, hb5⟩
          have b05 := below_of b04 hb5 (Nat.le_refl _)
          clear d6
          go_wp2_with fail
          go_loop [6] (SwA (mkB t).size) (fun i => (mkB t).size - (intOf i).toNat)
          case atStart => exact ⟨0, rfl, .inl rfl⟩
          case round =>
            obtain ⟨k, rfl, hk⟩ := hrel
            have hk3 : k ≤ 3000 := by omega
            by_cases hlt : k + 1 < (mkB t).size
            · have hlt0 : k < (mkB t).size := by omega
              have hltI : (k : Int) + 1 < ((mkB t).size : Int) := by omega
              have f1 := ten_int (mkB t)[k]
              have f2 := ten_int (mkB t)[k + 1]
              have f3 := n32_int (mkB t)[k]
              have f4 := n32_int (mkB t)[k + 1]
              rw [show ((mkB t)[k] == 10) = false by
                rw [get_mkB2 hlt0, beq_eq_false_iff_ne]
                exact fun e => HTE.out (e ▸ List.getElem_mem _)] at f1
              rw [show ((mkB t)[k + 1] == 10) = false by
                rw [get_mkB2 hlt, beq_eq_false_iff_ne]
                exact fun e => HTE.out (e ▸ List.getElem_mem _)] at f2
              have hno := apart_at HAP.out (show k + 1 < t.length by rw [← HTZ.out]; exact hlt)
              rw [← get_mkB2 hlt0, ← get_mkB2 hlt] at hno
              cases h32 : ((mkB t)[k] == 32) with
              | true =>
                rw [h32] at f3
                rw [show ((mkB t)[k + 1] == 32) = false by
                  rw [beq_eq_false_iff_ne]
                  exact fun e => hno ⟨by simpa using h32, e⟩] at f4
                clear hno h32 hk
                go_wp2_with fail
                go_round
                case rel => exact ⟨k + 1, by go_num, .inr (by omega)⟩
                case measure => simp [intOf]; omega
              | false =>
                rw [h32] at f3
                clear hno h32 hk f4
                go_wp2_with fail
                go_round
                case rel => exact ⟨k + 1, by go_num, .inr (by omega)⟩
                case measure => simp [intOf]; omega
            · have hlt2 : ((mkB t).size : Int) ≤ (k : Int) + 1 := by omega
              clear hk
              go_wp2_with fail
              go_ret
              exact ⟨rfl, b05⟩

end Go.Proofs.YtlfmeagdelmlpaaDoor
