/-
  Walk: the law BreaksEnds.
-/
import Derived.Test.YtlfmeagdelmlpaaDoorTurns09
namespace Go.Proofs.YtlfmeagdelmlpaaDoor
open Go.RowKit Go.Shelf

def EnA (l : List UInt8) (n i : Value) : Prop := ∃ k : Nat, k ≤ l.length ∧ i = .int .i64 k ∧ n = .int .i64 (tens (l.take k) : Nat)
def EnB (T : Nat) (L : List Pc) (n all i : Value) : Prop := ∃ k : Nat, k ≤ L.length ∧ i = .int .i64 k ∧ n = .int .i64 ((T : Int) - (hards (L.take k) : Nat)) ∧ all = .int .i64 (sumL (L.take k) : Nat)
def EnC (n : Nat) (i : Value) : Prop := ∃ j : Nat, j ≤ n ∧ i = .int .i64 j
theorem hards_mono (L : List Pc) (k : Nat) : hards (L.take k) ≤ hards L := by
  conv => rhs; rw [← List.take_append_drop k L]
  unfold hards
  rw [List.countP_append]
  omega
theorem get_mkB {t : List UInt8} {j : Nat} (h : j < (mkB t).size) : (mkB t)[j] = t[j]'(by rw [mkB_size] at h; exact h) := by
  have := get_len h
  rw [← this]
  rfl

set_option maxRecDepth 100000 in
set_option maxHeartbeats 4000000 in
theorem ends_law (s : ByteArray) (m : Int) (w : World) (hm : w.cell? ⟨0, 0, none⟩ = some (.int .i64 m)) (hr : s.size ≤ 9223372036854775807) :
    LawReturns 6 #[.string s] w := by
  unfold LawReturns
  have haw := awake09 m w hm
  by_cases hl : 3000 < s.size
  · go_enter Tryd.func6, Tryd.ntmps6
    go_wp2_with fail
    refine haw.mono ?_
    rintro e w0 ⟨rfl, hb0⟩
    go_wp2_with fail
    go_ret
    exact ⟨rfl, hb0⟩
  · have hc := fun W h => cut_any s (by omega) 2 m W h
    unfold CutPost at hc
    have hE := (ends_cut s.data.toList).at
    obtain ⟨hh1, hh2, hh3⟩ := hards_cut s.data.toList
    rw [size_len] at hh2 hh3
    have htx : ∀ k (h : k < (cutK s.data.toList).length), ((cutK s.data.toList)[k]).2.length ≤ 3000 := fun k h => by
      have := text_le h
      omega
    have hLl : (cutK s.data.toList).length ≤ 3000 := by omega
    have hTl := tens_le s.data.toList
    rw [size_len] at hTl
    have htt := fun k => tens_le (s.data.toList.take k)
    change ∀ W, _ → Calls _ _ _ _ fun e w' => ∃ v, e = .returned v ∧ OwnsP w' W.heap.size v (cutK s.data.toList) ∧ Below W.heap.size W w' at hc
    generalize cutK s.data.toList = L at *
    have hbh := fun k => hards_mono L k
    have hbs := fun k => sumL_le (L := L) k
    have HEE := Lib.hid hE
    have HTX := Lib.hid htx
    have HBH := Lib.hid hbh
    have HBS := Lib.hid hbs
    have HTT := Lib.hid htt
    have HT1 := Lib.hid hh1
    have HT2 := Lib.hid hh2
    have HSL := Lib.hid (size_len s)
    clear hE htx hbh hbs htt hh1 hh2
    go_enter Tryd.func6, Tryd.ntmps6
    go_wp2_with fail
    refine haw.mono ?_
    rintro e w0 ⟨rfl, hb0⟩
    have hc0 := hc w0 (cell_later hb0 hm)
    clear hc haw
    go_wp2_with fail
    refine hc0.mono ?_
    rintro e w1 ⟨v, rfl, ho, hb1⟩
    have hb01 := below_of hb0 hb1 (Nat.le_refl _)
    obtain ⟨A, c, rfl⟩ := owns_form ho
    clear hc0
    go_wp2_with fail
    go_loop [4, 6] (EnA s.data.toList) (fun _ i => s.size - (intOf i).toNat)
    case atStart => exact ⟨0, by omega, rfl, rfl⟩
    case round =>
      obtain ⟨k, hk, rfl, rfl⟩ := hrel
      rw [HSL.out] at hk
      have ht3 := HTT.out k
      rw [List.length_take, HSL.out] at ht3
      have ht4 : tens (s.data.toList.take k) ≤ 3000 := by omega
      clear ht3
      by_cases hlt : k < s.size
      · have hlt' : k < s.data.toList.length := by rw [HSL.out]; exact hlt
        have hst := tens_take hlt'
        rw [get_len hlt] at hst
        have htn := ten_int s[k]
        generalize tens (s.data.toList.take k) = x at *
        cases hb : (s[k] == 10) with
        | true =>
          rw [hb] at htn
          rw [if_pos (by simpa using hb)] at hst
          have HN := Lib.hid hst
          clear hst hb
          go_wp2_with fail
          go_round
          case rel => exact ⟨k + 1, hlt', by go_num, by rw [HN.out]; go_num⟩
          case measure => simp [intOf]; omega
        | false =>
          rw [hb] at htn
          rw [if_neg (by simpa using hb)] at hst
          have HN := Lib.hid hst
          clear hst hb
          go_wp2_with fail
          go_round
          case rel => exact ⟨k + 1, hlt', by go_num, by rw [HN.out]; rfl⟩
          case measure => simp [intOf]; omega
      · obtain rfl : k = s.size := by omega
        have HF := Lib.hid (List.take_of_length_le (show s.data.toList.length ≤ s.size by rw [HSL.out]; exact Nat.le_refl _))
        rw [HF.out] at ht4 ⊢
        generalize hTT : tens s.data.toList = T at *
        have HTN := Lib.hid hTT
        clear hTT
        go_wp2_with fail
        go_loop [4, 5, 7, 8] (fun n all i _ => EnB T L n all i) (fun _ _ i _ => L.length - (intOf i).toNat)
        case atStart => exact ⟨0, by omega, rfl, by simp [hards], rfl⟩
        case round =>
          obtain ⟨k, hk, rfl, rfl, rfl⟩ := hrel
          have hh5 := HBH.out k
          have hs5 := HBS.out k
          have hT1 := HT1.out
          have hT2 := HT2.out
          by_cases hlt : k < L.length
          · obtain ⟨g, cap, e0, hcs⟩ := owns_cells ho (by omega)
            injection e0 with e1 _ e2
            subst e1 e2
            obtain ⟨c0, c1⟩ := hcs w1 (Below.refl _ _) k hlt
            have hk1 := HEE.out k hlt
            have hpl := HTX.out k hlt
            have HC := Lib.hid hcs
            have hst1 := hards_take hlt
            have hst2 := sumL_take hlt
            clear hcs
            have hx1 : hards (L.take k) ≤ 3000 := by omega
            have hx2 : sumL (L.take k) ≤ 3000 := by omega
            have hx3 : hards (L.take k) ≤ T := by omega
            clear hh5 hs5 hT1 hT2
            rcases Nat.eq_zero_or_pos k with h0 | h0
            · subst h0
              generalize L[0] = p at *
              obtain ⟨pk, pt⟩ := p
              simp only at c0 c1 hk1 hpl hst1 hst2
              rcases hk1 with ⟨rfl, rfl⟩ | ⟨rfl, hne, hno, _⟩
              · have c1' : w1.cell? ⟨g, 0 * 2 + 1, none⟩ = some (.string ⟨#[]⟩) := c1
                have H1 := Lib.hid (show hards (L.take (0 + 1)) = hards (L.take 0) + 1 by rw [hst1]; rfl)
                have H2 := Lib.hid (show sumL (L.take (0 + 1)) = sumL (L.take 0) by rw [hst2]; rfl)
                simp only [Nat.zero_mul, Nat.zero_add] at c0 c1'
                clear c1 hst1 hst2
                generalize hards (L.take 0) = x at *
                generalize sumL (L.take 0) = y at *
                go_wp2_with fail
                go_round
                case rel => exact ⟨1, by omega, by go_num, by rw [H1.out]; go_num, by rw [H2.out]⟩
                case measure => simp [intOf] <;> omega
              · obtain ⟨q1, q2⟩ := toList_ne hne
                have H1 := Lib.hid (show hards (L.take (0 + 1)) = hards (L.take 0) by rw [hst1]; rfl)
                have H2 := Lib.hid hst2
                have HM := Lib.hid hno
                have HPS := Lib.hid (mkB_size pt).symm
                have hps : (mkB pt).size ≤ 3000 := by rw [mkB_size]; exact hpl
                simp only [Nat.zero_mul, Nat.zero_add] at c0 c1
                clear hst1 hst2 hne hno
                generalize hards (L.take 0) = x at *
                generalize sumL (L.take 0) = y at *
                go_wp2_with fail
                go_loop [8] (EnC (mkB pt).size) (fun i => (mkB pt).size - (intOf i).toNat)
                case atStart => exact ⟨0, Nat.zero_le _, rfl⟩
                case round =>
                  obtain ⟨j, hj, rfl⟩ := hrel
                  by_cases hjl : j < (mkB pt).size
                  · have htn := ten_int (mkB pt)[j]
                    rw [show ((mkB pt)[j] == 10) = false by
                      rw [get_mkB hjl, beq_eq_false_iff_ne]
                      exact fun e => HM.out (e ▸ List.getElem_mem _)] at htn
                    go_wp2_with fail
                    go_round
                    case rel => exact ⟨j + 1, hjl, by go_num⟩
                    case measure => simp [intOf]; omega
                  · obtain rfl : j = (mkB pt).size := by omega
                    go_wp2_with fail
                    go_round
                    case rel => exact ⟨0 + 1, by omega, by go_num, by rw [H1.out], by rw [H2.out, HPS.out]; go_num⟩
                    case measure => simp [intOf] <;> omega
            · obtain ⟨j0, rfl⟩ : ∃ j0, k = j0 + 1 := ⟨k - 1, by omega⟩
              have hjl0 : j0 < L.length := by omega
              obtain ⟨d0, _⟩ := HC.out w1 (Below.refl _ _) j0 hjl0
              have hj1 := HEE.out j0 hjl0
              replace hk1 := hk1.imp id (fun ⟨a, b, c, d⟩ => And.intro a (And.intro b (And.intro c (d h0))))
              simp only [Nat.add_sub_cancel] at hk1
              generalize L[j0 + 1] = p at *
              generalize L[j0] = q at *
              obtain ⟨pk, pt⟩ := p
              obtain ⟨qk, qt⟩ := q
              simp only at c0 c1 d0 hk1 hj1 hpl hst1 hst2
              rcases hk1 with ⟨rfl, rfl⟩ | ⟨rfl, hne, hno, hpv⟩
              · have c1' : w1.cell? ⟨g, (j0 + 1) * 2 + 1, none⟩ = some (.string ⟨#[]⟩) := c1
                have H1 := Lib.hid (show hards (L.take (j0 + 1 + 1)) = hards (L.take (j0 + 1)) + 1 by rw [hst1]; rfl)
                have H2 := Lib.hid (show sumL (L.take (j0 + 1 + 1)) = sumL (L.take (j0 + 1)) by rw [hst2]; rfl)
                clear c1 hst1 hst2 d0 hj1
                generalize hards (L.take (j0 + 1)) = x at *
                generalize sumL (L.take (j0 + 1)) = y at *
                go_wp2_with fail
                go_round
                case rel => exact ⟨j0 + 1 + 1, by omega, by go_num, by rw [H1.out]; go_num, by rw [H2.out]⟩
                case measure => simp [intOf] <;> omega
              · obtain rfl : qk = 2 := by
                  rcases hj1 with ⟨h, _⟩ | ⟨h, _⟩
                  · exact h
                  · exact absurd h hpv
                obtain ⟨q1, q2⟩ := toList_ne hne
                have H1 := Lib.hid (show hards (L.take (j0 + 1 + 1)) = hards (L.take (j0 + 1)) by rw [hst1]; rfl)
                have H2 := Lib.hid hst2
                have HM := Lib.hid hno
                have HPS := Lib.hid (mkB_size pt).symm
                have hps : (mkB pt).size ≤ 3000 := by rw [mkB_size]; exact hpl
                clear hst1 hst2 hne hno hj1 hpv
                generalize hards (L.take (j0 + 1)) = x at *
                generalize sumL (L.take (j0 + 1)) = y at *
                go_wp2_with fail
                go_loop [8] (EnC (mkB pt).size) (fun i => (mkB pt).size - (intOf i).toNat)
                case atStart => exact ⟨0, Nat.zero_le _, rfl⟩
                case round =>
                  obtain ⟨j, hj, rfl⟩ := hrel
                  by_cases hjl : j < (mkB pt).size
                  · have htn := ten_int (mkB pt)[j]
                    rw [show ((mkB pt)[j] == 10) = false by
                      rw [get_mkB hjl, beq_eq_false_iff_ne]
                      exact fun e => HM.out (e ▸ List.getElem_mem _)] at htn
                    go_wp2_with fail
                    go_round
                    case rel => exact ⟨j + 1, hjl, by go_num⟩
                    case measure => simp [intOf]; omega
                  · obtain rfl : j = (mkB pt).size := by omega
                    go_wp2_with fail
                    go_round
                    case rel => exact ⟨j0 + 1 + 1, by omega, by go_num, by rw [H1.out], by rw [H2.out, HPS.out]; go_num⟩
                    case measure => simp [intOf] <;> omega
          · obtain rfl : k = L.length := by omega
            rw [List.take_of_length_le (Nat.le_refl _)]
            have e0 : (T : Int) - (hards L : Nat) = 0 := by omega
            rw [e0]
            have hx2 : sumL L ≤ 3000 := by omega
            have hh6 := hards_le L
            have hx3 : (s.size : Int) ≤ (sumL L : Int) + (L.length : Int) := by omega
            have hx4 : (sumL L : Int) ≤ (s.size : Int) := by omega
            clear hh5 hs5 hT1 hT2 e0 hh6
            generalize sumL L = y at *
            go_wp2_with fail
            go_ret
            exact ⟨by simp_all, hb01⟩

end Go.Proofs.YtlfmeagdelmlpaaDoor
