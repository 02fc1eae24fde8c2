/-
  Walk: the law BreaksTurns.
-/
import Derived.Test.YtlfmeagdelmlpaaDoorAwake09
import Derived.Test.YtlfmeagdelmlpaaDoorLiftL
namespace Go.Proofs.YtlfmeagdelmlpaaDoor
open Go.RowKit Go.Shelf

def TnA (n : Nat) (w1 : World) (i : Value) (wr : World) : Prop := ∃ k : Nat, k ≤ n ∧ i = .int .i64 k ∧ Below w1.heap.size w1 wr
theorem toList_ne {t : List UInt8} (h : t ≠ []) : (mkB t).toList.isEmpty = false ∧ ¬ (mkB t).toList = [] := by
  have e : (mkB t).toList = t := by rw [Go.Lib.toList_data]; rfl
  rw [e]
  exact ⟨by simpa using h, h⟩

set_option maxRecDepth 100000 in
set_option maxHeartbeats 4000000 in
theorem turns_law (s : ByteArray) (m : Int) (w : World) (hm : w.cell? ⟨0, 0, none⟩ = some (.int .i64 m)) (hr : s.size ≤ 9223372036854775807) :
    LawReturns 5 #[.string s] w := by
  unfold LawReturns
  have haw := awake09 m w hm
  by_cases hl : 3000 < s.size
  · go_enter Tryd.func5, Tryd.ntmps5
    go_wp2_with fail
    refine haw.mono ?_
    rintro e w0 ⟨rfl, hb0⟩
    go_wp2_with fail
    go_ret
    exact ⟨rfl, hb0⟩
  · have hc := fun W h => cut_any s (by omega) 0 m W h
    unfold CutPost at hc
    have hT := (turns_cut s.data.toList).at
    have hnil : cutN s.data.toList = [] ↔ s.data.toList = [] := cutN_nil
    have hbd := cutN_bd s.data.toList
    rw [size_len] at hbd
    have htx : ∀ k (h : k < (cutN s.data.toList).length), ((cutN s.data.toList)[k]).2.length ≤ 3000 := fun k h => by
      have := text_le h
      omega
    have hLl : (cutN s.data.toList).length ≤ 3000 := by omega
    have hse : s.toList.isEmpty = decide (s.data.toList = []) := by rw [Go.Lib.toList_data]; cases s.data.toList <;> rfl
    change ∀ W, _ → Calls _ _ _ _ fun e w' => ∃ v, e = .returned v ∧ OwnsP w' W.heap.size v (cutN s.data.toList) ∧ Below W.heap.size W w' at hc
    generalize cutN s.data.toList = L at *
    have HTT := Lib.hid hT
    have HTX := Lib.hid htx
    have HN := Lib.hid hnil
    have HSE := Lib.hid hse
    clear hT htx hnil hse hbd
    go_enter Tryd.func5, Tryd.ntmps5
    go_wp2_with fail
    refine haw.mono ?_
    rintro e w0 ⟨rfl, hb0⟩
    have hc0 := hc w0 (cell_later hb0 hm)
    clear hc haw
    go_wp2_with fail
    refine hc0.mono ?_
    rintro e w1 ⟨v, rfl, ho, hb1⟩
    have hb01 := below_of hb0 hb1 (Nat.le_refl _)
    obtain ⟨A, c, rfl⟩ := owns_form ho
    clear hc0
    go_wp2_with fail
    go_loopw [4] (TnA L.length w1) (fun i _ => L.length - (intOf i).toNat)
    case atStart => exact ⟨0, by omega, rfl, Below.refl _ _⟩
    case round =>
      obtain ⟨k, hk, rfl, hbr⟩ := hrel
      by_cases hlt : k < L.length
      · obtain ⟨g, cap, e0, hcs⟩ := owns_cells ho (by omega)
        injection e0 with e1 _ e2
        subst e1 e2
        obtain ⟨c0, c1⟩ := hcs wr hbr k hlt
        obtain ⟨hk1, hk2⟩ := HTT.out k hlt
        have hpl := HTX.out k hlt
        have HC := Lib.hid hcs
        clear hcs
        rcases Nat.eq_zero_or_pos k with h0 | h0
        · subst h0
          clear hk2
          generalize L[0] = p at *
          obtain ⟨pk, pt⟩ := p
          simp only at c0 c1 hk1 hpl
          rcases hk1 with ⟨rfl, rfl⟩ | ⟨rfl, hne, hbe⟩
          · have c1' : wr.cell? ⟨g, 0 * 2 + 1, none⟩ = some (.string ⟨#[32]⟩) := c1
            simp only [Nat.zero_mul, Nat.zero_add] at c0 c1'
            clear c1
            go_wp2_with fail
            go_quiet (fail)
            go_wp2_with fail
            go_roundw
            case rel => exact ⟨1, by omega, by go_num, below_drewN (hbr.alloc hbr.size _) _⟩
            case measure => simp [intOf] <;> omega
          · have hb := fun w => bare_any (mkB pt) (by rw [mkB_size]; omega) w
            simp only [mkB_toList, hbe] at hb
            obtain ⟨q1, q2⟩ := toList_ne hne
            simp only [Nat.zero_mul, Nat.zero_add] at c0 c1
            clear hne hbe
            go_wp2_with fail
            go_quiet ((go_at_call 14; first | exact quiet_left (hb _) | exact quiet_add_left (hb _)))
            go_wp2_with fail
            go_roundw
            case rel => exact ⟨1, by omega, by go_num, below_drewN (hbr.alloc hbr.size _) _⟩
            case measure => simp [intOf] <;> omega
        · obtain ⟨j, rfl⟩ : ∃ j, k = j + 1 := ⟨k - 1, by omega⟩
          have hjl : j < L.length := by omega
          have hd := fun o => (HC.out (wr.alloc o) (hbr.alloc hbr.size o) j hjl).1
          obtain ⟨hj1, _⟩ := HTT.out j hjl
          have hne := hk2 h0
          simp only [Nat.add_sub_cancel] at hne
          clear hk2
          generalize L[j + 1] = p at *
          generalize L[j] = q at *
          obtain ⟨pk, pt⟩ := p
          obtain ⟨qk, qt⟩ := q
          simp only at c0 c1 hd hk1 hj1 hne hpl
          have w1' : IntKind.i64.wrap (j : Int) = (j : Int) := by rw [IntKind.wrap_i64]; omega
          have hj0 : (0 : Int) < ((j + 1 : Nat) : Int) := by omega
          have hjI : (j : Int) < (L.length : Int) := by omega
          rcases hk1 with ⟨rfl, rfl⟩ | ⟨rfl, hne2, hbe⟩
          · obtain rfl : qk = 0 := by
              rcases hj1 with ⟨h, _⟩ | ⟨h, _⟩
              · exact absurd h hne
              · exact h
            have c1' : wr.cell? ⟨g, (j + 1) * 2 + 1, none⟩ = some (.string ⟨#[32]⟩) := c1
            have d0 := hd (.cells #[.int .u8 1, .string ⟨#[32]⟩] 26)
            clear c1 hj1 hne hd
            go_wp2_with fail
            go_quiet (fail)
            go_wp2_with fail
            go_roundw
            case rel => exact ⟨j + 1 + 1, by omega, by go_num, below_drewN (hbr.alloc hbr.size _) _⟩
            case measure => simp [intOf] <;> omega
          · obtain rfl : qk = 1 := by
              rcases hj1 with ⟨h, _⟩ | ⟨h, _⟩
              · exact h
              · exact absurd h hne
            have hb := fun w => bare_any (mkB pt) (by rw [mkB_size]; omega) w
            simp only [mkB_toList, hbe] at hb
            obtain ⟨q1, q2⟩ := toList_ne hne2
            have d0 := hd (.cells #[.int .u8 ((0 : Nat) : Int), .string (mkB pt)] 26)
            simp only [Int.cast_ofNat_Int] at d0
            clear hne hne2 hbe hj1 hd
            go_wp2_with fail
            go_quiet ((go_at_call 14; first | exact quiet_left (hb _) | exact quiet_add_left (hb _)))
            go_wp2_with fail
            go_roundw
            case rel => exact ⟨j + 1 + 1, by omega, by go_num, below_drewN (hbr.alloc hbr.size _) _⟩
            case measure => simp [intOf] <;> omega
      · obtain rfl : k = L.length := by omega
        by_cases hs0 : s.data.toList = []
        · have hL0 := HN.out.2 hs0
          have hs1 := HSE.out
          rw [decide_eq_true hs0] at hs1
          have hs2 : s.toList = [] := by simpa using hs1
          have hL1 : L.length = 0 := by rw [hL0]; rfl
          clear hs0 hL0
          go_wp2_with fail
          go_ret
          exact ⟨by simp_all, hb01.trans (hbr.mono hb01.size)⟩
        · have hs1 := HSE.out
          rw [decide_eq_false hs0] at hs1
          have hs2 : ¬ s.toList = [] := by simpa using hs1
          have hL1 : ((L.length : Int) == 0) = false := by
            rw [beq_eq_false_iff_ne]
            intro h
            have : L.length = 0 := by omega
            exact hs0 (HN.out.1 (List.eq_nil_of_length_eq_zero this))
          clear hs0
          go_wp2_with fail
          go_ret
          exact ⟨by simp_all, hb01.trans (hbr.mono hb01.size)⟩

end Go.Proofs.YtlfmeagdelmlpaaDoor
