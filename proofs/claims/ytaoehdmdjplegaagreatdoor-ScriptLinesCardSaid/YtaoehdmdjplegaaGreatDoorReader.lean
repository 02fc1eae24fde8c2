/-
  Walks: windowpaneref32.reader's told, word, rest: what they answer, and what they leave.
-/
import Derived.Handy
import Derived.Test.YtaoehdmdjplegaaGreatDoorQuoted
namespace Go.Proofs.YtaoehdmdjplegaaGreatDoor
open Go.RowKit Go.Shelf

/-- A reader in memory: its line, its place, whether it is wrong. -/
def Rdr (t : TypeId) (w : World) (g : Nat) (s : ByteArray) (at_ : Nat) (bad : Bool) : Prop := Blk w g t #[.string s, .int .i64 at_, .bool bad]
/-- The world once a reader is told to be wrong. -/
def badW (g : Nat) (b : Bool) (w : World) : World := if b then w.setCell ⟨g, 2, none⟩ (.bool true) else w

theorem toldGo_append (sg : Int) : ∀ (a b : List UInt8) (n : Int), toldGo sg n (a ++ b) = (toldGo sg n a).bind fun m => toldGo sg m b
  | [], b, n => rfl
  | c :: a, b, n => by
    rw [List.cons_append, toldGo, toldGo]
    split
    · rfl
    · exact toldGo_append sg a b _
theorem toldGo_one (sg n : Int) (c : UInt8) : toldGo sg n [c] = if c.toNat < 48 ∨ 57 < c.toNat then none else some (IntKind.i64.wrap (IntKind.i64.wrap (n * 10) + IntKind.i64.wrap (sg * ((c.toNat : Int) - 48)))) := by
  rw [toldGo]; rfl
def TlA (sg : Int) (fr : Nat) (L : List UInt8) (n i : Value) : Prop := ∃ (j : Nat) (m : Int), j ≤ L.length ∧ i = .int .i64 ((fr + j : Nat) : Int) ∧ n = .int .i64 m ∧ toldGo sg 0 (L.take j) = some m ∧ I64 m

set_option maxRecDepth 100000 in
set_option maxHeartbeats 4000000 in
theorem rtold_any (t : TypeId) (g : Nat) (l : ByteArray) (hl : l.size ≤ 5000) (s : ByteArray) (at_ : Nat) (bad : Bool) (w : World) (hr : Rdr t w g s at_ bad) :
    Calls Tryz.prog 35 #[.pointer (some ⟨g, 0, none⟩), .string l] w fun e w' => e = .returned (.int .i64 (toldR l.data.toList).1) ∧ w' = badW g (toldR l.data.toList).2 w := by
  have hg := hr.lt
  have hf := hr.frozen
  have c2 := hr.cell 2
  simp only [List.getElem?_toArray, List.getElem?_cons_succ, List.getElem?_cons_zero] at c2
  by_cases h0 : l.size = 0
  · have hnil : l.data.toList = [] := List.eq_nil_of_length_eq_zero (by rw [size_len]; exact h0)
    rw [hnil]
    have hT : toldR [] = (0, true) := rfl
    rw [hT]
    unfold badW
    go_enter Tryz.func35, Tryz.ntmps35
    go_wp2_with fail
    go_ret
    exact ⟨rfl, rfl⟩
  · have hpos : 0 < l.size := by omega
    have hhd : l.data.toList.head? = some l[0] := by
      rw [List.head?_eq_getElem?, List.getElem?_eq_getElem (by rw [size_len]; omega), get_len hpos]
    by_cases h45 : l[0].toNat = 45
    · have e45 : (((l[0].toNat : Nat) : Int) == (45 : Int)) = true := eq8 h45
      have hh : l.data.toList.head? = some 45 := by rw [hhd, show l[0] = 45 from UInt8.toNat_inj.1 h45]
      have htl : l.data.toList.tail = l.data.toList.drop 1 := by simp
      by_cases h1 : l.size = 1
      · have hT : toldR l.data.toList = (0, true) := by
          unfold toldR
          rw [if_pos hh, if_pos (Or.inl (List.eq_nil_of_length_eq_zero (by rw [List.length_tail, size_len]; omega)))]
        rw [hT]
        unfold badW
        go_enter Tryz.func35, Tryz.ntmps35
        go_wp2_with fail
        go_ret
        exact ⟨rfl, rfl⟩
      · have hz : ((1 : Int) == (l.size : Int)) = false := by rw [beq_eq_false_iff_ne]; omega
        by_cases h20 : 20 < l.size
        · have hT : toldR l.data.toList = (0, true) := by
            unfold toldR
            rw [if_pos (Or.inr (by rw [size_len]; exact h20))]
          rw [hT]
          unfold badW
          go_enter Tryz.func35, Tryz.ntmps35
          go_wp2_with fail
          go_ret
          exact ⟨rfl, rfl⟩
        · obtain ⟨L, hL⟩ : ∃ L, L = l.data.toList.drop 1 := ⟨_, rfl⟩
          have hLl : L.length = l.size - 1 := by rw [hL, List.length_drop, size_len]
          have hT : toldR l.data.toList = match toldGo (-1) 0 L with
              | none => (0, true)
              | some n => (n, decide (Lib.itoa n ≠ l.data.toList)) := by
            unfold toldR
            rw [if_pos hh, if_pos hh, htl, ← hL]
            rw [if_neg (by
              rintro (h | h)
              · rw [h] at hLl
                simp at hLl
                omega
              · rw [size_len] at h; omega)]
            cases toldGo (-1) 0 L <;> rfl
          have HT := Lib.hid hT
          clear hT
          have hLg := Lib.hid (show ∀ j (h : 1 + j < l.size), L.take (j + 1) = L.take j ++ [l[1 + j]] by
            intro j h
            have h' : j < L.length := by omega
            rw [List.take_succ_eq_append_getElem h']
            congr 2
            subst hL
            rw [List.getElem_drop, get_len h])
          clear hL
          go_enter Tryz.func35, Tryz.ntmps35
          go_wp2_with fail
          go_loop [5, 8] (TlA (-1) 1 L) (fun _ i => l.size - (intOf i).toNat)
          case atStart => exact ⟨0, 0, by omega, rfl, rfl, rfl, I64_zero⟩
          case round =>
            obtain ⟨j, m, hj, rfl, rfl, hm, hmi⟩ := hrel
            have HM := Lib.hid hm
            clear hm
            by_cases hlt : 1 + j < l.size
            · have hgj := hLg.out j hlt
              have hstep := congrArg (toldGo (-1) 0) hgj
              rw [toldGo_append, HM.out] at hstep
              have hstep : toldGo (-1) 0 (L.take (j + 1)) = toldGo (-1) m [l[1 + j]] := hstep
              rw [toldGo_one] at hstep
              have hl2 := l[1 + j].toNat_lt
              by_cases hd : l[1 + j].toNat < 48 ∨ 57 < l[1 + j].toNat
              · rw [if_pos hd] at hstep
                have hnone : toldGo (-1) 0 L = none := by
                  rw [← List.take_append_drop (j + 1) L, toldGo_append, hstep]; rfl
                have hT := HT.out
                rw [hnone] at hT
                have HT2 := Lib.hid (show toldR l.data.toList = (0, true) from hT)
                clear HT hT hstep hnone hgj
                rcases hd with hd | hd
                · go_wp2_with fail
                  go_ret
                  exact ⟨by rw [HT2.out]; rfl, by rw [HT2.out]; rfl⟩
                · go_wp2_with fail
                  go_ret
                  exact ⟨by rw [HT2.out]; rfl, by rw [HT2.out]; rfl⟩
              · rw [if_neg hd] at hstep
                have HS := Lib.hid hstep
                have hd1 : 48 ≤ l[1 + j].toNat := by omega
                have hd2 : l[1 + j].toNat ≤ 57 := by omega
                clear hstep hgj hd HT hLg
                go_wp2_with fail
                go_round
                case rel =>
                  unfold I64 at hmi
                  exact ⟨j + 1, _, by omega, by go_num, by congr 1; go_arith, HS.out, wrap_ok _⟩
                case measure => simp [intOf]; omega
            · have hje : L.take j = L := List.take_of_length_le (by omega)
              have hm2 := HM.out
              rw [hje] at hm2
              have hT := HT.out
              rw [hm2] at hT
              have HT2 := Lib.hid (show toldR l.data.toList = (m, decide (Lib.itoa m ≠ l.data.toList)) from hT)
              have hdig := Lib.hid (digits_any hmi)
              clear HT hT HM hje hm2 hLg
              by_cases heq : Lib.itoa m = l.data.toList
              · have HE := Lib.hid (show toldR l.data.toList = (m, false) by rw [HT2.out]; simp [heq])
                have hne : ((mkB (Lib.itoa m)).toList == l.toList) = true := by rw [Lib.toList_data, Lib.toList_data, mkB_toList, heq]; simp
                clear HT2 heq
                go_wp2_with fail
                refine (hdig.out _).mono ?_
                rintro e w' ⟨rfl, rfl⟩
                go_wp2_with fail
                go_ret
                exact ⟨by rw [HE.out]; rfl, by rw [HE.out]; rfl⟩
              · have HE := Lib.hid (show toldR l.data.toList = (m, true) by rw [HT2.out]; simp [heq])
                have hne : ((mkB (Lib.itoa m)).toList == l.toList) = false := by rw [Lib.toList_data, Lib.toList_data, mkB_toList, beq_eq_false_iff_ne]; exact heq
                clear HT2 heq
                go_wp2_with fail
                refine (hdig.out _).mono ?_
                rintro e w' ⟨rfl, rfl⟩
                go_wp2_with fail
                go_ret
                exact ⟨by rw [HE.out]; rfl, by rw [HE.out]; rfl⟩
    · have n45 : (((l[0].toNat : Nat) : Int) == (45 : Int)) = false := neq8 h45
      have hh : ¬ l.data.toList.head? = some 45 := by
        rw [hhd]
        intro h
        injection h with h
        exact h45 (by rw [h]; rfl)
      have hz : ((0 : Int) == (l.size : Int)) = false := by rw [beq_eq_false_iff_ne]; omega
      by_cases h20 : 20 < l.size
      · have hT : toldR l.data.toList = (0, true) := by
          unfold toldR
          rw [if_pos (Or.inr (by rw [size_len]; exact h20))]
        rw [hT]
        unfold badW
        go_enter Tryz.func35, Tryz.ntmps35
        go_wp2_with fail
        go_ret
        exact ⟨rfl, rfl⟩
      · obtain ⟨L, hL⟩ : ∃ L, L = l.data.toList.drop 0 := ⟨_, rfl⟩
        have hLl : L.length = l.size - 0 := by rw [hL, List.length_drop, size_len]
        have hlen := size_len l
        have hT : toldR l.data.toList = match toldGo 1 0 L with
            | none => (0, true)
            | some n => (n, decide (Lib.itoa n ≠ l.data.toList)) := by
          unfold toldR
          rw [if_neg hh, if_neg hh]
          rw [List.drop_zero] at hL
          rw [← hL] at hlen ⊢
          rw [if_neg (by
            rintro (h | h)
            · rw [h] at hLl
              simp at hLl
              omega
            · omega)]
          cases toldGo 1 0 L <;> rfl
        have HT := Lib.hid hT
        clear hT
        have hLg := Lib.hid (show ∀ j (h : j < l.size), L.take (j + 1) = L.take j ++ [l[j]] by
          intro j h
          have h' : j < L.length := by omega
          rw [List.take_succ_eq_append_getElem h']
          congr 2
          subst hL
          simp only [List.getElem_drop, Nat.zero_add]
          rw [get_len h])
        clear hL
        go_enter Tryz.func35, Tryz.ntmps35
        go_wp2_with fail
        go_loop [5, 8] (TlA 1 0 L) (fun _ i => l.size - (intOf i).toNat)
        case atStart => exact ⟨0, 0, by omega, rfl, rfl, rfl, I64_zero⟩
        case round =>
          obtain ⟨j, m, hj, rfl, rfl, hm, hmi⟩ := hrel
          have HM := Lib.hid hm
          clear hm
          by_cases hlt : j < l.size
          · have hgj := hLg.out j hlt
            have hstep := congrArg (toldGo 1 0) hgj
            rw [toldGo_append, HM.out] at hstep
            have hstep : toldGo 1 0 (L.take (j + 1)) = toldGo 1 m [l[j]] := hstep
            rw [toldGo_one] at hstep
            have hl2 := l[j].toNat_lt
            by_cases hd : l[j].toNat < 48 ∨ 57 < l[j].toNat
            · rw [if_pos hd] at hstep
              have hnone : toldGo 1 0 L = none := by
                rw [← List.take_append_drop (j + 1) L, toldGo_append, hstep]; rfl
              have hT := HT.out
              rw [hnone] at hT
              have HT2 := Lib.hid (show toldR l.data.toList = (0, true) from hT)
              clear HT hT hstep hnone hgj
              rcases hd with hd | hd
              · go_wp2_with fail
                go_ret
                exact ⟨by rw [HT2.out]; rfl, by rw [HT2.out]; rfl⟩
              · go_wp2_with fail
                go_ret
                exact ⟨by rw [HT2.out]; rfl, by rw [HT2.out]; rfl⟩
            · rw [if_neg hd] at hstep
              have HS := Lib.hid hstep
              have hd1 : 48 ≤ l[j].toNat := by omega
              have hd2 : l[j].toNat ≤ 57 := by omega
              clear hstep hgj hd HT hLg
              go_wp2_with fail
              go_round
              case rel =>
                unfold I64 at hmi
                exact ⟨j + 1, _, by omega, by go_num, by congr 1; go_arith, HS.out, wrap_ok _⟩
              case measure => simp [intOf]; omega
          · have hje : L.take j = L := List.take_of_length_le (by omega)
            have hm2 := HM.out
            rw [hje] at hm2
            have hT := HT.out
            rw [hm2] at hT
            have HT2 := Lib.hid (show toldR l.data.toList = (m, decide (Lib.itoa m ≠ l.data.toList)) from hT)
            have hdig := Lib.hid (digits_any hmi)
            clear HT hT HM hje hm2 hLg
            by_cases heq : Lib.itoa m = l.data.toList
            · have HE := Lib.hid (show toldR l.data.toList = (m, false) by rw [HT2.out]; simp [heq])
              have hne : ((mkB (Lib.itoa m)).toList == l.toList) = true := by rw [Lib.toList_data, Lib.toList_data, mkB_toList, heq]; simp
              clear HT2 heq
              go_wp2_with fail
              refine (hdig.out _).mono ?_
              rintro e w' ⟨rfl, rfl⟩
              go_wp2_with fail
              go_ret
              exact ⟨by rw [HE.out]; rfl, by rw [HE.out]; rfl⟩
            · have HE := Lib.hid (show toldR l.data.toList = (m, true) by rw [HT2.out]; simp [heq])
              have hne : ((mkB (Lib.itoa m)).toList == l.toList) = false := by rw [Lib.toList_data, Lib.toList_data, mkB_toList, beq_eq_false_iff_ne]; exact heq
              clear HT2 heq
              go_wp2_with fail
              refine (hdig.out _).mono ?_
              rintro e w' ⟨rfl, rfl⟩
              go_wp2_with fail
              go_ret
              exact ⟨by rw [HE.out]; rfl, by rw [HE.out]; rfl⟩

end Go.Proofs.YtaoehdmdjplegaaGreatDoor
