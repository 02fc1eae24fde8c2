/-
  Walks: windowpaneref32.reader's text: what it answers, and what it leaves.
-/
import Derived.Test.YtaoehdmdjplegaaGreatDoorTextStep
namespace Go.Proofs.YtaoehdmdjplegaaGreatDoor
open Go.RowKit Go.Shelf

theorem Rdr.kept {t : TypeId} {w w' : World} {g : Nat} {s : ByteArray} {a : Nat} {bad : Bool} (h : Rdr t w g s a bad) (hb : Below w.heap.size w w') : Rdr t w' g s a bad := Blk.below h hb h.lt
theorem Rdr.wrong {t : TypeId} {w : World} {g : Nat} {s : ByteArray} {a : Nat} {bad : Bool} (h : Rdr t w g s a bad) : Rdr t (w.setCell ⟨g, 2, none⟩ (.bool true)) g s a true := h.set_ 2 _
/-- What a text's reading leaves. -/
def TextPost (t : TypeId) (g : Nat) (s : ByteArray) (a : Nat) (bad : Bool) (l : List UInt8) (w : World) (e : Ending) (w' : World) : Prop :=
  e = .returned (.string (mkB (textR l).1)) ∧ Kept [g] w w' ∧ Rdr t w' g s a (bad || (textR l).2)
def TxA (S : ByteArray) (w0 : World) (out i : Value) (w : World) : Prop :=
  ∃ (k : Nat) (o : List UInt8), k ≤ S.size ∧ i = .int .i64 k ∧ o.length ≤ k ∧ OwnsY w w0.heap.size out o ∧ Below w0.heap.size w0 w ∧ textGo S.data.toList = o ++ textGo (S.data.toList.drop k)

set_option maxRecDepth 100000 in
set_option maxHeartbeats 4000000 in
theorem rtext_any (t : TypeId) (g : Nat) (l : ByteArray) (hl : l.size ≤ 5000) (s : ByteArray) (a : Nat) (bad : Bool) (w : World) (hr : Rdr t w g s a bad) :
    Calls Tryz.prog 37 #[.pointer (some ⟨g, 0, none⟩), .string l] w (TextPost t g s a bad l.data.toList w) := by
  have hg := hr.lt
  have hf := hr.frozen
  have c2 := hr.cell 2
  simp only [List.getElem?_toArray, List.getElem?_cons_succ, List.getElem?_cons_zero] at c2
  by_cases h2 : l.size < 2
  · have HT := Lib.hid (show textR l.data.toList = ([], true) by unfold textR; rw [if_neg (by rw [size_len]; omega)])
    go_enter Tryz.func37, Tryz.ntmps37
    go_wp2_with fail
    go_ret
    exact ⟨by rw [HT.out]; rfl, (Kept.refl _ _).setCell (by simp) _, by rw [HT.out, Bool.or_true]; exact hr.wrong⟩
  · have h2 : 2 ≤ l.size := by omega
    have hhd := head_at (show 0 < l.size by omega)
    have hlast := last_at (show 0 < l.size by omega)
    by_cases h34 : l[0].toNat = 34
    · have e1 : (((l[0].toNat : Nat) : Int) != 34) = false := by unfold bne; rw [show (((l[0].toNat : Nat) : Int) == 34) = true from eq8 h34]; rfl
      by_cases h35 : (l[l.size - 1]'(by omega)).toNat = 34
      · have e2 : ((((l[l.size - 1]'(by omega)).toNat : Nat) : Int) != 34) = false := by unfold bne; rw [show ((((l[l.size - 1]'(by omega)).toNat : Nat) : Int) == 34) = true from eq8 h35]; rfl
        have HT := Lib.hid (show textR l.data.toList = (textGo (l.extract 1 (l.size - 1)).data.toList, false) by
          unfold textR
          rw [if_pos ⟨by rw [hhd, byte_is h34 34 rfl], by rw [size_len]; exact h2, by rw [hlast, byte_is h35 34 rfl]⟩, inner_list])
        obtain ⟨S, hS⟩ : ∃ S, S = l.extract 1 (l.size - 1) := ⟨_, rfl⟩
        have hSz : S.size = l.size - 2 := by rw [hS, inner_size]
        rw [← hS] at HT
        clear hhd hlast
        go_enter Tryz.func37, Tryz.ntmps37
        go_wp2_with fail
        rw [← hS]
        clear hS
        have hSm : S.size ≤ 5000 := by omega
        clear hSz
        go_loopw [5, 6] (TxA S w) (fun _ i _ => S.size - (intOf i).toNat)
        case atStart => exact ⟨0, [], by omega, rfl, by simp, OwnsY.nil _ _, Below.refl _ _, by simp⟩
        case round =>
          obtain ⟨k, o, hk, rfl, hok, hown, hbw, htx⟩ := hrel
          have HX := Lib.hid htx
          clear htx
          have hbase := hbw.size
          have hlo : o.length < 17592186044416 := by omega
          by_cases hlt : k < S.size
          · by_cases c92 : S[k].toNat = 92
            · have e92 : (((S[k].toNat : Nat) : Int) == (92 : Int)) = true := eq8 c92
              by_cases l1 : k + 1 < S.size
              · by_cases c110 : S[k + 1].toNat = 110
                · have e110 : (((S[k + 1].toNat : Nat) : Int) == (110 : Int)) = true := eq8 c110
                  have HST := Lib.hid (st_line l1 c92 c110)
                  go_wp2_with (at_builtin; refine append_byte _ (10) _ rfl rfl _ _ rfl w.heap.size u5 o rfl hown rfl hlo hbase ?_; intro v3 w3 hown3 hb3)
                  go_roundw
                  case rel => exact ⟨k + 2, o ++ [10], by omega, by go_num, by simp; omega, hown3, hbw.trans hb3, by rw [HX.out, HST.out]; simp⟩
                  case measure => simp [intOf] <;> omega
                · have n110 : (((S[k + 1].toNat : Nat) : Int) == (110 : Int)) = false := neq8 c110
                  by_cases l3 : k + 3 < S.size
                  · by_cases c120 : S[k + 1].toNat = 120
                    · have e120 : (((S[k + 1].toNat : Nat) : Int) == (120 : Int)) = true := eq8 c120
                      have hd2 := Lib.hid (rhex_any S[k + 2])
                      have hd3 := Lib.hid (rhex_any S[k + 3])
                      by_cases a16 : hv S[k + 2] < 16
                      · by_cases b16 : hv S[k + 3] < 16
                        · have HST := Lib.hid (st_hex l3 c92 c120 a16 b16)
                          have d16 : ((hv S[k + 2] : Nat) : Int) < 16 := by omega
                          have d17 : ((hv S[k + 3] : Nat) : Int) < 16 := by omega
                          go_wp2_with fail
                          refine (hd2.out _).mono ?_
                          rintro e w4 ⟨rfl, rfl⟩
                          go_wp2_with fail
                          refine (hd3.out _).mono ?_
                          rintro e w4 ⟨rfl, rfl⟩
                          go_wp2_with fail
                          go_quiet ((go_at_call 62; exact Calls.quiet_of_same (rhex_any _ _)))
                          go_wp2_with (at_builtin; refine append_byte _ (UInt8.ofNat (hv S[k + 2] * 16 + hv S[k + 3])) _ (by simp; omega) rfl _ _ rfl w.heap.size u5 o rfl hown rfl hlo hbase ?_; intro v3 w3 hown3 hb3)
                          go_roundw
                          case rel => exact ⟨k + 4, o ++ [UInt8.ofNat (hv S[k + 2] * 16 + hv S[k + 3])], by omega, by go_num, by simp; omega, hown3, (below_drewN hbw _).trans hb3, by rw [HX.out, HST.out]; simp⟩
                          case measure => simp [intOf] <;> omega
                        · have HST := Lib.hid (st_x l1 c92 c120 fun _ h => b16 h.2)
                          have d16 : ((hv S[k + 2] : Nat) : Int) < 16 := by omega
                          have d17 : ¬ ((hv S[k + 3] : Nat) : Int) < 16 := by omega
                          go_wp2_with fail
                          refine (hd2.out _).mono ?_
                          rintro e w4 ⟨rfl, rfl⟩
                          go_wp2_with fail
                          refine (hd3.out _).mono ?_
                          rintro e w4 ⟨rfl, rfl⟩
                          go_wp2_with fail
                          go_quiet (fail)
                          go_wp2_with (at_builtin; refine append_byte _ (120) _ rfl rfl _ _ rfl w.heap.size u5 o rfl hown rfl hlo hbase ?_; intro v3 w3 hown3 hb3)
                          go_roundw
                          case rel => exact ⟨k + 2, o ++ [120], by omega, by go_num, by simp; omega, hown3, (below_drewN hbw _).trans hb3, by rw [HX.out, HST.out]; simp⟩
                          case measure => simp [intOf] <;> omega
                      · have HST := Lib.hid (st_x l1 c92 c120 fun _ h => a16 h.1)
                        have d16 : ¬ ((hv S[k + 2] : Nat) : Int) < 16 := by omega
                        go_wp2_with fail
                        refine (hd2.out _).mono ?_
                        rintro e w4 ⟨rfl, rfl⟩
                        go_wp2_with fail
                        go_quiet (fail)
                        go_wp2_with (at_builtin; refine append_byte _ (120) _ rfl rfl _ _ rfl w.heap.size u5 o rfl hown rfl hlo hbase ?_; intro v3 w3 hown3 hb3)
                        go_roundw
                        case rel => exact ⟨k + 2, o ++ [120], by omega, by go_num, by simp; omega, hown3, (below_drewN hbw _).trans hb3, by rw [HX.out, HST.out]; simp⟩
                        case measure => simp [intOf] <;> omega
                    · have n120 : (((S[k + 1].toNat : Nat) : Int) == (120 : Int)) = false := neq8 c120
                      have HST := Lib.hid (st_self l1 c92 c110 fun h _ => absurd h c120)
                      go_wp2_with fail
                      go_quiet (fail)
                      go_wp2_with (at_builtin; refine append_byte _ (S[k + 1]) _ rfl rfl _ _ rfl w.heap.size u5 o rfl hown rfl hlo hbase ?_; intro v3 w3 hown3 hb3)
                      go_roundw
                      case rel => exact ⟨k + 2, o ++ [S[k + 1]], by omega, by go_num, by simp; omega, hown3, (below_drewN hbw _).trans hb3, by rw [HX.out, HST.out]; simp⟩
                      case measure => simp [intOf] <;> omega
                  · have HST := Lib.hid (st_self l1 c92 c110 fun _ h => absurd h l3)
                    go_wp2_with fail
                    go_quiet (fail)
                    go_wp2_with (at_builtin; refine append_byte _ (S[k + 1]) _ rfl rfl _ _ rfl w.heap.size u5 o rfl hown rfl hlo hbase ?_; intro v3 w3 hown3 hb3)
                    go_roundw
                    case rel => exact ⟨k + 2, o ++ [S[k + 1]], by omega, by go_num, by simp; omega, hown3, (below_drewN hbw _).trans hb3, by rw [HX.out, HST.out]; simp⟩
                    case measure => simp [intOf] <;> omega
              · have HST := Lib.hid (st_end hlt c92 (by omega))
                go_wp2_with (at_builtin; refine append_byte _ (92) _ rfl rfl _ _ rfl w.heap.size u5 o rfl hown rfl hlo hbase ?_; intro v3 w3 hown3 hb3)
                go_roundw
                case rel => exact ⟨k + 1, o ++ [92], by omega, by go_num, by simp; omega, hown3, hbw.trans hb3, by rw [HX.out, HST.out]; simp⟩
                case measure => simp [intOf] <;> omega
            · have n92 : (((S[k].toNat : Nat) : Int) == (92 : Int)) = false := neq8 c92
              have HST := Lib.hid (st_plain hlt c92)
              go_wp2_with (at_builtin; refine append_byte _ (S[k]) _ rfl rfl _ _ rfl w.heap.size u5 o rfl hown rfl hlo hbase ?_; intro v3 w3 hown3 hb3)
              go_roundw
              case rel => exact ⟨k + 1, o ++ [S[k]], by omega, by go_num, by simp; omega, hown3, hbw.trans hb3, by rw [HX.out, HST.out]; simp⟩
              case measure => simp [intOf] <;> omega
          · have hke : k = S.size := by omega
            have hcv := byts_string hown.byts
            go_wp2_with fail
            go_ret
            exact ⟨by rw [HT.out, HX.out, drop_end (by omega)]; simp [textGo], Kept.of_below hbw, by rw [HT.out, Bool.or_false]; exact hr.kept hbw⟩
      · have e2 : ((((l[l.size - 1]'(by omega)).toNat : Nat) : Int) != 34) = true := by unfold bne; rw [show ((((l[l.size - 1]'(by omega)).toNat : Nat) : Int) == 34) = false from neq8 h35]; rfl
        have HT := Lib.hid (show textR l.data.toList = ([], true) by
          unfold textR
          rw [if_neg]
          rintro ⟨_, _, h⟩
          rw [hlast] at h
          injection h with h
          exact h35 (by rw [h]; rfl))
        clear hhd hlast
        go_enter Tryz.func37, Tryz.ntmps37
        go_wp2_with fail
        go_ret
        exact ⟨by rw [HT.out]; rfl, (Kept.refl _ _).setCell (by simp) _, by rw [HT.out, Bool.or_true]; exact hr.wrong⟩
    · have e1 : (((l[0].toNat : Nat) : Int) != 34) = true := by unfold bne; rw [show (((l[0].toNat : Nat) : Int) == 34) = false from neq8 h34]; rfl
      have HT := Lib.hid (show textR l.data.toList = ([], true) by
        unfold textR
        rw [if_neg]
        rintro ⟨h, _, _⟩
        rw [hhd] at h
        injection h with h
        exact h34 (by rw [h]; rfl))
      clear hhd hlast
      go_enter Tryz.func37, Tryz.ntmps37
      go_wp2_with fail
      go_ret
      exact ⟨by rw [HT.out]; rfl, (Kept.refl _ _).setCell (by simp) _, by rw [HT.out, Bool.or_true]; exact hr.wrong⟩

end Go.Proofs.YtaoehdmdjplegaaGreatDoor
