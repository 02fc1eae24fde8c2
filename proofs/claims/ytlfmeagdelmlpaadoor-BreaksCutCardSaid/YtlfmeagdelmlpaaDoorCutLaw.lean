/-
  Walk: the law BreaksCut.
-/
import Derived.Test.YtlfmeagdelmlpaaDoorRefShown
import Derived.Test.YtlfmeagdelmlpaaDoorLiftL
namespace Go.Proofs.YtlfmeagdelmlpaaDoor
open Go.RowKit Go.Shelf

def CwA (w1 : World) (i : Value) (wr : World) : Prop := ∃ k : Nat, k ≤ 2 ∧ i = .int .i64 k ∧ Below w1.heap.size w1 wr
def CwB (base n c : Nat) (A : Option Addr) (w2 : World) (i : Value) (wr : World) : Prop :=
  ∃ (k : Nat) (L' : List Pc), k ≤ n ∧ L'.length = n ∧ i = .int .i64 k ∧ OwnsP wr base (.slice A n c) L' ∧ Below base w2 wr

set_option maxRecDepth 100000 in
set_option maxHeartbeats 4000000 in
theorem cut_law (s : ByteArray) (ws m : Int) (w : World) (hm : w.cell? ⟨0, 0, none⟩ = some (.int .i64 m)) (hr : s.size ≤ 9223372036854775807) :
    LawReturns 3 #[.string s, .int .u8 ws] w := by
  unfold LawReturns
  by_cases hl : 3000 < s.size
  · go_enter Tryd.func3, Tryd.ntmps3
    go_wp2_with fail
    go_ret
    exact ⟨rfl, Below.refl _ _⟩
  · have hrc := rcut_any s (by omega) ws w
    have hc := fun W h => cut_any s (by omega) ws m W h
    have hsh := fun W h => shown_any s (by omega) ws m W h
    have hrs := fun W => rshown_any s (by omega) ws W
    unfold CutPost at hrc hc
    have hbd := (cutR_bd ws s.data.toList).2
    rw [size_len] at hbd
    have hLl : (cutR ws s.data.toList).length ≤ 3000 := by omega
    clear hbd
    generalize cutR ws s.data.toList = L at *
    go_enter Tryd.func3, Tryd.ntmps3
    go_wp2_with fail
    refine hrc.mono ?_
    rintro e w1 ⟨u, rfl, hu, hb1⟩
    have hu1 := hu.pieces
    clear hrc
    go_wp2_with fail
    go_loopw [6] (CwA w1) (fun i _ => 2 - (intOf i).toNat)
    case atStart => exact ⟨0, by omega, rfl, Below.refl _ _⟩
    case round =>
      obtain ⟨k, hk, rfl, hbr⟩ := hrel
      obtain ⟨wo, hwo⟩ : ∃ wo : World, wo = wr := ⟨_, rfl⟩
      subst hwo
      have hmo := cell_later (hb1.trans (hbr.mono hb1.size)) hm
      by_cases hlt : k < 2
      · have hc1 := hc wo hmo
        have hu2 := hu1.below hbr
        go_wp2_with fail
        refine hc1.mono ?_
        rintro e w2 ⟨v, rfl, hv, hb2⟩
        have hsm := rsame_pieces L v u _ _ _ _ w2 hv.pieces (hu2.below (hb2.mono hbr.size)) (by omega)
        obtain ⟨A, c, rfl⟩ := owns_form hv
        clear hc1
        go_wp2_with fail
        refine hsm.mono ?_
        rintro e w3 ⟨rfl, nq, rfl⟩
        clear hsm
        have hv3 : OwnsP (w2.drewN nq) wo.heap.size (.slice A L.length c) L := hv
        have hb3 : Below wo.heap.size wo (w2.drewN nq) := below_drewN hb2 nq
        generalize w2.drewN nq = w4 at *
        go_wp2_with fail
        go_loopw [8] (CwB wo.heap.size L.length c A w4) (fun i _ => L.length - (intOf i).toNat)
        case atStart => exact ⟨0, L, by omega, rfl, rfl, hv3, Below.refl _ _⟩
        case round =>
          obtain ⟨j, L', hj, hL', rfl, ho, hbj⟩ := hrel
          by_cases hjl : j < L.length
          · have hj' : j < L'.length := by omega
            rw [← hL'] at ho
            rcases ho.pieces with ⟨e, _⟩ | ⟨g, cap, e, _, hg, hg2, _, hcs, hf⟩
            · rw [e] at hj'; simp at hj'
            · injection e with e1 _ e2
              subst e1 e2
              have c1 := (hcs j hj').2
              have cf := hf (j * 2 + 1)
              have HO := Lib.hid (ho.setText hj' [115, 112, 111, 105, 108, 116])
              have HL := Lib.hid hL'
              clear hcs hf ho hL'
              go_wp2_with fail
              go_roundw
              case rel => exact ⟨j + 1, L'.set j ((L'[j]).1, [115, 112, 111, 105, 108, 116]), hjl, by rw [List.length_set, HL.out], by go_num, by rw [← HL.out]; exact HO.out, hbj.setCell (p := ⟨g, _, none⟩) hg _⟩
              case measure => simp [intOf]; omega
          · obtain rfl : j = L.length := by omega
            go_wp2_with fail
            go_roundw
            case rel => exact ⟨k + 1, by omega, by go_num, hbr.trans ((hb3.trans hbj).mono hbr.size)⟩
            case measure => simp [intOf]; omega
      · obtain rfl : k = 2 := by omega
        have h1 := hsh wo hmo
        go_wp2_with fail
        refine h1.mono ?_
        rintro e w5 ⟨rfl, hb5⟩
        have h2 := hrs w5
        clear h1
        go_wp2_with fail
        refine h2.mono ?_
        rintro e w6 ⟨rfl, hb6⟩
        go_wp2_with fail
        go_ret
        exact ⟨by simp, (hb1.trans (hbr.mono hb1.size)).trans ((hb5.trans (hb6.mono hb5.size)).mono (Nat.le_trans hb1.size hbr.size))⟩

end Go.Proofs.YtlfmeagdelmlpaaDoor
