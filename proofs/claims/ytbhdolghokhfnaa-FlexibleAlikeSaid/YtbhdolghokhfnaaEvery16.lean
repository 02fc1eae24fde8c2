/-
  Walks: windowpaneref16.every.
-/
import Derived.Test.YtbhdolghokhfnaaItems
namespace Go.Proofs.Ytbhdolghokhfnaa
open Go.RowKit

/-- A row of bools of the call's own. -/
def BBlk (w : World) (g : Nat) (fl : List Bool) : Prop := Blk w g 4 (fl.map Value.bool).toArray
theorem BBlk.at_ {w : World} {g : Nat} {fl : List Bool} (h : BBlk w g fl) {i : Nat} (hi : i < fl.length) : w.cell? ⟨g, i, none⟩ = some (.bool fl[i]) := by
  rw [Blk.cell h i]
  simp [hi]
theorem BBlk.put {w : World} {g : Nat} {fl : List Bool} (h : BBlk w g fl) (i : Nat) (b : Bool) : BBlk (w.setCell ⟨g, i, none⟩ (.bool b)) g (fl.set i b) := by
  have h2 := Blk.set_ h i (.bool b)
  unfold BBlk
  rw [List.map_set]
  simpa using h2
def EvA (fl : List Bool) (w : World) (i : Value) (wr : World) : Prop := ∃ k : Nat, k ≤ fl.length ∧ i = .int .i64 k ∧ (fl.take k).all id = true ∧ wr = w

set_option maxRecDepth 100000 in
set_option maxHeartbeats 400000 in
theorem every_any (fl : List Bool) (g : Nat) (w : World) (h : BBlk w g fl) (hm : fl.length ≤ 1000000) :
    Calls Try.prog 47 #[.slice (some ⟨g, 0, none⟩) fl.length fl.length] w fun e w' => e = .returned (.bool (fl.all id)) ∧ w = w' := by
  have H := Lib.hid h
  clear h
  go_enter Try.func47, Try.ntmps47
  go_wp2_with fail
  go_loopw [3] (EvA fl w) (fun i _ => fl.length - (intOf i).toNat)
  case atStart => exact ⟨0, by omega, rfl, rfl, rfl⟩
  case round =>
    obtain ⟨k, hk, rfl, hall, rfl⟩ := hrel
    have HALL := Lib.hid hall
    clear hall
    by_cases hlt : k < fl.length
    · have hltz : (k : Int) < (fl.length : Int) := by omega
      have hc := H.out.at_ hlt
      have HT := Lib.hid (show (fl.take (k + 1)).all id = ((fl.take k).all id && fl[k]) by rw [List.take_succ_eq_append_getElem hlt, List.all_append, List.all_cons, List.all_nil, Bool.and_true]; rfl)
      have HF := Lib.hid (fun (hb : fl[k] = false) => show fl.all id = false from by rw [← Bool.not_eq_true, List.all_eq_true]; intro ha; have := ha _ (List.getElem_mem hlt); simp [hb] at this)
      obtain ⟨b, hb⟩ : ∃ b, fl[k] = b := ⟨_, rfl⟩
      rw [hb] at hc HT HF
      clear hb
      cases b with
      | true =>
        go_wp2_with fail
        go_roundw
        case rel => exact ⟨k + 1, hlt, by go_num, by rw [HT.out, HALL.out]; rfl, rfl⟩
        case measure => simp [intOf]; omega
      | false =>
        have HF2 := Lib.hid (HF.out rfl)
        clear HF
        go_wp2_with fail
        go_ret
        exact ⟨by rw [HF2.out]; rfl, rfl⟩
    · obtain rfl : k = fl.length := by omega
      have ha := HALL.out
      rw [List.take_of_length_le (Nat.le_refl _)] at ha
      have HA := Lib.hid ha
      clear ha
      go_wp2_with fail
      go_ret
      exact ⟨by rw [HA.out]; rfl, rfl⟩

end Go.Proofs.Ytbhdolghokhfnaa
