/-
  Walks: windowpaneref32.picked, length: what they answer.
-/
import Derived.Test.YtaoehdmdjplegaaGreatDoorStrs
namespace Go.Proofs.YtaoehdmdjplegaaGreatDoor
open Go.RowKit Go.Shelf

/-- A picked word's text; none: it has none. -/
def pickT (ws : List (List UInt8)) (n : Nat) : Option (List UInt8) :=
  if n = 0 then some [] else match ws[n - 1]? with
    | none => none
    | some w => if w = [] then none else some (32 :: w)
def optP (o : Option (List UInt8)) : Value := .tuple #[.string (mkB (o.getD [])), .bool o.isSome]

set_option maxRecDepth 100000 in
set_option maxHeartbeats 4000000 in
theorem rpicked_any (n : Nat) (hn : n < 256) (ws : List (List UInt8)) (hw : ∀ x ∈ ws, x.length ≤ 100) (v : Value) (B : Nat) (w : World) (h : Strs w B v ws) :
    Calls Tryz.prog 78 #[.int .u8 n, v] w fun e w' => e = .returned (optP (pickT ws n)) ∧ w' = w := by
  obtain ⟨A, c, rfl, hc, hr⟩ := h
  have hE : (⟨#[]⟩ : ByteArray) = mkB [] := rfl
  by_cases h0 : n = 0
  · subst h0
    go_enter Tryz.func78, Tryz.ntmps78
    go_wp2_with fail
    go_ret2
    exact ⟨rfl, rfl⟩
  · obtain ⟨k, rfl⟩ : ∃ k, n = k + 1 := ⟨n - 1, by omega⟩
    have hz : ((((k + 1 : Nat) : Nat) : Int) == 0) = false := by rw [beq_eq_false_iff_ne]; omega
    by_cases hlt : k < ws.length
    · obtain ⟨ad, rfl, hb, hcell⟩ := strs_val hr hlt
      have h100 := hw _ (List.getElem_mem hlt)
      have hP : pickT ws (k + 1) = if ws[k] = [] then none else some (32 :: ws[k]) := by
        unfold pickT
        rw [if_neg (by omega), Nat.add_sub_cancel, List.getElem?_eq_getElem hlt]
      by_cases he : ws[k] = []
      · have e1 := str_eq he
        rw [if_pos he] at hP
        have HP := Lib.hid hP
        clear hP he
        rw [HP.out]
        go_enter Tryz.func78, Tryz.ntmps78
        go_wp2_with fail
        go_ret2
        exact ⟨rfl, rfl⟩
      · have e1 := str_ne he
        rw [if_neg he] at hP
        have HP := Lib.hid hP
        clear hP he
        rw [HP.out]
        have z1 : (mkB ws[k]).size ≤ 100 := by rw [mkB_size]; exact h100
        go_enter Tryz.func78, Tryz.ntmps78
        go_wp2_with fail
        go_ret2
        exact ⟨by unfold optP; rw [Option.getD_some, show 32 :: ws[k] = [32] ++ ws[k] from rfl, ← mkB_append]; rfl, rfl⟩
    · have HP := Lib.hid (show pickT ws (k + 1) = none by
        unfold pickT
        rw [if_neg (by omega), Nat.add_sub_cancel, List.getElem?_eq_none (by omega)])
      rw [HP.out]
      go_enter Tryz.func78, Tryz.ntmps78
      go_wp2_with fail
      go_ret2
      exact ⟨rfl, rfl⟩

end Go.Proofs.YtaoehdmdjplegaaGreatDoor
