/-
  Walks: script.read's closure: what stands behind so many words.
-/
import Derived.Test.YtaoehdmdjplegaaGreatDoorReadAt
namespace Go.Proofs.YtaoehdmdjplegaaGreatDoor
open Go.RowKit Go.Shelf

theorem join_eq : ∀ ws : List (List UInt8), Lib.join ws [32] = joinC ws
  | [] => rfl
  | [w] => Lib.join_one w [32]
  | w :: v :: ws => by
    have ih := join_eq (v :: ws)
    rw [Lib.join_cons] at ih ⊢
    rw [joinC, ← ih]
    simp [Lib.joinTail]
def strA (ws : List (List UInt8)) : Array Value := (ws.map fun x => Value.string (mkB x)).toArray
theorem strA_at {w : World} {g : Nat} {t : TypeId} {ws : List (List UInt8)} (h : Blk w g t (strA ws)) {k : Nat} (hk : k < ws.length) : w.cell? ⟨g, k, none⟩ = some (.string (mkB ws[k])) := by
  rw [h.cell k]
  simp [strA, hk]
theorem join_any (g o c : Nat) (t : TypeId) (ws : List (List UInt8)) (w : World) (h : Blk w g t (strA ws)) (ho : o ≤ ws.length) (hc : ws.length - o ≤ c) (hl : (joinC (ws.drop o)).length ≤ 100000) (hm : ws.length ≤ 100000) :
    Calls Tryz.prog 12 #[.slice (some ⟨g, o, none⟩) (ws.length - o : Nat) c, .string ⟨#[32]⟩] w fun e w' => e = .returned (.string (mkB (joinC (ws.drop o)))) ∧ Below w.heap.size w w' := by
  have e1 : ((ws.drop o).map mkB).map (·.data.toList) = ws.drop o := by
    rw [List.map_map]
    exact List.map_id _
  have e2 : ((ws.drop o).map mkB).length = ws.length - o := by simp
  have := Tryz.strings_Join g o c ((ws.drop o).map mkB) ⟨#[32]⟩ w (fun j x hx => by
    rw [List.getElem?_map, List.getElem?_drop] at hx
    obtain ⟨y, hy, rfl⟩ := Option.map_eq_some_iff.1 hx
    obtain ⟨hk, rfl⟩ := List.getElem?_eq_some_iff.1 hy
    exact strA_at h hk) h.lt (by rw [e2]; omega) (by rw [e2]; exact hc) (by
      rw [e1, show (⟨#[32]⟩ : ByteArray).data.toList = [32] from rfl, join_eq]; omega)
  rw [e1, e2, show (⟨#[32]⟩ : ByteArray).data.toList = [32] from rfl, join_eq] at this
  exact this

/-- What stands behind so many words; none: there are not so many. -/
def behindO (ws : List (List UInt8)) (n : Nat) : Option Value := if ws.length ≤ n then none else some (.string (mkB (joinC (ws.drop n))))

set_option maxRecDepth 100000 in
set_option maxHeartbeats 4000000 in
theorem read_behind (n : Nat) (bb g : Nat) (t t2 : TypeId) (ws : List (List UInt8)) (hm : ws.length ≤ 100000) (hl : (joinC (ws.drop n)).length ≤ 100000) (w : World) (hb : Boxed w bb t (.slice (some ⟨g, 0, none⟩) ws.length ws.length)) (h : Blk w g t2 (strA ws)) :
    Calls Tryz.prog 20 #[.int .i64 n, .pointer (some ⟨bb, 0, none⟩)] w (OptPost (behindO ws n) w) := by
  have kb := hb.cell
  by_cases hlt : n < ws.length
  · have hj := Lib.hid (join_any g n (ws.length - n) t2 ws w h (by omega) (by omega) hl hm)
    have HE := Lib.hid (show behindO ws n = some (Value.string (mkB (joinC (ws.drop n)))) from if_neg (by omega))
    have e1 : ((ws.length - n : Nat) : Int) = (ws.length : Int) - n := by omega
    go_enter Tryz.func20, Tryz.ntmps20
    go_wp2_with fail
    refine hj.out.mono ?_
    rintro e w2 ⟨rfl, h1⟩
    go_wp2_with fail
    go_ret
    refine ⟨h1, fun x hx => ?_, fun hx => ?_⟩
    · rw [HE.out] at hx
      injection hx with hx
      rw [← hx]; rfl
    · rw [HE.out] at hx
      cases hx
  · have HE := Lib.hid (show behindO ws n = none from if_pos (by omega))
    go_enter Tryz.func20, Tryz.ntmps20
    go_wp2_with fail
    refine ⟨rfl, Below.refl _ _, fun x hx => ?_, fun _ => rfl⟩
    rw [HE.out] at hx
    cases hx

end Go.Proofs.YtaoehdmdjplegaaGreatDoor
