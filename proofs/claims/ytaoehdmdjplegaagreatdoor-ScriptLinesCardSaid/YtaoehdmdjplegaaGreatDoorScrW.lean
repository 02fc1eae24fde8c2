/-
  What the script's words lean on of the world: its three tables; walks: script.set's words looked up.
-/
import Derived.Test.YtaoehdmdjplegaaGreatDoorEvC
import Derived.Test.YtaoehdmdjplegaaGreatDoorFieldsOf
namespace Go.Proofs.YtaoehdmdjplegaaGreatDoor
open Go.RowKit Go.Shelf

/-- The package's tables, the library's own variables. -/
structure ScrW (w : World) : Prop where
  num : NumW w
  max : ∃ m, w.cell? ⟨3, 0, none⟩ = some (.int .i64 m)
  len : ∀ j, j < 11 → w.cell? ⟨1, j, none⟩ = some (.string (mkB (lensT.getD j [])))
  nms : ∀ j, j < 16 → w.cell? ⟨2, j, none⟩ = some (.string (mkB (numsT.getD j [])))
  pck : ∀ i, i < 7 → ∃ b oo c, w.cell? ⟨0, i, none⟩ = some (.slice (some ⟨b, oo, none⟩) (picksT.getD i []).length c) ∧ (picksT.getD i []).length ≤ c ∧ ∀ j, j < (picksT.getD i []).length → w.cell? ⟨b, oo + j, none⟩ = some (.string (mkB ((picksT.getD i []).getD j [])))
theorem cell_stays {w w' : World} {B : Nat} {a : Addr} {v : Value} (h : w.cell? a = some v) (hb : Below B w w') (hB : w.heap.size ≤ B) : w'.cell? a = some v := by
  have hlt : a.block < w.heap.size := by
    rcases Nat.lt_or_ge a.block w.heap.size with h' | h'
    · exact h'
    · unfold World.cell? at h
      simp [Array.getElem?_eq_none h'] at h
  rw [hb.cell (by omega)]
  exact h
theorem ScrW.below {w w' : World} {B : Nat} (h : ScrW w) (hb : Below B w w') (hB : w.heap.size ≤ B) : ScrW w' := by
  refine ⟨h.num.below hb hB, ?_, fun j hj => cell_stays (h.len j hj) hb hB, fun j hj => cell_stays (h.nms j hj) hb hB, fun i hi => ?_⟩
  · obtain ⟨m, hm⟩ := h.max
    exact ⟨m, cell_stays hm hb hB⟩
  · obtain ⟨b, oo, c, h1, h2, h3⟩ := h.pck i hi
    exact ⟨b, oo, c, cell_stays h1 hb hB, h2, fun j hj => cell_stays (h3 j hj) hb hB⟩
/-- Where a word stands; -1: nowhere. -/
def idxV (ws : List (List UInt8)) (x : List UInt8) : Int := if idxW ws x < ws.length then ((idxW ws x : Nat) : Int) else -1
theorem idxS_from : ∀ (ws : List (List UInt8)) (x : List UInt8) (i : Nat), Lib.idxFromS (ws.map mkB) (mkB x) i = if idxW ws x < ws.length then ((i + idxW ws x : Nat) : Int) else -1
  | [], x, i => by simp [Lib.idxFromS]
  | w :: ws, x, i => by
    have ih := idxS_from ws x (i + 1)
    rw [List.map_cons, Lib.idxFromS]
    have e : idxW (w :: ws) x = if w = x then 0 else idxW ws x + 1 := by
      unfold idxW
      rw [List.findIdx_cons]
      by_cases h : w = x
      · simp [h]
      · simp [h]
    by_cases h : w = x
    · rw [if_pos (by rw [h]), e, if_pos h, if_pos (by simp)]
      simp
    · rw [if_neg (fun h2 => h (mkB_inj h2)), ih, e, if_neg h]
      by_cases h2 : idxW ws x < ws.length
      · rw [if_pos h2, if_pos (by simp; omega)]
        omega
      · rw [if_neg h2, if_neg (by simp; omega)]
theorem idxS_eq (ws : List (List UInt8)) (x : List UInt8) : Lib.idxOfS (ws.map mkB) (mkB x) = idxV ws x := by
  unfold Lib.idxOfS idxV
  rw [idxS_from]
  simp
/-- slices.Index, at a row of words. -/
theorem index_words (b : Nat) (c : Nat) (ws : List (List UInt8)) (x : List UInt8) (hl : ws.length ≤ 100) (w : World) (h : ∀ j, j < ws.length → w.cell? ⟨b, j, none⟩ = some (.string (mkB (ws.getD j [])))) :
    Calls Tryz.prog 47 #[.slice (some ⟨b, 0, none⟩) ws.length c, .string (mkB x)] w fun e w' => e = .returned (.int .i64 (idxV ws x)) ∧ w' = w := by
  have := Tryz.slices_Index_string b 0 ws.length c (ws.map mkB) (mkB x) w (by simp) (by omega) (fun j hj => by
    rw [List.length_map] at hj
    rw [Nat.zero_add, h j hj]
    congr 2
    rw [List.getD_eq_getElem?_getD, List.getD_eq_getElem?_getD, List.getElem?_map, List.getElem?_eq_getElem hj]
    rfl)
  rw [List.take_of_length_le (by simp), idxS_eq] at this
  exact this
/-- .. at whatever place of a block. -/
theorem index_words_at (b oo : Nat) (c : Nat) (ws : List (List UInt8)) (x : List UInt8) (hl : ws.length ≤ 100) (w : World) (h : ∀ j, j < ws.length → w.cell? ⟨b, oo + j, none⟩ = some (.string (mkB (ws.getD j [])))) :
    Calls Tryz.prog 47 #[.slice (some ⟨b, oo, none⟩) ws.length c, .string (mkB x)] w fun e w' => e = .returned (.int .i64 (idxV ws x)) ∧ w' = w := by
  have := Tryz.slices_Index_string b oo ws.length c (ws.map mkB) (mkB x) w (by simp) (by omega) (fun j hj => by
    rw [List.length_map] at hj
    rw [h j hj]
    congr 2
    rw [List.getD_eq_getElem?_getD, List.getD_eq_getElem?_getD, List.getElem?_map, List.getElem?_eq_getElem hj]
    rfl)
  rw [List.take_of_length_le (by simp), idxS_eq] at this
  exact this
theorem idxV_hit {ws : List (List UInt8)} {x : List UInt8} (h : idxW ws x < ws.length) : idxV ws x = ((idxW ws x : Nat) : Int) := if_pos h
theorem idxV_no {ws : List (List UInt8)} {x : List UInt8} (h : ¬ idxW ws x < ws.length) : idxV ws x = -1 := if_neg h

end Go.Proofs.YtaoehdmdjplegaaGreatDoor
