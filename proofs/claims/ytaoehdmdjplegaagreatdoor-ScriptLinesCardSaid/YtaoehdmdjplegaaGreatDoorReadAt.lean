/-
  Walks: script.read's closures: a word's number, what stands behind so many words.
-/
import Derived.Test.YtaoehdmdjplegaaGreatDoorFields32
namespace Go.Proofs.YtaoehdmdjplegaaGreatDoor
open Go.RowKit Go.Shelf

/-- A number is read, or the line is thrown. -/
def OptPost (o : Option Value) (w : World) (e : Ending) (w' : World) : Prop :=
  Below w.heap.size w w' ∧ (∀ x, o = some x → e = .returned x) ∧ (o = none → e = .panicked wrongC)

set_option maxRecDepth 100000 in
set_option maxHeartbeats 4000000 in
theorem read_at (i : Nat) (bb : Nat) (t : TypeId) (v : Value) (ws : List (List UInt8)) (hx : ∀ x ∈ ws, x.length ≤ 5000) (B : Nat) (w : World) (hb : Boxed w bb t v) (hs : Strs w B v ws) (hw : NumW w) :
    Calls Tryz.prog 18 #[.int .i64 i, .pointer (some ⟨bb, 0, none⟩)] w (OptPost ((ws[i]?.bind numP).map (Value.int .i64)) w) := by
  obtain ⟨A, c, rfl, hc, hr⟩ := hs
  have kb := hb.cell
  by_cases hlt : i < ws.length
  · obtain ⟨ad, rfl, hab, hcell⟩ := strs_val hr hlt
    have hz := hx _ (List.getElem_mem hlt)
    have hn := Lib.hid (number_any (mkB ws[i]) (by rw [mkB_size]; exact hz) w hw)
    have HE := Lib.hid (show ws[i]?.bind numP = numP ws[i] by rw [List.getElem?_eq_getElem hlt]; rfl)
    go_enter Tryz.func18, Tryz.ntmps18
    go_wp2_with fail
    refine hn.out.mono ?_
    rintro e w2 ⟨h1, h2, h3⟩
    rw [mkB_toList] at h2 h3
    cases hp : numP ws[i] with
    | none =>
      have := h3 hp
      subst this
      have HP := Lib.hid (HE.out.trans hp)
      refine ⟨rfl, h1, fun x hx => ?_, fun _ => rfl⟩
      rw [HP.out] at hx
      cases hx
    | some n =>
      have := h2 n hp
      subst this
      have HP := Lib.hid (HE.out.trans hp)
      go_wp2_with fail
      go_ret
      refine ⟨h1, fun x hx => ?_, fun hx => ?_⟩
      · rw [HP.out] at hx
        injection hx with hx
        rw [← hx]; rfl
      · rw [HP.out] at hx
        cases hx
  · have HE := Lib.hid (show ws[i]?.bind numP = none by rw [List.getElem?_eq_none (by omega)]; rfl)
    go_enter Tryz.func18, Tryz.ntmps18
    go_wp2_with fail
    refine ⟨rfl, Below.refl _ _, fun x hx => ?_, fun _ => rfl⟩
    rw [HE.out] at hx
    cases hx

end Go.Proofs.YtaoehdmdjplegaaGreatDoor
