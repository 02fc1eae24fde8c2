/-
  Walks: windowpaneref32.reader's word, rest: what they answer, and where they leave the place.
-/
import Derived.Test.YtaoehdmdjplegaaGreatDoorKept
import Derived.Test.YtaoehdmdjplegaaGreatDoorReader
namespace Go.Proofs.YtaoehdmdjplegaaGreatDoor
open Go.RowKit Go.Shelf

theorem restC_take : ∀ (l : List UInt8) (k : Nat), k < l.length → (∀ c ∈ l.take k, c ≠ 32) → l[k]? = some 32 → wordC l = l.take k ∧ restC l = l.drop (k + 1)
  | c :: l, 0, _, _, h => by
    simp at h
    subst h
    simp [wordC, restC]
  | c :: l, k + 1, hk, hc, h => by
    have h1 : c ≠ 32 := hc c (by simp)
    have ih := restC_take l k (by simpa using hk) (fun x hx => hc x (by simp [hx])) (by simpa using h)
    simp [wordC, restC, h1, ih.1, ih.2]
  | [], k, hk, _, _ => absurd hk (by simp)
/-- Where a word's reading stands: so far there was no blank. -/
def WdA (t : TypeId) (g : Nat) (s : ByteArray) (a0 : Nat) (bad : Bool) (w0 : World) (w : World) : Prop :=
  ∃ k : Nat, a0 ≤ k ∧ k ≤ s.size ∧ (∀ c ∈ (s.data.toList.drop a0).take (k - a0), c ≠ 32) ∧ Rdr t w g s k bad ∧ Kept [g] w0 w
def atOf (g : Nat) (w : World) : Nat := (intOf ((w.cell? ⟨g, 1, none⟩).getD (.int .i64 0))).toNat

/-- What a word's reading leaves. -/
def WordPost (t : TypeId) (g : Nat) (s : ByteArray) (a0 : Nat) (bad : Bool) (w0 : World) (e : Ending) (w : World) : Prop :=
  e = .returned (.string (mkB (wordC (s.data.toList.drop a0)))) ∧ Kept [g] w0 w ∧ ∃ k : Nat, a0 ≤ k ∧ k ≤ s.size ∧ s.data.toList.drop k = restC (s.data.toList.drop a0) ∧ Rdr t w g s k bad

theorem Rdr.put {t : TypeId} {w : World} {g : Nat} {s : ByteArray} {k : Nat} {bad : Bool} (h : Rdr t w g s k bad) {v : Value} (k' : Nat) (hv : v = .int .i64 k') : Rdr t (w.setCell ⟨g, 1, none⟩ v) g s k' bad := by
  subst hv
  exact h.set_ 1 _
theorem Rdr.at_ {t : TypeId} {w : World} {g : Nat} {s : ByteArray} {k : Nat} {bad : Bool} (h : Rdr t w g s k bad) : atOf g w = k := by
  have c1 := Blk.cell h 1
  simp only [List.getElem?_toArray, List.getElem?_cons_succ, List.getElem?_cons_zero] at c1
  unfold atOf
  rw [c1]
  simp [intOf]
theorem drop_get {s : ByteArray} {a0 k : Nat} (h0 : a0 ≤ k) (h : k < s.size) : (s.data.toList.drop a0)[k - a0]? = some s[k] := by
  rw [List.getElem?_drop, show a0 + (k - a0) = k by omega, List.getElem?_eq_getElem (by rw [size_len]; exact h), get_len h]
theorem take_next {s : ByteArray} {a0 k : Nat} (h0 : a0 ≤ k) (h : k < s.size) : (s.data.toList.drop a0).take (k + 1 - a0) = (s.data.toList.drop a0).take (k - a0) ++ [s[k]] := by
  have h' : k - a0 < (s.data.toList.drop a0).length := by rw [List.length_drop, size_len]; omega
  rw [show k + 1 - a0 = (k - a0) + 1 by omega, List.take_succ_eq_append_getElem h']
  congr 2
  have := drop_get h0 h
  rw [List.getElem?_eq_getElem h'] at this
  injection this

set_option maxRecDepth 100000 in
set_option maxHeartbeats 4000000 in
theorem rword_any (t : TypeId) (g : Nat) (s : ByteArray) (hs : s.size ≤ 5000) (a0 : Nat) (ha : a0 ≤ s.size) (bad : Bool) (w : World) (hr : Rdr t w g s a0 bad) :
    Calls Tryz.prog 34 #[.pointer (some ⟨g, 0, none⟩)] w (WordPost t g s a0 bad w) := by
  have c0 := hr.cell 0
  have c1 := hr.cell 1
  simp only [List.getElem?_toArray, List.getElem?_cons_succ, List.getElem?_cons_zero] at c0 c1
  go_enter Tryz.func34, Tryz.ntmps34
  go_wp2_with fail
  clear c0 c1
  go_loopw [] (WdA t g s a0 bad w) (fun w' => s.size - atOf g w')
  case atStart => exact ⟨a0, Nat.le_refl _, ha, by simp, hr, Kept.refl _ _⟩
  case round =>
    obtain ⟨k, hk0, hk, hcl, hrk, hkp⟩ := hrel
    have hg := hrk.lt
    have hf := hrk.frozen
    have c0 := hrk.cell 0
    have c1 := hrk.cell 1
    simp only [List.getElem?_toArray, List.getElem?_cons_succ, List.getElem?_cons_zero] at c0 c1
    by_cases hlt : k < s.size
    · by_cases h32 : s[k].toNat = 32
      · have n1 : (((s[k].toNat : Nat) : Int) != 32) = false := by unfold bne; rw [show (((s[k].toNat : Nat) : Int) == 32) = true from eq8 h32]; rfl
        go_wp2_with fail
        go_region
        go_wp2_with fail
        go_region
        go_wp2_with fail
        go_region
        go_wp2_with fail
        go_ret
        obtain ⟨p1, p2⟩ := restC_take (s.data.toList.drop a0) (k - a0) (by rw [List.length_drop, size_len]; omega) hcl (by rw [drop_get hk0 hlt]; exact congrArg some (UInt8.toNat_inj.1 h32))
        refine ⟨?_, ((hkp.setCell (by simp) _).drewN 3), k + 1, by omega, by omega, ?_, (hrk.put (k + 1) (by go_num)).drewN 3⟩
        · rw [p1, ← extract_list]; rfl
        · rw [p2, List.drop_drop]; congr 1; omega
      · have n1 : (((s[k].toNat : Nat) : Int) != 32) = true := by unfold bne; rw [show (((s[k].toNat : Nat) : Int) == 32) = false from neq8 h32]; rfl
        go_wp2_with fail
        go_region
        go_wp2_with fail
        go_round
        case rel =>
          refine ⟨k + 1, by omega, by omega, ?_, (hrk.put (k + 1) (by go_num)).drewN 1, (hkp.setCell (by simp) _).drewN 1⟩
          intro c hc
          rw [take_next hk0 hlt] at hc
          rcases List.mem_append.1 hc with hc | hc
          · exact hcl c hc
          · rw [List.mem_singleton.1 hc]
            intro h
            exact h32 (by rw [h]; rfl)
        case measure =>
          have e2 := Rdr.at_ (t := t) (s := s) (k := k + 1) (bad := bad) (Blk.drew (hrk.put (k + 1) (v := .int .i64 ((k : Int) + 1)) (by go_num)))
          rw [hrk.at_, e2]
          omega
    · obtain rfl : k = s.size := by omega
      go_wp2_with fail
      go_region
      go_wp2_with fail
      go_region
      go_wp2_with fail
      go_region
      go_wp2_with fail
      go_ret
      rw [List.take_of_length_le (by rw [List.length_drop, size_len]; omega)] at hcl
      obtain ⟨p1, p2⟩ := wordC_one hcl
      refine ⟨?_, hkp.drewN 3, s.size, hk0, Nat.le_refl _, ?_, hrk.drewN 3⟩
      · rw [p1, ← List.take_of_length_le (show (s.data.toList.drop a0).length ≤ s.size - a0 by rw [List.length_drop, size_len]; omega), ← extract_list]; rfl
      · rw [p2, List.drop_of_length_le (by rw [size_len]; omega)]

set_option maxRecDepth 100000 in
set_option maxHeartbeats 4000000 in
theorem rrest_any (t : TypeId) (g : Nat) (s : ByteArray) (a0 : Nat) (ha : a0 ≤ s.size) (bad : Bool) (w : World) (hr : Rdr t w g s a0 bad) :
    Calls Tryz.prog 38 #[.pointer (some ⟨g, 0, none⟩)] w fun e w' => e = .returned (.string (mkB (s.data.toList.drop a0))) ∧ Kept [g] w w' ∧ Rdr t w' g s s.size bad := by
  have hg := hr.lt
  have hf := hr.frozen
  have c0 := hr.cell 0
  have c1 := hr.cell 1
  simp only [List.getElem?_toArray, List.getElem?_cons_succ, List.getElem?_cons_zero] at c0 c1
  go_enter Tryz.func38, Tryz.ntmps38
  go_wp2_with fail
  go_region
  go_wp2_with fail
  go_ret
  refine ⟨?_, ((Kept.refl _ _).drew.setCell (by simp) _), Rdr.put (Blk.drew hr) s.size (by go_num)⟩
  rw [← List.take_of_length_le (show (s.data.toList.drop a0).length ≤ s.size - a0 by rw [List.length_drop, size_len]; omega), ← extract_list]; rfl

end Go.Proofs.YtaoehdmdjplegaaGreatDoor
