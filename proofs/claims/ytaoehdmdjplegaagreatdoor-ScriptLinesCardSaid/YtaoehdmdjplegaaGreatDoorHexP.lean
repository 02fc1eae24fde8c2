/-
  Walks: script.hex: what it answers.
-/
import Derived.Test.YtaoehdmdjplegaaGreatDoorNumber
import Derived.Test.YtaoehdmdjplegaaGreatDoorBuilder
namespace Go.Proofs.YtaoehdmdjplegaaGreatDoor
open Go.RowKit Go.Shelf

theorem bytes_app (a b : List UInt8) : Lib.byteCells (a ++ b) = Lib.byteCells a ++ Lib.byteCells b := by unfold Lib.byteCells; rw [List.map_append]
theorem bytes_one (c : UInt8) : Lib.byteCells [c] = [.int .u8 (c.toNat : Nat)] := rfl
theorem bytes_len (l : List UInt8) : (Lib.byteCells l).length = l.length := by simp [Lib.byteCells]
/-- A builder that writes on. -/
theorem builder_wrote {T e : TypeId} {B b : Nat} {l : List UInt8} {c : Int} {x : UInt8} {w : World} (h : Lib.BuilderAtF T e B b (.pointer (some ⟨b, 0, none⟩)) (Lib.byteCells l ++ [.int .u8 c]) w) (hc : c = (x.toNat : Nat)) : Lib.IsBuilderF T e B b (Lib.byteCells (l ++ [x])) w := by
  subst hc
  rw [bytes_app, bytes_one]
  exact .inr h
theorem builder_new (w : World) : Lib.IsBuilderF 79 5 w.heap.size w.heap.size [] (w.alloc (.cells #[.pointer none, .slice none 0 0] 79)) :=
  .inl ⟨Nat.le_refl _, .slice none 0 0, heap_alloc_new w _, World.ownsRowF_nil _ _ _ _, by simp [Value.ownBlock]⟩
theorem digit16 {q : Nat} (h : q < 16) : ((⟨#[48, 49, 50, 51, 52, 53, 54, 55, 56, 57, 97, 98, 99, 100, 101, 102]⟩ : ByteArray)[q]'h) = hx q := by
  have key : ∀ q : Fin 16, ((⟨#[48, 49, 50, 51, 52, 53, 54, 55, 56, 57, 97, 98, 99, 100, 101, 102]⟩ : ByteArray)[q.val]'q.isLt) = hx q.val := by decide
  exact key ⟨q, h⟩
def HxA (l : List UInt8) (w0 : World) (i : Value) (w : World) : Prop := ∃ k : Nat, k ≤ l.length ∧ i = .int .i64 k ∧ Lib.IsBuilderF 79 5 w0.heap.size w0.heap.size (Lib.byteCells (hexs (l.take k))) w ∧ Below w0.heap.size w0 w

set_option maxRecDepth 100000 in
set_option maxHeartbeats 4000000 in
theorem hex_any (l : List UInt8) (hm : l.length ≤ 3000) (v : Value) (B : Nat) (w : World) (h : Byts w B v l) (hB : B ≤ w.heap.size) :
    Calls Tryz.prog 27 #[v] w fun e w' => e = .returned (.string (mkB (hexW l))) ∧ Below w.heap.size w w' := by
  obtain ⟨A, c, rfl, hc, hr⟩ := h
  have hb0 : Below w.heap.size w (w.alloc (.cells #[.pointer none, .slice none 0 0] 79)) := (Below.refl _ w).alloc (Nat.le_refl _) _
  have hn := builder_new w
  go_enter Tryz.func27, Tryz.ntmps27
  go_wp2_with fail
  go_loopw [8] (HxA l w) (fun i _ => l.length - (intOf i).toNat)
  case atStart => exact ⟨0, by omega, rfl, hn, hb0⟩
  case round =>
    obtain ⟨k, hk, rfl, hbd, hbw⟩ := hrel
    by_cases hlt : k < l.length
    · obtain ⟨ad, rfl, hb, hcell⟩ := byts_val (hr.below (hbw.mono hB)) hlt
      have hq : l[k].toNat / 16 < 16 := by have := l[k].toNat_lt; omega
      have hr2 : l[k].toNat % 16 < 16 := by omega
      have hS := hexs_len (l.take k)
      have hS2 : (l.take k).length ≤ l.length := by simp; omega
      have HT := Lib.hid (show hexs (l.take (k + 1)) = (hexs (l.take k) ++ [hx (l[k].toNat / 16)]) ++ [hx (l[k].toNat % 16)] by rw [List.take_succ_eq_append_getElem hlt, hexs_append]; simp [hexs, hexB])
      generalize hexs (l.take k) = S at *
      have HD := Lib.hid (digit16 hq)
      have HD2 := Lib.hid (digit16 hr2)
      have HW := Lib.hid (fun c => Tryz.Builder_WriteByte_k _ _ _ c wr hbd (by rw [bytes_len]; omega) hbw.size)
      go_wp2_with fail
      refine (HW.out _).mono ?_
      rintro e w2 ⟨rfl, h1, h2, h3⟩
      have hbd2 := builder_wrote h1 (x := hx (l[k].toNat / 16)) (by rw [HD.out])
      have hb2 := hbw.trans h2
      have HW2 := Lib.hid (fun c => Tryz.Builder_WriteByte_k _ _ _ c w2 hbd2 (by rw [bytes_len, List.length_append]; simp; omega) hb2.size)
      clear h1 HW hbd
      go_wp2_with fail
      refine (HW2.out _).mono ?_
      rintro e w3 ⟨rfl, h4, h5, h6⟩
      have hbd3 := builder_wrote h4 (x := hx (l[k].toNat % 16)) (by rw [HD2.out])
      clear h4 HW2 hbd2
      go_wp2_with fail
      go_round
      case rel => exact ⟨k + 1, by omega, by go_num, by rw [HT.out]; exact hbd3, hb2.trans h5⟩
      case measure => simp [intOf]; omega
    · have hke : l.take k = l := List.take_of_length_le (by omega)
      rw [hke] at hbd
      by_cases h0 : l = []
      · have HX := Lib.hid (show hexW l = [45] by unfold hexW; rw [if_pos h0])
        have hz : (((l.length : Nat) : Int) == 0) = true := by rw [h0]; rfl
        clear h0
        go_wp2_with fail
        go_ret
        exact ⟨by rw [HX.out]; rfl, hbw⟩
      · have HX := Lib.hid (show hexW l = hexs l by unfold hexW; rw [if_neg h0])
        have hz : (((l.length : Nat) : Int) == 0) = false := by
          rw [beq_eq_false_iff_ne]
          intro h
          exact h0 (List.eq_nil_of_length_eq_zero (by omega))
        have HS := Lib.hid (Tryz.Builder_String_any_f _ _ _ wr hbd hbw.size)
        clear h0
        go_wp2_with fail
        refine HS.out.mono ?_
        rintro e w2 ⟨rfl, h1, h2⟩
        go_wp2_with fail
        go_ret
        exact ⟨by rw [HX.out]; rfl, hbw.trans h2⟩

end Go.Proofs.YtaoehdmdjplegaaGreatDoor
