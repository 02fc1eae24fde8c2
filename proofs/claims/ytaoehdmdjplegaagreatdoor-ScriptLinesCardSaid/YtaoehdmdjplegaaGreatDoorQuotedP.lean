/-
  Walks: script.quoted: what it answers.
-/
import Derived.Test.YtaoehdmdjplegaaGreatDoorHexP
namespace Go.Proofs.YtaoehdmdjplegaaGreatDoor
open Go.RowKit Go.Shelf

theorem builder_own {β : Type} (B : Nat) (T e : TypeId) (n b : Nat) (f : β → List Value) : OwnFrom B (fun (s : β) W => Lib.IsBuilderF T e n b (f s) W) := fun s X Y row hs hg hr => by
  have ne : ∀ k c t fz, X.heap[k]? = some (.cells c t fz) → some k ≠ row := fun k c t fz h e => by
    obtain ⟨_, o, ho, hc⟩ := hr k e.symm
    rw [h] at ho
    cases ho
    cases hc
  have key : ∀ p, Lib.BuilderAtF T e n b p (f s) X → Lib.BuilderAtF T e n b p (f s) Y := fun p ⟨hb, v, hk, hv, hne⟩ => by
    have hlt : b < X.heap.size := (Array.getElem?_eq_some_iff.1 hk).1
    refine ⟨hb, v, (hg.block b hlt (ne _ _ _ _ hk)).trans hk, hv.kept hg ?_, hne⟩
    rcases hv.2 with ⟨rfl, _⟩ | ⟨g, cap, cur, fz, rfl, _, hgk, _⟩
    · exact .inl rfl
    · exact .inr (fun e => ne _ _ _ _ hgk (by simpa [Value.ownBlock] using e))
  exact hs.imp (key _) (key _)
theorem isBuilder_below {T e : TypeId} {n b : Nat} {bs : List Value} {X Y : World} (h : Lib.IsBuilderF T e n b bs X) (hb : Below X.heap.size X Y) : Lib.IsBuilderF T e n b bs Y :=
  builder_own (β := Unit) 0 T e n b (fun _ => bs) () X Y none h ⟨hb.os, hb.tape, hb.output, hb.size, fun k hk _ => hb.block k hk⟩ (fun r e => by cases e)
theorem builder_more {T e : TypeId} {B b : Nat} {l : List UInt8} {x : List UInt8} {s : ByteArray} {w : World} (h : Lib.BuilderAtF T e B b (.pointer (some ⟨b, 0, none⟩)) (Lib.byteCells l ++ Lib.byteCells s.data.toList) w) (hs : s = mkB x) : Lib.IsBuilderF T e B b (Lib.byteCells (l ++ x)) w := by
  subst hs
  rw [bytes_app]
  exact .inr h
theorem byts_one (w : World) (c : UInt8) (t : TypeId) : Byts (w.alloc (.cells #[.int .u8 (c.toNat : Nat)] t)) (w.heap.size + 1) (.slice (some ⟨w.heap.size, 0, none⟩) 1 1) [c] := by
  refine ⟨_, _, rfl, Nat.le_refl _, by simp, fun hn => ⟨_, rfl, by simp, fun j u hu => ?_⟩⟩
  have e : (⟨w.heap.size, 0, none⟩ : Addr).add j = ⟨w.heap.size, j, none⟩ := by unfold Addr.add; split <;> simp_all
  rw [e, (Blk.new w t #[.int .u8 (c.toNat : Nat)]).cell j]
  simpa using hu
def QpA (s : ByteArray) (w0 : World) (i : Value) (w : World) : Prop := ∃ k : Nat, k ≤ s.size ∧ i = .int .i64 k ∧ Lib.IsBuilderF 79 5 w0.heap.size w0.heap.size (Lib.byteCells (34 :: escs (s.data.toList.take k))) w ∧ Below w0.heap.size w0 w

set_option maxRecDepth 100000 in
set_option maxHeartbeats 4000000 in
theorem quoted_any (s : ByteArray) (hs : s.size ≤ 5000) (w : World) :
    Calls Tryz.prog 28 #[.string s] w fun e w' => e = .returned (.string (mkB (quoted s.data.toList))) ∧ Below w.heap.size w w' := by
  have hb0 : Below w.heap.size w (w.alloc (.cells #[.pointer none, .slice none 0 0] 79)) := (Below.refl _ w).alloc (Nat.le_refl _) _
  have hn := builder_new w
  have HN := Lib.hid (fun c => Tryz.Builder_WriteByte_k _ _ [] c _ hn (by simp) hb0.size)
  go_enter Tryz.func28, Tryz.ntmps28
  go_wp2_with fail
  refine (HN.out _).mono ?_
  rintro e w1 ⟨rfl, h1, h2, h3⟩
  have hbd1 : Lib.IsBuilderF 79 5 w.heap.size w.heap.size (Lib.byteCells [34]) w1 := .inr h1
  have hb1 := hb0.trans h2
  clear HN h1 h2 h3 hn hb0
  go_wp2_with fail
  go_loopw [9] (QpA s w) (fun i _ => s.size - (intOf i).toNat)
  case atStart => exact ⟨0, by omega, rfl, hbd1, hb1⟩
  case round =>
    obtain ⟨k, hk, rfl, hbd, hbw⟩ := hrel
    by_cases hlt : k < s.size
    · have HT := Lib.hid (show 34 :: escs (s.data.toList.take (k + 1)) = (34 :: escs (s.data.toList.take k)) ++ escB s[k] by rw [take_one hlt, escs_append]; simp [escs])
      have hlen := escs_len (s.data.toList.take k)
      have hlen2 := take_len s k
      have hSl : (34 :: escs (s.data.toList.take k)).length ≤ 20001 := by simp; omega
      generalize 34 :: escs (s.data.toList.take k) = S at *
      have HW := Lib.hid (fun c => Tryz.Builder_WriteByte_k _ _ _ c wr hbd (by rw [bytes_len]; omega) hbw.size)
      have HWS := Lib.hid (fun (x : List UInt8) (hx : x.length ≤ 10) => Tryz.Builder_WriteString_k _ _ _ (mkB x) wr hbd (by rw [bytes_len, mkB_size]; omega) hbw.size)
      by_cases h34 : s[k].toNat = 34 ∨ s[k].toNat = 92
      · have HE := Lib.hid (show escB s[k] = [92] ++ [s[k]] by
          unfold escB
          rw [if_pos (by
            rcases h34 with h | h
            · exact Or.inl (UInt8.toNat_inj.1 h)
            · exact Or.inr (UInt8.toNat_inj.1 h))]
          rfl)
        rcases h34 with h34 | h34
        all_goals
          first
          | have e1 : (((s[k].toNat : Nat) : Int) == (34 : Int)) = true := eq8 h34
          | have e1 : (((s[k].toNat : Nat) : Int) == (92 : Int)) = true := eq8 h34
          go_wp2_with fail
          refine (HW.out _).mono ?_
          rintro e w2 ⟨rfl, h1, h2, h3⟩
          have hbd2 := builder_wrote h1 (x := 92) rfl
          have hb2 := hbw.trans h2
          have HW2 := Lib.hid (fun c => Tryz.Builder_WriteByte_k _ _ _ c w2 hbd2 (by rw [bytes_len, List.length_append]; simp; omega) hb2.size)
          clear h1 HW hbd HWS
          go_wp2_with fail
          refine (HW2.out _).mono ?_
          rintro e w3 ⟨rfl, h4, h5, h6⟩
          have hbd3 := builder_wrote h4 (x := s[k]) (by first | rfl | omega)
          clear h4 HW2 hbd2
          go_wp2_with fail
          go_round
          case rel => exact ⟨k + 1, by omega, by go_num, by rw [HT.out, HE.out, ← List.append_assoc]; exact hbd3, hb2.trans h5⟩
          case measure => simp [intOf]; omega
      · have h34a : s[k].toNat ≠ 34 := fun h => h34 (Or.inl h)
        have h92a : s[k].toNat ≠ 92 := fun h => h34 (Or.inr h)
        have n34 : (((s[k].toNat : Nat) : Int) == (34 : Int)) = false := neq8 h34a
        have n92 : (((s[k].toNat : Nat) : Int) == (92 : Int)) = false := neq8 h92a
        have hN : ¬ (s[k] = 34 ∨ s[k] = 92) := by
          rintro (h | h)
          · exact h34a (by rw [h]; rfl)
          · exact h92a (by rw [h]; rfl)
        by_cases h10 : s[k].toNat = 10
        · have e1 : (((s[k].toNat : Nat) : Int) == (10 : Int)) = true := eq8 h10
          have HE := Lib.hid (show escB s[k] = [92, 110] by unfold escB; rw [if_neg hN, if_pos (UInt8.toNat_inj.1 h10)])
          go_wp2_with fail
          refine (HWS.out [92, 110] (by simp)).mono ?_
          rintro e w2 ⟨rfl, h1, h2, h3⟩
          have hbd2 := builder_more h1 (x := [92, 110]) rfl
          clear h1 HW hbd HWS
          go_wp2_with fail
          go_round
          case rel => exact ⟨k + 1, by omega, by go_num, by rw [HT.out, HE.out]; exact hbd2, hbw.trans h2⟩
          case measure => simp [intOf]; omega
        · have n10 : (((s[k].toNat : Nat) : Int) == (10 : Int)) = false := neq8 h10
          have hN2 : ¬ s[k] = 10 := fun h => h10 (by rw [h]; rfl)
          by_cases hp : 32 ≤ s[k].toNat ∧ s[k].toNat ≤ 126
          · obtain ⟨hp1, hp2⟩ := hp
            have HE := Lib.hid (show escB s[k] = [s[k]] by unfold escB; rw [if_neg hN, if_neg hN2, if_pos ⟨hp1, hp2⟩])
            go_wp2_with fail
            refine (HW.out _).mono ?_
            rintro e w2 ⟨rfl, h1, h2, h3⟩
            have hbd2 := builder_wrote h1 (x := s[k]) rfl
            clear h1 HW hbd HWS
            go_wp2_with fail
            go_round
            case rel => exact ⟨k + 1, by omega, by go_num, by rw [HT.out, HE.out]; exact hbd2, hbw.trans h2⟩
            case measure => simp [intOf]; omega
          · have HE := Lib.hid (show escB s[k] = [92, 120] ++ hexB s[k] by unfold escB; rw [if_neg hN, if_neg hN2, if_neg hp]; rfl)
            have hxw : hexW [s[k]] = hexB s[k] := by unfold hexW; rw [if_neg (by simp)]; simp [hexs]
            have z5 : (mkB (hexB s[k])).size = 2 := by rw [mkB_size]; rfl
            have HB := Lib.hid (byts_one wr s[k] 5)
            have hp' : s[k].toNat < 32 ∨ 126 < s[k].toNat := by omega
            clear hp
            rcases hp' with hp1 | hp1
            all_goals
              go_wp2_with fail
              refine (hex_any [s[k]] (by simp) _ _ _ HB.out (by simp)).mono ?_
              rintro e w2 ⟨rfl, hb2⟩
              rw [hxw]
              have hba : Below wr.heap.size wr w2 := ((Below.refl _ _).alloc (Nat.le_refl _) _).trans (hb2.mono (by simp))
              have hbd2 := isBuilder_below hbd hba
              have hbw2 := hbw.trans (hba.mono hbw.size)
              have HWS2 := Lib.hid (fun (x : List UInt8) (hx : x.length ≤ 10) => Tryz.Builder_WriteString_k _ _ _ (mkB x) w2 hbd2 (by rw [bytes_len, mkB_size]; omega) hbw2.size)
              clear HW hbd HWS HB
              go_wp2_with fail
              refine (HWS2.out ([92, 120] ++ hexB s[k]) (by simp [hexB])).mono ?_
              rintro e w3 ⟨rfl, h1, h2, h3⟩
              have hbd3 := builder_more h1 (x := [92, 120] ++ hexB s[k]) rfl
              clear h1 HWS2 hbd2
              go_wp2_with fail
              go_round
              case rel => exact ⟨k + 1, by omega, by go_num, by rw [HT.out, HE.out]; exact hbd3, hbw2.trans h2⟩
              case measure => simp [intOf]; omega
    · obtain rfl : k = s.size := by omega
      rw [take_all_] at hbd
      have hb := escs_len s.data.toList
      rw [size_len] at hb
      have HQ := Lib.hid (show quoted s.data.toList = (34 :: escs s.data.toList) ++ [34] from rfl)
      have HW := Lib.hid (fun c => Tryz.Builder_WriteByte_k _ _ _ c wr hbd (by rw [bytes_len]; simp; omega) hbw.size)
      go_wp2_with fail
      refine (HW.out _).mono ?_
      rintro e w2 ⟨rfl, h1, h2, h3⟩
      have hbd2 := builder_wrote h1 (x := 34) rfl
      have hb2 := hbw.trans h2
      have HS := Lib.hid (Tryz.Builder_String_any_f _ _ _ w2 hbd2 hb2.size)
      clear HW h1 hbd
      go_wp2_with fail
      refine HS.out.mono ?_
      rintro e w3 ⟨rfl, h4, h5⟩
      go_wp2_with fail
      go_ret
      exact ⟨by rw [HQ.out]; rfl, hb2.trans h5⟩

end Go.Proofs.YtaoehdmdjplegaaGreatDoor
