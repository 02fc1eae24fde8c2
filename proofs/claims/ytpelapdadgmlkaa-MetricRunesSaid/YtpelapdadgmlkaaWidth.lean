/-
  Walks: metric.Width and Count.
-/
import Derived.Test.YtpelapdadgmlkaaMetric2
import Derived.Test.YtpelapdadgmlkaaCodesPlain
import Derived.Lib.OthersKept
namespace Go.Proofs.Ytpelapdadgmlkaa
open Go.RowKit

theorem iterPos_of {w : World} {k : Nat} {s : ByteArray} {p : Nat} (h : w.heap[k]? = some (.stringIter s p)) : w.iterPos k = p := by
  simp [World.iterPos, h]

theorem width_any (s : ByteArray) (font : Int) (w : World) (hs : s.size ≤ 140737488351232) :
    Calls Try.prog 67 #[.string s, .int .i64 font] w fun e w' => e = .returned (.tuple #[.int .i64 (widthR s font).1, .int .i64 (widthR s font).2]) ∧ Below w.heap.size w w' := by
  have htot := sumShare_bd (codes s)
  have hlen := codesAt_len s _ 0 (Nat.le_refl _)
  rw [← codes_eq] at hlen
  go_enter Try.func67, Try.ntmps67
  go_wp2_with fail
  go_loopw [6, 8] (fun n _ wr => ∃ (pos : Nat) (acc : Int), n = .int .i64 acc ∧ 0 ≤ acc ∧ Hid (acc + sumShare (codesAt s pos) = sumShare (codes s)) ∧ wr.heap[w.heap.size]? = some (.stringIter s pos) ∧ Below w.heap.size w wr)
    (fun _ _ wr => s.size - wr.iterPos w.heap.size)
  case atStart => exact ⟨0, 0, rfl, by omega, by show _ = _; rw [codes_eq]; omega, World.iter_heap _ _ _, iter_below _ _ _⟩
  case round =>
    obtain ⟨pos, acc, rfl, hacc, HE, hit, hbr⟩ := hrel
    by_cases hlt : pos < s.size
    · have hx := fun ty => Lib.run_next_any_at (P := Try.prog) wr w.heap.size s pos ty hit hlt
      have hb' := Lib.below_iterAt hbr (Nat.le_refl _) s (pos + (Utf8.decode s pos).2)
      have hit' := Lib.iterAt_heap wr w.heap.size s pos (pos + (Utf8.decode s pos).2) hit
      have HD := Lib.hid (decode_pos s pos)
      have HS := Lib.hid (codesAt_step s pos hlt)
      have hsb := share_bd ((Utf8.decode s pos).1 : Int)
      have hrem := sumShare_bd (codesAt s (pos + (Utf8.decode s pos).2))
      have hup : acc + share ((Utf8.decode s pos).1 : Int) ≤ 64 * 140737488351232 := by
        have h1 := HE.out
        rw [HS.out, sumShare_cons] at h1
        omega
      have hsz := (Lib.iterAt_size wr w.heap.size s (pos + (Utf8.decode s pos).2))
      have hit0 := hit
      clear hit
      go_wp2_with fail
      refine (share_any _ _).mono ?_
      rintro e w2 ⟨rfl, hb2⟩
      go_wp2_with fail
      have hit2 := (hb2.block w.heap.size (by rw [hsz]; have := hbr.size; exact (Array.getElem?_eq_some_iff.1 hit').1 |> fun h => by rw [hsz] at h; exact h)).trans hit'
      go_roundw
      case rel => exact ⟨_, _, rfl, by omega, by
        have h1 := HE.out
        rw [HS.out, sumShare_cons] at h1
        show _ = _
        omega, hit2, hb'.trans (hb2.mono (by rw [hsz]; exact hbr.size))⟩
      case measure =>
        rw [iterPos_of hit2, iterPos_of hit0]
        have := HD.out
        omega
    · have hx := fun ty => Lib.run_next_end_at (P := Try.prog) wr w.heap.size s pos ty hit hlt
      have hacc2 : acc = sumShare (codes s) := by
        have h1 := HE.out
        rw [codesAt_end s pos hlt] at h1
        simpa [sumShare] using h1
      have HA := Lib.hid hacc2; clear hacc2
      go_wp2_with fail
      refine (times_any acc font wr hacc).mono ?_
      rintro e w2 ⟨rfl, rfl⟩
      go_wp2_with fail
      go_ret2
      exact ⟨by rw [widthR, ← HA.out]; rfl, hbr⟩

theorem count_any (s : ByteArray) (w : World) (hs : s.size ≤ 140737488351232) :
    Calls Try.prog 69 #[.string s] w fun e w' => e = .returned (.int .i64 (codes s).length) ∧ Below w.heap.size w w' := by
  have hlen := codesAt_len s _ 0 (Nat.le_refl _)
  rw [← codes_eq] at hlen
  go_enter Try.func69, Try.ntmps69
  go_wp2_with fail
  go_loopw [3] (fun n wr => ∃ (pos acc : Nat), n = .int .i64 acc ∧ Hid (acc + (codesAt s pos).length = (codes s).length) ∧ wr.heap[w.heap.size]? = some (.stringIter s pos) ∧ Below w.heap.size w wr)
    (fun _ wr => s.size - wr.iterPos w.heap.size)
  case atStart => exact ⟨0, 0, rfl, by show _ = _; rw [codes_eq]; omega, World.iter_heap _ _ _, iter_below _ _ _⟩
  case round =>
    obtain ⟨pos, acc, rfl, HE, hit, hbr⟩ := hrel
    by_cases hlt : pos < s.size
    · have hx := fun ty => Lib.run_next_any_at (P := Try.prog) wr w.heap.size s pos ty hit hlt
      have hb' := Lib.below_iterAt hbr (Nat.le_refl _) s (pos + (Utf8.decode s pos).2)
      have hit' := Lib.iterAt_heap wr w.heap.size s pos (pos + (Utf8.decode s pos).2) hit
      have HD := Lib.hid (decode_pos s pos)
      have HS := Lib.hid (codesAt_step s pos hlt)
      have hup : acc + 1 ≤ 140737488351232 := by
        have h1 := HE.out
        rw [HS.out, List.length_cons] at h1
        omega
      have hit0 := hit
      clear hit
      go_wp2_with fail
      go_roundw
      case rel => exact ⟨_, acc + 1, by go_num, by
        have h1 := HE.out
        rw [HS.out, List.length_cons] at h1
        show _ = _
        omega, hit', hb'⟩
      case measure =>
        rw [iterPos_of hit', iterPos_of hit0]
        have := HD.out
        omega
    · have hx := fun ty => Lib.run_next_end_at (P := Try.prog) wr w.heap.size s pos ty hit hlt
      have hacc2 : acc = (codes s).length := by
        have h1 := HE.out
        rw [codesAt_end s pos hlt] at h1
        simpa using h1
      have HA := Lib.hid hacc2; clear hacc2
      go_wp2_with fail
      go_ret
      exact ⟨by rw [← HA.out]; rfl, hbr⟩
end Go.Proofs.Ytpelapdadgmlkaa
