/-
  Walks: strings.IndexRune and ContainsRune at an ASCII text of 4 bytes or more, every rune from 0 on.
-/
import Derived.Test.YtpelapdadgmlkaaFixed
import Derived.Test.YtpelapdadgmlkaaRunePlain
namespace Go.Proofs.Ytpelapdadgmlkaa
open Go.RowKit

set_option maxRecDepth 100000 in
theorem indexRune_invalid (s : ByteArray) (r : Int) (w : World) (h : 128 ≤ r) (hne : r ≠ 65533) (hv : Lib.validRune r = false) :
    Calls Try.prog 164 #[.string s, .int .i32 r] w fun e w' => e = .returned (.int .i64 (-1)) ∧ w = w' := by
  have hr := Try.utf8_ValidRune r w
  rw [hv] at hr
  have h1 : (r == 65533) = false := by simp [hne]
  clear hv hne
  go_enter Try.func164, Try.ntmps164
  go_wp2_with fail
  refine hr.mono ?_
  rintro e w' ⟨rfl, rfl⟩
  go_wp2_with fail
  go_ret
  exact ⟨rfl, rfl⟩


theorem validRune_eq (r : Int) (h : Lib.validRune r = true) (h0 : 0 ≤ r) : Utf8.valid r = true := by
  simp [Lib.validRune] at h
  simp [Utf8.valid]
  omega

theorem indexByte_high (s : ByteArray) (hs : Ascii s) (x : UInt8) (hx : 128 ≤ x.toNat) (a b : Nat) (w : World) :
    Calls Try.prog 171 #[.string (s.extract a b), .int .u8 ((x.toNat : Nat) : Int)] w fun e w' => e = .returned (.int .i64 (-1)) ∧ w' = w := by
  refine (Try.strings_IndexByte (s.extract a b) ((x.toNat : Nat) : Int) w).mono fun e w' ⟨he, hw⟩ => ⟨?_, hw⟩
  rw [he, indexByte_none]
  intro y hy
  have h1 := hs y (extract_mem s a b y hy)
  have h2 : ((x.toNat : Int).toNat.toUInt8) = x := by simp
  rw [h2]
  intro e
  subst e
  omega

set_option maxRecDepth 100000 in
theorem indexRune_high (s : ByteArray) (r : Int) (w : World) (h : 128 ≤ r) (hne : r ≠ 65533) (hv : Lib.validRune r = true) (h4 : 4 ≤ s.size) (hs : s.size < 1000) (ha : Ascii s) :
    Calls Try.prog 164 #[.string s, .int .i32 r] w fun e w' => e = .returned (.int .i64 (-1)) ∧ Quiet w w' := by
  have hr := Try.utf8_ValidRune r w
  obtain ⟨m, hm3, hm, hlast⟩ := encode_last r (validRune_eq r hv (by omega)) h
  rw [hv] at hr
  have h1 : (r == 65533) = false := by simp [hne]
  have HL := Lib.hid hlast; clear hlast
  clear hv hne
  go_enter Try.func164, Try.ntmps164
  go_wp2_with fail
  refine hr.mono ?_
  rintro e w' ⟨rfl, rfl⟩
  go_wp2_with fail
  go_step3
  go_wp2_with fail
  have hms : m < s.size := by omega
  have hmr : m < (Utf8.encode r).size := by omega
  have hne : ((s[m].toNat : Int) != ((Utf8.encode r)[m].toNat : Int)) = true := by
    have h1 := ha s[m] (get_mem s m hms)
    have h2 := HL.out hmr
    simp
    omega
  refine wp_loop_rounds 1 ?_
  rw [rounds_succ]
  go_wp2_with fail
  go_step3
  go_wp2_with fail
  have i1 : (m : Int) < (s.size : Int) := by omega
  have i2 : (m : Int) < ((Utf8.encode r).size : Int) := by omega
  have hcall := indexByte_high s ha (Utf8.encode r)[m] (HL.out hmr) (m + 1) s.size
  have HM := Lib.hid hm; clear hm
  go_quiet (fail)
  go_wp2_with fail
  go_quiet ((go_at_call 171; exact quiet_add_same (hcall _)))
  go_wp2_with fail
  simp only [Exit.noGoto_ret, Exit.inBlock, Exit.then]
  go_ret
  exact ⟨rfl, (Quiet.refl _).drewN _⟩

theorem iter_below (w : World) (s : ByteArray) (k : Nat) : Below w.heap.size w (w.iter s k) :=
  ⟨rfl, rfl, rfl, by simp [World.iter], fun i hi => by
    show (w.heap.push _)[i]? = _
    rw [Array.getElem?_push, if_neg (by omega)]⟩

set_option maxRecDepth 100000 in
theorem indexRune_error (s : ByteArray) (w : World) (hs : s.size < 1000) (ha : Ascii s) :
    Calls Try.prog 164 #[.string s, .int .i32 65533] w fun e w' => e = .returned (.int .i64 (-1)) ∧ Below w.heap.size w w' := by
  go_enter Try.func164, Try.ntmps164
  go_wp2_with fail
  have hsz : (w.iter s 0).heap.size = w.heap.size + 1 := by simp [World.iter]
  go_loopw [5, 6] (fun _ _ wr => ∃ k : Nat, k ≤ s.size ∧ wr = w.iter s k) (fun _ _ wr => s.size - wr.iterPos w.heap.size)
  case atStart => exact ⟨0, by omega, rfl⟩
  case round =>
    obtain ⟨k, hk, rfl⟩ := hrel
    by_cases hlt : k < s.size
    · have h1 := ha s[k] (get_mem s k hlt)
      have hx := fun ty => run_next_ascii (P := Try.prog) w s k ty hlt h1
      have hne : ((s[k].toNat : Int) == 65533) = false := by simp; omega
      clear h1
      go_wp2_with fail
      go_roundw
      case rel => exact ⟨k + 1, by omega, rfl⟩
      case measure => simp; omega
    · have hx := fun ty => run_next_end (P := Try.prog) w s k ty hlt
      go_wp2_with fail
      go_ret
      exact ⟨rfl, iter_below w s k⟩

set_option maxRecDepth 100000 in
theorem containsRune_any (s : ByteArray) (r : Int) (w : World) (h0 : 0 ≤ r) (h4 : 4 ≤ s.size) (hs : s.size < 1000) (ha : Ascii s) :
    Calls Try.prog 150 #[.string s, .int .i32 r] w fun e w' => e = .returned (.bool (memb s.data.toList r)) ∧ Below w.heap.size w w' := by
  by_cases h : r < 128
  · refine (Try.strings_ContainsRune_ascii s r w h0 h).mono fun e w' ⟨he, hw⟩ => ⟨?_, by rw [hw]; exact Below.refl _ _⟩
    rw [he]
    congr 2
    rw [Bool.eq_iff_iff, decide_eq_true_iff, indexByte_memb]
    simp only [memb, List.any_eq_true, beq_iff_eq]
    constructor
    · intro hm
      exact ⟨_, hm, by simp; omega⟩
    · rintro ⟨b, hb, rfl⟩
      simpa using hb
  · rw [memb_high ha (by omega)]
    have hi : Calls Try.prog 164 #[.string s, .int .i32 r] w fun e w' => e = .returned (.int .i64 (-1)) ∧ Below w.heap.size w w' := by
      by_cases he : r = 65533
      · subst he
        exact indexRune_error s w hs ha
      · cases hv : Lib.validRune r with
        | false => exact (indexRune_invalid s r w (by omega) he hv).mono fun e w' ⟨h1, h2⟩ => ⟨h1, by rw [← h2]; exact Below.refl _ _⟩
        | true => exact (indexRune_high s r w (by omega) he hv h4 hs ha).mono fun e w' ⟨h1, h2⟩ => ⟨h1, h2.below _⟩
    go_enter Try.func150, Try.ntmps150
    go_wp2_with fail
    refine hi.mono ?_
    rintro e w1 ⟨rfl, hb⟩
    go_wp2_with fail
    go_ret
    exact ⟨rfl, hb⟩
end Go.Proofs.Ytpelapdadgmlkaa
