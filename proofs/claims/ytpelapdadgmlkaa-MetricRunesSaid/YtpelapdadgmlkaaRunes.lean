/-
  Walks: the law MetricRunes.
-/
import Derived.Test.YtpelapdadgmlkaaBeside
import Derived.Test.YtpelapdadgmlkaaEncPlain
namespace Go.Proofs.Ytpelapdadgmlkaa
open Go.RowKit

@[go_sem] theorem one_byte (w : World) (c : Int) : Sem.run Try.prog (convert 64 9 (.slice (some ⟨w.heap.size, 0, none⟩) 1 1)) (w.alloc (.cells #[.int .u8 c] 5)) = .ok (.string ⟨#[UInt8.ofNat c.toNat]⟩) (w.alloc (.cells #[.int .u8 c] 5)) := by
  refine run_convert_bytes_arg _ 64 5 Try.underlying64 Try.underlying5 _ 0 1 1 [c] rfl ?_ 9 Try.underlying9
  intro i hi
  obtain rfl : i = 0 := by omega
  rw [World.cell?_alloc_at _ _ _ _ rfl]
  rfl
@[go_sem] theorem two_bytes (w : World) (c : Int) : Sem.run Try.prog (convert 64 9 (.slice (some ⟨w.heap.size, 0, none⟩) 2 2)) (w.alloc (.cells #[.int .u8 c, .int .u8 c] 5)) = .ok (.string ⟨#[UInt8.ofNat c.toNat, UInt8.ofNat c.toNat]⟩) (w.alloc (.cells #[.int .u8 c, .int .u8 c] 5)) := by
  refine run_convert_bytes_arg _ 64 5 Try.underlying64 Try.underlying5 _ 0 2 2 [c, c] rfl ?_ 9 Try.underlying9
  intro i hi
  rw [World.cell?_alloc_at _ _ _ _ rfl]
  obtain rfl | rfl : i = 0 ∨ i = 1 := by omega
  · rfl
  · rfl
theorem or_bits (b : Int) (b1 : 0 ≤ b) (b2 : b < 256) : 128 ≤ (UInt8.ofNat (bits BinOp.or IntKind.u8 b 128).toNat).toNat := by
  have key : ∀ k : Fin 256, 128 ≤ (UInt8.ofNat (bits BinOp.or IntKind.u8 (k.val : Int) 128).toNat).toNat := by decide +kernel
  have := key ⟨b.toNat, by omega⟩
  rwa [show ((b.toNat : Nat) : Int) = b from Int.toNat_of_nonneg b1] at this
theorem u8_bounds {n : Int} (h : (Lit.int .u8 n).wf = true) : 0 ≤ n ∧ n ≤ 255 := by
  simp [Lit.wf, IntKind.min, IntKind.max, IntKind.signed, IntKind.bits] at h
  exact ⟨by omega, by omega⟩
theorem below_new (w : World) (o : Obj) : Below w.heap.size w (w.alloc o) := Below.alloc (Below.refl _ _) (Nat.le_refl _) o
theorem share_mul (r font : Int) (h1 : 1 ≤ font) (h2 : font ≤ 1000) : 0 ≤ share r * font ∧ share r * font ≤ 64000 := by
  have hs := share_bd r
  exact ⟨Int.mul_nonneg hs.1 (by omega), Int.le_trans (Int.mul_le_mul_of_nonneg_right hs.2 (by omega)) (by omega)⟩
theorem wrap_font (font : Int) (h1 : 1 ≤ font) (h2 : font ≤ 1000) : IntKind.i64.wrap (64 * font) = 64 * font := wrap_small _ (by omega) (by omega)
set_option maxRecDepth 100000 in
set_option maxHeartbeats 2000000 in
theorem metricRunes_walk (r : Int) (b : Int) (font : Int) (w : World) (r1 : -2147483648 ≤ r) (r2 : r < 2147483648) (b1 : 0 ≤ b) (b2 : b < 256) :
    LawReturns 12 #[.int .i32 r, .int .u8 b, .int .i64 font] w := by
  unfold LawReturns
  by_cases g3 : font < 1
  · have hc := fun w => width_any ⟨#[97]⟩ font w (by decide)
    have e : widthR ⟨#[97]⟩ font = (0, 2) := by unfold widthR timesR; rw [if_pos (Or.inl g3)]
    rw [e] at hc
    go_enter Try.func12, Try.ntmps12
    go_wp2_with fail
    refine (awake08 _).mono ?_
    rintro e w1 ⟨rfl, h1⟩
    go_wp2_with fail
    refine (hc _).mono ?_
    rintro e w2 ⟨rfl, h2⟩
    go_wp2_with fail
    go_ret
    exact ⟨rfl, below2 h1 h2⟩
  by_cases g4 : 1000 < font
  · have hc := fun w => width_any ⟨#[97]⟩ font w (by decide)
    have e : widthR ⟨#[97]⟩ font = (0, 2) := by unfold widthR timesR; rw [if_pos (Or.inr (by omega))]
    rw [e] at hc
    go_enter Try.func12, Try.ntmps12
    go_wp2_with fail
    refine (awake08 _).mono ?_
    rintro e w1 ⟨rfl, h1⟩
    go_wp2_with fail
    refine (hc _).mono ?_
    rintro e w2 ⟨rfl, h2⟩
    go_wp2_with fail
    go_ret
    exact ⟨rfl, below2 h1 h2⟩
  have ha := fun w => width_ok (Utf8.encode r) font w (Nat.le_trans (encode_size_le r) (by omega)) (by omega) (by omega)
  rw [codes_enc] at ha
  have hC := or_bits b b1 b2
  have hb := fun w => width_ok ⟨#[UInt8.ofNat (bits BinOp.or IntKind.u8 b 128).toNat]⟩ font w (by show 1 ≤ 10000; omega) (by omega) (by omega)
  rw [codes_loose _ hC] at hb
  have kb := fun w => count_any ⟨#[UInt8.ofNat (bits BinOp.or IntKind.u8 b 128).toNat, UInt8.ofNat (bits BinOp.or IntKind.u8 b 128).toNat]⟩ w (by show 2 ≤ 140737488351232; omega)
  rw [codes_loose2 _ hC] at kb
  have kb : ∀ w, Calls Try.prog 69 #[.string ⟨#[UInt8.ofNat (bits BinOp.or IntKind.u8 b 128).toNat, UInt8.ofNat (bits BinOp.or IntKind.u8 b 128).toNat]⟩] w fun e w' => e = .returned (.int .i64 2) ∧ Below w.heap.size w w' := kb
  have e65 : sumShare [(65533 : Int)] = 64 := by decide +kernel
  rw [e65] at hb
  have e64 : share 65533 = 64 := by decide +kernel
  have ew := wrap_font font (by omega) (by omega)
  have es := share_bd r
  rcases (by omega : (r < 0) ∨ (1114111 < r) ∨ (55296 ≤ r ∧ r ≤ 57343) ∨ (0 ≤ r ∧ r < 55296) ∨ (57343 < r ∧ r ≤ 1114111)) with hr | hr | hr | hr | hr
  · have et : tidy r = 65533 := by unfold tidy; simp [Utf8.valid]; omega
    have ka : ∀ w, Calls Try.prog 69 #[.string (Utf8.encode 65533)] w fun e w' => e = .returned (.int .i64 1) ∧ Below w.heap.size w w' := fun w => by
      have := count_any (Utf8.encode 65533) w (Nat.le_trans (encode_size_le _) (by omega))
      rw [codes_enc] at this
      exact this
    rw [et] at ha
    rw [e65] at ha
    go_enter Try.func12, Try.ntmps12
    go_wp2_with fail
    refine (awake08 _).mono ?_
    rintro e w1 ⟨rfl, h1⟩
    go_wp2_with fail
    refine (ha _).mono ?_
    rintro e w2 ⟨rfl, h2⟩
    go_wp2_with fail
    refine (hb _).mono ?_
    rintro e w3 ⟨rfl, h3⟩
    go_wp2_with fail
    refine (share_any _ _).mono ?_
    rintro e w4 ⟨rfl, h4⟩
    rw [e64]
    go_wp2_with fail
    refine (ka _).mono ?_
    rintro e w5 ⟨rfl, h5⟩
    go_wp2_with fail
    refine (kb _).mono ?_
    rintro e w6 ⟨rfl, h6⟩
    go_wp2_with fail
    go_ret
    exact ⟨rfl, below2 (below2 (below2 (below2 (below2 (below2 (below2 h1 h2) (below_new _ _)) h3) h4) h5) (below_new _ _)) h6⟩
  · have et : tidy r = 65533 := by unfold tidy; simp [Utf8.valid]; omega
    have ka : ∀ w, Calls Try.prog 69 #[.string (Utf8.encode 65533)] w fun e w' => e = .returned (.int .i64 1) ∧ Below w.heap.size w w' := fun w => by
      have := count_any (Utf8.encode 65533) w (Nat.le_trans (encode_size_le _) (by omega))
      rw [codes_enc] at this
      exact this
    rw [et] at ha
    rw [e65] at ha
    go_enter Try.func12, Try.ntmps12
    go_wp2_with fail
    refine (awake08 _).mono ?_
    rintro e w1 ⟨rfl, h1⟩
    go_wp2_with fail
    refine (ha _).mono ?_
    rintro e w2 ⟨rfl, h2⟩
    go_wp2_with fail
    refine (hb _).mono ?_
    rintro e w3 ⟨rfl, h3⟩
    go_wp2_with fail
    refine (share_any _ _).mono ?_
    rintro e w4 ⟨rfl, h4⟩
    rw [e64]
    go_wp2_with fail
    refine (ka _).mono ?_
    rintro e w5 ⟨rfl, h5⟩
    go_wp2_with fail
    refine (kb _).mono ?_
    rintro e w6 ⟨rfl, h6⟩
    go_wp2_with fail
    go_ret
    exact ⟨rfl, below2 (below2 (below2 (below2 (below2 (below2 (below2 h1 h2) (below_new _ _)) h3) h4) h5) (below_new _ _)) h6⟩
  · have et : tidy r = 65533 := by unfold tidy; simp [Utf8.valid]; omega
    have ka : ∀ w, Calls Try.prog 69 #[.string (Utf8.encode 65533)] w fun e w' => e = .returned (.int .i64 1) ∧ Below w.heap.size w w' := fun w => by
      have := count_any (Utf8.encode 65533) w (Nat.le_trans (encode_size_le _) (by omega))
      rw [codes_enc] at this
      exact this
    rw [et] at ha
    rw [e65] at ha
    go_enter Try.func12, Try.ntmps12
    go_wp2_with fail
    refine (awake08 _).mono ?_
    rintro e w1 ⟨rfl, h1⟩
    go_wp2_with fail
    refine (ha _).mono ?_
    rintro e w2 ⟨rfl, h2⟩
    go_wp2_with fail
    refine (hb _).mono ?_
    rintro e w3 ⟨rfl, h3⟩
    go_wp2_with fail
    refine (share_any _ _).mono ?_
    rintro e w4 ⟨rfl, h4⟩
    rw [e64]
    go_wp2_with fail
    refine (ka _).mono ?_
    rintro e w5 ⟨rfl, h5⟩
    go_wp2_with fail
    refine (kb _).mono ?_
    rintro e w6 ⟨rfl, h6⟩
    go_wp2_with fail
    go_ret
    exact ⟨rfl, below2 (below2 (below2 (below2 (below2 (below2 (below2 h1 h2) (below_new _ _)) h3) h4) h5) (below_new _ _)) h6⟩
  · have et : tidy r = r := by unfold tidy; simp [Utf8.valid]; omega
    have ka : ∀ w, Calls Try.prog 69 #[.string (Utf8.encode r)] w fun e w' => e = .returned (.int .i64 1) ∧ Below w.heap.size w w' := fun w => by
      have := count_any (Utf8.encode r) w (Nat.le_trans (encode_size_le _) (by omega))
      rw [codes_enc] at this
      exact this
    rw [et] at ha
    rw [show sumShare [r] = share r by rw [sumShare_cons]; simp [sumShare]] at ha
    have q := share_mul r font (by omega) (by omega)
    go_enter Try.func12, Try.ntmps12
    go_wp2_with fail
    refine (awake08 _).mono ?_
    rintro e w1 ⟨rfl, h1⟩
    go_wp2_with fail
    refine (ha _).mono ?_
    rintro e w2 ⟨rfl, h2⟩
    go_wp2_with fail
    refine (hb _).mono ?_
    rintro e w3 ⟨rfl, h3⟩
    go_wp2_with fail
    refine (share_any _ _).mono ?_
    rintro e w4 ⟨rfl, h4⟩
    go_wp2_with fail
    refine (ka _).mono ?_
    rintro e w5 ⟨rfl, h5⟩
    go_wp2_with fail
    refine (kb _).mono ?_
    rintro e w6 ⟨rfl, h6⟩
    go_wp2_with fail
    go_ret
    exact ⟨rfl, below2 (below2 (below2 (below2 (below2 (below2 (below2 h1 h2) (below_new _ _)) h3) h4) h5) (below_new _ _)) h6⟩
  · have et : tidy r = r := by unfold tidy; simp [Utf8.valid]; omega
    have ka : ∀ w, Calls Try.prog 69 #[.string (Utf8.encode r)] w fun e w' => e = .returned (.int .i64 1) ∧ Below w.heap.size w w' := fun w => by
      have := count_any (Utf8.encode r) w (Nat.le_trans (encode_size_le _) (by omega))
      rw [codes_enc] at this
      exact this
    rw [et] at ha
    rw [show sumShare [r] = share r by rw [sumShare_cons]; simp [sumShare]] at ha
    have q := share_mul r font (by omega) (by omega)
    go_enter Try.func12, Try.ntmps12
    go_wp2_with fail
    refine (awake08 _).mono ?_
    rintro e w1 ⟨rfl, h1⟩
    go_wp2_with fail
    refine (ha _).mono ?_
    rintro e w2 ⟨rfl, h2⟩
    go_wp2_with fail
    refine (hb _).mono ?_
    rintro e w3 ⟨rfl, h3⟩
    go_wp2_with fail
    refine (share_any _ _).mono ?_
    rintro e w4 ⟨rfl, h4⟩
    go_wp2_with fail
    refine (ka _).mono ?_
    rintro e w5 ⟨rfl, h5⟩
    go_wp2_with fail
    refine (kb _).mono ?_
    rintro e w6 ⟨rfl, h6⟩
    go_wp2_with fail
    go_ret
    exact ⟨rfl, below2 (below2 (below2 (below2 (below2 (below2 (below2 h1 h2) (below_new _ _)) h3) h4) h5) (below_new _ _)) h6⟩
end Go.Proofs.Ytpelapdadgmlkaa
