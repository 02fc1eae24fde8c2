/-
  Walk: the reference's own cut of a character, at whatever place of whatever text.
-/
import Derived.Test.YtpelapdadgmlkaaWidth
import Derived.Test.YtpelapdadgmlkaaNextPlain
namespace Go.Proofs.Ytpelapdadgmlkaa
open Go.RowKit

theorem get_eq (s : ByteArray) (i : Nat) (h : i < s.size) : s.get! i = s[i] := get_at s i h
theorem ret2_eq {k k' : IntKind} {a b c d : Int} (h1 : a = c) (h2 : b = d) : Ending.returned (.tuple #[.int k a, .int k' b]) = .returned (.tuple #[.int k c, .int k' d]) := by rw [h1, h2]
/-- What the call answers, by the four bytes. -/
def NextPost (n c0 c1 c2 c3 : Nat) (w : World) (e : Ending) (w' : World) : Prop :=
  e = .returned (.tuple #[.int .i32 ((nextR n c0 c1 c2 c3).1 : Nat), .int .i64 ((nextR n c0 c1 c2 c3).2 : Nat)]) ∧ w = w'

set_option maxRecDepth 100000 in
set_option maxHeartbeats 1000000 in
theorem next_a (s : ByteArray) (p c0 c1 c2 c3 : Nat) (w : World) (hp : p < s.size) (_hs : s.size ≤ 140737488351232) (e0 : s[p].toNat = c0) (k1 : c0 < 128) :
    Calls Try.prog 109 #[.string s, .int .i64 p] w (NextPost (s.size - p) c0 c1 c2 c3 w) := by
  have H := Lib.hid (show nextR (s.size - p) c0 c1 c2 c3 = (c0, 1) by unfold nextR; ((repeat' split) <;> first | rfl | omega))
  go_enter Try.func109, Try.ntmps109
  go_wp2_with fail
  go_ret2
  exact ⟨by rw [H.out]; exact ret2_eq rfl rfl, rfl⟩

set_option maxRecDepth 100000 in
set_option maxHeartbeats 1000000 in
theorem next_b (s : ByteArray) (p c0 c1 c2 c3 : Nat) (w : World) (hp : p < s.size) (_hs : s.size ≤ 140737488351232) (e0 : s[p].toNat = c0) (k1 : ¬ c0 < 128) (k2 : c0 < 194) :
    Calls Try.prog 109 #[.string s, .int .i64 p] w (NextPost (s.size - p) c0 c1 c2 c3 w) := by
  have H := Lib.hid (show nextR (s.size - p) c0 c1 c2 c3 = (65533, 1) by unfold nextR; ((repeat' split) <;> first | rfl | omega))
  go_enter Try.func109, Try.ntmps109
  go_wp2_with fail
  go_ret2
  exact ⟨by rw [H.out]; exact ret2_eq rfl rfl, rfl⟩

set_option maxRecDepth 100000 in
set_option maxHeartbeats 1000000 in
theorem next_c (s : ByteArray) (p c0 c1 c2 c3 : Nat) (w : World) (hp : p < s.size) (_hs : s.size ≤ 140737488351232) (e0 : s[p].toNat = c0) (b0 : c0 < 256) (k3 : 244 < c0) :
    Calls Try.prog 109 #[.string s, .int .i64 p] w (NextPost (s.size - p) c0 c1 c2 c3 w) := by
  have H := Lib.hid (show nextR (s.size - p) c0 c1 c2 c3 = (65533, 1) by unfold nextR; ((repeat' split) <;> first | rfl | omega))
  go_enter Try.func109, Try.ntmps109
  go_wp2_with fail
  go_ret2
  exact ⟨by rw [H.out]; exact ret2_eq rfl rfl, rfl⟩

set_option maxRecDepth 100000 in
set_option maxHeartbeats 1000000 in
theorem next_2_short (s : ByteArray) (p c0 c1 c2 c3 : Nat) (w : World) (hp : p < s.size) (_hs : s.size ≤ 140737488351232) (e0 : s[p].toNat = c0) (k1 : 194 ≤ c0) (k2 : c0 ≤ 223) (l : s.size < p + 2) :
    Calls Try.prog 109 #[.string s, .int .i64 p] w (NextPost (s.size - p) c0 c1 c2 c3 w) := by
  have H := Lib.hid (show nextR (s.size - p) c0 c1 c2 c3 = (65533, 1) by unfold nextR; ((repeat' split) <;> first | rfl | omega))
  go_enter Try.func109, Try.ntmps109
  go_wp2_with fail
  go_ret2
  exact ⟨by rw [H.out]; exact ret2_eq rfl rfl, rfl⟩

set_option maxRecDepth 100000 in
set_option maxHeartbeats 1000000 in
theorem next_2_lo1 (s : ByteArray) (p c0 c1 c2 c3 : Nat) (w : World) (hp : p < s.size) (_hs : s.size ≤ 140737488351232) (e0 : s[p].toNat = c0) (k1 : 194 ≤ c0) (k2 : c0 ≤ 223) (l : p + 2 ≤ s.size) (e1 : s[p + 1].toNat = c1) (x : c1 < 128) :
    Calls Try.prog 109 #[.string s, .int .i64 p] w (NextPost (s.size - p) c0 c1 c2 c3 w) := by
  have H := Lib.hid (show nextR (s.size - p) c0 c1 c2 c3 = (65533, 1) by unfold nextR; ((repeat' split) <;> first | rfl | omega))
  go_enter Try.func109, Try.ntmps109
  go_wp2_with fail
  refine wp_loop_rounds 1 ?_
  rw [rounds_succ]
  go_wp2_with fail
  go_ret2
  exact ⟨by rw [H.out]; exact ret2_eq rfl rfl, rfl⟩

set_option maxRecDepth 100000 in
set_option maxHeartbeats 1000000 in
theorem next_2_hi1 (s : ByteArray) (p c0 c1 c2 c3 : Nat) (w : World) (hp : p < s.size) (_hs : s.size ≤ 140737488351232) (e0 : s[p].toNat = c0) (k1 : 194 ≤ c0) (k2 : c0 ≤ 223) (l : p + 2 ≤ s.size) (e1 : s[p + 1].toNat = c1) (b : c1 < 256) (x : 191 < c1) :
    Calls Try.prog 109 #[.string s, .int .i64 p] w (NextPost (s.size - p) c0 c1 c2 c3 w) := by
  have H := Lib.hid (show nextR (s.size - p) c0 c1 c2 c3 = (65533, 1) by unfold nextR; ((repeat' split) <;> first | rfl | omega))
  go_enter Try.func109, Try.ntmps109
  go_wp2_with fail
  refine wp_loop_rounds 1 ?_
  rw [rounds_succ]
  go_wp2_with fail
  go_ret2
  exact ⟨by rw [H.out]; exact ret2_eq rfl rfl, rfl⟩

set_option maxRecDepth 100000 in
set_option maxHeartbeats 1000000 in
theorem next_2_ok (s : ByteArray) (p c0 c1 c2 c3 : Nat) (w : World) (hp : p < s.size) (_hs : s.size ≤ 140737488351232) (e0 : s[p].toNat = c0) (k1 : 194 ≤ c0) (k2 : c0 ≤ 223) (l : p + 2 ≤ s.size) (e1 : s[p + 1].toNat = c1) (x1 : 128 ≤ c1) (y1 : c1 ≤ 191) :
    Calls Try.prog 109 #[.string s, .int .i64 p] w (NextPost (s.size - p) c0 c1 c2 c3 w) := by
  have H := Lib.hid (show nextR (s.size - p) c0 c1 c2 c3 = (64 * (c0 - 192) + (c1 - 128), 2) by unfold nextR; ((repeat' split) <;> first | rfl | omega))
  go_enter Try.func109, Try.ntmps109
  go_wp2_with fail
  refine wp_loop_rounds 2 ?_
  rw [rounds_succ]
  go_wp2_with fail
  rw [rounds_succ]
  go_wp2_with fail
  go_ret2
  exact ⟨by rw [H.out]; exact ret2_eq (by omega) rfl, rfl⟩

set_option maxRecDepth 100000 in
set_option maxHeartbeats 1000000 in
theorem next_3_short (s : ByteArray) (p c0 c1 c2 c3 : Nat) (w : World) (hp : p < s.size) (_hs : s.size ≤ 140737488351232) (e0 : s[p].toNat = c0) (k1 : 224 ≤ c0) (k2 : c0 ≤ 239) (l : s.size < p + 3) :
    Calls Try.prog 109 #[.string s, .int .i64 p] w (NextPost (s.size - p) c0 c1 c2 c3 w) := by
  have H := Lib.hid (show nextR (s.size - p) c0 c1 c2 c3 = (65533, 1) by unfold nextR; ((repeat' split) <;> first | rfl | omega))
  go_enter Try.func109, Try.ntmps109
  go_wp2_with fail
  go_ret2
  exact ⟨by rw [H.out]; exact ret2_eq rfl rfl, rfl⟩

set_option maxRecDepth 100000 in
set_option maxHeartbeats 1000000 in
theorem next_3_lo1 (s : ByteArray) (p c0 c1 c2 c3 : Nat) (w : World) (hp : p < s.size) (_hs : s.size ≤ 140737488351232) (e0 : s[p].toNat = c0) (k1 : 224 ≤ c0) (k2 : c0 ≤ 239) (l : p + 3 ≤ s.size) (e1 : s[p + 1].toNat = c1) (x : c1 < 128) :
    Calls Try.prog 109 #[.string s, .int .i64 p] w (NextPost (s.size - p) c0 c1 c2 c3 w) := by
  have H := Lib.hid (show nextR (s.size - p) c0 c1 c2 c3 = (65533, 1) by unfold nextR; ((repeat' split) <;> first | rfl | omega))
  go_enter Try.func109, Try.ntmps109
  go_wp2_with fail
  refine wp_loop_rounds 1 ?_
  rw [rounds_succ]
  go_wp2_with fail
  go_ret2
  exact ⟨by rw [H.out]; exact ret2_eq rfl rfl, rfl⟩

set_option maxRecDepth 100000 in
set_option maxHeartbeats 1000000 in
theorem next_3_hi1 (s : ByteArray) (p c0 c1 c2 c3 : Nat) (w : World) (hp : p < s.size) (_hs : s.size ≤ 140737488351232) (e0 : s[p].toNat = c0) (k1 : 224 ≤ c0) (k2 : c0 ≤ 239) (l : p + 3 ≤ s.size) (e1 : s[p + 1].toNat = c1) (b : c1 < 256) (x : 191 < c1) :
    Calls Try.prog 109 #[.string s, .int .i64 p] w (NextPost (s.size - p) c0 c1 c2 c3 w) := by
  have H := Lib.hid (show nextR (s.size - p) c0 c1 c2 c3 = (65533, 1) by unfold nextR; ((repeat' split) <;> first | rfl | omega))
  go_enter Try.func109, Try.ntmps109
  go_wp2_with fail
  refine wp_loop_rounds 1 ?_
  rw [rounds_succ]
  go_wp2_with fail
  go_ret2
  exact ⟨by rw [H.out]; exact ret2_eq rfl rfl, rfl⟩

set_option maxRecDepth 100000 in
set_option maxHeartbeats 1000000 in
theorem next_3_lo2 (s : ByteArray) (p c0 c1 c2 c3 : Nat) (w : World) (hp : p < s.size) (_hs : s.size ≤ 140737488351232) (e0 : s[p].toNat = c0) (k1 : 224 ≤ c0) (k2 : c0 ≤ 239) (l : p + 3 ≤ s.size) (e1 : s[p + 1].toNat = c1) (e2 : s[p + 2].toNat = c2) (x1 : 128 ≤ c1) (y1 : c1 ≤ 191) (x : c2 < 128) :
    Calls Try.prog 109 #[.string s, .int .i64 p] w (NextPost (s.size - p) c0 c1 c2 c3 w) := by
  have H := Lib.hid (show nextR (s.size - p) c0 c1 c2 c3 = (65533, 1) by unfold nextR; ((repeat' split) <;> first | rfl | omega))
  go_enter Try.func109, Try.ntmps109
  go_wp2_with fail
  refine wp_loop_rounds 2 ?_
  rw [rounds_succ]
  go_wp2_with fail
  rw [rounds_succ]
  go_wp2_with fail
  go_ret2
  exact ⟨by rw [H.out]; exact ret2_eq rfl rfl, rfl⟩

set_option maxRecDepth 100000 in
set_option maxHeartbeats 1000000 in
theorem next_3_hi2 (s : ByteArray) (p c0 c1 c2 c3 : Nat) (w : World) (hp : p < s.size) (_hs : s.size ≤ 140737488351232) (e0 : s[p].toNat = c0) (k1 : 224 ≤ c0) (k2 : c0 ≤ 239) (l : p + 3 ≤ s.size) (e1 : s[p + 1].toNat = c1) (e2 : s[p + 2].toNat = c2) (x1 : 128 ≤ c1) (y1 : c1 ≤ 191) (b : c2 < 256) (x : 191 < c2) :
    Calls Try.prog 109 #[.string s, .int .i64 p] w (NextPost (s.size - p) c0 c1 c2 c3 w) := by
  have H := Lib.hid (show nextR (s.size - p) c0 c1 c2 c3 = (65533, 1) by unfold nextR; ((repeat' split) <;> first | rfl | omega))
  go_enter Try.func109, Try.ntmps109
  go_wp2_with fail
  refine wp_loop_rounds 2 ?_
  rw [rounds_succ]
  go_wp2_with fail
  rw [rounds_succ]
  go_wp2_with fail
  go_ret2
  exact ⟨by rw [H.out]; exact ret2_eq rfl rfl, rfl⟩

set_option maxRecDepth 100000 in
set_option maxHeartbeats 1000000 in
theorem next_3_less (s : ByteArray) (p c0 c1 c2 c3 : Nat) (w : World) (hp : p < s.size) (_hs : s.size ≤ 140737488351232) (e0 : s[p].toNat = c0) (k1 : 224 ≤ c0) (k2 : c0 ≤ 239) (l : p + 3 ≤ s.size) (e1 : s[p + 1].toNat = c1) (e2 : s[p + 2].toNat = c2) (x1 : 128 ≤ c1) (y1 : c1 ≤ 191) (x2 : 128 ≤ c2) (y2 : c2 ≤ 191) (z : 64 * (64 * (c0 - 224) + (c1 - 128)) + (c2 - 128) < 2048) :
    Calls Try.prog 109 #[.string s, .int .i64 p] w (NextPost (s.size - p) c0 c1 c2 c3 w) := by
  have H := Lib.hid (show nextR (s.size - p) c0 c1 c2 c3 = (65533, 1) by unfold nextR; ((repeat' split) <;> first | rfl | omega))
  go_enter Try.func109, Try.ntmps109
  go_wp2_with fail
  refine wp_loop_rounds 3 ?_
  rw [rounds_succ]
  go_wp2_with fail
  rw [rounds_succ]
  go_wp2_with fail
  rw [rounds_succ]
  go_wp2_with fail
  go_ret2
  exact ⟨by rw [H.out]; exact ret2_eq rfl rfl, rfl⟩

set_option maxRecDepth 100000 in
set_option maxHeartbeats 1000000 in
theorem next_3_sur (s : ByteArray) (p c0 c1 c2 c3 : Nat) (w : World) (hp : p < s.size) (_hs : s.size ≤ 140737488351232) (e0 : s[p].toNat = c0) (k1 : 224 ≤ c0) (k2 : c0 ≤ 239) (l : p + 3 ≤ s.size) (e1 : s[p + 1].toNat = c1) (e2 : s[p + 2].toNat = c2) (x1 : 128 ≤ c1) (y1 : c1 ≤ 191) (x2 : 128 ≤ c2) (y2 : c2 ≤ 191) (z : 55296 ≤ 64 * (64 * (c0 - 224) + (c1 - 128)) + (c2 - 128)) (z' : 64 * (64 * (c0 - 224) + (c1 - 128)) + (c2 - 128) ≤ 57343) :
    Calls Try.prog 109 #[.string s, .int .i64 p] w (NextPost (s.size - p) c0 c1 c2 c3 w) := by
  have H := Lib.hid (show nextR (s.size - p) c0 c1 c2 c3 = (65533, 1) by unfold nextR; ((repeat' split) <;> first | rfl | omega))
  go_enter Try.func109, Try.ntmps109
  go_wp2_with fail
  refine wp_loop_rounds 3 ?_
  rw [rounds_succ]
  go_wp2_with fail
  rw [rounds_succ]
  go_wp2_with fail
  rw [rounds_succ]
  go_wp2_with fail
  go_ret2
  exact ⟨by rw [H.out]; exact ret2_eq rfl rfl, rfl⟩

set_option maxRecDepth 100000 in
set_option maxHeartbeats 1000000 in
theorem next_3_ok1 (s : ByteArray) (p c0 c1 c2 c3 : Nat) (w : World) (hp : p < s.size) (_hs : s.size ≤ 140737488351232) (e0 : s[p].toNat = c0) (k1 : 224 ≤ c0) (k2 : c0 ≤ 239) (l : p + 3 ≤ s.size) (e1 : s[p + 1].toNat = c1) (e2 : s[p + 2].toNat = c2) (x1 : 128 ≤ c1) (y1 : c1 ≤ 191) (x2 : 128 ≤ c2) (y2 : c2 ≤ 191) (z : 2048 ≤ 64 * (64 * (c0 - 224) + (c1 - 128)) + (c2 - 128)) (z' : 64 * (64 * (c0 - 224) + (c1 - 128)) + (c2 - 128) < 55296) :
    Calls Try.prog 109 #[.string s, .int .i64 p] w (NextPost (s.size - p) c0 c1 c2 c3 w) := by
  have H := Lib.hid (show nextR (s.size - p) c0 c1 c2 c3 = (64 * (64 * (c0 - 224) + (c1 - 128)) + (c2 - 128), 3) by unfold nextR; ((repeat' split) <;> first | rfl | omega))
  go_enter Try.func109, Try.ntmps109
  go_wp2_with fail
  refine wp_loop_rounds 3 ?_
  rw [rounds_succ]
  go_wp2_with fail
  rw [rounds_succ]
  go_wp2_with fail
  rw [rounds_succ]
  go_wp2_with fail
  go_ret2
  exact ⟨by rw [H.out]; exact ret2_eq (by omega) rfl, rfl⟩

set_option maxRecDepth 100000 in
set_option maxHeartbeats 1000000 in
theorem next_3_ok2 (s : ByteArray) (p c0 c1 c2 c3 : Nat) (w : World) (hp : p < s.size) (_hs : s.size ≤ 140737488351232) (e0 : s[p].toNat = c0) (k1 : 224 ≤ c0) (k2 : c0 ≤ 239) (l : p + 3 ≤ s.size) (e1 : s[p + 1].toNat = c1) (e2 : s[p + 2].toNat = c2) (x1 : 128 ≤ c1) (y1 : c1 ≤ 191) (x2 : 128 ≤ c2) (y2 : c2 ≤ 191) (z : 57343 < 64 * (64 * (c0 - 224) + (c1 - 128)) + (c2 - 128)) :
    Calls Try.prog 109 #[.string s, .int .i64 p] w (NextPost (s.size - p) c0 c1 c2 c3 w) := by
  have H := Lib.hid (show nextR (s.size - p) c0 c1 c2 c3 = (64 * (64 * (c0 - 224) + (c1 - 128)) + (c2 - 128), 3) by unfold nextR; ((repeat' split) <;> first | rfl | omega))
  go_enter Try.func109, Try.ntmps109
  go_wp2_with fail
  refine wp_loop_rounds 3 ?_
  rw [rounds_succ]
  go_wp2_with fail
  rw [rounds_succ]
  go_wp2_with fail
  rw [rounds_succ]
  go_wp2_with fail
  go_ret2
  exact ⟨by rw [H.out]; exact ret2_eq (by omega) rfl, rfl⟩

set_option maxRecDepth 100000 in
set_option maxHeartbeats 1000000 in
theorem next_4_short (s : ByteArray) (p c0 c1 c2 c3 : Nat) (w : World) (hp : p < s.size) (_hs : s.size ≤ 140737488351232) (e0 : s[p].toNat = c0) (k1 : 240 ≤ c0) (k2 : c0 ≤ 244) (l : s.size < p + 4) :
    Calls Try.prog 109 #[.string s, .int .i64 p] w (NextPost (s.size - p) c0 c1 c2 c3 w) := by
  have H := Lib.hid (show nextR (s.size - p) c0 c1 c2 c3 = (65533, 1) by unfold nextR; ((repeat' split) <;> first | rfl | omega))
  go_enter Try.func109, Try.ntmps109
  go_wp2_with fail
  go_ret2
  exact ⟨by rw [H.out]; exact ret2_eq rfl rfl, rfl⟩

set_option maxRecDepth 100000 in
set_option maxHeartbeats 1000000 in
theorem next_4_lo1 (s : ByteArray) (p c0 c1 c2 c3 : Nat) (w : World) (hp : p < s.size) (_hs : s.size ≤ 140737488351232) (e0 : s[p].toNat = c0) (k1 : 240 ≤ c0) (k2 : c0 ≤ 244) (l : p + 4 ≤ s.size) (e1 : s[p + 1].toNat = c1) (x : c1 < 128) :
    Calls Try.prog 109 #[.string s, .int .i64 p] w (NextPost (s.size - p) c0 c1 c2 c3 w) := by
  have H := Lib.hid (show nextR (s.size - p) c0 c1 c2 c3 = (65533, 1) by unfold nextR; ((repeat' split) <;> first | rfl | omega))
  go_enter Try.func109, Try.ntmps109
  go_wp2_with fail
  refine wp_loop_rounds 1 ?_
  rw [rounds_succ]
  go_wp2_with fail
  go_ret2
  exact ⟨by rw [H.out]; exact ret2_eq rfl rfl, rfl⟩

set_option maxRecDepth 100000 in
set_option maxHeartbeats 1000000 in
theorem next_4_hi1 (s : ByteArray) (p c0 c1 c2 c3 : Nat) (w : World) (hp : p < s.size) (_hs : s.size ≤ 140737488351232) (e0 : s[p].toNat = c0) (k1 : 240 ≤ c0) (k2 : c0 ≤ 244) (l : p + 4 ≤ s.size) (e1 : s[p + 1].toNat = c1) (b : c1 < 256) (x : 191 < c1) :
    Calls Try.prog 109 #[.string s, .int .i64 p] w (NextPost (s.size - p) c0 c1 c2 c3 w) := by
  have H := Lib.hid (show nextR (s.size - p) c0 c1 c2 c3 = (65533, 1) by unfold nextR; ((repeat' split) <;> first | rfl | omega))
  go_enter Try.func109, Try.ntmps109
  go_wp2_with fail
  refine wp_loop_rounds 1 ?_
  rw [rounds_succ]
  go_wp2_with fail
  go_ret2
  exact ⟨by rw [H.out]; exact ret2_eq rfl rfl, rfl⟩

set_option maxRecDepth 100000 in
set_option maxHeartbeats 1000000 in
theorem next_4_lo2 (s : ByteArray) (p c0 c1 c2 c3 : Nat) (w : World) (hp : p < s.size) (_hs : s.size ≤ 140737488351232) (e0 : s[p].toNat = c0) (k1 : 240 ≤ c0) (k2 : c0 ≤ 244) (l : p + 4 ≤ s.size) (e1 : s[p + 1].toNat = c1) (e2 : s[p + 2].toNat = c2) (x1 : 128 ≤ c1) (y1 : c1 ≤ 191) (x : c2 < 128) :
    Calls Try.prog 109 #[.string s, .int .i64 p] w (NextPost (s.size - p) c0 c1 c2 c3 w) := by
  have H := Lib.hid (show nextR (s.size - p) c0 c1 c2 c3 = (65533, 1) by unfold nextR; ((repeat' split) <;> first | rfl | omega))
  go_enter Try.func109, Try.ntmps109
  go_wp2_with fail
  refine wp_loop_rounds 2 ?_
  rw [rounds_succ]
  go_wp2_with fail
  rw [rounds_succ]
  go_wp2_with fail
  go_ret2
  exact ⟨by rw [H.out]; exact ret2_eq rfl rfl, rfl⟩

set_option maxRecDepth 100000 in
set_option maxHeartbeats 1000000 in
theorem next_4_hi2 (s : ByteArray) (p c0 c1 c2 c3 : Nat) (w : World) (hp : p < s.size) (_hs : s.size ≤ 140737488351232) (e0 : s[p].toNat = c0) (k1 : 240 ≤ c0) (k2 : c0 ≤ 244) (l : p + 4 ≤ s.size) (e1 : s[p + 1].toNat = c1) (e2 : s[p + 2].toNat = c2) (x1 : 128 ≤ c1) (y1 : c1 ≤ 191) (b : c2 < 256) (x : 191 < c2) :
    Calls Try.prog 109 #[.string s, .int .i64 p] w (NextPost (s.size - p) c0 c1 c2 c3 w) := by
  have H := Lib.hid (show nextR (s.size - p) c0 c1 c2 c3 = (65533, 1) by unfold nextR; ((repeat' split) <;> first | rfl | omega))
  go_enter Try.func109, Try.ntmps109
  go_wp2_with fail
  refine wp_loop_rounds 2 ?_
  rw [rounds_succ]
  go_wp2_with fail
  rw [rounds_succ]
  go_wp2_with fail
  go_ret2
  exact ⟨by rw [H.out]; exact ret2_eq rfl rfl, rfl⟩

set_option maxRecDepth 100000 in
set_option maxHeartbeats 1000000 in
theorem next_4_lo3 (s : ByteArray) (p c0 c1 c2 c3 : Nat) (w : World) (hp : p < s.size) (_hs : s.size ≤ 140737488351232) (e0 : s[p].toNat = c0) (k1 : 240 ≤ c0) (k2 : c0 ≤ 244) (l : p + 4 ≤ s.size) (e1 : s[p + 1].toNat = c1) (e2 : s[p + 2].toNat = c2) (e3 : s[p + 3].toNat = c3) (x1 : 128 ≤ c1) (y1 : c1 ≤ 191) (x2 : 128 ≤ c2) (y2 : c2 ≤ 191) (x : c3 < 128) :
    Calls Try.prog 109 #[.string s, .int .i64 p] w (NextPost (s.size - p) c0 c1 c2 c3 w) := by
  have H := Lib.hid (show nextR (s.size - p) c0 c1 c2 c3 = (65533, 1) by unfold nextR; ((repeat' split) <;> first | rfl | omega))
  go_enter Try.func109, Try.ntmps109
  go_wp2_with fail
  refine wp_loop_rounds 3 ?_
  rw [rounds_succ]
  go_wp2_with fail
  rw [rounds_succ]
  go_wp2_with fail
  rw [rounds_succ]
  go_wp2_with fail
  go_ret2
  exact ⟨by rw [H.out]; exact ret2_eq rfl rfl, rfl⟩

set_option maxRecDepth 100000 in
set_option maxHeartbeats 1000000 in
theorem next_4_hi3 (s : ByteArray) (p c0 c1 c2 c3 : Nat) (w : World) (hp : p < s.size) (_hs : s.size ≤ 140737488351232) (e0 : s[p].toNat = c0) (k1 : 240 ≤ c0) (k2 : c0 ≤ 244) (l : p + 4 ≤ s.size) (e1 : s[p + 1].toNat = c1) (e2 : s[p + 2].toNat = c2) (e3 : s[p + 3].toNat = c3) (x1 : 128 ≤ c1) (y1 : c1 ≤ 191) (x2 : 128 ≤ c2) (y2 : c2 ≤ 191) (b : c3 < 256) (x : 191 < c3) :
    Calls Try.prog 109 #[.string s, .int .i64 p] w (NextPost (s.size - p) c0 c1 c2 c3 w) := by
  have H := Lib.hid (show nextR (s.size - p) c0 c1 c2 c3 = (65533, 1) by unfold nextR; ((repeat' split) <;> first | rfl | omega))
  go_enter Try.func109, Try.ntmps109
  go_wp2_with fail
  refine wp_loop_rounds 3 ?_
  rw [rounds_succ]
  go_wp2_with fail
  rw [rounds_succ]
  go_wp2_with fail
  rw [rounds_succ]
  go_wp2_with fail
  go_ret2
  exact ⟨by rw [H.out]; exact ret2_eq rfl rfl, rfl⟩

set_option maxRecDepth 100000 in
set_option maxHeartbeats 1000000 in
theorem next_4_less (s : ByteArray) (p c0 c1 c2 c3 : Nat) (w : World) (hp : p < s.size) (_hs : s.size ≤ 140737488351232) (e0 : s[p].toNat = c0) (k1 : 240 ≤ c0) (k2 : c0 ≤ 244) (l : p + 4 ≤ s.size) (e1 : s[p + 1].toNat = c1) (e2 : s[p + 2].toNat = c2) (e3 : s[p + 3].toNat = c3) (x1 : 128 ≤ c1) (y1 : c1 ≤ 191) (x2 : 128 ≤ c2) (y2 : c2 ≤ 191) (x3 : 128 ≤ c3) (y3 : c3 ≤ 191) (z : 64 * (64 * (64 * (c0 - 240) + (c1 - 128)) + (c2 - 128)) + (c3 - 128) < 65536) :
    Calls Try.prog 109 #[.string s, .int .i64 p] w (NextPost (s.size - p) c0 c1 c2 c3 w) := by
  have H := Lib.hid (show nextR (s.size - p) c0 c1 c2 c3 = (65533, 1) by unfold nextR; ((repeat' split) <;> first | rfl | omega))
  go_enter Try.func109, Try.ntmps109
  go_wp2_with fail
  refine wp_loop_rounds 4 ?_
  rw [rounds_succ]
  go_wp2_with fail
  rw [rounds_succ]
  go_wp2_with fail
  rw [rounds_succ]
  go_wp2_with fail
  rw [rounds_succ]
  go_wp2_with fail
  go_ret2
  exact ⟨by rw [H.out]; exact ret2_eq rfl rfl, rfl⟩

set_option maxRecDepth 100000 in
set_option maxHeartbeats 1000000 in
theorem next_4_more (s : ByteArray) (p c0 c1 c2 c3 : Nat) (w : World) (hp : p < s.size) (_hs : s.size ≤ 140737488351232) (e0 : s[p].toNat = c0) (k1 : 240 ≤ c0) (k2 : c0 ≤ 244) (l : p + 4 ≤ s.size) (e1 : s[p + 1].toNat = c1) (e2 : s[p + 2].toNat = c2) (e3 : s[p + 3].toNat = c3) (x1 : 128 ≤ c1) (y1 : c1 ≤ 191) (x2 : 128 ≤ c2) (y2 : c2 ≤ 191) (x3 : 128 ≤ c3) (y3 : c3 ≤ 191) (z : 1114111 < 64 * (64 * (64 * (c0 - 240) + (c1 - 128)) + (c2 - 128)) + (c3 - 128)) :
    Calls Try.prog 109 #[.string s, .int .i64 p] w (NextPost (s.size - p) c0 c1 c2 c3 w) := by
  have H := Lib.hid (show nextR (s.size - p) c0 c1 c2 c3 = (65533, 1) by unfold nextR; ((repeat' split) <;> first | rfl | omega))
  go_enter Try.func109, Try.ntmps109
  go_wp2_with fail
  refine wp_loop_rounds 4 ?_
  rw [rounds_succ]
  go_wp2_with fail
  rw [rounds_succ]
  go_wp2_with fail
  rw [rounds_succ]
  go_wp2_with fail
  rw [rounds_succ]
  go_wp2_with fail
  go_ret2
  exact ⟨by rw [H.out]; exact ret2_eq rfl rfl, rfl⟩

set_option maxRecDepth 100000 in
set_option maxHeartbeats 1000000 in
theorem next_4_ok (s : ByteArray) (p c0 c1 c2 c3 : Nat) (w : World) (hp : p < s.size) (_hs : s.size ≤ 140737488351232) (e0 : s[p].toNat = c0) (k1 : 240 ≤ c0) (k2 : c0 ≤ 244) (l : p + 4 ≤ s.size) (e1 : s[p + 1].toNat = c1) (e2 : s[p + 2].toNat = c2) (e3 : s[p + 3].toNat = c3) (x1 : 128 ≤ c1) (y1 : c1 ≤ 191) (x2 : 128 ≤ c2) (y2 : c2 ≤ 191) (x3 : 128 ≤ c3) (y3 : c3 ≤ 191) (z : 65536 ≤ 64 * (64 * (64 * (c0 - 240) + (c1 - 128)) + (c2 - 128)) + (c3 - 128)) (z' : 64 * (64 * (64 * (c0 - 240) + (c1 - 128)) + (c2 - 128)) + (c3 - 128) ≤ 1114111) :
    Calls Try.prog 109 #[.string s, .int .i64 p] w (NextPost (s.size - p) c0 c1 c2 c3 w) := by
  have H := Lib.hid (show nextR (s.size - p) c0 c1 c2 c3 = (64 * (64 * (64 * (c0 - 240) + (c1 - 128)) + (c2 - 128)) + (c3 - 128), 4) by unfold nextR; ((repeat' split) <;> first | rfl | omega))
  go_enter Try.func109, Try.ntmps109
  go_wp2_with fail
  refine wp_loop_rounds 4 ?_
  rw [rounds_succ]
  go_wp2_with fail
  rw [rounds_succ]
  go_wp2_with fail
  rw [rounds_succ]
  go_wp2_with fail
  rw [rounds_succ]
  go_wp2_with fail
  go_ret2
  exact ⟨by rw [H.out]; exact ret2_eq (by omega) rfl, rfl⟩


theorem rnext (s : ByteArray) (p : Nat) (w : World) (hp : p < s.size) (hs : s.size ≤ 140737488351232) :
    Calls Try.prog 109 #[.string s, .int .i64 p] w fun e w' => e = .returned (.tuple #[.int .i32 ((Utf8.decode s p).1 : Nat), .int .i64 ((Utf8.decode s p).2 : Nat)]) ∧ w = w' := by
  obtain ⟨c0, d0⟩ : ∃ c, (s.get! p).toNat = c := ⟨_, rfl⟩
  obtain ⟨c1, d1⟩ : ∃ c, (s.get! (p + 1)).toNat = c := ⟨_, rfl⟩
  obtain ⟨c2, d2⟩ : ∃ c, (s.get! (p + 2)).toNat = c := ⟨_, rfl⟩
  obtain ⟨c3, d3⟩ : ∃ c, (s.get! (p + 3)).toNat = c := ⟨_, rfl⟩
  have b0 : c0 < 256 := by rw [← d0]; exact (s.get! p).toNat_lt
  have b1 : c1 < 256 := by rw [← d1]; exact (s.get! (p + 1)).toNat_lt
  have b2 : c2 < 256 := by rw [← d2]; exact (s.get! (p + 2)).toNat_lt
  have b3 : c3 < 256 := by rw [← d3]; exact (s.get! (p + 3)).toNat_lt
  rw [next_eq s p hp, d0, d1, d2, d3]
  show Calls Try.prog 109 #[.string s, .int .i64 p] w (NextPost (s.size - p) c0 c1 c2 c3 w)
  have e0 : s[p].toNat = c0 := by rw [← get_eq]; exact d0
  have E1 : ∀ h : p + 1 < s.size, s[p + 1].toNat = c1 := fun h => by rw [← get_eq]; exact d1
  have E2 : ∀ h : p + 2 < s.size, s[p + 2].toNat = c2 := fun h => by rw [← get_eq]; exact d2
  have E3 : ∀ h : p + 3 < s.size, s[p + 3].toNat = c3 := fun h => by rw [← get_eq]; exact d3
  by_cases k1 : c0 < 128
  · exact next_a s p c0 c1 c2 c3 w hp hs e0 k1
  by_cases k2 : c0 < 194
  · exact next_b s p c0 c1 c2 c3 w hp hs e0 k1 k2
  by_cases k3 : 244 < c0
  · exact next_c s p c0 c1 c2 c3 w hp hs e0 b0 k3
  by_cases k4 : c0 ≤ 223
  · by_cases l : s.size < p + 2
    · exact next_2_short s p c0 c1 c2 c3 w hp hs e0 (by omega) (by omega) l
    by_cases x1 : c1 < 128
    · exact next_2_lo1 s p c0 c1 c2 c3 w hp hs e0 (by omega) (by omega) (by omega) (E1 (by omega)) x1
    by_cases y1 : 191 < c1
    · exact next_2_hi1 s p c0 c1 c2 c3 w hp hs e0 (by omega) (by omega) (by omega) (E1 (by omega)) b1 y1
    exact next_2_ok s p c0 c1 c2 c3 w hp hs e0 (by omega) (by omega) (by omega) (E1 (by omega)) (by omega) (by omega)
  by_cases k5 : c0 ≤ 239
  · by_cases l : s.size < p + 3
    · exact next_3_short s p c0 c1 c2 c3 w hp hs e0 (by omega) (by omega) l
    by_cases x1 : c1 < 128
    · exact next_3_lo1 s p c0 c1 c2 c3 w hp hs e0 (by omega) (by omega) (by omega) (E1 (by omega)) x1
    by_cases y1 : 191 < c1
    · exact next_3_hi1 s p c0 c1 c2 c3 w hp hs e0 (by omega) (by omega) (by omega) (E1 (by omega)) b1 y1
    by_cases x2 : c2 < 128
    · exact next_3_lo2 s p c0 c1 c2 c3 w hp hs e0 (by omega) (by omega) (by omega) (E1 (by omega)) (E2 (by omega)) (by omega) (by omega) x2
    by_cases y2 : 191 < c2
    · exact next_3_hi2 s p c0 c1 c2 c3 w hp hs e0 (by omega) (by omega) (by omega) (E1 (by omega)) (E2 (by omega)) (by omega) (by omega) b2 y2
    by_cases z1 : 64 * (64 * (c0 - 224) + (c1 - 128)) + (c2 - 128) < 2048
    · exact next_3_less s p c0 c1 c2 c3 w hp hs e0 (by omega) (by omega) (by omega) (E1 (by omega)) (E2 (by omega)) (by omega) (by omega) (by omega) (by omega) z1
    by_cases z2 : 64 * (64 * (c0 - 224) + (c1 - 128)) + (c2 - 128) < 55296
    · exact next_3_ok1 s p c0 c1 c2 c3 w hp hs e0 (by omega) (by omega) (by omega) (E1 (by omega)) (E2 (by omega)) (by omega) (by omega) (by omega) (by omega) (by omega) z2
    by_cases z3 : 64 * (64 * (c0 - 224) + (c1 - 128)) + (c2 - 128) ≤ 57343
    · exact next_3_sur s p c0 c1 c2 c3 w hp hs e0 (by omega) (by omega) (by omega) (E1 (by omega)) (E2 (by omega)) (by omega) (by omega) (by omega) (by omega) (by omega) z3
    exact next_3_ok2 s p c0 c1 c2 c3 w hp hs e0 (by omega) (by omega) (by omega) (E1 (by omega)) (E2 (by omega)) (by omega) (by omega) (by omega) (by omega) (by omega)
  by_cases l : s.size < p + 4
  · exact next_4_short s p c0 c1 c2 c3 w hp hs e0 (by omega) (by omega) l
  by_cases x1 : c1 < 128
  · exact next_4_lo1 s p c0 c1 c2 c3 w hp hs e0 (by omega) (by omega) (by omega) (E1 (by omega)) x1
  by_cases y1 : 191 < c1
  · exact next_4_hi1 s p c0 c1 c2 c3 w hp hs e0 (by omega) (by omega) (by omega) (E1 (by omega)) b1 y1
  by_cases x2 : c2 < 128
  · exact next_4_lo2 s p c0 c1 c2 c3 w hp hs e0 (by omega) (by omega) (by omega) (E1 (by omega)) (E2 (by omega)) (by omega) (by omega) x2
  by_cases y2 : 191 < c2
  · exact next_4_hi2 s p c0 c1 c2 c3 w hp hs e0 (by omega) (by omega) (by omega) (E1 (by omega)) (E2 (by omega)) (by omega) (by omega) b2 y2
  by_cases x3 : c3 < 128
  · exact next_4_lo3 s p c0 c1 c2 c3 w hp hs e0 (by omega) (by omega) (by omega) (E1 (by omega)) (E2 (by omega)) (E3 (by omega)) (by omega) (by omega) (by omega) (by omega) x3
  by_cases y3 : 191 < c3
  · exact next_4_hi3 s p c0 c1 c2 c3 w hp hs e0 (by omega) (by omega) (by omega) (E1 (by omega)) (E2 (by omega)) (E3 (by omega)) (by omega) (by omega) (by omega) (by omega) b3 y3
  by_cases z1 : 64 * (64 * (64 * (c0 - 240) + (c1 - 128)) + (c2 - 128)) + (c3 - 128) < 65536
  · exact next_4_less s p c0 c1 c2 c3 w hp hs e0 (by omega) (by omega) (by omega) (E1 (by omega)) (E2 (by omega)) (E3 (by omega)) (by omega) (by omega) (by omega) (by omega) (by omega) (by omega) z1
  by_cases z2 : 1114111 < 64 * (64 * (64 * (c0 - 240) + (c1 - 128)) + (c2 - 128)) + (c3 - 128)
  · exact next_4_more s p c0 c1 c2 c3 w hp hs e0 (by omega) (by omega) (by omega) (E1 (by omega)) (E2 (by omega)) (E3 (by omega)) (by omega) (by omega) (by omega) (by omega) (by omega) (by omega) z2
  exact next_4_ok s p c0 c1 c2 c3 w hp hs e0 (by omega) (by omega) (by omega) (E1 (by omega)) (E2 (by omega)) (E3 (by omega)) (by omega) (by omega) (by omega) (by omega) (by omega) (by omega) (by omega) (by omega)

end Go.Proofs.Ytpelapdadgmlkaa
