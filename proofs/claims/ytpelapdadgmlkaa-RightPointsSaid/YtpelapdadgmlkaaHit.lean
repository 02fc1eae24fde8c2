/-
  Walks: right.Hit: its closure; slices.Backward's iterator.
-/
import Derived.Test.YtpelapdadgmlkaaRight
import Derived.RangeFuncBox
import Derived.RangeFuncLeaves
import Derived.RangeFuncNested
import Derived.Shelf.Abstract
import Derived.WalkKit
import Derived.OwnWalkIn
import Derived.TacticsInMore
import Derived.LoopNIn
import Derived.LoopIn
namespace Go.Proofs.Ytpelapdadgmlkaa
open Go.RowKit Go.Shelf

attribute [local go_sem] Oper.semAt_some

set_option maxRecDepth 100000 in
set_option maxHeartbeats 2000000 in
theorem hit1 (f : Fr) (x y : Int) (bx bY : Nat) (w : World) (hx : w.cell? ⟨bx, 0, none⟩ = some (.int .i64 x)) (hy : w.cell? ⟨bY, 0, none⟩ = some (.int .i64 y)) (b1 : bx < w.heap.size) (b2 : bY < w.heap.size) :
    Calls Try.prog 102 #[f.val, .pointer (some ⟨bx, 0, none⟩), .pointer (some ⟨bY, 0, none⟩)] w fun e w' => e = .returned (.bool (cov f x y)) ∧ ∃ o, w' = w.alloc o := by
  obtain ⟨n, p, d, fx, fy, fw, fh, s⟩ := f
  have HC := Lib.hid (show cov ⟨n, p, d, fx, fy, fw, fh, s⟩ x y = (decide (fx ≤ x) && decide (x < IntKind.i64.wrap (fx + fw)) && decide (fy ≤ y) && decide (y < IntKind.i64.wrap (fy + fh))) from rfl)
  show Calls Try.prog 102 #[.agg #[.int .i64 n, .int .i64 p, .int .i64 d, .int .i64 fx, .int .i64 fy, .int .i64 fw, .int .i64 fh, .string s], .pointer (some ⟨bx, 0, none⟩), .pointer (some ⟨bY, 0, none⟩)] w _
  obtain ⟨r, hr⟩ : ∃ r, IntKind.i64.wrap (fx + fw) = r := ⟨_, rfl⟩
  obtain ⟨b, hb⟩ : ∃ b, IntKind.i64.wrap (fy + fh) = b := ⟨_, rfl⟩
  have hr' : wrap64 (fx + fw) = r := by rw [← hr, IntKind.wrap_i64]; unfold wrap64; rfl
  have hb' : wrap64 (fy + fh) = b := by rw [← hb, IntKind.wrap_i64]; unfold wrap64; rfl
  rw [hr, hb] at HC
  have hx' := (((Below.refl w.heap.size w).alloc (Nat.le_refl _) (.cells #[.int .i64 n, .int .i64 p, .int .i64 d, .int .i64 fx, .int .i64 fy, .int .i64 fw, .int .i64 fh, .string s] 107)).cell (p := ⟨bx, 0, none⟩) b1).trans hx
  have hy' := (((Below.refl w.heap.size w).alloc (Nat.le_refl _) (.cells #[.int .i64 n, .int .i64 p, .int .i64 d, .int .i64 fx, .int .i64 fy, .int .i64 fw, .int .i64 fh, .string s] 107)).cell (p := ⟨bY, 0, none⟩) b2).trans hy
  have c3 : (w.alloc (.cells #[.int .i64 n, .int .i64 p, .int .i64 d, .int .i64 fx, .int .i64 fy, .int .i64 fw, .int .i64 fh, .string s] 107)).cell? ⟨w.heap.size, 3, none⟩ = some (.int .i64 fx) := by simp [go_sem]
  have c4 : (w.alloc (.cells #[.int .i64 n, .int .i64 p, .int .i64 d, .int .i64 fx, .int .i64 fy, .int .i64 fw, .int .i64 fh, .string s] 107)).cell? ⟨w.heap.size, 4, none⟩ = some (.int .i64 fy) := by simp [go_sem]
  have c5 : (w.alloc (.cells #[.int .i64 n, .int .i64 p, .int .i64 d, .int .i64 fx, .int .i64 fy, .int .i64 fw, .int .i64 fh, .string s] 107)).cell? ⟨w.heap.size, 5, none⟩ = some (.int .i64 fw) := by simp [go_sem]
  have c6 : (w.alloc (.cells #[.int .i64 n, .int .i64 p, .int .i64 d, .int .i64 fx, .int .i64 fy, .int .i64 fw, .int .i64 fh, .string s] 107)).cell? ⟨w.heap.size, 6, none⟩ = some (.int .i64 fh) := by simp [go_sem]
  have h5 : ¬ fx ≤ x ∨ (fx ≤ x ∧ ¬ x < r) ∨ (fx ≤ x ∧ x < r ∧ ¬ fy ≤ y) ∨ (fx ≤ x ∧ x < r ∧ fy ≤ y ∧ ¬ y < b) ∨ (fx ≤ x ∧ x < r ∧ fy ≤ y ∧ y < b) := by omega
  clear hx hy
  rcases h5 with g1 | ⟨g1, g2⟩ | ⟨g1, g2, g3⟩ | ⟨g1, g2, g3, g4⟩ | ⟨g1, g2, g3, g4⟩
  all_goals
    go_enter Try.func102, Try.ntmps102
    go_wp2_with fail
    go_ret
    exact ⟨by rw [HC.out]; simp [*] <;> (intros; omega), _, rfl⟩

/-- n - 1, n - 2, .., m. -/
def downTo (n m : Nat) : List Nat := (List.range (n - m)).map fun j => n - 1 - j
theorem downTo_top (n : Nat) : downTo n n = [] := by simp [downTo]
theorem downTo_len (n m : Nat) : (downTo n m).length = n - m := by simp [downTo]
theorem downTo_step {n m : Nat} (h : m < n) : downTo n m = downTo n (m + 1) ++ [m] := by
  unfold downTo
  rw [show n - m = n - (m + 1) + 1 by omega, List.range_succ, List.map_append]
  simp
  omega
theorem downTo_mem {n m i : Nat} : i ∈ downTo n m ↔ m ≤ i ∧ i < n := by
  unfold downTo
  simp only [List.mem_map, List.mem_range]
  exact ⟨fun ⟨j, h1, h2⟩ => by omega, fun h => ⟨n - 1 - i, by omega, by omega⟩⟩

def BkI (fs : List Fr) (J : List Nat → World → Prop) (n₀ : Nat) (W : World) (i : Value) (wr : World) : Prop :=
  ∃ m : Nat, m ≤ fs.length ∧ i = .int .i64 ((m : Int) - 1) ∧ J (downTo fs.length m) wr ∧ Below n₀ W wr

set_option maxRecDepth 100000 in
set_option maxHeartbeats 4000000 in
theorem back1_in (n : Nat) (hn : 1 ≤ n) (l b n₀ : Nat) (v : Value) (fs : List Fr) (J Jx : List Nat → World → Prop) (hm : fs.length ≤ 2100)
    (hY : ∀ pre x W, J pre W → pre.length < fs.length → YieldAt Fence.wide (n - 1) Try.prog l #[.int .i64 (x : Nat), (frAt fs x).val] W fun e W' =>
      (e = .returned (.bool true) ∧ J (pre ++ [x]) W' ∧ Below n₀ W W') ∨ (e = .returned (.bool false) ∧ Jx (pre ++ [x]) W'))
    (W : World) (hBx : W.cell? ⟨b, 0, none⟩ = some v) (hb : b < n₀) (hF : Frags W n₀ v fs) (h0 : J [] W) :
    CallsIn Fence.wide n Try.prog 147 #[.func (.yield l) #[] #[], .pointer (some ⟨b, 0, none⟩)] W fun e W' => (∃ v, e = .returned v) ∧
      ((∃ ys, ys = downTo fs.length 0 ∧ J ys W') ∨ (∃ pre, (∃ m, m ≤ fs.length ∧ pre = downTo fs.length m) ∧ Jx pre W')) := by
  refine callsIn_of_wp Try.func147 rfl trivial ?_ rfl
  simp only [Try.ntmps147, List.size_toArray, List.length_cons, List.length_nil, Nat.reduceAdd, Nat.reduceSub, Array.replicate_succ, Array.replicate_zero, List.push_toArray, List.append_toArray, List.nil_append, List.cons_append]
  obtain ⟨A, c, rfl, hc, hf⟩ := hF
  gi_wp2
  gi_loopw [3] (BkI fs J n₀ W) (fun i _ => (intOf i + 1).toNat)
  case atStart => exact ⟨fs.length, Nat.le_refl _, by go_num, by rw [downTo_top]; exact h0, Below.refl _ _⟩
  case round =>
    obtain ⟨m, hmn, rfl, hJ, hbr⟩ := hrel
    have hbx := (hbr.cell (p := ⟨b, 0, none⟩) hb).trans hBx
    cases m with
    | zero =>
      have hz : ((0 : Nat) : Int) - 1 = -1 := by omega
      rw [hz]
      gi_wp2
      go_end0
      exact ⟨⟨_, rfl⟩, .inl ⟨_, rfl, hJ⟩⟩
    | succ m =>
      rw [show ((m + 1 : Nat) : Int) - 1 = (m : Int) by omega]
      obtain ⟨ad, rfl, hbk, hat⟩ := hf (by omega)
      obtain ⟨k0, k1, k2, k3, k4, k5, k6, k7⟩ := (hat m (by omega)).below hbr (by rw [block_of_add]; exact hbk)
      have hD := downTo_step (n := fs.length) (m := m) (by omega)
      obtain ⟨fn, tmps, assign, body, hy, hR⟩ := hY (downTo fs.length (m + 1)) m wr hJ (by rw [downTo_len]; omega)
      rw [← hD] at hR
      dsimp only [Fr.val] at hy
      rw [frAt_at (show m < fs.length by omega)] at hy
      have hmc : (m : Int) < (fs.length : Int) := by omega
      clear hat
      generalize fs[m]'(show m < fs.length by omega) = f at *
      obtain ⟨n1, p1, d1, fx, fy, fw, fh, s⟩ := f
      have HD := Lib.hid hD; clear hD
      gi_wp2
      refine hR.mono ?_
      rintro e W3 (⟨rfl, hJ3, hk3⟩ | ⟨rfl, hJx3⟩)
      · gi_wp2
        go_roundw
        case rel => exact ⟨m, by omega, by go_num, hJ3, hbr.trans hk3⟩
        case measure => simp [intOf] <;> omega
      · gi_wp2
        refine bodyPost_ret (results_none rfl _ _ _) rfl ?_
        exact ⟨⟨_, rfl⟩, .inr ⟨_, ⟨m, by omega, rfl⟩, hJx3⟩⟩

set_option maxHeartbeats 4000000 in
/-- slices.Backward: its slice is boxed; the function value captures the box. -/
theorem back_in (n : Nat) (A : Option Addr) (len cap : Nat) (w : World) :
    CallsIn Fence.wide n Try.prog 133 #[.slice A len cap] w fun e w' => e = .returned (.func (.func 147) #[] #[.pointer (some ⟨w.heap.size, 0, none⟩)]) ∧
      w' = w.alloc (.cells #[.slice A len cap] 44) := by
  refine callsIn_of_wp Try.func133 rfl trivial ?_ rfl
  simp only [Try.ntmps133, List.size_toArray, List.length_cons, List.length_nil, Nat.reduceAdd, Nat.reduceSub, Array.replicate_succ, Array.replicate_zero, List.push_toArray, List.append_toArray, List.nil_append, List.cons_append]
  gi_wp2
  go_ret
  exact ⟨rfl, rfl⟩
theorem back_stops (n : Nat) (hn : 1 ≤ n) (b n₀ : Nat) (v : Value) (fs : List Fr) (hm : fs.length ≤ 2100) (w : World) (hn₀ : n₀ ≤ w.heap.size) (hb : b < n₀) (hBx : w.cell? ⟨b, 0, none⟩ = some v) (hF : Frags w n₀ v fs) :
    SeqStopsK Fence.wide n Try.prog 147 #[.pointer (some ⟨b, 0, none⟩)] (fun x : Nat => #[.int .i64 (x : Nat), (frAt fs x).val]) (Below n₀) (fun ys => ys = downTo fs.length 0) (fun pre => ∃ m, m ≤ fs.length ∧ pre = downTo fs.length m) fs.length w := fun l J Jx W hW _ _ hY h0 =>
  back1_in n hn l b n₀ v fs J Jx hm hY W ((hW.cell (p := ⟨b, 0, none⟩) (by show b < _; omega)).trans hBx) hb (hF.below (hW.mono hn₀)) h0

end Go.Proofs.Ytpelapdadgmlkaa
