/-
  Walks: fragments in memory; what covers a point; windowpaneref19.Hit.
-/
import Derived.Test.YtpelapdadgmlkaaFixed
namespace Go.Proofs.Ytpelapdadgmlkaa
open Go.RowKit

/-- A fragment. -/
structure Fr where
  node : Int
  part : Int
  depth : Int
  x : Int
  y : Int
  w : Int
  h : Int
  text : ByteArray
def Fr.val (f : Fr) : Value := .agg #[.int .i64 f.node, .int .i64 f.part, .int .i64 f.depth, .int .i64 f.x, .int .i64 f.y, .int .i64 f.w, .int .i64 f.h, .string f.text]
/-- .. from an address on: its cells. -/
def FragAt (W : World) (P : Addr) (f : Fr) : Prop :=
  W.cell? P = some (.int .i64 f.node) ∧ W.cell? ⟨P.block, P.off + 1, none⟩ = some (.int .i64 f.part) ∧ W.cell? ⟨P.block, P.off + 2, none⟩ = some (.int .i64 f.depth) ∧ W.cell? ⟨P.block, P.off + 3, none⟩ = some (.int .i64 f.x) ∧
  W.cell? ⟨P.block, P.off + 4, none⟩ = some (.int .i64 f.y) ∧ W.cell? ⟨P.block, P.off + 5, none⟩ = some (.int .i64 f.w) ∧ W.cell? ⟨P.block, P.off + 6, none⟩ = some (.int .i64 f.h) ∧ W.cell? ⟨P.block, P.off + 7, none⟩ = some (.string f.text)
def Frags (W : World) (B : Nat) (v : Value) (fs : List Fr) : Prop :=
  ∃ A c, v = .slice A fs.length c ∧ fs.length ≤ c ∧ (0 < fs.length → ∃ ad, A = some ad ∧ ad.block < B ∧ ∀ k (hk : k < fs.length), FragAt W (ad.add (k * 8)) fs[k])
theorem FragAt.below {W W' : World} {P : Addr} {B : Nat} {f : Fr} (h : FragAt W P f) (hb : Below B W W') (ha : P.block < B) : FragAt W' P f := by
  have e0 : W'.cell? P = W.cell? P := hb.cell ha
  have e : ∀ j, W'.cell? ⟨P.block, j, none⟩ = W.cell? ⟨P.block, j, none⟩ := fun j => hb.cell (p := ⟨P.block, j, none⟩) ha
  unfold FragAt at h ⊢
  simp only [e, e0]
  exact h
theorem Frags.below {W W' : World} {B : Nat} {v : Value} {fs : List Fr} (h : Frags W B v fs) (hb : Below B W W') : Frags W' B v fs := by
  obtain ⟨A, c, e, hc, hf⟩ := h
  refine ⟨A, c, e, hc, fun h0 => ?_⟩
  obtain ⟨ad, e1, hk, hh⟩ := hf h0
  exact ⟨ad, e1, hk, fun k hk' => (hh k hk').below hb (by rw [block_of_add]; exact hk)⟩
theorem Frags.more {W : World} {B B' : Nat} {v : Value} {fs : List Fr} (h : Frags W B v fs) (hB : B ≤ B') : Frags W B' v fs := by
  obtain ⟨A, c, e, hc, hf⟩ := h
  refine ⟨A, c, e, hc, fun h0 => ?_⟩
  obtain ⟨ad, e1, hk, hh⟩ := hf h0
  exact ⟨ad, e1, by omega, hh⟩

def cov (f : Fr) (x y : Int) : Bool := decide (f.x ≤ x) && decide (x < IntKind.i64.wrap (f.x + f.w)) && decide (f.y ≤ y) && decide (y < IntKind.i64.wrap (f.y + f.h))
def lastTo (p : Nat → Bool) : Nat → Int
  | 0 => -1
  | k + 1 => if p k then (k : Int) else lastTo p k
def frAt (fs : List Fr) (k : Nat) : Fr := fs[k]?.getD ⟨0, 0, 0, 0, 0, 0, 0, ByteArray.empty⟩
def hitP (fs : List Fr) (x y : Int) (k : Nat) : Bool := cov (frAt fs k) x y
theorem frAt_at {fs : List Fr} {k : Nat} (hk : k < fs.length) : frAt fs k = fs[k] := by simp [frAt, hk]
theorem hitP_at {fs : List Fr} {x y : Int} {k : Nat} (hk : k < fs.length) : hitP fs x y k = cov fs[k] x y := by
  unfold hitP
  rw [frAt_at hk]
theorem lastTo_none {p : Nat → Bool} : ∀ {n : Nat}, (∀ i, i < n → p i = false) → lastTo p n = -1
  | 0, _ => rfl
  | n + 1, h => by rw [lastTo, h n (by omega), if_neg (by simp), lastTo_none fun i hi => h i (by omega)]
theorem lastTo_some {p : Nat → Bool} {i : Nat} (hi : p i = true) : ∀ {n : Nat}, i < n → (∀ j, i < j → j < n → p j = false) → lastTo p n = i
  | 0, h, _ => absurd h (by omega)
  | n + 1, h, hj => by
    rw [lastTo]
    by_cases e : i = n
    · subst e
      rw [if_pos hi]
    · rw [hj n (by omega) (by omega), if_neg (by simp), lastTo_some hi (by omega) fun j h1 h2 => hj j h1 (by omega)]

set_option maxRecDepth 100000 in
set_option maxHeartbeats 2000000 in
theorem rcovers (f : Fr) (x y : Int) (w : World) : Calls Try.prog 103 #[f.val, .int .i64 x, .int .i64 y] w fun e w' => e = .returned (.bool (cov f x y)) ∧ Below w.heap.size w w' := by
  obtain ⟨n, p, d, fx, fy, fw, fh, s⟩ := f
  have HC := Lib.hid (show cov ⟨n, p, d, fx, fy, fw, fh, s⟩ x y = (decide (fx ≤ x) && decide (x < IntKind.i64.wrap (fx + fw)) && decide (fy ≤ y) && decide (y < IntKind.i64.wrap (fy + fh))) from rfl)
  show Calls Try.prog 103 #[.agg #[.int .i64 n, .int .i64 p, .int .i64 d, .int .i64 fx, .int .i64 fy, .int .i64 fw, .int .i64 fh, .string s], .int .i64 x, .int .i64 y] w _
  obtain ⟨r, hr⟩ : ∃ r, IntKind.i64.wrap (fx + fw) = r := ⟨_, rfl⟩
  obtain ⟨b, hb⟩ : ∃ b, IntKind.i64.wrap (fy + fh) = b := ⟨_, rfl⟩
  rw [hr, hb] at HC
  have hb0 : Below w.heap.size w (w.alloc (.cells #[.int .i64 n, .int .i64 p, .int .i64 d, .int .i64 fx, .int .i64 fy, .int .i64 fw, .int .i64 fh, .string s] 107)) := (Below.refl _ _).alloc (Nat.le_refl _) _
  have c3 : (w.alloc (.cells #[.int .i64 n, .int .i64 p, .int .i64 d, .int .i64 fx, .int .i64 fy, .int .i64 fw, .int .i64 fh, .string s] 107)).cell? ⟨w.heap.size, 3, none⟩ = some (.int .i64 fx) := by simp [go_sem]
  have c4 : (w.alloc (.cells #[.int .i64 n, .int .i64 p, .int .i64 d, .int .i64 fx, .int .i64 fy, .int .i64 fw, .int .i64 fh, .string s] 107)).cell? ⟨w.heap.size, 4, none⟩ = some (.int .i64 fy) := by simp [go_sem]
  have c5 : (w.alloc (.cells #[.int .i64 n, .int .i64 p, .int .i64 d, .int .i64 fx, .int .i64 fy, .int .i64 fw, .int .i64 fh, .string s] 107)).cell? ⟨w.heap.size, 5, none⟩ = some (.int .i64 fw) := by simp [go_sem]
  have c6 : (w.alloc (.cells #[.int .i64 n, .int .i64 p, .int .i64 d, .int .i64 fx, .int .i64 fy, .int .i64 fw, .int .i64 fh, .string s] 107)).cell? ⟨w.heap.size, 6, none⟩ = some (.int .i64 fh) := by simp [go_sem]
  go_enter Try.func103, Try.ntmps103
  go_wp2_with fail
  generalize w.alloc (.cells #[.int .i64 n, .int .i64 p, .int .i64 d, .int .i64 fx, .int .i64 fy, .int .i64 fw, .int .i64 fh, .string s] 107) = w0 at *
  go_quiet (fail)
  have h5 : ¬ fx ≤ x ∨ (fx ≤ x ∧ ¬ x < r) ∨ (fx ≤ x ∧ x < r ∧ ¬ fy ≤ y) ∨ (fx ≤ x ∧ x < r ∧ fy ≤ y ∧ ¬ y < b) ∨ (fx ≤ x ∧ x < r ∧ fy ≤ y ∧ y < b) := by omega
  clear hr hb
  rcases h5 with g1 | ⟨g1, g2⟩ | ⟨g1, g2, g3⟩ | ⟨g1, g2, g3, g4⟩ | ⟨g1, g2, g3, g4⟩
  all_goals
    go_wp2_with fail
    go_ret
    exact ⟨by rw [HC.out]; simp [*] <;> (intros; omega), below_drewN hb0 nq⟩

/-- The loop over fragments. -/
def RhA (fs : List Fr) (x y : Int) (w0 : World) (at_ i : Value) (wr : World) : Prop :=
  ∃ k : Nat, k ≤ fs.length ∧ i = .int .i64 k ∧ at_ = .int .i64 (lastTo (hitP fs x y) k) ∧ Below w0.heap.size w0 wr

set_option maxRecDepth 100000 in
set_option maxHeartbeats 2000000 in
theorem rhit (fs : List Fr) (x y : Int) (v : Value) (B : Nat) (w : World) (h : Frags w B v fs) (hB : B ≤ w.heap.size) (hm : fs.length ≤ 2100) :
    Calls Try.prog 52 #[v, .int .i64 x, .int .i64 y] w fun e w' => e = .returned (.int .i64 (lastTo (hitP fs x y) fs.length)) ∧ Below w.heap.size w w' := by
  obtain ⟨A, c, rfl, hc, hf⟩ := h
  have cv := fun f W => rcovers f x y W
  go_enter Try.func52, Try.ntmps52
  go_wp2_with fail
  go_loopw [7, 8] (RhA fs x y w) (fun _ i _ => fs.length - (intOf i).toNat)
  case atStart => exact ⟨0, by omega, rfl, rfl, Below.refl _ _⟩
  case round =>
    obtain ⟨k, hk, rfl, rfl, hbr⟩ := hrel
    have hbs := hbr.size
    by_cases hlt : k < fs.length
    · obtain ⟨ad, rfl, hbk, hat⟩ := hf (by omega)
      obtain ⟨k0, k1, k2, k3, k4, k5, k6, k7⟩ := (hat k hlt).below hbr (by rw [block_of_add]; omega)
      have HS := Lib.hid (show lastTo (hitP fs x y) (k + 1) = if cov fs[k] x y then (k : Int) else lastTo (hitP fs x y) k by rw [lastTo, hitP_at hlt])
      have cv' := cv fs[k] wr
      unfold Fr.val at cv'
      generalize fs[k] = f at *
      generalize lastTo (hitP fs x y) k = at0 at *
      clear hat hf cv
      cases hcv : cov f x y with
      | true =>
        rw [hcv] at cv' HS
        clear hcv
        obtain ⟨n, p, d, fx, fy, fw, fh, s⟩ := f
        go_wp2_with fail
        refine cv'.mono ?_
        rintro e w3 ⟨rfl, hb3⟩
        go_wp2_with fail
        go_roundw
        case rel => exact ⟨k + 1, hlt, by go_num, by rw [HS.out]; rfl, hbr.trans (hb3.mono hbs)⟩
        case measure => simp [intOf] <;> omega
      | false =>
        rw [hcv] at cv' HS
        clear hcv
        obtain ⟨n, p, d, fx, fy, fw, fh, s⟩ := f
        go_wp2_with fail
        refine cv'.mono ?_
        rintro e w3 ⟨rfl, hb3⟩
        go_wp2_with fail
        go_roundw
        case rel => exact ⟨k + 1, hlt, by go_num, by rw [HS.out]; rfl, hbr.trans (hb3.mono hbs)⟩
        case measure => simp [intOf] <;> omega
    · obtain rfl : k = fs.length := by omega
      go_wp2_with fail
      go_ret
      exact ⟨rfl, hbr⟩

end Go.Proofs.Ytpelapdadgmlkaa
