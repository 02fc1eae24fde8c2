/-
  Walks: boxes that grow and shrink in memory; a box's first size; which boxes are refused.
-/
import Derived.Test.YtbhdolghokhfnaaFlexiblePlain
import Derived.Deep.RegionHeld3
namespace Go.Proofs.Ytbhdolghokhfnaa
open Go.RowKit

def It.val (x : It) : Value := .agg #[.int .i64 x.base, .int .i64 x.least, .int .i64 x.most, .int .i64 x.grow, .int .i64 x.shrink, .int .i64 x.outer]
def It.cells (x : It) : Array Value := #[.int .i64 x.base, .int .i64 x.least, .int .i64 x.most, .int .i64 x.grow, .int .i64 x.shrink, .int .i64 x.outer]
/-- .. from an address on: its cells. -/
def ItemAt (W : World) (P : Addr) (x : It) : Prop :=
  W.cell? P = some (.int .i64 x.base) ∧ W.cell? ⟨P.block, P.off + 1, none⟩ = some (.int .i64 x.least) ∧ W.cell? ⟨P.block, P.off + 2, none⟩ = some (.int .i64 x.most) ∧ W.cell? ⟨P.block, P.off + 3, none⟩ = some (.int .i64 x.grow) ∧
  W.cell? ⟨P.block, P.off + 4, none⟩ = some (.int .i64 x.shrink) ∧ W.cell? ⟨P.block, P.off + 5, none⟩ = some (.int .i64 x.outer)
def Items (W : World) (B : Nat) (v : Value) (l : List It) : Prop :=
  ∃ A c, v = .slice A l.length c ∧ l.length ≤ c ∧ (0 < l.length → ∃ ad, A = some ad ∧ ad.block < B ∧ ∀ k (hk : k < l.length), ItemAt W (ad.add (k * 6)) l[k])
theorem ItemAt.below {W W' : World} {P : Addr} {B : Nat} {x : It} (h : ItemAt W P x) (hb : Below B W W') (ha : P.block < B) : ItemAt W' P x := by
  have e0 : W'.cell? P = W.cell? P := hb.cell ha
  have e : ∀ j, W'.cell? ⟨P.block, j, none⟩ = W.cell? ⟨P.block, j, none⟩ := fun j => hb.cell (p := ⟨P.block, j, none⟩) ha
  unfold ItemAt at h ⊢
  simp only [e, e0]
  exact h
theorem Items.below {W W' : World} {B : Nat} {v : Value} {l : List It} (h : Items W B v l) (hb : Below B W W') : Items W' B v l := by
  obtain ⟨A, c, e, hc, hf⟩ := h
  refine ⟨A, c, e, hc, fun h0 => ?_⟩
  obtain ⟨ad, e1, hk, hh⟩ := hf h0
  exact ⟨ad, e1, hk, fun k hk' => (hh k hk').below hb (by rw [block_of_add]; exact hk)⟩
theorem Items.more {W : World} {B B' : Nat} {v : Value} {l : List It} (h : Items W B v l) (hB : B ≤ B') : Items W B' v l := by
  obtain ⟨A, c, e, hc, hf⟩ := h
  refine ⟨A, c, e, hc, fun h0 => ?_⟩
  obtain ⟨ad, e1, hk, hh⟩ := hf h0
  exact ⟨ad, e1, by omega, hh⟩

set_option maxRecDepth 100000 in
set_option maxHeartbeats 400000 in
theorem first_any (x : It) (w : World) : Calls Try.prog 24 #[x.val] w fun e w' => e = .returned (.int .i64 (firstR x)) ∧ Below w.heap.size w w' := by
  obtain ⟨b, le, mo, gr, sh, ou⟩ := x
  have cl := fun W => clamp_any b le mo W
  have HF := Lib.hid (show firstR ⟨b, le, mo, gr, sh, ou⟩ = clampR b le mo from rfl)
  show Calls Try.prog 24 #[.agg #[.int .i64 b, .int .i64 le, .int .i64 mo, .int .i64 gr, .int .i64 sh, .int .i64 ou]] w _
  go_enter Try.func24, Try.ntmps24
  go_wp2_with fail
  refine (cl _).mono ?_
  rintro e w' ⟨rfl, rfl⟩
  go_wp2_with fail
  go_ret
  exact ⟨by rw [HF.out]; rfl, (Below.refl _ _).alloc (Nat.le_refl _) _⟩
set_option maxRecDepth 100000 in
set_option maxHeartbeats 400000 in
theorem rfirst_any (x : It) (w : World) : Calls Try.prog 25 #[x.val] w fun e w' => e = .returned (.int .i64 (firstR x)) ∧ Below w.heap.size w w' := by
  obtain ⟨b, le, mo, gr, sh, ou⟩ := x
  have cl := fun W => rclamp b le mo W
  have HF := Lib.hid (show firstR ⟨b, le, mo, gr, sh, ou⟩ = clampR b le mo from rfl)
  show Calls Try.prog 25 #[.agg #[.int .i64 b, .int .i64 le, .int .i64 mo, .int .i64 gr, .int .i64 sh, .int .i64 ou]] w _
  go_enter Try.func25, Try.ntmps25
  go_wp2_with fail
  refine (cl _).mono ?_
  rintro e w' ⟨rfl, rfl⟩
  go_wp2_with fail
  go_ret
  exact ⟨by rw [HF.out]; rfl, (Below.refl _ _).alloc (Nat.le_refl _) _⟩

/-- The least of five. -/
def m5 (a b c d e : Int) : Int := if e < (if d < (if c < (if b < a then b else a) then c else (if b < a then b else a)) then d else (if c < (if b < a then b else a) then c else (if b < a then b else a))) then e else (if d < (if c < (if b < a then b else a) then c else (if b < a then b else a)) then d else (if c < (if b < a then b else a) then c else (if b < a then b else a)))
theorem m5_neg (a b c d e : Int) : m5 a b c d e < 0 ↔ (a < 0 ∨ b < 0 ∨ c < 0 ∨ d < 0 ∨ e < 0) := by
  unfold m5
  repeat' split
  all_goals omega
theorem run_min5 (w : World) (ts : Array TypeId) (t : TypeId) (a b c d e : Int) : (Builtin.min_ ts t #[.int .i64 a, .int .i64 b, .int .i64 c, .int .i64 d, .int .i64 e]).run Try.prog w = .ok (.int .i64 (m5 a b c d e)) w := by
  simp [Builtin.min_, Builtin.min2, m5]
def x2 (a b : Int) : Int := if a < b then b else a
theorem x2_gt (a b c : Int) : c < x2 a b ↔ (c < a ∨ c < b) := by
  unfold x2
  split <;> omega
/-- So many boxes have been looked at. -/
def ChA (l : List It) (gap room : Int) (w0 : World) (f i : Value) (wr : World) : Prop :=
  ∃ k : Nat, k ≤ l.length ∧ i = .int .i64 k ∧ f = .bool (fit gap && fit room && (l.take k).all fitIt) ∧ (l.take k).any badIt = false ∧ Below w0.heap.size w0 wr

set_option maxRecDepth 100000 in
set_option maxHeartbeats 2000000 in
theorem check_good (l : List It) (gap room : Int) (v : Value) (B : Nat) (w : World) (h : Items w B v l) (hB : B ≤ w.heap.size) (h1 : l.length ≤ 2048) (h2 : ¬ gap < 0) (h3 : ¬ room < -1) :
    Calls Try.prog 50 #[v, .int .i64 gap, .int .i64 room] w fun e w' => e = .returned (.int .i64 (checkR l gap room)) ∧ Below w.heap.size w w' := by
  obtain ⟨A, c, rfl, hc, hf⟩ := h
  have ft := fits_two gap room 3 w
  have HC := Lib.hid (show checkR l gap room = if l.any badIt = true then 2 else if (fit gap && fit room && l.all fitIt) = true then 0 else 10 by unfold checkR; rw [if_neg (by omega)])
  have h1z : ¬ (2048 : Int) < (l.length : Int) := by omega
  go_enter Try.func50, Try.ntmps50
  go_wp2_with fail
  refine ft.mono ?_
  rintro e w' ⟨rfl, rfl⟩
  go_wp2_with fail
  have hb0 : Below w.heap.size w (w.alloc (.cells #[.int .i64 gap, .int .i64 room] 3)) := (Below.refl _ _).alloc (Nat.le_refl _) _
  generalize w.alloc (.cells #[.int .i64 gap, .int .i64 room] 3) = w1 at *
  clear ft
  go_loopw [7, 27] (ChA l gap room w) (fun _ i _ => l.length - (intOf i).toNat)
  case atStart => exact ⟨0, by omega, rfl, by simp, rfl, hb0⟩
  case round =>
    obtain ⟨k, hk, rfl, rfl, hbad, hbr⟩ := hrel
    have hbs := hbr.size
    by_cases hlt : k < l.length
    · obtain ⟨ad, rfl, hbk, hat⟩ := hf (by omega)
      obtain ⟨k0, k1, k2, k3, k4, k5⟩ := (hat k hlt).below hbr (by rw [block_of_add]; omega)
      have HT := Lib.hid (show (l.take (k + 1)).all fitIt = ((l.take k).all fitIt && fitIt l[k]) by rw [List.take_succ_eq_append_getElem hlt, List.all_append, List.all_cons, List.all_nil, Bool.and_true])
      have HB := Lib.hid (show (l.take (k + 1)).any badIt = ((l.take k).any badIt || badIt l[k]) by rw [List.take_succ_eq_append_getElem hlt, List.any_append, List.any_cons, List.any_nil, Bool.or_false])
      have HM := Lib.hid (show badIt l[k] = true → l.any badIt = true from fun hb => List.any_eq_true.2 ⟨l[k], List.getElem_mem hlt, hb⟩)
      generalize l[k] = x at *
      clear hat hf
      obtain ⟨b, le, mo, gr, sh, ou⟩ := x
      have HBI := Lib.hid (show badIt ⟨b, le, mo, gr, sh, ou⟩ = decide (b < 0 ∨ le < 0 ∨ mo < 0 ∨ gr < 0 ∨ sh < 0 ∨ 1000 < gr ∨ 1000 < sh) from rfl)
      have HFI := Lib.hid (show fitIt ⟨b, le, mo, gr, sh, ou⟩ = (fit b && fit le && fit mo && fit ou) from rfl)
      have hmn := m5_neg b le mo gr sh
      have hmr := fun W ts t => run_min5 W ts t b le mo gr sh
      generalize m5 b le mo gr sh = m at *
      have HBAD := Lib.hid hbad
      clear hbad
      by_cases hm : m < 0
      · have hbx := HM.out (by rw [HBI.out]; exact decide_eq_true (by omega))
        have HR := Lib.hid (show checkR l gap room = 2 by rw [HC.out, if_pos hbx])
        clear hmn hbx
        go_wp2_with fail
        go_ret
        exact ⟨by rw [HR.out]; rfl, hbr.trans (((Below.refl _ _).alloc hbs _))⟩
      · have hmz : decide (m < 0) = false := decide_eq_false hm
        have hx : ∃ M : Int, (if sh > gr then sh else gr) = M ∧ (1000 < M ↔ (1000 < gr ∨ 1000 < sh)) := ⟨_, rfl, by split <;> omega⟩
        obtain ⟨M, hM, hMi⟩ := hx
        have hxr : ∀ (W : World) (ts : Array TypeId) (t : TypeId), (Builtin.max_ ts t #[.int .i64 gr, .int .i64 sh]).run Try.prog W = .ok (.int .i64 M) W := fun W ts t => by rw [run_max_int2, hM]
        clear hM
        by_cases hM1 : 1000 < M
        · have hbx := HM.out (by rw [HBI.out]; exact decide_eq_true (by omega))
          have HR := Lib.hid (show checkR l gap room = 2 by rw [HC.out, if_pos hbx])
          clear hmn hbx hMi
          go_wp2_with fail
          go_ret
          exact ⟨by rw [HR.out]; rfl, hbr.trans (((Below.refl _ _).alloc hbs _))⟩
        · have HNB := Lib.hid (show badIt ⟨b, le, mo, gr, sh, ou⟩ = false by rw [HBI.out]; exact decide_eq_false (by omega))
          have hMz : decide (1000 < M) = false := decide_eq_false hM1
          clear hmn hMi
          cases hf0 : (fit gap && fit room && (l.take k).all fitIt) with
          | true =>
            have HF0 := Lib.hid hf0
            clear hf0
            have ft := fun W => fits_any [b, le, mo, ou] _ _ _ (Ints.built W [b, le, mo, ou] 3) (by simp)
            simp only [List.length_cons, List.length_nil, Nat.zero_add, Nat.reduceAdd, List.map_cons, List.map_nil] at ft
            have ft1 := ft (wr.alloc (.cells #[.int .i64 b, .int .i64 le, .int .i64 mo, .int .i64 gr, .int .i64 sh, .int .i64 ou] 39))
            rw [World.size_alloc] at ft1
            clear ft
            go_wp2_with fail
            refine ft1.mono ?_
            clear ft1
            rintro e w' ⟨rfl, rfl⟩
            have hall : ([b, le, mo, ou].all fit) = (fit b && fit le && fit mo && fit ou) := by simp [Bool.and_assoc]
            rw [hall]
            clear hall
            have HFI2 := Lib.hid (HFI.out)
            generalize (fit b && fit le && fit mo && fit ou) = f1 at *
            go_wp2_with fail
            go_roundw
            case rel => exact ⟨k + 1, hlt, by go_num, by rw [HT.out, ← Bool.and_assoc, HF0.out, HFI2.out]; rfl, by rw [HB.out, HBAD.out, HNB.out]; rfl, hbr.trans (((Below.refl _ _).alloc hbs _).alloc (by simp; omega) _)⟩
            case measure => simp [intOf]; omega
          | false =>
            have HF0 := Lib.hid hf0
            clear hf0
            go_wp2_with fail
            go_roundw
            case rel => exact ⟨k + 1, hlt, by go_num, by rw [HT.out, ← Bool.and_assoc, HF0.out]; rfl, by rw [HB.out, HBAD.out, HNB.out]; rfl, hbr.trans ((Below.refl _ _).alloc hbs _)⟩
            case measure => simp [intOf]; omega
    · obtain rfl : k = l.length := by omega
      have hbad' : l.any badIt = false := by rwa [List.take_of_length_le (Nat.le_refl _)] at hbad
      have ht : l.take l.length = l := List.take_of_length_le (Nat.le_refl _)
      cases hf0 : (fit gap && fit room && l.all fitIt) with
      | true =>
        have HR := Lib.hid (show checkR l gap room = 0 by rw [HC.out, if_neg (by simp [hbad']), if_pos hf0])
        rw [ht, hf0]
        clear hf0 hbad hbad' ht
        go_wp2_with fail
        go_ret
        exact ⟨by rw [HR.out]; rfl, hbr⟩
      | false =>
        have HR := Lib.hid (show checkR l gap room = 10 by rw [HC.out, if_neg (by simp [hbad']), if_neg (by simp [hf0])])
        rw [ht, hf0]
        clear hf0 hbad hbad' ht
        go_wp2_with fail
        go_ret
        exact ⟨by rw [HR.out]; rfl, hbr⟩

set_option maxRecDepth 100000 in
set_option maxHeartbeats 400000 in
theorem check_bad (l : List It) (gap room : Int) (v : Value) (B : Nat) (w : World) (h : Items w B v l) (h1 : 2048 < l.length ∨ (¬ 2048 < l.length ∧ gap < 0) ∨ (¬ 2048 < l.length ∧ ¬ gap < 0 ∧ room < -1)) :
    Calls Try.prog 50 #[v, .int .i64 gap, .int .i64 room] w fun e w' => e = .returned (.int .i64 (checkR l gap room)) ∧ Below w.heap.size w w' := by
  obtain ⟨A, c, rfl, hc, hf⟩ := h
  have HC := Lib.hid (show checkR l gap room = 2 by unfold checkR; rw [if_pos (by omega)])
  clear hf
  rcases h1 with g1 | ⟨g1, g2⟩ | ⟨g1, g2, g3⟩
  · have z1 : (2048 : Int) < (l.length : Int) := by omega
    go_enter Try.func50, Try.ntmps50
    go_wp2_with fail
    go_ret
    exact ⟨by rw [HC.out]; rfl, Below.refl _ _⟩
  · have z1 : ¬ (2048 : Int) < (l.length : Int) := by omega
    go_enter Try.func50, Try.ntmps50
    go_wp2_with fail
    go_ret
    exact ⟨by rw [HC.out]; rfl, Below.refl _ _⟩
  · have z1 : ¬ (2048 : Int) < (l.length : Int) := by omega
    go_enter Try.func50, Try.ntmps50
    go_wp2_with fail
    go_ret
    exact ⟨by rw [HC.out]; rfl, Below.refl _ _⟩
theorem check_any (l : List It) (gap room : Int) (v : Value) (B : Nat) (w : World) (h : Items w B v l) (hB : B ≤ w.heap.size) :
    Calls Try.prog 50 #[v, .int .i64 gap, .int .i64 room] w fun e w' => e = .returned (.int .i64 (checkR l gap room)) ∧ Below w.heap.size w w' := by
  by_cases g : 2048 < l.length ∨ gap < 0 ∨ room < -1
  · exact check_bad l gap room v B w h (by omega)
  · exact check_good l gap room v B w h hB (by omega) (by omega) (by omega)

/-- So many boxes have been looked at. -/
def AsA (l : List It) (gap room : Int) (w0 : World) (f i : Value) (wr : World) : Prop :=
  ∃ k : Nat, k ≤ l.length ∧ i = .int .i64 k ∧ f = .bool (!(fit gap && fit room && (l.take k).all fitIt)) ∧ (l.take k).any badIt = false ∧ Below w0.heap.size w0 wr

set_option maxRecDepth 100000 in
set_option maxHeartbeats 4000000 in
theorem asked_good (l : List It) (gap room : Int) (v : Value) (B : Nat) (w : World) (h : Items w B v l) (hB : B ≤ w.heap.size) (h1 : l.length ≤ 2048) (h2 : ¬ gap < 0) (h3 : ¬ room < -1) :
    Calls Try.prog 46 #[v, .int .i64 gap, .int .i64 room] w fun e w' => e = .returned (.int .i64 (checkR l gap room)) ∧ Below w.heap.size w w' := by
  obtain ⟨A, c, rfl, hc, hf⟩ := h
  have HC := Lib.hid (show checkR l gap room = if l.any badIt = true then 2 else if (fit gap && fit room && l.all fitIt) = true then 0 else 10 by unfold checkR; rw [if_neg (by omega)])
  have h1z : ¬ (2048 : Int) < (l.length : Int) := by omega
  have f1 := fun W => rfits gap W
  have f2 := fun W => rfits room W
  obtain ⟨g0, hg0⟩ : ∃ b, fit gap = b := ⟨_, rfl⟩
  obtain ⟨r0, hr0⟩ : ∃ b, fit room = b := ⟨_, rfl⟩
  have HG := Lib.hid hg0
  have HR0 := Lib.hid hr0
  rw [hg0] at f1
  rw [hr0] at f2
  clear hg0 hr0
  cases g0
  all_goals
    cases r0
    all_goals
      go_enter Try.func46, Try.ntmps46
      go_wp2_with fail
      refine (f1 _).mono ?_
      rintro e w' ⟨rfl, rfl⟩
      go_wp2_with fail
      try
        refine (f2 _).mono ?_
        rintro e w' ⟨rfl, rfl⟩
        go_wp2_with fail
      go_loopw [7, 8] (AsA l gap room w) (fun _ i _ => l.length - (intOf i).toNat)
      case atStart => exact ⟨0, by omega, rfl, by rw [HG.out, HR0.out]; rfl, rfl, Below.refl _ _⟩
      case round =>
        clear HG HR0
        obtain ⟨k, hk, rfl, rfl, hbad, hbr⟩ := hrel
        have hbs := hbr.size
        by_cases hlt : k < l.length
        · obtain ⟨ad, rfl, hbk, hat⟩ := hf (by omega)
          obtain ⟨k0, k1, k2, k3, k4, k5⟩ := (hat k hlt).below hbr (by rw [block_of_add]; omega)
          have HT := Lib.hid (show (l.take (k + 1)).all fitIt = ((l.take k).all fitIt && fitIt l[k]) by rw [List.take_succ_eq_append_getElem hlt, List.all_append, List.all_cons, List.all_nil, Bool.and_true])
          have HB := Lib.hid (show (l.take (k + 1)).any badIt = ((l.take k).any badIt || badIt l[k]) by rw [List.take_succ_eq_append_getElem hlt, List.any_append, List.any_cons, List.any_nil, Bool.or_false])
          have HM := Lib.hid (show badIt l[k] = true → l.any badIt = true from fun hb => List.any_eq_true.2 ⟨l[k], List.getElem_mem hlt, hb⟩)
          generalize l[k] = x at *
          clear hat hf f1 f2
          obtain ⟨b, le, mo, gr, sh, ou⟩ := x
          have HBI := Lib.hid (show badIt ⟨b, le, mo, gr, sh, ou⟩ = decide (b < 0 ∨ le < 0 ∨ mo < 0 ∨ gr < 0 ∨ sh < 0 ∨ 1000 < gr ∨ 1000 < sh) from rfl)
          have HFI := Lib.hid (show fitIt ⟨b, le, mo, gr, sh, ou⟩ = (fit b && fit le && fit mo && fit ou) from rfl)
          have HBAD := Lib.hid hbad
          clear hbad
          by_cases hm : b < 0 ∨ le < 0 ∨ mo < 0 ∨ gr < 0 ∨ sh < 0 ∨ 1000 < gr ∨ 1000 < sh
          · have hbx := HM.out (by rw [HBI.out]; exact decide_eq_true hm)
            have HR := Lib.hid (show checkR l gap room = 2 by rw [HC.out, if_pos hbx])
            have hm2 : b < 0 ∨ (¬ b < 0 ∧ le < 0) ∨ (¬ b < 0 ∧ ¬ le < 0 ∧ mo < 0) ∨ (¬ b < 0 ∧ ¬ le < 0 ∧ ¬ mo < 0 ∧ gr < 0) ∨ (¬ b < 0 ∧ ¬ le < 0 ∧ ¬ mo < 0 ∧ ¬ gr < 0 ∧ 1000 < gr) ∨ (¬ b < 0 ∧ ¬ le < 0 ∧ ¬ mo < 0 ∧ ¬ gr < 0 ∧ ¬ 1000 < gr ∧ sh < 0) ∨ (¬ b < 0 ∧ ¬ le < 0 ∧ ¬ mo < 0 ∧ ¬ gr < 0 ∧ ¬ 1000 < gr ∧ ¬ sh < 0 ∧ 1000 < sh) := by omega
            clear hm hbx
            rcases hm2 with g1 | ⟨g1, g2⟩ | ⟨g1, g2, g3⟩ | ⟨g1, g2, g3, g4⟩ | ⟨g1, g2, g3, g4, g5⟩ | ⟨g1, g2, g3, g4, g5, g6⟩ | ⟨g1, g2, g3, g4, g5, g6, g7⟩
            all_goals
              go_wp2_with fail
              go_ret
              exact ⟨by rw [HR.out]; rfl, hbr.trans (((Below.refl _ _).alloc hbs _))⟩
          · have HNB := Lib.hid (show badIt ⟨b, le, mo, gr, sh, ou⟩ = false by rw [HBI.out]; exact decide_eq_false hm)
            have g1 : ¬ b < 0 := by omega
            have g2 : ¬ le < 0 := by omega
            have g3 : ¬ mo < 0 := by omega
            have g4 : ¬ gr < 0 := by omega
            have g5 : ¬ 1000 < gr := by omega
            have g6 : ¬ sh < 0 := by omega
            have g7 : ¬ 1000 < sh := by omega
            clear hm
            cases hf0 : (fit gap && fit room && (l.take k).all fitIt) with
            | true =>
              have HF0 := Lib.hid hf0
              clear hf0
              have ft := fun W => rall [b, le, mo, ou] _ _ _ (Ints.built W [b, le, mo, ou] 3) (by simp)
              simp only [List.length_cons, List.length_nil, Nat.zero_add, Nat.reduceAdd, List.map_cons, List.map_nil] at ft
              have ft1 := ft (wr.alloc (.cells #[.int .i64 b, .int .i64 le, .int .i64 mo, .int .i64 gr, .int .i64 sh, .int .i64 ou] 39))
              rw [World.size_alloc] at ft1
              clear ft
              go_wp2_with fail
              refine ft1.mono ?_
              clear ft1
              rintro e w' ⟨rfl, rfl⟩
              have hall : ([b, le, mo, ou].all fit) = (fit b && fit le && fit mo && fit ou) := by simp [Bool.and_assoc]
              rw [hall]
              clear hall
              have HFI2 := Lib.hid (HFI.out)
              generalize (fit b && fit le && fit mo && fit ou) = f1 at *
              go_wp2_with fail
              go_roundw
              case rel => exact ⟨k + 1, hlt, by go_num, by rw [HT.out, ← Bool.and_assoc, HF0.out, HFI2.out]; rfl, by rw [HB.out, HBAD.out, HNB.out]; rfl, hbr.trans (((Below.refl _ _).alloc hbs _).alloc (by simp; omega) _)⟩
              case measure => simp [intOf]; omega
            | false =>
              have HF0 := Lib.hid hf0
              clear hf0
              go_wp2_with fail
              go_roundw
              case rel => exact ⟨k + 1, hlt, by go_num, by rw [HT.out, ← Bool.and_assoc, HF0.out]; rfl, by rw [HB.out, HBAD.out, HNB.out]; rfl, hbr.trans ((Below.refl _ _).alloc hbs _)⟩
              case measure => simp [intOf]; omega
        · obtain rfl : k = l.length := by omega
          have hbad' : l.any badIt = false := by rwa [List.take_of_length_le (Nat.le_refl _)] at hbad
          have ht : l.take l.length = l := List.take_of_length_le (Nat.le_refl _)
          clear f1 f2
          cases hf0 : (fit gap && fit room && l.all fitIt) with
          | true =>
            have HR := Lib.hid (show checkR l gap room = 0 by rw [HC.out, if_neg (by simp [hbad']), if_pos hf0])
            rw [ht, hf0]
            clear hf0 hbad hbad' ht
            go_wp2_with fail
            go_ret
            exact ⟨by rw [HR.out]; rfl, hbr⟩
          | false =>
            have HR := Lib.hid (show checkR l gap room = 10 by rw [HC.out, if_neg (by simp [hbad']), if_neg (by simp [hf0])])
            rw [ht, hf0]
            clear hf0 hbad hbad' ht
            go_wp2_with fail
            go_ret
            exact ⟨by rw [HR.out]; rfl, hbr⟩
set_option maxRecDepth 100000 in
set_option maxHeartbeats 400000 in
theorem asked_bad (l : List It) (gap room : Int) (v : Value) (B : Nat) (w : World) (h : Items w B v l) (h1 : 2048 < l.length ∨ (¬ 2048 < l.length ∧ gap < 0) ∨ (¬ 2048 < l.length ∧ ¬ gap < 0 ∧ room < -1)) :
    Calls Try.prog 46 #[v, .int .i64 gap, .int .i64 room] w fun e w' => e = .returned (.int .i64 (checkR l gap room)) ∧ Below w.heap.size w w' := by
  obtain ⟨A, c, rfl, hc, hf⟩ := h
  have HC := Lib.hid (show checkR l gap room = 2 by unfold checkR; rw [if_pos (by omega)])
  clear hf
  have h2 : (2048 : Int) < (l.length : Int) ∨ (¬ (2048 : Int) < (l.length : Int) ∧ gap < 0) ∨ (¬ (2048 : Int) < (l.length : Int) ∧ ¬ gap < 0 ∧ room < -1) := by omega
  clear h1
  rcases h2 with g1 | ⟨g1, g2⟩ | ⟨g1, g2, g3⟩
  all_goals
    go_enter Try.func46, Try.ntmps46
    go_wp2_with fail
    go_ret
    exact ⟨by rw [HC.out]; rfl, Below.refl _ _⟩
theorem asked_any (l : List It) (gap room : Int) (v : Value) (B : Nat) (w : World) (h : Items w B v l) (hB : B ≤ w.heap.size) :
    Calls Try.prog 46 #[v, .int .i64 gap, .int .i64 room] w fun e w' => e = .returned (.int .i64 (checkR l gap room)) ∧ Below w.heap.size w w' := by
  by_cases g : 2048 < l.length ∨ gap < 0 ∨ room < -1
  · exact asked_bad l gap room v B w h (by omega)
  · exact asked_good l gap room v B w h hB (by omega) (by omega) (by omega)

end Go.Proofs.Ytbhdolghokhfnaa
