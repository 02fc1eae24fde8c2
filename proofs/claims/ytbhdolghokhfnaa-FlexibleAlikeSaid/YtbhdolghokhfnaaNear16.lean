/-
  Walks: windowpanelaw16's near, first, box.
-/
import Derived.Test.YtbhdolghokhfnaaRefSizes
import Derived.Deep.RegionHeld3
import Derived.Laws.Rows
namespace Go.Proofs.Ytbhdolghokhfnaa
open Go.RowKit

theorem Try.infoItemN : (Try.prog.info? 39).map (fun i => (i.zero, i.size, i.bytes)) = some (some (.agg #[.int .i64 0, .int .i64 0, .int .i64 0, .int .i64 0, .int .i64 0, .int .i64 0]), 6, 48) := by kernel_rfl

/-! Plain. -/
def nearIt (x : It) : Bool := decide (0 ≤ x.base ∧ x.base ≤ 268435456 ∧ 0 ≤ x.least ∧ x.least ≤ 268435456 ∧ 0 ≤ x.most ∧ x.most ≤ 274877906944 ∧ -268435456 ≤ x.outer ∧ x.outer ≤ 268435456 ∧ 0 ≤ x.grow ∧ x.grow ≤ 1000 ∧ 0 ≤ x.shrink ∧ x.shrink ≤ 1000)
def nearL (l : List It) (gap room : Int) : Bool := decide (l.length ≤ 100 ∧ 0 ≤ gap ∧ gap ≤ 268435456 ∧ -1 ≤ room ∧ room ≤ 68719476736) && l.all nearIt
theorem near_I {x : It} (h : nearIt x = true) : NearI x := by
  unfold nearIt at h
  simp only [decide_eq_true_eq] at h
  exact ⟨by omega, by omega, by omega, by omega, by omega, by omega, by omega, by omega, by omega, by omega, by omega, by omega⟩
theorem near_P {l : List It} {gap room : Int} (h : nearL l gap room = true) : NearP l gap room ∧ room ≤ 68719476736 := by
  unfold nearL at h
  simp only [Bool.and_eq_true, decide_eq_true_eq] at h
  obtain ⟨h1, h2⟩ := h
  refine ⟨⟨by omega, by omega, by omega, by omega, by omega, fun i hi => ?_⟩, by omega⟩
  rw [itAt_at hi]
  exact near_I (List.all_eq_true.1 h2 _ (List.getElem_mem hi))

def NrA (l : List It) (w : World) (i : Value) (wr : World) : Prop := ∃ k : Nat, k ≤ l.length ∧ i = .int .i64 k ∧ (l.take k).all nearIt = true ∧ Below w.heap.size w wr

set_option maxRecDepth 100000 in
set_option maxHeartbeats 4000000 in
theorem near16_good (l : List It) (gap room : Int) (v : Value) (B : Nat) (w : World) (h : Items w B v l) (hB : B ≤ w.heap.size) (hg : l.length ≤ 100 ∧ 0 ≤ gap ∧ gap ≤ 268435456 ∧ -1 ≤ room ∧ room ≤ 68719476736) :
    Calls Try.prog 27 #[v, .int .i64 gap, .int .i64 room] w fun e w' => e = .returned (.bool (nearL l gap room)) ∧ Below w.heap.size w w' := by
  have HC := Lib.hid (show nearL l gap room = l.all nearIt by unfold nearL; rw [decide_eq_true hg]; rfl)
  obtain ⟨A, c, rfl, hc, hf⟩ := h
  have HF : Aside _ := hf
  obtain ⟨n, hn⟩ : ∃ n, l.length = n := ⟨_, rfl⟩
  have HN := Lib.hid hn
  rw [hn] at hc hg ⊢
  have p1 : ¬ (100 : Int) < (n : Int) := by omega
  have p2 : ¬ gap < 0 := by omega
  have p3 : ¬ 268435456 < gap := by omega
  have p4 : ¬ room < -1 := by omega
  have p5 : ¬ 68719476736 < room := by omega
  clear hf hn hg
  go_enter Try.func27, Try.ntmps27
  go_wp2_with fail
  go_loopw [7] (NrA l w) (fun i _ => n - (intOf i).toNat)
  case atStart => exact ⟨0, by omega, rfl, rfl, Below.refl _ _⟩
  case round =>
    obtain ⟨k, hk, rfl, hall, hbr⟩ := hrel
    have hbs := hbr.size
    rw [HN.out] at hk
    have HALL := Lib.hid hall
    clear hall
    by_cases hlt : k < n
    · have hltz : (k : Int) < (n : Int) := by omega
      have hkl : k < l.length := by rw [HN.out]; exact hlt
      obtain ⟨ad, rfl, hbk, hat⟩ := HF.out (by omega)
      obtain ⟨k0, k1, k2, k3, k4, k5⟩ := (hat k hkl).below hbr (by rw [block_of_add]; omega)
      have HT := Lib.hid (show (l.take (k + 1)).all nearIt = ((l.take k).all nearIt && nearIt l[k]) by rw [List.take_succ_eq_append_getElem hkl, List.all_append, List.all_cons, List.all_nil, Bool.and_true])
      have HM := Lib.hid (show nearIt l[k] = false → l.all nearIt = false from fun hb => by
        cases ha : l.all nearIt with
        | false => rfl
        | true => rw [List.all_eq_true.1 ha _ (List.getElem_mem hkl)] at hb; cases hb)
      generalize l[k] = x at *
      clear hat hkl
      obtain ⟨b, le, mo, gr, sh, ou⟩ := x
      have HNI := Lib.hid (show nearIt ⟨b, le, mo, gr, sh, ou⟩ = decide (0 ≤ b ∧ b ≤ 268435456 ∧ 0 ≤ le ∧ le ≤ 268435456 ∧ 0 ≤ mo ∧ mo ≤ 274877906944 ∧ -268435456 ≤ ou ∧ ou ≤ 268435456 ∧ 0 ≤ gr ∧ gr ≤ 1000 ∧ 0 ≤ sh ∧ sh ≤ 1000) from rfl)
      dsimp only at k0 k1 k2 k3 k4 k5
      by_cases hm : 0 ≤ b ∧ b ≤ 268435456 ∧ 0 ≤ le ∧ le ≤ 268435456 ∧ 0 ≤ mo ∧ mo ≤ 274877906944 ∧ -268435456 ≤ ou ∧ ou ≤ 268435456 ∧ 0 ≤ gr ∧ gr ≤ 1000 ∧ 0 ≤ sh ∧ sh ≤ 1000
      · have HY := Lib.hid (show nearIt ⟨b, le, mo, gr, sh, ou⟩ = true by rw [HNI.out]; exact decide_eq_true hm)
        have g1 : ¬ b < 0 := by omega
        have g2 : ¬ 268435456 < b := by omega
        have g3 : ¬ le < 0 := by omega
        have g4 : ¬ 268435456 < le := by omega
        have g5 : ¬ mo < 0 := by omega
        have g6 : ¬ 274877906944 < mo := by omega
        have g7 : ¬ ou < -268435456 := by omega
        have g8 : ¬ 268435456 < ou := by omega
        have g9 : ¬ gr < 0 := by omega
        have g10 : ¬ 1000 < gr := by omega
        have g11 : ¬ sh < 0 := by omega
        have g12 : ¬ 1000 < sh := by omega
        clear hm
        go_wp2_with fail
        go_roundw
        case rel => exact ⟨k + 1, by rw [HN.out]; exact hlt, by go_num, by rw [HT.out, HALL.out, HY.out]; rfl, hbr.trans ((Below.refl _ _).alloc hbs _)⟩
        case measure => simp [intOf]; omega
      · have HR := Lib.hid (show nearL l gap room = false by rw [HC.out]; exact HM.out (by rw [HNI.out]; exact decide_eq_false hm))
        have h2 : b < 0 ∨ (¬ b < 0 ∧ 268435456 < b) ∨ (¬ b < 0 ∧ ¬ 268435456 < b ∧ le < 0) ∨ (¬ b < 0 ∧ ¬ 268435456 < b ∧ ¬ le < 0 ∧ 268435456 < le) ∨ (¬ b < 0 ∧ ¬ 268435456 < b ∧ ¬ le < 0 ∧ ¬ 268435456 < le ∧ mo < 0) ∨ (¬ b < 0 ∧ ¬ 268435456 < b ∧ ¬ le < 0 ∧ ¬ 268435456 < le ∧ ¬ mo < 0 ∧ 274877906944 < mo) ∨ (¬ b < 0 ∧ ¬ 268435456 < b ∧ ¬ le < 0 ∧ ¬ 268435456 < le ∧ ¬ mo < 0 ∧ ¬ 274877906944 < mo ∧ ou < -268435456) ∨ (¬ b < 0 ∧ ¬ 268435456 < b ∧ ¬ le < 0 ∧ ¬ 268435456 < le ∧ ¬ mo < 0 ∧ ¬ 274877906944 < mo ∧ ¬ ou < -268435456 ∧ 268435456 < ou) ∨ (¬ b < 0 ∧ ¬ 268435456 < b ∧ ¬ le < 0 ∧ ¬ 268435456 < le ∧ ¬ mo < 0 ∧ ¬ 274877906944 < mo ∧ ¬ ou < -268435456 ∧ ¬ 268435456 < ou ∧ gr < 0) ∨ (¬ b < 0 ∧ ¬ 268435456 < b ∧ ¬ le < 0 ∧ ¬ 268435456 < le ∧ ¬ mo < 0 ∧ ¬ 274877906944 < mo ∧ ¬ ou < -268435456 ∧ ¬ 268435456 < ou ∧ ¬ gr < 0 ∧ 1000 < gr) ∨ (¬ b < 0 ∧ ¬ 268435456 < b ∧ ¬ le < 0 ∧ ¬ 268435456 < le ∧ ¬ mo < 0 ∧ ¬ 274877906944 < mo ∧ ¬ ou < -268435456 ∧ ¬ 268435456 < ou ∧ ¬ gr < 0 ∧ ¬ 1000 < gr ∧ sh < 0) ∨ (¬ b < 0 ∧ ¬ 268435456 < b ∧ ¬ le < 0 ∧ ¬ 268435456 < le ∧ ¬ mo < 0 ∧ ¬ 274877906944 < mo ∧ ¬ ou < -268435456 ∧ ¬ 268435456 < ou ∧ ¬ gr < 0 ∧ ¬ 1000 < gr ∧ ¬ sh < 0 ∧ 1000 < sh) := by
          by_cases c0 : b < 0
          · exact Or.inl c0
          by_cases c1 : 268435456 < b
          · exact Or.inr (Or.inl ⟨c0, c1⟩)
          by_cases c2 : le < 0
          · exact Or.inr (Or.inr (Or.inl ⟨c0, c1, c2⟩))
          by_cases c3 : 268435456 < le
          · exact Or.inr (Or.inr (Or.inr (Or.inl ⟨c0, c1, c2, c3⟩)))
          by_cases c4 : mo < 0
          · exact Or.inr (Or.inr (Or.inr (Or.inr (Or.inl ⟨c0, c1, c2, c3, c4⟩))))
          by_cases c5 : 274877906944 < mo
          · exact Or.inr (Or.inr (Or.inr (Or.inr (Or.inr (Or.inl ⟨c0, c1, c2, c3, c4, c5⟩)))))
          by_cases c6 : ou < -268435456
          · exact Or.inr (Or.inr (Or.inr (Or.inr (Or.inr (Or.inr (Or.inl ⟨c0, c1, c2, c3, c4, c5, c6⟩))))))
          by_cases c7 : 268435456 < ou
          · exact Or.inr (Or.inr (Or.inr (Or.inr (Or.inr (Or.inr (Or.inr (Or.inl ⟨c0, c1, c2, c3, c4, c5, c6, c7⟩)))))))
          by_cases c8 : gr < 0
          · exact Or.inr (Or.inr (Or.inr (Or.inr (Or.inr (Or.inr (Or.inr (Or.inr (Or.inl ⟨c0, c1, c2, c3, c4, c5, c6, c7, c8⟩))))))))
          by_cases c9 : 1000 < gr
          · exact Or.inr (Or.inr (Or.inr (Or.inr (Or.inr (Or.inr (Or.inr (Or.inr (Or.inr (Or.inl ⟨c0, c1, c2, c3, c4, c5, c6, c7, c8, c9⟩)))))))))
          by_cases c10 : sh < 0
          · exact Or.inr (Or.inr (Or.inr (Or.inr (Or.inr (Or.inr (Or.inr (Or.inr (Or.inr (Or.inr (Or.inl ⟨c0, c1, c2, c3, c4, c5, c6, c7, c8, c9, c10⟩))))))))))
          by_cases c11 : 1000 < sh
          · exact Or.inr (Or.inr (Or.inr (Or.inr (Or.inr (Or.inr (Or.inr (Or.inr (Or.inr (Or.inr (Or.inr ⟨c0, c1, c2, c3, c4, c5, c6, c7, c8, c9, c10, c11⟩))))))))))
          exact absurd ⟨by omega, by omega, by omega, by omega, by omega, by omega, by omega, by omega, by omega, by omega, by omega, by omega⟩ hm
        clear hm
        rcases h2 with g1 | ⟨g1, g2⟩ | ⟨g1, g2, g3⟩ | ⟨g1, g2, g3, g4⟩ | ⟨g1, g2, g3, g4, g5⟩ | ⟨g1, g2, g3, g4, g5, g6⟩ | ⟨g1, g2, g3, g4, g5, g6, g7⟩ | ⟨g1, g2, g3, g4, g5, g6, g7, g8⟩ | ⟨g1, g2, g3, g4, g5, g6, g7, g8, g9⟩ | ⟨g1, g2, g3, g4, g5, g6, g7, g8, g9, g10⟩ | ⟨g1, g2, g3, g4, g5, g6, g7, g8, g9, g10, g11⟩ | ⟨g1, g2, g3, g4, g5, g6, g7, g8, g9, g10, g11, g12⟩
        all_goals
          go_wp2_with fail
          go_ret
          exact ⟨by rw [HR.out]; rfl, hbr.trans ((Below.refl _ _).alloc hbs _)⟩
    · obtain rfl : k = n := by omega
      have hltz : ¬ (k : Int) < (k : Int) := by omega
      have ha := HALL.out
      rw [List.take_of_length_le (by rw [HN.out]; exact Nat.le_refl _)] at ha
      have HR := Lib.hid (show nearL l gap room = true by rw [HC.out, ha])
      clear ha
      go_wp2_with fail
      go_ret
      exact ⟨by rw [HR.out]; rfl, hbr⟩
set_option maxRecDepth 100000 in
set_option maxHeartbeats 1000000 in
theorem near16_bad (l : List It) (gap room : Int) (v : Value) (B : Nat) (w : World) (h : Items w B v l) (hg : ¬ (l.length ≤ 100 ∧ 0 ≤ gap ∧ gap ≤ 268435456 ∧ -1 ≤ room ∧ room ≤ 68719476736)) :
    Calls Try.prog 27 #[v, .int .i64 gap, .int .i64 room] w fun e w' => e = .returned (.bool (nearL l gap room)) ∧ Below w.heap.size w w' := by
  have HR := Lib.hid (show nearL l gap room = false by unfold nearL; rw [decide_eq_false hg]; rfl)
  obtain ⟨A, c, rfl, hc, hf⟩ := h
  clear hf
  have h2 : (100 : Int) < (l.length : Int) ∨ (¬ (100 : Int) < (l.length : Int) ∧ gap < 0) ∨ (¬ (100 : Int) < (l.length : Int) ∧ ¬ gap < 0 ∧ 268435456 < gap) ∨ (¬ (100 : Int) < (l.length : Int) ∧ ¬ gap < 0 ∧ ¬ 268435456 < gap ∧ room < -1) ∨ (¬ (100 : Int) < (l.length : Int) ∧ ¬ gap < 0 ∧ ¬ 268435456 < gap ∧ ¬ room < -1 ∧ 68719476736 < room) := by omega
  clear hg
  rcases h2 with g1 | ⟨g1, g2⟩ | ⟨g1, g2, g3⟩ | ⟨g1, g2, g3, g4⟩ | ⟨g1, g2, g3, g4, g5⟩
  all_goals
    go_enter Try.func27, Try.ntmps27
    go_wp2_with fail
    go_ret
    exact ⟨by rw [HR.out]; rfl, Below.refl _ _⟩
theorem near16_any (l : List It) (gap room : Int) (v : Value) (B : Nat) (w : World) (h : Items w B v l) (hB : B ≤ w.heap.size) :
    Calls Try.prog 27 #[v, .int .i64 gap, .int .i64 room] w fun e w' => e = .returned (.bool (nearL l gap room)) ∧ Below w.heap.size w w' := by
  by_cases hg : l.length ≤ 100 ∧ 0 ≤ gap ∧ gap ≤ 268435456 ∧ -1 ≤ room ∧ room ≤ 68719476736
  · exact near16_good l gap room v B w h hB hg
  · exact near16_bad l gap room v B w h hg

def FrA (l : List It) (gap : Int) (w : World) (n i : Value) (wr : World) : Prop := ∃ k : Nat, k ≤ l.length ∧ i = .int .i64 k ∧ n = .int .i64 (arT l gap k + fsT l k) ∧ Below w.heap.size w wr
theorem near_bd {l : List It} {gap room : Int} (h : NearP l gap room) {k : Nat} (hk : k ≤ l.length) : -1099511627776 ≤ arT l gap k + fsT l k ∧ arT l gap k + fsT l k ≤ 1099511627776 := by
  have hG := (check_ok h.check).good
  have h1 := sumF_lo (f := fun i => (itAt l i).outer) (c := -268435456) (n := k) fun i hi => (h.it i (by omega)).o0
  have h2 := sumF_hi (f := fun i => (itAt l i).outer) (c := 268435456) (n := k) fun i hi => (h.it i (by omega)).o1
  have h3 := sumF_lo (f := fstI l) (c := 0) (n := k) fun i hi => by have := (h.it i (by omega)).l0; unfold fstI; rw [first_eq]; omega
  have h4 := sumF_hi (f := fstI l) (c := 268435456) (n := k) fun i hi => by have := (h.it i (by omega)).l1; have := (h.it i (by omega)).b1; unfold fstI; rw [first_eq]; omega
  have e : outTo l k = sumF (fun i => (itAt l i).outer) k := sumF_to (g := outTo l) rfl (fun _ => rfl) k
  have hl := h.len
  have a1 : (0 : Int) ≤ ((k - 1 : Nat) : Int) := by omega
  have a2 : ((k - 1 : Nat) : Int) ≤ 100 := by omega
  have a3 := Int.mul_nonneg a1 h.p0
  have a4 := Int.mul_le_mul a2 h.p1 h.p0 (by omega : (0 : Int) ≤ 100)
  unfold arT fsT
  rw [e]
  omega

set_option maxRecDepth 100000 in
set_option maxHeartbeats 4000000 in
theorem first16_any (l : List It) (gap room : Int) (hP : NearP l gap room) (v : Value) (B : Nat) (w : World) (h : Items w B v l) (hB : B ≤ w.heap.size) :
    Calls Try.prog 28 #[v, .int .i64 gap, .int .i64 room] w fun e w' => e = .returned (.tuple #[.int .i64 (allR l gap), .bool (growR l gap room)]) ∧ Below w.heap.size w w' := by
  have HP := Lib.hid hP
  obtain ⟨A, c, rfl, hc, hf⟩ := h
  have HF : Aside _ := hf
  have hall := all_arT l gap
  have hgr : growR l gap room = decide (allR l gap < room) := rfl
  obtain ⟨n, hn⟩ : ∃ n, l.length = n := ⟨_, rfl⟩
  have HN := Lib.hid hn
  rw [hn] at hc hall ⊢
  rw [hgr, show allR l gap = arT l gap n + fsT l n by omega]
  have p0 := hP.p0
  have p1 := hP.p1
  have hn100 : n ≤ 100 := by rw [← HN.out]; exact hP.len
  clear hf hn hP hall hgr
  go_enter Try.func28, Try.ntmps28
  go_wp2_with fail
  go_loopw [8, 9] (FrA l gap w) (fun _ i _ => n - (intOf i).toNat)
  case atStart => exact ⟨0, by omega, rfl, by simp [arT, outTo, fsT, sumF], Below.refl _ _⟩
  case round =>
    obtain ⟨k, hk, rfl, rfl, hbr⟩ := hrel
    have hbs := hbr.size
    rw [HN.out] at hk
    have hbd := near_bd HP.out (k := k) (by rw [HN.out]; exact hk)
    by_cases hlt : k < n
    · have hltz : (k : Int) < (n : Int) := by omega
      have hkl : k < l.length := by rw [HN.out]; exact hlt
      obtain ⟨ad, rfl, hadb, hat⟩ := HF.out (by omega)
      obtain ⟨k0, k1, k2, k3, k4, k5⟩ := (hat k hkl).below hbr (by rw [block_of_add]; omega)
      have hNI := HP.out.it k hkl
      have hS1 := fun (h : ¬ 0 < k) => arT_first l gap h
      have hS2 := fun (h : 0 < k) => arT_step l gap h
      have hFS : fsT l (k + 1) = fsT l k + firstR (itAt l k) := rfl
      rw [← itAt_at hkl] at k0 k1 k2 k3 k4 k5
      have hbl : (ad.add (k * 6)).block < wr.heap.size := by rw [block_of_add]; omega
      clear hat hkl
      generalize itAt l k = x at *
      have f1 := fun W => first_any x W
      have hfb : 0 ≤ firstR x ∧ firstR x ≤ 268435456 := by
        have := hNI.l0
        have := hNI.l1
        have := hNI.b1
        rw [first_eq]
        omega
      have hob := hNI.o0
      have hob2 := hNI.o1
      clear hNI
      generalize firstR x = fx at *
      obtain ⟨bs, le, mo, gr, sh, ou⟩ := x
      unfold It.val at f1
      dsimp only at f1 k0 k1 k2 k3 k4 k5 hob hob2 hS1 hS2
      obtain ⟨t, ht⟩ : ∃ z, arT l gap k + fsT l k = z := ⟨_, rfl⟩
      rw [ht] at hbd ⊢
      obtain ⟨t1, ht1⟩ : ∃ z, t + ou = z := ⟨_, rfl⟩
      obtain ⟨t2, ht2⟩ : ∃ z, t1 + fx = z := ⟨_, rfl⟩
      have HS1 := Lib.hid (fun (h : ¬ 0 < k) => show arT l gap (k + 1) + fsT l (k + 1) = t2 by rw [hS1 h, hFS]; omega)
      have HS2 := Lib.hid (fun (h : 0 < k) => show arT l gap (k + 1) + fsT l (k + 1) = t2 + gap by rw [hS2 h, hFS]; omega)
      have hw1 : IntKind.i64.wrap (t + ou) = t1 := by rw [IntKind.wrap_i64]; omega
      have hw2 : IntKind.i64.wrap (t1 + fx) = t2 := by rw [IntKind.wrap_i64]; omega
      have ht2b : -2199023255552 ≤ t2 ∧ t2 ≤ 2199023255552 := by omega
      clear hS1 hS2 hFS ht ht1 ht2
      have hQ : Below wr.heap.size wr wr.drew := (Below.refl _ _).drew
      have hkeep : ∀ w', Below wr.heap.size wr w' → w'.cell? (ad.add (k * 6)) = some (.int .i64 bs) ∧ w'.cell? ⟨(ad.add (k * 6)).block, (ad.add (k * 6)).off + 1, none⟩ = some (.int .i64 le) ∧ w'.cell? ⟨(ad.add (k * 6)).block, (ad.add (k * 6)).off + 2, none⟩ = some (.int .i64 mo) ∧ w'.cell? ⟨(ad.add (k * 6)).block, (ad.add (k * 6)).off + 3, none⟩ = some (.int .i64 gr) ∧ w'.cell? ⟨(ad.add (k * 6)).block, (ad.add (k * 6)).off + 4, none⟩ = some (.int .i64 sh) ∧ w'.cell? ⟨(ad.add (k * 6)).block, (ad.add (k * 6)).off + 5, none⟩ = some (.int .i64 ou) := fun w' hb' =>
        ⟨(hb'.cell hbl).trans k0, (hb'.cell (p := ⟨(ad.add (k * 6)).block, _, none⟩) hbl).trans k1, (hb'.cell (p := ⟨(ad.add (k * 6)).block, _, none⟩) hbl).trans k2, (hb'.cell (p := ⟨(ad.add (k * 6)).block, _, none⟩) hbl).trans k3, (hb'.cell (p := ⟨(ad.add (k * 6)).block, _, none⟩) hbl).trans k4, (hb'.cell (p := ⟨(ad.add (k * 6)).block, _, none⟩) hbl).trans k5⟩
      have f5 := f1 wr.drew
      clear f1
      rcases (show 0 < k ∨ ¬ 0 < k by omega) with hk0 | hk0
      · have hkz : (0 : Int) < (k : Int) := by omega
        go_wp2_with fail
        go_region_held3 (fun w' => w'.cell? (ad.add (k * 6)) = some (.int .i64 bs) ∧ w'.cell? ⟨(ad.add (k * 6)).block, (ad.add (k * 6)).off + 1, none⟩ = some (.int .i64 le) ∧ w'.cell? ⟨(ad.add (k * 6)).block, (ad.add (k * 6)).off + 2, none⟩ = some (.int .i64 mo) ∧ w'.cell? ⟨(ad.add (k * 6)).block, (ad.add (k * 6)).off + 3, none⟩ = some (.int .i64 gr) ∧ w'.cell? ⟨(ad.add (k * 6)).block, (ad.add (k * 6)).off + 4, none⟩ = some (.int .i64 sh) ∧ w'.cell? ⟨(ad.add (k * 6)).block, (ad.add (k * 6)).off + 5, none⟩ = some (.int .i64 ou))
          (first | exact hkeep _ hQ | go_keep)
          (first | (go_at_call 24; with_reducible refine f5.mono ?_; rintro e w7 ⟨rfl, hb7⟩; replace hQ := hQ.trans (hb7.mono hQ.size)))
        clear hw1 hw2
        go_wp2_with fail
        go_roundw
        case rel => exact ⟨k + 1, by rw [HN.out]; exact hlt, by go_num, by rw [HS2.out hk0], hbr.trans (hQ.mono hbs)⟩
        case measure => simp [intOf]; omega
      · have hkz : ¬ (0 : Int) < (k : Int) := by omega
        go_wp2_with fail
        go_region_held3 (fun w' => w'.cell? (ad.add (k * 6)) = some (.int .i64 bs) ∧ w'.cell? ⟨(ad.add (k * 6)).block, (ad.add (k * 6)).off + 1, none⟩ = some (.int .i64 le) ∧ w'.cell? ⟨(ad.add (k * 6)).block, (ad.add (k * 6)).off + 2, none⟩ = some (.int .i64 mo) ∧ w'.cell? ⟨(ad.add (k * 6)).block, (ad.add (k * 6)).off + 3, none⟩ = some (.int .i64 gr) ∧ w'.cell? ⟨(ad.add (k * 6)).block, (ad.add (k * 6)).off + 4, none⟩ = some (.int .i64 sh) ∧ w'.cell? ⟨(ad.add (k * 6)).block, (ad.add (k * 6)).off + 5, none⟩ = some (.int .i64 ou))
          (first | exact hkeep _ hQ | go_keep)
          (first | (go_at_call 24; with_reducible refine f5.mono ?_; rintro e w7 ⟨rfl, hb7⟩; replace hQ := hQ.trans (hb7.mono hQ.size)))
        clear hw1 hw2
        go_wp2_with fail
        go_roundw
        case rel => exact ⟨k + 1, by rw [HN.out]; exact hlt, by go_num, by rw [HS1.out hk0], hbr.trans (hQ.mono hbs)⟩
        case measure => simp [intOf]; omega
    · obtain rfl : k = n := by omega
      have hltz : ¬ (k : Int) < (k : Int) := by omega
      obtain ⟨t, ht⟩ : ∃ z, arT l gap k + fsT l k = z := ⟨_, rfl⟩
      rw [ht] at hbd ⊢
      have HT := Lib.hid ht
      clear ht
      go_wp2_with fail
      go_ret2
      exact ⟨by rw [HT.out]; rfl, hbr⟩

set_option maxRecDepth 100000 in
set_option maxHeartbeats 400000 in
theorem box16_any (b g s : Int) (w : World) : Calls Try.prog 54 #[.int .i64 b, .int .i64 g, .int .i64 s] w fun e w' => e = .returned (.agg #[.int .i64 b, .int .i64 0, .int .i64 1000, .int .i64 g, .int .i64 s, .int .i64 0]) ∧ Below w.heap.size w w' := by
  go_enter Try.func54, Try.ntmps54
  go_wp2_with fail
  refine bodyPost_ret (v := .agg #[.int .i64 b, .int .i64 0, .int .i64 1000, .int .i64 g, .int .i64 s, .int .i64 0]) ?_ rfl ⟨rfl, (Below.refl _ _).alloc (Nat.le_refl _) _⟩
  exact results_cell_row rfl _ _ w.heap.size 39 _ (0, 0) _ rfl (Blk.new w 39 #[.int .i64 b, .int .i64 0, .int .i64 1000, .int .i64 g, .int .i64 s, .int .i64 0]) Try.underlying39 rfl (by have := info_parts Try.infoItemN; obtain ⟨i0, hi0, _, hs, _⟩ := this; rw [hi0]; simp [hs])

end Go.Proofs.Ytbhdolghokhfnaa
