/-
  Walk: the law FlexibleFull.
-/
import Derived.Test.YtbhdolghokhfnaaWay16
namespace Go.Proofs.Ytbhdolghokhfnaa
open Go.RowKit

/-! Plain. -/
def fuT (l : List It) (gap : Int) (out : List Int) (k : Nat) : Int := sumF (outI out) k + arT l gap k
theorem fuT_all (l : List It) (gap : Int) (out : List Int) : fuT l gap out l.length = sumF (outI out) l.length + aroundR l gap := by unfold fuT; rw [around_arT]
theorem out_bd {l : List It} {gap room : Int} {out : List Int} (P : NearP l gap room) (F : SizesF l gap room out) {i : Nat} (hi : i < l.length) : 0 ≤ outI out i ∧ outI out i ≤ 1099511627776 := by
  obtain ⟨g, hg⟩ := F.bnd i hi
  have N := P.it i hi
  have := N.l0
  have := N.l1
  have := N.m0
  have := N.m1
  unfold clampR at hg
  omega
theorem fuT_bd {l : List It} {gap room : Int} {out : List Int} (P : NearP l gap room) (F : SizesF l gap room out) {k : Nat} (hk : k ≤ l.length) : -1099511627776 ≤ fuT l gap out k ∧ fuT l gap out k ≤ 281474976710656 := by
  have h1 := sumF_lo (f := outI out) (c := 0) (n := k) fun i hi => (out_bd P F (by omega)).1
  have h2 := sumF_hi (f := outI out) (c := 1099511627776) (n := k) fun i hi => (out_bd P F (by omega)).2
  have h3 := sumF_lo (f := fun i => (itAt l i).outer) (c := -268435456) (n := k) fun i hi => (P.it i (by omega)).o0
  have h4 := sumF_hi (f := fun i => (itAt l i).outer) (c := 268435456) (n := k) fun i hi => (P.it i (by omega)).o1
  have e : outTo l k = sumF (fun i => (itAt l i).outer) k := sumF_to (g := outTo l) rfl (fun _ => rfl) k
  have hl := P.len
  have a1 : (0 : Int) ≤ ((k - 1 : Nat) : Int) := by omega
  have a2 : ((k - 1 : Nat) : Int) ≤ 100 := by omega
  have a3 := Int.mul_nonneg a1 P.p0
  have a4 := Int.mul_le_mul a2 P.p1 P.p0 (by omega : (0 : Int) ≤ 100)
  unfold fuT arT
  rw [e]
  omega
structure FullF (x : It) (room all o : Int) (grow : Bool) : Prop where
  top : grow = true → all < room → 0 < x.grow → x.most ≤ o
  low : grow = false → room < all → 0 < x.shrink → 0 < x.base → o ≤ x.least
theorem full_at {l : List It} {gap room : Int} {out : List Int} (F : SizesF l gap room out) (h0 : 0 ≤ room) {i : Nat} (hi : i < l.length) : FullF l[i] room (fuT l gap out l.length) (outI out i) (growR l gap room) := by
  rw [fuT_all]
  refine ⟨fun hg ha hx => ?_, fun hg ha hx hb => ?_⟩
  · have := F.top h0 hg ha i hi
    rw [itAt_at hi] at this
    exact this hx
  · have := F.low h0 hg ha i hi
    rw [itAt_at hi] at this
    exact this hx hb
def FuB (l : List It) (gap : Int) (out : List Int) (w : World) (all i : Value) (wr : World) : Prop := ∃ k : Nat, k ≤ l.length ∧ i = .int .i64 k ∧ all = .int .i64 (fuT l gap out k) ∧ Below w.heap.size w wr
theorem below_drew {B : Nat} {w w' : World} (h : Below B w w') (n : Nat) : Below B w (w'.drewN n) := below_drewN h n

set_option maxRecDepth 100000 in
set_option maxHeartbeats 8000000 in
theorem full16_main (l : List It) (gap room : Int) (v : Value) (w : World) (h : Items w w.heap.size v l) (hn : nearL l gap room = true) :
    LawReturns 7 #[v, .int .i64 gap, .int .i64 room] w := by
  obtain ⟨P, hrm⟩ := near_P hn
  obtain ⟨out, hout, F⟩ := sizes_facts P
  have hol := F.len
  have hlen := P.len
  have r0 := P.r0
  have p0 := P.p0
  have p1 := P.p1
  unfold LawReturns
  have aw := awake16 w
  have nr := fun W (hb : Below w.heap.size w W) => near16_any l gap room v _ W (h.below hb) hb.size
  have sz := fun W (hb : Below w.heap.size w W) => sizes_any l gap room v _ W (h.below hb) hb.size
  have fi := fun W (hb : Below w.heap.size w W) => first16_any l gap room P v _ W (h.below hb) hb.size
  have HFI : Aside _ := fi
  rw [hn] at nr
  unfold SizesPost at sz
  rw [hout] at sz
  have HP := Lib.hid P
  have HFF := Lib.hid F
  obtain ⟨A, c, rfl, hc, hf⟩ := h
  have HF : Aside _ := hf
  obtain ⟨n, hn2⟩ : ∃ n, l.length = n := ⟨_, rfl⟩
  have HN := Lib.hid hn2
  rw [hn2] at hc hol hlen nr sz ⊢
  have HOL := Lib.hid hol
  clear hf hn2 hn hout P F hol fi
  go_enter Try.func7, Try.ntmps7
  go_wp2_with fail
  refine aw.mono ?_
  clear aw
  rintro e w1 ⟨rfl, h1⟩
  go_wp2_with fail
  refine (nr _ h1).mono ?_
  clear nr
  rintro e w2 ⟨rfl, h2⟩
  have h02 : Below w.heap.size w w2 := h1.trans (h2.mono h1.size)
  go_wp2_with fail
  refine (sz _ h02).mono ?_
  clear sz
  rintro e w3 ⟨v3, rfl, ho3, h3⟩
  have h03 : Below w.heap.size w w3 := h02.trans (h3.mono h02.size)
  obtain ⟨A3, c3, hv3, hc3, _⟩ := ho3.ints
  subst hv3
  have HO := Lib.hid ho3
  rw [HOL.out] at hc3 ⊢
  have hs03 := h03.size
  have hcell : ∀ i, i < n → ∃ g, A3 = some ⟨g, 0, none⟩ ∧ g < w3.heap.size ∧ w3.cell? ⟨g, i, none⟩ = some (.int .i64 (outI out i)) := fun i hi => by
    obtain ⟨g, cap, e, _, _, hl, hcc, _⟩ := HO.out.openI (by rw [HOL.out]; omega)
    injection e with e _ _
    refine ⟨g, e, hl, ?_⟩
    rw [hcc i (by rw [HOL.out]; exact hi)]
    simp [outI, HOL.out, hi]
  have HC : Aside _ := hcell
  clear hcell h1 h2 h3 h02 ho3
  by_cases hr : room < 0
  · go_wp2_with fail
    go_loopw [9] (WyA n w3) (fun i _ => n - (intOf i).toNat)
    case atStart => exact ⟨0, by omega, rfl, Below.refl _ _⟩
    case round =>
      obtain ⟨k, hk, rfl, hbr⟩ := hrel
      have hbs := hbr.size
      by_cases hlt : k < n
      · have hltz : (k : Int) < (n : Int) := by omega
        have hkl : k < l.length := by rw [HN.out]; exact hlt
        obtain ⟨ad, rfl, hadb, hat⟩ := HF.out (by omega)
        obtain ⟨k0, k1, k2, k3, k4, k5⟩ := ((hat k hkl).below h03 (by rw [block_of_add]; exact hadb)).below hbr (by rw [block_of_add]; omega)
        obtain ⟨g, rfl, hgw, cg⟩ := HC.out k hlt
        have cg2 := (hbr.cell (p := ⟨g, k, none⟩) hgw).trans cg
        have hgr : g < wr.heap.size := by omega
        have hbl : (ad.add (k * 6)).block < wr.heap.size := by rw [block_of_add]; omega
        have ho : outI out k = firstR l[k] := by rw [HFF.out.neg hr k hkl]; unfold fstI; rw [itAt_at hkl]
        rw [ho] at cg2
        clear cg hat ho
        generalize l[k] = x at *
        clear hkl
        have f1 := fun W => first_any x W
        generalize firstR x = fx at *
        have hne : (fx != fx) = false := by simp
        obtain ⟨bs, le, mo, gr, sh, ou⟩ := x
        unfold It.val at f1
        dsimp only at f1 k0 k1 k2 k3 k4 k5
        have hk7 := fun W : BW wr.heap.size wr => (W.ok.cell (p := ⟨g, k, none⟩) hgr).trans cg2
        have hk0 := fun W : BW wr.heap.size wr => (W.ok.cell hbl).trans k0
        have hk1 := fun W : BW wr.heap.size wr => (W.ok.cell (p := ⟨(ad.add (k * 6)).block, _, none⟩) hbl).trans k1
        have hk2 := fun W : BW wr.heap.size wr => (W.ok.cell (p := ⟨(ad.add (k * 6)).block, _, none⟩) hbl).trans k2
        have hk3 := fun W : BW wr.heap.size wr => (W.ok.cell (p := ⟨(ad.add (k * 6)).block, _, none⟩) hbl).trans k3
        have hk4 := fun W : BW wr.heap.size wr => (W.ok.cell (p := ⟨(ad.add (k * 6)).block, _, none⟩) hbl).trans k4
        have hk5 := fun W : BW wr.heap.size wr => (W.ok.cell (p := ⟨(ad.add (k * 6)).block, _, none⟩) hbl).trans k5
        go_wp2_with fail
        refine wp_region_heldq wr.heap.size (by kernel_rfl) (by kernel_rfl) ?_
        repeat (go_big_quiet_step ((go_at_call 24; exact held_calls (Nat.le_refl _) f1 _)))
        refine wpQuiet_nil ?_
        intro _ hw'
        obtain ⟨⟨wq, hQ⟩, rfl⟩ := hw'
        clear hk0 hk1 hk2 hk3 hk4 hk5 hk7
        go_wp2_with fail
        go_roundw
        case rel => exact ⟨k + 1, hlt, by go_num, hbr.trans (hQ.mono hbs)⟩
        case measure => simp [intOf]; omega
      · obtain rfl : k = n := by omega
        have hltz : ¬ (k : Int) < (k : Int) := by omega
        go_wp2_with fail
        go_ret
        exact ⟨rfl, h03.trans (hbr.mono hs03)⟩
  · go_wp2_with fail
    go_loopw [10, 11] (FuB l gap out w3) (fun _ i _ => n - (intOf i).toNat)
    case atStart => exact ⟨0, by omega, rfl, by simp [fuT, arT, outTo, sumF], Below.refl _ _⟩
    case round =>
      obtain ⟨k, hk, rfl, rfl, hbr⟩ := hrel
      have hbs := hbr.size
      rw [HN.out] at hk
      have hbd := fuT_bd HP.out HFF.out (k := k) (by rw [HN.out]; exact hk)
      by_cases hlt : k < n
      · have hltz : (k : Int) < (n : Int) := by omega
        have hkl : k < l.length := by rw [HN.out]; exact hlt
        obtain ⟨ad, rfl, hadb, hat⟩ := HF.out (by omega)
        obtain ⟨k0, k1, k2, k3, k4, k5⟩ := ((hat k hkl).below h03 (by rw [block_of_add]; exact hadb)).below hbr (by rw [block_of_add]; omega)
        obtain ⟨g, rfl, hgw, cg⟩ := HC.out k hlt
        have cg2 := (hbr.cell (p := ⟨g, k, none⟩) hgw).trans cg
        have hob := out_bd HP.out HFF.out hkl
        have hN := HP.out.it k hkl
        have ho0 := hN.o0
        have ho1 := hN.o1
        have hS1 := fun (h : ¬ 0 < k) => arT_first l gap h
        have hS2 := fun (h : 0 < k) => arT_step l gap h
        have hFS : sumF (outI out) (k + 1) = sumF (outI out) k + outI out k := rfl
        rw [← itAt_at hkl] at k0 k1 k2 k3 k4 k5
        clear cg hat hN
        generalize itAt l k = x at *
        clear hkl
        obtain ⟨bs, le, mo, gr, sh, ou⟩ := x
        dsimp only at k0 k1 k2 k3 k4 k5 ho0 ho1 hS1 hS2
        obtain ⟨o, hoe⟩ : ∃ z, outI out k = z := ⟨_, rfl⟩
        rw [hoe] at cg2 hob hFS
        obtain ⟨t, ht⟩ : ∃ z, fuT l gap out k = z := ⟨_, rfl⟩
        have ht' : sumF (outI out) k + arT l gap k = t := ht
        obtain ⟨t1, ht1⟩ : ∃ z, t + o = z := ⟨_, rfl⟩
        obtain ⟨t2, ht2⟩ : ∃ z, t1 + ou = z := ⟨_, rfl⟩
        have HS1 := Lib.hid (fun (h : ¬ 0 < k) => show fuT l gap out (k + 1) = t2 by unfold fuT; rw [hS1 h, hFS]; omega)
        have HS2 := Lib.hid (fun (h : 0 < k) => show fuT l gap out (k + 1) = t2 + gap by unfold fuT; rw [hS2 h, hFS]; omega)
        rw [ht] at hbd ⊢
        have hw1 : IntKind.i64.wrap (t + o) = t1 := by rw [IntKind.wrap_i64]; omega
        have hw2 : IntKind.i64.wrap (t1 + ou) = t2 := by rw [IntKind.wrap_i64]; omega
        have ht2b : -4398046511104 ≤ t2 ∧ t2 ≤ 562949953421312 := by omega
        clear hS1 hS2 hFS ht ht' ht1 ht2 hoe
        go_wp2_with fail
        go_quiet (fail)
        clear hw1 hw2
        rcases (show 0 < k ∨ ¬ 0 < k by omega) with hk0 | hk0
        · have hkz : (0 : Int) < (k : Int) := by omega
          go_wp2_with fail
          go_roundw
          case rel => exact ⟨k + 1, by rw [HN.out]; exact hlt, by go_num, by rw [HS2.out hk0], below_drewN hbr nq⟩
          case measure => simp [intOf]; omega
        · have hkz : ¬ (0 : Int) < (k : Int) := by omega
          go_wp2_with fail
          go_roundw
          case rel => exact ⟨k + 1, by rw [HN.out]; exact hlt, by go_num, by rw [HS1.out hk0], below_drewN hbr nq⟩
          case measure => simp [intOf]; omega
      · obtain rfl : k = n := by omega
        have hltz : ¬ (k : Int) < (k : Int) := by omega
        have h0r : 0 ≤ room := by omega
        have hFA : ∀ i (hi : i < l.length), FullF l[i] room (fuT l gap out k) (outI out i) (growR l gap room) := fun i hi => by
          rw [show fuT l gap out k = fuT l gap out l.length from by rw [HN.out]]
          exact full_at HFF.out h0r hi
        have hle := HFF.out.le h0r
        have hge := HFF.out.ge h0r
        rw [← fuT_all] at hle hge
        rw [HN.out] at hle hge
        have fi := HFI.out wr (h03.trans (hbr.mono hs03))
        obtain ⟨t, ht⟩ : ∃ z, fuT l gap out k = z := ⟨_, rfl⟩
        rw [ht] at hbd hFA hle hge ⊢
        obtain ⟨grow, hgrow⟩ : ∃ z, growR l gap room = z := ⟨_, rfl⟩
        rw [hgrow] at hFA hle hge fi
        obtain ⟨al, hal⟩ : ∃ z, allR l gap = z := ⟨_, rfl⟩
        rw [hal, HN.out] at fi
        clear ht hgrow hal
        go_wp2_with fail
        refine fi.mono ?_
        clear fi
        rintro e w4 ⟨rfl, h4⟩
        have hb34 : Below w3.heap.size w3 w4 := hbr.trans (h4.mono hbs)
        cases grow with
        | true =>
          have c1 : t ≤ room := hle rfl
          clear hle hge
          have c2 : ¬ room + (k : Int) < t := by omega
          go_wp2_with fail
          go_loopw [14] (WyA k w4) (fun i _ => k - (intOf i).toNat)
          case atStart => exact ⟨0, by omega, rfl, Below.refl _ _⟩
          case round =>
            obtain ⟨j, hj, rfl, hbr2⟩ := hrel
            have hbs2 := hbr2.size
            by_cases hlt : j < k
            · have hltz2 : (j : Int) < (k : Int) := by omega
              by_cases hcond : t < room - (k : Int)
              · have hjl : j < l.length := by rw [HN.out]; exact hlt
                obtain ⟨ad, rfl, hadb, hat⟩ := HF.out (by omega)
                obtain ⟨k0, k1, k2, k3, k4, k5⟩ := (((hat j hjl).below h03 (by rw [block_of_add]; exact hadb)).below hb34 (by rw [block_of_add]; omega)).below hbr2 (by rw [block_of_add]; have := hb34.size; omega)
                obtain ⟨g, rfl, hgw, cg⟩ := HC.out j hlt
                have cg2 := (hbr2.cell (p := ⟨g, j, none⟩) (by show g < _; have := hb34.size; omega)).trans ((hb34.cell (p := ⟨g, j, none⟩) hgw).trans cg)
                have HFX := Lib.hid (hFA j hjl)
                clear cg hat
                generalize l[j] = x at *
                generalize outI out j = o at *
                clear hjl
                obtain ⟨bs, le, mo, gr, sh, ou⟩ := x
                dsimp only at k0 k1 k2 k3 k4 k5
                by_cases h0 : 0 < gr
                · have z2 : decide (o < mo) = false := decide_eq_false (by have := HFX.out.top rfl (by omega) h0; dsimp only at this; omega)
                  clear HFX
                  go_wp2_with fail
                  go_quiet (fail)
                  go_wp2_with fail
                  go_roundw
                  case rel => exact ⟨j + 1, hlt, by go_num, below_drewN hbr2 nq⟩
                  case measure => simp [intOf]; omega
                · have z1 : decide (0 < gr) = false := decide_eq_false h0
                  clear HFX
                  go_wp2_with fail
                  go_quiet (fail)
                  go_wp2_with fail
                  go_roundw
                  case rel => exact ⟨j + 1, hlt, by go_num, below_drewN hbr2 nq⟩
                  case measure => simp [intOf]; omega
              · go_wp2_with fail
                go_ret
                exact ⟨rfl, h03.trans ((hb34.trans (hbr2.mono hb34.size)).mono hs03)⟩
            · obtain rfl : j = k := by omega
              have hltz2 : ¬ (j : Int) < (j : Int) := by omega
              go_wp2_with fail
              go_ret
              exact ⟨rfl, h03.trans ((hb34.trans (hbr2.mono hb34.size)).mono hs03)⟩
        | false =>
          have c1 : room ≤ t := hge rfl
          clear hle hge
          have c2 : ¬ t < room - (k : Int) := by omega
          go_wp2_with fail
          go_loopw [14] (WyA k w4) (fun i _ => k - (intOf i).toNat)
          case atStart => exact ⟨0, by omega, rfl, Below.refl _ _⟩
          case round =>
            obtain ⟨j, hj, rfl, hbr2⟩ := hrel
            have hbs2 := hbr2.size
            by_cases hlt : j < k
            · have hltz2 : (j : Int) < (k : Int) := by omega
              by_cases hcond : room + (k : Int) < t
              · have hjl : j < l.length := by rw [HN.out]; exact hlt
                obtain ⟨ad, rfl, hadb, hat⟩ := HF.out (by omega)
                obtain ⟨k0, k1, k2, k3, k4, k5⟩ := (((hat j hjl).below h03 (by rw [block_of_add]; exact hadb)).below hb34 (by rw [block_of_add]; omega)).below hbr2 (by rw [block_of_add]; have := hb34.size; omega)
                obtain ⟨g, rfl, hgw, cg⟩ := HC.out j hlt
                have cg2 := (hbr2.cell (p := ⟨g, j, none⟩) (by show g < _; have := hb34.size; omega)).trans ((hb34.cell (p := ⟨g, j, none⟩) hgw).trans cg)
                have HFX := Lib.hid (hFA j hjl)
                clear cg hat
                generalize l[j] = x at *
                generalize outI out j = o at *
                clear hjl
                obtain ⟨bs, le, mo, gr, sh, ou⟩ := x
                dsimp only at k0 k1 k2 k3 k4 k5
                by_cases h0 : 0 < sh
                · by_cases h1 : 0 < bs
                  · have z2 : decide (le < o) = false := decide_eq_false (by have := HFX.out.low rfl (by omega) h0 h1; dsimp only at this; omega)
                    clear HFX
                    go_wp2_with fail
                    go_quiet (fail)
                    go_wp2_with fail
                    go_roundw
                    case rel => exact ⟨j + 1, hlt, by go_num, below_drewN hbr2 nq⟩
                    case measure => simp [intOf]; omega
                  · have z1 : decide (0 < bs) = false := decide_eq_false h1
                    clear HFX
                    go_wp2_with fail
                    go_quiet (fail)
                    go_wp2_with fail
                    go_roundw
                    case rel => exact ⟨j + 1, hlt, by go_num, below_drewN hbr2 nq⟩
                    case measure => simp [intOf]; omega
                · have z1 : decide (0 < sh) = false := decide_eq_false h0
                  clear HFX
                  go_wp2_with fail
                  go_quiet (fail)
                  go_wp2_with fail
                  go_roundw
                  case rel => exact ⟨j + 1, hlt, by go_num, below_drewN hbr2 nq⟩
                  case measure => simp [intOf]; omega
              · go_wp2_with fail
                go_ret
                exact ⟨rfl, h03.trans ((hb34.trans (hbr2.mono hb34.size)).mono hs03)⟩
            · obtain rfl : j = k := by omega
              have hltz2 : ¬ (j : Int) < (j : Int) := by omega
              go_wp2_with fail
              go_ret
              exact ⟨rfl, h03.trans ((hb34.trans (hbr2.mono hb34.size)).mono hs03)⟩

set_option maxRecDepth 100000 in
set_option maxHeartbeats 1000000 in
theorem full16_far (l : List It) (gap room : Int) (v : Value) (w : World) (h : Items w w.heap.size v l) (hn : nearL l gap room = false) :
    LawReturns 7 #[v, .int .i64 gap, .int .i64 room] w := by
  unfold LawReturns
  have aw := awake16 w
  have nr := fun W (hb : Below w.heap.size w W) => near16_any l gap room v _ W (h.below hb) hb.size
  rw [hn] at nr
  obtain ⟨A, c, rfl, hc, hf⟩ := h
  clear hf hn
  go_enter Try.func7, Try.ntmps7
  go_wp2_with fail
  refine aw.mono ?_
  clear aw
  rintro e w1 ⟨rfl, h1⟩
  go_wp2_with fail
  refine (nr _ h1).mono ?_
  clear nr
  rintro e w2 ⟨rfl, h2⟩
  go_wp2_with fail
  go_ret
  exact ⟨rfl, h1.trans (h2.mono h1.size)⟩
theorem flexibleFull_walk (l : List It) (gap room : Int) (v : Value) (w : World) (h : Items w w.heap.size v l) :
    LawReturns 7 #[v, .int .i64 gap, .int .i64 room] w := by
  cases hn : nearL l gap room with
  | true => exact full16_main l gap room v w h hn
  | false => exact full16_far l gap room v w h hn

end Go.Proofs.Ytbhdolghokhfnaa
