/-
  Walk: the law FlexibleWay.
-/
import Derived.Test.YtbhdolghokhfnaaAwake16
import Derived.Test.YtbhdolghokhfnaaHeldQ
namespace Go.Proofs.Ytbhdolghokhfnaa
open Go.RowKit

/-! Plain. -/
/-- A size lies between its bounds. -/
theorem clamp_between {g le mo o : Int} (h : o = clampR g le mo) : (mo < le ∧ o = le) ∨ (¬ mo < le ∧ le ≤ o ∧ o ≤ mo) := by
  unfold clampR at h
  omega
structure WayF (x : It) (room o : Int) (grow : Bool) : Prop where
  btw : (x.most < x.least ∧ o = x.least) ∨ (¬ x.most < x.least ∧ x.least ≤ o ∧ o ≤ x.most)
  up : 0 ≤ room → grow = true → firstR x ≤ o
  dn : 0 ≤ room → grow = false → o ≤ firstR x
  g0 : grow = true → x.grow = 0 → o = firstR x
  s0 : grow = false → x.shrink = 0 → o = firstR x
theorem way_at {l : List It} {gap room : Int} {out : List Int} (F : SizesF l gap room out) {i : Nat} (hi : i < l.length) : WayF l[i] room (outI out i) (growR l gap room) := by
  have e := itAt_at hi
  obtain ⟨g, hg⟩ := F.bnd i hi
  have f : fstI l i = firstR l[i] := by unfold fstI; rw [e]
  rw [e] at hg
  refine ⟨clamp_between hg, fun h0 hh => ?_, fun h0 hh => ?_, fun hh h0 => ?_, fun hh h0 => ?_⟩
  · rw [← f]; exact F.gr h0 hh i hi
  · rw [← f]; exact F.sh h0 hh i hi
  · rw [← f]; exact F.g0 hh i hi (by rw [e]; exact h0)
  · rw [← f]; exact F.s0 hh i hi (by rw [e]; exact h0)
def WyA (n : Nat) (w : World) (i : Value) (wr : World) : Prop := ∃ k : Nat, k ≤ n ∧ i = .int .i64 k ∧ Below w.heap.size w wr

set_option maxRecDepth 100000 in
set_option maxHeartbeats 8000000 in
theorem way16_main (l : List It) (gap room : Int) (v : Value) (w : World) (h : Items w w.heap.size v l) (hn : nearL l gap room = true) :
    LawReturns 8 #[v, .int .i64 gap, .int .i64 room] w := by
  obtain ⟨P, _⟩ := near_P hn
  obtain ⟨out, hout, F⟩ := sizes_facts P
  have HW := Lib.hid (fun i (hi : i < l.length) => way_at F hi)
  have hol := F.len
  have hlen := P.len
  unfold LawReturns
  have aw := awake16 w
  have nr := fun W (hb : Below w.heap.size w W) => near16_any l gap room v _ W (h.below hb) hb.size
  have sz := fun W (hb : Below w.heap.size w W) => sizes_any l gap room v _ W (h.below hb) hb.size
  have fi := fun W (hb : Below w.heap.size w W) => first16_any l gap room P v _ W (h.below hb) hb.size
  rw [hn] at nr
  unfold SizesPost at sz
  rw [hout] at sz
  obtain ⟨grow, hgrow⟩ : ∃ b, growR l gap room = b := ⟨_, rfl⟩
  rw [hgrow] at fi HW
  obtain ⟨al, hal⟩ : ∃ b, allR l gap = b := ⟨_, rfl⟩
  rw [hal] at fi
  obtain ⟨A, c, rfl, hc, hf⟩ := h
  have HF : Aside _ := hf
  obtain ⟨n, hn2⟩ : ∃ n, l.length = n := ⟨_, rfl⟩
  have HN := Lib.hid hn2
  rw [hn2] at hc hol hlen nr sz fi ⊢
  have HOL := Lib.hid hol
  clear hf hn2 hn hout hgrow hal P F hol
  go_enter Try.func8, Try.ntmps8
  go_wp2_with fail
  refine aw.mono ?_
  clear aw
  rintro e w1 ⟨rfl, h1⟩
  go_wp2_with fail
  refine (nr _ h1).mono ?_
  clear nr
  rintro e w2 ⟨rfl, h2⟩
  have h02 : Below w.heap.size w w2 := h1.trans (h2.mono h1.size)
  go_wp2_with fail
  refine (sz _ h02).mono ?_
  clear sz
  rintro e w3 ⟨v3, rfl, ho3, h3⟩
  have h03 : Below w.heap.size w w3 := h02.trans (h3.mono h02.size)
  obtain ⟨A3, c3, hv3, hc3, _⟩ := ho3.ints
  subst hv3
  have HO := Lib.hid ho3
  rw [HOL.out] at hc3 ⊢
  clear ho3
  go_wp2_with fail
  refine (fi _ h03).mono ?_
  clear fi
  rintro e w4 ⟨rfl, h4⟩
  have h04 : Below w.heap.size w w4 := h03.trans (h4.mono h03.size)
  have hs04 := h04.size
  have hcell : ∀ i, i < n → ∃ g, A3 = some ⟨g, 0, none⟩ ∧ g < w4.heap.size ∧ w4.cell? ⟨g, i, none⟩ = some (.int .i64 (outI out i)) := fun i hi => by
    obtain ⟨g, cap, e, _, _, hl, hcc, _⟩ := HO.out.openI (by rw [HOL.out]; omega)
    injection e with e _ _
    refine ⟨g, e, Nat.lt_of_lt_of_le hl h4.size, ?_⟩
    rw [h4.cell (p := ⟨g, i, none⟩) hl, hcc i (by rw [HOL.out]; exact hi)]
    simp [outI, HOL.out, hi]
  have HC : Aside _ := hcell
  clear hcell h1 h2 h3 h4 h02 h03
  go_wp2_with fail
  go_loopw [11] (WyA n w4) (fun i _ => n - (intOf i).toNat)
  case atStart => exact ⟨0, by omega, rfl, Below.refl _ _⟩
  case round =>
    obtain ⟨k, hk, rfl, hbr⟩ := hrel
    have hbs := hbr.size
    by_cases hlt : k < n
    · have hltz : (k : Int) < (n : Int) := by omega
      have hkl : k < l.length := by rw [HN.out]; exact hlt
      obtain ⟨ad, rfl, hadb, hat⟩ := HF.out (by omega)
      obtain ⟨k0, k1, k2, k3, k4, k5⟩ := ((hat k hkl).below h04 (by rw [block_of_add]; exact hadb)).below hbr (by rw [block_of_add]; omega)
      obtain ⟨g, rfl, hgw, cg⟩ := HC.out k hlt
      have cg2 := (hbr.cell (p := ⟨g, k, none⟩) hgw).trans cg
      have hgr : g < wr.heap.size := by omega
      have W := HW.out k hkl
      clear cg hat
      generalize l[k] = x at *
      generalize outI out k = o at *
      clear hkl
      obtain ⟨wbt, wup, wdn, wg0, ws0⟩ := W
      have f1 := fun W => first_any x W
      generalize firstR x = fx at *
      obtain ⟨bs, le, mo, gr, sh, ou⟩ := x
      unfold It.val at f1
      dsimp only at f1 k0 k1 k2 k3 k4 k5 wbt wup wdn wg0 ws0
      have HBT := Lib.hid wbt
      have HUP := Lib.hid wup
      have HDN := Lib.hid wdn
      have HG0 := Lib.hid wg0
      have HS0 := Lib.hid ws0
      clear wbt wup wdn wg0 ws0
      have hKA : Blk (wr.alloc (.cells #[.int .i64 bs, .int .i64 le, .int .i64 mo, .int .i64 gr, .int .i64 sh, .int .i64 ou] 39)) wr.heap.size 39 #[.int .i64 bs, .int .i64 le, .int .i64 mo, .int .i64 gr, .int .i64 sh, .int .i64 ou] := Blk.new _ _ _
      have hbA : Below wr.heap.size wr (wr.alloc (.cells #[.int .i64 bs, .int .i64 le, .int .i64 mo, .int .i64 gr, .int .i64 sh, .int .i64 ou] 39)) := (Below.refl _ _).alloc (Nat.le_refl _) _
      have hco : (wr.alloc (.cells #[.int .i64 bs, .int .i64 le, .int .i64 mo, .int .i64 gr, .int .i64 sh, .int .i64 ou] 39)).cell? ⟨g, k, none⟩ = some (.int .i64 o) := (hbA.cell (p := ⟨g, k, none⟩) hgr).trans cg2
      go_upto_region 13 with fail
      generalize wr.alloc (.cells #[.int .i64 bs, .int .i64 le, .int .i64 mo, .int .i64 gr, .int .i64 sh, .int .i64 ou] 39) = wa at *
      obtain ⟨xb, hxb⟩ : ∃ x, wr.heap.size = x := ⟨_, rfl⟩
      rw [hxb] at hKA hgr hbA hbs ⊢
      have hlA := Blk.lt hKA
      have hgA : g < wa.heap.size := by omega
      have hcs : ∀ W, Below wa.heap.size wa W → W.cell? ⟨xb, 0, none⟩ = some (.int .i64 bs) ∧ W.cell? ⟨xb, 1, none⟩ = some (.int .i64 le) ∧ W.cell? ⟨xb, 2, none⟩ = some (.int .i64 mo) ∧ W.cell? ⟨xb, 3, none⟩ = some (.int .i64 gr) ∧ W.cell? ⟨xb, 4, none⟩ = some (.int .i64 sh) ∧ W.cell? ⟨xb, 5, none⟩ = some (.int .i64 ou) ∧ W.cell? ⟨g, k, none⟩ = some (.int .i64 o) := fun W hb => by
        have hK := Blk.below hKA hb hlA
        exact ⟨Blk.cell hK 0, Blk.cell hK 1, Blk.cell hK 2, Blk.cell hK 3, Blk.cell hK 4, Blk.cell hK 5, (hb.cell (p := ⟨g, k, none⟩) hgA).trans hco⟩
      have HCS : Aside _ := hcs
      have hb4a : Below w4.heap.size w4 wa := hbr.trans (hbA.mono hbs)
      clear hcs k0 k1 k2 k3 k4 k5 cg2 hco hKA hbA hbr hxb
      go_cut [91] (fun c wx => c = .bool false ∧ Below wa.heap.size wa wx)
      case first =>
        obtain ⟨e0, e1, e2, e3, e4, e5, e6⟩ := HCS.out wa (Below.refl _ _)
        rcases HBT.out with ⟨q1, q2⟩ | ⟨q1, q2, q3⟩
        · have z1 : decide (le ≤ mo) = false := decide_eq_false (by omega)
          have z2 : (o != le) = false := by simp [q2]
          clear q2
          go_wp2_with fail
          go_quiet (fail)
          go_wp2_with fail
          go_meet
          exact ⟨rfl, below_drewN (Below.refl _ _) nq⟩
        · have z1 : le ≤ mo := by omega
          have z0 : decide (mo < le) = false := decide_eq_false q1
          have z2 : decide (o < le) = false := decide_eq_false (by omega)
          have z3 : decide (mo < o) = false := decide_eq_false (by omega)
          clear q1 q2 q3
          go_wp2_with fail
          go_quiet (fail)
          go_wp2_with fail
          go_meet
          exact ⟨rfl, below_drewN (Below.refl _ _) nq⟩
      case rest =>
        obtain ⟨rfl, hbw⟩ := hcut
        have HBW := Lib.hid hbw
        clear hbw
        go_upto_region 15 with fail
        go_cut [118] (fun c wx => c = .bool false ∧ Below wc.heap.size wc wx)
        case first =>
          obtain ⟨e0, e1, e2, e3, e4, e5, e6⟩ := HCS.out wc HBW.out
          have hk := fun W : BW wc.heap.size wc => HCS.out W.val (HBW.out.trans (W.ok.mono HBW.out.size))
          by_cases hr : room < 0
          · have z1 : decide (0 ≤ room) = false := decide_eq_false (by omega)
            clear hr
            go_wp2_with fail
            go_quiet (fail)
            go_wp2_with fail
            go_meet
            exact ⟨rfl, below_drewN (Below.refl _ _) nq⟩
          · have z1 : (0 : Int) ≤ room := by omega
            cases grow with
            | true =>
              have z2 : decide (o < fx) = false := decide_eq_false (by have := HUP.out z1 rfl; omega)
              refine wp_region_heldq wc.heap.size (by kernel_rfl) (by kernel_rfl) ?_
              repeat (go_big_quiet_step ((go_at_call 24; exact held_calls (Nat.le_refl _) f1 _)))
              refine wpQuiet_nil ?_
              intro _ hw'
              obtain ⟨⟨wq, hQ⟩, rfl⟩ := hw'
              go_wp2_with fail
              go_meet
              exact ⟨rfl, hQ⟩
            | false =>
              have z2 : decide (fx < o) = false := decide_eq_false (by have := HDN.out z1 rfl; omega)
              refine wp_region_heldq wc.heap.size (by kernel_rfl) (by kernel_rfl) ?_
              repeat (go_big_quiet_step ((go_at_call 24; exact held_calls (Nat.le_refl _) f1 _)))
              refine wpQuiet_nil ?_
              intro _ hw'
              obtain ⟨⟨wq, hQ⟩, rfl⟩ := hw'
              go_wp2_with fail
              go_meet
              exact ⟨rfl, hQ⟩
        case rest =>
          obtain ⟨rfl, hbw⟩ := hcut
          have HBC := Lib.hid (HBW.out.trans (hbw.mono HBW.out.size))
          clear hbw
          go_upto_region 17 with fail
          go_cut [151] (fun c wx => c = .bool false ∧ Below wc.heap.size wc wx)
          case first =>
            obtain ⟨e0, e1, e2, e3, e4, e5, e6⟩ := HCS.out wc HBC.out
            have hk := fun W : BW wc.heap.size wc => HCS.out W.val (HBC.out.trans (W.ok.mono HBC.out.size))
            cases grow with
            | true =>
              by_cases h0 : gr = 0
              · have z1 : (gr == 0) = true := by simp [h0]
                have z2 : (o != fx) = false := by have := HG0.out rfl h0; simp [this]
                clear h0
                refine wp_region_heldq wc.heap.size (by kernel_rfl) (by kernel_rfl) ?_
                repeat (go_big_quiet_step ((go_at_call 24; exact held_calls (Nat.le_refl _) f1 _)))
                refine wpQuiet_nil ?_
                intro _ hw'
                obtain ⟨⟨wq, hQ⟩, rfl⟩ := hw'
                go_wp2_with fail
                go_meet
                exact ⟨rfl, hQ⟩
              · have z1 : (gr == 0) = false := by simp [h0]
                clear h0
                go_wp2_with fail
                go_quiet (fail)
                go_wp2_with fail
                go_meet
                exact ⟨rfl, below_drewN (Below.refl _ _) nq⟩
            | false =>
              by_cases h0 : sh = 0
              · have z1 : (sh == 0) = true := by simp [h0]
                have z2 : (o != fx) = false := by have := HS0.out rfl h0; simp [this]
                clear h0
                refine wp_region_heldq wc.heap.size (by kernel_rfl) (by kernel_rfl) ?_
                repeat (go_big_quiet_step ((go_at_call 24; exact held_calls (Nat.le_refl _) f1 _)))
                refine wpQuiet_nil ?_
                intro _ hw'
                obtain ⟨⟨wq, hQ⟩, rfl⟩ := hw'
                go_wp2_with fail
                go_meet
                exact ⟨rfl, hQ⟩
              · have z1 : (sh == 0) = false := by simp [h0]
                clear h0
                go_wp2_with fail
                go_quiet (fail)
                go_wp2_with fail
                go_meet
                exact ⟨rfl, below_drewN (Below.refl _ _) nq⟩
          case rest =>
            obtain ⟨rfl, hbw⟩ := hcut
            have HBD := Lib.hid (HBC.out.trans (hbw.mono HBC.out.size))
            clear hbw
            go_wp2_with fail
            go_roundw
            case rel => exact ⟨k + 1, hlt, by go_num, hb4a.trans (HBD.out.mono hb4a.size)⟩
            case measure => simp [intOf]; omega
    · obtain rfl : k = n := by omega
      have hltz : ¬ (k : Int) < (k : Int) := by omega
      go_wp2_with fail
      go_ret
      exact ⟨rfl, h04.trans (hbr.mono hs04)⟩

set_option maxRecDepth 100000 in
set_option maxHeartbeats 1000000 in
theorem way16_far (l : List It) (gap room : Int) (v : Value) (w : World) (h : Items w w.heap.size v l) (hn : nearL l gap room = false) :
    LawReturns 8 #[v, .int .i64 gap, .int .i64 room] w := by
  unfold LawReturns
  have aw := awake16 w
  have nr := fun W (hb : Below w.heap.size w W) => near16_any l gap room v _ W (h.below hb) hb.size
  rw [hn] at nr
  obtain ⟨A, c, rfl, hc, hf⟩ := h
  clear hf hn
  go_enter Try.func8, Try.ntmps8
  go_wp2_with fail
  refine aw.mono ?_
  clear aw
  rintro e w1 ⟨rfl, h1⟩
  go_wp2_with fail
  refine (nr _ h1).mono ?_
  clear nr
  rintro e w2 ⟨rfl, h2⟩
  go_wp2_with fail
  go_ret
  exact ⟨rfl, h1.trans (h2.mono h1.size)⟩
theorem flexibleWay_walk (l : List It) (gap room : Int) (v : Value) (w : World) (h : Items w w.heap.size v l) :
    LawReturns 8 #[v, .int .i64 gap, .int .i64 room] w := by
  cases hn : nearL l gap room with
  | true => exact way16_main l gap room v w h hn
  | false => exact way16_far l gap room v w h hn

end Go.Proofs.Ytbhdolghokhfnaa
