/-
  Walks: slices.symMergeCmpFunc, where the right row has one element.
-/
import Derived.Test.YtbhdolghokhfnaaSymWalk1
namespace Go.Proofs.Ytbhdolghokhfnaa
open Go.Shelf Go.RowKit Go.Lib Go.Sort

set_option maxRecDepth 1000000 in
set_option maxHeartbeats 4000000 in
theorem sym_right {N : Nat} (g cap gf : Nat) (cb : Array Value) (cf : Fin (N + 1) → Fin (N + 1) → Int) (lt : Fin (N + 1) → Fin (N + 1) → Bool) (hS : SWO lt) (w : World) (d0 : Array (Fin (N + 1)))
    (hH : Holds encF w g 0 d0) (hsz : d0.size < 4611686018427387904)
    (eg : ∀ args w, (callFunc gf args).run Try.prog w = .ok (.enter gf args) w) (hcmp : CmpReads Try.prog gf cb encF cf g 0 d0.size w)
    (a m b k0 : Nat) (d : Array (Fin (N + 1))) (h1 : b = m + 1) (h2 : a + 1 < m) (h3 : b ≤ d0.size) (hs : d.size = d0.size) (hr : SortedIn lt a m d) (hA : AgreeAt (ltOf cf) lt d a m b) :
    Calls Try.prog 73 #[.slice (some ⟨g, 0, none⟩) d0.size cap, .int .i64 a, .int .i64 m, .int .i64 b, .func (.func gf) #[] cb] ((putRow encF w g 0 d).drewN k0) fun x w' =>
      x = .returned (.tuple #[]) ∧ ∃ d' k, PermIn a b d d' ∧ SortedIn lt a b d' ∧ w' = (putRow encF w g 0 d').drewN k := by
  -- the comparison, however many draws on
  have hcAt : ∀ (X : Array (Fin (N + 1))) (x y : Fin (N + 1)), X.size = d0.size → ∀ m n, Calls Try.prog gf (#[encF x, encF y] ++ cb) (((putRow encF w g 0 X).drewN m).drewN n) fun e w' => e = .returned (.int .i64 (cf x y)) ∧ ∃ q, w' = (((putRow encF w g 0 X).drewN m).drewN n).drewN q := fun X x y hX m n => by
    have := hcmp (m + n) #[] X hX x y
    rw [sortWorld_none, ← World.drewN_drewN] at this
    exact this
  have HC : Aside _ := hcAt
  have HH : Hid (Holds encF w g 0 d0) := hH
  have HA : Aside _ := hA
  have HR : Aside _ := hr
  have w1 : IntKind.i64.wrap ((b : Int) - (m : Int)) = 1 := by rw [IntKind.wrap_i64]; omega
  obtain ⟨q0, hq0⟩ : ∃ q, q = m - a := ⟨_, rfl⟩
  have w0 : IntKind.i64.wrap ((m : Int) - (a : Int)) = (q0 : Int) := by rw [IntKind.wrap_i64]; omega
  have q01 : ¬ ((q0 : Int) = 1) := by omega
  have q02 : ((q0 : Int) == 1) = false := by simp; omega
  clear hq0
  have H1 := Lib.hid h1
  clear hcAt hcmp hH hA hr h1
  go_enter Try.func73, Try.ntmps73
  go_wp2_with fail
  go_loopg [14, 15] (m - a) (fun g1 vi vj wr => ∃ (i j k : Nat), vi = .int .i64 i ∧ vj = .int .i64 j ∧ a ≤ i ∧ i ≤ j ∧ j ≤ m ∧ j - i ≤ g1 ∧ wr = (putRow encF w g 0 d).drewN k ∧ Aside (∀ q, a ≤ q → q < i → lt d[m]! d[q]! = false) ∧ Aside (∀ q, j ≤ q → q < m → lt d[m]! d[q]! = true))
  case atStart => exact ⟨a, m, k0, rfl, rfl, by omega, by omega, by omega, by omega, rfl, fun q _ _ => absurd ‹_› (by omega), fun q _ _ => absurd ‹_› (by omega)⟩
  case round =>
    obtain ⟨i, j, k, rfl, rfl, hi, hij, hj, hg1, rfl, LO, HI⟩ := hrel
    have hmb : m < b := by have := H1.out; omega
    by_cases hlt : i < j
    · have hltz : (i : Int) < (j : Int) := by omega
      have s1 : IntKind.i64.wrap ((i : Int) + (j : Int)) = (i : Int) + (j : Int) := by rw [IntKind.wrap_i64]; omega
      have s2 : IntKind.u64.wrap ((i : Int) + (j : Int)) = (i : Int) + (j : Int) := by rw [IntKind.wrap_u64]; omega
      obtain ⟨h, hh⟩ : ∃ h : Nat, h = (i + j) / 2 := ⟨_, rfl⟩
      have eh : ((i : Int) + (j : Int)) / 2 = (h : Int) := by omega
      have hih : i ≤ h := by omega
      have hhj : h < j := by omega
      have HHH := Lib.hid hh
      have HHj := holds_putRow encF w g 0 d0 d HH.out hs
      obtain ⟨xm, hxm⟩ : ∃ x, d[m]! = x := ⟨_, rfl⟩
      obtain ⟨xh, hxh⟩ : ∃ x, d[h]! = x := ⟨_, rfl⟩
      have cm := (HHj m (by omega)).1
      have ch := (HHj h (by omega)).1
      rw [hxm] at cm
      rw [hxh] at ch
      have cm' : ((putRow encF w g 0 d).drewN k).cell? ⟨g, 0 + m, none⟩ = some (encF xm) := cm
      have ch' : ((putRow encF w g 0 d).drewN k).cell? ⟨g, 0 + h, none⟩ = some (encF xh) := ch
      rw [Nat.zero_add] at cm' ch'
      have hc := HC.out d xm xh hs k
      have haz : (m : Int) < (d0.size : Int) := by omega
      have hhz : (h : Int) < (d0.size : Int) := by omega
      have hagr : decide (cf xm xh < 0) = lt xm xh := by have := HA.out h m (by omega) (by omega) (by omega) (by omega); rw [hxm, hxh] at this; exact this
      clear HHj cm ch
      obtain ⟨wq, hwq⟩ : ∃ W, (putRow encF w g 0 d).drewN k = W := ⟨_, rfl⟩
      have HW := Lib.hid hwq
      rw [hwq] at cm' ch' hc ⊢
      have HXM := Lib.hid hxm
      have HXH := Lib.hid hxh
      have HG := Lib.hid hagr
      clear hwq hxm hxh hagr hh
      unfold encF at cm' ch' hc
      by_cases hlv : cf xm xh < 0
      · go_wp2_with fail
        go_quiet (first | (go_at_fn gf; refine Calls.quiet_of (hc _)))
        go_wp2_with fail
        go_roundg (h - i)
        case measure => omega
        case rel =>
          refine ⟨i, h, k + nq, rfl, rfl, hi, hih, by omega, by omega, by rw [← HW.out, World.drewN_drewN], LO, ?_⟩
          intro q q1 q2
          have hb : lt d[m]! d[h]! = true := by rw [HXH.out, HXM.out, ← HG.out]; exact decide_eq_true hlv
          have := sorted_le hS HR.out (show a ≤ h by omega) q1 q2
          cases hqa : lt d[m]! d[q]! with
          | true => rfl
          | false =>
            have h5 := hS.ntrans _ _ _ hqa this
            rw [hb] at h5
            cases h5
      · have hlb : decide (cf xm xh < 0) = false := decide_eq_false hlv
        have hlb2 : (!decide (cf xm xh < 0)) = true := by rw [hlb]; rfl
        go_wp2_with fail
        go_quiet (first | (go_at_fn gf; refine Calls.quiet_of (hc _)))
        have s3 : IntKind.i64.wrap ((h : Int) + 1) = (h : Int) + 1 := by rw [IntKind.wrap_i64]; omega
        go_wp2_with fail
        go_roundg (j - (h + 1))
        case measure => omega
        case rel =>
          refine ⟨h + 1, j, k + nq, by go_num, rfl, by omega, by omega, hj, by omega, by rw [← HW.out, World.drewN_drewN], ?_, HI⟩
          intro q q1 q2
          have hb : lt d[m]! d[h]! = false := by rw [HXH.out, HXM.out, ← HG.out]; exact decide_eq_false (by omega)
          exact hS.ntrans _ _ _ hb (sorted_le hS HR.out q1 (show q ≤ h by omega) (by omega))
    · have hltz : ¬ (i : Int) < (j : Int) := by omega
      obtain rfl : i = j := by omega
      go_wp2_with fail
      go_loopg [17] (m - i) (fun g1 vi wr => ∃ (x k : Nat) (dk : Array (Fin (N + 1))), vi = .int .i64 x ∧ i ≤ x ∧ x ≤ m ∧ x - i ≤ g1 ∧ wr = (putRow encF w g 0 dk).drewN k ∧ Hid (ShiftDown d dk x m) ∧ Hid (PermIn a b d dk))
      case atStart => exact ⟨m, k, d, rfl, hj, by omega, by omega, rfl, shiftDown_refl _ _, permIn_refl _ _ _⟩
      case round =>
        obtain ⟨x, k2, dk, rfl, hax, hxt, hg2, rfl, HU, HP⟩ := hrel
        by_cases hlt2 : i < x
        · have hltz2 : (i : Int) < (x : Int) := by omega
          have hsk : dk.size = d0.size := HU.out.1.trans hs
          have HHj := holds_putRow encF w g 0 d0 dk HH.out hsk
          obtain ⟨y, hy⟩ : ∃ y, x = y + 1 := ⟨x - 1, by omega⟩
          obtain ⟨xx, hxx⟩ : ∃ v, dk[x]! = v := ⟨_, rfl⟩
          obtain ⟨xy, hxy⟩ : ∃ v, dk[y]! = v := ⟨_, rfl⟩
          obtain ⟨ca, fa⟩ := HHj x (by omega)
          obtain ⟨cb', fb⟩ := HHj y (by omega)
          rw [hxx] at ca
          rw [hxy] at cb'
          have ca1 : ((putRow encF w g 0 dk).drewN k2).cell? ⟨g, 0 + x, none⟩ = some (encF xx) := ca
          have cb1 : ((putRow encF w g 0 dk).drewN k2).cell? ⟨g, 0 + y, none⟩ = some (encF xy) := cb'
          have fa1 : ((putRow encF w g 0 dk).drewN k2).frozen? ⟨g, 0 + x, none⟩ = false := fa
          have fb1 : ((putRow encF w g 0 dk).drewN k2).frozen? ⟨g, 0 + y, none⟩ = false := fb
          rw [Nat.zero_add] at ca1 cb1 fa1 fb1
          have wy : IntKind.i64.wrap ((x : Int) - 1) = (y : Int) := by rw [IntKind.wrap_i64]; omega
          have hne : ¬ y = x := by omega
          have hne2 : ¬ x = y := by omega
          have ba : (x : Int) < (d0.size : Int) := by omega
          have bb : (y : Int) < (d0.size : Int) := by omega
          clear HHj ca cb' fa fb
          obtain ⟨wq, hwq⟩ : ∃ W, (putRow encF w g 0 dk).drewN k2 = W := ⟨_, rfl⟩
          have HW := Lib.hid hwq
          rw [hwq] at ca1 cb1 fa1 fb1 ⊢
          have HY := Lib.hid hy
          have HXX := Lib.hid hxx
          have HXY := Lib.hid hxy
          clear hwq hy hxx hxy
          unfold encF at ca1 cb1
          go_wp2_with fail
          go_region
          all_goals go_wp2
          go_roundg (y - i)
          case measure =>
            have hy := HY.out
            omega
          case rel =>
            have hy := HY.out
            have hsw := swap_worldC encF w g 0 dk k2 x y (by omega) (by omega)
            rw [HXX.out, HXY.out, Nat.zero_add, Nat.zero_add, HW.out] at hsw
            have hHU := HU.out
            rw [hy] at hHU
            refine ⟨y, k2 + 1, swp dk (y + 1) y, rfl, by omega, by omega, by omega, ?_, shiftDown_swp hHU (by omega) (by omega), shiftDown_perm HP.out (by omega) (by omega) (by omega)⟩
            rw [← hy]
            exact hsw
        · have hltz2 : ¬ (i : Int) < (x : Int) := by omega
          obtain rfl : x = i := by omega
          go_wp2_with fail
          refine bodyPost_ret (results_none rfl _ _ _) rfl ?_
          have h1 := H1.out
          subst h1
          exact ⟨rfl, dk, HP.out, one_right hS HR.out hi hj (fun q q1 q2 => LO q q1 q2) (fun q q1 q2 => HI q q1 q2) HU.out, k2, rfl⟩

end Go.Proofs.Ytbhdolghokhfnaa
