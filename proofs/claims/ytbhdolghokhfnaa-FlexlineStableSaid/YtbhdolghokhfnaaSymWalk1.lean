/-
  Walks: slices.swapRangeCmpFunc and rotateCmpFunc over a row of places.
-/
import Derived.Test.YtbhdolghokhfnaaSymPlain2
import Derived.Test.YtbhdolghokhfnaaInts
import Derived.Test.YtbhdolghokhfnaaShelfI
import Derived.Deep.QuietTactic
import Derived.BigQuiet
import Derived.BigRegion
namespace Go.Proofs.Ytbhdolghokhfnaa
open Go.Shelf Go.RowKit Go.Lib Go.Sort

def encF {n : Nat} (x : Fin n) : Value := .int .i64 (x.1 : Int)

set_option maxRecDepth 1000000 in
set_option maxHeartbeats 4000000 in
theorem swapRange_any {N : Nat} (g cap a b n k0 : Nat) (d : Array (Fin (N + 1))) (fv : Value) (w : World) (d0 : Array (Fin (N + 1))) (hH : Holds encF w g 0 d0) (hs : d.size = d0.size) (h1 : a + n ≤ b) (h2 : b + n ≤ d0.size) (hsz : d0.size < 4611686018427387904) :
    Calls Try.prog 94 #[.slice (some ⟨g, 0, none⟩) d0.size cap, .int .i64 a, .int .i64 b, .int .i64 n, fv] ((putRow encF w g 0 d).drewN k0) fun e w' =>
      e = .returned (.tuple #[]) ∧ ∃ k, w' = (putRow encF w g 0 (swR d a b n)).drewN k := by
  have HH : Hid (Holds encF w g 0 d0) := hH
  clear hH
  go_enter Try.func94, Try.ntmps94
  go_wp2_with fail
  go_loopg [10] n (fun g1 vi wr => ∃ (i k : Nat) (dk : Array (Fin (N + 1))), vi = .int .i64 i ∧ i ≤ n ∧ n - i ≤ g1 ∧ dk.size = d0.size ∧ wr = (putRow encF w g 0 dk).drewN k ∧ Hid (dk = swR d a b i))
  case atStart => exact ⟨0, k0, d, rfl, by omega, by omega, hs, rfl, rfl⟩
  case round =>
    obtain ⟨i, k, dk, rfl, hin, hg1, hsk, rfl, HD⟩ := hrel
    by_cases hlt : i < n
    · have hltz : (i : Int) < (n : Int) := by omega
      have hHj := holds_putRow encF w g 0 d0 dk HH.out hsk
      obtain ⟨pa, hpa⟩ : ∃ p, p = a + i := ⟨_, rfl⟩
      obtain ⟨pb, hpb⟩ : ∃ p, p = b + i := ⟨_, rfl⟩
      obtain ⟨xa, hxa⟩ : ∃ x, dk[pa]! = x := ⟨_, rfl⟩
      obtain ⟨xb, hxb⟩ : ∃ x, dk[pb]! = x := ⟨_, rfl⟩
      obtain ⟨ca, fa⟩ := hHj pa (by omega)
      obtain ⟨cb, fb⟩ := hHj pb (by omega)
      rw [hxa] at ca
      rw [hxb] at cb
      have ca' : ((putRow encF w g 0 dk).drewN k).cell? ⟨g, 0 + pa, none⟩ = some (encF xa) := ca
      have cb' : ((putRow encF w g 0 dk).drewN k).cell? ⟨g, 0 + pb, none⟩ = some (encF xb) := cb
      have fa' : ((putRow encF w g 0 dk).drewN k).frozen? ⟨g, 0 + pa, none⟩ = false := fa
      have fb' : ((putRow encF w g 0 dk).drewN k).frozen? ⟨g, 0 + pb, none⟩ = false := fb
      rw [Nat.zero_add] at ca' cb' fa' fb'
      have wa : IntKind.i64.wrap ((a : Int) + (i : Int)) = (pa : Int) := by rw [IntKind.wrap_i64]; omega
      have wb : IntKind.i64.wrap ((b : Int) + (i : Int)) = (pb : Int) := by rw [IntKind.wrap_i64]; omega
      have hne : ¬ pb = pa := by omega
      have hne2 : ¬ pa = pb := by omega
      have ba : (pa : Int) < (d0.size : Int) := by omega
      have bb : (pb : Int) < (d0.size : Int) := by omega
      clear hHj ca cb fa fb
      obtain ⟨wq, hwq⟩ : ∃ W, (putRow encF w g 0 dk).drewN k = W := ⟨_, rfl⟩
      have HW := Lib.hid hwq
      rw [hwq] at ca' cb' fa' fb' ⊢
      have HP := Lib.hid hpa
      have HQ := Lib.hid hpb
      have HXA := Lib.hid hxa
      have HXB := Lib.hid hxb
      clear hwq hpa hpb hxa hxb
      unfold encF at ca' cb'
      go_wp2_with fail
      go_region
      all_goals go_wp2
      go_roundg (n - (i + 1))
      case measure => omega
      case rel =>
        refine ⟨i + 1, k + 1, swp dk pa pb, by go_num, by omega, by omega, by rw [swp_size]; exact hsk, ?_, ?_⟩
        · have hsw := swap_worldC encF w g 0 dk k pa pb (by omega) (by omega)
          rw [HXA.out, HXB.out, Nat.zero_add, Nat.zero_add, HW.out] at hsw
          exact hsw
        · have := HP.out
          have := HQ.out
          subst pa pb
          show swp dk _ _ = _
          rw [HD.out]
          rfl
    · have hltz : ¬ (i : Int) < (n : Int) := by omega
      go_wp2_with fail
      go_end0
      obtain rfl : i = n := by omega
      exact ⟨rfl, k, by rw [HD.out]⟩

set_option maxRecDepth 1000000 in
set_option maxHeartbeats 4000000 in
theorem rotate_any {N : Nat} (g cap s m e k0 : Nat) (d : Array (Fin (N + 1))) (fv : Value) (w : World) (d0 : Array (Fin (N + 1))) (hH : Holds encF w g 0 d0) (hs : d.size = d0.size) (h1 : s < m) (h2 : m < e) (h3 : e ≤ d0.size) (hsz : d0.size < 4611686018427387904) :
    Calls Try.prog 88 #[.slice (some ⟨g, 0, none⟩) d0.size cap, .int .i64 s, .int .i64 m, .int .i64 e, fv] ((putRow encF w g 0 d).drewN k0) fun x w' =>
      x = .returned (.tuple #[]) ∧ ∃ k, w' = (putRow encF w g 0 (rotL m (e - s) (m - s) (e - m) d)).drewN k := by
  have HS := fun (a b n k : Nat) (dk : Array (Fin (N + 1))) (h : dk.size = d0.size) (h1 : a + n ≤ b) (h2 : b + n ≤ d0.size) => swapRange_any g cap a b n k dk fv w d0 hH h h1 h2 hsz
  have HA : Aside _ := HS
  clear HS hH
  have wi : IntKind.i64.wrap ((m : Int) - (s : Int)) = ((m - s : Nat) : Int) := by rw [IntKind.wrap_i64]; omega
  have wj : IntKind.i64.wrap ((e : Int) - (m : Int)) = ((e - m : Nat) : Int) := by rw [IntKind.wrap_i64]; omega
  go_enter Try.func88, Try.ntmps88
  go_wp2_with fail
  go_loopg [10, 11] (e - s) (fun g1 vi vj wr => ∃ (f i j k : Nat) (dk : Array (Fin (N + 1))), vi = .int .i64 i ∧ vj = .int .i64 j ∧ 0 < i ∧ 0 < j ∧ i + j ≤ f ∧ f ≤ g1 ∧ s + i ≤ m ∧ m + j ≤ e ∧ dk.size = d0.size ∧ wr = (putRow encF w g 0 dk).drewN k ∧ Hid (rotL m f i j dk = rotL m (e - s) (m - s) (e - m) d))
  case atStart => exact ⟨e - s, m - s, e - m, k0, d, rfl, rfl, by omega, by omega, by omega, Nat.le_refl _, by omega, by omega, hs, rfl, rfl⟩
  case round =>
    clear wi wj
    obtain ⟨f, i, j, k, dk, rfl, rfl, hi, hj, hf, hg1, hsi, hmj, hsk, rfl, HR⟩ := hrel
    obtain ⟨f, rfl⟩ : ∃ f', f = f' + 1 := ⟨f - 1, by omega⟩
    obtain ⟨p, hp⟩ : ∃ p, p = m - i := ⟨_, rfl⟩
    have wp : IntKind.i64.wrap ((m : Int) - (i : Int)) = (p : Int) := by rw [IntKind.wrap_i64]; omega
    by_cases hne : i = j
    · subst hne
      have hc := HA.out p m i k dk hsk (by omega) (by omega)
      have Hhp := Lib.hid hp
      clear hp
      go_wp2_with fail
      refine hc.mono ?_
      rintro x w' ⟨rfl, q, rfl⟩
      go_wp2_with fail
      go_end0
      refine ⟨rfl, q, ?_⟩
      rw [← HR.out, rotL, if_pos rfl, Hhp.out]
    · have hz : ¬ ((i : Int) = (j : Int)) := by omega
      by_cases hlt : j < i
      · have hltz : (j : Int) < (i : Int) := by omega
        obtain ⟨q, hq⟩ : ∃ q, q = i - j := ⟨_, rfl⟩
        have wq : IntKind.i64.wrap ((i : Int) - (j : Int)) = (q : Int) := by rw [IntKind.wrap_i64]; omega
        have hc := HA.out p m j k dk hsk (by omega) (by omega)
        have Hhp := Lib.hid hp
        have Hhq := Lib.hid hq
        clear hp hq
        go_wp2_with fail
        refine hc.mono ?_
        rintro x w' ⟨rfl, k2, rfl⟩
        go_wp2_with fail
        go_roundg f
        case measure => omega
        case rel =>
          have hp := Hhp.out
          have hq := Hhq.out
          refine ⟨f, q, j, k2, _, rfl, rfl, by omega, hj, by omega, Nat.le_refl _, by omega, hmj, by rw [swR_size]; exact hsk, rfl, ?_⟩
          show _ = _
          rw [← HR.out, rotL, if_neg hne, if_pos hlt, Hhp.out, Hhq.out]
      · have hltz : ¬ (j : Int) < (i : Int) := by omega
        obtain ⟨q, hq⟩ : ∃ q, q = j - i := ⟨_, rfl⟩
        have wq : IntKind.i64.wrap ((j : Int) - (i : Int)) = (q : Int) := by rw [IntKind.wrap_i64]; omega
        obtain ⟨r, hr⟩ : ∃ r, r = m + j - i := ⟨_, rfl⟩
        have w1 : IntKind.i64.wrap ((m : Int) + (j : Int)) = (m : Int) + (j : Int) := by rw [IntKind.wrap_i64]; omega
        have w2 : IntKind.i64.wrap ((m : Int) + (j : Int) - (i : Int)) = (r : Int) := by rw [IntKind.wrap_i64]; omega
        have hc := HA.out p r i k dk hsk (by omega) (by omega)
        have Hhp := Lib.hid hp
        have Hhq := Lib.hid hq
        have Hhr := Lib.hid hr
        clear hp hq hr
        go_wp2_with fail
        refine hc.mono ?_
        rintro x w' ⟨rfl, k2, rfl⟩
        go_wp2_with fail
        go_roundg f
        case measure => omega
        case rel =>
          have hp := Hhp.out
          have hq := Hhq.out
          refine ⟨f, i, q, k2, _, rfl, rfl, hi, by omega, by omega, Nat.le_refl _, hsi, by omega, by rw [swR_size]; exact hsk, rfl, ?_⟩
          show _ = _
          rw [← HR.out, rotL, if_neg hne, if_neg hlt, Hhp.out, Hhq.out, Hhr.out]

end Go.Proofs.Ytbhdolghokhfnaa
