/-
  Walks: the law FlexlineAll.
-/
import Derived.Test.YtpelapdadgmlkaaWider15
namespace Go.Proofs.Ytpelapdadgmlkaa
open Go.RowKit

def atOf (L : List (Nat × Nat)) (k : Nat) : Nat := if k = 0 then 0 else (L.getD (k - 1) (0, 0)).2
theorem atOf_succ {L : List (Nat × Nat)} {k : Nat} (hk : k < L.length) : atOf L (k + 1) = (L[k]).2 := by
  unfold atOf
  rw [if_neg (by omega), show k + 1 - 1 = k by omega]
  simp [List.getD, hk]
def AlA (L : List (Nat × Nat)) (w0 : World) (at_ i : Value) (wr : World) : Prop :=
  ∃ k : Nat, k ≤ L.length ∧ i = .int .i64 k ∧ at_ = .int .i64 (atOf L k : Nat) ∧ Below w0.heap.size w0 wr

set_option maxRecDepth 100000 in
set_option maxHeartbeats 4000000 in
theorem all15_main (zs : List Int) (gap room : Int) (v : Value) (w : World) (h : Ints w w.heap.size v zs) (hd : smallOk zs gap room) :
    LawReturns 15 #[v, .int .i64 gap, .int .i64 room] w := by
  unfold LawReturns
  have gy := fun v B w h => great_yes zs gap room v B w h hd
  obtain ⟨L, hsp, hL300, hls, hend, hone⟩ := all_lines hd
  have sp := fun v B w h hB => lines15 zs gap room true _ hsp hd.1.1 v B w h hB
  have HLS := Lib.hid hls
  have HEND := Lib.hid (show atOf L L.length = zs.length from hend.symm)
  have HF := Lib.hid (small_fit hd).1
  have hg0 := hd.1.2.1
  have hg1 := hd.1.2.2.1
  have hl300 := hd.1.1
  clear hd hsp hls hend
  obtain ⟨A, c, rfl, hc, hr⟩ := h
  have hI : Ints w w.heap.size (.slice A zs.length c) zs := ⟨A, c, rfl, hc, hr⟩
  go_enter Try.func15, Try.ntmps15
  go_wp2_with fail
  refine (awake15 _).mono ?_
  rintro e w1 ⟨rfl, hb1⟩
  have hs1 := hb1.size
  have hI1 := hI.below hb1
  have hr1 := hr.below hb1
  go_wp2_with fail
  refine (gy _ _ w1 hI1).mono ?_
  rintro e w2 ⟨rfl, rfl⟩
  go_wp2_with fail
  refine (sp _ _ w1 hI1 hs1).mono ?_
  rintro e w2 ⟨v1, rfl, L1, hb2⟩
  have hr2 := hr1.below (hb2.mono hs1)
  have hs2 := hb2.size
  have hbw : Below w.heap.size w w2 := hb1.trans (hb2.mono hs1)
  obtain ⟨A1, c1, rfl⟩ := L1.form
  clear hI hI1 gy sp hr hr1 hb1 hb2
  go_wp2_with fail
  go_loopw [9, 10] (AlA L w2) (fun _ i _ => L.length - (intOf i).toNat)
  case atStart => exact ⟨0, by omega, rfl, rfl, Below.refl _ _⟩
  case round =>
    obtain ⟨k, hk, rfl, rfl, hbr⟩ := hrel
    have hbs := hbr.size
    by_cases hlt : k < L.length
    · obtain ⟨g, rfl, hcs⟩ := (L1.below hbr).open_ (by omega)
      obtain ⟨k0, k1⟩ := hcs k hlt
      obtain ⟨e1, e2, e3, e4⟩ := HLS.out k hlt
      have HAT := Lib.hid (atOf_succ hlt)
      have hr3 := hr2.below (hbr.mono (show w.heap.size ≤ w2.heap.size by omega))
      have e1' : atOf L k = (L[k]).1 := e1.symm
      rw [e1']
      clear hcs e1 e1'
      generalize (L[k]).1 = p at *
      generalize (L[k]).2 = q at *
      have hpq : ¬ (q : Int) ≤ (p : Int) := by omega
      have hqn : ¬ (zs.length : Int) < (q : Int) := by omega
      have hpq' : decide (q ≤ p) = false := decide_eq_false (by omega)
      have hqn' : decide (zs.length < q) = false := decide_eq_false (by omega)
      by_cases hr0 : room < 0
      · clear e4 hr2 hr3
        go_wp2_with fail
        go_roundw
        case rel => exact ⟨k + 1, hlt, by go_num, by rw [HAT.out], hbr.alloc hbs _⟩
        case measure => simp [intOf] <;> omega
      · obtain ⟨e5, e6⟩ := e4 (by omega)
        clear e4
        obtain ⟨ad, rfl, _⟩ := hr2.val (show 0 < zs.length by omega)
        have hsub := fun a b (h1 : a < b) (h2 : b ≤ zs.length) => (Reads.sub hr3 h1 h2)
        have lg : ∀ a b, a < b → b ≤ zs.length → ∀ W, Below wr.heap.size wr W → Calls Try.prog 76 #[.slice (some (ad.add a)) (b - a) (c - a), .int .i64 gap] W fun e w' => e = .returned (.int .i64 (longOf zs gap a b)) ∧ W = w' := fun a b h1 h2 W hW => by
          obtain ⟨_, e', hs⟩ := hsub a b h1 h2
          cases e'
          have hl := sub_len zs (a := a) h2
          have hlc : ((zs.take b).drop a).length ≤ c - a := by omega
          have := long15_any ((zs.take b).drop a) gap _ w.heap.size W ⟨_, c - a, rfl, hlc, hs.below (hW.mono (by omega))⟩ (by omega) (sub_fit HF.out a b) hg0 (by omega)
          rw [show longAll ((zs.take b).drop a) gap = longOf zs gap a b from sub_long zs gap h1 h2, hl] at this
          exact this
        clear hsub hr2 hr3
        have hbA : Below wr.heap.size wr (wr.alloc (.cells #[.int .i64 (p : Int), .int .i64 (q : Int)] 42)) := (Below.refl _ _).alloc (Nat.le_refl _) _
        have hbB : Below w2.heap.size w2 (wr.alloc (.cells #[.int .i64 (p : Int), .int .i64 (q : Int)] 42)) := hbr.alloc hbs _
        have hc1 : (wr.alloc (.cells #[.int .i64 (p : Int), .int .i64 (q : Int)] 42)).cell? ⟨wr.heap.size, 0, none⟩ = some (.int .i64 (p : Int)) := by simp [go_sem]
        have hc2 : (wr.alloc (.cells #[.int .i64 (p : Int), .int .i64 (q : Int)] 42)).cell? ⟨wr.heap.size, 1, none⟩ = some (.int .i64 (q : Int)) := by simp [go_sem]
        by_cases hp1 : p + 1 < q
        · have lg1 := lg p q (by omega) (by omega) _ hbA
          have f1 := e5 hp1
          have fp : (1 : Int) < (q : Int) - (p : Int) := by omega
          by_cases hq1 : q < zs.length
          · have lg2 := lg p (q + 1) (by omega) (by omega) _ hbA
            have f2 := e6 hq1
            have fq : (q : Int) < (zs.length : Int) := by omega
            generalize longOf zs gap p q = lo1 at *
            generalize longOf zs gap p (q + 1) = lo2 at *
            have f1' : ¬ room < lo1 := by omega
            have f2' : ¬ lo2 ≤ room := by omega
            clear e5 e6 lg
            go_wp2_with fail
            refine lg1.mono ?_
            rintro e w5 ⟨rfl, rfl⟩
            go_wp2_with fail
            refine lg2.mono ?_
            rintro e w5 ⟨rfl, rfl⟩
            go_wp2_with fail
            go_roundw
            case rel => exact ⟨k + 1, hlt, by go_num, by rw [HAT.out], hbB⟩
            case measure => simp [intOf] <;> omega
          · have fq : ¬ (q : Int) < (zs.length : Int) := by omega
            generalize longOf zs gap p q = lo1 at *
            have f1' : ¬ room < lo1 := by omega
            clear e5 e6 lg
            go_wp2_with fail
            refine lg1.mono ?_
            rintro e w5 ⟨rfl, rfl⟩
            go_wp2_with fail
            go_roundw
            case rel => exact ⟨k + 1, hlt, by go_num, by rw [HAT.out], hbB⟩
            case measure => simp [intOf] <;> omega
        · have fp : ¬ (1 : Int) < (q : Int) - (p : Int) := by omega
          by_cases hq1 : q < zs.length
          · have lg2 := lg p (q + 1) (by omega) (by omega) _ hbA
            have f2 := e6 hq1
            have fq : (q : Int) < (zs.length : Int) := by omega
            generalize longOf zs gap p (q + 1) = lo2 at *
            have f2' : ¬ lo2 ≤ room := by omega
            clear e5 e6 lg
            go_wp2_with fail
            refine lg2.mono ?_
            rintro e w5 ⟨rfl, rfl⟩
            go_wp2_with fail
            go_roundw
            case rel => exact ⟨k + 1, hlt, by go_num, by rw [HAT.out], hbB⟩
            case measure => simp [intOf] <;> omega
          · have fq : ¬ (q : Int) < (zs.length : Int) := by omega
            clear e5 e6 lg
            go_wp2_with fail
            go_roundw
            case rel => exact ⟨k + 1, hlt, by go_num, by rw [HAT.out], hbB⟩
            case measure => simp [intOf] <;> omega
    · obtain rfl : k = L.length := by omega
      rw [HEND.out]
      by_cases hr0 : room < 0
      · have h1 := hone hr0
        have h1' : decide (L.length ≤ 1) = true := decide_eq_true h1
        go_wp2_with fail
        go_ret
        exact ⟨by simp; omega, hbw.trans (hbr.mono (by omega))⟩
      · have h0' : decide (0 ≤ room) = true := decide_eq_true (by omega)
        go_wp2_with fail
        go_ret
        exact ⟨by simp, hbw.trans (hbr.mono (by omega))⟩

set_option maxRecDepth 100000 in
set_option maxHeartbeats 1000000 in
theorem flexlineAll_walk (zs : List Int) (gap room : Int) (v : Value) (w : World) (h : Ints w w.heap.size v zs) (hl : zs.length ≤ 17592186044416) :
    LawReturns 15 #[v, .int .i64 gap, .int .i64 room] w := by
  by_cases hd : smallOk zs gap room
  · exact all15_main zs gap room v w h hd
  · unfold LawReturns
    have gn := fun v B w h => great_no zs gap room v B w h hl hd
    obtain ⟨A, c, rfl, hc, hrd⟩ := h
    have hI : Ints w w.heap.size (.slice A zs.length c) zs := ⟨A, c, rfl, hc, hrd⟩
    clear hd
    go_enter Try.func15, Try.ntmps15
    go_wp2_with fail
    refine (awake15 _).mono ?_
    rintro e w1 ⟨rfl, hb1⟩
    have hI1 := hI.below hb1
    go_wp2_with fail
    refine (gn _ _ w1 hI1).mono ?_
    rintro e w2 ⟨rfl, rfl⟩
    go_wp2_with fail
    go_ret
    exact ⟨rfl, hb1⟩

end Go.Proofs.Ytpelapdadgmlkaa
