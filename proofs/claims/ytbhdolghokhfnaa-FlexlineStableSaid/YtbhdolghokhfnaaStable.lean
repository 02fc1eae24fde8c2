/-
  Walks: slices.stableCmpFunc, whole: what it leaves is a permutation, and sorted.
-/
import Derived.Test.YtbhdolghokhfnaaSymMerge
namespace Go.Proofs.Ytbhdolghokhfnaa
open Go.Shelf Go.RowKit Go.Lib Go.Sort

section Plain
variable {N : Nat} {lt cl : Fin (N + 1) → Fin (N + 1) → Bool}
/-- The first a places: in blocks of B, each sorted; the others as they stood. -/
structure BlkS (lt : Fin (N + 1) → Fin (N + 1) → Bool) (B a n : Nat) (d0 dk : Array (Fin (N + 1))) : Prop where
  perm : PermIn 0 n d0 dk
  pb : PB (fun x : Fin (N + 1) => x.1) B 0 a dk
  sb : SB lt B 0 a dk
  rest : ∀ i, a ≤ i → dk[i]! = d0[i]!
theorem BlkS.start {lt : Fin (N + 1) → Fin (N + 1) → Bool} {B n : Nat} {d0 : Array (Fin (N + 1))} : BlkS lt B 0 n d0 d0 :=
  ⟨permIn_refl _ _ _, fun i h1 h2 => absurd h2 (by omega), fun i j h1 h2 h3 => absurd h3 (by omega), fun _ _ => rfl⟩
theorem BlkS.step {B k b n : Nat} {d0 dk d' : Array (Fin (N + 1))} (h : BlkS lt B (B * k) n d0 dk) (hB : 0 < B) (hk : B * k ≤ b) (hb : b ≤ B * k + B) (hbn : b ≤ n) (hn : n ≤ d0.size) (hP : PermIn (B * k) b dk d') (hS : SortedIn lt (B * k) b d')
    (hv : ∀ i, B * k ≤ i → i < b → (d0[i]!).1 / B = k) : BlkS lt B b n d0 d' := by
  have hz : dk.size = d0.size := h.perm.1
  obtain ⟨h1, h2⟩ := block_step (v := fun x : Fin (N + 1) => x.1) hB h.pb h.sb hb (by omega) hP hS (fun i i1 i2 => by rw [h.rest i i1]; exact hv i i1 i2)
  exact ⟨permIn_trans _ _ _ _ _ h.perm (permIn_mono _ _ _ _ _ _ (Nat.zero_le _) hbn (by omega) hP), h1, h2, fun i hi => by rw [hP.2.1 i (Or.inr hi), h.rest i (by omega)]⟩
theorem place_div {n B k b : Nat} {d0 : Array (Fin (N + 1))} (hid : ∀ i, i < n → (d0[i]!).1 = i) (hB : 0 < B) (hb : b ≤ B * k + B) (hbn : b ≤ n) : ∀ i, B * k ≤ i → i < b → (d0[i]!).1 / B = k := fun i i1 i2 => by
  rw [hid i (by omega)]
  exact div_blk hB i1 (by omega)
theorem place_twice {n B k b : Nat} {d0 : Array (Fin (N + 1))} (hpb : PB (fun x : Fin (N + 1) => x.1) B 0 n d0) (hB : 0 < B) (hb : b ≤ 2 * B * k + 2 * B) (hbn : b ≤ n) : ∀ i, 2 * B * k ≤ i → i < b → (d0[i]!).1 / (2 * B) = k := fun i i1 i2 => by
  have h := hpb i (Nat.zero_le _) (by omega)
  rw [Nat.mul_comm 2 B, ← Nat.div_div_eq_div_mul, h, Nat.div_div_eq_div_mul, Nat.mul_comm B 2]
  exact div_blk (by omega) i1 (by omega)
/-- Two blocks side by side: each sorted, and of any two of them the code's comparison answers as the order does. -/
theorem two_blocks {n B k m b : Nat} {d0 : Array (Fin (N + 1))} (hpb : PB (fun x : Fin (N + 1) => x.1) B 0 n d0) (hsb : SB lt B 0 n d0) (hag : ∀ x y : Fin (N + 1), y.1 < x.1 → cl x y = lt x y) (hB : 0 < B) (hm : m = 2 * B * k + B) (hmb : m ≤ b) (hb : b ≤ m + B) (hbn : b ≤ n)
    {dk : Array (Fin (N + 1))} (hr : ∀ i, 2 * B * k ≤ i → dk[i]! = d0[i]!) : SortedIn lt (2 * B * k) m dk ∧ SortedIn lt m b dk ∧ AgreeAt cl lt dk (2 * B * k) m b := by
  have e1 : 2 * B * k = B * (2 * k) := by rw [Nat.mul_comm 2 B, Nat.mul_assoc]
  have d1 : ∀ i, 2 * B * k ≤ i → i < m → i / B = 2 * k := fun i i1 i2 => div_blk hB (by omega) (by omega)
  have d2 : ∀ i, m ≤ i → i < b → i / B = 2 * k + 1 := fun i i1 i2 => div_blk hB (by rw [Nat.mul_succ]; omega) (by rw [Nat.mul_succ]; omega)
  refine ⟨fun i j k1 k2 k3 => ?_, fun i j k1 k2 k3 => ?_, fun i j k1 k2 k3 k4 => ?_⟩
  · rw [hr i k1, hr j (by omega)]
    exact hsb i j (Nat.zero_le _) k2 (by omega) (by rw [d1 i k1 (by omega), d1 j (by omega) k3])
  · rw [hr i (by omega), hr j (by omega)]
    exact hsb i j (Nat.zero_le _) k2 (by omega) (by rw [d2 i k1 (by omega), d2 j (by omega) k3])
  · rw [hr i k1, hr j (by omega)]
    refine hag _ _ ?_
    have p1 : (d0[i]!).1 / B = i / B := hpb i (Nat.zero_le _) (by omega)
    have p2 : (d0[j]!).1 / B = j / B := hpb j (Nat.zero_le _) (by omega)
    rw [d1 i k1 k2] at p1
    rw [d2 j k3 k4] at p2
    refine Nat.lt_of_not_le fun hle => ?_
    have := Nat.div_le_div_right (c := B) hle
    omega
theorem one_block {n B k : Nat} {d0 : Array (Fin (N + 1))} (hsb : SB lt B 0 n d0) (hB : 0 < B) (hn : n ≤ B * k + B) {dk : Array (Fin (N + 1))} (hr : ∀ i, B * k ≤ i → dk[i]! = d0[i]!) : SortedIn lt (B * k) n dk := fun i j k1 k2 k3 => by
  rw [hr i k1, hr j (by omega)]
  exact hsb i j (Nat.zero_le _) k2 k3 (by rw [div_blk hB k1 (by omega), div_blk hB (by omega : B * k ≤ j) (by omega)])
end Plain

section Walk
variable {N : Nat} (g cap gf : Nat) (cb : Array Value) (cf : Fin (N + 1) → Fin (N + 1) → Int) (lt : Fin (N + 1) → Fin (N + 1) → Bool)

theorem cmp_at {w : World} {n : Nat} (hcmp : CmpReads Try.prog gf cb encF cf g 0 n w) (d : Array (Fin (N + 1))) (hd : d.size = n) (t : Nat) : CmpReads Try.prog gf cb encF cf g 0 n ((putRow encF w g 0 d).drewN t) := fun m os dk hk x y => by
  have h := hcmp (t + m) os dk hk x y
  have e : sortWorld encF ((putRow encF w g 0 d).drewN t) g 0 m dk os = sortWorld encF w g 0 (t + m) dk os := by
    unfold sortWorld
    rw [← putRow_ahead_putRow encF w t m g 0 d dk (by omega)]
    rfl
  rw [e]
  exact h

theorem ins_at (hS : SWO lt) {w : World} {d0 : Array (Fin (N + 1))} (hH : Holds encF w g 0 d0) (hsz : d0.size < 4611686018427387904)
    (eg : ∀ args w, (callFunc gf args).run Try.prog w = .ok (.enter gf args) w) (hcmp : CmpReads Try.prog gf cb encF cf g 0 d0.size w)
    (a b t : Nat) (dk : Array (Fin (N + 1))) (hs : dk.size = d0.size) (hab : a ≤ b) (hb : b ≤ d0.size) (hag : ∀ p q, a ≤ q → q < p → p < b → ltOf cf dk[p]! dk[q]! = lt dk[p]! dk[q]!) :
    Calls Try.prog 72 #[.slice (some ⟨g, 0, none⟩) d0.size cap, .int .i64 a, .int .i64 b, .func (.func gf) #[] cb] ((putRow encF w g 0 dk).drewN t) (SymPost g lt w a b dk) := by
  have h := Any.insertionSortCmpFunc_one Try.laysIns encF (fun _ => rfl) cf gf cb g 0 cap a b dk ((putRow encF w g 0 dk).drewN t) eg (cmp_at g gf cb cf (by rw [hs]; exact hcmp) dk (by omega) t) (holds_putRow encF w g 0 d0 dk hH hs) hab (by omega) (by omega)
  rw [hs, ins_agree (lt := lt) hab (by omega) hag] at h
  obtain ⟨p1, p2⟩ := insertionSort_holds (lt := lt) hS dk a b hab (by omega)
  refine Calls.mono (h : Calls Try.prog 72 _ _ _) ?_
  rintro e w' ⟨rfl, n, rfl⟩
  refine ⟨rfl, _, t + n, p1, p2, ?_⟩
  exact congrArg (fun W : World => W.drewN 0) (putRow_ahead_putRow encF w t n g 0 dk _ p1.1)

set_option maxRecDepth 1000000 in
set_option maxHeartbeats 16000000 in
theorem stable_any (hS : SWO lt) (w : World) (d0 : Array (Fin (N + 1))) (hH : Holds encF w g 0 d0) (hsz : d0.size < 4611686018427387904 / 4)
    (eg : ∀ args w, (callFunc gf args).run Try.prog w = .ok (.enter gf args) w) (hcmp : CmpReads Try.prog gf cb encF cf g 0 d0.size w)
    (n : Nat) (hn : n = d0.size) (hid : ∀ i, i < n → (d0[i]!).1 = i) (hag : ∀ x y : Fin (N + 1), y.1 < x.1 → ltOf cf x y = lt x y) :
    Calls Try.prog 56 #[.slice (some ⟨g, 0, none⟩) d0.size cap, .int .i64 n, .func (.func gf) #[] cb] w (SymPost g lt w 0 n d0) := by
  have hI := ins_at g cap gf cb cf lt hS hH (by omega) eg hcmp
  have hM := fun F => sym_any g cap gf cb cf lt hS w d0 hH (by omega) eg hcmp F
  have hw0 : w = (putRow encF w g 0 d0).drewN 0 := (putRow_self encF w g 0 d0 hH).symm
  have HI : Aside _ := hI
  have HM : Aside _ := hM
  have HW0 := Lib.hid hw0
  have HN := Lib.hid hn
  have HID : Aside _ := hid
  have HAG : Aside _ := hag
  have n1 : n ≤ d0.size := by omega
  have n2 : d0.size ≤ n := by omega
  have n3 : n < 1152921504606846976 := by omega
  clear hI hM hw0 hH hcmp hn hid hag
  go_enter Try.func56, Try.ntmps56
  go_wp2_with fail
  go_loopg [7, 8] (n + 1) (fun g1 va vb wr => ∃ (a b k t : Nat) (dk : Array (Fin (N + 1))), va = .int .i64 a ∧ vb = .int .i64 b ∧ b ≤ a + 20 ∧ a + 20 ≤ b ∧ a ≤ n ∧ n + 1 - a ≤ g1 ∧ Hid (a = 20 * k) ∧ wr = (putRow encF w g 0 dk).drewN t ∧ Hid (BlkS lt 20 a n d0 dk))
  case atStart => exact ⟨0, 20, 0, 0, d0, rfl, rfl, by omega, by omega, by omega, by omega, rfl, HW0.out, BlkS.start⟩
  case round =>
    obtain ⟨a, b, k, t, dk, rfl, rfl, b1, b2, han, hg1, HK, rfl, HB⟩ := hrel
    have hzk : dk.size = d0.size := HB.out.perm.1
    have hord : ∀ p q, a ≤ q → q < p → p < n → ltOf cf dk[p]! dk[q]! = lt dk[p]! dk[q]! := fun p q h1 h2 h3 => by
      rw [HB.out.rest p (by omega), HB.out.rest q h1]
      exact HAG.out _ _ (by rw [HID.out p h3, HID.out q (by omega)]; exact h2)
    by_cases hlt : b ≤ n
    · have hltz : (b : Int) ≤ (n : Int) := by omega
      have hc := HI.out a b t dk hzk (by omega) (by omega) (fun p q h1 h2 h3 => hord p q h1 h2 (by omega))
      have s1 : IntKind.i64.wrap ((b : Int) + 20) = (b : Int) + 20 := by rw [IntKind.wrap_i64]; omega
      clear hzk hord
      go_wp2_with fail
      refine hc.mono ?_
      clear hc
      rintro e w' ⟨rfl, d', t2, hP, hS2, rfl⟩
      have HP := Lib.hid hP
      have HS2 := Lib.hid hS2
      clear hP hS2
      go_wp2_with fail
      go_roundg (n + 1 - b)
      case measure => omega
      case rel =>
        refine ⟨b, b + 20, k + 1, t2, d', rfl, by go_num, by omega, by omega, by omega, by omega, ?_, rfl, ?_⟩
        · have := HK.out
          show b = 20 * (k + 1)
          omega
        · have hk := HK.out
          have hB := HB.out
          have hP := HP.out
          have hS2 := HS2.out
          subst hk
          exact hB.step (by omega) (by omega) (by omega) hlt (by omega) hP hS2 (place_div HID.out (by omega) (by omega) hlt)
    · have hltz : ¬ (b : Int) ≤ (n : Int) := by omega
      have hc := HI.out a n t dk hzk (by omega) (by omega) hord
      clear hzk hord
      go_wp2_with fail
      refine hc.mono ?_
      clear hc
      rintro e w' ⟨rfl, d', t2, hP, hS2, rfl⟩
      have hBn : BlkS lt 20 n n d0 d' := by
        have hk := HK.out
        have hB := HB.out
        subst hk
        exact hB.step (by omega) (by omega) (by omega) (Nat.le_refl _) (by omega) hP hS2 (place_div HID.out (by omega) (by omega) (Nat.le_refl _))
      have HBN := Lib.hid hBn
      clear hP hS2 hBn HB HK
      go_wp2_with fail
      go_loopg [6] (n + 1) (fun g1 vB wr => ∃ (B t : Nat) (dk : Array (Fin (N + 1))), vB = .int .i64 B ∧ 0 < B ∧ n - B ≤ g1 ∧ wr = (putRow encF w g 0 dk).drewN t ∧ Hid (PermIn 0 n d0 dk ∧ PB (fun x : Fin (N + 1) => x.1) B 0 n dk ∧ SB lt B 0 n dk))
      case atStart => exact ⟨20, t2, d', rfl, by omega, by omega, rfl, HBN.out.perm, HBN.out.pb, HBN.out.sb⟩
      case round =>
        clear HBN
        clear d' t2
        obtain ⟨B, t, d, rfl, hB0, hg2, rfl, HD⟩ := hrel
        have hzd : d.size = d0.size := HD.out.1.1
        by_cases hBn : B < n
        · have hBnz : (B : Int) < (n : Int) := by omega
          have sB : IntKind.i64.wrap (2 * (B : Int)) = 2 * (B : Int) := by rw [IntKind.wrap_i64]; omega
          have HZD := Lib.hid hzd
          clear hzd
          go_wp2_with fail
          go_loopg [7, 8] (n + 1) (fun g1 va vb wr => ∃ (a b k t : Nat) (dk : Array (Fin (N + 1))), va = .int .i64 a ∧ vb = .int .i64 b ∧ b ≤ a + 2 * B ∧ a + 2 * B ≤ b ∧ a ≤ n ∧ n + 1 - a ≤ g1 ∧ Hid (a = 2 * B * k) ∧ wr = (putRow encF w g 0 dk).drewN t ∧ Hid (BlkS lt (2 * B) a n d dk))
          case atStart => exact ⟨0, 2 * B, 0, t, d, rfl, by go_num, by omega, by omega, by omega, by omega, rfl, rfl, BlkS.start⟩
          case round =>
            obtain ⟨a, b, k, t3, dk, rfl, rfl, b1, b2, han, hg3, HK, rfl, HB⟩ := hrel
            have hzk : dk.size = d0.size := HB.out.perm.1.trans HZD.out
            obtain ⟨m, m1, m2⟩ : ∃ m, m ≤ a + B ∧ a + B ≤ m := ⟨a + B, by omega, by omega⟩
            have wm : IntKind.i64.wrap ((a : Int) + (B : Int)) = (m : Int) := by rw [IntKind.wrap_i64]; omega
            by_cases hlt : b ≤ n
            · have hltz : (b : Int) ≤ (n : Int) := by omega
              obtain ⟨b', b3, b4⟩ : ∃ b', b' ≤ b + 2 * B ∧ b + 2 * B ≤ b' := ⟨b + 2 * B, by omega, by omega⟩
              have wb : IntKind.i64.wrap ((b : Int) + 2 * (B : Int)) = (b' : Int) := by rw [IntKind.wrap_i64]; omega
              have htb := two_blocks (cl := ltOf cf) (k := k) (m := m) (b := b) HD.out.2.1 HD.out.2.2 HAG.out hB0 (by have := HK.out; omega) (by omega) (by omega) hlt (dk := dk) (fun i hi => HB.out.rest i (by have := HK.out; omega))
              have hka := HK.out
              rw [← hka] at htb
              have hc := HM.out n a m b t3 dk (by omega) (by omega) (by omega) (by omega) hzk htb.1 htb.2.1 htb.2.2
              clear htb hzk hka
              go_wp2_with fail
              refine hc.mono ?_
              clear hc
              rintro e w' ⟨rfl, d', t4, hP, hS2, rfl⟩
              have HP := Lib.hid hP
              have HS2 := Lib.hid hS2
              clear hP hS2
              go_wp2_with fail
              go_roundg (n + 1 - b)
              case measure => omega
              case rel =>
                refine ⟨b, b', k + 1, t4, d', rfl, rfl, by omega, by omega, by omega, by omega, ?_, rfl, ?_⟩
                · have := HK.out
                  show b = 2 * B * (k + 1)
                  rw [Nat.mul_succ]
                  omega
                · have hk := HK.out
                  have hB := HB.out
                  have hP := HP.out
                  have hS2 := HS2.out
                  have hz := HZD.out
                  subst hk
                  exact hB.step (by omega) (by omega) (by omega) hlt (by omega) hP hS2 (place_twice HD.out.2.1 hB0 (by omega) hlt)
            · have hltz : ¬ (b : Int) ≤ (n : Int) := by omega
              have sB2 : IntKind.i64.wrap ((B : Int) * 2) = (B : Int) * 2 := by rw [IntKind.wrap_i64]; omega
              by_cases hmn : m < n
              · have hmnz : (m : Int) < (n : Int) := by omega
                have htb := two_blocks (cl := ltOf cf) (k := k) (m := m) (b := n) HD.out.2.1 HD.out.2.2 HAG.out hB0 (by have := HK.out; omega) (by omega) (by omega) (Nat.le_refl _) (dk := dk) (fun i hi => HB.out.rest i (by have := HK.out; omega))
                have hka := HK.out
                rw [← hka] at htb
                have hc := HM.out n a m n t3 dk (by omega) (by omega) hmn (by omega) hzk htb.1 htb.2.1 htb.2.2
                clear htb hzk hka
                go_wp2_with fail
                refine hc.mono ?_
                clear hc
                rintro e w' ⟨rfl, d', t4, hP, hS2, rfl⟩
                have HP := Lib.hid hP
                have HS2 := Lib.hid hS2
                clear hP hS2
                go_wp2_with fail
                go_roundg (n - 2 * B)
                case measure => omega
                case rel =>
                  refine ⟨2 * B, t4, d', by go_num, by omega, by omega, rfl, ?_⟩
                  have hk := HK.out
                  have hB := HB.out
                  have hP := HP.out
                  have hS2 := HS2.out
                  have hz := HZD.out
                  subst hk
                  have hN := hB.step (by omega) (by omega) (by omega) (Nat.le_refl _) (by omega) hP hS2 (place_twice HD.out.2.1 hB0 (by omega) (Nat.le_refl _))
                  exact ⟨permIn_trans _ _ _ _ _ HD.out.1 hN.perm, hN.pb, hN.sb⟩
              · have hmnz : ¬ (m : Int) < (n : Int) := by omega
                clear hzk
                go_wp2_with fail
                go_roundg (n - 2 * B)
                case measure => omega
                case rel =>
                  refine ⟨2 * B, t3, dk, by go_num, by omega, by omega, rfl, ?_⟩
                  have hk := HK.out
                  have hB := HB.out
                  have hz := HZD.out
                  subst hk
                  have e1 : 2 * B * k = B * (2 * k) := by rw [Nat.mul_comm 2 B, Nat.mul_assoc]
                  have hso : SortedIn lt (2 * B * k) n dk := by
                    rw [e1]
                    exact one_block HD.out.2.2 hB0 (by omega) (fun i hi => hB.rest i (by omega))
                  have hN := hB.step (by omega) (by omega) (by omega) (Nat.le_refl _) (by omega) (permIn_refl _ _ _) hso (place_twice HD.out.2.1 hB0 (by omega) (Nat.le_refl _))
                  exact ⟨permIn_trans _ _ _ _ _ HD.out.1 hN.perm, hN.pb, hN.sb⟩
        · have hBnz : ¬ (B : Int) < (n : Int) := by omega
          clear hzd
          go_wp2_with fail
          go_end0
          exact ⟨rfl, d, t, HD.out.1, fun i j h1 h2 h3 => HD.out.2.2 i j (Nat.zero_le _) h2 h3 (by rw [Nat.div_eq_of_lt (by omega), Nat.div_eq_of_lt (by omega)]), rfl⟩
end Walk

end Go.Proofs.Ytbhdolghokhfnaa
