/-
  Walks: windowpaneref32.hexed, hex, number, bytes, Quoted: what they answer.
-/
import Derived.Test.YtaoehdmdjplegaaGreatDoorDigits
namespace Go.Proofs.YtaoehdmdjplegaaGreatDoor
open Go.RowKit Go.Shelf

theorem hexd_at {k : Nat} (h : k < 16) : (⟨#[48, 49, 50, 51, 52, 53, 54, 55, 56, 57, 97, 98, 99, 100, 101, 102]⟩ : ByteArray).extract k (k + 1) = mkB [hx k] := by
  have key : ∀ k : Fin 16, (⟨#[48, 49, 50, 51, 52, 53, 54, 55, 56, 57, 97, 98, 99, 100, 101, 102]⟩ : ByteArray).extract k.val (k.val + 1) = mkB [hx k.val] := by decide
  exact key ⟨k, h⟩
set_option maxRecDepth 100000 in
theorem hexed_any (c : UInt8) (w : World) : Calls Tryz.prog 65 #[.int .u8 (c.toNat : Nat)] w fun e w' => e = .returned (.string (mkB (hexB c))) ∧ ∃ n, w' = w.drewN n := by
  have hc := c.toNat_lt
  unfold hexB
  have e1 := Lib.hid (hexd_at (show c.toNat / 16 < 16 by omega))
  have e2 := Lib.hid (hexd_at (show c.toNat % 16 < 16 by omega))
  have hq : (c.toNat : Int) / 16 = ((c.toNat / 16 : Nat) : Int) := by omega
  have hr : (c.toNat : Int) % 16 = ((c.toNat % 16 : Nat) : Int) := by omega
  have b1 : c.toNat / 16 < 16 := by omega
  have b2 : c.toNat % 16 < 16 := by omega
  generalize c.toNat / 16 = q at *
  generalize c.toNat % 16 = r at *
  have z := Lib.hid (show (⟨#[48, 49, 50, 51, 52, 53, 54, 55, 56, 57, 97, 98, 99, 100, 101, 102]⟩ : ByteArray).size = 16 from rfl)
  go_enter Tryz.func65, Tryz.ntmps65
  go_wp2
  go_region
  go_wp2
  go_ret
  exact ⟨by rw [show mkB [hx q, hx r] = mkB [hx q] ++ mkB [hx r] from (mkB_append [hx q] [hx r]).symm, ← e1.out, ← e2.out]; rfl, 1, rfl⟩
set_option maxRecDepth 100000 in
theorem rhex_any (c : UInt8) (w : World) : Calls Tryz.prog 62 #[.int .u8 (c.toNat : Nat)] w fun e w' => e = .returned (.int .u8 (hv c : Nat)) ∧ w' = w := by
  have hc := c.toNat_lt
  unfold hv
  by_cases h1 : 48 ≤ c.toNat
  · by_cases h2 : c.toNat ≤ 57
    · rw [if_pos ⟨h1, h2⟩]
      go_enter Tryz.func62, Tryz.ntmps62
      go_wp2
      go_ret
      exact ⟨by simp; omega, rfl⟩
    · rw [if_neg (by omega)]
      by_cases h3 : 97 ≤ c.toNat ∧ c.toNat ≤ 102
      · obtain ⟨h3, h4⟩ := h3
        rw [if_pos ⟨h3, h4⟩]
        go_enter Tryz.func62, Tryz.ntmps62
        go_wp2
        go_ret
        exact ⟨by simp; omega, rfl⟩
      · rw [if_neg h3]
        have h5 : c.toNat < 97 ∨ 102 < c.toNat := by omega
        rcases h5 with h5 | h5
        · go_enter Tryz.func62, Tryz.ntmps62
          go_wp2
          go_ret
          exact ⟨by simp, rfl⟩
        · go_enter Tryz.func62, Tryz.ntmps62
          go_wp2
          go_ret
          exact ⟨by simp, rfl⟩
  · rw [if_neg (by omega), if_neg (by omega)]
    go_enter Tryz.func62, Tryz.ntmps62
    go_wp2
    go_ret
    exact ⟨by simp, rfl⟩

/-- Only draws lie between. -/
def QuietP (w w' : World) : Prop := ∃ n, w' = w.drewN n
theorem QuietP.refl (w : World) : QuietP w w := ⟨0, rfl⟩
theorem QuietP.below {w w' : World} (h : QuietP w w') (B : Nat) : Below B w w' := by
  obtain ⟨m, rfl⟩ := h
  exact below_drewN (Below.refl _ _) m
theorem QuietP.trans {a b c : World} (h : QuietP a b) (k : QuietP b c) : QuietP a c := by
  obtain ⟨m, rfl⟩ := h
  obtain ⟨n, rfl⟩ := k
  exact ⟨m + n, by rw [World.drewN_drewN]⟩
theorem QuietP.drew {w w' : World} (h : QuietP w w') : QuietP w w'.drew := h.trans ⟨1, rfl⟩
theorem QuietP.drewN {w w' : World} (h : QuietP w w') (n : Nat) : QuietP w (w'.drewN n) := h.trans ⟨n, rfl⟩

def numV (name : List UInt8) (n : Int) : List UInt8 := if n = 0 then [] else 32 :: (name ++ 61 :: Lib.itoa n)
set_option maxRecDepth 100000 in
theorem rnumber_any (name : List UInt8) (hl : name.length ≤ 100) {n : Int} (hn : I64 n) (w : World) : Calls Tryz.prog 80 #[.string (mkB name), .int .i64 n] w fun e w' => e = .returned (.string (mkB (numV name n))) ∧ w' = w := by
  have hd := Lib.hid (digits_any hn)
  unfold numV
  by_cases h0 : n = 0
  · subst h0
    go_enter Tryz.func80, Tryz.ntmps80
    go_wp2
    go_ret
    exact ⟨rfl, rfl⟩
  · rw [if_neg h0]
    have z1 : (mkB name).size ≤ 100 := by rw [mkB_size]; exact hl
    have z2 := itoa_size hn
    go_enter Tryz.func80, Tryz.ntmps80
    go_wp2_with fail
    refine (hd.out _).mono ?_
    rintro e w' ⟨rfl, rfl⟩
    go_wp2_with fail
    go_ret
    exact ⟨by rw [show (32 :: (name ++ 61 :: Lib.itoa n)) = [32] ++ name ++ [61] ++ Lib.itoa n by simp, ← mkB_append, ← mkB_append, ← mkB_append]; rfl, rfl⟩

theorem escs_append : ∀ a b : List UInt8, escs (a ++ b) = escs a ++ escs b
  | [], _ => rfl
  | c :: a, b => by simp [escs, escs_append a b]
theorem hexs_append : ∀ a b : List UInt8, hexs (a ++ b) = hexs a ++ hexs b
  | [], _ => rfl
  | c :: a, b => by simp [hexs, hexs_append a b]
theorem escB_len (c : UInt8) : (escB c).length ≤ 4 := by
  rcases esc_cases c with ⟨d, h, _⟩ | ⟨h, _⟩ | h <;> rw [h] <;> simp [hexB]
theorem escs_len : ∀ l : List UInt8, (escs l).length ≤ 4 * l.length
  | [] => by simp [escs]
  | c :: l => by
    have := escB_len c
    have := escs_len l
    simp [escs]
    omega
def RqA (s : ByteArray) (w0 : World) (out i : Value) (w : World) : Prop := ∃ k : Nat, k ≤ s.size ∧ i = .int .i64 k ∧ out = .string (mkB (34 :: escs (s.data.toList.take k))) ∧ QuietP w0 w

set_option maxRecDepth 100000 in
set_option maxHeartbeats 4000000 in
theorem rquoted_any (s : ByteArray) (hs : s.size ≤ 5000) (w : World) :
    Calls Tryz.prog 63 #[.string s] w fun e w' => e = .returned (.string (mkB (quoted s.data.toList))) ∧ QuietP w w' := by
  go_enter Tryz.func63, Tryz.ntmps63
  go_wp2_with fail
  go_loopw [3, 4] (RqA s w) (fun _ i _ => s.size - (intOf i).toNat)
  case atStart => exact ⟨0, by omega, rfl, rfl, QuietP.refl _⟩
  case round =>
    obtain ⟨k, hk, rfl, rfl, hq⟩ := hrel
    by_cases hlt : k < s.size
    · have HT := Lib.hid (show escs (s.data.toList.take (k + 1)) = escs (s.data.toList.take k) ++ escB s[k] by rw [take_one hlt, escs_append]; simp [escs])
      have hb := escs_len (s.data.toList.take k)
      have hb2 := take_len s k
      have HX := Lib.hid (extract_one hlt)
      generalize escs (s.data.toList.take k) = S at *
      have z1 : (mkB (34 :: S)).size ≤ 20001 := by rw [mkB_size, List.length_cons]; omega
      have z2 : (mkB (34 :: S) ++ (⟨#[92]⟩ : ByteArray)).size ≤ 20002 := by rw [ByteArray.size_append]; exact Nat.add_le_add z1 (Nat.le_refl 1)
      have z3 : (mkB (34 :: S) ++ (⟨#[92, 120]⟩ : ByteArray)).size ≤ 20003 := by rw [ByteArray.size_append]; exact Nat.add_le_add z1 (Nat.le_refl 2)
      have z4 : (s.extract k (k + 1)).size = 1 := by rw [HX.out, mkB_size]; rfl
      have z5 : (mkB (hexB s[k])).size = 2 := by rw [mkB_size]; rfl
      have hd := Lib.hid (hexed_any s[k])
      by_cases h34 : s[k].toNat = 34
      · have e1 : (((s[k].toNat : Nat) : Int) == (34 : Int)) = true := eq8 h34
        have HE := Lib.hid (show escB s[k] = [92] ++ [s[k]] by unfold escB; rw [if_pos (Or.inl (UInt8.toNat_inj.1 h34))]; rfl)
        go_wp2_with fail
        go_round
        case rel => exact ⟨k + 1, by omega, by go_num, by rw [HT.out, HE.out, show (34 :: (S ++ ([92] ++ [s[k]]))) = (34 :: S) ++ [92] ++ [s[k]] by simp, ← mkB_append, ← mkB_append, HX.out]; rfl, hq⟩
        case measure => simp [intOf]; omega
      · have n34 : (((s[k].toNat : Nat) : Int) == (34 : Int)) = false := neq8 h34
        by_cases h92 : s[k].toNat = 92
        · have e1 : (((s[k].toNat : Nat) : Int) == (92 : Int)) = true := eq8 h92
          have HE := Lib.hid (show escB s[k] = [92] ++ [s[k]] by unfold escB; rw [if_pos (Or.inr (UInt8.toNat_inj.1 h92))]; rfl)
          go_wp2_with fail
          go_round
          case rel => exact ⟨k + 1, by omega, by go_num, by rw [HT.out, HE.out, show (34 :: (S ++ ([92] ++ [s[k]]))) = (34 :: S) ++ [92] ++ [s[k]] by simp, ← mkB_append, ← mkB_append, HX.out]; rfl, hq⟩
          case measure => simp [intOf]; omega
        · have n92 : (((s[k].toNat : Nat) : Int) == (92 : Int)) = false := neq8 h92
          have hN : ¬ (s[k] = 34 ∨ s[k] = 92) := by
            rintro (h | h)
            · exact h34 (by rw [h]; rfl)
            · exact h92 (by rw [h]; rfl)
          by_cases h10 : s[k].toNat = 10
          · have e1 : (((s[k].toNat : Nat) : Int) == (10 : Int)) = true := eq8 h10
            have HE := Lib.hid (show escB s[k] = [92, 110] by unfold escB; rw [if_neg hN, if_pos (UInt8.toNat_inj.1 h10)])
            go_wp2_with fail
            go_round
            case rel => exact ⟨k + 1, by omega, by go_num, by rw [HT.out, HE.out, show (34 :: (S ++ [92, 110])) = (34 :: S) ++ [92, 110] by simp, ← mkB_append]; rfl, hq⟩
            case measure => simp [intOf]; omega
          · have n10 : (((s[k].toNat : Nat) : Int) == (10 : Int)) = false := neq8 h10
            have hN2 : ¬ s[k] = 10 := fun h => h10 (by rw [h]; rfl)
            by_cases hp : 32 ≤ s[k].toNat ∧ s[k].toNat ≤ 126
            · obtain ⟨hp1, hp2⟩ := hp
              have HE := Lib.hid (show escB s[k] = [s[k]] by unfold escB; rw [if_neg hN, if_neg hN2, if_pos ⟨hp1, hp2⟩])
              go_wp2_with fail
              go_round
              case rel => exact ⟨k + 1, by omega, by go_num, by rw [HT.out, HE.out, show (34 :: (S ++ [s[k]])) = (34 :: S) ++ [s[k]] by simp, ← mkB_append, HX.out], hq⟩
              case measure => simp [intOf]; omega
            · have HE := Lib.hid (show escB s[k] = [92, 120] ++ hexB s[k] by unfold escB; rw [if_neg hN, if_neg hN2, if_neg hp]; rfl)
              have hp' : s[k].toNat < 32 ∨ 126 < s[k].toNat := by omega
              rcases hp' with hp1 | hp1
              all_goals
                go_wp2_with fail
                refine (hd.out _).mono ?_
                rintro e w' ⟨rfl, m, rfl⟩
                go_wp2_with fail
                go_round
                case rel => exact ⟨k + 1, by omega, by go_num, by rw [HT.out, HE.out, show (34 :: (S ++ ([92, 120] ++ hexB s[k]))) = (34 :: S) ++ [92, 120] ++ hexB s[k] by simp, ← mkB_append, ← mkB_append]; rfl, hq.drewN m⟩
                case measure => simp [intOf]; omega
    · obtain rfl : k = s.size := by omega
      have hb := escs_len s.data.toList
      rw [take_all_]
      rw [size_len] at hb
      have HQ := Lib.hid (show quoted s.data.toList = (34 :: escs s.data.toList) ++ [34] from rfl)
      have z1 : (mkB (34 :: escs s.data.toList)).size ≤ 20001 := by rw [mkB_size, List.length_cons]; omega
      go_wp2_with fail
      go_ret
      exact ⟨by rw [HQ.out, ← mkB_append]; rfl, hq⟩

end Go.Proofs.YtaoehdmdjplegaaGreatDoor
