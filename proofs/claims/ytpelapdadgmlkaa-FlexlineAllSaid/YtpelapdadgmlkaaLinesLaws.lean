/-
  Plain: what the laws on lines ask of Split; windowpanelaw15.long.
-/
import Derived.Test.YtpelapdadgmlkaaAwake15
namespace Go.Proofs.Ytpelapdadgmlkaa
open Go.RowKit

def isPos (n : Int) : Bool := decide (0 ≤ n)
theorem isPos_iff (n : Int) : isPos n = true ↔ 0 ≤ n := by simp [isPos]
def oneL (n : Nat) : List (Nat × Nat) := if n = 0 then [] else [(0, n)]
theorem small_fit {zs : List Int} {gap room : Int} (h : smallOk zs gap room) : zs.all fit = true ∧ fit gap = true ∧ fit room = true := by
  obtain ⟨⟨h1, h2, h3, h4, h5⟩, h6⟩ := h
  refine ⟨List.all_eq_true.2 fun x hx => ?_, (fit_iff _).2 (by omega), (fit_iff _).2 (by omega)⟩
  have := (isGreat_iff _).1 (List.all_eq_true.1 h6 x hx)
  exact (fit_iff _).2 (by omega)
theorem split_small {zs : List Int} {gap room : Int} (h : smallOk zs gap room) (wrap : Bool) : splitR zs gap room wrap = (linesOf (okAt zs gap room wrap) zs.length, 0) := by
  have hf := small_fit h
  obtain ⟨⟨h1, h2, h3, h4, h5⟩, h6⟩ := h
  exact split_ok (by omega) hf
theorem linesOf_one {ok : Nat → Nat → Bool} {n : Nat} (h : ∀ a t, a < t → t < n → ok a t = true) : linesOf ok n = oneL n := by
  rw [linesOf_congr (ok' := fun _ _ => true) h, linesOf_whole fun _ _ => rfl]
  rfl
theorem split_one {zs : List Int} {gap room : Int} (h : smallOk zs gap room) : splitR zs gap room false = (oneL zs.length, 0) := by
  rw [split_small h, linesOf_one (ok := okAt zs gap room false) fun a t _ _ => rfl]
theorem nonneg_sum : ∀ {L : List Int}, L.all isPos = true → 0 ≤ L.sum
  | [], _ => by simp
  | x :: L, h => by
    rw [List.all_cons, Bool.and_eq_true] at h
    have h1 := (isPos_iff _).1 h.1
    have h2 := nonneg_sum (L := L) h.2
    rw [List.sum_cons]
    omega
theorem pos_mono {zs : List Int} (h : zs.all isPos = true) {a b : Nat} (hab : a ≤ b) : (zs.take a).sum ≤ (zs.take b).sum := by
  have h1 := sub_sum zs hab
  have h2 := nonneg_sum (L := (zs.take b).drop a) (List.all_eq_true.2 fun x hx => List.all_eq_true.1 h x (List.mem_of_mem_take (List.mem_of_mem_drop hx)))
  omega
theorem long_mono {zs : List Int} (h : zs.all isPos = true) {gap gap' : Int} (g0 : 0 ≤ gap') (g1 : gap' ≤ gap) {a a' b b' : Nat} (h1 : a ≤ a') (h2 : a' < b') (h3 : b' ≤ b) : longOf zs gap' a' b' ≤ longOf zs gap a b := by
  have m1 := pos_mono h h1
  have m2 := pos_mono h h3
  have m3 : gap' * ((b' : Int) - a' - 1) ≤ gap * ((b : Int) - a - 1) := by
    have e1 : gap' * ((b' : Int) - a' - 1) ≤ gap * ((b' : Int) - a' - 1) := Int.mul_le_mul_of_nonneg_right g1 (by omega)
    have e2 : gap * ((b' : Int) - a' - 1) ≤ gap * ((b : Int) - a - 1) := Int.mul_le_mul_of_nonneg_left (by omega) (by omega)
    omega
  unfold longOf
  omega
def longAll (zs : List Int) (gap : Int) : Int := gap * ((zs.length : Int) - 1) + zs.sum
theorem longAll_eq (zs : List Int) (gap : Int) : longOf zs gap 0 zs.length = longAll zs gap := by
  unfold longOf longAll
  rw [List.take_of_length_le (Nat.le_refl _)]
  simp
theorem great_sum : ∀ {L : List Int}, L.all isGreat = true → -(1073741824 * (L.length : Int)) ≤ L.sum ∧ L.sum ≤ 1073741824 * (L.length : Int)
  | [], _ => by simp
  | x :: L, h => by
    rw [List.all_cons, Bool.and_eq_true] at h
    have h1 := (isGreat_iff _).1 h.1
    have h2 := great_sum (L := L) h.2
    rw [List.sum_cons, List.length_cons]
    omega
theorem longAll_bd {zs : List Int} {gap room : Int} (h : smallOk zs gap room) : -1073741824 * 301 ≤ longAll zs gap ∧ longAll zs gap ≤ 1073741824 * 600 := by
  obtain ⟨⟨h1, h2, h3, h4, h5⟩, h6⟩ := h
  have hs := great_sum h6
  unfold longAll
  rcases Nat.eq_zero_or_pos zs.length with h0 | h0
  · rw [h0] at hs ⊢
    have : gap * (((0 : Nat) : Int) - 1) = -gap := by rw [show ((0 : Nat) : Int) - 1 = -1 by omega]; omega
    omega
  · have e1 : 0 ≤ gap * ((zs.length : Int) - 1) := Int.mul_nonneg h2 (by omega)
    have e2 : gap * ((zs.length : Int) - 1) ≤ 1073741824 * 299 := Int.mul_le_mul h3 (by omega) (by omega) (by omega)
    omega
theorem split_all {zs : List Int} {gap room : Int} (h : smallOk zs gap room) (hp : zs.all isPos = true) : splitR zs gap (max 0 (longAll zs gap)) true = (oneL zs.length, 0) := by
  have hb := longAll_bd h
  have hf := small_fit h
  obtain ⟨⟨h1, h2, h3, h4, h5⟩, h6⟩ := h
  rw [split_ok (by omega) ⟨hf.1, hf.2.1, (fit_iff _).2 (by omega)⟩, linesOf_one]
  intro a t hat ht
  have hm := long_mono hp h2 (Int.le_refl gap) (Nat.zero_le a) (show a < t + 1 by omega) (show t + 1 ≤ zs.length by omega)
  rw [longAll_eq] at hm
  unfold okAt
  rw [decide_eq_true (show longOf zs gap a (t + 1) ≤ max 0 (longAll zs gap) by omega)]
  simp

set_option maxRecDepth 100000 in
set_option maxHeartbeats 4000000 in
theorem long15_any (zs : List Int) (gap : Int) (v : Value) (B : Nat) (w : World) (h : Ints w B v zs) (hl : zs.length ≤ 2048) (hO : zs.all fit = true) (g0 : 0 ≤ gap) (g1 : gap ≤ 1099511627776) :
    Calls Try.prog 76 #[v, .int .i64 gap] w fun e w' => e = .returned (.int .i64 (longAll zs gap)) ∧ w = w' := by
  obtain ⟨A, c, rfl, _, hr⟩ := h
  obtain ⟨G, hG⟩ : ∃ G, gap * ((zs.length : Int) - 1) = G := ⟨_, rfl⟩
  have hG0 : -1099511627776 ≤ G ∧ G ≤ 1099511627776 * 2048 := by
    rw [← hG]
    rcases Nat.eq_zero_or_pos zs.length with h0 | h0
    · rw [h0]
      have : gap * (((0 : Nat) : Int) - 1) = -gap := by rw [show ((0 : Nat) : Int) - 1 = -1 by omega]; omega
      omega
    · have e1 : 0 ≤ gap * ((zs.length : Int) - 1) := Int.mul_nonneg g0 (by omega)
      have e2 : gap * ((zs.length : Int) - 1) ≤ 1099511627776 * 2048 := Int.mul_le_mul g1 (by omega) (by omega) (by omega)
      omega
  obtain ⟨hG1, hG2⟩ := hG0
  have hw1 : IntKind.i64.wrap (gap * ((zs.length : Int) - 1)) = G := by rw [hG, IntKind.wrap_i64]; omega
  have HG := Lib.hid (show longAll zs gap = G + zs.sum by unfold longAll; rw [hG])
  clear hG
  have HA := Lib.hid hO; clear hO
  go_enter Try.func76, Try.ntmps76
  go_wp2_with fail
  go_loopw [5, 6] (LgA zs G w) (fun _ i _ => zs.length - (intOf i).toNat)
  case atStart => exact ⟨0, by omega, rfl, by simp, rfl⟩
  case round =>
    obtain ⟨k, hk, rfl, rfl, rfl⟩ := hrel
    obtain ⟨b1, b2⟩ := sum_bd HA.out k
    by_cases hlt : k < zs.length
    · obtain ⟨ad, rfl, hbb, hcell⟩ := hr.val hlt
      have HT := Lib.hid (take_sum zs k hlt)
      obtain ⟨b3, b4⟩ := (fit_iff _).1 (List.all_eq_true.1 HA.out _ (List.getElem_mem hlt))
      generalize zs[k] = x at *
      generalize (zs.take k).sum = S at *
      go_wp2_with fail
      go_roundw
      case rel => exact ⟨k + 1, hlt, by go_num, by rw [HT.out]; go_num, rfl⟩
      case measure => simp [intOf] <;> omega
    · obtain rfl : k = zs.length := by omega
      rw [List.take_of_length_le (Nat.le_refl _)] at b1 b2 ⊢
      go_wp2_with fail
      go_ret
      exact ⟨by rw [HG.out]; rfl, rfl⟩

/-! Wider. -/
theorem wider_lines {zs : List Int} (hp : zs.all isPos = true) {gap gap' room more : Int} (g0 : 0 ≤ gap') (g1 : gap' ≤ gap) (r0 : 0 ≤ room) (r1 : room ≤ more) :
    (linesOf (okAt zs gap' more true) zs.length).length ≤ (linesOf (okAt zs gap room true) zs.length).length ∧
      ∀ i (h' : i < (linesOf (okAt zs gap' more true) zs.length).length) (h : i < (linesOf (okAt zs gap room true) zs.length).length), ((linesOf (okAt zs gap room true) zs.length)[i]).2 ≤ ((linesOf (okAt zs gap' more true) zs.length)[i]).2 := by
  refine lines_less fun a a' t h1 h2 h3 hk => ?_
  unfold okAt at hk ⊢
  simp [show ¬ room = -1 by omega] at hk
  have := long_mono hp g0 g1 h1 (show a' < t + 1 by omega) (Nat.le_refl (t + 1))
  simp
  omega
theorem small_zero {zs : List Int} {gap room : Int} (h : smallOk zs gap room) : smallOk zs 0 room := ⟨⟨h.1.1, by omega, by omega, h.1.2.2.2.1, h.1.2.2.2.2⟩, h.2⟩

/-! All. -/
theorem okAt_true {zs : List Int} {gap room : Int} (h : 0 ≤ room) (a t : Nat) : okAt zs gap room true a t = decide (longOf zs gap a (t + 1) ≤ room) := by
  unfold okAt
  simp [show ¬ room = -1 by omega]
/-- What FlexlineAll asks of the lines. -/
theorem all_lines {zs : List Int} {gap room : Int} (h : smallOk zs gap room) :
    ∃ L : List (Nat × Nat), splitR zs gap room true = (L, 0) ∧ L.length ≤ 300 ∧ (∀ i (hi : i < L.length), (L[i]).1 = (if i = 0 then 0 else (L.getD (i - 1) (0, 0)).2) ∧ (L[i]).1 < (L[i]).2 ∧ (L[i]).2 ≤ zs.length ∧
        (0 ≤ room → ((L[i]).1 + 1 < (L[i]).2 → longOf zs gap (L[i]).1 (L[i]).2 ≤ room) ∧ ((L[i]).2 < zs.length → room < longOf zs gap (L[i]).1 ((L[i]).2 + 1)))) ∧
      zs.length = (if L.length = 0 then 0 else (L.getD (L.length - 1) (0, 0)).2) ∧ (room < 0 → L.length ≤ 1) := by
  have hs := split_small h true
  have hc := linesOf_all (okAt zs gap room true) zs.length
  have hl := linesOf_len (okAt zs gap room true) zs.length
  have h1 := h.1.1
  have hr : room < 0 → (linesOf (okAt zs gap room true) zs.length).length ≤ 1 := fun hn => by
    have : room = -1 := by have := h.1.2.2.2.1; omega
    rw [linesOf_one fun a t _ _ => by unfold okAt; simp [this]]
    unfold oneL
    split <;> simp
  refine ⟨_, hs, by omega, fun i hi => ?_, hc.1.ends, hr⟩
  obtain ⟨k1, k2, k3, k4⟩ := hc.2 _ (List.getElem_mem hi)
  refine ⟨hc.1.begins i hi, k1, k2, fun r0 => ?_⟩
  generalize (linesOf (okAt zs gap room true) zs.length)[i] = x at *
  refine ⟨fun hlt => ?_, fun hlt => ?_⟩
  · have := k3 (x.2 - 1) (by omega) (by omega)
    rw [okAt_true r0, show x.2 - 1 + 1 = x.2 by omega] at this
    exact of_decide_eq_true this
  · have := k4 hlt
    rw [okAt_true r0] at this
    have := of_decide_eq_false this
    omega

end Go.Proofs.Ytpelapdadgmlkaa
