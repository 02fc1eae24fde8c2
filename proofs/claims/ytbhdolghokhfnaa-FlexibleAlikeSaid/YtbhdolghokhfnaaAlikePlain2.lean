/-
  Plain: boxes that are alike have sizes that differ by 1 at most.
-/
import Derived.Test.YtbhdolghokhfnaaAlikePlain
namespace Go.Proofs.Ytbhdolghokhfnaa

theorem sumF_neg {f : Nat → Int} {i : Nat} : ∀ {n : Nat}, (∀ k, k < n → f k ≤ 0) → i < n → f i < 0 → sumF f n < 0
  | 0, _, hi, _ => absurd hi (by omega)
  | n + 1, h, hi, hn => by
    rw [sumF]
    have h0 := h n (by omega)
    rcases Nat.lt_or_eq_of_le (Nat.le_of_lt_succ hi) with h1 | rfl
    · have := sumF_neg (n := n) (fun k hk => h k (by omega)) h1 hn
      omega
    · have := sumF_hi (n := i) (c := 0) fun k hk => h k (by omega)
      omega
theorem sumF_part {f : Nat → Int} {i : Nat} : ∀ {n : Nat}, (∀ k, k < n → 0 ≤ f k) → i < n → f i ≤ sumF f n
  | 0, _, hi => absurd hi (by omega)
  | n + 1, h, hi => by
    rw [sumF]
    have h0 := h n (by omega)
    rcases Nat.lt_or_eq_of_le (Nat.le_of_lt_succ hi) with h1 | rfl
    · have := sumF_part (n := n) (fun k hk => h k (by omega)) h1
      omega
    · have := sumF_lo (n := i) (c := 0) fun k hk => h k (by omega)
      omega
theorem lastR_some {o out : List Int} (h : lastR (some o) = (out, 0)) : o = out := by
  unfold lastR at h
  dsimp only at h
  split at h
  · injection h
  · injection h with _ h
    cases h
theorem rep_at {n i : Nat} {y : It} (hi : i < n) : itAt (List.replicate n y) i = y := by
  rw [itAt_at (by simpa using hi)]
  simp
/-- Shares of places of one weight. -/
theorem give_alike {grow : Bool} {room : Int} {s : List Bo} (hg : GoodS s) (hf : fit (leftR room s) = true) {x : Int} (hw : ∀ i, i < s.length → wtOf grow (boAt s i) = x) {k i : Nat} (hi : i < s.length) (hk : k < i) :
    0 ≤ ((giveR grow (leftR room s) s).getD k 0 - (giveR grow (leftR room s) s).getD i 0) * sgn (cutR grow (leftR room s)) ∧ ((giveR grow (leftR room s) s).getD k 0 - (giveR grow (leftR room s) s).getD i 0) * sgn (cutR grow (leftR room s)) ≤ 1 := by
  have G := given_facts (cut_fit (grow := grow) hf) (hg.wts grow)
  have hl : (zsOf (cutR grow (leftR room s)) (s.map (wtOf grow))).length = s.length := by rw [zsOf_len, List.length_map]
  have h1 : ∀ j (hj : j < s.length), (giveR grow (leftR room s) s).getD j 0 = (zsOf (cutR grow (leftR room s)) (s.map (wtOf grow)))[j]'(by rw [hl]; exact hj) := fun j hj => by
    unfold giveR
    simp [hl, hj]
  have hks : k < s.length := by omega
  rw [h1 k hks, h1 i hi]
  refine G.alike i k (by simpa using hi) (by simpa using hks) _ _ hk ?_
  rw [List.getElem_map, List.getElem_map, ← boAt_at hks, ← boAt_at hi, hw k hks, hw i hi]

section
variable {n : Nat} {y : It} {room : Int} {out : List Int}
theorem alike_d (hn : 0 < n) (P : NearP (List.replicate n y) 0 room) (F : SizesF (List.replicate n y) 0 room out) (hout : sizesR (List.replicate n y) 0 room = (out, 0))
    (hl : y.least = 0) (hm : y.most = 1099511627776) (hr0 : 0 ≤ room) (hr1 : room ≤ 68719476736) {i : Nat} (hi : i < n) :
    ¬ 1 < outI out 0 - outI out i ∧ ¬ outI out 0 - outI out i < -1 ∧ (growR (List.replicate n y) 0 room = true → ¬ outI out 0 - outI out i < 0) ∧ (growR (List.replicate n y) 0 room = false → ¬ 0 < outI out 0 - outI out i) := by
  have hN := P.it 0 (by simpa using hn)
  rw [rep_at hn] at hN
  have hb0 := hN.b0
  have hb1 := hN.b1
  have hln : (List.replicate n y).length = n := by simp
  have hfst : ∀ j, j < n → fstI (List.replicate n y) j = y.base := fun j hj => by
    unfold fstI
    rw [rep_at hj, first_eq, hl, hm]
    omega
  have hlen : n ≤ 100 := by have := P.len; rwa [hln] at this
  have hab := around_bd P
  have hpos : ∀ j, j < n → 0 ≤ outI out j := fun j hj => by
    obtain ⟨g, hg⟩ := F.bnd j (by rw [hln]; exact hj)
    rw [rep_at hj, hl] at hg
    unfold clampR at hg
    omega
  have same : ∀ b : Bool, outI out 0 = outI out i → (¬ 1 < outI out 0 - outI out i ∧ ¬ outI out 0 - outI out i < -1 ∧ (b = true → ¬ outI out 0 - outI out i < 0) ∧ (b = false → ¬ 0 < outI out 0 - outI out i)) := fun _ e => by
    rw [e]
    exact ⟨by omega, by omega, fun _ => by omega, fun _ => by omega⟩
  by_cases hi0 : i = 0
  · exact same _ (by rw [hi0])
  have hsz := hout
  unfold sizesR at hsz
  rw [P.check, if_neg (by omega), if_neg (by omega)] at hsz
  have h2 : (List.replicate n y).length + 1 = (n - 1) + 2 := by rw [hln]; omega
  rw [h2] at hsz
  cases hg : growR (List.replicate n y) 0 room with
  | true =>
    by_cases hz : y.grow = 0
    · exact same _ (by rw [F.g0 hg 0 (by rw [hln]; exact hn) (by rw [rep_at hn]; exact hz), F.g0 hg i (by rw [hln]; exact hi) (by rw [rep_at hi]; exact hz), hfst 0 hn, hfst i hi])
    · have I := startI_grow P hg
      rw [hg] at hsz
      change lastR (roundsR _ _ _ (startS true (List.replicate n y))) = _ at hsz
      have hsl : (startS true (List.replicate n y)).length = n := by rw [startS_len, hln]
      have hop : ∀ j, j < n → stB (startS true (List.replicate n y)) j = false := fun j hj => by
        rcases start_grow (l := List.replicate n y) (i := j) (by rw [hln]; exact hj) with ⟨_, _, h3⟩ | ⟨h3, _⟩
        · rw [rep_at hj, hfst j hj] at h3
          omega
        · exact h3
      have hitm : ∀ j, j < n → (boAt (startS true (List.replicate n y)) j).1 = y := fun j hj => by rw [startS_it (by rw [hln]; exact hj), rep_at hj]
      generalize startS true (List.replicate n y) = s at *
      obtain ⟨hl0, hfit⟩ := I.left (by omega)
      have R := round_facts (grow := true) I.good hfit
      have hlR : leftR (room - aroundR (List.replicate n y) 0) s ≤ room - aroundR (List.replicate n y) 0 := by
        rw [leftR_sumF, hsl]
        have := sumF_lo (f := szI s) (c := 0) (n := n) fun j hj => I.n0 j (by rw [hsl]; exact hj)
        omega
      have hcut : cutR true (leftR (room - aroundR (List.replicate n y) 0) s) = leftR (room - aroundR (List.replicate n y) 0) s := by unfold cutR; simp; omega
      have hzs : ∀ j, j < n → 0 ≤ (giveR true (leftR (room - aroundR (List.replicate n y) 0) s) s).getD j 0 ∧ (giveR true (leftR (room - aroundR (List.replicate n y) 0) s) s).getD j 0 ≤ 137438953472 := fun j hj => by
        have h3 := R.pos rfl
        have h4 := sumF_part (f := fun i => (giveR true (leftR (room - aroundR (List.replicate n y) 0) s) s).getD i 0) (n := s.length) (fun k _ => h3 k) (by rw [hsl]; exact hj)
        have h5 := R.sum
        rw [hcut] at h5
        have h6 := h3 j
        have : sumF (fun i => (giveR true (leftR (room - aroundR (List.replicate n y) 0) s) s).getD i 0) s.length ≤ leftR (room - aroundR (List.replicate n y) 0) s := by
          rw [h5]
          split <;> omega
        have h7 : (giveR true (leftR (room - aroundR (List.replicate n y) 0) s) s).getD j 0 ≤ sumF (fun i => (giveR true (leftR (room - aroundR (List.replicate n y) 0) s) s).getD i 0) s.length := h4
        omega
      have hopen : openR s ≠ 0 := fun h => by
        have h3 := settled_some h 0 (by rw [hsl]; exact hn)
        rw [hop 0 hn] at h3
        cases h3
      obtain ⟨out', ho1, ho2, ho3⟩ := one_round (f := n - 1) (grow := true) hopen hfit fun j hj hs => by
        rw [hsl] at hj
        rw [chg_open hs, goal_eq, got_open, hitm j hj, hl, hm]
        have := hzs j hj
        omega
      rw [ho1] at hsz
      obtain rfl := lastR_some hsz
      have e0 := ho3 0 (by rw [hsl]; exact hn) (hop 0 hn)
      have ei := ho3 i (by rw [hsl]; exact hi) (hop i hi)
      rw [got_open, hitm 0 hn] at e0
      rw [got_open, hitm i hi] at ei
      have al := give_alike (grow := true) I.good hfit (x := y.grow) (fun j hj => by
        rw [hsl] at hj
        have := hop j hj
        unfold stB at this
        unfold wtOf
        rw [this, hitm j hj]
        rfl) (k := 0) (i := i) (by rw [hsl]; exact hi) (by omega)
      have hsg : sgn (cutR true (leftR (room - aroundR (List.replicate n y) 0) s)) = 1 := by rw [hcut]; unfold sgn; rw [if_neg (by omega)]
      rw [hsg, Int.mul_one] at al
      rw [e0, ei]
      refine ⟨by omega, by omega, fun _ => by omega, fun h => ?_⟩
      cases h
  | false =>
    by_cases hz : y.shrink = 0
    · exact same _ (by rw [F.s0 hg 0 (by rw [hln]; exact hn) (by rw [rep_at hn]; exact hz), F.s0 hg i (by rw [hln]; exact hi) (by rw [rep_at hi]; exact hz), hfst 0 hn, hfst i hi])
    by_cases hbz : y.base = 0
    · have a1 := F.sh hr0 hg 0 (by rw [hln]; exact hn)
      have a2 := F.sh hr0 hg i (by rw [hln]; exact hi)
      rw [hfst 0 hn, hbz] at a1
      rw [hfst i hi, hbz] at a2
      have := hpos 0 hn
      have := hpos i hi
      exact same _ (by omega)
    by_cases hR : room - aroundR (List.replicate n y) 0 < 0
    · have hs := sumF_lo (f := outI out) (c := 0) (n := n) hpos
      have hlt : room < sumF (outI out) (List.replicate n y).length + aroundR (List.replicate n y) 0 := by rw [hln]; omega
      have s0 := hN.s0
      have a1 := F.low hr0 hg hlt 0 (by rw [hln]; exact hn) (by rw [rep_at hn]; omega) (by rw [rep_at hn]; omega)
      have a2 := F.low hr0 hg hlt i (by rw [hln]; exact hi) (by rw [rep_at hi]; omega) (by rw [rep_at hi]; omega)
      rw [rep_at hn, hl] at a1
      rw [rep_at hi, hl] at a2
      have := hpos 0 hn
      have := hpos i hi
      exact same _ (by omega)
    · have I := startI_shrink P hg
      rw [hg] at hsz
      change lastR (roundsR _ _ _ (startS false (List.replicate n y))) = _ at hsz
      have hsl : (startS false (List.replicate n y)).length = n := by rw [startS_len, hln]
      have hop : ∀ j, j < n → stB (startS false (List.replicate n y)) j = false := fun j hj => by
        rcases start_shrink (l := List.replicate n y) (i := j) (by rw [hln]; exact hj) with ⟨_, _, h3⟩ | ⟨h3, _⟩
        · rw [rep_at hj, hfst j hj] at h3
          omega
        · exact h3
      have hitm : ∀ j, j < n → (boAt (startS false (List.replicate n y)) j).1 = y := fun j hj => by rw [startS_it (by rw [hln]; exact hj), rep_at hj]
      generalize startS false (List.replicate n y) = s at *
      obtain ⟨hl0, hfit⟩ := I.left (by rw [hsl]; omega)
      have R := round_facts (grow := false) I.good hfit
      have hwt : ∀ j, j < s.length → wtOf false (boAt s j) = y.shrink * y.base := fun j hj => by
        rw [hsl] at hj
        have := hop j hj
        unfold stB at this
        unfold wtOf
        rw [this, hitm j hj]
        rfl
      have hw : wSum (s.map (wtOf false)) ≠ 0 := fun h => by
        have h3 := wsum_zero I.good h (i := 0) (by rw [hsl]; exact hn)
        rw [hwt 0 (by rw [hsl]; exact hn)] at h3
        rcases Int.mul_eq_zero.1 h3 with h4 | h4
        · exact hz h4
        · exact hbz h4
      have hcut : cutR false (leftR (room - aroundR (List.replicate n y) 0) s) = leftR (room - aroundR (List.replicate n y) 0) s := by unfold cutR; simp; omega
      have hng := R.neg rfl
      have hsum := R.sum
      rw [if_neg hw, hcut] at hsum
      have hal : ∀ k j, j < n → k < j → (giveR false (leftR (room - aroundR (List.replicate n y) 0) s) s).getD k 0 ≤ (giveR false (leftR (room - aroundR (List.replicate n y) 0) s) s).getD j 0 ∧ (giveR false (leftR (room - aroundR (List.replicate n y) 0) s) s).getD j 0 ≤ (giveR false (leftR (room - aroundR (List.replicate n y) 0) s) s).getD k 0 + 1 := fun k j hj hk => by
        by_cases hc : leftR (room - aroundR (List.replicate n y) 0) s < 0
        · have al := give_alike (grow := false) I.good hfit hwt (k := k) (i := j) (by rw [hsl]; exact hj) hk
          rw [hcut, show sgn (leftR (room - aroundR (List.replicate n y) 0) s) = -1 from if_pos hc] at al
          omega
        · have h3 : cutR false (leftR (room - aroundR (List.replicate n y) 0) s) = 0 := by rw [hcut]; omega
          have h4 : ∀ m, (giveR false (leftR (room - aroundR (List.replicate n y) 0) s) s).getD m 0 = 0 := fun m => by unfold giveR; rw [h3, zsOf_zero]
          rw [h4, h4]
          omega
      have hlr := leftR_sumF (room - aroundR (List.replicate n y) 0) s
      generalize hzz : giveR false (leftR (room - aroundR (List.replicate n y) 0) s) s = zs at *
      have hszI : sumF (szI s) s.length + sumF (fun i => zs.getD i 0) s.length = sumF (fun i => gotR zs s i) s.length := by
        rw [← sumF_add]
        refine sumF_congr fun j hj => ?_
        rw [hsl] at hj
        rw [szI_open (hop j hj), got_open]
      have hgot : ∀ j, j < n → 0 ≤ gotR zs s j := fun j hj => by
        refine Int.not_lt.1 fun hneg => ?_
        have hall : ∀ k, k < s.length → gotR zs s k ≤ 0 := fun k hk => by
          rw [hsl] at hk
          rw [got_open, hitm j hj] at hneg
          rw [got_open, hitm k hk]
          rcases Nat.lt_trichotomy k j with h3 | h3 | h3
          · have := hal k j hj h3
            omega
          · subst h3
            omega
          · have := hal j k hk h3
            omega
        have h4 := sumF_neg (f := fun i => gotR zs s i) (i := j) (n := s.length) hall (by rw [hsl]; exact hj) hneg
        omega
      have hopen : openR s ≠ 0 := fun h => by
        have h3 := settled_some h 0 (by rw [hsl]; exact hn)
        rw [hop 0 hn] at h3
        cases h3
      obtain ⟨out', ho1, ho2, ho3⟩ := one_round (f := n - 1) (grow := false) hopen hfit fun j hj hs => by
        rw [hzz]
        rw [hsl] at hj
        have h3 := hgot j hj
        have h4 := hng j
        rw [chg_open hs, goal_eq]
        rw [got_open, hitm j hj] at h3 ⊢
        rw [hl, hm]
        omega
      rw [ho1] at hsz
      obtain rfl := lastR_some hsz
      have e0 := ho3 0 (by rw [hsl]; exact hn) (hop 0 hn)
      have ei := ho3 i (by rw [hsl]; exact hi) (hop i hi)
      rw [hzz, got_open, hitm 0 hn] at e0
      rw [hzz, got_open, hitm i hi] at ei
      have := hal 0 i hi (by omega)
      rw [e0, ei]
      refine ⟨by omega, by omega, fun h => ?_, fun _ => by omega⟩
      cases h
end

end Go.Proofs.Ytbhdolghokhfnaa
