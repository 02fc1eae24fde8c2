/-
  Plain: what sizes come to: all together, and each between its bounds.
-/
import Derived.Test.YtbhdolghokhfnaaRefRoundPlain
namespace Go.Proofs.Ytbhdolghokhfnaa

def sumF (f : Nat → Int) : Nat → Int
  | 0 => 0
  | k + 1 => sumF f k + f k
theorem sumF_le {f g : Nat → Int} : ∀ {n : Nat}, (∀ i, i < n → f i ≤ g i) → sumF f n ≤ sumF g n
  | 0, _ => Int.le_refl _
  | n + 1, h => by
    have := sumF_le (n := n) fun i hi => h i (by omega)
    have := h n (by omega)
    rw [sumF, sumF]
    omega
theorem sumF_congr {f g : Nat → Int} {n : Nat} (h : ∀ i, i < n → f i = g i) : sumF f n = sumF g n :=
  Int.le_antisymm (sumF_le fun i hi => by rw [h i hi]; exact Int.le_refl _) (sumF_le fun i hi => by rw [h i hi]; exact Int.le_refl _)
theorem sumF_add (f g : Nat → Int) : ∀ n, sumF (fun i => f i + g i) n = sumF f n + sumF g n
  | 0 => rfl
  | n + 1 => by rw [sumF, sumF, sumF, sumF_add f g n]; omega
theorem sumF_hi {f : Nat → Int} {c : Int} : ∀ {n : Nat}, (∀ i, i < n → f i ≤ c) → sumF f n ≤ c * (n : Int)
  | 0, _ => by simp [sumF]
  | n + 1, h => by
    have := sumF_hi (n := n) fun i hi => h i (by omega)
    have := h n (by omega)
    rw [sumF, Int.natCast_succ, Int.mul_add]
    omega
theorem sumF_lo {f : Nat → Int} {c : Int} : ∀ {n : Nat}, (∀ i, i < n → c ≤ f i) → c * (n : Int) ≤ sumF f n
  | 0, _ => by simp [sumF]
  | n + 1, h => by
    have := sumF_lo (n := n) fun i hi => h i (by omega)
    have := h n (by omega)
    rw [sumF, Int.natCast_succ, Int.mul_add]
    omega
theorem sumF_alike {f g : Nat → Int} : ∀ {n : Nat}, (∀ i, i < n → f i ≤ g i) → sumF g n ≤ sumF f n → ∀ i, i < n → f i = g i
  | 0, _, _, i, hi => absurd hi (by omega)
  | n + 1, h, hs, i, hi => by
    rw [sumF, sumF] at hs
    have h1 := sumF_le (n := n) fun i hi => h i (by omega)
    have h2 := h n (by omega)
    rcases Nat.lt_or_eq_of_le (Nat.le_of_lt_succ hi) with h3 | rfl
    · exact sumF_alike (n := n) (fun i hi => h i (by omega)) (by omega) i h3
    · omega
theorem sumF_to {f g : Nat → Int} (h0 : g 0 = 0) (hs : ∀ k, g (k + 1) = g k + f k) : ∀ n, g n = sumF f n
  | 0 => h0
  | n + 1 => by rw [hs, sumF_to h0 hs n, sumF]
theorem sumF_list (l : List Int) : sumF (fun i => l.getD i 0) l.length = l.sum := by
  have h : ∀ k, k ≤ l.length → sumF (fun i => l.getD i 0) k = (l.take k).sum := by
    intro k
    induction k with
    | zero => simp [sumF]
    | succ k ih =>
      intro hk
      rw [sumF, ih (by omega), List.take_succ_eq_append_getElem (by omega), List.sum_append]
      simp [show k < l.length by omega]
  rw [h _ (Nat.le_refl _), List.take_of_length_le (Nat.le_refl _)]

/-! A round. -/
def szI (s : List Bo) (i : Nat) : Int := szOf (boAt s i)
theorem szTo_sumF (s : List Bo) (n : Nat) : szTo s n = sumF (szI s) n := sumF_to (g := szTo s) rfl (fun _ => rfl) n
theorem sumR_sumF (zs : List Int) (s : List Bo) (n : Nat) : sumR zs s n = sumF (chgR zs s) n := sumF_to (g := sumR zs s) rfl (fun _ => rfl) n
theorem leftR_sumF (room : Int) (s : List Bo) : leftR room s = room - sumF (szI s) s.length := by
  unfold leftR
  rw [← szTo_all, szTo_sumF]
/-- Where the boxes end in a round. -/
def endI (zs : List Int) (s : List Bo) (i : Nat) : Int := goO zs s (szI s) i
theorem szI_open {s : List Bo} {i : Nat} (h : stB s i = false) : szI s i = (boAt s i).1.base := by
  unfold szI szOf
  unfold stB at h
  cases hx : (boAt s i).2 with
  | none => rfl
  | some z => rw [hx] at h; cases h
theorem zsOf_zero (ws : List Int) (i : Nat) : (zsOf 0 ws).getD i 0 = 0 := by
  by_cases hi : i < (zsOf 0 ws).length
  · have e : (zsOf 0 ws).getD i 0 = (zsOf 0 ws)[i] := by simp [hi]
    rw [e, zsOf_at]
    by_cases h0 : wSum ws = 0
    · rw [if_pos h0]
    · rw [if_neg h0, shareAt_pos _ _ _ (Int.le_refl _)]
      have := gets_le (Int.natAbs 0) ws (by omega) (i := i) (by rwa [zsOf_len] at hi)
      simp at this ⊢
      omega
  · simp at hi
    simp [hi]
structure RoundF (grow : Bool) (room : Int) (s : List Bo) (zs : List Int) : Prop where
  len : zs.length = s.length
  zero : ∀ i, i < s.length → stB s i = true → zs.getD i 0 = 0
  pos : grow = true → ∀ i, 0 ≤ zs.getD i 0
  neg : grow = false → ∀ i, zs.getD i 0 ≤ 0
  sum : sumF (fun i => zs.getD i 0) s.length = if wSum (s.map (wtOf grow)) = 0 then 0 else cutR grow (leftR room s)
  zw : wSum (s.map (wtOf grow)) = 0 → ∀ i, zs.getD i 0 = 0
theorem round_facts {grow : Bool} {room : Int} {s : List Bo} (h : GoodS s) (hf : fit (leftR room s) = true) : RoundF grow room s (giveR grow (leftR room s) s) := by
  have F := given_facts (cut_fit (grow := grow) hf) (h.wts grow)
  have hl : (giveR grow (leftR room s) s).length = s.length := by unfold giveR; rw [zsOf_len, List.length_map]
  have hg : ∀ i (hi : i < s.length), (giveR grow (leftR room s) s).getD i 0 = (zsOf (cutR grow (leftR room s)) (s.map (wtOf grow)))[i]'(by rw [zsOf_len, List.length_map]; exact hi) := fun i hi => by
    unfold giveR
    simp [zsOf_len, hi]
  have ho : ∀ i, ¬ i < s.length → (giveR grow (leftR room s) s).getD i 0 = 0 := fun i hi => by
    have : (giveR grow (leftR room s) s).length ≤ i := by omega
    simp [this]
  refine ⟨hl, fun i hi hs => ?_, fun hgr i => ?_, fun hgr i => ?_, ?_, fun h0 i => ?_⟩
  · rw [hg i hi]
    refine F.zero i (by simpa using hi) _ ?_
    rw [List.getElem_map, ← boAt_at hi]
    unfold stB at hs
    simp [wtOf, hs]
  · subst hgr
    by_cases hi : i < s.length
    · rw [hg i hi]
      have hc : 0 ≤ cutR true (leftR room s) := by unfold cutR; simp; omega
      exact (F.pos hc i _).1
    · rw [ho i hi]
      exact Int.le_refl _
  · subst hgr
    have hc : cutR false (leftR room s) ≤ 0 := by unfold cutR; simp; omega
    by_cases hi : i < s.length
    · rcases Int.lt_or_eq_of_le hc with h1 | h1
      · rw [hg i hi]
        exact (F.neg h1 i _).1
      · unfold giveR
        rw [h1, zsOf_zero]
        exact Int.le_refl _
    · rw [ho i hi]
      exact Int.le_refl _
  · rw [← hl, sumF_list]
    unfold giveR
    exact F.sum
  · by_cases hi : i < s.length
    · rw [hg i hi, zsOf_at, if_pos h0]
    · exact ho i hi
theorem ends_sum {grow : Bool} {room : Int} {s : List Bo} {zs : List Int} (F : RoundF grow room s zs) : sumF (endI zs s) s.length = sumF (szI s) s.length + sumF (fun i => zs.getD i 0) s.length + sumR zs s s.length := by
  rw [sumR_sumF, ← sumF_add, ← sumF_add]
  refine sumF_congr fun i hi => ?_
  unfold endI goO chgR
  cases hs : stB s i with
  | true =>
    rw [if_pos rfl, F.zero i hi hs]
    unfold stB at hs
    rw [if_pos hs]
    omega
  | false =>
    rw [if_neg (by simp), szI_open hs]
    unfold stB at hs
    rw [if_neg (by simp [hs])]
    unfold gotR
    omega
theorem wsum_zero {s : List Bo} {grow : Bool} (h : GoodS s) (h0 : wSum (s.map (wtOf grow)) = 0) {i : Nat} (hi : i < s.length) : wtOf grow (boAt s i) = 0 := by
  have h1 := wAt_le_sum (s.map (wtOf grow)) (show i < (s.map (wtOf grow)).length by simpa using hi)
  have h2 := (isWeight_iff _).1 ((h i hi).wt grow)
  rw [wAt_at (by simpa using hi), List.getElem_map, ← boAt_at hi] at h1
  omega
/-- The next state, box by box. -/
theorem next_cases {zs : List Int} {s : List Bo} {i : Nat} (hi : i < s.length) :
    (stB s i = true ∧ boAt (nextR zs s) i = boAt s i) ∨
    (stB s i = false ∧ settles (sumR zs s s.length) (chgR zs s i) = true ∧ boAt (nextR zs s) i = ((boAt s i).1, some (goalR zs s i))) ∨
    (stB s i = false ∧ settles (sumR zs s s.length) (chgR zs s i) = false ∧ boAt (nextR zs s) i = boAt s i) := by
  rw [nextR_bo hi]
  unfold nextAt stB
  cases h0 : (boAt s i).2.isSome with
  | true => exact Or.inl ⟨rfl, by simp⟩
  | false =>
    cases h1 : settles (sumR zs s s.length) (chgR zs s i) with
    | true => exact Or.inr (Or.inl ⟨rfl, rfl, by simp⟩)
    | false => exact Or.inr (Or.inr ⟨rfl, rfl, by simp⟩)
theorem chg_open {zs : List Int} {s : List Bo} {i : Nat} (h : stB s i = false) : chgR zs s i = goalR zs s i - gotR zs s i := by
  unfold stB at h
  unfold chgR
  rw [if_neg (by simp [h])]
theorem settles_zero {c ch : Int} (h : c = 0) : settles c ch = true := by simp [settles, h]
theorem settles_pos {c ch : Int} (h : settles c ch = true) (hc : 0 < c) : 0 < ch := by simp only [settles, decide_eq_true_eq] at h; omega
theorem settles_neg {c ch : Int} (h : settles c ch = true) (hc : c < 0) : ch < 0 := by simp only [settles, decide_eq_true_eq] at h; omega

/-! Growing. -/
def topOf (x : It) : Int := max x.least x.most
def qI (s : List Bo) (i : Nat) : Int := if stB s i = true then szI s i else firstR (boAt s i).1
structure GrowI (room : Int) (s : List Bo) : Prop where
  good : GoodS s
  n0 : ∀ i, i < s.length → 0 ≤ szI s i
  l0 : ∀ i, i < s.length → 0 ≤ (boAt s i).1.least
  op : ∀ i, i < s.length → stB s i = false → (boAt s i).1.base ≤ firstR (boAt s i).1 ∧ 0 < (boAt s i).1.grow
  q : sumF (qI s) s.length ≤ room
structure GrowR (room : Int) (s : List Bo) (out : List Int) : Prop where
  len : out.length = s.length
  st : ∀ i, i < s.length → stB s i = true → out.getD i 0 = szI s i
  op : ∀ i, i < s.length → stB s i = false → firstR (boAt s i).1 ≤ out.getD i 0 ∧ ∃ g, out.getD i 0 = clampR g (boAt s i).1.least (boAt s i).1.most
  le : sumF (fun i => out.getD i 0) s.length ≤ room
  top : sumF (fun i => out.getD i 0) s.length < room → ∀ i, i < s.length → stB s i = false → out.getD i 0 = topOf (boAt s i).1
theorem open_some {s : List Bo} (h : openR s ≠ 0) : ∃ i, i < s.length ∧ stB s i = false := by
  rw [openR_range] at h
  obtain ⟨i, hm, hp⟩ := List.countP_pos_iff.1 (by omega : 0 < (List.range s.length).countP (fun i => !(boAt s i).2.isSome))
  exact ⟨i, by simpa using hm, by unfold stB; simpa using hp⟩
theorem settled_some {s : List Bo} (h : openR s = 0) : ∀ i, i < s.length → stB s i = true := fun _ hi => all_settled h hi
theorem szs_at {s : List Bo} {i : Nat} (hi : i < s.length) : (s.map szOf).getD i 0 = szI s i := by
  unfold szI
  rw [boAt_at hi]
  simp [hi]
theorem GrowI.left {room : Int} {s : List Bo} (h : GrowI room s) (hr : room ≤ 1099511627776) : 0 ≤ leftR room s ∧ fit (leftR room s) = true := by
  have h1 : sumF (szI s) s.length ≤ sumF (qI s) s.length := sumF_le fun i hi => by
    unfold qI
    cases hs : stB s i with
    | true => rw [if_pos rfl]; exact Int.le_refl _
    | false => rw [if_neg (by simp), szI_open hs]; exact (h.op i hi hs).1
  have h2 := sumF_lo (n := s.length) h.n0
  have h3 := h.q
  rw [fit_iff, leftR_sumF]
  omega
theorem GrowI.end_sum {room : Int} {s : List Bo} (h : GrowI room s) (hr : room ≤ 1099511627776) (ho : openR s ≠ 0) :
    sumF (endI (giveR true (leftR room s) s) s) s.length = room + sumR (giveR true (leftR room s) s) s s.length := by
  obtain ⟨h0, hf⟩ := h.left hr
  have F := round_facts (grow := true) h.good hf
  rw [ends_sum F, F.sum]
  obtain ⟨i, hi, hs⟩ := open_some ho
  rw [if_neg (fun hw => by
    have h1 := wsum_zero h.good hw hi
    have h2 := (h.op i hi hs).2
    unfold stB at hs
    unfold wtOf at h1
    rw [hs] at h1
    simp at h1
    omega)]
  have : cutR true (leftR room s) = leftR room s := by unfold cutR; simp; omega
  rw [this, leftR_sumF]
  omega
theorem got_open (zs : List Int) (s : List Bo) (i : Nat) : gotR zs s i = (boAt s i).1.base + zs.getD i 0 := rfl
theorem goal_eq (zs : List Int) (s : List Bo) (i : Nat) : goalR zs s i = max (boAt s i).1.least (min (boAt s i).1.most (gotR zs s i)) := rfl
theorem first_eq (x : It) : firstR x = max x.least (min x.most x.base) := rfl
theorem GrowI.next {room : Int} {s : List Bo} (h : GrowI room s) (hr : room ≤ 1099511627776) (ho : openR s ≠ 0) : GrowI room (nextR (giveR true (leftR room s) s) s) := by
  have F := round_facts (grow := true) h.good (h.left hr).2
  have hes := h.end_sum hr ho
  generalize giveR true (leftR room s) s = zs at *
  have hit : ∀ i, i < s.length → (boAt (nextR zs s) i).1 = (boAt s i).1 := fun i hi => by rw [nextR_bo hi, nextAt_it]
  have hz := F.pos rfl
  refine ⟨h.good.next, fun i hi => ?_, fun i hi => ?_, fun i hi hs => ?_, ?_⟩
  · rw [nextR_len] at hi
    have := h.l0 i hi
    have := h.n0 i hi
    unfold szI at *
    rcases next_cases (zs := zs) hi with ⟨_, e⟩ | ⟨_, _, e⟩ | ⟨_, _, e⟩
    · rwa [e]
    · rw [e]
      show 0 ≤ goalR zs s i
      rw [goal_eq]
      omega
    · rwa [e]
  · rw [nextR_len] at hi
    rw [hit i hi]
    exact h.l0 i hi
  · rw [nextR_len] at hi
    rw [hit i hi]
    refine h.op i hi ?_
    rcases next_cases (zs := zs) hi with ⟨h1, e⟩ | ⟨h1, _, e⟩ | ⟨h1, _, e⟩
    · unfold stB at hs h1; rw [e, h1] at hs; cases hs
    · exact h1
    · exact h1
  · rw [nextR_len]
    rcases Int.lt_or_le 0 (sumR zs s s.length) with hc | hc
    · refine Int.le_trans (sumF_le fun i hi => ?_) h.q
      unfold qI
      rcases next_cases (zs := zs) hi with ⟨h1, e⟩ | ⟨h1, h2, e⟩ | ⟨h1, _, e⟩
      · have e2 : stB (nextR zs s) i = stB s i := by unfold stB; rw [e]
        have e3 : szI (nextR zs s) i = szI s i := by unfold szI; rw [e]
        rw [e2, e3, hit i hi]
        exact Int.le_refl _
      · have e2 : stB (nextR zs s) i = true := by unfold stB; rw [e]; rfl
        have e3 : szI (nextR zs s) i = goalR zs s i := by unfold szI; rw [e]; rfl
        rw [e2, e3, h1, if_pos rfl, if_neg (by simp), first_eq, goal_eq]
        have := settles_pos h2 hc
        rw [chg_open h1, goal_eq] at this
        omega
      · have e2 : stB (nextR zs s) i = stB s i := by unfold stB; rw [e]
        have e3 : szI (nextR zs s) i = szI s i := by unfold szI; rw [e]
        rw [e2, e3, hit i hi]
        exact Int.le_refl _
    · have : sumF (qI (nextR zs s)) s.length ≤ sumF (endI zs s) s.length := sumF_le fun i hi => by
        unfold qI endI goO
        rcases next_cases (zs := zs) hi with ⟨h1, e⟩ | ⟨h1, h2, e⟩ | ⟨h1, _, e⟩
        · have e2 : stB (nextR zs s) i = true := by unfold stB at h1 ⊢; rw [e]; exact h1
          have e3 : szI (nextR zs s) i = szI s i := by unfold szI; rw [e]
          rw [e2, e3, h1, if_pos rfl, if_pos rfl]
          exact Int.le_refl _
        · have e2 : stB (nextR zs s) i = true := by unfold stB; rw [e]; rfl
          have e3 : szI (nextR zs s) i = goalR zs s i := by unfold szI; rw [e]; rfl
          rw [e2, e3, h1, if_pos rfl, if_neg (by simp)]
          exact Int.le_refl _
        · have e2 : stB (nextR zs s) i = false := by unfold stB at h1 ⊢; rw [e]; exact h1
          rw [e2, h1, if_neg (by simp), if_neg (by simp), hit i hi, first_eq, goal_eq, got_open]
          have := hz i
          omega
      omega
theorem grow_rounds {room : Int} (hr : room ≤ 1099511627776) : ∀ (f : Nat) (s : List Bo), openR s < f → GrowI room s → ∃ out, roundsR f true room s = some out ∧ GrowR room s out
  | 0, _, h, _ => absurd h (by omega)
  | f + 1, s, hf, hI => by
    by_cases ho : openR s = 0
    · refine ⟨s.map szOf, by rw [roundsR, if_pos ho], by simp, fun i hi _ => szs_at hi, fun i hi hs => ?_, ?_, fun _ i hi hs => ?_⟩
      · rw [settled_some ho i hi] at hs; cases hs
      · refine Int.le_trans (sumF_le fun i hi => ?_) hI.q
        show (s.map szOf).getD i 0 ≤ _
        rw [szs_at hi]
        unfold qI
        rw [settled_some ho i hi, if_pos rfl]
        exact Int.le_refl _
      · rw [settled_some ho i hi] at hs; cases hs
    · obtain ⟨h0, hfit⟩ := hI.left hr
      have hN := hI.next hr ho
      have hes := hI.end_sum hr ho
      have F := round_facts (grow := true) hI.good hfit
      have hlt := openR_next (zs := giveR true (leftR room s) s) (by omega : 0 < openR s)
      obtain ⟨out, hout, R⟩ := grow_rounds hr f _ (by omega) hN
      refine ⟨out, by rw [roundsR, if_neg ho, if_pos hfit]; exact hout, ?_⟩
      generalize giveR true (leftR room s) s = zs at *
      have hz := F.pos rfl
      have hit : ∀ i, i < s.length → (boAt (nextR zs s) i).1 = (boAt s i).1 := fun i hi => by rw [nextR_bo hi, nextAt_it]
      obtain ⟨r1, r2, r3, r4, r5⟩ := R
      rw [nextR_len] at r1 r2 r3 r4 r5
      have new : ∀ i, i < s.length → stB s i = false → settles (sumR zs s s.length) (chgR zs s i) = true → out.getD i 0 = goalR zs s i := fun i hi h1 h2 => by
        rcases next_cases (zs := zs) hi with ⟨h3, _⟩ | ⟨_, _, e⟩ | ⟨_, h3, _⟩
        · rw [h1] at h3; cases h3
        · rw [r2 i hi (by unfold stB; rw [e]; rfl)]
          unfold szI
          rw [e]
          rfl
        · rw [h2] at h3; cases h3
      have old : ∀ i, i < s.length → stB s i = true → out.getD i 0 = szI s i := fun i hi h1 => by
        rcases next_cases (zs := zs) hi with ⟨_, e⟩ | ⟨h3, _⟩ | ⟨h3, _⟩
        · rw [r2 i hi (by unfold stB at h1 ⊢; rw [e]; exact h1)]
          unfold szI
          rw [e]
        · rw [h1] at h3; cases h3
        · rw [h1] at h3; cases h3
      have opn : ∀ i, i < s.length → stB s i = false → settles (sumR zs s s.length) (chgR zs s i) = false → stB (nextR zs s) i = false := fun i hi h1 h2 => by
        rcases next_cases (zs := zs) hi with ⟨h3, _⟩ | ⟨_, h3, _⟩ | ⟨_, _, e⟩
        · rw [h1] at h3; cases h3
        · rw [h2] at h3; cases h3
        · unfold stB at h1 ⊢; rw [e]; exact h1
      refine ⟨r1, old, fun i hi hs => ?_, r4, fun hlt i hi hs => ?_⟩
      · cases h2 : settles (sumR zs s s.length) (chgR zs s i) with
        | true =>
          rw [new i hi hs h2]
          refine ⟨?_, gotR zs s i, rfl⟩
          rw [first_eq, goal_eq, got_open]
          have := hz i
          omega
        | false =>
          have := r3 i hi (opn i hi hs h2)
          rwa [hit i hi] at this
      · have hT := r5 hlt
        rcases Int.lt_trichotomy (sumR zs s s.length) 0 with hc | hc | hc
        · cases h2 : settles (sumR zs s s.length) (chgR zs s i) with
          | true =>
            rw [new i hi hs h2]
            have := settles_neg h2 hc
            rw [chg_open hs, goal_eq] at this
            rw [goal_eq]
            unfold topOf
            omega
          | false =>
            have := hT i hi (opn i hi hs h2)
            rwa [hit i hi] at this
        · exfalso
          have : sumF (fun i => out.getD i 0) s.length = sumF (endI zs s) s.length := sumF_congr fun i hi => by
            unfold endI goO
            cases h1 : stB s i with
            | true => rw [if_pos rfl]; exact old i hi h1
            | false => rw [if_neg (by simp)]; exact new i hi h1 (settles_zero hc)
          omega
        · exfalso
          have : sumF (endI zs s) s.length ≤ sumF (fun i => out.getD i 0) s.length := sumF_le fun i hi => by
            unfold endI goO
            cases h1 : stB s i with
            | true => rw [if_pos rfl]; exact Int.le_of_eq (old i hi h1).symm
            | false =>
              rw [if_neg (by simp)]
              cases h2 : settles (sumR zs s s.length) (chgR zs s i) with
              | true => exact Int.le_of_eq (new i hi h1 h2).symm
              | false =>
                show _ ≤ out.getD i 0
                rw [hT i hi (opn i hi h1 h2), hit i hi, goal_eq]
                unfold topOf
                omega
          omega

/-! Shrinking. -/
structure ShrinkI (room M : Int) (s : List Bo) : Prop where
  good : GoodS s
  n0 : ∀ i, i < s.length → 0 ≤ szI s i ∧ szI s i ≤ M
  l0 : ∀ i, i < s.length → 0 ≤ (boAt s i).1.least
  op : ∀ i, i < s.length → stB s i = false → firstR (boAt s i).1 ≤ (boAt s i).1.base ∧ 0 < (boAt s i).1.shrink
  q : room ≤ sumF (qI s) s.length
structure ShrinkR (room : Int) (s : List Bo) (out : List Int) : Prop where
  len : out.length = s.length
  st : ∀ i, i < s.length → stB s i = true → out.getD i 0 = szI s i
  op : ∀ i, i < s.length → stB s i = false → out.getD i 0 ≤ firstR (boAt s i).1 ∧ ∃ g, out.getD i 0 = clampR g (boAt s i).1.least (boAt s i).1.most
  ge : room ≤ sumF (fun i => out.getD i 0) s.length
  low : room < sumF (fun i => out.getD i 0) s.length → ∀ i, i < s.length → stB s i = false → 0 < (boAt s i).1.base → out.getD i 0 = (boAt s i).1.least
theorem ShrinkI.left {room M : Int} {s : List Bo} (h : ShrinkI room M s) (hr : M * (s.length : Int) - room ≤ 1099511627776) : leftR room s ≤ 0 ∧ fit (leftR room s) = true := by
  have h1 : sumF (qI s) s.length ≤ sumF (szI s) s.length := sumF_le fun i hi => by
    unfold qI
    cases hs : stB s i with
    | true => rw [if_pos rfl]; exact Int.le_refl _
    | false => rw [if_neg (by simp), szI_open hs]; exact (h.op i hi hs).1
  have h2 := sumF_hi (n := s.length) fun i hi => (h.n0 i hi).2
  have h3 := h.q
  rw [fit_iff, leftR_sumF]
  omega
theorem ShrinkI.weightless {room M : Int} {s : List Bo} (h : ShrinkI room M s) (hw : wSum (s.map (wtOf false)) = 0) {i : Nat} (hi : i < s.length) (hs : stB s i = false) : (boAt s i).1.base = 0 := by
  have h1 := wsum_zero h.good hw hi
  have h2 := (h.op i hi hs).2
  unfold stB at hs
  have h3 : wtOf false (boAt s i) = (boAt s i).1.shrink * (boAt s i).1.base := by
    unfold wtOf
    rw [hs]
    rfl
  rw [h3] at h1
  rcases Int.mul_eq_zero.1 h1 with h4 | h4
  · omega
  · exact h4
theorem ShrinkI.end_sum {room M : Int} {s : List Bo} (h : ShrinkI room M s) (hr : M * (s.length : Int) - room ≤ 1099511627776) (hw : wSum (s.map (wtOf false)) ≠ 0) :
    sumF (endI (giveR false (leftR room s) s) s) s.length = room + sumR (giveR false (leftR room s) s) s s.length := by
  obtain ⟨h0, hf⟩ := h.left hr
  have F := round_facts (grow := false) h.good hf
  rw [ends_sum F, F.sum, if_neg hw]
  have : cutR false (leftR room s) = leftR room s := by unfold cutR; simp; omega
  rw [this, leftR_sumF]
  omega
/-- Without weights nothing changes. -/
theorem ShrinkI.still {room M : Int} {s : List Bo} (h : ShrinkI room M s) {zs : List Int} (hz : ∀ i, zs.getD i 0 = 0) (hw : wSum (s.map (wtOf false)) = 0) {i : Nat} (hi : i < s.length) (hs : stB s i = false) :
    goalR zs s i = firstR (boAt s i).1 ∧ chgR zs s i = 0 := by
  have hb := h.weightless hw hi hs
  have h1 := (h.op i hi hs).1
  have h2 := h.l0 i hi
  have hg : gotR zs s i = (boAt s i).1.base := by rw [got_open, hz]; omega
  have e : goalR zs s i = firstR (boAt s i).1 := by rw [goal_eq, hg, first_eq]
  refine ⟨e, ?_⟩
  rw [chg_open hs, e, hg, hb]
  have h3 : (boAt s i).1.least ≤ firstR (boAt s i).1 := by rw [first_eq]; omega
  omega
theorem ShrinkI.noSum {room M : Int} {s : List Bo} (h : ShrinkI room M s) {zs : List Int} (hz : ∀ i, zs.getD i 0 = 0) (hw : wSum (s.map (wtOf false)) = 0) : sumR zs s s.length = 0 := by
  rw [sumR_sumF, sumF_congr (g := fun _ => 0) fun i hi => ?_]
  · have : ∀ n, sumF (fun _ => (0 : Int)) n = 0 := by
      intro n
      induction n with
      | zero => rfl
      | succ n ih => rw [sumF, ih]; rfl
    exact this _
  · cases hs : stB s i with
    | true =>
      unfold stB at hs
      unfold chgR
      rw [if_pos hs]
    | false => exact (h.still hz hw hi hs).2
theorem ShrinkI.next {room M : Int} {s : List Bo} (h : ShrinkI room M s) (hr : M * (s.length : Int) - room ≤ 1099511627776) : ShrinkI room M (nextR (giveR false (leftR room s) s) s) := by
  have F := round_facts (grow := false) h.good (h.left hr).2
  have hes := h.end_sum hr
  generalize giveR false (leftR room s) s = zs at *
  have hit : ∀ i, i < s.length → (boAt (nextR zs s) i).1 = (boAt s i).1 := fun i hi => by rw [nextR_bo hi, nextAt_it]
  have hz := F.neg rfl
  have gfirst : ∀ i, goalR zs s i ≤ firstR (boAt s i).1 := fun i => by
    rw [first_eq, goal_eq, got_open]
    have := hz i
    omega
  refine ⟨h.good.next, fun i hi => ?_, fun i hi => ?_, fun i hi hs => ?_, ?_⟩
  · rw [nextR_len] at hi
    have hl := h.l0 i hi
    have hn := h.n0 i hi
    rcases next_cases (zs := zs) hi with ⟨_, e⟩ | ⟨h1, _, e⟩ | ⟨_, _, e⟩
    · unfold szI at hn ⊢; rwa [e]
    · have e3 : szI (nextR zs s) i = goalR zs s i := by unfold szI; rw [e]; rfl
      rw [e3]
      have h2 := gfirst i
      have h3 := (h.op i hi h1).1
      rw [szI_open h1] at hn
      rw [goal_eq] at h2 ⊢
      omega
    · unfold szI at hn ⊢; rwa [e]
  · rw [nextR_len] at hi
    rw [hit i hi]
    exact h.l0 i hi
  · rw [nextR_len] at hi
    rw [hit i hi]
    refine h.op i hi ?_
    rcases next_cases (zs := zs) hi with ⟨h1, e⟩ | ⟨h1, _, e⟩ | ⟨h1, _, e⟩
    · unfold stB at hs h1; rw [e, h1] at hs; cases hs
    · exact h1
    · exact h1
  · rw [nextR_len]
    by_cases hside : sumR zs s s.length < 0 ∨ wSum (s.map (wtOf false)) = 0
    · refine Int.le_trans h.q (sumF_le fun i hi => ?_)
      unfold qI
      rcases next_cases (zs := zs) hi with ⟨h1, e⟩ | ⟨h1, h2, e⟩ | ⟨h1, _, e⟩
      · have e2 : stB (nextR zs s) i = stB s i := by unfold stB; rw [e]
        have e3 : szI (nextR zs s) i = szI s i := by unfold szI; rw [e]
        rw [e2, e3, hit i hi]
        exact Int.le_refl _
      · have e2 : stB (nextR zs s) i = true := by unfold stB; rw [e]; rfl
        have e3 : szI (nextR zs s) i = goalR zs s i := by unfold szI; rw [e]; rfl
        rw [e2, e3, h1, if_pos rfl, if_neg (by simp)]
        rcases hside with hc | hw
        · have := settles_neg h2 hc
          rw [chg_open h1, goal_eq] at this
          rw [first_eq, goal_eq]
          omega
        · exact Int.le_of_eq (h.still (F.zw hw) hw hi h1).1.symm
      · have e2 : stB (nextR zs s) i = stB s i := by unfold stB; rw [e]
        have e3 : szI (nextR zs s) i = szI s i := by unfold szI; rw [e]
        rw [e2, e3, hit i hi]
        exact Int.le_refl _
    · have hes2 := hes (fun hw => hside (Or.inr hw))
      have : sumF (endI zs s) s.length ≤ sumF (qI (nextR zs s)) s.length := sumF_le fun i hi => by
        unfold qI endI goO
        rcases next_cases (zs := zs) hi with ⟨h1, e⟩ | ⟨h1, h2, e⟩ | ⟨h1, _, e⟩
        · have e2 : stB (nextR zs s) i = true := by unfold stB at h1 ⊢; rw [e]; exact h1
          have e3 : szI (nextR zs s) i = szI s i := by unfold szI; rw [e]
          rw [e2, e3, h1, if_pos rfl, if_pos rfl]
          exact Int.le_refl _
        · have e2 : stB (nextR zs s) i = true := by unfold stB; rw [e]; rfl
          have e3 : szI (nextR zs s) i = goalR zs s i := by unfold szI; rw [e]; rfl
          rw [e2, e3, h1, if_pos rfl, if_neg (by simp)]
          exact Int.le_refl _
        · have e2 : stB (nextR zs s) i = false := by unfold stB at h1 ⊢; rw [e]; exact h1
          rw [e2, h1, if_neg (by simp), if_neg (by simp), hit i hi]
          exact gfirst i
      omega
theorem shrink_rounds {room M : Int} {n : Nat} (hr : M * (n : Int) - room ≤ 1099511627776) : ∀ (f : Nat) (s : List Bo), s.length = n → openR s < f → ShrinkI room M s → ∃ out, roundsR f false room s = some out ∧ ShrinkR room s out
  | 0, _, _, h, _ => absurd h (by omega)
  | f + 1, s, hn, hf, hI => by
    subst hn
    by_cases ho : openR s = 0
    · refine ⟨s.map szOf, by rw [roundsR, if_pos ho], by simp, fun i hi _ => szs_at hi, fun i hi hs => ?_, ?_, fun _ i hi hs => ?_⟩
      · rw [settled_some ho i hi] at hs; cases hs
      · refine Int.le_trans hI.q (sumF_le fun i hi => ?_)
        show _ ≤ (s.map szOf).getD i 0
        rw [szs_at hi]
        unfold qI
        rw [settled_some ho i hi, if_pos rfl]
        exact Int.le_refl _
      · rw [settled_some ho i hi] at hs; cases hs
    · obtain ⟨h0, hfit⟩ := hI.left hr
      have hN := hI.next hr
      have hes := hI.end_sum hr
      have F := round_facts (grow := false) hI.good hfit
      have hlt := openR_next (zs := giveR false (leftR room s) s) (by omega : 0 < openR s)
      obtain ⟨out, hout, R⟩ := shrink_rounds hr f _ (nextR_len _ _) (by omega) hN
      refine ⟨out, by rw [roundsR, if_neg ho, if_pos hfit]; exact hout, ?_⟩
      generalize giveR false (leftR room s) s = zs at *
      have hz := F.neg rfl
      have hit : ∀ i, i < s.length → (boAt (nextR zs s) i).1 = (boAt s i).1 := fun i hi => by rw [nextR_bo hi, nextAt_it]
      obtain ⟨r1, r2, r3, r4, r5⟩ := R
      rw [nextR_len] at r1 r2 r3 r4 r5
      have new : ∀ i, i < s.length → stB s i = false → settles (sumR zs s s.length) (chgR zs s i) = true → out.getD i 0 = goalR zs s i := fun i hi h1 h2 => by
        rcases next_cases (zs := zs) hi with ⟨h3, _⟩ | ⟨_, _, e⟩ | ⟨_, h3, _⟩
        · rw [h1] at h3; cases h3
        · rw [r2 i hi (by unfold stB; rw [e]; rfl)]
          unfold szI
          rw [e]
          rfl
        · rw [h2] at h3; cases h3
      have old : ∀ i, i < s.length → stB s i = true → out.getD i 0 = szI s i := fun i hi h1 => by
        rcases next_cases (zs := zs) hi with ⟨_, e⟩ | ⟨h3, _⟩ | ⟨h3, _⟩
        · rw [r2 i hi (by unfold stB at h1 ⊢; rw [e]; exact h1)]
          unfold szI
          rw [e]
        · rw [h1] at h3; cases h3
        · rw [h1] at h3; cases h3
      have opn : ∀ i, i < s.length → stB s i = false → settles (sumR zs s s.length) (chgR zs s i) = false → stB (nextR zs s) i = false := fun i hi h1 h2 => by
        rcases next_cases (zs := zs) hi with ⟨h3, _⟩ | ⟨_, h3, _⟩ | ⟨_, _, e⟩
        · rw [h1] at h3; cases h3
        · rw [h2] at h3; cases h3
        · unfold stB at h1 ⊢; rw [e]; exact h1
      refine ⟨r1, old, fun i hi hs => ?_, r4, fun hlt i hi hs hb => ?_⟩
      · cases h2 : settles (sumR zs s s.length) (chgR zs s i) with
        | true =>
          rw [new i hi hs h2]
          refine ⟨?_, gotR zs s i, rfl⟩
          rw [first_eq, goal_eq, got_open]
          have := hz i
          omega
        | false =>
          have := r3 i hi (opn i hi hs h2)
          rwa [hit i hi] at this
      · have hT := r5 hlt
        have hw : wSum (s.map (wtOf false)) ≠ 0 := fun hw => by
          have := hI.weightless hw hi hs
          omega
        have hes2 := hes hw
        rcases Int.lt_trichotomy (sumR zs s s.length) 0 with hc | hc | hc
        · exfalso
          have : sumF (fun i => out.getD i 0) s.length ≤ sumF (endI zs s) s.length := sumF_le fun i hi => by
            unfold endI goO
            cases h1 : stB s i with
            | true => rw [if_pos rfl]; exact Int.le_of_eq (old i hi h1)
            | false =>
              rw [if_neg (by simp)]
              cases h2 : settles (sumR zs s s.length) (chgR zs s i) with
              | true => exact Int.le_of_eq (new i hi h1 h2)
              | false =>
                show out.getD i 0 ≤ _
                have hl := hI.l0 i hi
                by_cases hb2 : 0 < (boAt s i).1.base
                · rw [hT i hi (opn i hi h1 h2) (by rw [hit i hi]; exact hb2), hit i hi, goal_eq]
                  omega
                · have h3 := (r3 i hi (opn i hi h1 h2)).1
                  rw [hit i hi] at h3
                  have h4 := (hI.op i hi h1).1
                  rw [goal_eq]
                  omega
          omega
        · exfalso
          have : sumF (fun i => out.getD i 0) s.length = sumF (endI zs s) s.length := sumF_congr fun i hi => by
            unfold endI goO
            cases h1 : stB s i with
            | true => rw [if_pos rfl]; exact old i hi h1
            | false => rw [if_neg (by simp)]; exact new i hi h1 (settles_zero hc)
          omega
        · cases h2 : settles (sumR zs s s.length) (chgR zs s i) with
          | true =>
            rw [new i hi hs h2]
            have := settles_pos h2 hc
            rw [chg_open hs, goal_eq] at this
            rw [goal_eq]
            omega
          | false =>
            have := hT i hi (opn i hi hs h2) (by rw [hit i hi]; exact hb)
            rwa [hit i hi] at this

end Go.Proofs.Ytbhdolghokhfnaa
