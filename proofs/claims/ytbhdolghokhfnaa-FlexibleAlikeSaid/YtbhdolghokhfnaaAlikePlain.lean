/-
  Plain: what flexible.Sizes tells of boxes with another Outer; of boxes that are alike.
-/
import Derived.Test.YtbhdolghokhfnaaSizesNear
namespace Go.Proofs.Ytbhdolghokhfnaa

/-! Outer. -/
def noO (x : It) : It := ⟨x.base, x.least, x.most, x.grow, x.shrink, 0⟩
def noB (x : Bo) : Bo := (noO x.1, x.2)
def strip (s : List Bo) : List Bo := s.map noB
theorem strip_len (s : List Bo) : (strip s).length = s.length := by simp [strip]
theorem strip_at (s : List Bo) (i : Nat) : boAt (strip s) i = noB (boAt s i) := by
  by_cases h : i < s.length
  · rw [boAt_at h, boAt_at (by rw [strip_len]; exact h)]
    simp [strip]
  · unfold boAt strip
    have h1 : s.length ≤ i := by omega
    simp [h1]
    rfl
theorem strip_sz (s : List Bo) : (strip s).map szOf = s.map szOf := by
  unfold strip
  rw [List.map_map]
  rfl
theorem strip_wt (grow : Bool) (s : List Bo) : (strip s).map (wtOf grow) = s.map (wtOf grow) := by
  unfold strip
  rw [List.map_map]
  rfl
theorem strip_left (room : Int) (s : List Bo) : leftR room (strip s) = leftR room s := by unfold leftR; rw [strip_sz]
theorem strip_give (grow : Bool) (L : Int) (s : List Bo) : giveR grow L (strip s) = giveR grow L s := by unfold giveR; rw [strip_wt]
theorem strip_got (zs : List Int) (s : List Bo) (i : Nat) : gotR zs (strip s) i = gotR zs s i := by unfold gotR; rw [strip_at]; rfl
theorem strip_goal (zs : List Int) (s : List Bo) (i : Nat) : goalR zs (strip s) i = goalR zs s i := by unfold goalR; rw [strip_got, strip_at]; rfl
theorem strip_chg (zs : List Int) (s : List Bo) (i : Nat) : chgR zs (strip s) i = chgR zs s i := by unfold chgR; rw [strip_goal, strip_got, strip_at]; rfl
theorem strip_sum (zs : List Int) (s : List Bo) : ∀ k, sumR zs (strip s) k = sumR zs s k
  | 0 => rfl
  | k + 1 => by rw [sumR, sumR, strip_sum zs s k, strip_chg]
theorem strip_nextAt (zs : List Int) (s : List Bo) (c : Int) (i : Nat) : nextAt zs (strip s) c i = noB (nextAt zs s c i) := by
  unfold nextAt
  rw [strip_chg, strip_goal, strip_at]
  show (if (boAt s i).2.isSome = true then _ else _) = _
  split
  · rfl
  · split <;> rfl
theorem strip_next (zs : List Int) (s : List Bo) : nextR zs (strip s) = strip (nextR zs s) := by
  unfold nextR
  rw [strip_len, strip_sum]
  unfold strip
  rw [List.map_map]
  exact List.map_congr_left fun i _ => strip_nextAt zs s _ i
theorem strip_open (s : List Bo) : openR (strip s) = openR s := by
  unfold openR strip
  rw [List.countP_map]
  rfl
theorem strip_rounds : ∀ (f : Nat) (grow : Bool) (R : Int) (s : List Bo), roundsR f grow R (strip s) = roundsR f grow R s
  | 0, _, _, _ => rfl
  | f + 1, grow, R, s => by
    rw [roundsR, roundsR, strip_open, strip_sz, strip_left, strip_give, strip_next, strip_rounds f]
def widen (l : List It) (j : Nat) (more : Int) : List It := l.set j ⟨(itAt l j).base, (itAt l j).least, (itAt l j).most, (itAt l j).grow, (itAt l j).shrink, (itAt l j).outer + more⟩
theorem widen_len (l : List It) (j : Nat) (more : Int) : (widen l j more).length = l.length := by simp [widen]
theorem widen_at {l : List It} {j i : Nat} {more : Int} (hi : i < l.length) : itAt (widen l j more) i = ⟨(itAt l i).base, (itAt l i).least, (itAt l i).most, (itAt l i).grow, (itAt l i).shrink, (itAt l i).outer + if j = i then more else 0⟩ := by
  rw [itAt_at (by rw [widen_len]; exact hi)]
  unfold widen
  rw [List.getElem_set]
  by_cases e : j = i
  · subst e
    rw [if_pos rfl, if_pos rfl]
  · rw [if_neg e, if_neg e, Int.add_zero, itAt_at hi]
theorem widen_strip (grow : Bool) (l : List It) (j : Nat) (more : Int) : strip (startS grow (widen l j more)) = strip (startS grow l) := by
  refine List.ext_getElem (by rw [strip_len, strip_len, startS_len, startS_len, widen_len]) fun i h1 h2 => ?_
  have hi : i < l.length := by rw [strip_len, startS_len] at h2; exact h2
  rw [← boAt_at h1, ← boAt_at h2, strip_at, strip_at, startS_bo (by rw [widen_len]; exact hi), startS_bo hi, widen_at hi]
  rfl
theorem sum_bump {f g : Nat → Int} {j : Nat} {m : Int} : ∀ {n : Nat}, (∀ i, i < n → g i = f i + if j = i then m else 0) → sumF g n = sumF f n + if j < n then m else 0
  | 0, _ => by simp [sumF]
  | n + 1, h => by
    rw [sumF, sumF, sum_bump (n := n) fun i hi => h i (by omega), h n (by omega)]
    rcases Nat.lt_trichotomy j n with h1 | h1 | h1
    · rw [if_pos h1, if_neg (by omega), if_pos (by omega)]; omega
    · subst h1
      rw [if_neg (by omega), if_pos rfl, if_pos (by omega)]; omega
    · rw [if_neg (by omega), if_neg (by omega), if_neg (by omega)]; omega
theorem widen_around {l : List It} {j : Nat} (hj : j < l.length) (gap more : Int) : aroundR (widen l j more) gap = aroundR l gap + more := by
  have e : ∀ l : List It, (l.map It.outer).sum = sumF (fun i => (itAt l i).outer) l.length := fun l => (sum_to It.outer l (sumF fun i => (itAt l i).outer) rfl fun _ => rfl).symm
  unfold aroundR
  rw [e, e, widen_len, sum_bump (f := fun i => (itAt l i).outer) (j := j) (m := more) fun i hi => by rw [widen_at hi], if_pos hj]
  omega
theorem widen_all {l : List It} {j : Nat} (hj : j < l.length) (gap more : Int) : allR (widen l j more) gap = allR l gap + more := by
  unfold allR
  rw [widen_around hj, firsts_sum, firsts_sum, widen_len, sumF_congr (g := fstI l) fun i hi => by unfold fstI; rw [widen_at hi]; rfl]
  omega
theorem widen_sizes {l : List It} {j : Nat} (hj : j < l.length) {room more : Int} (h0 : 0 ≤ room) (hm : 0 ≤ more) (h1 : checkR l 0 room = 0) (h2 : checkR (widen l j more) 0 (room + more) = 0) :
    sizesR (widen l j more) 0 (room + more) = sizesR l 0 room := by
  have hg : growR (widen l j more) 0 (room + more) = growR l 0 room := by
    unfold growR
    rw [widen_all hj]
    exact decide_eq_decide.2 (by omega)
  unfold sizesR
  rw [h1, h2, if_neg (by omega), if_neg (by omega), if_neg (by omega), if_neg (by omega), hg, widen_around hj, widen_len, show room + more - (aroundR l 0 + more) = room - aroundR l 0 by omega]
  show lastR (roundsR _ _ _ (startS _ (widen l j more))) = lastR (roundsR _ _ _ (startS _ l))
  rw [← strip_rounds, widen_strip, strip_rounds]

/-! Alike. -/
/-- A round in which nothing is clamped is the last one. -/
theorem one_round {f : Nat} {grow : Bool} {R : Int} {s : List Bo} (ho : openR s ≠ 0) (hfit : fit (leftR R s) = true) (h : ∀ i, i < s.length → stB s i = false → chgR (giveR grow (leftR R s) s) s i = 0) :
    ∃ out, roundsR (f + 2) grow R s = some out ∧ out.length = s.length ∧ ∀ i, i < s.length → stB s i = false → outI out i = gotR (giveR grow (leftR R s) s) s i := by
  generalize hz : giveR grow (leftR R s) s = zs at h
  have hsum : sumR zs s s.length = 0 := by
    rw [sumR_sumF]
    have : ∀ n, n ≤ s.length → sumF (chgR zs s) n = 0 := by
      intro n
      induction n with
      | zero => intro _; rfl
      | succ n ih =>
        intro hn
        rw [sumF, ih (by omega)]
        cases hs : stB s n with
        | true => unfold stB at hs; unfold chgR; rw [if_pos hs]; rfl
        | false => rw [h n (by omega) hs]; rfl
    exact this _ (Nat.le_refl _)
  have hopen : openR (nextR zs s) = 0 := by
    rw [openR_range, List.countP_eq_zero]
    intro i hi
    rw [nextR_len] at hi
    have hi' : i < s.length := by simpa using hi
    have := stB_next (zs := zs) hi'
    rw [hsum, settles_zero rfl, Bool.true_or] at this
    unfold stB at this
    simp [this]
  refine ⟨(nextR zs s).map szOf, ?_, by rw [List.length_map, nextR_len], fun i hi hs => ?_⟩
  · rw [roundsR, if_neg ho, if_pos hfit, hz, roundsR, if_pos hopen]
  · have hi2 : i < (nextR zs s).length := by rw [nextR_len]; exact hi
    unfold outI
    rw [szs_at hi2]
    unfold szI
    rcases next_cases (zs := zs) hi with ⟨h1, _⟩ | ⟨_, _, e⟩ | ⟨_, h1, _⟩
    · rw [hs] at h1; cases h1
    · rw [e]
      have := h i hi hs
      rw [chg_open hs] at this
      show goalR zs s i = _
      omega
    · rw [hsum, settles_zero rfl] at h1; cases h1

end Go.Proofs.Ytbhdolghokhfnaa
