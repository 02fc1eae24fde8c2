/-
  Plain: what a round of sizes keeps within bounds; the open boxes.
-/
import Derived.Test.YtbhdolghokhfnaaFlexiblePlain
import Derived.Test.YtbhdolghokhfnaaSharesSub
namespace Go.Proofs.Ytbhdolghokhfnaa

theorem clampR_bd {n l m : Int} (hl : fit l = true) (hm : fit m = true) : fit (clampR n l m) = true := by
  rw [fit_iff] at *
  unfold clampR
  omega
/-- Boxes as they may be. -/
structure GoodB (x : Bo) : Prop where
  b0 : 0 ≤ x.1.base
  fb : fit x.1.base = true
  fl : fit x.1.least = true
  fm : fit x.1.most = true
  g0 : 0 ≤ x.1.grow
  g1 : x.1.grow ≤ 1000
  s0 : 0 ≤ x.1.shrink
  s1 : x.1.shrink ≤ 1000
  fz : fit (szOf x) = true
theorem GoodB.wt {x : Bo} (h : GoodB x) (grow : Bool) : isWeight (wtOf grow x) = true := by
  obtain ⟨b0, fb, _, _, g0, g1, s0, s1, _⟩ := h
  rw [fit_iff] at fb
  rw [isWeight_iff]
  unfold wtOf
  split
  · omega
  · split
    · omega
    · have h1 := Int.mul_nonneg s0 b0
      have h2 := Int.mul_le_mul s1 fb.2 b0 (by omega : (0 : Int) ≤ 1000)
      omega
def GoodS (s : List Bo) : Prop := ∀ i, i < s.length → GoodB (boAt s i)
theorem GoodS.wts {s : List Bo} (h : GoodS s) (grow : Bool) : (s.map (wtOf grow)).all isWeight = true := by
  rw [List.all_eq_true]
  intro x hx
  obtain ⟨i, hi, rfl⟩ := List.getElem_of_mem hx
  have hi' : i < s.length := by simpa using hi
  rw [List.getElem_map]
  have := (h i hi').wt grow
  rwa [boAt_at hi'] at this
theorem GoodS.next {zs : List Int} {s : List Bo} (h : GoodS s) : GoodS (nextR zs s) := fun i hi => by
  rw [nextR_len] at hi
  rw [nextR_bo hi]
  obtain ⟨b0, fb, fl, fm, g0, g1, s0, s1, fz⟩ := h i hi
  unfold nextAt
  split
  · exact ⟨b0, fb, fl, fm, g0, g1, s0, s1, fz⟩
  · split
    · exact ⟨b0, fb, fl, fm, g0, g1, s0, s1, clampR_bd fl fm⟩
    · exact ⟨b0, fb, fl, fm, g0, g1, s0, s1, fz⟩
theorem nextR_good_len {zs : List Int} {s : List Bo} {n : Nat} (h : s.length = n) : (nextR zs s).length = n := by rw [nextR_len, h]

/-- The sum of the first k sizes. -/
def szTo (s : List Bo) : Nat → Int
  | 0 => 0
  | k + 1 => szTo s k + szOf (boAt s k)
theorem szTo_all (s : List Bo) : szTo s s.length = (s.map szOf).sum := by
  have h : ∀ k, k ≤ s.length → szTo s k = ((s.take k).map szOf).sum := by
    intro k
    induction k with
    | zero => simp [szTo]
    | succ k ih =>
      intro hk
      rw [szTo, ih (by omega), List.take_succ_eq_append_getElem (by omega), List.map_append, List.sum_append, boAt_at (by omega)]
      simp
  rw [h _ (Nat.le_refl _), List.take_of_length_le (Nat.le_refl _)]
theorem szTo_bd {s : List Bo} (h : GoodS s) : ∀ k, k ≤ s.length → -(1099511627776 * (k : Int)) ≤ szTo s k ∧ szTo s k ≤ 1099511627776 * (k : Int)
  | 0, _ => by simp [szTo]
  | k + 1, hk => by
    have ih := szTo_bd h k (by omega)
    have := (fit_iff _).1 (h k (by omega)).fz
    rw [szTo]
    omega

/-- The open boxes' places. -/
def opI (s : List Bo) : List Nat := keptI (fun i => !(boAt s i).2.isSome) s.length
theorem opI_lt {s : List Bo} {i : Nat} (h : i ∈ opI s) : i < s.length := (keptI_lt h).1
theorem opI_open {s : List Bo} {i : Nat} (h : i ∈ opI s) : (boAt s i).2.isSome = false := by
  have := (keptI_lt h).2
  simpa using this
theorem opI_mem {s : List Bo} {i : Nat} (h : i < s.length) : i ∈ opI s ↔ (boAt s i).2.isSome = false := by
  unfold opI
  rw [keptI_mem]
  simp [h]
theorem opI_len (s : List Bo) : (opI s).length = openR s := by
  rw [openR_range]
  unfold opI keptI
  rw [List.countP_eq_length_filter]
theorem opI_nodup (s : List Bo) : (opI s).Nodup := keptI_nodup _ _
/-- What the open boxes are given. -/
theorem give_open (grow : Bool) (L : Int) (s : List Bo) : zsOf L ((opI s).map fun i => wtOf grow (boAt s i)) = (opI s).map fun i => (zsOf L (s.map (wtOf grow))).getD i 0 := by
  have h := zsOf_sub (ws := s.map (wtOf grow)) (q := fun i => !(boAt s i).2.isSome) L fun i hi hq => by
    have hi' : i < s.length := by simpa using hi
    rw [wAt_at hi, List.getElem_map, ← boAt_at hi']
    have : (boAt s i).2.isSome = true := by simpa using hq
    simp [wtOf, this]
  have e : subW (s.map (wtOf grow)) (fun i => !(boAt s i).2.isSome) = (opI s).map fun i => wtOf grow (boAt s i) := by
    unfold subW opI
    rw [List.length_map]
    refine List.map_congr_left fun i hi => ?_
    have hi' := (keptI_lt hi).1
    rw [boAt_at hi']
    simp [hi']
  rw [e] at h
  unfold opI at h ⊢
  rw [List.length_map] at h
  exact h
/-- How much changes, of the first k open boxes. -/
def chTo (zs : List Int) (s : List Bo) : Nat → Int
  | 0 => 0
  | k + 1 => chTo zs s k + chgR zs s ((opI s).getD k 0)
theorem chTo_all (zs : List Int) (s : List Bo) : chTo zs s (opI s).length = sumR zs s s.length := by
  have h1 : ∀ (l : List Nat) k, k ≤ l.length → ((l.take k).map (chgR zs s)).sum = ((List.range k).map fun j => chgR zs s (l.getD j 0)).sum := by
    intro l k
    induction k with
    | zero => simp
    | succ k ih =>
      intro hk
      rw [List.take_succ_eq_append_getElem (by omega), List.map_append, List.sum_append, ih (by omega), List.range_succ, List.map_append, List.sum_append]
      simp [show k < l.length by omega]
  have h2 : ∀ k, chTo zs s k = ((List.range k).map fun j => chgR zs s ((opI s).getD j 0)).sum := by
    intro k
    induction k with
    | zero => rfl
    | succ k ih => rw [chTo, ih, List.range_succ, List.map_append, List.sum_append]; simp
  rw [h2, ← h1 _ _ (Nat.le_refl _), List.take_of_length_le (Nat.le_refl _)]
  have h3 : ∀ n, ((keptI (fun i => !(boAt s i).2.isSome) n).map (chgR zs s)).sum = sumR zs s n := by
    intro n
    induction n with
    | zero => rfl
    | succ n ih =>
      unfold keptI at ih ⊢
      rw [List.range_succ, List.filter_append, List.map_append, List.sum_append, ih, sumR]
      cases hq : (boAt s n).2.isSome with
      | true =>
        rw [List.filter_cons_of_neg (by show ¬ (!(boAt s n).2.isSome) = true; rw [hq]; decide), List.filter_nil]
        simp [chgR, hq]
      | false =>
        rw [List.filter_cons_of_pos (by show (!(boAt s n).2.isSome) = true; rw [hq]; rfl), List.filter_nil]
        simp
  exact h3 _

/-- Shares within bounds. -/
theorem give_bd {L : Int} {s : List Bo} {grow : Bool} (hf : fit L = true) (h : GoodS s) (i : Nat) : -1099511627776 ≤ (zsOf L (s.map (wtOf grow))).getD i 0 ∧ (zsOf L (s.map (wtOf grow))).getD i 0 ≤ 1099511627776 := by
  have F := given_facts hf (h.wts grow)
  by_cases hi : i < (zsOf L (s.map (wtOf grow))).length
  · have e : (zsOf L (s.map (wtOf grow))).getD i 0 = (zsOf L (s.map (wtOf grow)))[i] := by simp [hi]
    rw [e]
    rcases Int.lt_or_le L 0 with h1 | h1
    · have := F.neg h1 i hi
      omega
    · have := F.pos h1 i hi
      omega
  · have : (zsOf L (s.map (wtOf grow))).getD i 0 = 0 := by simp at hi; simp [hi]
    omega
theorem cut_fit {grow : Bool} {left : Int} (h : fit left = true) : fit (cutR grow left) = true := by
  rw [fit_iff] at *
  unfold cutR
  repeat' split
  all_goals omega
theorem chg_bd {zs : List Int} {s : List Bo} (h : GoodS s) (hz : ∀ i, -1099511627776 ≤ zs.getD i 0 ∧ zs.getD i 0 ≤ 1099511627776) {i : Nat} (hi : i < s.length) :
    (-4398046511104 ≤ gotR zs s i ∧ gotR zs s i ≤ 4398046511104) ∧ (-1099511627776 ≤ goalR zs s i ∧ goalR zs s i ≤ 1099511627776) ∧ (-8796093022208 ≤ chgR zs s i ∧ chgR zs s i ≤ 8796093022208) := by
  have hg := h i hi
  have hb := (fit_iff _).1 hg.fb
  have hgo := (fit_iff _).1 (clampR_bd (n := gotR zs s i) hg.fl hg.fm)
  have hzi := hz i
  have h1 : -4398046511104 ≤ gotR zs s i ∧ gotR zs s i ≤ 4398046511104 := by unfold gotR; omega
  refine ⟨h1, hgo, ?_⟩
  unfold chgR
  split
  · omega
  · unfold goalR
    omega
theorem chTo_bd {zs : List Int} {s : List Bo} (h : GoodS s) (hz : ∀ i, -1099511627776 ≤ zs.getD i 0 ∧ zs.getD i 0 ≤ 1099511627776) : ∀ k, k ≤ (opI s).length → -(8796093022208 * (k : Int)) ≤ chTo zs s k ∧ chTo zs s k ≤ 8796093022208 * (k : Int)
  | 0, _ => by simp [chTo]
  | k + 1, hk => by
    have ih := chTo_bd h hz k (by omega)
    have hlt : (opI s).getD k 0 < s.length := by
      have : (opI s).getD k 0 = (opI s)[k] := by simp [show k < (opI s).length by omega]
      rw [this]
      exact opI_lt (List.getElem_mem _)
    have := (chg_bd h hz hlt).2.2
    rw [chTo]
    omega
theorem opI_le (s : List Bo) : (opI s).length ≤ s.length := by
  unfold opI keptI
  have := List.length_filter_le (fun i => !(boAt s i).2.isSome) (List.range s.length)
  simpa using this

end Go.Proofs.Ytbhdolghokhfnaa
