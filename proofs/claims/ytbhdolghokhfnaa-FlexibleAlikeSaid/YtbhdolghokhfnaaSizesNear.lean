/-
  Plain: what flexible.Sizes tells of boxes such as may be.
-/
import Derived.Test.YtbhdolghokhfnaaSizesLaws
namespace Go.Proofs.Ytbhdolghokhfnaa

structure NearI (x : It) : Prop where
  b0 : 0 ≤ x.base
  b1 : x.base ≤ 268435456
  l0 : 0 ≤ x.least
  l1 : x.least ≤ 268435456
  m0 : 0 ≤ x.most
  m1 : x.most ≤ 1099511627776
  o0 : -268435456 ≤ x.outer
  o1 : x.outer ≤ 268435456
  g0 : 0 ≤ x.grow
  g1 : x.grow ≤ 1000
  s0 : 0 ≤ x.shrink
  s1 : x.shrink ≤ 1000
structure NearP (l : List It) (gap room : Int) : Prop where
  len : l.length ≤ 100
  p0 : 0 ≤ gap
  p1 : gap ≤ 268435456
  r0 : -1 ≤ room
  r1 : room ≤ 549755813888
  it : ∀ i, i < l.length → NearI (itAt l i)
theorem NearP.check {l : List It} {gap room : Int} (h : NearP l gap room) : checkR l gap room = 0 := by
  have hl := h.len
  have := h.p0
  have := h.p1
  have := h.r0
  have := h.r1
  have h1 : l.any badIt = false := by
    rw [← Bool.not_eq_true, List.any_eq_true]
    rintro ⟨x, hx, hb⟩
    obtain ⟨i, hi, rfl⟩ := List.getElem_of_mem hx
    have := h.it i hi
    rw [itAt_at hi] at this
    obtain ⟨_, _, _, _, _, _, _, _, _, _, _, _⟩ := this
    unfold badIt at hb
    simp only [decide_eq_true_eq] at hb
    omega
  have h2 : l.all fitIt = true := by
    rw [List.all_eq_true]
    intro x hx
    obtain ⟨i, hi, rfl⟩ := List.getElem_of_mem hx
    have := h.it i hi
    rw [itAt_at hi] at this
    obtain ⟨_, _, _, _, _, _, _, _, _, _, _, _⟩ := this
    unfold fitIt
    simp only [Bool.and_eq_true, fit_iff]
    omega
  have h3 : fit gap = true := by rw [fit_iff]; omega
  have h4 : fit room = true := by rw [fit_iff]; omega
  unfold checkR
  rw [if_neg (by omega), if_neg (by simp [h1]), if_pos (by simp [h2, h3, h4])]
def fstI (l : List It) (i : Nat) : Int := firstR (itAt l i)
def outI (out : List Int) (i : Nat) : Int := out.getD i 0
theorem firsts_sum (l : List It) : (l.map firstR).sum = sumF (fstI l) l.length := (sum_to firstR l (sumF (fstI l)) rfl fun _ => rfl).symm
theorem around_bd {l : List It} {gap room : Int} (h : NearP l gap room) : -26843545600 ≤ aroundR l gap ∧ aroundR l gap ≤ 53687091200 := by
  have e : (l.map It.outer).sum = sumF (fun i => (itAt l i).outer) l.length := (sum_to It.outer l (sumF fun i => (itAt l i).outer) rfl fun _ => rfl).symm
  have h1 := sumF_lo (n := l.length) (c := -268435456) (f := fun i => (itAt l i).outer) fun i hi => (h.it i hi).o0
  have h2 := sumF_hi (n := l.length) (c := 268435456) (f := fun i => (itAt l i).outer) fun i hi => (h.it i hi).o1
  have hl := h.len
  have a1 : (0 : Int) ≤ ((l.length - 1 : Nat) : Int) := by omega
  have a2 : ((l.length - 1 : Nat) : Int) ≤ 100 := by omega
  have a3 := Int.mul_nonneg a1 h.p0
  have a4 := Int.mul_le_mul a2 h.p1 h.p0 (by omega : (0 : Int) ≤ 100)
  unfold aroundR
  rw [e]
  omega
/-- All that the laws ask of sizes. -/
structure SizesF (l : List It) (gap room : Int) (out : List Int) : Prop where
  len : out.length = l.length
  neg : room < 0 → ∀ i, i < l.length → outI out i = fstI l i
  bnd : ∀ i, i < l.length → ∃ g, outI out i = clampR g (itAt l i).least (itAt l i).most
  gr : 0 ≤ room → growR l gap room = true → ∀ i, i < l.length → fstI l i ≤ outI out i
  sh : 0 ≤ room → growR l gap room = false → ∀ i, i < l.length → outI out i ≤ fstI l i
  g0 : growR l gap room = true → ∀ i, i < l.length → (itAt l i).grow = 0 → outI out i = fstI l i
  s0 : growR l gap room = false → ∀ i, i < l.length → (itAt l i).shrink = 0 → outI out i = fstI l i
  le : 0 ≤ room → growR l gap room = true → sumF (outI out) l.length + aroundR l gap ≤ room
  ge : 0 ≤ room → growR l gap room = false → room ≤ sumF (outI out) l.length + aroundR l gap
  top : 0 ≤ room → growR l gap room = true → sumF (outI out) l.length + aroundR l gap < room → ∀ i, i < l.length → 0 < (itAt l i).grow → (itAt l i).most ≤ outI out i
  low : 0 ≤ room → growR l gap room = false → room < sumF (outI out) l.length + aroundR l gap → ∀ i, i < l.length → 0 < (itAt l i).shrink → 0 < (itAt l i).base → outI out i ≤ (itAt l i).least
theorem start_grow {l : List It} {i : Nat} (hi : i < l.length) :
    (stB (startS true l) i = true ∧ szI (startS true l) i = fstI l i ∧ ((itAt l i).grow = 0 ∨ fstI l i < (itAt l i).base)) ∨ (stB (startS true l) i = false ∧ (itAt l i).grow ≠ 0 ∧ (itAt l i).base ≤ fstI l i) := by
  unfold stB szI szOf
  rw [startS_bo hi]
  unfold startAt fstI
  by_cases h : (itAt l i).grow = 0 ∨ firstR (itAt l i) < (itAt l i).base
  · rw [if_pos rfl, if_pos (decide_eq_true h)]
    exact Or.inl ⟨rfl, rfl, h⟩
  · rw [if_pos rfl, if_neg (by rw [decide_eq_true_eq]; exact h)]
    exact Or.inr ⟨rfl, by omega, by omega⟩
theorem start_shrink {l : List It} {i : Nat} (hi : i < l.length) :
    (stB (startS false l) i = true ∧ szI (startS false l) i = fstI l i ∧ ((itAt l i).shrink = 0 ∨ (itAt l i).base < fstI l i)) ∨ (stB (startS false l) i = false ∧ (itAt l i).shrink ≠ 0 ∧ fstI l i ≤ (itAt l i).base) := by
  unfold stB szI szOf
  rw [startS_bo hi]
  unfold startAt fstI
  by_cases h : (itAt l i).shrink = 0 ∨ (itAt l i).base < firstR (itAt l i)
  · simp only [Bool.false_eq_true, if_false]
    rw [if_pos (decide_eq_true h)]
    exact Or.inl ⟨rfl, rfl, h⟩
  · simp only [Bool.false_eq_true, if_false]
    rw [if_neg (by rw [decide_eq_true_eq]; exact h)]
    exact Or.inr ⟨rfl, by omega, by omega⟩
theorem startS_len (grow : Bool) (l : List It) : (startS grow l).length = l.length := by simp [startS]
theorem startS_it {grow : Bool} {l : List It} {i : Nat} (hi : i < l.length) : (boAt (startS grow l) i).1 = itAt l i := by rw [startS_bo hi]; rfl
theorem openR_le (s : List Bo) : openR s ≤ s.length := by unfold openR; exact List.countP_le_length
theorem startI_grow {l : List It} {gap room : Int} (h : NearP l gap room) (hg : growR l gap room = true) : GrowI (room - aroundR l gap) (startS true l) := by
  have hN := fun i (hi : i < l.length) => h.it i hi
  refine ⟨startS_good (check_ok h.check).good, fun i hi => ?_, fun i hi => ?_, fun i hi hs => ?_, ?_⟩
  · rw [startS_len] at hi
    have n := hN i hi
    rcases start_grow hi with ⟨_, e, _⟩ | ⟨h1, _⟩
    · rw [e]
      unfold fstI
      rw [first_eq]
      have := n.l0
      omega
    · rw [szI_open h1, startS_it hi]
      exact n.b0
  · rw [startS_len] at hi
    rw [startS_it hi]
    exact (hN i hi).l0
  · rw [startS_len] at hi
    rw [startS_it hi]
    rcases start_grow hi with ⟨h1, _⟩ | ⟨_, h2, h3⟩
    · rw [hs] at h1; cases h1
    · have := (hN i hi).g0
      exact ⟨h3, by omega⟩
  · rw [startS_len]
    have : sumF (qI (startS true l)) l.length = sumF (fstI l) l.length := sumF_congr fun i hi => by
      unfold qI
      rcases start_grow hi with ⟨h1, h2, _⟩ | ⟨h1, _⟩
      · rw [h1, if_pos rfl, h2]
      · rw [h1, if_neg (by simp), startS_it hi]; rfl
    rw [this]
    unfold growR allR at hg
    rw [firsts_sum] at hg
    simp only [decide_eq_true_eq] at hg
    omega
theorem startI_shrink {l : List It} {gap room : Int} (h : NearP l gap room) (hg : growR l gap room = false) : ShrinkI (room - aroundR l gap) 268435456 (startS false l) := by
  have hN := fun i (hi : i < l.length) => h.it i hi
  refine ⟨startS_good (check_ok h.check).good, fun i hi => ?_, fun i hi => ?_, fun i hi hs => ?_, ?_⟩
  · rw [startS_len] at hi
    have n := hN i hi
    have := n.l0
    have := n.l1
    have := n.b0
    have := n.b1
    rcases start_shrink hi with ⟨_, e, _⟩ | ⟨h1, _⟩
    · rw [e]
      unfold fstI
      rw [first_eq]
      omega
    · rw [szI_open h1, startS_it hi]
      exact ⟨n.b0, n.b1⟩
  · rw [startS_len] at hi
    rw [startS_it hi]
    exact (hN i hi).l0
  · rw [startS_len] at hi
    rw [startS_it hi]
    rcases start_shrink hi with ⟨h1, _⟩ | ⟨_, h2, h3⟩
    · rw [hs] at h1; cases h1
    · have := (hN i hi).s0
      exact ⟨h3, by omega⟩
  · rw [startS_len]
    have : sumF (qI (startS false l)) l.length = sumF (fstI l) l.length := sumF_congr fun i hi => by
      unfold qI
      rcases start_shrink hi with ⟨h1, h2, _⟩ | ⟨h1, _⟩
      · rw [h1, if_pos rfl, h2]
      · rw [h1, if_neg (by simp), startS_it hi]; rfl
    rw [this]
    unfold growR allR at hg
    rw [firsts_sum] at hg
    simp only [decide_eq_false_iff_not] at hg
    omega
theorem last_ok {l : List It} {gap room : Int} (h : NearP l gap room) {out : List Int} (hl : out.length = l.length) (hb : ∀ i, i < l.length → ∃ g, outI out i = clampR g (itAt l i).least (itAt l i).most) : lastR (some out) = (out, 0) := by
  unfold lastR
  dsimp only
  rw [if_pos]
  rw [List.all_eq_true]
  intro x hx
  obtain ⟨i, hi, rfl⟩ := List.getElem_of_mem hx
  obtain ⟨g, e⟩ := hb i (by omega)
  have n := h.it i (by omega)
  have e2 : out[i] = outI out i := by simp [outI, hi]
  rw [e2, e]
  refine clampR_bd ?_ ?_
  · rw [fit_iff]
    have := n.l0
    have := n.l1
    omega
  · rw [fit_iff]
    have := n.m0
    have := n.m1
    omega
theorem sizes_facts {l : List It} {gap room : Int} (h : NearP l gap room) : ∃ out, sizesR l gap room = (out, 0) ∧ SizesF l gap room out := by
  have hc := h.check
  have hab := around_bd h
  have hr1 := h.r1
  have hr0 := h.r0
  have hl := h.len
  have hfirst : ∀ i, i < l.length → outI (l.map firstR) i = fstI l i := fun i hi => by
    unfold outI fstI
    rw [itAt_at hi]
    simp [hi]
  unfold sizesR
  rw [if_neg (by simp [hc])]
  by_cases hneg : room < 0
  · rw [if_pos hneg]
    exact ⟨_, rfl, by simp, fun _ => hfirst, fun i hi => ⟨_, hfirst i hi⟩, fun _ => by omega, fun _ => by omega, fun _ i hi _ => hfirst i hi, fun _ i hi _ => hfirst i hi, fun _ => by omega, fun _ => by omega, fun _ => by omega, fun _ => by omega⟩
  · rw [if_neg hneg]
    cases hg : growR l gap room with
    | true =>
      obtain ⟨out, hout, R⟩ := grow_rounds (room := room - aroundR l gap) (by omega) (l.length + 1) (startS true l) (by have := openR_le (startS true l); rw [startS_len] at this; omega) (startI_grow h hg)
      obtain ⟨r1, r2, r3, r4, r5⟩ := R
      rw [startS_len] at r1 r2 r3 r4 r5
      have b : ∀ i, i < l.length → fstI l i ≤ outI out i ∧ (∃ g, outI out i = clampR g (itAt l i).least (itAt l i).most) := fun i hi => by
        rcases start_grow hi with ⟨h1, h2, _⟩ | ⟨h1, _⟩
        · have e := r2 i hi h1
          rw [h2] at e
          unfold outI
          rw [e]
          exact ⟨Int.le_refl _, _, rfl⟩
        · have := r3 i hi h1
          rwa [startS_it hi] at this
      have hst : ∀ i, i < l.length → stB (startS true l) i = true → outI out i = fstI l i := fun i hi hs => by
        rcases start_grow hi with ⟨h1, h2, _⟩ | ⟨h1, _⟩
        · unfold outI
          rw [r2 i hi h1, h2]
        · rw [hs] at h1; cases h1
      refine ⟨out, ?_, r1, fun hn => absurd hn hneg, fun i hi => (b i hi).2, fun _ _ i hi => (b i hi).1, fun _ hh => absurd hh (by simp [hg]), fun _ i hi hz => ?_, fun hh => absurd hh (by simp [hg]), fun _ _ => ?_, fun _ hh => absurd hh (by simp [hg]), fun _ _ hlt i hi hgr => ?_, fun _ hh => absurd hh (by simp [hg])⟩
      · show lastR (roundsR (l.length + 1) true (room - aroundR l gap) (startS true l)) = _
        rw [hout]
        exact last_ok h r1 fun i hi => (b i hi).2
      · rcases start_grow hi with ⟨h1, _⟩ | ⟨_, h2, _⟩
        · exact hst i hi h1
        · exact absurd hz h2
      · have : sumF (outI out) l.length ≤ room - aroundR l gap := r4
        omega
      · have h5 : sumF (fun i => out.getD i 0) l.length < room - aroundR l gap := by
          have : sumF (outI out) l.length + aroundR l gap < room := hlt
          show sumF (outI out) l.length < _
          omega
        rcases start_grow hi with ⟨h1, _, h3⟩ | ⟨h1, _⟩
        · rw [hst i hi h1]
          rcases h3 with h3 | h3
          · omega
          · unfold fstI at h3 ⊢
            rw [first_eq] at h3 ⊢
            omega
        · have := r5 h5 i hi h1
          rw [startS_it hi] at this
          unfold outI
          rw [this]
          unfold topOf
          omega
    | false =>
      have hMl : (268435456 : Int) * (l.length : Int) - (room - aroundR l gap) ≤ 1099511627776 := by omega
      obtain ⟨out, hout, R⟩ := shrink_rounds (room := room - aroundR l gap) (M := 268435456) (n := l.length) hMl (l.length + 1) (startS false l) (startS_len _ _) (by have := openR_le (startS false l); rw [startS_len] at this; omega) (startI_shrink h hg)
      obtain ⟨r1, r2, r3, r4, r5⟩ := R
      rw [startS_len] at r1 r2 r3 r4 r5
      have b : ∀ i, i < l.length → outI out i ≤ fstI l i ∧ (∃ g, outI out i = clampR g (itAt l i).least (itAt l i).most) := fun i hi => by
        rcases start_shrink hi with ⟨h1, h2, _⟩ | ⟨h1, _⟩
        · have e := r2 i hi h1
          rw [h2] at e
          unfold outI
          rw [e]
          exact ⟨Int.le_refl _, _, rfl⟩
        · have := r3 i hi h1
          rwa [startS_it hi] at this
      have hst : ∀ i, i < l.length → stB (startS false l) i = true → outI out i = fstI l i := fun i hi hs => by
        rcases start_shrink hi with ⟨h1, h2, _⟩ | ⟨h1, _⟩
        · unfold outI
          rw [r2 i hi h1, h2]
        · rw [hs] at h1; cases h1
      refine ⟨out, ?_, r1, fun hn => absurd hn hneg, fun i hi => (b i hi).2, fun _ hh => absurd hh (by simp [hg]), fun _ _ i hi => (b i hi).1, fun hh => absurd hh (by simp [hg]), fun _ i hi hz => ?_, fun _ hh => absurd hh (by simp [hg]), fun _ _ => ?_, fun _ hh => absurd hh (by simp [hg]), fun _ _ hlt i hi hgr hb => ?_⟩
      · show lastR (roundsR (l.length + 1) false (room - aroundR l gap) (startS false l)) = _
        rw [hout]
        exact last_ok h r1 fun i hi => (b i hi).2
      · rcases start_shrink hi with ⟨h1, _⟩ | ⟨_, h2, _⟩
        · exact hst i hi h1
        · exact absurd hz h2
      · have : room - aroundR l gap ≤ sumF (outI out) l.length := r4
        omega
      · have h5 : room - aroundR l gap < sumF (fun i => out.getD i 0) l.length := by
          have : room < sumF (outI out) l.length + aroundR l gap := hlt
          show _ < sumF (outI out) l.length
          omega
        rcases start_shrink hi with ⟨h1, _, h3⟩ | ⟨h1, _⟩
        · rw [hst i hi h1]
          rcases h3 with h3 | h3
          · omega
          · unfold fstI at h3 ⊢
            rw [first_eq] at h3 ⊢
            omega
        · have := r5 h5 i hi h1 (by rw [startS_it hi]; exact hb)
          rw [startS_it hi] at this
          unfold outI
          rw [this]
          exact Int.le_refl _

end Go.Proofs.Ytbhdolghokhfnaa
