/-
  A region that draws its order, of many operations: that the order of the text is one of its orders, by a check that is linear.
-/
import Derived.Deep.QuietTactic
namespace Go.Proofs.Ytbhdolghokhfnaa
open Go

/-- Operation j writes slot D + j; what it looks at was there ahead, or is written by one that it waits for. -/
def lexQ (ops : Array Oper) (D : Nat) : List Oper → Nat → Bool
  | [], _ => true
  | o :: l, j => (o.dst == some (D + j)) && (match o.op with | .select .. => false | _ => true) && (o.after.toList.all fun e => decide (e.on < j)) &&
      ((o.looksAt ops).all fun t => decide (t < D) || (o.after.any fun e => Region.binds .any e && (D + e.on == t))) && lexQ ops D l (j + 1)

structure LexAt (ops : Array Oper) (D j : Nat) (o : Oper) : Prop where
  dst : o.dst = some (D + j)
  sel : (match o.op with | .select .. => false | _ => true) = true
  back : ∀ e ∈ o.after.toList, e.on < j
  looks : ∀ t ∈ o.looksAt ops, t < D ∨ ∃ e ∈ o.after.toList, Region.binds .any e = true ∧ D + e.on = t

theorem lexQ_at {ops : Array Oper} {D : Nat} : ∀ {l : List Oper} {j : Nat}, lexQ ops D l j = true → ∀ i o, l[i]? = some o → LexAt ops D (j + i) o
  | [], _, _, i, o, h => by simp at h
  | x :: l, j, hq, i, o, h => by
    simp only [lexQ, Bool.and_eq_true] at hq
    obtain ⟨⟨⟨⟨h1, h2⟩, h3⟩, h4⟩, h5⟩ := hq
    cases i with
    | zero =>
      simp at h
      subst h
      refine ⟨by simpa using h1, h2, fun e he => by simpa using List.all_eq_true.1 h3 e he, fun t ht => ?_⟩
      have := List.all_eq_true.1 h4 t ht
      simp only [Bool.or_eq_true, decide_eq_true_eq] at this
      rcases this with h | h
      · exact Or.inl h
      · obtain ⟨e, he, hb⟩ := Array.any_eq_true'.1 h
        simp only [Bool.and_eq_true, beq_iff_eq] at hb
        exact Or.inr ⟨e, by simpa using he, hb.1, hb.2⟩
    | succ i =>
      have := lexQ_at h5 i o (by simpa using h)
      rw [show j + (i + 1) = j + 1 + i by omega]
      exact this

theorem lexFrom_of {ops : Array Oper} {D : Nat} (hA : ∀ i o, ops[i]? = some o → LexAt ops D i o) : ∀ (fuel k : Nat) (listed : Array Bool), fuel + k = ops.size → listed.size = ops.size → (∀ i b, i < ops.size → listed.getD i b = decide (i < k)) →
    Region.lexFrom .any ops fuel k listed = true
  | 0, k, listed, hk, hs, hl => by
    unfold Region.lexFrom Region.ready
    rw [List.isEmpty_iff, List.filter_eq_nil_iff]
    intro i hi
    have hi' : i < ops.size := by simpa using hi
    rw [hl i true hi']
    have : i < k := by omega
    simp [this]
  | fuel + 1, k, listed, hk, hs, hl => by
    have hkn : k < ops.size := by omega
    have ho : ops[k]? = some ops[k] := Array.getElem?_eq_getElem hkn
    have L := hA k _ ho
    unfold Region.lexFrom
    simp only [Bool.and_eq_true]
    refine ⟨⟨?_, ?_⟩, ?_⟩
    · unfold Region.ready
      rw [List.contains_iff_mem, List.mem_filter]
      refine ⟨by simpa using hkn, ?_⟩
      rw [hl k true hkn, ho]
      simp only [Nat.lt_irrefl, decide_false, Bool.not_false, Bool.true_and, Option.map_some, Option.getD_some]
      rw [Array.all_eq_true_iff_forall_mem]
      intro e he
      have hb := L.back e (by simpa using he)
      rw [hl e.on false (by omega)]
      simp [hb]
    · unfold Region.free
      rw [ho]
      simp only
      rw [List.all_eq_true]
      intro j hj
      have hjn : j < ops.size := by simpa using hj
      have hoj : ops[j]? = some ops[j] := Array.getElem?_eq_getElem hjn
      rcases Nat.lt_trichotomy j k with h | h | h
      · rw [hl j true hjn]
        simp [h]
      · simp [h]
      · have M := hA j _ hoj
        rw [hoj]
        simp only
        by_cases hed : ∃ e ∈ (ops[j]).after.toList, Region.binds .any e = true ∧ e.on = k
        · obtain ⟨e, he, hb, hon⟩ := hed
          have : (ops[j].after.any fun e => Region.binds .any e && e.on == k) = true := Array.any_eq_true'.2 ⟨e, by simpa using he, by simp [hb, hon]⟩
          rw [this]
          simp
        · have hap : (ops[k]).apart ops ops[j] = true := by
            unfold Oper.apart
            rw [L.dst, M.dst]
            simp only [Bool.and_eq_true, Bool.not_eq_true']
            refine ⟨⟨?_, ?_⟩, ?_⟩
            · rw [← Bool.not_eq_true]
              intro hc
              rw [List.contains_iff_mem] at hc
              rcases M.looks _ hc with h1 | ⟨e, he, hb, h1⟩
              · exact absurd h1 (Nat.not_lt.2 (Nat.le_add_right D k))
              · exact hed ⟨e, he, hb, by omega⟩
            · simp
              omega
            · rw [← Bool.not_eq_true]
              intro hc
              rw [List.contains_iff_mem] at hc
              rcases L.looks _ hc with h1 | ⟨e, he, hb, h1⟩
              · exact absurd h1 (Nat.not_lt.2 (Nat.le_add_right D j))
              · have := L.back e he
                omega
          rw [hap]
          simp
    · refine lexFrom_of hA fuel (k + 1) _ (by omega) (by simpa using hs) fun i b hi => ?_
      by_cases e : i = k
      · subst e
        have : i < listed.size := by omega
        simp [Array.getD, this]
      · have hi' := hl i b hi
        have hx : (listed.setIfInBounds k true).getD i b = listed.getD i b := by
          simp only [Array.getD_eq_getD_getElem?]
          rw [Array.getElem?_setIfInBounds_ne (Ne.symm e)]
        rw [hx, hi']
        have : i < k ↔ i < k + 1 := by omega
        simp [this]

theorem lexB_of {ops : Array Oper} (D : Nat) (h : lexQ ops D ops.toList 0 = true) : Region.lexB .any ops = true := by
  have hA : ∀ i o, ops[i]? = some o → LexAt ops D i o := fun i o ho => by
    have := lexQ_at h i o (by simpa using ho)
    simpa using this
  unfold Region.lexB
  rw [Bool.and_eq_true]
  refine ⟨?_, lexFrom_of hA _ _ _ (by simp) (by simp) fun i b hi => ?_⟩
  · unfold Region.noSelect
    rw [Array.all_eq_true_iff_forall_mem]
    intro o ho
    obtain ⟨i, hi, rfl⟩ := Array.mem_iff_getElem.1 ho
    exact (hA i _ (Array.getElem?_eq_getElem hi)).sel
  · simp [Array.getD, hi]

end Go.Proofs.Ytbhdolghokhfnaa
