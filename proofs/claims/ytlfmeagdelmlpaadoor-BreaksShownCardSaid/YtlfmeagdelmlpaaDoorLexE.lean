/-
  As XLexB, for a region whose last operation writes a slot ahead of the region's own (E < D): 'x = a && b && ..'.
-/
import Derived.Deep.QuietTactic
namespace Go.Proofs.YtlfmeagdelmlpaaDoor
open Go

def lexSl (D E n j : Nat) : Nat := if j + 1 = n then E else D + j
/-- Operation j writes slot D + j, the last one slot E; what it looks at was there ahead, or is written by one that it waits for. -/
def lexE (ops : Array Oper) (D E n : Nat) : List Oper → Nat → Bool
  | [], _ => true
  | o :: l, j => (o.dst == some (lexSl D E n j)) && (match o.op with | .select .. => false | _ => true) && (o.after.toList.all fun e => decide (e.on < j)) &&
      ((o.looksAt ops).all fun t => (decide (t < D) && decide (t ≠ E)) || (o.after.any fun e => Region.binds .any e && (D + e.on == t))) && lexE ops D E n l (j + 1)

theorem lexSl_out {D E n j : Nat} {p : Prop} (h : lexSl D E n j < D ∧ lexSl D E n j ≠ E) : p := by
  obtain ⟨h1, h2⟩ := h
  unfold lexSl at h1 h2
  by_cases e : j + 1 = n
  · rw [if_pos e] at h2; exact absurd rfl h2
  · rw [if_neg e] at h1; omega
theorem lexSl_in {D E n i j : Nat} (hE : E < D) (h : D + i = lexSl D E n j) : i = j := by
  unfold lexSl at h
  split at h <;> omega

structure LexEt (ops : Array Oper) (D E n j : Nat) (o : Oper) : Prop where
  dst : o.dst = some (lexSl D E n j)
  sel : (match o.op with | .select .. => false | _ => true) = true
  back : ∀ e ∈ o.after.toList, e.on < j
  looks : ∀ t ∈ o.looksAt ops, (t < D ∧ t ≠ E) ∨ ∃ e ∈ o.after.toList, Region.binds .any e = true ∧ D + e.on = t

theorem lexE_at {ops : Array Oper} {D E n : Nat} : ∀ {l : List Oper} {j : Nat}, lexE ops D E n l j = true → ∀ i o, l[i]? = some o → LexEt ops D E n (j + i) o
  | [], _, _, i, o, h => by simp at h
  | x :: l, j, hq, i, o, h => by
    simp only [lexE, Bool.and_eq_true] at hq
    obtain ⟨⟨⟨⟨h1, h2⟩, h3⟩, h4⟩, h5⟩ := hq
    cases i with
    | zero =>
      simp at h
      subst h
      refine ⟨by simpa using h1, h2, fun e he => by simpa using List.all_eq_true.1 h3 e he, fun t ht => ?_⟩
      have := List.all_eq_true.1 h4 t ht
      simp only [Bool.or_eq_true, Bool.and_eq_true, decide_eq_true_eq] at this
      rcases this with h | h
      · exact Or.inl h
      · obtain ⟨e, he, hb⟩ := Array.any_eq_true'.1 h
        simp only [Bool.and_eq_true, beq_iff_eq] at hb
        exact Or.inr ⟨e, by simpa using he, hb.1, hb.2⟩
    | succ i =>
      have := lexE_at h5 i o (by simpa using h)
      rw [show j + (i + 1) = j + 1 + i by omega]
      exact this

theorem lexFromE_of {ops : Array Oper} {D E : Nat} (hE : E < D) (hA : ∀ i o, ops[i]? = some o → LexEt ops D E ops.size i o) : ∀ (fuel k : Nat) (listed : Array Bool), fuel + k = ops.size → listed.size = ops.size → (∀ i b, i < ops.size → listed.getD i b = decide (i < k)) →
    Region.lexFrom .any ops fuel k listed = true
  | 0, k, listed, hk, hs, hl => by
    unfold Region.lexFrom Region.ready
    rw [List.isEmpty_iff, List.filter_eq_nil_iff]
    intro i hi
    have hi' : i < ops.size := by simpa using hi
    rw [hl i true hi']
    have : i < k := by omega
    simp [this]
  | fuel + 1, k, listed, hk, hs, hl => by
    have hkn : k < ops.size := by omega
    have ho : ops[k]? = some ops[k] := Array.getElem?_eq_getElem hkn
    have L := hA k _ ho
    unfold Region.lexFrom
    simp only [Bool.and_eq_true]
    refine ⟨⟨?_, ?_⟩, ?_⟩
    · unfold Region.ready
      rw [List.contains_iff_mem, List.mem_filter]
      refine ⟨by simpa using hkn, ?_⟩
      rw [hl k true hkn, ho]
      simp only [Nat.lt_irrefl, decide_false, Bool.not_false, Bool.true_and, Option.map_some, Option.getD_some]
      rw [Array.all_eq_true_iff_forall_mem]
      intro e he
      have hb := L.back e (by simpa using he)
      rw [hl e.on false (by omega)]
      simp [hb]
    · unfold Region.free
      rw [ho]
      simp only
      rw [List.all_eq_true]
      intro j hj
      have hjn : j < ops.size := by simpa using hj
      have hoj : ops[j]? = some ops[j] := Array.getElem?_eq_getElem hjn
      rcases Nat.lt_trichotomy j k with h | h | h
      · rw [hl j true hjn]
        simp [h]
      · simp [h]
      · have M := hA j _ hoj
        rw [hoj]
        simp only
        by_cases hed : ∃ e ∈ (ops[j]).after.toList, Region.binds .any e = true ∧ e.on = k
        · obtain ⟨e, he, hb, hon⟩ := hed
          have : (ops[j].after.any fun e => Region.binds .any e && e.on == k) = true := Array.any_eq_true'.2 ⟨e, by simpa using he, by simp [hb, hon]⟩
          rw [this]
          simp
        · have hap : (ops[k]).apart ops ops[j] = true := by
            unfold Oper.apart
            rw [L.dst, M.dst]
            simp only [Bool.and_eq_true, Bool.not_eq_true']
            refine ⟨⟨?_, ?_⟩, ?_⟩
            · rw [← Bool.not_eq_true]
              intro hc
              rw [List.contains_iff_mem] at hc
              rcases M.looks _ hc with h1 | ⟨e, he, hb, h1⟩
              · exact lexSl_out h1
              · exact hed ⟨e, he, hb, lexSl_in hE h1⟩
            · simp
              unfold lexSl
              split <;> split <;> omega
            · rw [← Bool.not_eq_true]
              intro hc
              rw [List.contains_iff_mem] at hc
              rcases L.looks _ hc with h1 | ⟨e, he, hb, h1⟩
              · exact lexSl_out h1
              · have := L.back e he
                have := lexSl_in hE h1
                omega
          rw [hap]
          simp
    · refine lexFromE_of hE hA fuel (k + 1) _ (by omega) (by simpa using hs) fun i b hi => ?_
      by_cases e : i = k
      · subst e
        have : i < listed.size := by omega
        simp [Array.getD, this]
      · have hi' := hl i b hi
        have hx : (listed.setIfInBounds k true).getD i b = listed.getD i b := by
          simp only [Array.getD_eq_getD_getElem?]
          rw [Array.getElem?_setIfInBounds_ne (Ne.symm e)]
        rw [hx, hi']
        have : i < k ↔ i < k + 1 := by omega
        simp [this]

theorem lexB_last {ops : Array Oper} (D E : Nat) (hE : E < D) (h : lexE ops D E ops.size ops.toList 0 = true) : Region.lexB .any ops = true := by
  have hA : ∀ i o, ops[i]? = some o → LexEt ops D E ops.size i o := fun i o ho => by
    have := lexE_at h i o (by simpa using ho)
    simpa using this
  unfold Region.lexB
  rw [Bool.and_eq_true]
  refine ⟨?_, lexFromE_of hE hA _ _ _ (by simp) (by simp) fun i b hi => ?_⟩
  · unfold Region.noSelect
    rw [Array.all_eq_true_iff_forall_mem]
    intro o ho
    obtain ⟨i, hi, rfl⟩ := Array.mem_iff_getElem.1 ho
    exact (hA i _ (Array.getElem?_eq_getElem hi)).sel
  · simp [Array.getD, hi]

end Go.Proofs.YtlfmeagdelmlpaaDoor
