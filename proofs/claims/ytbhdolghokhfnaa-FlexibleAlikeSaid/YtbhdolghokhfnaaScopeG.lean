/-
  A scope in which the run jumps back to one label: with a ghost number that every pass lowers.
-/
import Derived.ScopeJumps
import Derived.Control
namespace Go.Proofs.Ytbhdolghokhfnaa
open Go

theorem exists_least {p : Nat → Prop} (h : ∃ n, p n) : ∃ n, p n ∧ ∀ m, p m → n ≤ m := by
  obtain ⟨n, hn⟩ := h
  induction n using Nat.strongRecOn with
  | _ n ih =>
    by_cases hx : ∃ m, m < n ∧ p m
    · obtain ⟨m, hm, hp⟩ := hx
      exact ih m hm hp
    · exact ⟨n, hn, fun m hp => Nat.le_of_not_lt fun hlt => hx ⟨m, hlt, hp⟩⟩
open Classical in
noncomputable def leastOf (p : Nat → Prop) : Nat := if h : ∃ n, p n then (exists_least h).choose else 0
theorem leastOf_at {p : Nat → Prop} (h : ∃ n, p n) : p (leastOf p) ∧ ∀ m, p m → leastOf p ≤ m := by
  unfold leastOf
  rw [dif_pos h]
  exact (exists_least h).choose_spec
theorem wp_scope_ghost {P : Program} {a : Act} {w : World} {Q : Exit → Act → World → Prop} {c rest : Code} (l : Nat) (J : Nat → Act → World → Prop) (hf : findLabel c l = some rest)
    (first : c.wp P (Exit.jump l (fun a' w' => ∃ g, J g a' w') Q) a w)
    (pass : ∀ g a w, J g a w → rest.wp P (Exit.jump l (fun a' w' => ∃ g', g' < g ∧ J g' a' w') Q) a w) : (Code.scope c).wp P Q a w := by
  refine wp_scope_jumps l (fun a' w' => ∃ g, J g a' w') (fun a' w' => leastOf fun g => J g a' w') hf first fun a1 w1 h1 => ?_
  obtain ⟨h2, _⟩ := leastOf_at h1
  refine wp_mono (pass _ _ _ h2) fun e a' w' hq => ?_
  cases e with
  | goto l' =>
    obtain ⟨e1, g', hlt, hj⟩ := hq
    exact ⟨e1, ⟨g', hj⟩, Nat.lt_of_le_of_lt ((leastOf_at ⟨g', hj⟩).2 g' hj) hlt⟩
  | normal => exact hq
  | exit id => exact hq
  | ret => exact hq
  | panic ch => exact hq
  | outgrown => exact hq

end Go.Proofs.Ytbhdolghokhfnaa
