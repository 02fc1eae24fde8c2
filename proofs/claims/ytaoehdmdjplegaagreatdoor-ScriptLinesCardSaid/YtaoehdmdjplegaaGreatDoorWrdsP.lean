/-
  Walks: script.name: what it answers.
-/
import Derived.Test.YtaoehdmdjplegaaGreatDoorEvC
import Derived.Test.YtaoehdmdjplegaaGreatDoorPlain32
import Derived.Test.YtaoehdmdjplegaaGreatDoorStydW
import Derived.Test.YtaoehdmdjplegaaGreatDoorFields32
namespace Go.Proofs.YtaoehdmdjplegaaGreatDoor
open Go.RowKit Go.Shelf

def nameT (e : Ev) : List UInt8 := match nameW e with
  | none => []
  | some t => t.1
def plainN : List (List UInt8) := plainT.map (·.1)
theorem row_at : ∀ k : Fin 9, rowOf ((plainT.getD k.val ([], 0, 0, 0)).1) = (plainT.getD k.val ([], 0, 0, 0)).2 := by decide
def NmA' (e : Ev) (W : World) (i : Value) (w : World) : Prop :=
  ∃ k : Nat, k ≤ 9 ∧ i = .int .i64 k ∧ w = W ∧ nameW e = (plainT.drop k).find? fun t => t.2.1 = e.kind ∧ t.2.2.1 = e.ck
theorem plain_drop {k : Nat} (hk : k < 9) : plainT.drop k = plainT.getD k ([], 0, 0, 0) :: plainT.drop (k + 1) := by
  rw [List.drop_eq_getElem_cons (show k < plainT.length from hk), List.getD_eq_getElem?_getD, List.getElem?_eq_getElem (show k < plainT.length from hk)]
  rfl

set_option maxRecDepth 100000 in
set_option maxHeartbeats 4000000 in
theorem name_any (e : Ev) (va : Value) (w : World) :
    Calls Tryz.prog 29 #[.agg (evC e va).toArray] w fun en w' => en = .returned (.string (mkB (nameT e))) ∧ Below w.heap.size w w' := by
  obtain ⟨W, hW⟩ : ∃ W, W = (w.alloc (.cells (evC e va).toArray 34)).alloc (.cells (strA plainN) 9) := ⟨_, rfl⟩
  have hbel : Below w.heap.size w W := by rw [hW]; exact ((Below.refl _ _).alloc (Nat.le_refl _) _).alloc (by simp) _
  have g1 : Blk W w.heap.size 34 (evC e va).toArray := by rw [hW]; exact allocs_blk [.cells (evC e va).toArray 34, .cells (strA plainN) 9] w 0 _ _ rfl
  have g2 : Blk W (w.heap.size + 1) 9 (strA plainN) := by rw [hW]; exact allocs_blk [.cells (evC e va).toArray 34, .cells (strA plainN) 9] w 1 _ _ rfl
  have a0 : W.cell? ⟨w.heap.size, 0, none⟩ = some (.int .u8 (e.kind : Int)) := g1.cell 0
  have a4 : W.cell? ⟨w.heap.size, 4, none⟩ = some (.int .u8 (e.ck : Int)) := g1.cell 4
  have HC := Lib.hid (show ∀ k, k < 9 → W.cell? ⟨w.heap.size + 1, k, none⟩ = some (.string (mkB (plainT.getD k ([], 0, 0, 0)).1)) from fun k hk => by
    rw [g2.cell k]
    have : k < plainT.length := hk
    simp [strA, plainN, List.getD_eq_getElem?_getD, List.getElem?_eq_getElem this])
  go_enter Tryz.func29, Tryz.ntmps29
  go_wp2_with fail
  rw [show (w.alloc (.cells (evC e va).toArray 34)).alloc (.cells #[Value.string ⟨#[114, 101, 109, 111, 118, 101]⟩, Value.string ⟨#[109, 111, 118, 101]⟩, Value.string ⟨#[115, 117, 98, 115, 99, 114, 105, 98, 101]⟩, Value.string ⟨#[108, 101, 97, 118, 101]⟩, Value.string ⟨#[116, 105, 99, 107]⟩, Value.string ⟨#[100, 101, 108, 105, 118, 101, 114]⟩, Value.string ⟨#[100, 114, 111, 112]⟩, Value.string ⟨#[99, 111, 112, 121]⟩, Value.string ⟨#[99, 111, 114, 114, 117, 112, 116]⟩] 9) = W from hW.symm]
  clear hW
  go_loopw [10] (NmA' e W) (fun i _ => 9 - (intOf i).toNat)
  case atStart => exact ⟨0, by omega, rfl, rfl, rfl⟩
  case round =>
    obtain ⟨k, hk, rfl, rfl, hnm⟩ := hrel
    have HN := Lib.hid hnm
    clear hnm
    by_cases hlt : k < 9
    · have hl0 : ((k : Nat) : Int) < 9 := by omega
      have hcell := HC.out k hlt
      have hrow := row_at ⟨k, hlt⟩
      have HD := Lib.hid (plain_drop hlt)
      simp only at hrow
      generalize plainT.getD k ([], 0, 0, 0) = r at *
      obtain ⟨x, r1, r2, r3⟩ := r
      simp only at hcell hrow
      have HROW := Lib.hid hrow
      clear hrow
      by_cases h1 : r1 = e.kind
      · have t1 : (((r1 : Nat) : Int) == ((e.kind : Nat) : Int)) = true := by rw [beq_iff_eq]; omega
        by_cases h2 : r2 = e.ck
        · have t2 : (((r2 : Nat) : Int) == ((e.ck : Nat) : Int)) = true := by rw [beq_iff_eq]; omega
          have HR := Lib.hid (show nameT e = x by
            unfold nameT
            rw [HN.out, HD.out, List.find?_cons_of_pos (by simp [h1, h2])])
          clear h1 h2
          go_wp2_with fail
          refine (plain_any x _).mono ?_
          rintro en w3 ⟨rfl, rfl⟩
          rw [HROW.out]
          go_wp2_with fail
          go_ret
          exact ⟨by rw [HR.out]; rfl, hbel⟩
        · have t2 : (((r2 : Nat) : Int) == ((e.ck : Nat) : Int)) = false := by rw [beq_eq_false_iff_ne]; omega
          have HS := Lib.hid (show nameW e = (plainT.drop (k + 1)).find? fun t => t.2.1 = e.kind ∧ t.2.2.1 = e.ck by rw [HN.out, HD.out, List.find?_cons_of_neg (by simp [h2])])
          clear h1 h2
          go_wp2_with fail
          refine (plain_any x _).mono ?_
          rintro en w3 ⟨rfl, rfl⟩
          rw [HROW.out]
          go_wp2_with fail
          go_roundw
          case rel => exact ⟨k + 1, by omega, by go_num, rfl, HS.out⟩
          case measure => simp [intOf]; omega
      · have t1 : (((r1 : Nat) : Int) == ((e.kind : Nat) : Int)) = false := by rw [beq_eq_false_iff_ne]; omega
        have HS := Lib.hid (show nameW e = (plainT.drop (k + 1)).find? fun t => t.2.1 = e.kind ∧ t.2.2.1 = e.ck by rw [HN.out, HD.out, List.find?_cons_of_neg (by simp [h1])])
        clear h1
        go_wp2_with fail
        refine (plain_any x _).mono ?_
        rintro en w3 ⟨rfl, rfl⟩
        rw [HROW.out]
        go_wp2_with fail
        go_roundw
        case rel => exact ⟨k + 1, by omega, by go_num, rfl, HS.out⟩
        case measure => simp [intOf]; omega
    · have hke : k = 9 := by omega
      have hl0 : ¬ ((k : Nat) : Int) < 9 := by omega
      have HR := Lib.hid (show nameT e = [] by unfold nameT; rw [HN.out, hke]; rfl)
      clear hke
      go_wp2_with fail
      go_ret
      exact ⟨by rw [HR.out]; rfl, hbel⟩

end Go.Proofs.YtaoehdmdjplegaaGreatDoor
namespace Go.Proofs.YtaoehdmdjplegaaGreatDoor
open Go.RowKit Go.Shelf

theorem OwnsS.lit (w : World) (base : Nat) (l : List (List UInt8)) (hb : base ≤ w.heap.size) (hl : l.length ≤ 1000) : OwnsS (w.alloc (.cells (strV l).toArray 9)) base (.slice (some ⟨w.heap.size, 0, none⟩) l.length l.length) l := by
  have := World.ownsRow_lit (base := base) (e := 9) (size := 1) w (strV l).toArray l.length hb (by simp only [maxLen]; omega) (by simp [strV])
  simpa [OwnsS] using this
theorem joinC_len (n : Nat) : ∀ ws : List (List UInt8), (∀ x ∈ ws, x.length ≤ n) → (joinC ws).length ≤ ws.length * (n + 1)
  | [], _ => by simp [joinC]
  | [w], h => by have := h w (by simp); simp [joinC]; omega
  | w :: v :: ws, h => by
    have ih := joinC_len n (v :: ws) (fun x hx => h x (by simp only [List.mem_cons] at hx ⊢; exact .inr hx))
    have h0 := h w (by simp)
    have e1 : (w :: v :: ws).length * (n + 1) = (v :: ws).length * (n + 1) + (n + 1) := Nat.succ_mul _ _
    rw [joinC, e1]
    simp only [List.length_append, List.length_cons] at ih ⊢
    omega
/-- What an event's words leave. -/
def WrdPost (e : Ev) (w : World) (en : Ending) (w' : World) : Prop :=
  ∃ (v : Value) (l : List (List UInt8)) (b : Bool), en = .returned (.tuple #[v, .bool b]) ∧ OwnsS w' w.heap.size v l ∧ Below w.heap.size w w' ∧ l.length ≤ 100 ∧ (joinC l).length ≤ 90000 ∧ wordsP e = if b = true then some l else none
/-- What lies in memory while an event's words are written. -/
structure WrM (e : Ev) (va : Value) (w0 w : World) : Prop where
  bel : Below w0.heap.size w0 w
  ev : Blk w w0.heap.size 34 (evC e va).toArray
  ch : Blk w (w0.heap.size + 1) 32 (chC e).toArray
  by_ : Byts w w0.heap.size va e.bytes
  scr : ScrW w
  sz : w0.heap.size + 2 ≤ w.heap.size
theorem WrM.lo {e : Ev} {va : Value} {w0 w : World} (h : WrM e va w0 w) : w0.heap.size ≤ w.heap.size := by have := h.sz; omega
theorem WrM.more {e : Ev} {va : Value} {w0 w w' : World} (h : WrM e va w0 w) (hb : Below w.heap.size w w') : WrM e va w0 w' :=
  ⟨h.bel.trans (hb.mono h.lo), h.ev.below hb h.ev.lt, h.ch.below hb h.ch.lt, h.by_.below (hb.mono h.lo), h.scr.below hb (Nat.le_refl _), Nat.le_trans h.sz hb.size⟩
theorem WrM.app {e : Ev} {va : Value} {w0 w w' : World} (h : WrM e va w0 w) (hb : Below (w0.heap.size + 2) w w') (hs : ScrW w0) : WrM e va w0 w' :=
  ⟨h.bel.trans (hb.mono (by omega)), h.ev.below hb (by omega), h.ch.below hb (by omega), h.by_.below (hb.mono (by omega)), hs.below (h.bel.trans (hb.mono (by omega))) (Nat.le_refl _), Nat.le_trans h.sz hb.size⟩
theorem WrM.lit {e : Ev} {va : Value} {w0 w : World} (h : WrM e va w0 w) (l : List (List UInt8)) (hl : l.length ≤ 1000) : OwnsS (w.alloc (.cells (strV l).toArray 9)) (w0.heap.size + 2) (.slice (some ⟨w.heap.size, 0, none⟩) l.length l.length) l := OwnsS.lit w _ l h.sz hl
theorem WrdPost.done {e : Ev} {va v : Value} {w0 w : World} {l : List (List UInt8)} (h : WrM e va w0 w) (ho : OwnsS w (w0.heap.size + 2) v l) (h1 : l.length ≤ 100) (h2 : (joinC l).length ≤ 90000) (h3 : wordsP e = some l) : WrdPost e w0 (.returned (.tuple #[v, .bool true])) w :=
  ⟨v, l, true, rfl, ho.base_le (by omega), h.bel, h1, h2, h3⟩
theorem WrdPost.no {e : Ev} {va v : Value} {w0 w : World} {l : List (List UInt8)} (h : WrM e va w0 w) (ho : OwnsS w (w0.heap.size + 2) v l) (h1 : l.length ≤ 100) (h2 : (joinC l).length ≤ 90000) (h3 : wordsP e = none) : WrdPost e w0 (.returned (.tuple #[v, .bool false])) w :=
  ⟨v, l, false, rfl, ho.base_le (by omega), h.bel, h1, h2, h3⟩
theorem evC_ch' (e : Ev) (bv : Value) : ∀ j v, (chC e)[j]? = some v → (evC e bv)[4 + j]? = some v := fun j v h => by
  show ([.int .u8 (e.kind : Int), .int .i64 e.client, .int .i64 e.n, bv] ++ (chC e))[4 + j]? = some v
  rw [List.getElem?_append_right (by simp)]
  simpa using h
theorem evC_self' (o : Ev) (b : Value) : ∀ j v, (evC o b)[j]? = some v → (evC o b)[0 + j]? = some v := fun j v h => by rw [Nat.zero_add]; exact h
theorem chC_all' (a b : Ev) : setL (chC a) 0 (chC b) = chC b := setL_all (by rw [chC_len, chC_len])
theorem quoted_len (s : List UInt8) : (quoted s).length ≤ 4 * s.length + 2 := by
  have := escs_len s
  simp [quoted]
  omega
theorem pickWs_small : ∀ (T : List (List (List UInt8))) (X : List Nat) (ws : List (List UInt8)), (∀ t ∈ T, ∀ x ∈ t, x.length ≤ 200) → pickWs T X = some ws → ws.length ≤ T.length ∧ ∀ x ∈ ws, x.length ≤ 200
  | [], _, ws, _, h => by simp [pickWs] at h; subst h; simp
  | t :: T, [], ws, _, h => by simp [pickWs] at h; subst h; simp
  | t :: T, x :: X, ws, ht, h => by
    rw [pickWs] at h
    cases hp : pickW t x with
    | none => rw [hp] at h; cases h
    | some w =>
      rw [hp] at h
      obtain ⟨r, hr, rfl⟩ := Option.map_eq_some_iff.1 h
      obtain ⟨h1, h2⟩ := pickWs_small T X r (fun t' h' => ht t' (by simp [h'])) hr
      have hw : w.length ≤ 1 ∧ ∀ y ∈ w, y.length ≤ 200 := by
        unfold pickW at hp
        split at hp
        · cases hp
        · rename_i v hv
          have := ht t (by simp) v (List.mem_of_getElem? hv)
          split at hp
          · cases hp
          · split at hp <;> (injection hp with hp; subst hp; simp_all)
      refine ⟨by simp; omega, fun y hy => ?_⟩
      rcases List.mem_append.1 hy with hy | hy
      · exact hw.2 y hy
      · exact h2 y hy
theorem lenWs_small : ∀ (T : List (List UInt8)) (X : List (Nat × Int)) (ws : List (List UInt8)), (∀ t ∈ T, t.length ≤ 100) → (∀ x ∈ X, I64 x.2) → lenWs T X = some ws → ws.length ≤ T.length ∧ ∀ x ∈ ws, x.length ≤ 200
  | [], _, ws, _, _, h => by simp [lenWs] at h; subst h; simp
  | t :: T, [], ws, _, _, h => by simp [lenWs] at h; subst h; simp
  | t :: T, x :: X, ws, ht, hx, h => by
    rw [lenWs] at h
    cases hp : lenW t x with
    | none => rw [hp] at h; cases h
    | some w =>
      rw [hp] at h
      obtain ⟨r, hr, rfl⟩ := Option.map_eq_some_iff.1 h
      obtain ⟨h1, h2⟩ := lenWs_small T X r (fun t' h' => ht t' (by simp [h'])) (fun x' h' => hx x' (by simp [h'])) hr
      have h100 := ht t (by simp)
      have hi := itoa_size (hx x (by simp))
      rw [mkB_size] at hi
      have hw : w.length ≤ 1 ∧ ∀ y ∈ w, y.length ≤ 200 := by
        unfold lenW at hp
        split at hp
        · injection hp with hp; subst hp; simp
        · split at hp
          · injection hp with hp; subst hp; simp; omega
          · split at hp
            · injection hp with hp; subst hp; simp; omega
            · cases hp
      refine ⟨by simp; omega, fun y hy => ?_⟩
      rcases List.mem_append.1 hy with hy | hy
      · exact hw.2 y hy
      · exact h2 y hy
theorem numWs_small : ∀ (T : List (List UInt8)) (X : List Int), (∀ t ∈ T, t.length ≤ 100) → (∀ x ∈ X, I64 x) → (numWs T X).length ≤ T.length ∧ ∀ x ∈ numWs T X, x.length ≤ 200
  | [], _, _, _ => by simp [numWs]
  | t :: T, [], _, _ => by simp [numWs]
  | t :: T, x :: X, ht, hx => by
    obtain ⟨h1, h2⟩ := numWs_small T X (fun t' h' => ht t' (by simp [h'])) (fun x' h' => hx x' (by simp [h']))
    have h100 := ht t (by simp)
    have hi := itoa_size (hx x (by simp))
    rw [mkB_size] at hi
    rw [numWs]
    have hw : (numW t x).length ≤ 1 ∧ ∀ y ∈ numW t x, y.length ≤ 200 := by
      unfold numW
      split
      · simp
      · simp; omega
    refine ⟨by simp; omega, fun y hy => ?_⟩
    rcases List.mem_append.1 hy with hy | hy
    · exact hw.2 y hy
    · exact h2 y hy
theorem stylW_small {s : Sty} (hs : s.Ok) {ws : List (List UInt8)} (h : stylW s = some ws) : ws.length ≤ 40 ∧ ∀ x ∈ ws, x.length ≤ 200 := by
  unfold stylW at h
  split at h
  · rename_i a b ha hb
    injection h with h
    subst h
    obtain ⟨a1, a2⟩ := pickWs_small _ _ _ (by decide) ha
    obtain ⟨b1, b2⟩ := lenWs_small _ _ _ (by decide) (fun x hx => (hs.lk x hx).2) hb
    obtain ⟨c1, c2⟩ := numWs_small numsT s.nums (by decide) hs.nk
    have d1 : (flagW s).length ≤ 2 ∧ ∀ x ∈ flagW s, x.length ≤ 200 := by
      unfold flagW
      cases s.whole <;> cases s.wrap <;> decide
    have e1 : picksT.length = 7 := rfl
    have e2 : lensT.length = 11 := rfl
    have e3 : numsT.length = 16 := rfl
    refine ⟨by simp; omega, fun x hx => ?_⟩
    simp only [List.mem_append] at hx
    rcases hx with hx | hx | hx | hx
    · exact a2 x hx
    · exact d1.2 x hx
    · exact b2 x hx
    · exact c2 x hx
  · cases h
theorem joins_ok (n m : Nat) (l : List (List UInt8)) (hl : l.length ≤ m) (hx : ∀ x ∈ l, x.length ≤ n) (h : m * (n + 1) ≤ 90000) : (joinC l).length ≤ 90000 := by
  have h1 := joinC_len n l hx
  have h2 := Nat.mul_le_mul_right (n + 1) hl
  omega
theorem fldO_len (e : Ev) : (fldO e.kind e.ck).length = (getF e).length := by
  unfold fldO getF
  (repeat' split) <;> rfl
theorem fldO_at (e : Ev) (va : Value) (j : Nat) (hj : j < (getF e).length) : (evC e va)[(fldO e.kind e.ck).getD j 0]? = some (.int .i64 ((getF e).getD j 0)) := by
  unfold fldO
  unfold getF at hj ⊢
  by_cases c1 : e.kind = 1 ∧ e.ck = 2
  · rw [if_pos c1] at hj
    rw [if_pos c1, if_pos c1]
    have : j = 0 ∨ j = 1 ∨ j = 2 := by first | (simp at hj; omega) | simp at hj
    rcases this with rfl | rfl | rfl <;> first | rfl | (simp at hj)
  · rw [if_neg c1] at hj
    rw [if_neg c1, if_neg c1]
    by_cases c2 : e.kind = 1
    · rw [if_pos c2] at hj
      rw [if_pos c2, if_pos c2]
      have : j = 0 ∨ j = 1 ∨ j = 2 := by first | (simp at hj; omega) | simp at hj
      rcases this with rfl | rfl | rfl <;> first | rfl | (simp at hj)
    · rw [if_neg c2] at hj
      rw [if_neg c2, if_neg c2]
      by_cases c3 : e.kind = 2
      · rw [if_pos c3] at hj
        rw [if_pos c3, if_pos c3]
        have : j = 0 ∨ j = 1 ∨ j = 2 := by first | (simp at hj; omega) | simp at hj
        rcases this with rfl | rfl | rfl <;> first | rfl | (simp at hj)
      · rw [if_neg c3] at hj
        rw [if_neg c3, if_neg c3]
        by_cases c4 : e.kind = 3
        · rw [if_pos c4] at hj
          rw [if_pos c4, if_pos c4]
          have : j = 0 ∨ j = 1 ∨ j = 2 := by first | (simp at hj; omega) | simp at hj
          rcases this with rfl | rfl | rfl <;> first | rfl | (simp at hj)
        · rw [if_neg c4] at hj
          rw [if_neg c4, if_neg c4]
          by_cases c5 : e.kind = 8
          · rw [if_pos c5] at hj
            rw [if_pos c5, if_pos c5]
            have : j = 0 ∨ j = 1 ∨ j = 2 := by first | (simp at hj; omega) | simp at hj
            rcases this with rfl | rfl | rfl <;> first | rfl | (simp at hj)
          · rw [if_neg c5] at hj
            rw [if_neg c5, if_neg c5]
            by_cases c6 : e.kind = 4
            · rw [if_pos c6] at hj
              rw [if_pos c6, if_pos c6]
              have : j = 0 ∨ j = 1 ∨ j = 2 := by first | (simp at hj; omega) | simp at hj
              rcases this with rfl | rfl | rfl <;> first | rfl | (simp at hj)
            · rw [if_neg c6] at hj
              rw [if_neg c6, if_neg c6]
              have : j = 0 ∨ j = 1 ∨ j = 2 := by first | (simp at hj; omega) | simp at hj
              rcases this with rfl | rfl | rfl <;> first | rfl | (simp at hj)
/-- A word is appended: all but its own row stands. -/
theorem append_word_k {ops : Array Oper} {rest : List Oper} {o : Oper} {a : Act} {Q : Exit → Act → World → Prop} (w : World) (x : List UInt8) (cv : Value) (hcv : cv = .string (mkB x)) (hgd : o.guard = none) (s y : Operand)
    (ho : o.op = .call { callee := .builtin .append, args := #[s, y], argTypes := #[47, 47] })
    (base : Nat) (v : Value) (l : List (List UInt8)) (hs : a.eval s = v) (hown : OwnsS w base v l) (hx : a.eval y = .slice (some ⟨w.heap.size, 0, none⟩) 1 1)
    (h47 : l.length < 900000) (hbase : base ≤ w.heap.size)
    (h : ∀ v' w', OwnsS w' base v' (l ++ [x]) → (w.alloc (.cells #[cv] 9)).grownBy w' v.ownBlock → (v'.ownBlock = v.ownBlock ∨ v'.ownBlock = some (w.heap.size + 1)) → Below base w w' → wpList Tryz.prog ops Q rest (a.put o.dst v') w') : wpList Tryz.prog ops Q (o :: rest) a (w.alloc (.cells #[cv] 9)) := by
  subst hcv
  obtain ⟨i0, hi0, hz0, hz1, hz2⟩ := info_parts Tryz.infoStr
  have hlt := fun k (e : v.ownBlock = some k) => (World.ownsRow.lt hown k e).1
  obtain ⟨A, c, hA, _, hr⟩ := strs_one w x
  refine wpList_append_any _ hgd s y _ ho base 9 i0 _ 1 16 Tryz.underlying47 hi0 hz0 hz1 hz2 rfl (by omega) v _ _ hs (World.ownsRow.alloc hown _) (w.heap.size + 1) A 1 c (strV [x]) (hx.trans hA) hr ?_ (by simp only [maxLen]; omega) (by omega) (by simp; omega) ?_
  · intro u hu
    simp [strV] at hu
    subst hu
    rfl
  · intro v' w' h1 h2 h3
    refine h v' w' (by unfold OwnsS; rw [List.length_append, show strV (l ++ [x]) = strV l ++ strV [x] by simp [strV]]; exact h1) h2 (by simpa using h3) ?_
    exact ((Below.refl base w).alloc hbase _).grown h2 (by simp; omega) (fun k e => hlt k e)
theorem getF_le (e : Ev) : (getF e).length ≤ 3 := by
  unfold getF
  (repeat' split) <;> simp
theorem plain_short : ∀ t ∈ plainT, t.1.length ≤ 200 := by decide
theorem plain_some : ∀ t ∈ plainT, (mkB t.1).toList.isEmpty = false := by
  intro t ht
  rw [Lib.toList_data, mkB_toList]
  revert t
  decide
def WzA (e : Ev) (va : Value) (t : List UInt8) (w0 : World) (_g : Nat) (l i : Value) (w : World) : Prop := i = .int .i64 0 ∧ OwnsS w (w0.heap.size + 2) l [t] ∧ WrM e va w0 w
theorem ScrW.lo_ {w : World} (h : ScrW w) : 0 < w.heap.size := by
  have := World.block_lt_of_cell? w _ (h.len 0 (by omega))
  omega
/-- The words of a plain event, as they are written. -/
def WfA (e : Ev) (va : Value) (t : List UInt8) (w0 : World) (N : Nat) (g : Nat) (l i : Value) (w : World) : Prop :=
  ∃ k : Nat, k + g = (getF e).length ∧ i = .int .i64 k ∧ OwnsS w (w0.heap.size + 2) l (t :: ((getF e).take k).map Lib.itoa) ∧ WrM e va w0 w ∧ (∀ b, l.ownBlock = some b → b ≠ N) ∧ (∃ ty, Blk w N ty (ptrsC w0.heap.size 0 (fldO e.kind e.ck)))
theorem hexW_len' {l : List UInt8} (h : l.length ≤ 3000) : (hexW l).length ≤ 6001 := by
  unfold hexW
  split
  · simp
  · rw [hexs_len]; omega

set_option maxRecDepth 100000 in
set_option maxHeartbeats 8000000 in
theorem words_any (e : Ev) (he : e.Ok) (htx : e.text.length ≤ 4100) (hbl : e.bytes.length ≤ 3000) (va : Value) (w : World) (hw : ScrW w) (hyb : Byts w w.heap.size va e.bytes) :
    Calls Tryz.prog 11 #[.agg (evC e va).toArray] w (WrdPost e w) := by
  obtain ⟨W, hW⟩ : ∃ W, W = w.alloc (.cells (evC e va).toArray 34) := ⟨_, rfl⟩
  have hbel : Below w.heap.size w W := by rw [hW]; exact below_one _ _
  have g1 : Blk W w.heap.size 34 (evC e va).toArray := by rw [hW]; exact Blk.new w _ _
  have hsz : w.heap.size + 1 = W.heap.size := by rw [hW]; simp
  have HSZ := Lib.hid hsz
  have z1 := itoa_size he.key
  have z2 := itoa_size he.parent
  have z3 := itoa_size he.at_
  have z4 := itoa_size he.client
  simp only [mkB_size] at z1 z2 z3 z4
  go_enter Tryz.func11, Tryz.ntmps11
  go_upto_region 1 with fail
  rw [← hW]
  clear hW hsz
  go_upto_region 2 with (first | (refine wpList_load_blk rfl 32 _ rfl w.heap.size 4 34 (evC e va) (chC e) _ rfl g1 (evC_ch' e va) Tryz.underlying32 rfl chC_size ?_) | (refine wpList_store_blk rfl 32 _ _ rfl W.heap.size 0 32 (chC ev0) (chC e) rfl (Blk.new W _ _) rfl (by rw [chC_len, chC_len]; exact Nat.le_refl _) chC_size (chC_cells _) ?_; intro w6 b6 k6 z6; rw [chC_all'] at b6; have hb6 : Below W.heap.size W w6 := (below_one _ _).trans (Kept.to_below k6 (by simp) (by simp)); have hm : WrM e va w w6 := ⟨hbel.trans (hb6.mono hbel.size), g1.below hb6 g1.lt, HSZ.out ▸ b6, (hyb.below hbel).below (hb6.mono hbel.size), hw.below (hbel.trans (hb6.mono hbel.size)) (Nat.le_refl _), by have h1 := HSZ.out; have h2 := b6.lt; omega⟩; clear b6 k6 z6 hb6; simp only [Act.put]))
  rw [← HSZ.out]
  have HW0 := Lib.hid hw
  clear g1 hbel hyb hw HSZ
  refine wp_region_held_drew (S := fun w' => WrM e va w w') (by kernel_rfl) (hm.more (below_drewN (Below.refl _ _) 1)) (fun hHeld => ?_)
  clear hm
  refine wpAnyH_take (i := 0) (v := ?va1) rfl (by kernel_rfl) (by kernel_rfl) (by kernel_rfl) (fun _ _ _ h => h) (Or.inl ⟨by rfl, ?hya1⟩) (by assumption) ?resta1
  case hya1 => (intro w' hSw; have q1 : w'.cell? ⟨w.heap.size + 1, 1, none⟩ = some (.int .i64 e.key) := hSw.ch.cell 1; have q2 : w'.cell? ⟨w.heap.size + 1, 2, none⟩ = some (.int .i64 e.parent) := hSw.ch.cell 2; have q3 : w'.cell? ⟨w.heap.size + 1, 3, none⟩ = some (.int .i64 e.at_) := hSw.ch.cell 3; clear hSw; go_simp; try with_reducible rfl)
  case resta1 =>
  change wpAnyH _ _ _ _ _ _ _ (Act.put _ (some 16) _) _
  try simp only [Act.put, List.setIfInBounds_toArray, List.set_cons_zero, List.set_cons_succ]
  refine wpAnyH_take (i := 1) (v := ?va2) rfl (by kernel_rfl) (by kernel_rfl) (by kernel_rfl) (fun _ _ _ h => h) (Or.inl ⟨by rfl, ?hya2⟩) (by assumption) ?resta2
  case hya2 => (intro w' hSw; have q1 : w'.cell? ⟨w.heap.size + 1, 1, none⟩ = some (.int .i64 e.key) := hSw.ch.cell 1; have q2 : w'.cell? ⟨w.heap.size + 1, 2, none⟩ = some (.int .i64 e.parent) := hSw.ch.cell 2; have q3 : w'.cell? ⟨w.heap.size + 1, 3, none⟩ = some (.int .i64 e.at_) := hSw.ch.cell 3; clear hSw; go_simp; try with_reducible rfl)
  case resta2 =>
  change wpAnyH _ _ _ _ _ _ _ (Act.put _ (some 17) _) _
  try simp only [Act.put, List.setIfInBounds_toArray, List.set_cons_zero, List.set_cons_succ]
  refine wpAnyH_take (i := 3) (v := ?va3) rfl (by kernel_rfl) (by kernel_rfl) (by kernel_rfl) (fun _ _ _ h => h) (Or.inl ⟨by rfl, ?hya3⟩) (by assumption) ?resta3
  case hya3 => (intro w' hSw; have q1 : w'.cell? ⟨w.heap.size + 1, 1, none⟩ = some (.int .i64 e.key) := hSw.ch.cell 1; have q2 : w'.cell? ⟨w.heap.size + 1, 2, none⟩ = some (.int .i64 e.parent) := hSw.ch.cell 2; have q3 : w'.cell? ⟨w.heap.size + 1, 3, none⟩ = some (.int .i64 e.at_) := hSw.ch.cell 3; clear hSw; go_simp; try with_reducible rfl)
  case resta3 =>
  change wpAnyH _ _ _ _ _ _ _ (Act.put _ (some 19) _) _
  try simp only [Act.put, List.setIfInBounds_toArray, List.set_cons_zero, List.set_cons_succ]
  refine wpAnyH_take (i := 4) (v := ?va4) rfl (by kernel_rfl) (by kernel_rfl) (by kernel_rfl) (fun _ _ _ h => h) (Or.inl ⟨by rfl, ?hya4⟩) (by assumption) ?resta4
  case hya4 => (intro w' hSw; have q1 : w'.cell? ⟨w.heap.size + 1, 1, none⟩ = some (.int .i64 e.key) := hSw.ch.cell 1; have q2 : w'.cell? ⟨w.heap.size + 1, 2, none⟩ = some (.int .i64 e.parent) := hSw.ch.cell 2; have q3 : w'.cell? ⟨w.heap.size + 1, 3, none⟩ = some (.int .i64 e.at_) := hSw.ch.cell 3; clear hSw; go_simp; try with_reducible rfl)
  case resta4 =>
  change wpAnyH _ _ _ _ _ _ _ (Act.put _ (some 20) _) _
  try simp only [Act.put, List.setIfInBounds_toArray, List.set_cons_zero, List.set_cons_succ]
  refine wpAnyH_take (i := 6) (v := ?va5) rfl (by kernel_rfl) (by kernel_rfl) (by kernel_rfl) (fun _ _ _ h => h) (Or.inl ⟨by rfl, ?hya5⟩) (by assumption) ?resta5
  case hya5 => (intro w' hSw; have q1 : w'.cell? ⟨w.heap.size + 1, 1, none⟩ = some (.int .i64 e.key) := hSw.ch.cell 1; have q2 : w'.cell? ⟨w.heap.size + 1, 2, none⟩ = some (.int .i64 e.parent) := hSw.ch.cell 2; have q3 : w'.cell? ⟨w.heap.size + 1, 3, none⟩ = some (.int .i64 e.at_) := hSw.ch.cell 3; clear hSw; go_simp; try with_reducible rfl)
  case resta5 =>
  change wpAnyH _ _ _ _ _ _ _ (Act.put _ (some 22) _) _
  try simp only [Act.put, List.setIfInBounds_toArray, List.set_cons_zero, List.set_cons_succ]
  refine wpAnyH_take (i := 7) (v := ?va6) rfl (by kernel_rfl) (by kernel_rfl) (by kernel_rfl) (fun _ _ _ h => h) (Or.inl ⟨by rfl, ?hya6⟩) (by assumption) ?resta6
  case hya6 => (intro w' hSw; have q1 : w'.cell? ⟨w.heap.size + 1, 1, none⟩ = some (.int .i64 e.key) := hSw.ch.cell 1; have q2 : w'.cell? ⟨w.heap.size + 1, 2, none⟩ = some (.int .i64 e.parent) := hSw.ch.cell 2; have q3 : w'.cell? ⟨w.heap.size + 1, 3, none⟩ = some (.int .i64 e.at_) := hSw.ch.cell 3; clear hSw; go_simp; try with_reducible rfl)
  case resta6 =>
  change wpAnyH _ _ _ _ _ _ _ (Act.put _ (some 23) _) _
  try simp only [Act.put, List.setIfInBounds_toArray, List.set_cons_zero, List.set_cons_succ]
  refine wpAnyH_ready (rs := [2]) (by kernel_rfl) (by simp) ?_
  refine AllReadyH.cons rfl (fun K hK => ?_) AllReadyH.nil
  go_simp
  go_at_call 26
  with_reducible refine (itoa_num he.key hHeld.scr.num).mono ?_
  rintro e12 w12 ⟨rfl, hb12⟩
  refine hK.out _ _ (hHeld.more hb12) (fun hHeld => ?_)
  clear hb12
  clear hK K
  try change wpAnyH _ _ _ _ _ _ _ (Act.put _ (some 18) _) _
  try simp only [Act.put, List.setIfInBounds_toArray, List.set_cons_zero, List.set_cons_succ]
  refine wpAnyH_ready (rs := [5]) (by kernel_rfl) (by simp) ?_
  refine AllReadyH.cons rfl (fun K hK => ?_) AllReadyH.nil
  go_simp
  go_at_call 26
  with_reducible refine (itoa_num he.parent hHeld.scr.num).mono ?_
  rintro e15 w15 ⟨rfl, hb15⟩
  refine hK.out _ _ (hHeld.more hb15) (fun hHeld => ?_)
  clear hb15
  clear hK K
  try change wpAnyH _ _ _ _ _ _ _ (Act.put _ (some 21) _) _
  try simp only [Act.put, List.setIfInBounds_toArray, List.set_cons_zero, List.set_cons_succ]
  refine wpAnyH_ready (rs := [8]) (by kernel_rfl) (by simp) ?_
  refine AllReadyH.cons rfl (fun K hK => ?_) AllReadyH.nil
  go_simp
  go_at_call 26
  with_reducible refine (itoa_num he.at_ hHeld.scr.num).mono ?_
  rintro e18 w18 ⟨rfl, hb18⟩
  refine hK.out _ _ (hHeld.more hb18) (fun hHeld => ?_)
  clear hb18
  clear hK K
  try change wpAnyH _ _ _ _ _ _ _ (Act.put _ (some 24) _) _
  try simp only [Act.put, List.setIfInBounds_toArray, List.set_cons_zero, List.set_cons_succ]
  refine wpAnyH_take (i := 9) (v := ?va7) rfl (by kernel_rfl) (by kernel_rfl) (by kernel_rfl) (fun _ _ _ h => h) (Or.inl ⟨by rfl, ?hya7⟩) (by assumption) ?resta7
  case hya7 => (intro w' hSw; have q1 : w'.cell? ⟨w.heap.size + 1, 1, none⟩ = some (.int .i64 e.key) := hSw.ch.cell 1; have q2 : w'.cell? ⟨w.heap.size + 1, 2, none⟩ = some (.int .i64 e.parent) := hSw.ch.cell 2; have q3 : w'.cell? ⟨w.heap.size + 1, 3, none⟩ = some (.int .i64 e.at_) := hSw.ch.cell 3; clear hSw; go_simp; try with_reducible rfl)
  case resta7 =>
  change wpAnyH _ _ _ _ _ _ _ (Act.put _ (some 5) _) _
  try simp only [Act.put, List.setIfInBounds_toArray, List.set_cons_zero, List.set_cons_succ]
  refine wpAnyH_take (i := 10) (v := ?va8) rfl (by kernel_rfl) (by kernel_rfl) (by kernel_rfl) (fun _ _ _ h => h) (Or.inl ⟨by rfl, ?hya8⟩) (by assumption) ?resta8
  case hya8 => (intro w' hSw; have q1 : w'.cell? ⟨w.heap.size + 1, 1, none⟩ = some (.int .i64 e.key) := hSw.ch.cell 1; have q2 : w'.cell? ⟨w.heap.size + 1, 2, none⟩ = some (.int .i64 e.parent) := hSw.ch.cell 2; have q3 : w'.cell? ⟨w.heap.size + 1, 3, none⟩ = some (.int .i64 e.at_) := hSw.ch.cell 3; clear hSw; go_simp; try with_reducible rfl)
  case resta8 =>
  change wpAnyH _ _ _ _ _ _ _ (Act.put _ (some 6) _) _
  try simp only [Act.put, List.setIfInBounds_toArray, List.set_cons_zero, List.set_cons_succ]
  refine wpAnyH_take (i := 11) (v := ?va9) rfl (by kernel_rfl) (by kernel_rfl) (by kernel_rfl) (fun _ _ _ h => h) (Or.inl ⟨by rfl, ?hya9⟩) (by assumption) ?resta9
  case hya9 => (intro w' hSw; have q1 : w'.cell? ⟨w.heap.size + 1, 1, none⟩ = some (.int .i64 e.key) := hSw.ch.cell 1; have q2 : w'.cell? ⟨w.heap.size + 1, 2, none⟩ = some (.int .i64 e.parent) := hSw.ch.cell 2; have q3 : w'.cell? ⟨w.heap.size + 1, 3, none⟩ = some (.int .i64 e.at_) := hSw.ch.cell 3; clear hSw; go_simp; try with_reducible rfl)
  case resta9 =>
  change wpAnyH _ _ _ _ _ _ _ (Act.put _ (some 7) _) _
  try simp only [Act.put, List.setIfInBounds_toArray, List.set_cons_zero, List.set_cons_succ]
  refine wpAnyH_done (by kernel_rfl) ?_ _
  skip
  have hm := hHeld
  clear hHeld
  have k0 : w18.cell? ⟨w.heap.size, 0, none⟩ = some (.int .u8 ((e.kind : Nat) : Int)) := hm.ev.cell 0
  have k4 : w18.cell? ⟨w.heap.size + 1, 0, none⟩ = some (.int .u8 ((e.ck : Nat) : Int)) := hm.ch.cell 0
  by_cases h9 : e.kind = 9
  · have t1 : (((e.kind : Nat) : Int) == 9) = true := by rw [beq_iff_eq]; omega
    have HW := Lib.hid (show wordsP e = some [injectB, Lib.itoa e.client, hexW e.bytes] by unfold wordsP; rw [if_pos h9])
    have hx := hexW_len' hbl
    have HJ := Lib.hid (joins_ok 16500 5 [injectB, Lib.itoa e.client, hexW e.bytes] (by simp) (by
      intro x hx
      simp only [List.mem_cons, List.not_mem_nil, or_false] at hx
      rcases hx with rfl | rfl | rfl
      · decide
      · omega
      · omega) (by decide))
    clear h9 hx
    go_upto_region 15 with fail
    refine wp_region_held_drew (S := fun w' => WrM e va w w') (by kernel_rfl) (hm.more (below_drewN (Below.refl _ _) 1)) (fun hHeld => ?_)
    clear hm k0 k4
    refine wpAnyH_take (i := 0) (v := ?vb1) rfl (by kernel_rfl) (by kernel_rfl) (by kernel_rfl) (fun _ _ _ h => h) (Or.inl ⟨by rfl, ?hyb1⟩) (by assumption) ?restb1
    case hyb1 => (intro w' hSw; have q1 : w'.cell? ⟨w.heap.size, 1, none⟩ = some (.int .i64 e.client) := hSw.ev.cell 1; have q3 : w'.cell? ⟨w.heap.size, 3, none⟩ = some va := hSw.ev.cell 3; clear hSw; go_simp; try with_reducible rfl)
    case restb1 =>
    change wpAnyH _ _ _ _ _ _ _ (Act.put _ (some 52) _) _
    try simp only [Act.put, List.setIfInBounds_toArray, List.set_cons_zero, List.set_cons_succ]
    refine wpAnyH_take (i := 1) (v := ?vb2) rfl (by kernel_rfl) (by kernel_rfl) (by kernel_rfl) (fun _ _ _ h => h) (Or.inl ⟨by rfl, ?hyb2⟩) (by assumption) ?restb2
    case hyb2 => (intro w' hSw; have q1 : w'.cell? ⟨w.heap.size, 1, none⟩ = some (.int .i64 e.client) := hSw.ev.cell 1; have q3 : w'.cell? ⟨w.heap.size, 3, none⟩ = some va := hSw.ev.cell 3; clear hSw; go_simp; try with_reducible rfl)
    case restb2 =>
    change wpAnyH _ _ _ _ _ _ _ (Act.put _ (some 53) _) _
    try simp only [Act.put, List.setIfInBounds_toArray, List.set_cons_zero, List.set_cons_succ]
    refine wpAnyH_take (i := 3) (v := ?vb3) rfl (by kernel_rfl) (by kernel_rfl) (by kernel_rfl) (fun _ _ _ h => h) (Or.inl ⟨by rfl, ?hyb3⟩) (by assumption) ?restb3
    case hyb3 => (intro w' hSw; have q1 : w'.cell? ⟨w.heap.size, 1, none⟩ = some (.int .i64 e.client) := hSw.ev.cell 1; have q3 : w'.cell? ⟨w.heap.size, 3, none⟩ = some va := hSw.ev.cell 3; clear hSw; go_simp; try with_reducible rfl)
    case restb3 =>
    change wpAnyH _ _ _ _ _ _ _ (Act.put _ (some 55) _) _
    try simp only [Act.put, List.setIfInBounds_toArray, List.set_cons_zero, List.set_cons_succ]
    refine wpAnyH_take (i := 4) (v := ?vb4) rfl (by kernel_rfl) (by kernel_rfl) (by kernel_rfl) (fun _ _ _ h => h) (Or.inl ⟨by rfl, ?hyb4⟩) (by assumption) ?restb4
    case hyb4 => (intro w' hSw; have q1 : w'.cell? ⟨w.heap.size, 1, none⟩ = some (.int .i64 e.client) := hSw.ev.cell 1; have q3 : w'.cell? ⟨w.heap.size, 3, none⟩ = some va := hSw.ev.cell 3; clear hSw; go_simp; try with_reducible rfl)
    case restb4 =>
    change wpAnyH _ _ _ _ _ _ _ (Act.put _ (some 56) _) _
    try simp only [Act.put, List.setIfInBounds_toArray, List.set_cons_zero, List.set_cons_succ]
    refine wpAnyH_ready (rs := [2]) (by kernel_rfl) (by simp) ?_
    refine AllReadyH.cons rfl (fun K hK => ?_) AllReadyH.nil
    go_simp
    go_at_call 26
    with_reducible refine (itoa_num he.client hHeld.scr.num).mono ?_
    rintro e20 w20 ⟨rfl, hb20⟩
    refine hK.out _ _ (hHeld.more hb20) (fun hHeld => ?_)
    clear hb20
    clear hK K
    try change wpAnyH _ _ _ _ _ _ _ (Act.put _ (some 54) _) _
    try simp only [Act.put, List.setIfInBounds_toArray, List.set_cons_zero, List.set_cons_succ]
    refine wpAnyH_ready (rs := [5]) (by kernel_rfl) (by simp) ?_
    refine AllReadyH.cons rfl (fun K hK => ?_) AllReadyH.nil
    go_simp
    go_at_call 27
    with_reducible refine (hex_any e.bytes hbl va w.heap.size _ hHeld.by_ hHeld.lo).mono ?_
    rintro e21 w21 ⟨rfl, hb21⟩
    refine hK.out _ _ (hHeld.more hb21) (fun hHeld => ?_)
    clear hb21
    clear hK K
    try change wpAnyH _ _ _ _ _ _ _ (Act.put _ (some 57) _) _
    try simp only [Act.put, List.setIfInBounds_toArray, List.set_cons_zero, List.set_cons_succ]
    refine wpAnyH_ready (rs := [6]) (by kernel_rfl) (by simp) ?_
    refine AllReadyH.cons rfl (fun K hK => ?_) AllReadyH.nil
    go_simp
    have hown := hHeld.lit [injectB, Lib.itoa e.client, hexW e.bytes] (by simp)
    refine hK.out _ _ (hHeld.more (below_one _ _)) (fun hHeld => ?_)
    clear hK K
    try change wpAnyH _ _ _ _ _ _ _ (Act.put _ (some 58) _) _
    try simp only [Act.put, List.setIfInBounds_toArray, List.set_cons_zero, List.set_cons_succ]
    refine wpAnyH_take (i := 7) (v := ?vb5) rfl (by kernel_rfl) (by kernel_rfl) (by kernel_rfl) (fun _ _ _ h => h) (Or.inl ⟨by rfl, ?hyb5⟩) (by assumption) ?restb5
    case hyb5 => (intro w' hSw; have q1 : w'.cell? ⟨w.heap.size, 1, none⟩ = some (.int .i64 e.client) := hSw.ev.cell 1; have q3 : w'.cell? ⟨w.heap.size, 3, none⟩ = some va := hSw.ev.cell 3; clear hSw; go_simp; try with_reducible rfl)
    case restb5 =>
    change wpAnyH _ _ _ _ _ _ _ (Act.put _ (some 2) _) _
    try simp only [Act.put, List.setIfInBounds_toArray, List.set_cons_zero, List.set_cons_succ]
    refine wpAnyH_take (i := 8) (v := ?vb6) rfl (by kernel_rfl) (by kernel_rfl) (by kernel_rfl) (fun _ _ _ h => h) (Or.inl ⟨by rfl, ?hyb6⟩) (by assumption) ?restb6
    case hyb6 => (intro w' hSw; have q1 : w'.cell? ⟨w.heap.size, 1, none⟩ = some (.int .i64 e.client) := hSw.ev.cell 1; have q3 : w'.cell? ⟨w.heap.size, 3, none⟩ = some va := hSw.ev.cell 3; clear hSw; go_simp; try with_reducible rfl)
    case restb6 =>
    change wpAnyH _ _ _ _ _ _ _ (Act.put _ (some 3) _) _
    try simp only [Act.put, List.setIfInBounds_toArray, List.set_cons_zero, List.set_cons_succ]
    refine wpAnyH_done (by kernel_rfl) ?_ _
    go_wp2_with fail
    go_ret2
    exact WrdPost.done hHeld hown (by simp) HJ.out HW.out
  have t9 : (((e.kind : Nat) : Int) == 9) = false := by rw [beq_eq_false_iff_ne]; omega
  by_cases hk1 : e.kind = 1
  · have t1 : (((e.kind : Nat) : Int) == 1) = true := by rw [beq_iff_eq]; omega
    by_cases hc1 : e.ck = 1
    · have u1 : (((e.ck : Nat) : Int) == 1) = true := by rw [beq_iff_eq]; omega
      have hownA := hm.lit [insertB, Lib.itoa e.parent, Lib.itoa e.at_, boxB] (by simp)
      have hmA := hm.more (below_one _ (.cells (strV [insertB, Lib.itoa e.parent, Lib.itoa e.at_, boxB]).toArray 9))
      obtain ⟨wA, hwA⟩ : ∃ W, W = w18.alloc (.cells (strV [insertB, Lib.itoa e.parent, Lib.itoa e.at_, boxB]).toArray 9) := ⟨_, rfl⟩
      rw [← hwA] at hownA hmA
      go_upto_region 18 with fail
      rw [show w18.alloc (.cells #[.string ⟨#[105, 110, 115, 101, 114, 116]⟩, .string (mkB (Lib.itoa e.parent)), .string (mkB (Lib.itoa e.at_)), .string ⟨#[98, 111, 120]⟩] 9) = wA from hwA.symm]
      clear hwA hm k0 k4
      have k6 : wA.cell? ⟨w.heap.size + 1, 6, none⟩ = some (.int .u8 ((e.nkind : Nat) : Int)) := hmA.ch.cell 6
      have k54 : wA.cell? ⟨w.heap.size + 1, 54, none⟩ = some (.string (mkB e.text)) := hmA.ch.cell 54
      by_cases hn : e.nkind = 1
      · have tn : (((e.nkind : Nat) : Int) == 1) = true := by rw [beq_iff_eq]; omega
        have HW := Lib.hid (show wordsP e = some [insertB, Lib.itoa e.parent, Lib.itoa e.at_, textB, quoted e.text] by unfold wordsP; rw [if_neg h9, if_pos ⟨hk1, hc1⟩, if_pos hn])
        have hq := quoted_len e.text
        have HJ := Lib.hid (joins_ok 16500 5 [insertB, Lib.itoa e.parent, Lib.itoa e.at_, textB, quoted e.text] (by simp) (by
          intro x hx
          simp only [List.mem_cons, List.not_mem_nil, or_false] at hx
          rcases hx with rfl | rfl | rfl | rfl | rfl
          all_goals first | decide | omega) (by decide))
        clear hn hc1 hk1 h9 hq hownA
        go_wp2_with fail
        refine (quoted_any (mkB e.text) (by rw [mkB_size]; omega) _).mono ?_
        rintro e20 w20 ⟨rfl, hb20⟩
        have hm20 := hmA.more hb20
        have hown20 := hm20.lit [insertB, Lib.itoa e.parent, Lib.itoa e.at_, textB, quoted e.text] (by simp)
        have hm21 := hm20.more (below_one _ (.cells (strV [insertB, Lib.itoa e.parent, Lib.itoa e.at_, textB, quoted e.text]).toArray 9))
        go_wp2_with fail
        go_ret2
        exact WrdPost.done hm21 hown20 (by simp) HJ.out HW.out
      · have tn : (((e.nkind : Nat) : Int) == 1) = false := by rw [beq_eq_false_iff_ne]; omega
        have HWE := Lib.hid (show wordsP e = (stylW e.sty).map ([insertB, Lib.itoa e.parent, Lib.itoa e.at_, boxB] ++ ·) by unfold wordsP; rw [if_neg h9, if_pos ⟨hk1, hc1⟩, if_neg hn])
        clear hn hc1 hk1 h9 k54
        go_wp2_with (refine wpList_load_blk rfl 28 _ rfl (w.heap.size + 1) 7 32 (chC e) (styC e.sty) _ rfl hmA.ch (chC_sty e) Tryz.underlying28 rfl styC_size ?_)
        refine (styled_any e.sty he.sty _ hmA.scr).mono ?_
        rintro e20 w20 ⟨hb20, hno, hyes⟩
        have hm20 := hmA.more hb20
        have hown20 := hownA.below hb20
        have hs20 := hm20.sz
        clear hmA hownA hb20
        cases hst : stylW e.sty with
        | none =>
          have hst20 := hno hst
          subst hst20
          have HW := Lib.hid (show wordsP e = none by rw [HWE.out, hst]; rfl)
          clear hst hno hyes
          go_wp2_with (at_builtin; refine append_strs _ rfl _ _ rfl (w.heap.size + 2) _ [insertB, Lib.itoa e.parent, Lib.itoa e.at_, boxB] rfl hown20 w20.heap.size _ [] rfl ⟨none, 0, rfl, Nat.le_refl _, by simp, fun hn => absurd hn (by simp)⟩ (by simp) hs20 ?_; intro v3 w3 hown3 hb3)
          go_ret2
          exact WrdPost.no (hm20.app hb3 HW0.out) (by simpa using hown3) (by simp) (joins_ok 200 40 _ (by simp) (by
            intro x hx
            simp only [List.mem_cons, List.not_mem_nil, or_false] at hx
            rcases hx with rfl | rfl | rfl | rfl
            all_goals first | decide | omega) (by decide)) HW.out
        | some ls =>
          obtain ⟨v, h1, hv⟩ := hyes ls hst
          subst h1
          obtain ⟨hl1, hl2⟩ := stylW_small he.sty hst
          have HW := Lib.hid (show wordsP e = some ([insertB, Lib.itoa e.parent, Lib.itoa e.at_, boxB] ++ ls) by rw [HWE.out, hst]; rfl)
          have hvs := hv.strs
          clear hst hno hyes
          go_wp2_with (at_builtin; refine append_strs _ rfl _ _ rfl (w.heap.size + 2) _ [insertB, Lib.itoa e.parent, Lib.itoa e.at_, boxB] rfl hown20 w20.heap.size _ ls rfl hvs (by simp; omega) hs20 ?_; intro v3 w3 hown3 hb3)
          go_ret2
          exact WrdPost.done (hm20.app hb3 HW0.out) hown3 (by simp; omega) (joins_ok 200 50 _ (by simp; omega) (by
            intro x hx
            simp only [List.cons_append, List.nil_append, List.mem_cons] at hx
            rcases hx with rfl | rfl | rfl | rfl | hx
            all_goals first | decide | omega | exact hl2 _ hx) (by decide)) HW.out
    · have u1 : (((e.ck : Nat) : Int) == 1) = false := by rw [beq_eq_false_iff_ne]; omega
      by_cases hc5 : e.ck = 5
      · have u5 : (((e.ck : Nat) : Int) == 5) = true := by rw [beq_iff_eq]; omega
        have k54 : w18.cell? ⟨w.heap.size + 1, 54, none⟩ = some (.string (mkB e.text)) := hm.ch.cell 54
        have HW := Lib.hid (show wordsP e = some [textB, Lib.itoa e.key, quoted e.text] by unfold wordsP; rw [if_neg h9, if_neg (fun h => hc1 h.2), if_pos ⟨hk1, hc5⟩])
        have hq := quoted_len e.text
        have HJ := Lib.hid (joins_ok 16500 5 [textB, Lib.itoa e.key, quoted e.text] (by simp) (by
          intro x hx
          simp only [List.mem_cons, List.not_mem_nil, or_false] at hx
          rcases hx with rfl | rfl | rfl
          all_goals first | decide | omega) (by decide))
        clear hc5 hc1 hk1 h9 hq
        go_wp2_with fail
        refine (quoted_any (mkB e.text) (by rw [mkB_size]; omega) _).mono ?_
        rintro e20 w20 ⟨rfl, hb20⟩
        have hm20 := hm.more hb20
        have hown20 := hm20.lit [textB, Lib.itoa e.key, quoted e.text] (by simp)
        have hm21 := hm20.more (below_one _ (.cells (strV [textB, Lib.itoa e.key, quoted e.text]).toArray 9))
        go_wp2_with fail
        go_ret2
        exact WrdPost.done hm21 hown20 (by simp) HJ.out HW.out
      · have u5 : (((e.ck : Nat) : Int) == 5) = false := by rw [beq_eq_false_iff_ne]; omega
        by_cases hc4 : e.ck = 4
        · have u4 : (((e.ck : Nat) : Int) == 4) = true := by rw [beq_iff_eq]; omega
          have HWE := Lib.hid (show wordsP e = (stylW e.sty).map ([styleB, Lib.itoa e.key] ++ ·) by unfold wordsP; rw [if_neg h9, if_neg (fun h => hc1 h.2), if_neg (fun h => hc5 h.2), if_pos ⟨hk1, hc4⟩])
          clear hc4 hc5 hc1 hk1 h9
          have hownA := hm.lit [styleB, Lib.itoa e.key] (by simp)
          have hmA := hm.more (below_one _ (.cells (strV [styleB, Lib.itoa e.key]).toArray 9))
          obtain ⟨wA, hwA⟩ : ∃ W, W = w18.alloc (.cells (strV [styleB, Lib.itoa e.key]).toArray 9) := ⟨_, rfl⟩
          rw [← hwA] at hownA hmA
          go_upto_region 24 with fail
          rw [show w18.alloc (.cells #[.string ⟨#[115, 116, 121, 108, 101]⟩, .string (mkB (Lib.itoa e.key))] 9) = wA from hwA.symm]
          clear hwA hm k0 k4
          go_wp2_with (refine wpList_load_blk rfl 28 _ rfl (w.heap.size + 1) 7 32 (chC e) (styC e.sty) _ rfl hmA.ch (chC_sty e) Tryz.underlying28 rfl styC_size ?_)
          refine (styled_any e.sty he.sty _ hmA.scr).mono ?_
          rintro e20 w20 ⟨hb20, hno, hyes⟩
          have hm20 := hmA.more hb20
          have hown20 := hownA.below hb20
          have hs20 := hm20.sz
          clear hmA hownA hb20
          cases hst : stylW e.sty with
          | none =>
            have hst20 := hno hst
            subst hst20
            have HW := Lib.hid (show wordsP e = none by rw [HWE.out, hst]; rfl)
            clear hst hno hyes
            go_wp2_with (at_builtin; refine append_strs _ rfl _ _ rfl (w.heap.size + 2) _ [styleB, Lib.itoa e.key] rfl hown20 w20.heap.size _ [] rfl ⟨none, 0, rfl, Nat.le_refl _, by simp, fun hn => absurd hn (by simp)⟩ (by simp) hs20 ?_; intro v3 w3 hown3 hb3)
            go_ret2
            exact WrdPost.no (hm20.app hb3 HW0.out) (by simpa using hown3) (by simp) (joins_ok 200 40 _ (by simp) (by
              intro x hx
              simp only [List.mem_cons, List.not_mem_nil, or_false] at hx
              rcases hx with rfl | rfl
              all_goals first | decide | omega) (by decide)) HW.out
          | some ls =>
            obtain ⟨v, h1, hv⟩ := hyes ls hst
            subst h1
            obtain ⟨hl1, hl2⟩ := stylW_small he.sty hst
            have HW := Lib.hid (show wordsP e = some ([styleB, Lib.itoa e.key] ++ ls) by rw [HWE.out, hst]; rfl)
            have hvs := hv.strs
            clear hst hno hyes
            go_wp2_with (at_builtin; refine append_strs _ rfl _ _ rfl (w.heap.size + 2) _ [styleB, Lib.itoa e.key] rfl hown20 w20.heap.size _ ls rfl hvs (by simp; omega) hs20 ?_; intro v3 w3 hown3 hb3)
            go_ret2
            exact WrdPost.done (hm20.app hb3 HW0.out) hown3 (by simp; omega) (joins_ok 200 50 _ (by simp; omega) (by
              intro x hx
              simp only [List.cons_append, List.nil_append, List.mem_cons] at hx
              rcases hx with rfl | rfl | hx
              all_goals first | decide | omega | exact hl2 _ hx) (by decide)) HW.out
        · have u4 : (((e.ck : Nat) : Int) == 4) = false := by rw [beq_eq_false_iff_ne]; omega
          have HWE := Lib.hid (show wordsP e = (match nameW e with | none => none | some t => some (t.1 :: (getF e).map Lib.itoa)) by unfold wordsP; rw [if_neg h9, if_neg (fun h => hc1 h.2), if_neg (fun h => hc5 h.2), if_neg (fun h => hc4 h.2)]; rfl)
          clear hc4 hc5 hc1 hk1 h9
          go_wp2_with (refine wpList_load_blk rfl 34 _ rfl w.heap.size 0 34 (evC e va) (evC e va) _ rfl hm.ev (evC_self' e va) Tryz.underlying34 rfl evC_size ?_)
          refine (name_any e va _).mono ?_
          rintro e20 w20 ⟨rfl, hb20⟩
          have hm20 := hm.more hb20
          have hs20 := hm20.sz
          clear hm hb20 k0 k4
          obtain ⟨x, hx⟩ : ∃ x, x = nameT e := ⟨_, rfl⟩
          rw [← hx]
          have HX := Lib.hid hx
          clear hx
          go_upto_region 6 with (at_builtin; refine append_word_k _ x _ rfl rfl _ _ rfl (w.heap.size + 2) _ [] rfl (OwnsS.nil _ _) rfl (by simp) hs20 ?_; intro v3 w3 hown3 hg3 ho3 hb3)
          have hm3 := hm20.app hb3 HW0.out
          have hw3 : ∀ b, v3.ownBlock = some b → b < w3.heap.size := fun b hb => (World.ownsRow.lt hown3 b hb).2
          clear hg3 ho3 hm20
          cases hn : nameW e with
          | none =>
            have HW := Lib.hid (show wordsP e = none by rw [HWE.out, hn])
            have hx0 : x = [] := by rw [HX.out]; unfold nameT; rw [hn]
            have e0 : (mkB x).toList.isEmpty = true := by rw [hx0, Lib.toList_data]; rfl
            clear hx0
            clear hn
            go_wp2_with fail
            go_ret2
            exact WrdPost.no hm3 (OwnsS.nil _ _) (by simp) (by simp [joinC]) HW.out
          | some t =>
            have HW := Lib.hid (show wordsP e = some (x :: (getF e).map Lib.itoa) by rw [HWE.out, hn, HX.out]; unfold nameT; rw [hn])
            have hpm := (plain_len e hn).1
            have hxt : x = t.1 := by rw [HX.out]; unfold nameT; rw [hn]
            have hxl : x.length ≤ 200 := by rw [hxt]; exact plain_short t hpm
            have e0 : (mkB x).toList.isEmpty = false := by rw [hxt]; exact plain_some t hpm
            clear hn hxt hpm
            have k0 : w3.cell? ⟨w.heap.size, 0, none⟩ = some (.int .u8 ((e.kind : Nat) : Int)) := hm3.ev.cell 0
            have k4 : w3.cell? ⟨w.heap.size, 4, none⟩ = some (.int .u8 ((e.ck : Nat) : Int)) := hm3.ev.cell 4
            go_wp2_with fail
            refine (fields_of w.heap.size e.kind e.ck w3 k0 k4).mono ?_
            rintro e21 w21 ⟨v21, rfl, hp21, hb21⟩
            have hm21 := hm3.more hb21
            have hown21 := hown3.below hb21
            have hl21 := fldO_len e
            rcases hp21 with ⟨hl0, rfl⟩ | ⟨N, ty, hN, rfl, hNb⟩
            · have hg0 : getF e = [] := List.eq_nil_of_length_eq_zero (by rw [← hl21, hl0]; rfl)
              have HW2 := Lib.hid (show wordsP e = some [x] by rw [HW.out, hg0]; rfl)
              clear hg0 hl0 hl21 hb21 k0 k4 hw3
              go_wp2_with fail
              go_loopg [8, 35] 0 (WzA e va x w)
              case atStart => exact ⟨rfl, hown21, hm21⟩
              case round =>
                clear hown21 hm21
                obtain ⟨rfl, hown, hm⟩ := hrel
                go_wp2_with fail
                go_ret2
                exact WrdPost.done hm hown (by simp) (joins_ok 200 40 _ (by simp) (by intro y hy; simp only [List.mem_cons, List.not_mem_nil, or_false] at hy; rw [hy]; exact hxl) (by decide)) HW2.out
            · have hNw : N < w21.heap.size := hNb.lt
              have hne : ∀ b, v3.ownBlock = some b → b ≠ N := fun b hb => by have := hw3 b hb; omega
              have HL := Lib.hid hl21
              clear hl21 hb21 k0 k4 hw3 hown3 hm3
              go_wp2_with fail
              go_loopg [8, 35] (getF e).length (WfA e va x w N)
              case atStart => exact ⟨0, by omega, rfl, by simpa using hown21, hm21, hne, ty, hNb⟩
              case round =>
                clear hown21 hm21 hne hNb
                obtain ⟨k, hkg, rfl, hown, hm, hne, ty, hNb⟩ := hrel
                cases gk with
                | zero =>
                  have hke : k = (getF e).length := by omega
                  have hl0 : ¬ ((k : Nat) : Int) < (((fldO e.kind e.ck).length : Nat) : Int) := by rw [HL.out]; omega
                  rw [hke, List.take_length] at hown
                  clear hke hkg
                  go_wp2_with fail
                  go_ret2
                  have hg3 := getF_le e
                  exact WrdPost.done hm hown (by simp; omega) (joins_ok 200 40 _ (by simp; omega) (by
                    intro y hy
                    simp only [List.mem_cons, List.mem_map] at hy
                    rcases hy with rfl | ⟨n, hn, rfl⟩
                    · exact hxl
                    · have := itoa_size (getF_ok he n hn); rw [mkB_size] at this; omega) (by decide)) HW.out
                | succ g1 =>
                  have hkl : k < (getF e).length := by omega
                  have hk3 : k < 3 := by have := getF_le e; omega
                  have HKG := Lib.hid hkg
                  clear hkg
                  have hl0 : ((k : Nat) : Int) < (((fldO e.kind e.ck).length : Nat) : Int) := by rw [HL.out]; omega
                  have hkf : k < (fldO e.kind e.ck).length := by rw [HL.out]; exact hkl
                  have c0 : wr.cell? ⟨N, k, none⟩ = some (.pointer (some ⟨w.heap.size, (fldO e.kind e.ck).getD k 0, none⟩)) := by
                    rw [hNb.cell]
                    unfold ptrsC
                    rw [List.getElem?_toArray, List.getElem?_map, List.getD_eq_getElem?_getD, List.getElem?_eq_getElem hkf]
                    simp
                  have c1 : wr.cell? ⟨w.heap.size, (fldO e.kind e.ck).getD k 0, none⟩ = some (.int .i64 ((getF e).getD k 0)) := by rw [hm.ev.cell, List.getElem?_toArray]; exact fldO_at e va k hkl
                  have hmem : (getF e).getD k 0 ∈ getF e := by rw [List.getD_eq_getElem?_getD, List.getElem?_eq_getElem hkl]; exact List.getElem_mem hkl
                  have hn := getF_ok he _ hmem
                  have HTK := Lib.hid (show (x :: ((getF e).take (k + 1)).map Lib.itoa) = (x :: ((getF e).take k).map Lib.itoa) ++ [Lib.itoa ((getF e).getD k 0)] by
                    rw [List.take_succ_eq_append_getElem hkl, List.map_append, List.getD_eq_getElem?_getD, List.getElem?_eq_getElem hkl]; rfl)
                  have hg3 := getF_le e
                  have hlen : (x :: ((getF e).take k).map Lib.itoa).length < 900000 := by simp; omega
                  clear hmem hkf hg3
                  generalize (fldO e.kind e.ck).getD k 0 = fo at *
                  generalize (getF e).getD k 0 = n at *
                  go_wp2_with fail
                  refine (itoa_num hn hm.scr.num).mono ?_
                  rintro e22 w22 ⟨rfl, hb22⟩
                  have hm22 := hm.more hb22
                  have hown22 := hown.below hb22
                  have hs22 := hm22.sz
                  have hN22 : N < w22.heap.size := Nat.lt_of_lt_of_le hNb.lt hb22.size
                  have hNb22 := hNb.below hb22 hNb.lt
                  clear hm hown hNb hb22 c0 c1
                  go_wp2_with (at_builtin; refine append_word_k _ (Lib.itoa n) _ rfl rfl _ _ rfl (w.heap.size + 2) u8 _ rfl hown22 rfl hlen hs22 ?_; intro v5 w5 hown5 hg5 ho5 hb5)
                  go_roundg g1
                  case measure => omega
                  case rel =>
                    refine ⟨k + 1, by have := HKG.out; omega, by go_num, by rw [HTK.out]; exact hown5, hm22.app hb5 HW0.out, fun b hb => ?_, ty, ?_⟩
                    · rcases ho5 with h | h
                      · exact hne b (by rw [← h]; exact hb)
                      · rw [h] at hb; injection hb with hb; omega
                    · exact (hg5.block N (by simp; omega) (fun h => hne N h.symm rfl)).trans (hNb22.below (below_one _ _) hN22)
  · have t1 : (((e.kind : Nat) : Int) == 1) = false := by rw [beq_eq_false_iff_ne]; omega
    have HWE := Lib.hid (show wordsP e = (match nameW e with | none => none | some t => some (t.1 :: (getF e).map Lib.itoa)) by unfold wordsP; rw [if_neg h9, if_neg (fun h => hk1 h.1), if_neg (fun h => hk1 h.1), if_neg (fun h => hk1 h.1)]; rfl)
    clear hk1 h9
    go_wp2_with (refine wpList_load_blk rfl 34 _ rfl w.heap.size 0 34 (evC e va) (evC e va) _ rfl hm.ev (evC_self' e va) Tryz.underlying34 rfl evC_size ?_)
    refine (name_any e va _).mono ?_
    rintro e20 w20 ⟨rfl, hb20⟩
    have hm20 := hm.more hb20
    have hs20 := hm20.sz
    clear hm hb20 k0 k4
    obtain ⟨x, hx⟩ : ∃ x, x = nameT e := ⟨_, rfl⟩
    rw [← hx]
    have HX := Lib.hid hx
    clear hx
    go_upto_region 6 with (at_builtin; refine append_word_k _ x _ rfl rfl _ _ rfl (w.heap.size + 2) _ [] rfl (OwnsS.nil _ _) rfl (by simp) hs20 ?_; intro v3 w3 hown3 hg3 ho3 hb3)
    have hm3 := hm20.app hb3 HW0.out
    have hw3 : ∀ b, v3.ownBlock = some b → b < w3.heap.size := fun b hb => (World.ownsRow.lt hown3 b hb).2
    clear hg3 ho3 hm20
    cases hn : nameW e with
    | none =>
      have HW := Lib.hid (show wordsP e = none by rw [HWE.out, hn])
      have hx0 : x = [] := by rw [HX.out]; unfold nameT; rw [hn]
      have e0 : (mkB x).toList.isEmpty = true := by rw [hx0, Lib.toList_data]; rfl
      clear hx0
      clear hn
      go_wp2_with fail
      go_ret2
      exact WrdPost.no hm3 (OwnsS.nil _ _) (by simp) (by simp [joinC]) HW.out
    | some t =>
      have HW := Lib.hid (show wordsP e = some (x :: (getF e).map Lib.itoa) by rw [HWE.out, hn, HX.out]; unfold nameT; rw [hn])
      have hpm := (plain_len e hn).1
      have hxt : x = t.1 := by rw [HX.out]; unfold nameT; rw [hn]
      have hxl : x.length ≤ 200 := by rw [hxt]; exact plain_short t hpm
      have e0 : (mkB x).toList.isEmpty = false := by rw [hxt]; exact plain_some t hpm
      clear hn hxt hpm
      have k0 : w3.cell? ⟨w.heap.size, 0, none⟩ = some (.int .u8 ((e.kind : Nat) : Int)) := hm3.ev.cell 0
      have k4 : w3.cell? ⟨w.heap.size, 4, none⟩ = some (.int .u8 ((e.ck : Nat) : Int)) := hm3.ev.cell 4
      go_wp2_with fail
      refine (fields_of w.heap.size e.kind e.ck w3 k0 k4).mono ?_
      rintro e21 w21 ⟨v21, rfl, hp21, hb21⟩
      have hm21 := hm3.more hb21
      have hown21 := hown3.below hb21
      have hl21 := fldO_len e
      rcases hp21 with ⟨hl0, rfl⟩ | ⟨N, ty, hN, rfl, hNb⟩
      · have hg0 : getF e = [] := List.eq_nil_of_length_eq_zero (by rw [← hl21, hl0]; rfl)
        have HW2 := Lib.hid (show wordsP e = some [x] by rw [HW.out, hg0]; rfl)
        clear hg0 hl0 hl21 hb21 k0 k4 hw3
        go_wp2_with fail
        go_loopg [8, 35] 0 (WzA e va x w)
        case atStart => exact ⟨rfl, hown21, hm21⟩
        case round =>
          clear hown21 hm21
          obtain ⟨rfl, hown, hm⟩ := hrel
          go_wp2_with fail
          go_ret2
          exact WrdPost.done hm hown (by simp) (joins_ok 200 40 _ (by simp) (by intro y hy; simp only [List.mem_cons, List.not_mem_nil, or_false] at hy; rw [hy]; exact hxl) (by decide)) HW2.out
      · have hNw : N < w21.heap.size := hNb.lt
        have hne : ∀ b, v3.ownBlock = some b → b ≠ N := fun b hb => by have := hw3 b hb; omega
        have HL := Lib.hid hl21
        clear hl21 hb21 k0 k4 hw3 hown3 hm3
        go_wp2_with fail
        go_loopg [8, 35] (getF e).length (WfA e va x w N)
        case atStart => exact ⟨0, by omega, rfl, by simpa using hown21, hm21, hne, ty, hNb⟩
        case round =>
          clear hown21 hm21 hne hNb
          obtain ⟨k, hkg, rfl, hown, hm, hne, ty, hNb⟩ := hrel
          cases gk with
          | zero =>
            have hke : k = (getF e).length := by omega
            have hl0 : ¬ ((k : Nat) : Int) < (((fldO e.kind e.ck).length : Nat) : Int) := by rw [HL.out]; omega
            rw [hke, List.take_length] at hown
            clear hke hkg
            go_wp2_with fail
            go_ret2
            have hg3 := getF_le e
            exact WrdPost.done hm hown (by simp; omega) (joins_ok 200 40 _ (by simp; omega) (by
              intro y hy
              simp only [List.mem_cons, List.mem_map] at hy
              rcases hy with rfl | ⟨n, hn, rfl⟩
              · exact hxl
              · have := itoa_size (getF_ok he n hn); rw [mkB_size] at this; omega) (by decide)) HW.out
          | succ g1 =>
            have hkl : k < (getF e).length := by omega
            have hk3 : k < 3 := by have := getF_le e; omega
            have HKG := Lib.hid hkg
            clear hkg
            have hl0 : ((k : Nat) : Int) < (((fldO e.kind e.ck).length : Nat) : Int) := by rw [HL.out]; omega
            have hkf : k < (fldO e.kind e.ck).length := by rw [HL.out]; exact hkl
            have c0 : wr.cell? ⟨N, k, none⟩ = some (.pointer (some ⟨w.heap.size, (fldO e.kind e.ck).getD k 0, none⟩)) := by
              rw [hNb.cell]
              unfold ptrsC
              rw [List.getElem?_toArray, List.getElem?_map, List.getD_eq_getElem?_getD, List.getElem?_eq_getElem hkf]
              simp
            have c1 : wr.cell? ⟨w.heap.size, (fldO e.kind e.ck).getD k 0, none⟩ = some (.int .i64 ((getF e).getD k 0)) := by rw [hm.ev.cell, List.getElem?_toArray]; exact fldO_at e va k hkl
            have hmem : (getF e).getD k 0 ∈ getF e := by rw [List.getD_eq_getElem?_getD, List.getElem?_eq_getElem hkl]; exact List.getElem_mem hkl
            have hn := getF_ok he _ hmem
            have HTK := Lib.hid (show (x :: ((getF e).take (k + 1)).map Lib.itoa) = (x :: ((getF e).take k).map Lib.itoa) ++ [Lib.itoa ((getF e).getD k 0)] by
              rw [List.take_succ_eq_append_getElem hkl, List.map_append, List.getD_eq_getElem?_getD, List.getElem?_eq_getElem hkl]; rfl)
            have hg3 := getF_le e
            have hlen : (x :: ((getF e).take k).map Lib.itoa).length < 900000 := by simp; omega
            clear hmem hkf hg3
            generalize (fldO e.kind e.ck).getD k 0 = fo at *
            generalize (getF e).getD k 0 = n at *
            go_wp2_with fail
            refine (itoa_num hn hm.scr.num).mono ?_
            rintro e22 w22 ⟨rfl, hb22⟩
            have hm22 := hm.more hb22
            have hown22 := hown.below hb22
            have hs22 := hm22.sz
            have hN22 : N < w22.heap.size := Nat.lt_of_lt_of_le hNb.lt hb22.size
            have hNb22 := hNb.below hb22 hNb.lt
            clear hm hown hNb hb22 c0 c1
            go_wp2_with (at_builtin; refine append_word_k _ (Lib.itoa n) _ rfl rfl _ _ rfl (w.heap.size + 2) u8 _ rfl hown22 rfl hlen hs22 ?_; intro v5 w5 hown5 hg5 ho5 hb5)
            go_roundg g1
            case measure => omega
            case rel =>
              refine ⟨k + 1, by have := HKG.out; omega, by go_num, by rw [HTK.out]; exact hown5, hm22.app hb5 HW0.out, fun b hb => ?_, ty, ?_⟩
              · rcases ho5 with h | h
                · exact hne b (by rw [← h]; exact hb)
                · rw [h] at hb; injection hb with hb; omega
              · exact (hg5.block N (by simp; omega) (fun h => hne N h.symm rfl)).trans (hNb22.below (below_one _ _) hN22)

end Go.Proofs.YtaoehdmdjplegaaGreatDoor
