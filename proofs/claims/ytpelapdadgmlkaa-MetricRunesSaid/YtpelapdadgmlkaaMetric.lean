/-
  Walks: package metric and its reference: shares, rows.
-/
import Derived.Test.YtpelapdadgmlkaaRune
import Derived.Test.YtpelapdadgmlkaaMetricPlain
import Derived.Laws.EntriesVeiled
namespace Go.Proofs.Ytpelapdadgmlkaa
open Go.RowKit

/-- The rows as they lie in memory, their boxes from block b on. -/
structure RowsAt (w : World) (b : Nat) : Prop where
  row : Blk w (b + 12) 118 #[.int .i64 0, .func (.func 148) #[] #[.pointer (some ⟨b, 0, none⟩), .pointer (some ⟨b + 1, 0, none⟩)], .int .i64 16, .func (.func 149) #[] #[.pointer (some ⟨b + 2, 0, none⟩)], .int .i64 0, .func (.func 148) #[] #[.pointer (some ⟨b + 3, 0, none⟩), .pointer (some ⟨b + 4, 0, none⟩)], .int .i64 48, .func (.func 149) #[] #[.pointer (some ⟨b + 5, 0, none⟩)], .int .i64 40, .func (.func 148) #[] #[.pointer (some ⟨b + 6, 0, none⟩), .pointer (some ⟨b + 7, 0, none⟩)], .int .i64 32, .func (.func 148) #[] #[.pointer (some ⟨b + 8, 0, none⟩), .pointer (some ⟨b + 9, 0, none⟩)], .int .i64 64, .func (.func 148) #[] #[.pointer (some ⟨b + 10, 0, none⟩), .pointer (some ⟨b + 11, 0, none⟩)]]
  l0 : Blk w (b) 21 #[.int .i32 (768)]
  m0 : Blk w (b + 1) 21 #[.int .i32 (879)]
  l1 : Blk w (b + 2) 9 #[.string ⟨thin.toArray⟩]
  l2 : Blk w (b + 3) 21 #[.int .i32 (-2147483648)]
  m2 : Blk w (b + 4) 21 #[.int .i32 (31)]
  l3 : Blk w (b + 5) 9 #[.string ⟨wide.toArray⟩]
  l4 : Blk w (b + 6) 21 #[.int .i32 (65)]
  m4 : Blk w (b + 7) 21 #[.int .i32 (90)]
  l5 : Blk w (b + 8) 21 #[.int .i32 (32)]
  m5 : Blk w (b + 9) 21 #[.int .i32 (4351)]
  l6 : Blk w (b + 10) 21 #[.int .i32 (4352)]
  m6 : Blk w (b + 11) 21 #[.int .i32 (2147483647)]

theorem RowsAt.below {w w' : World} {b : Nat} (h : RowsAt w b) (hb : Below (b + 13) w w') : RowsAt w' b :=
  { row := h.row.below hb (by omega)
    l0 := h.l0.below hb (by omega)
    m0 := h.m0.below hb (by omega)
    l1 := h.l1.below hb (by omega)
    l2 := h.l2.below hb (by omega)
    m2 := h.m2.below hb (by omega)
    l3 := h.l3.below hb (by omega)
    l4 := h.l4.below hb (by omega)
    m4 := h.m4.below hb (by omega)
    l5 := h.l5.below hb (by omega)
    m5 := h.m5.below hb (by omega)
    l6 := h.l6.below hb (by omega)
    m6 := h.m6.below hb (by omega) }

theorem from_any (a b : Int) (w : World) : Calls Try.prog 134 #[.int .i32 a, .int .i32 b] w fun e w' =>
    e = .returned (.func (.func 148) #[] #[.pointer (some ⟨w.heap.size, 0, none⟩), .pointer (some ⟨w.heap.size + 1, 0, none⟩)]) ∧ (w.alloc (.cells #[.int .i32 a] 21)).alloc (.cells #[.int .i32 b] 21) = w' := by
  go_enter Try.func134, Try.ntmps134
  go_wp2
  go_ret
  exact ⟨rfl, rfl⟩
theorem one_any (s : ByteArray) (w : World) : Calls Try.prog 135 #[.string s] w fun e w' =>
    e = .returned (.func (.func 149) #[] #[.pointer (some ⟨w.heap.size, 0, none⟩)]) ∧ w.alloc (.cells #[.string s] 9) = w' := by
  go_enter Try.func135, Try.ntmps135
  go_wp2
  go_ret
  exact ⟨rfl, rfl⟩


theorem blk_new (w : World) (t : TypeId) (cs : Array Value) (b : Nat) (h : b = w.heap.size) : Blk (w.alloc (.cells cs t)) b t cs := by
  subst h
  exact Blk.new w t cs

def RowsPost (w : World) (e : Ending) (w' : World) : Prop :=
  e = .returned (.slice (some ⟨w.heap.size + 12, 0, none⟩) 7 7) ∧ RowsAt w' w.heap.size ∧ Below w.heap.size w w' ∧ w'.heap.size = w.heap.size + 13

theorem rows_any (w : World) : Calls Try.prog 107 #[] w (RowsPost w) := by
  go_enter Try.func107, Try.ntmps107
  go_wp2_with (first | (go_at_call 134; refine (from_any _ _ _).mono ?_; rintro e w' ⟨rfl, rfl⟩) | (go_at_call 135; refine (one_any _ _).mono ?_; rintro e w' ⟨rfl, rfl⟩))
  go_ret
  refine ⟨rfl, ?_, ?_, by simp⟩
  · constructor
    all_goals repeat (first | (refine blk_new _ _ _ _ ?_; simp; done) | refine Blk.alloc ?_ _)
  · repeat (first | exact Below.refl _ _ | refine Below.alloc ?_ (by first | exact Nat.le_refl _ | (simp only [World.size_alloc]; omega)) _)

theorem from1_any (a b r : Int) (p q : Addr) (w : World) (hp : w.cell? p = some (.int .i32 a)) (hq : w.cell? q = some (.int .i32 b)) :
    Calls Try.prog 148 #[.int .i32 r, .pointer (some p), .pointer (some q)] w fun e w' => e = .returned (.bool (decide (a ≤ r) && decide (r ≤ b))) ∧ w = w' := by
  by_cases h1 : a ≤ r
  · by_cases h2 : r ≤ b
    · go_enter Try.func148, Try.ntmps148
      go_wp2
      go_ret
      exact ⟨by simp [h1, h2], rfl⟩
    · go_enter Try.func148, Try.ntmps148
      go_wp2
      go_ret
      exact ⟨by simp [h2], rfl⟩
  · go_enter Try.func148, Try.ntmps148
    go_wp2
    go_ret
    exact ⟨by simp; omega, rfl⟩

theorem one1_any (s : ByteArray) (r : Int) (p : Addr) (w : World) (hp : w.cell? p = some (.string s)) (h4 : 4 ≤ s.size) (hs : s.size < 1000) (ha : Ascii s) :
    Calls Try.prog 149 #[.int .i32 r, .pointer (some p)] w fun e w' => e = .returned (.bool (decide (0 ≤ r) && memb s.data.toList r)) ∧ Below w.heap.size w w' := by
  by_cases h1 : 0 ≤ r
  · have hc := containsRune_any s r w h1 h4 hs ha
    go_enter Try.func149, Try.ntmps149
    go_wp2_with fail
    refine hc.mono ?_
    rintro e w1 ⟨rfl, hb⟩
    go_wp2_with fail
    go_ret
    exact ⟨by simp [h1], hb⟩
  · go_enter Try.func149, Try.ntmps149
    go_wp2_with fail
    go_ret
    exact ⟨by simp [show ¬ 0 ≤ r by omega], Below.refl _ _⟩

theorem fromRow (w : World) (b1 b2 : Nat) (a c r : Int) (h1 : Blk w b1 21 #[.int .i32 a]) (h2 : Blk w b2 21 #[.int .i32 c]) (q : Bool) (hq : (decide (a ≤ r) && decide (r ≤ c)) = q) :
    Calls Try.prog 148 #[.int .i32 r, .pointer (some ⟨b1, 0, none⟩), .pointer (some ⟨b2, 0, none⟩)] w fun e w' => e = .returned (.bool q) ∧ Below w.heap.size w w' := by
  subst hq
  exact (from1_any a c r _ _ w (h1.cell 0) (h2.cell 0)).mono fun e w' ⟨h1, h2⟩ => ⟨h1, by rw [← h2]; exact Below.refl _ _⟩
theorem oneRow (w : World) (b1 : Nat) (l : List UInt8) (r : Int) (h1 : Blk w b1 9 #[.string ⟨l.toArray⟩]) (h4 : 4 ≤ l.length ∧ l.length < 1000) (ha : ∀ b ∈ l, b.toNat < 128) (q : Bool) (hq : (decide (0 ≤ r) && memb l r) = q) :
    Calls Try.prog 149 #[.int .i32 r, .pointer (some ⟨b1, 0, none⟩)] w fun e w' => e = .returned (.bool q) ∧ Below w.heap.size w w' := by
  subst hq
  have h := one1_any ⟨l.toArray⟩ r ⟨b1, 0, none⟩ w (h1.cell 0) (by simpa [ByteArray.size] using h4.1) (by simpa [ByteArray.size] using h4.2) (by simpa [Ascii] using ha)
  simpa using h

set_option maxHeartbeats 1000000 in
theorem share_any (r : Int) (w : World) :
    Calls Try.prog 65 #[.int .i32 r] w fun e w' => e = .returned (.int .i64 (share r)) ∧ Below w.heap.size w w' := by
  go_enter Try.func65, Try.ntmps65
  go_wp2_with fail
  refine (rows_any w).mono ?_
  rintro e w1 ⟨rfl, hrows, hb1, hsz⟩
  have HS := Lib.hid hsz; clear hsz
  go_wp2_with fail
  go_loopw [4, 7] (fun _ i wr => ∃ k : Nat, k ≤ 7 ∧ i = .int .i64 k ∧ Hid (share r = shareFrom r (7 - k) k) ∧ Below w1.heap.size w1 wr) (fun _ i _ => 7 - (intOf i).toNat)
  case atStart => exact ⟨0, by omega, rfl, rfl, Below.refl _ _⟩
  case round =>
    obtain ⟨k, hk, rfl, HK, hbr⟩ := hrel
    have hrows' : RowsAt wr w.heap.size := hrows.below (by rw [← HS.out]; exact hbr)
    have hlt : w.heap.size + 12 < wr.heap.size := hrows'.row.lt
    by_cases h7 : k = 7
    · subst h7
      go_wp2_with fail
      go_ret
      exact ⟨by rw [HK.out]; rfl, hb1.trans (hbr.mono hb1.size)⟩
    have hk7 : k = 0 ∨ k = 1 ∨ k = 2 ∨ k = 3 ∨ k = 4 ∨ k = 5 ∨ k = 6 := by omega
    clear hk h7
    rcases hk7 with rfl | rfl | rfl | rfl | rfl | rfl | rfl
    · have c0 := hrows'.row.cell 0
      have c1 := hrows'.row.cell 1
      cases hh : rowHolds 0 r with
      | true =>
        have HH := Lib.hid (HK.out.trans (shareFrom_hit r 6 0 hh))
        have con := fun W (hl : ∀ bb t cs, Blk wr bb t cs → Blk W bb t cs) => fromRow W _ _ _ _ r (hl _ _ _ hrows'.l0) (hl _ _ _ hrows'.m0) true hh
        clear hh
        go_wp2_with fail
        refine (con _ (fun _ _ _ h => h.alloc _)).mono ?_
        rintro e w2 ⟨rfl, hb2⟩
        have d0 := (hb2.cell (p := ⟨wr.heap.size, 0, none⟩) (by simp)).trans ((Blk.new wr _ _).cell 0)
        go_wp2_with fail
        go_ret
        exact ⟨by rw [HH.out]; rfl, hb1.trans ((hbr.trans (((Below.refl _ _).alloc hbr.size _).trans (hb2.mono (by simp; have := hbr.size; omega)))).mono hb1.size)⟩
      | false =>
        have HH := Lib.hid (HK.out.trans (shareFrom_miss r 6 0 hh))
        have con := fun W (hl : ∀ bb t cs, Blk wr bb t cs → Blk W bb t cs) => fromRow W _ _ _ _ r (hl _ _ _ hrows'.l0) (hl _ _ _ hrows'.m0) false hh
        clear hh
        go_wp2_with fail
        refine (con _ (fun _ _ _ h => h.alloc _)).mono ?_
        rintro e w2 ⟨rfl, hb2⟩
        go_wp2_with fail
        go_roundw
        case rel => exact ⟨1, by omega, rfl, HH.out, hbr.trans (((Below.refl _ _).alloc hbr.size _).trans (hb2.mono (by simp; have := hbr.size; omega)))⟩
        case measure => simp [intOf]
    · have c0 := hrows'.row.cell 2
      have c1 := hrows'.row.cell 3
      cases hh : rowHolds 1 r with
      | true =>
        have HH := Lib.hid (HK.out.trans (shareFrom_hit r 5 1 hh))
        have con := fun W (hl : ∀ bb t cs, Blk wr bb t cs → Blk W bb t cs) => oneRow W _ _ r (hl _ _ _ hrows'.l1) (by decide) (by decide) true hh
        clear hh
        go_wp2_with fail
        refine (con _ (fun _ _ _ h => h.alloc _)).mono ?_
        rintro e w2 ⟨rfl, hb2⟩
        have d0 := (hb2.cell (p := ⟨wr.heap.size, 0, none⟩) (by simp)).trans ((Blk.new wr _ _).cell 0)
        go_wp2_with fail
        go_ret
        exact ⟨by rw [HH.out]; rfl, hb1.trans ((hbr.trans (((Below.refl _ _).alloc hbr.size _).trans (hb2.mono (by simp; have := hbr.size; omega)))).mono hb1.size)⟩
      | false =>
        have HH := Lib.hid (HK.out.trans (shareFrom_miss r 5 1 hh))
        have con := fun W (hl : ∀ bb t cs, Blk wr bb t cs → Blk W bb t cs) => oneRow W _ _ r (hl _ _ _ hrows'.l1) (by decide) (by decide) false hh
        clear hh
        go_wp2_with fail
        refine (con _ (fun _ _ _ h => h.alloc _)).mono ?_
        rintro e w2 ⟨rfl, hb2⟩
        go_wp2_with fail
        go_roundw
        case rel => exact ⟨2, by omega, rfl, HH.out, hbr.trans (((Below.refl _ _).alloc hbr.size _).trans (hb2.mono (by simp; have := hbr.size; omega)))⟩
        case measure => simp [intOf]
    · have c0 := hrows'.row.cell 4
      have c1 := hrows'.row.cell 5
      cases hh : rowHolds 2 r with
      | true =>
        have HH := Lib.hid (HK.out.trans (shareFrom_hit r 4 2 hh))
        have con := fun W (hl : ∀ bb t cs, Blk wr bb t cs → Blk W bb t cs) => fromRow W _ _ _ _ r (hl _ _ _ hrows'.l2) (hl _ _ _ hrows'.m2) true hh
        clear hh
        go_wp2_with fail
        refine (con _ (fun _ _ _ h => h.alloc _)).mono ?_
        rintro e w2 ⟨rfl, hb2⟩
        have d0 := (hb2.cell (p := ⟨wr.heap.size, 0, none⟩) (by simp)).trans ((Blk.new wr _ _).cell 0)
        go_wp2_with fail
        go_ret
        exact ⟨by rw [HH.out]; rfl, hb1.trans ((hbr.trans (((Below.refl _ _).alloc hbr.size _).trans (hb2.mono (by simp; have := hbr.size; omega)))).mono hb1.size)⟩
      | false =>
        have HH := Lib.hid (HK.out.trans (shareFrom_miss r 4 2 hh))
        have con := fun W (hl : ∀ bb t cs, Blk wr bb t cs → Blk W bb t cs) => fromRow W _ _ _ _ r (hl _ _ _ hrows'.l2) (hl _ _ _ hrows'.m2) false hh
        clear hh
        go_wp2_with fail
        refine (con _ (fun _ _ _ h => h.alloc _)).mono ?_
        rintro e w2 ⟨rfl, hb2⟩
        go_wp2_with fail
        go_roundw
        case rel => exact ⟨3, by omega, rfl, HH.out, hbr.trans (((Below.refl _ _).alloc hbr.size _).trans (hb2.mono (by simp; have := hbr.size; omega)))⟩
        case measure => simp [intOf]
    · have c0 := hrows'.row.cell 6
      have c1 := hrows'.row.cell 7
      cases hh : rowHolds 3 r with
      | true =>
        have HH := Lib.hid (HK.out.trans (shareFrom_hit r 3 3 hh))
        have con := fun W (hl : ∀ bb t cs, Blk wr bb t cs → Blk W bb t cs) => oneRow W _ _ r (hl _ _ _ hrows'.l3) (by decide) (by decide) true hh
        clear hh
        go_wp2_with fail
        refine (con _ (fun _ _ _ h => h.alloc _)).mono ?_
        rintro e w2 ⟨rfl, hb2⟩
        have d0 := (hb2.cell (p := ⟨wr.heap.size, 0, none⟩) (by simp)).trans ((Blk.new wr _ _).cell 0)
        go_wp2_with fail
        go_ret
        exact ⟨by rw [HH.out]; rfl, hb1.trans ((hbr.trans (((Below.refl _ _).alloc hbr.size _).trans (hb2.mono (by simp; have := hbr.size; omega)))).mono hb1.size)⟩
      | false =>
        have HH := Lib.hid (HK.out.trans (shareFrom_miss r 3 3 hh))
        have con := fun W (hl : ∀ bb t cs, Blk wr bb t cs → Blk W bb t cs) => oneRow W _ _ r (hl _ _ _ hrows'.l3) (by decide) (by decide) false hh
        clear hh
        go_wp2_with fail
        refine (con _ (fun _ _ _ h => h.alloc _)).mono ?_
        rintro e w2 ⟨rfl, hb2⟩
        go_wp2_with fail
        go_roundw
        case rel => exact ⟨4, by omega, rfl, HH.out, hbr.trans (((Below.refl _ _).alloc hbr.size _).trans (hb2.mono (by simp; have := hbr.size; omega)))⟩
        case measure => simp [intOf]
    · have c0 := hrows'.row.cell 8
      have c1 := hrows'.row.cell 9
      cases hh : rowHolds 4 r with
      | true =>
        have HH := Lib.hid (HK.out.trans (shareFrom_hit r 2 4 hh))
        have con := fun W (hl : ∀ bb t cs, Blk wr bb t cs → Blk W bb t cs) => fromRow W _ _ _ _ r (hl _ _ _ hrows'.l4) (hl _ _ _ hrows'.m4) true hh
        clear hh
        go_wp2_with fail
        refine (con _ (fun _ _ _ h => h.alloc _)).mono ?_
        rintro e w2 ⟨rfl, hb2⟩
        have d0 := (hb2.cell (p := ⟨wr.heap.size, 0, none⟩) (by simp)).trans ((Blk.new wr _ _).cell 0)
        go_wp2_with fail
        go_ret
        exact ⟨by rw [HH.out]; rfl, hb1.trans ((hbr.trans (((Below.refl _ _).alloc hbr.size _).trans (hb2.mono (by simp; have := hbr.size; omega)))).mono hb1.size)⟩
      | false =>
        have HH := Lib.hid (HK.out.trans (shareFrom_miss r 2 4 hh))
        have con := fun W (hl : ∀ bb t cs, Blk wr bb t cs → Blk W bb t cs) => fromRow W _ _ _ _ r (hl _ _ _ hrows'.l4) (hl _ _ _ hrows'.m4) false hh
        clear hh
        go_wp2_with fail
        refine (con _ (fun _ _ _ h => h.alloc _)).mono ?_
        rintro e w2 ⟨rfl, hb2⟩
        go_wp2_with fail
        go_roundw
        case rel => exact ⟨5, by omega, rfl, HH.out, hbr.trans (((Below.refl _ _).alloc hbr.size _).trans (hb2.mono (by simp; have := hbr.size; omega)))⟩
        case measure => simp [intOf]
    · have c0 := hrows'.row.cell 10
      have c1 := hrows'.row.cell 11
      cases hh : rowHolds 5 r with
      | true =>
        have HH := Lib.hid (HK.out.trans (shareFrom_hit r 1 5 hh))
        have con := fun W (hl : ∀ bb t cs, Blk wr bb t cs → Blk W bb t cs) => fromRow W _ _ _ _ r (hl _ _ _ hrows'.l5) (hl _ _ _ hrows'.m5) true hh
        clear hh
        go_wp2_with fail
        refine (con _ (fun _ _ _ h => h.alloc _)).mono ?_
        rintro e w2 ⟨rfl, hb2⟩
        have d0 := (hb2.cell (p := ⟨wr.heap.size, 0, none⟩) (by simp)).trans ((Blk.new wr _ _).cell 0)
        go_wp2_with fail
        go_ret
        exact ⟨by rw [HH.out]; rfl, hb1.trans ((hbr.trans (((Below.refl _ _).alloc hbr.size _).trans (hb2.mono (by simp; have := hbr.size; omega)))).mono hb1.size)⟩
      | false =>
        have HH := Lib.hid (HK.out.trans (shareFrom_miss r 1 5 hh))
        have con := fun W (hl : ∀ bb t cs, Blk wr bb t cs → Blk W bb t cs) => fromRow W _ _ _ _ r (hl _ _ _ hrows'.l5) (hl _ _ _ hrows'.m5) false hh
        clear hh
        go_wp2_with fail
        refine (con _ (fun _ _ _ h => h.alloc _)).mono ?_
        rintro e w2 ⟨rfl, hb2⟩
        go_wp2_with fail
        go_roundw
        case rel => exact ⟨6, by omega, rfl, HH.out, hbr.trans (((Below.refl _ _).alloc hbr.size _).trans (hb2.mono (by simp; have := hbr.size; omega)))⟩
        case measure => simp [intOf]
    · have c0 := hrows'.row.cell 12
      have c1 := hrows'.row.cell 13
      cases hh : rowHolds 6 r with
      | true =>
        have HH := Lib.hid (HK.out.trans (shareFrom_hit r 0 6 hh))
        have con := fun W (hl : ∀ bb t cs, Blk wr bb t cs → Blk W bb t cs) => fromRow W _ _ _ _ r (hl _ _ _ hrows'.l6) (hl _ _ _ hrows'.m6) true hh
        clear hh
        go_wp2_with fail
        refine (con _ (fun _ _ _ h => h.alloc _)).mono ?_
        rintro e w2 ⟨rfl, hb2⟩
        have d0 := (hb2.cell (p := ⟨wr.heap.size, 0, none⟩) (by simp)).trans ((Blk.new wr _ _).cell 0)
        go_wp2_with fail
        go_ret
        exact ⟨by rw [HH.out]; rfl, hb1.trans ((hbr.trans (((Below.refl _ _).alloc hbr.size _).trans (hb2.mono (by simp; have := hbr.size; omega)))).mono hb1.size)⟩
      | false =>
        have HH := Lib.hid (HK.out.trans (shareFrom_miss r 0 6 hh))
        have con := fun W (hl : ∀ bb t cs, Blk wr bb t cs → Blk W bb t cs) => fromRow W _ _ _ _ r (hl _ _ _ hrows'.l6) (hl _ _ _ hrows'.m6) false hh
        clear hh
        go_wp2_with fail
        refine (con _ (fun _ _ _ h => h.alloc _)).mono ?_
        rintro e w2 ⟨rfl, hb2⟩
        go_wp2_with fail
        go_roundw
        case rel => exact ⟨7, by omega, rfl, HH.out, hbr.trans (((Below.refl _ _).alloc hbr.size _).trans (hb2.mono (by simp; have := hbr.size; omega)))⟩
        case measure => simp [intOf]
end Go.Proofs.Ytpelapdadgmlkaa
