/-
  Walk: the law FlexibleOuter.
-/
import Derived.Test.YtbhdolghokhfnaaWay16
import Derived.Test.YtbhdolghokhfnaaCopy16
import Derived.Test.YtbhdolghokhfnaaAlikePlain
namespace Go.Proofs.Ytbhdolghokhfnaa
open Go.RowKit

/-! Plain. -/
structure OutC (l : List It) (room which more : Int) : Prop where
  near : nearL l 0 room = true
  r0 : ¬ room < 0
  r1 : ¬ 34359738368 < room
  w0 : ¬ which < 0
  w1 : ¬ (l.length : Int) ≤ which
  m0 : ¬ more < 0
  m1 : ¬ 134217728 < more
  o1 : ¬ 134217728 < (itAt l which.toNat).outer
theorem widen_near {l : List It} {room which more : Int} (C : OutC l room which more) : NearP (widen l which.toNat more) 0 (room + more) := by
  obtain ⟨P, _⟩ := near_P C.near
  have := C.r0
  have := C.r1
  have := C.m0
  have := C.m1
  have ho := C.o1
  refine ⟨by rw [widen_len]; exact P.len, by omega, by omega, by omega, by omega, fun i hi => ?_⟩
  rw [widen_len] at hi
  have N := P.it i hi
  rw [widen_at hi]
  refine ⟨N.b0, N.b1, N.l0, N.l1, N.m0, N.m1, ?_, ?_, N.g0, N.g1, N.s0, N.s1⟩
  · have := N.o0
    dsimp only
    split <;> omega
  · have := N.o1
    dsimp only
    split
    · rename_i e
      rw [e] at ho
      omega
    · omega
theorem OwnsT.store {w : World} {b g n cap : Nat} {L : List It} (h : OwnsT w b (.slice (some ⟨g, 0, none⟩) n cap) L) {j : Nat} (_hj : j < L.length) (more : Int) :
    OwnsT (w.setCell ⟨g, j * 6 + 5, none⟩ (.int .i64 ((itAt L j).outer + more))) b (.slice (some ⟨g, 0, none⟩) n cap) (widen L j more) := by
  have hn : n = L.length := by
    rcases h.2 with ⟨e, _⟩ | ⟨g', cap', cur, e, _⟩
    · cases e
    · injection e
  subst hn
  have h2 := (World.ownsRow.stored h (j * 6 + 5) (.int .i64 ((itAt L j).outer + more))).1
  unfold OwnsT
  rw [widen_len]
  have e : rowT (widen L j more) = (rowT L).set (j * 6 + 5) (.int .i64 ((itAt L j).outer + more)) := by
    refine List.ext_getElem (by rw [List.length_set, rowT_len, rowT_len, widen_len]) fun i h1 h2 => ?_
    rw [rowT_len, widen_len] at h1
    have hk : i / 6 < L.length := by omega
    have hm : i % 6 < 6 := Nat.mod_lt _ (by omega)
    have e1 := rowT_at (L := widen L j more) (k := i / 6) (by rw [widen_len]; exact hk) (i % 6) hm
    have e2 := rowT_at (L := L) (k := i / 6) hk (i % 6) hm
    rw [show i / 6 * 6 + i % 6 = i by omega] at e1 e2
    rw [List.getElem?_eq_getElem (by rw [rowT_len, widen_len]; omega)] at e1
    rw [List.getElem?_eq_getElem (by rw [rowT_len]; omega)] at e2
    have w1 := widen_at (l := L) (j := j) (i := i / 6) (more := more) hk
    rw [itAt_at (by rw [widen_len]; exact hk), itAt_at hk] at w1
    rw [w1] at e1
    rw [List.getElem_set]
    have hm6 : i % 6 = 0 ∨ i % 6 = 1 ∨ i % 6 = 2 ∨ i % 6 = 3 ∨ i % 6 = 4 ∨ i % 6 = 5 := by omega
    by_cases he : j * 6 + 5 = i
    · rw [if_pos he]
      have hj6 : j = i / 6 := by omega
      have hm5 : i % 6 = 5 := by omega
      rw [hm5, if_pos hj6] at e1
      have : (rowT (widen L j more))[i]'(by rw [rowT_len, widen_len]; omega) = .int .i64 (L[i / 6].outer + more) := by simpa [encT] using e1
      rw [this, hj6, itAt_at hk]
    · rw [if_neg he]
      have hx : (rowT (widen L j more))[i]'(by rw [rowT_len, widen_len]; omega) = (rowT L)[i]'(by rw [rowT_len]; omega) := by
        have : some ((rowT (widen L j more))[i]'(by rw [rowT_len, widen_len]; omega)) = some ((rowT L)[i]'(by rw [rowT_len]; omega)) := by
          rw [e1, e2]
          rcases hm6 with q | q | q | q | q | q
          all_goals
            rw [q]
            simp [encT]
          omega
        exact Option.some.inj this
      exact hx
  rw [e]
  exact h2

theorem OwnsT.slot {w : World} {b : Nat} {v : Value} {L : List It} (h : OwnsT w b v L) (h0 : 0 < L.length) :
    ∃ g cap, v = .slice (some ⟨g, 0, none⟩) L.length cap ∧ L.length ≤ cap ∧ b ≤ g ∧ g < w.heap.size ∧ (∀ k (_ : k < L.length), w.cell? ⟨g, k * 6 + 5, none⟩ = some (.int .i64 (itAt L k).outer)) ∧ ∀ k, w.frozen? ⟨g, k, none⟩ = false := by
  rcases h.2 with ⟨_, e⟩ | ⟨g, cap, cur, rfl, hg, hb, hc, _, _, ht⟩
  · omega
  · refine ⟨g, cap, rfl, hc, hg, (Array.getElem?_eq_some_iff.1 hb).1, fun k hk => ?_, fun k => by simp [World.frozen?, hb]⟩
    rw [cell_of_row w g _ cur _ _ hb, ← Array.getElem?_toList]
    have h1 := rowT_at hk 5 (by omega)
    rw [← ht, List.getElem?_take_of_lt (by omega)] at h1
    rw [h1, itAt_at hk]
    rfl

set_option maxRecDepth 100000 in
set_option maxHeartbeats 8000000 in
theorem outer16_main (l : List It) (room which more : Int) (v : Value) (w : World) (h : Items w w.heap.size v l) (C : OutC l room which more) :
    LawReturns 10 #[v, .int .i64 room, .int .i64 which, .int .i64 more] w := by
  obtain ⟨P, _⟩ := near_P C.near
  have P2 := widen_near C
  have c2 := C.r0
  have c3 := C.r1
  have c4 := C.w0
  have c5 := C.w1
  have c6 := C.m0
  have c7 := C.m1
  have c8 := C.o1
  obtain ⟨j, rfl⟩ : ∃ j : Nat, which = j := ⟨which.toNat, by omega⟩
  rw [Int.toNat_natCast] at P2 c8
  have hjl : j < l.length := by omega
  have heq := widen_sizes hjl (room := room) (more := more) (by omega) (by omega) P.check P2.check
  obtain ⟨out, hout, F⟩ := sizes_facts P
  have hol := F.len
  have hlen := P.len
  have hob := (P.it j hjl).o0
  unfold LawReturns
  have aw := awake16 w
  have nr := fun W (hb : Below w.heap.size w W) => near16_any l 0 room v _ W (h.below hb) hb.size
  rw [C.near] at nr
  have sz := fun W (hb : Below w.heap.size w W) => sizes_any l 0 room v _ W (h.below hb) hb.size
  have sz2 := fun vs b W (hb : Items W b vs (widen l j more)) (hs : b ≤ W.heap.size) => sizes_any (widen l j more) 0 (room + more) vs _ W hb hs
  unfold SizesPost at sz sz2
  rw [hout] at sz
  rw [heq, hout] at sz2
  have HI := Lib.hid h
  obtain ⟨A, c, rfl, hc, hf⟩ := h
  obtain ⟨ad, rfl, hadb, hat⟩ := hf (by omega)
  obtain ⟨k0, k1, k2, k3, k4, k5⟩ := hat j hjl
  rw [← itAt_at hjl] at k0 k1 k2 k3 k4 k5
  obtain ⟨n, hn2⟩ : ∃ n, l.length = n := ⟨_, rfl⟩
  have HN := Lib.hid hn2
  rw [hn2] at hc hol hlen nr sz hjl c5 ⊢
  have HOL := Lib.hid hol
  have HSZ : Aside _ := sz
  have HSZ2 : Aside _ := sz2
  obtain ⟨ou, hou⟩ : ∃ z, (itAt l j).outer = z := ⟨_, rfl⟩
  rw [hou] at k5 c8 hob
  have HOU := Lib.hid hou
  have hbl : (ad.add (j * 6)).block < w.heap.size := by rw [block_of_add]; exact hadb
  have hjz : (j : Int) < (n : Int) := by omega
  clear hf hn2 hout P P2 F hol sz sz2 hat heq hou C k0 k1 k2 k3 k4
  go_enter Try.func10, Try.ntmps10
  go_wp2_with fail
  refine aw.mono ?_
  clear aw
  rintro e w1 ⟨rfl, h1⟩
  go_wp2_with fail
  refine (nr _ h1).mono ?_
  clear nr
  rintro e w2 ⟨rfl, h2⟩
  have h02 : Below w.heap.size w w2 := h1.trans (h2.mono h1.size)
  have hs02 := h02.size
  have k52 := (h02.cell (p := ⟨(ad.add (j * 6)).block, (ad.add (j * 6)).off + 5, none⟩) hbl).trans k5
  have hI2 := HI.out.below h02
  clear h1 h2
  go_wp2_with (at_builtin; refine append_items _ rfl _ _ rfl w.heap.size (.slice none 0 0) [] rfl (OwnsT.nil _ _) w.heap.size _ l rfl (by rw [HN.out] at hI2; exact hI2) (by simp; rw [HN.out]; omega) hs02 ?_; intro v3 w3 hown3 _ hb3; rw [List.nil_append] at hown3; obtain ⟨g, cap, hv3, hcap, hg3, hgl3, hcw, hfw⟩ := hown3.slot (by rw [HN.out]; omega); have cw := hcw j (by rw [HN.out]; exact hjl); rw [HOU.out] at cw; have fw := hfw (j * 6 + 5); subst hv3; have hownW := hown3.store (j := j) (by rw [HN.out]; exact hjl) more; rw [HOU.out, HN.out] at hownW; have hb03 := h02.trans hb3; have hbW := hb03.setCell (p := ⟨g, j * 6 + 5, none⟩) hg3 (.int .i64 (ou + more)); rw [HN.out] at hcap ⊢; clear hcw hfw hown3)
  generalize w3.setCell ⟨g, j * 6 + 5, none⟩ (.int .i64 (ou + more)) = w4 at *
  have hs4 := hbW.size
  refine (HSZ.out _ hbW).mono ?_
  rintro e w5 ⟨v5, rfl, ho5, h5⟩
  obtain ⟨A5, c5, hv5, hc5, _⟩ := ho5.ints
  subst hv5
  have HO5 := Lib.hid ho5
  rw [HOL.out] at hc5 ⊢
  have h05 : Below w.heap.size w w5 := hbW.trans (h5.mono hs4)
  have hown5 := hownW.below h5
  have hI5 := hown5.items
  have hs5 := h05.size
  have hcell5 : ∀ i, i < n → ∃ g, A5 = some ⟨g, 0, none⟩ ∧ g < w5.heap.size ∧ w5.cell? ⟨g, i, none⟩ = some (.int .i64 (outI out i)) := fun i hi => by
    obtain ⟨g, cap, e, _, _, hl, hcc, _⟩ := HO5.out.openI (by rw [HOL.out]; omega)
    injection e with e _ _
    refine ⟨g, e, hl, ?_⟩
    rw [hcc i (by rw [HOL.out]; exact hi)]
    simp [outI, HOL.out, hi]
  have HC5 : Aside _ := hcell5
  clear hcell5 h5 ho5 hownW hown5 hI2 h02 hb3 hb03 hgl3 cw fw
  go_wp2_with fail
  refine (HSZ2.out _ _ _ hI5 (Nat.le_refl _)).mono ?_
  clear hI5
  rintro e w6 ⟨v6, rfl, ho6, h6⟩
  obtain ⟨A6, c6', hv6, hc6, _⟩ := ho6.ints
  subst hv6
  have HO6 := Lib.hid ho6
  rw [HOL.out] at hc6 ⊢
  have h06 : Below w.heap.size w w6 := h05.trans (h6.mono hs5)
  have hcell6 : ∀ i, i < n → ∃ g, A6 = some ⟨g, 0, none⟩ ∧ g < w6.heap.size ∧ w6.cell? ⟨g, i, none⟩ = some (.int .i64 (outI out i)) := fun i hi => by
    obtain ⟨g, cap, e, _, _, hl, hcc, _⟩ := HO6.out.openI (by rw [HOL.out]; omega)
    injection e with e _ _
    refine ⟨g, e, hl, ?_⟩
    rw [hcc i (by rw [HOL.out]; exact hi)]
    simp [outI, HOL.out, hi]
  have HC6 : Aside _ := hcell6
  have H56 := Lib.hid h6
  have hs6 := h06.size
  have hs56 := h6.size
  clear hcell6 h6 ho6
  go_wp2_with fail
  go_loopw [14] (WyA n w6) (fun i _ => n - (intOf i).toNat)
  case atStart => exact ⟨0, by omega, rfl, Below.refl _ _⟩
  case round =>
    obtain ⟨i, hi, rfl, hbr⟩ := hrel
    by_cases hli : i < n
    · have hliz : (i : Int) < (n : Int) := by omega
      obtain ⟨g5, rfl, hgw5, cg5⟩ := HC5.out i hli
      obtain ⟨g6, rfl, hgw6, cg6⟩ := HC6.out i hli
      have cg2 := (hbr.cell (p := ⟨g5, i, none⟩) (by show g5 < _; omega)).trans ((H56.out.cell (p := ⟨g5, i, none⟩) hgw5).trans cg5)
      have cg3 := (hbr.cell (p := ⟨g6, i, none⟩) hgw6).trans cg6
      clear cg5 cg6
      generalize outI out i = fx at *
      have hne : (fx != fx) = false := by simp
      go_wp2_with fail
      go_quiet (fail)
      go_wp2_with fail
      go_roundw
      case rel => exact ⟨i + 1, hli, by go_num, below_drewN hbr nq⟩
      case measure => simp [intOf]; omega
    · obtain rfl : i = n := by omega
      have hliz : ¬ (i : Int) < (i : Int) := by omega
      go_wp2_with fail
      go_ret
      exact ⟨rfl, h06.trans (hbr.mono hs6)⟩

set_option maxRecDepth 100000 in
set_option maxHeartbeats 4000000 in
theorem outer16_far (l : List It) (room which more : Int) (v : Value) (w : World) (h : Items w w.heap.size v l) (hC : ¬ OutC l room which more) :
    LawReturns 10 #[v, .int .i64 room, .int .i64 which, .int .i64 more] w := by
  unfold LawReturns
  have aw := awake16 w
  have nr := fun W (hb : Below w.heap.size w W) => near16_any l 0 room v _ W (h.below hb) hb.size
  obtain ⟨nn, hnn⟩ : ∃ b, nearL l 0 room = b := ⟨_, rfl⟩
  have hcase : nn = false ∨ (nn = true ∧ room < 0) ∨ (nn = true ∧ ¬ room < 0 ∧ 34359738368 < room) ∨ (nn = true ∧ ¬ room < 0 ∧ ¬ 34359738368 < room ∧ which < 0) ∨ (nn = true ∧ ¬ room < 0 ∧ ¬ 34359738368 < room ∧ ¬ which < 0 ∧ (l.length : Int) ≤ which) ∨
      (nn = true ∧ ¬ room < 0 ∧ ¬ 34359738368 < room ∧ ¬ which < 0 ∧ ¬ (l.length : Int) ≤ which ∧ more < 0) ∨ (nn = true ∧ ¬ room < 0 ∧ ¬ 34359738368 < room ∧ ¬ which < 0 ∧ ¬ (l.length : Int) ≤ which ∧ ¬ more < 0 ∧ 134217728 < more) ∨
      (nn = true ∧ ¬ room < 0 ∧ ¬ 34359738368 < room ∧ ¬ which < 0 ∧ ¬ (l.length : Int) ≤ which ∧ ¬ more < 0 ∧ ¬ 134217728 < more ∧ 134217728 < (itAt l which.toNat).outer) := by
    cases nn with
    | false => exact Or.inl rfl
    | true =>
      by_cases c1 : room < 0
      · exact Or.inr (Or.inl ⟨rfl, c1⟩)
      by_cases c2 : 34359738368 < room
      · exact Or.inr (Or.inr (Or.inl ⟨rfl, c1, c2⟩))
      by_cases c3 : which < 0
      · exact Or.inr (Or.inr (Or.inr (Or.inl ⟨rfl, c1, c2, c3⟩)))
      by_cases c4 : (l.length : Int) ≤ which
      · exact Or.inr (Or.inr (Or.inr (Or.inr (Or.inl ⟨rfl, c1, c2, c3, c4⟩))))
      by_cases c5 : more < 0
      · exact Or.inr (Or.inr (Or.inr (Or.inr (Or.inr (Or.inl ⟨rfl, c1, c2, c3, c4, c5⟩)))))
      by_cases c6 : 134217728 < more
      · exact Or.inr (Or.inr (Or.inr (Or.inr (Or.inr (Or.inr (Or.inl ⟨rfl, c1, c2, c3, c4, c5, c6⟩))))))
      by_cases c7 : 134217728 < (itAt l which.toNat).outer
      · exact Or.inr (Or.inr (Or.inr (Or.inr (Or.inr (Or.inr (Or.inr ⟨rfl, c1, c2, c3, c4, c5, c6, c7⟩))))))
      exact absurd ⟨hnn, c1, c2, c3, c4, c5, c6, c7⟩ hC
  rw [hnn] at nr
  obtain ⟨A, c, rfl, hc, hf⟩ := h
  have HF : Aside _ := hf
  clear hC hnn hf
  rcases hcase with rfl | ⟨rfl, d1⟩ | ⟨rfl, d1, d2⟩ | ⟨rfl, d1, d2, d3⟩ | ⟨rfl, d1, d2, d3, d4⟩ | ⟨rfl, d1, d2, d3, d4, d5⟩ | ⟨rfl, d1, d2, d3, d4, d5, d6⟩ | ⟨rfl, d1, d2, d3, d4, d5, d6, d7⟩
  case inr.inr.inr.inr.inr.inr.inr =>
    obtain ⟨j, rfl⟩ : ∃ j : Nat, which = j := ⟨which.toNat, by omega⟩
    rw [Int.toNat_natCast] at d7
    have hjl : j < l.length := by omega
    obtain ⟨ad, rfl, hadb, hat⟩ := HF.out (by omega)
    have k5 := (hat j hjl).2.2.2.2.2
    rw [← itAt_at hjl] at k5
    generalize (itAt l j).outer = ou at *
    have hbl : (ad.add (j * 6)).block < w.heap.size := by rw [block_of_add]; exact hadb
    clear hat hjl
    go_enter Try.func10, Try.ntmps10
    go_wp2_with fail
    refine aw.mono ?_
    clear aw
    rintro e w1 ⟨rfl, h1⟩
    go_wp2_with fail
    refine (nr _ h1).mono ?_
    clear nr
    rintro e w2 ⟨rfl, h2⟩
    have h02 : Below w.heap.size w w2 := h1.trans (h2.mono h1.size)
    have k52 := (h02.cell (p := ⟨(ad.add (j * 6)).block, (ad.add (j * 6)).off + 5, none⟩) hbl).trans k5
    go_wp2_with fail
    go_ret
    exact ⟨rfl, h02⟩
  all_goals
    go_enter Try.func10, Try.ntmps10
    go_wp2_with fail
    refine aw.mono ?_
    clear aw
    rintro e w1 ⟨rfl, h1⟩
    go_wp2_with fail
    refine (nr _ h1).mono ?_
    clear nr
    rintro e w2 ⟨rfl, h2⟩
    have h02 : Below w.heap.size w w2 := h1.trans (h2.mono h1.size)
    go_wp2_with fail
    go_ret
    exact ⟨rfl, h02⟩
theorem flexibleOuter_walk (l : List It) (room which more : Int) (v : Value) (w : World) (h : Items w w.heap.size v l) :
    LawReturns 10 #[v, .int .i64 room, .int .i64 which, .int .i64 more] w := by
  by_cases hC : OutC l room which more
  · exact outer16_main l room which more v w h hC
  · exact outer16_far l room which more v w h hC

end Go.Proofs.Ytbhdolghokhfnaa
