/-
  Walk: the law FlexibleStiff.
-/
import Derived.Test.YtbhdolghokhfnaaWay16
import Derived.Test.YtbhdolghokhfnaaCopy16
namespace Go.Proofs.Ytbhdolghokhfnaa
open Go.RowKit

/-! Plain. -/
def stiffI (x : It) : It := ⟨x.base, x.least, x.most, 0, 0, x.outer⟩
theorem stiff_first (x : It) : firstR (stiffI x) = firstR x := rfl
theorem stiff_near {l : List It} {gap room : Int} (P : NearP l gap room) : NearP (l.map stiffI) gap room := by
  refine ⟨by rw [List.length_map]; exact P.len, P.p0, P.p1, P.r0, P.r1, fun i hi => ?_⟩
  have hi' : i < l.length := by simpa using hi
  have N := P.it i hi'
  rw [itAt_at hi'] at N
  rw [itAt_at hi, List.getElem_map]
  exact ⟨N.b0, N.b1, N.l0, N.l1, N.m0, N.m1, N.o0, N.o1, Int.le_refl _, by show (0 : Int) ≤ 1000; decide, Int.le_refl _, by show (0 : Int) ≤ 1000; decide⟩
/-- Boxes that are stiff have their first sizes. -/
theorem stiff_out {l : List It} {gap room : Int} {out : List Int} (F : SizesF (l.map stiffI) gap room out) {i : Nat} (hi : i < l.length) : outI out i = firstR l[i] := by
  have hi' : i < (l.map stiffI).length := by simpa using hi
  have e : itAt (l.map stiffI) i = stiffI l[i] := by rw [itAt_at hi', List.getElem_map]
  have f : fstI (l.map stiffI) i = firstR l[i] := by unfold fstI; rw [e]; rfl
  rw [← f]
  cases hg : growR (l.map stiffI) gap room with
  | true => exact F.g0 hg i hi' (by rw [e]; rfl)
  | false => exact F.s0 hg i hi' (by rw [e]; rfl)
/-- .. so have boxes whose first sizes fill the room. -/
theorem fill_out {l : List It} {gap : Int} {out : List Int} (h0 : 0 ≤ allR l gap) (F : SizesF l gap (allR l gap) out) {i : Nat} (hi : i < l.length) : outI out i = firstR l[i] := by
  have hg : growR l gap (allR l gap) = false := by unfold growR; simp
  have h1 := F.ge h0 hg
  have h2 := F.sh h0 hg
  have hsum : allR l gap = sumF (fstI l) l.length + aroundR l gap := by unfold allR; rw [firsts_sum]
  have := sumF_alike h2 (by omega) i hi
  rw [this]
  unfold fstI
  rw [itAt_at hi]
theorem fill_near {l : List It} {gap room : Int} (P : NearP l gap room) (h0 : 0 ≤ allR l gap) : NearP l gap (allR l gap) := by
  have h1 := near_bd P (Nat.le_refl l.length)
  have e := all_arT l gap
  have h2 := around_bd P
  have h4 := sumF_hi (f := fstI l) (c := 268435456) (n := l.length) fun i hi => by have := (P.it i hi).l1; have := (P.it i hi).b1; unfold fstI; rw [first_eq]; omega
  have hsum : allR l gap = sumF (fstI l) l.length + aroundR l gap := by unfold allR; rw [firsts_sum]
  have hl := P.len
  exact ⟨P.len, P.p0, P.p1, by omega, by omega, P.it⟩
/-- Whether the first k boxes' bases are their first sizes. -/
def sbT (l : List It) (k : Nat) : Bool := (l.take k).all fun x => decide (x.base = firstR x)
def StA (l : List It) (w : World) (b : Nat) (vs i : Value) (wr : World) : Prop := ∃ k : Nat, k ≤ l.length ∧ i = .int .i64 k ∧ OwnsT wr b vs ((l.take k).map stiffI) ∧ Below b w wr
def StB (l : List It) (al : Int) (w : World) (n i : Value) (wr : World) : Prop := ∃ k : Nat, k ≤ l.length ∧ i = .int .i64 k ∧ n = .int .i64 (if sbT l k = true then al else -1) ∧ Below w.heap.size w wr
theorem sbT_succ (l : List It) {k : Nat} (hk : k < l.length) : sbT l (k + 1) = (sbT l k && decide (l[k].base = firstR l[k])) := by
  unfold sbT
  rw [List.take_succ_eq_append_getElem hk, List.all_append, List.all_cons, List.all_nil, Bool.and_true]

/-- 'out = append(out, x)': the one box lies in a new block of its own. -/
theorem append_item {ops : Array Oper} {rest : List Oper} {o : Oper} {a : Act} {Q : Exit → Act → World → Prop} (w : World) (t : It) (hgd : o.guard = none) (s x : Operand)
    (ho : o.op = .call { callee := .builtin .append, args := #[s, x], argTypes := #[33, 33] })
    (base : Nat) (v : Value) (L : List It) (hs : a.eval s = v) (hown : OwnsT w base v L)
    (hx : a.eval x = .slice (some ⟨w.heap.size, 0, none⟩) 1 1)
    (h47 : L.length < 100000) (hbase : base ≤ w.heap.size)
    (h : ∀ v' w', OwnsT w' base v' (L ++ [t]) → Below base w w' → wpList Try.prog ops Q rest (a.put o.dst v') w') :
    wpList Try.prog ops Q (o :: rest) a (w.alloc (.cells #[.int .i64 t.base, .int .i64 t.least, .int .i64 t.most, .int .i64 t.grow, .int .i64 t.shrink, .int .i64 t.outer] 39)) := by
  have hb : Items (w.alloc (.cells #[.int .i64 t.base, .int .i64 t.least, .int .i64 t.most, .int .i64 t.grow, .int .i64 t.shrink, .int .i64 t.outer] 39)) (w.heap.size + 1) (.slice (some ⟨w.heap.size, 0, none⟩) 1 1) [t] := Items.built w [t] (w.heap.size + 1) (Nat.lt_succ_self _)
  refine append_items _ hgd s x ho base v L hs (hown.alloc _) (w.heap.size + 1) _ [t] hx hb (by simp; omega) (by simp; omega) ?_
  intro v' w' h1 _ h2
  exact h v' w' h1 (((Below.refl base w).alloc hbase _).trans h2)

set_option maxRecDepth 100000 in
set_option maxHeartbeats 8000000 in
theorem stiff16_main (l : List It) (gap room : Int) (v : Value) (w : World) (h : Items w w.heap.size v l) (hn : nearL l gap room = true) :
    LawReturns 9 #[v, .int .i64 gap, .int .i64 room] w := by
  obtain ⟨P, hrm⟩ := near_P hn
  obtain ⟨out, hout, F⟩ := sizes_facts (stiff_near P)
  have hol := F.len
  rw [List.length_map] at hol
  have hlen := P.len
  unfold LawReturns
  have aw := awake16 w
  have nr := fun W (hb : Below w.heap.size w W) => near16_any l gap room v _ W (h.below hb) hb.size
  have sz := fun vs b W (hb : Items W b vs (l.map stiffI)) (hs : b ≤ W.heap.size) => sizes_any (l.map stiffI) gap room vs _ W hb hs
  have fi := fun W (hb : Below w.heap.size w W) => first16_any l gap room P v _ W (h.below hb) hb.size
  have HI := Lib.hid h
  rw [hn] at nr
  unfold SizesPost at sz
  rw [hout] at sz
  have HO1 := Lib.hid (fun i (hi : i < l.length) => stiff_out F hi)
  have HP := Lib.hid P
  have hal := near_bd P (Nat.le_refl l.length)
  have hae := all_arT l gap
  obtain ⟨A, c, rfl, hc, hf⟩ := h
  have HF : Aside _ := hf
  obtain ⟨n, hn2⟩ : ∃ n, l.length = n := ⟨_, rfl⟩
  have HN := Lib.hid hn2
  rw [hn2] at hc hol hlen nr hal hae fi ⊢
  have HOL := Lib.hid hol
  have HSZ : Aside _ := sz
  have HFI : Aside _ := fi
  clear hf hn2 hn hout P F hol sz fi
  go_enter Try.func9, Try.ntmps9
  go_wp2_with fail
  refine aw.mono ?_
  clear aw
  rintro e w1 ⟨rfl, h1⟩
  go_wp2_with fail
  refine (nr _ h1).mono ?_
  clear nr
  rintro e w2 ⟨rfl, h2⟩
  have h02 : Below w.heap.size w w2 := h1.trans (h2.mono h1.size)
  have hs02 := h02.size
  clear h1 h2
  go_wp2_with fail
  go_loopw [7, 8] (StA l w w.heap.size) (fun _ i _ => n - (intOf i).toNat)
  case atStart => exact ⟨0, by omega, rfl, OwnsT.nil _ _, h02⟩
  case round =>
    obtain ⟨k, hk, rfl, hown, hbr⟩ := hrel
    have hbs := hbr.size
    rw [HN.out] at hk
    by_cases hlt : k < n
    · have hltz : (k : Int) < (n : Int) := by omega
      have hkl : k < l.length := by rw [HN.out]; exact hlt
      obtain ⟨ad, rfl, hadb, hat⟩ := HF.out (by omega)
      obtain ⟨k0, k1, k2, k3, k4, k5⟩ := (hat k hkl).below hbr (by rw [block_of_add]; exact hadb)
      have HT := Lib.hid (show (l.take (k + 1)).map stiffI = (l.take k).map stiffI ++ [stiffI l[k]] by rw [List.take_succ_eq_append_getElem hkl, List.map_append, List.map_singleton])
      have hlk : ((l.take k).map stiffI).length < 100000 := by simp; omega
      clear hat
      generalize l[k] = x at *
      clear hkl
      obtain ⟨bs, le, mo, gr, sh, ou⟩ := x
      dsimp only at k0 k1 k2 k3 k4 k5
      have hownA : OwnsT (wr.alloc (.cells #[.int .i64 bs, .int .i64 le, .int .i64 mo, .int .i64 0, .int .i64 0, .int .i64 ou] 39)) w.heap.size u7 ((l.take k).map stiffI) := hown.alloc _
      have hbA : Below wr.heap.size wr (wr.alloc (.cells #[.int .i64 bs, .int .i64 le, .int .i64 mo, .int .i64 0, .int .i64 0, .int .i64 ou] 39)) := (Below.refl _ _).alloc (Nat.le_refl _) _
      have hsA : (wr.alloc (.cells #[.int .i64 bs, .int .i64 le, .int .i64 mo, .int .i64 0, .int .i64 0, .int .i64 ou] 39)).heap.size = wr.heap.size + 1 := World.size_alloc _ _
      clear hown
      go_wp2_with (at_builtin; generalize wr.alloc (.cells #[.int .i64 bs, .int .i64 le, .int .i64 mo, .int .i64 0, .int .i64 0, .int .i64 ou] 39) = wA at *; rw [← hsA]; refine append_item wA ⟨bs, le, mo, 0, 0, ou⟩ rfl _ _ rfl w.heap.size u7 _ rfl hownA rfl hlk (by omega) ?_; intro v3 w3 hown3 hb3)
      go_roundw
      case rel => exact ⟨k + 1, by rw [HN.out]; exact hlt, by go_num, by rw [HT.out]; exact hown3, hbr.trans ((hbA.mono hbs).trans hb3)⟩
      case measure => simp [intOf]; omega
    · obtain rfl : k = n := by omega
      have hltz : ¬ (k : Int) < (k : Int) := by omega
      rw [List.take_of_length_le (by rw [HN.out]; exact Nat.le_refl _)] at hown
      have sz := HSZ.out _ _ _ hown.items (Nat.le_refl _)
      go_wp2_with fail
      refine sz.mono ?_
      clear sz
      rintro e w3 ⟨v3, rfl, ho3, h3⟩
      have h03 : Below w.heap.size w w3 := hbr.trans (h3.mono hbs)
      have fi := HFI.out w3 h03
      obtain ⟨A3, c3, hv3, hc3, _⟩ := ho3.ints
      subst hv3
      have HO := Lib.hid ho3
      rw [HOL.out] at hc3 ⊢
      have hs03 := h03.size
      have hcell : ∀ i (hi : i < l.length), ∃ g, A3 = some ⟨g, 0, none⟩ ∧ g < w3.heap.size ∧ w3.cell? ⟨g, i, none⟩ = some (.int .i64 (firstR l[i])) := fun i hi => by
        obtain ⟨g, cap, e, _, _, hl, hcc, _⟩ := HO.out.openI (by rw [HOL.out, ← HN.out]; omega)
        injection e with e _ _
        refine ⟨g, e, hl, ?_⟩
        rw [hcc i (by rw [HOL.out, ← HN.out]; exact hi), ← HO1.out i hi]
        simp [outI, HOL.out, ← HN.out, hi]
      have HC : Aside _ := hcell
      clear hcell h3 ho3 hown
      obtain ⟨al, hale⟩ : ∃ z, allR l gap = z := ⟨_, rfl⟩
      obtain ⟨gw, hgwe⟩ : ∃ z, growR l gap room = z := ⟨_, rfl⟩
      rw [hale, hgwe] at fi
      rw [hale] at hae
      have HAL := Lib.hid hale
      have halb : -1099511627776 ≤ al ∧ al ≤ 1099511627776 := by omega
      clear hale hgwe hae hal
      go_wp2_with fail
      refine fi.mono ?_
      clear fi
      rintro e w4 ⟨rfl, h4⟩
      have h34 : Below w3.heap.size w3 w4 := h4
      go_wp2_with fail
      go_loopw [12, 14] (StB l al w4) (fun _ i _ => k - (intOf i).toNat)
      case atStart => exact ⟨0, by omega, rfl, rfl, Below.refl _ _⟩
      case round =>
        clear h4
        obtain ⟨j, hj, rfl, rfl, hbr2⟩ := hrel
        rw [HN.out] at hj
        have hbs2 := hbr2.size
        have hs4 := h34.size
        by_cases hlt : j < k
        · have hltz2 : (j : Int) < (k : Int) := by omega
          have hjl : j < l.length := by rw [HN.out]; exact hlt
          obtain ⟨ad, rfl, hadb, hat⟩ := HF.out (by omega)
          obtain ⟨k0, k1, k2, k3, k4, k5⟩ := (((hat j hjl).below h03 (by rw [block_of_add]; exact hadb)).below h34 (by rw [block_of_add]; omega)).below hbr2 (by rw [block_of_add]; omega)
          obtain ⟨g, rfl, hgw, cg⟩ := HC.out j hjl
          have cg2 := (hbr2.cell (p := ⟨g, j, none⟩) (by show g < _; omega)).trans ((h34.cell (p := ⟨g, j, none⟩) hgw).trans cg)
          have hgr : g < wr.heap.size := by omega
          have hbl : (ad.add (j * 6)).block < wr.heap.size := by rw [block_of_add]; omega
          have HSB := Lib.hid (sbT_succ l hjl)
          clear cg hat
          generalize l[j] = x at *
          clear hjl
          have f1 := fun W => first_any x W
          generalize firstR x = fx at *
          have hne : (fx != fx) = false := by simp
          obtain ⟨bs, le, mo, gr, sh, ou⟩ := x
          unfold It.val at f1
          dsimp only at f1 k0 k1 k2 k3 k4 k5 HSB
          have hk7 := fun W : BW wr.heap.size wr => (W.ok.cell (p := ⟨g, j, none⟩) hgr).trans cg2
          have hk0 := fun W : BW wr.heap.size wr => (W.ok.cell hbl).trans k0
          have hk1 := fun W : BW wr.heap.size wr => (W.ok.cell (p := ⟨(ad.add (j * 6)).block, _, none⟩) hbl).trans k1
          have hk2 := fun W : BW wr.heap.size wr => (W.ok.cell (p := ⟨(ad.add (j * 6)).block, _, none⟩) hbl).trans k2
          have hk3 := fun W : BW wr.heap.size wr => (W.ok.cell (p := ⟨(ad.add (j * 6)).block, _, none⟩) hbl).trans k3
          have hk4 := fun W : BW wr.heap.size wr => (W.ok.cell (p := ⟨(ad.add (j * 6)).block, _, none⟩) hbl).trans k4
          have hk5 := fun W : BW wr.heap.size wr => (W.ok.cell (p := ⟨(ad.add (j * 6)).block, _, none⟩) hbl).trans k5
          generalize hcur : (if sbT l j = true then al else -1) = cur
          go_wp2_with fail
          refine wp_region_heldq wr.heap.size (by kernel_rfl) (by kernel_rfl) ?_
          repeat (go_big_quiet_step ((go_at_call 24; exact held_calls (Nat.le_refl _) f1 _)))
          refine wpQuiet_nil ?_
          intro wq hw'
          obtain ⟨⟨_, hQ⟩, rfl⟩ := hw'
          have hk0' := fun W : BW wq.heap.size wq => (hQ.trans (W.ok.mono hQ.size)).cell hbl |>.trans k0
          have hk1' := fun W : BW wq.heap.size wq => ((hQ.trans (W.ok.mono hQ.size)).cell (p := ⟨(ad.add (j * 6)).block, _, none⟩) hbl).trans k1
          have hk2' := fun W : BW wq.heap.size wq => ((hQ.trans (W.ok.mono hQ.size)).cell (p := ⟨(ad.add (j * 6)).block, _, none⟩) hbl).trans k2
          have hk3' := fun W : BW wq.heap.size wq => ((hQ.trans (W.ok.mono hQ.size)).cell (p := ⟨(ad.add (j * 6)).block, _, none⟩) hbl).trans k3
          have hk4' := fun W : BW wq.heap.size wq => ((hQ.trans (W.ok.mono hQ.size)).cell (p := ⟨(ad.add (j * 6)).block, _, none⟩) hbl).trans k4
          have hk5' := fun W : BW wq.heap.size wq => ((hQ.trans (W.ok.mono hQ.size)).cell (p := ⟨(ad.add (j * 6)).block, _, none⟩) hbl).trans k5
          clear hk0 hk1 hk2 hk3 hk4 hk5 hk7
          have hQs := hQ.size
          have HCUR := Lib.hid hcur
          clear hcur
          by_cases hb : bs = fx
          · have z1 : (bs != fx) = false := by simp [hb]
            have HS2 := Lib.hid (show sbT l (j + 1) = sbT l j by rw [HSB.out, decide_eq_true hb, Bool.and_true])
            clear hb
            go_wp2_with fail
            refine wp_region_heldq wq.heap.size (by kernel_rfl) (by kernel_rfl) ?_
            repeat (go_big_quiet_step ((go_at_call 24; exact held_calls (Nat.le_refl _) f1 _)))
            refine wpQuiet_nil ?_
            intro _ hw'
            obtain ⟨⟨wz, hZ⟩, rfl⟩ := hw'
            clear hk0' hk1' hk2' hk3' hk4' hk5'
            go_wp2_with fail
            go_roundw
            case rel => exact ⟨j + 1, by rw [HN.out]; exact hlt, by go_num, by rw [HS2.out, HCUR.out], hbr2.trans ((hQ.trans (hZ.mono hQs)).mono hbs2)⟩
            case measure => simp [intOf]; omega
          · have z1 : (bs != fx) = true := by simp [hb]
            have HS2 := Lib.hid (show sbT l (j + 1) = false by rw [HSB.out, decide_eq_false hb, Bool.and_false])
            clear hb
            go_wp2_with fail
            refine wp_region_heldq wq.heap.size (by kernel_rfl) (by kernel_rfl) ?_
            repeat (go_big_quiet_step ((go_at_call 24; exact held_calls (Nat.le_refl _) f1 _)))
            refine wpQuiet_nil ?_
            intro _ hw'
            obtain ⟨⟨wz, hZ⟩, rfl⟩ := hw'
            clear hk0' hk1' hk2' hk3' hk4' hk5'
            go_wp2_with fail
            go_roundw
            case rel => exact ⟨j + 1, by rw [HN.out]; exact hlt, by go_num, by rw [HS2.out]; rfl, hbr2.trans ((hQ.trans (hZ.mono hQs)).mono hbs2)⟩
            case measure => simp [intOf]; omega
        · obtain rfl : j = k := by omega
          have hltz2 : ¬ (j : Int) < (j : Int) := by omega
          have h04 : Below w.heap.size w wr := h03.trans ((h34.trans (hbr2.mono hs4)).mono hs03)
          by_cases hcond : sbT l j = true ∧ 0 ≤ al
          · obtain ⟨hsb, hal0⟩ := hcond
            rw [if_pos hsb]
            have hal2 : 0 ≤ allR l gap := by rw [HAL.out]; exact hal0
            have P2 := fill_near HP.out hal2
            obtain ⟨out2, hout2, F2⟩ := sizes_facts P2
            have HO2 := Lib.hid (fun i (hi : i < l.length) => fill_out hal2 F2 hi)
            have hol2 := F2.len
            rw [HN.out] at hol2
            have HOL2 := Lib.hid hol2
            have sz2 := sizes_any l gap (allR l gap) _ _ wr (HI.out.below h04) h04.size
            unfold SizesPost at sz2
            rw [hout2, HAL.out, HN.out] at sz2
            have hnl : ¬ al < 0 := by omega
            clear hsb hal2 P2 hout2 F2 hol2
            go_wp2_with fail
            refine sz2.mono ?_
            clear sz2
            rintro e w5 ⟨v5, rfl, ho5, h5⟩
            obtain ⟨A5, c5, hv5, hc5, _⟩ := ho5.ints
            subst hv5
            have HO5 := Lib.hid ho5
            rw [HOL2.out] at hc5 ⊢
            have h05 : Below w.heap.size w w5 := h04.trans (h5.mono h04.size)
            have h35 : Below w3.heap.size w3 w5 := (h34.trans (hbr2.mono hs4)).trans (h5.mono ((h34.trans (hbr2.mono hs4)).size))
            have hcell5 : ∀ i (hi : i < l.length), ∃ g, A5 = some ⟨g, 0, none⟩ ∧ g < w5.heap.size ∧ w5.cell? ⟨g, i, none⟩ = some (.int .i64 (firstR l[i])) := fun i hi => by
              obtain ⟨g, cap, e, _, _, hl, hcc, _⟩ := HO5.out.openI (by rw [HOL2.out, ← HN.out]; omega)
              injection e with e _ _
              refine ⟨g, e, hl, ?_⟩
              rw [hcc i (by rw [HOL2.out, ← HN.out]; exact hi), ← HO2.out i hi]
              simp [outI, HOL2.out, ← HN.out, hi]
            have HC5 : Aside _ := hcell5
            have hs5 := h05.size
            have hs35 := h35.size
            clear hcell5 h5 ho5 h04 h34 hbr2
            go_wp2_with fail
            go_loopw [17] (WyA j w5) (fun i _ => j - (intOf i).toNat)
            case atStart => exact ⟨0, by omega, rfl, Below.refl _ _⟩
            case round =>
              obtain ⟨i, hi, rfl, hbr3⟩ := hrel
              by_cases hli : i < j
              · have hliz : (i : Int) < (j : Int) := by omega
                have hil : i < l.length := by rw [HN.out]; exact hli
                obtain ⟨g, rfl, hgw, cg⟩ := HC.out i hil
                obtain ⟨g5, rfl, hgw5, cg5⟩ := HC5.out i hil
                have cg2 := (hbr3.cell (p := ⟨g, i, none⟩) (by show g < _; omega)).trans ((h35.cell (p := ⟨g, i, none⟩) hgw).trans cg)
                have cg6 := (hbr3.cell (p := ⟨g5, i, none⟩) hgw5).trans cg5
                clear cg cg5
                generalize firstR l[i] = fx at *
                have hne : (fx != fx) = false := by simp
                clear hil
                go_wp2_with fail
                go_quiet (fail)
                go_wp2_with fail
                go_roundw
                case rel => exact ⟨i + 1, hli, by go_num, below_drewN hbr3 nq⟩
                case measure => simp [intOf]; omega
              · obtain rfl : i = j := by omega
                have hliz : ¬ (i : Int) < (i : Int) := by omega
                go_wp2_with fail
                go_ret
                exact ⟨rfl, h05.trans (hbr3.mono hs5)⟩
          · obtain ⟨cur, hcur, hneg⟩ : ∃ z : Int, (if sbT l j = true then al else -1) = z ∧ z < 0 := by
              refine ⟨_, rfl, ?_⟩
              split
              · rename_i h'
                exact Int.not_le.1 fun h'' => hcond ⟨h', h''⟩
              · decide
            rw [hcur]
            clear hcur hcond
            go_wp2_with fail
            go_ret
            exact ⟨rfl, h04⟩

set_option maxRecDepth 100000 in
set_option maxHeartbeats 1000000 in
theorem stiff16_far (l : List It) (gap room : Int) (v : Value) (w : World) (h : Items w w.heap.size v l) (hn : nearL l gap room = false) :
    LawReturns 9 #[v, .int .i64 gap, .int .i64 room] w := by
  unfold LawReturns
  have aw := awake16 w
  have nr := fun W (hb : Below w.heap.size w W) => near16_any l gap room v _ W (h.below hb) hb.size
  rw [hn] at nr
  obtain ⟨A, c, rfl, hc, hf⟩ := h
  clear hf hn
  go_enter Try.func9, Try.ntmps9
  go_wp2_with fail
  refine aw.mono ?_
  clear aw
  rintro e w1 ⟨rfl, h1⟩
  go_wp2_with fail
  refine (nr _ h1).mono ?_
  clear nr
  rintro e w2 ⟨rfl, h2⟩
  go_wp2_with fail
  go_ret
  exact ⟨rfl, h1.trans (h2.mono h1.size)⟩
theorem flexibleStiff_walk (l : List It) (gap room : Int) (v : Value) (w : World) (h : Items w w.heap.size v l) :
    LawReturns 9 #[v, .int .i64 gap, .int .i64 room] w := by
  cases hn : nearL l gap room with
  | true => exact stiff16_main l gap room v w h hn
  | false => exact stiff16_far l gap room v w h hn

end Go.Proofs.Ytbhdolghokhfnaa
