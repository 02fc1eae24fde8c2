/-
  Walk: the law FlexibleSizes.
-/
import Derived.Test.YtbhdolghokhfnaaRefSizes
import Derived.Test.YtbhdolghokhfnaaCopy16
import Derived.Deep.RegionHeld3
namespace Go.Proofs.Ytbhdolghokhfnaa
open Go.RowKit

theorem roundsR_len : ∀ {f : Nat} {grow : Bool} {R : Int} {s : List Bo} {out : List Int}, roundsR f grow R s = some out → out.length = s.length
  | 0, _, _, _, _, h => by simp [roundsR] at h
  | f + 1, grow, R, s, out, h => by
    rw [roundsR] at h
    split at h
    · injection h with h
      subst h
      simp
    · split at h
      · have := roundsR_len h
        rwa [nextR_len] at this
      · cases h
theorem sizesR_len (l : List It) (gap room : Int) : (sizesR l gap room).1.length ≤ l.length := by
  unfold sizesR
  split
  · simp
  · split
    · simp
    · cases ho : roundsR (l.length + 1) (growR l gap room) (room - aroundR l gap) (l.map (startAt (growR l gap room))) with
      | none => simp [lastR]
      | some out =>
        have := roundsR_len ho
        unfold lastR
        dsimp only
        split
        · show out.length ≤ _
          rw [this]
          simp
        · simp
def FsA (w3 : World) (i : Value) (wr : World) : Prop := ∃ k : Nat, k ≤ 2 ∧ i = .int .i64 k ∧ Below w3.heap.size w3 wr
def FsB (n : Nat) (w4 : World) (i : Value) (wr : World) : Prop := ∃ k : Nat, k ≤ n ∧ i = .int .i64 k ∧ Below w4.heap.size w4 wr
def FsC (n : Nat) (b : Nat) (v : Value) (w3 : World) (i : Value) (wr : World) : Prop := ∃ (k : Nat) (zs : List Int), k ≤ n ∧ i = .int .i64 k ∧ zs.length = n ∧ Owns wr b v zs ∧ Below w3.heap.size w3 wr

set_option maxRecDepth 100000 in
set_option maxHeartbeats 8000000 in
theorem fsizes_main (l : List It) (gap room : Int) (v : Value) (w : World) (h : Items w w.heap.size v l) (h0 : l.length ≤ 200 ∨ (2048 < l.length ∧ l.length ≤ 3000)) :
    LawReturns 6 #[v, .int .i64 gap, .int .i64 room] w := by
  have hm : l.length ≤ 3000 := by omega
  have hd : (¬ (200 : Int) < (l.length : Int)) ∨ ((200 : Int) < (l.length : Int) ∧ ¬ (l.length : Int) ≤ 2048 ∧ ¬ (3000 : Int) < (l.length : Int)) := by omega
  have hm3 : ¬ (3000 : Int) < (l.length : Int) := by omega
  unfold LawReturns
  have hI := Lib.hid h
  have cp := copy16_any l v _ w h (by omega)
  obtain ⟨A, c, rfl, hc, hf⟩ := h
  have HF : Aside _ := hf
  obtain ⟨n, hn⟩ : ∃ n, l.length = n := ⟨_, rfl⟩
  have HN := Lib.hid hn
  rw [hn] at cp hm hd hm3 hc ⊢
  clear h0 hf hn
  rcases hd with g1 | ⟨g1, g2, g3⟩
  all_goals
    go_enter Try.func6, Try.ntmps6
    go_wp2_with fail
    refine cp.mono ?_
    clear cp
    rintro e w2 ⟨vm, rfl, hom, hb2⟩
    have rs := rsizes_any l gap room _ _ w2 (hI.out.below hb2) hb2.size
    rw [HN.out] at rs
    unfold SizesPost at rs
    go_wp2_with fail
    refine rs.mono ?_
    clear rs
    rintro e w3 ⟨wv, rfl, how, hb3⟩
    have hM3 := (hom.items.below hb3).more hb3.size
    have hW3 := how.ints
    have hL3 := ((hI.out.below hb2).below (hb3.mono hb2.size))
    have hb03 : Below w.heap.size w w3 := hb2.trans (hb3.mono hb2.size)
    have hs3 : w.heap.size ≤ w3.heap.size := hb03.size
    have HS : Hid (∀ v' W, Items W w3.heap.size v' l → w3.heap.size ≤ W.heap.size → Calls Try.prog 23 #[v', .int .i64 gap, .int .i64 room] W (SizesPost l gap room W)) := Lib.hid fun v' W hi hb => sizes_any l gap room _ _ W hi hb
    unfold SizesPost at HS
    have hll := sizesR_len l gap room
    generalize (sizesR l gap room).1 = zs at *
    generalize (sizesR l gap room).2 = cd at *
    have hzm : zs.length ≤ 3000 := by have := HN.out; omega
    have hcd : (cd != cd) = false := by simp
    obtain ⟨AM, cM, rfl, hcM, hfM⟩ := hM3
    have HFM : Aside _ := hfM
    have hM3 : Hid (Items w3 w3.heap.size (.slice AM l.length cM) l) := Lib.hid ⟨AM, cM, rfl, hcM, hfM⟩
    rw [HN.out] at hcM ⊢
    clear hom how hb2 hb3 hfM hll
    go_wp2_with fail
    go_loopw [10] (FsA w3) (fun i _ => 2 - (intOf i).toNat)
    case atStart => exact ⟨0, by omega, rfl, Below.refl _ _⟩
    case round =>
      obtain ⟨t, ht, rfl, hbr⟩ := hrel
      by_cases hlt : t < 2
      · have hMr := hM3.out.below hbr
        have sh := HS.out _ _ hMr hbr.size
        rw [HN.out] at sh
        go_wp2_with fail
        refine sh.mono ?_
        clear sh
        rintro e w4 ⟨v4, rfl, ho4, hb4⟩
        have hb34 : Below w3.heap.size w3 w4 := hbr.trans (hb4.mono hbr.size)
        have hs4 : w3.heap.size ≤ w4.heap.size := hb34.size
        have q1 := same_self zs _ _ _ w4 (ho4.ints) ((hW3.below hb34).more hs4) (by omega)
        obtain ⟨A4, c4, hv4, hc4, _⟩ := ho4.ints
        subst hv4
        go_wp2_with fail
        refine q1.mono ?_
        clear q1
        rintro e w5 ⟨rfl, m5, rfl⟩
        go_wp2_with fail
        obtain ⟨w5, hw5⟩ : ∃ W, w4.drewN m5 = W := ⟨_, rfl⟩
        have ho5 : Owns w5 wr.heap.size (.slice A4 zs.length c4) zs := by rw [← hw5]; exact ho4
        have hb35 : Below w3.heap.size w3 w5 := by rw [← hw5]; exact below_drewN hb34 m5
        rw [hw5]
        clear hw5 ho4 hb34 hb4 hs4
        have hbrs := hbr.size
        obtain ⟨bt, hbt⟩ : ∃ b, wr.heap.size = b := ⟨_, rfl⟩
        rw [hbt] at ho5 hbrs
        clear hMr hbr hbt
        go_loopw [13] (FsB n w5) (fun i _ => n - (intOf i).toNat)
        case atStart => exact ⟨0, by omega, rfl, Below.refl _ _⟩
        case round =>
          obtain ⟨k, hk, rfl, hbk⟩ := hrel
          by_cases hlk : k < n
          · have hlkz : (k : Int) < (n : Int) := by omega
            obtain ⟨ad, rfl, hadb, hat⟩ := HF.out (by rw [HN.out]; omega)
            have hkl : k < l.length := by rw [HN.out]; exact hlk
            have hatk := hat k hkl
            obtain ⟨adm, rfl, hadmb, hatm⟩ := HFM.out (by rw [HN.out]; omega)
            have hatmk := hatm k hkl
            have hb3r : Below w3.heap.size w3 wr := hb35.trans (hbk.mono hb35.size)
            have hbwr : Below w.heap.size w wr := hb03.trans (hb3r.mono hs3)
            obtain ⟨k0, k1, k2, k3, k4, k5⟩ := hatk.below hbwr (by rw [block_of_add]; exact hadb)
            obtain ⟨q0, q1, q2, q3, q4, q5⟩ := hatmk.below hb3r (by rw [block_of_add]; exact hadmb)
            have hbl : (ad.add (k * 6)).block < wr.heap.size := by rw [block_of_add]; have := hb3r.size; omega
            have hbm : (adm.add (k * 6)).block < wr.heap.size := by rw [block_of_add]; have := hb3r.size; omega
            clear hat hatm hatk hatmk
            generalize l[k] = x at *
            clear hkl
            have f1 := fun W => first_any x W
            have f2 := fun W => rfirst_any x W
            generalize firstR x = fx at *
            obtain ⟨bs, le, mo, gr, sh, ou⟩ := x
            unfold It.val at f1 f2
            dsimp only at f1 f2 k0 k1 k2 k3 k4 k5 q0 q1 q2 q3 q4 q5
            have hfx : (fx != fx) = false := by simp
            have hd3 : Below wr.heap.size wr wr.drew := (Below.refl _ _).drew
            have hkeep : ∀ w', Below wr.heap.size wr w' → w'.cell? (ad.add (k * 6)) = some (.int .i64 bs) ∧ w'.cell? ⟨(ad.add (k * 6)).block, (ad.add (k * 6)).off + 1, none⟩ = some (.int .i64 le) ∧ w'.cell? ⟨(ad.add (k * 6)).block, (ad.add (k * 6)).off + 2, none⟩ = some (.int .i64 mo) ∧ w'.cell? ⟨(ad.add (k * 6)).block, (ad.add (k * 6)).off + 3, none⟩ = some (.int .i64 gr) ∧ w'.cell? ⟨(ad.add (k * 6)).block, (ad.add (k * 6)).off + 4, none⟩ = some (.int .i64 sh) ∧ w'.cell? ⟨(ad.add (k * 6)).block, (ad.add (k * 6)).off + 5, none⟩ = some (.int .i64 ou) ∧
                w'.cell? (adm.add (k * 6)) = some (.int .i64 bs) ∧ w'.cell? ⟨(adm.add (k * 6)).block, (adm.add (k * 6)).off + 1, none⟩ = some (.int .i64 le) ∧ w'.cell? ⟨(adm.add (k * 6)).block, (adm.add (k * 6)).off + 2, none⟩ = some (.int .i64 mo) ∧ w'.cell? ⟨(adm.add (k * 6)).block, (adm.add (k * 6)).off + 3, none⟩ = some (.int .i64 gr) ∧ w'.cell? ⟨(adm.add (k * 6)).block, (adm.add (k * 6)).off + 4, none⟩ = some (.int .i64 sh) ∧ w'.cell? ⟨(adm.add (k * 6)).block, (adm.add (k * 6)).off + 5, none⟩ = some (.int .i64 ou) := fun w' hb' =>
              ⟨(hb'.cell hbl).trans k0, (hb'.cell (p := ⟨(ad.add (k * 6)).block, _, none⟩) hbl).trans k1, (hb'.cell (p := ⟨(ad.add (k * 6)).block, _, none⟩) hbl).trans k2, (hb'.cell (p := ⟨(ad.add (k * 6)).block, _, none⟩) hbl).trans k3, (hb'.cell (p := ⟨(ad.add (k * 6)).block, _, none⟩) hbl).trans k4, (hb'.cell (p := ⟨(ad.add (k * 6)).block, _, none⟩) hbl).trans k5,
                (hb'.cell hbm).trans q0, (hb'.cell (p := ⟨(adm.add (k * 6)).block, _, none⟩) hbm).trans q1, (hb'.cell (p := ⟨(adm.add (k * 6)).block, _, none⟩) hbm).trans q2, (hb'.cell (p := ⟨(adm.add (k * 6)).block, _, none⟩) hbm).trans q3, (hb'.cell (p := ⟨(adm.add (k * 6)).block, _, none⟩) hbm).trans q4, (hb'.cell (p := ⟨(adm.add (k * 6)).block, _, none⟩) hbm).trans q5⟩
            have hkeep1 : ∀ a, Below wr.drew.heap.size wr.drew a → Below wr.heap.size wr a := fun a ha => hd3.trans (ha.mono hd3.size)
            have hkeep2 : ∀ a b, Below wr.drew.heap.size wr.drew a → Below a.heap.size a b → Below wr.heap.size wr b := fun a b ha hb => (hkeep1 a ha).trans (hb.mono (hkeep1 a ha).size)
            have f5 := f1 wr.drew
            clear f1
            go_wp2_with fail
            go_region_held3 (fun w' => w'.cell? (ad.add (k * 6)) = some (.int .i64 bs) ∧ w'.cell? ⟨(ad.add (k * 6)).block, (ad.add (k * 6)).off + 1, none⟩ = some (.int .i64 le) ∧ w'.cell? ⟨(ad.add (k * 6)).block, (ad.add (k * 6)).off + 2, none⟩ = some (.int .i64 mo) ∧ w'.cell? ⟨(ad.add (k * 6)).block, (ad.add (k * 6)).off + 3, none⟩ = some (.int .i64 gr) ∧ w'.cell? ⟨(ad.add (k * 6)).block, (ad.add (k * 6)).off + 4, none⟩ = some (.int .i64 sh) ∧ w'.cell? ⟨(ad.add (k * 6)).block, (ad.add (k * 6)).off + 5, none⟩ = some (.int .i64 ou) ∧
                w'.cell? (adm.add (k * 6)) = some (.int .i64 bs) ∧ w'.cell? ⟨(adm.add (k * 6)).block, (adm.add (k * 6)).off + 1, none⟩ = some (.int .i64 le) ∧ w'.cell? ⟨(adm.add (k * 6)).block, (adm.add (k * 6)).off + 2, none⟩ = some (.int .i64 mo) ∧ w'.cell? ⟨(adm.add (k * 6)).block, (adm.add (k * 6)).off + 3, none⟩ = some (.int .i64 gr) ∧ w'.cell? ⟨(adm.add (k * 6)).block, (adm.add (k * 6)).off + 4, none⟩ = some (.int .i64 sh) ∧ w'.cell? ⟨(adm.add (k * 6)).block, (adm.add (k * 6)).off + 5, none⟩ = some (.int .i64 ou))
              (first | exact hkeep _ (hkeep1 _ (by assumption)) | exact hkeep _ (hkeep2 _ _ (by assumption) (by assumption)) | go_keep)
              (first | (go_at_call 24; with_reducible refine f5.mono ?_; rintro e w7 ⟨rfl, hb7⟩) | (go_at_call 25; with_reducible refine (f2 _).mono ?_; rintro e w8 ⟨rfl, hb8⟩))
            go_wp2_with fail
            go_roundw
            case rel => exact ⟨k + 1, hlk, by go_num, hbk.trans ((hkeep2 _ _ hb7 hb8).mono hbk.size)⟩
            case measure => simp [intOf]; omega
          · obtain rfl : k = n := by omega
            have hnk : ¬ (k : Int) < (k : Int) := by omega
            have hO0 := ho5.below hbk
            have hB0 : Below w3.heap.size w3 wr := hb35.trans (hbk.mono hb35.size)
            clear ho5 hb35 hbk
            go_wp2_with fail
            go_loopw [14] (FsC zs.length bt (.slice A4 zs.length c4) w3) (fun i _ => zs.length - (intOf i).toNat)
            case atStart => exact ⟨0, zs, by omega, rfl, rfl, hO0, hB0⟩
            case round =>
              clear hO0 hB0
              obtain ⟨j, ys, hj, rfl, hyl, hO, hB⟩ := hrel
              by_cases hlj : j < zs.length
              · have hljz : (j : Int) < (zs.length : Int) := by omega
                obtain ⟨g4, cap4, e4, _, hg4, _, hcc, hff⟩ := hO.openI (by omega)
                injection e4 with e4 _ _
                subst e4
                have cj := hcc j (by omega)
                have fj := hff j
                have HO := Lib.hid hO
                generalize ys[j] = y at *
                have HYL := Lib.hid hyl
                clear hcc hff hO hyl
                go_wp2_with fail
                go_roundw
                case rel => exact ⟨j + 1, ys.set j (-5), hlj, by go_num, by simp [HYL.out], HO.out.storeAt j (-5), hB.setCell (p := ⟨g4, j, none⟩) (Nat.le_trans hbrs hg4) _⟩
                case measure => simp [intOf]; omega
              · obtain rfl : j = zs.length := by omega
                have hljz : ¬ (zs.length : Int) < (zs.length : Int) := by omega
                go_wp2_with fail
                go_roundw
                case rel => exact ⟨t + 1, by omega, by go_num, hB⟩
                case measure => simp [intOf]; omega
      · obtain rfl : t = 2 := by omega
        go_wp2_with fail
        go_ret
        exact ⟨rfl, hb03.trans (hbr.mono hs3)⟩

set_option maxRecDepth 100000 in
theorem flexibleSizes_walk (l : List It) (gap room : Int) (v : Value) (w : World) (h : Items w w.heap.size v l) :
    LawReturns 6 #[v, .int .i64 gap, .int .i64 room] w := by
  by_cases h0 : l.length ≤ 200 ∨ (2048 < l.length ∧ l.length ≤ 3000)
  · exact fsizes_main l gap room v w h h0
  · unfold LawReturns
    have h1 : ((200 : Int) < (l.length : Int) ∧ (l.length : Int) ≤ 2048) ∨ ((200 : Int) < (l.length : Int) ∧ ¬ (l.length : Int) ≤ 2048 ∧ (3000 : Int) < (l.length : Int)) := by omega
    clear h0
    obtain ⟨A, c, rfl, hc, hf⟩ := h
    clear hf
    rcases h1 with ⟨g1, g2⟩ | ⟨g1, g2, g3⟩
    all_goals
      go_enter Try.func6, Try.ntmps6
      go_wp2_with fail
      go_ret
      exact ⟨rfl, Below.refl _ _⟩

end Go.Proofs.Ytbhdolghokhfnaa
