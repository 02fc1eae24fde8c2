/-
  Walks: windowpaneref16.round: what a round of the reference leaves behind.
-/
import Derived.Test.YtbhdolghokhfnaaRefRoundPlain
import Derived.Test.YtbhdolghokhfnaaRound16
import Derived.Test.YtbhdolghokhfnaaEvery16
import Derived.Test.YtbhdolghokhfnaaRShare
namespace Go.Proofs.Ytbhdolghokhfnaa
open Go.RowKit

def intsA (zs : List Int) : Array Value := (zs.map (Value.int .i64)).toArray
theorem Owns.slot {w : World} {b g n cap : Nat} {zs : List Int} (h : Owns w b (.slice (some ⟨g, 0, none⟩) n cap) zs) :
    n ≤ cap ∧ b ≤ g ∧ g < w.heap.size ∧ (∀ k (hk : k < zs.length), w.cell? ⟨g, k, none⟩ = some (.int .i64 zs[k])) ∧ ∀ k, w.frozen? ⟨g, k, none⟩ = false := by
  rcases h.2 with ⟨e, _⟩ | ⟨g', cap', cur, e, hg, hb, hc, _, _, ht⟩
  · cases e
  · injection e with e1 e2 e3
    injection e1 with e1
    injection e1 with e1
    subst e1 e2 e3
    refine ⟨hc, hg, (Array.getElem?_eq_some_iff.1 hb).1, fun k hk => ?_, fun k => by simp [World.frozen?, hb]⟩
    rw [cell_of_row w g k cur _ _ hb, ← Array.getElem?_toList]
    have h1 : (cur.toList.take (zs.length * 1))[k]? = some (.int .i64 zs[k]) := by rw [ht]; simp [hk]
    rw [List.getElem?_take_of_lt (by omega)] at h1
    exact h1
theorem Owns.storeAt {w : World} {b g n cap : Nat} {zs : List Int} (h : Owns w b (.slice (some ⟨g, 0, none⟩) n cap) zs) (j : Nat) (x : Int) :
    Owns (w.setCell ⟨g, j, none⟩ (.int .i64 x)) b (.slice (some ⟨g, 0, none⟩) n cap) (zs.set j x) := by
  have hn : n = zs.length := by
    rcases h.2 with ⟨e, _⟩ | ⟨g', cap', cur, e, _⟩
    · cases e
    · injection e
  subst hn
  have h2 := (World.ownsRow.stored h j (.int .i64 x)).1
  unfold Owns
  rw [List.length_set, List.map_set]
  exact h2
theorem Owns.far {w : World} {b : Nat} {v : Value} {zs : List Int} (h : Owns w b v zs) {p : Addr} (hp : ∀ k, v.ownBlock = some k → k ≠ p.block) (u : Value) : Owns (w.setCell p u) b v zs :=
  h.keptG (gs := [p.block]) ((Kept.refl _ _).setCell (p := p) (by simp) u) fun k e hm => hp k e (by simpa using hm)
/-- What the reference works on: the row of sizes, which are settled. -/
structure RMem (w : World) (b n : Nat) (o : Nat → Int) (fl : Nat → Bool) (g cap gs : Nat) : Prop where
  out : Owns w b (.slice (some ⟨g, 0, none⟩) n cap) ((List.range n).map o)
  fl : BBlk w gs ((List.range n).map fl)
  ne : g ≠ gs
  lo : b ≤ gs
theorem RMem.below {w w' : World} {b n : Nat} {o : Nat → Int} {fl : Nat → Bool} {g cap gs : Nat} (h : RMem w b n o fl g cap gs) (hb : Below w.heap.size w w') : RMem w' b n o fl g cap gs :=
  ⟨h.out.below hb, Blk.below h.fl hb (Blk.lt h.fl), h.ne, h.lo⟩
structure RrPre (w : World) (l : List It) (v : Value) (s : List Bo) (room : Int) (b n : Nat) (o : Nat → Int) (g cap gs : Nat) : Prop where
  items : Items w b v l
  ln : l.length = n
  sn : s.length = n
  it : ∀ i, i < n → (boAt s i).1 = itAt l i
  good : GoodS s
  n1 : 0 < n
  n2 : n ≤ 2048
  mem : RMem w b n o (stB s) g cap gs
  ok : SzOk s o
  r1 : -9007199254740992 ≤ room
  r2 : room ≤ 9007199254740992
def RrPost (w : World) (s : List Bo) (room : Int) (grow : Bool) (b n : Nat) (o : Nat → Int) (g cap gs : Nat) (e : Ending) (w' : World) : Prop :=
  e = .returned (.bool (fit (leftR room s))) ∧ Below b w w' ∧ (fit (leftR room s) = true → RMem w' b n (goO (giveR grow (leftR room s) s) s o) (stB (nextR (giveR grow (leftR room s) s) s)) g cap gs)
def wtF (grow : Bool) (s : List Bo) (i : Nat) : Int := wtOf grow (boAt s i)
def zF (_ : Nat) : Int := 0
/-- The weights so far. -/
def Rr1 (s : List Bo) (n : Nat) (room : Int) (grow : Bool) (gw : Nat) (w : World) (left i : Value) (wr : World) : Prop :=
  ∃ k : Nat, k ≤ n ∧ i = .int .i64 k ∧ left = .int .i64 (room - szTo s k) ∧ Blk wr gw 3 (intsA (mixI n k (wtF grow s) zF)) ∧ Below gw w wr
/-- The changes so far. -/
def Rr2 (s : List Bo) (zs : List Int) (n : Nat) (o : Nat → Int) (b g cap gs gl gc : Nat) (w : World) (sum i : Value) (wr : World) : Prop :=
  ∃ k : Nat, k ≤ n ∧ i = .int .i64 k ∧ sum = .int .i64 (sumR zs s k) ∧ Blk wr gc 3 (intsA (mixI n k (chgR zs s) zF)) ∧ Owns wr b (.slice (some ⟨g, 0, none⟩) n cap) (mixI n k (goO zs s o) o) ∧
    BBlk wr gs ((List.range n).map (stB s)) ∧ (∀ m, m < n → wr.cell? ⟨gl, m, none⟩ = some (.int .i64 (zs.getD m 0))) ∧ Below b w wr
/-- Those that are settled so far. -/
def Rr3 (s : List Bo) (zs : List Int) (n : Nat) (o : Nat → Int) (c : Int) (b g cap gs gc : Nat) (w : World) (i : Value) (wr : World) : Prop :=
  ∃ k : Nat, k ≤ n ∧ i = .int .i64 k ∧ (∀ m, m < n → wr.cell? ⟨gc, m, none⟩ = some (.int .i64 (chgR zs s m))) ∧ Owns wr b (.slice (some ⟨g, 0, none⟩) n cap) ((List.range n).map (goO zs s o)) ∧
    BBlk wr gs (mixI n k (fun i => settles c (chgR zs s i) || stB s i) (stB s)) ∧ Below b w wr

theorem wt_settled {grow : Bool} {s : List Bo} {k : Nat} (h : stB s k = true) : wtF grow s k = 0 := by
  unfold wtF wtOf
  unfold stB at h
  rw [h]
  rfl
theorem wt_open {grow : Bool} {s : List Bo} {k : Nat} (h : stB s k = false) : wtF grow s k = if grow = true then (boAt s k).1.grow else (boAt s k).1.shrink * (boAt s k).1.base := by
  unfold wtF wtOf
  unfold stB at h
  rw [h]
  rfl
theorem sz_open {s : List Bo} {k : Nat} (h : stB s k = false) : szOf (boAt s k) = (boAt s k).1.base := by
  unfold szOf
  unfold stB at h
  cases hx : (boAt s k).2 with
  | none => rfl
  | some z => rw [hx] at h; cases h

def cutB (grow : Bool) (left : Int) : Bool := (grow && decide (left < 0)) || (!grow && decide (0 < left))
theorem cutB_yes {grow : Bool} {left : Int} (h : cutB grow left = true) : cutR grow left = 0 := by
  unfold cutB at h
  unfold cutR
  cases grow <;> simp at h ⊢ <;> omega
theorem cutB_no {grow : Bool} {left : Int} (h : cutB grow left = false) : cutR grow left = left := by
  unfold cutB at h
  unfold cutR
  cases grow <;> simp at h ⊢ <;> omega
theorem Ints.of_blk {w : World} {g : Nat} {zs : List Int} (h : Blk w g 3 (intsA zs)) : Ints w (g + 1) (.slice (some ⟨g, 0, none⟩) zs.length zs.length) zs := by
  refine ⟨_, _, rfl, Nat.le_refl _, by simp, fun hn => ⟨_, rfl, Nat.lt_succ_self _, fun j u hu => ?_⟩⟩
  have e : (⟨g, 0, none⟩ : Addr).add j = ⟨g, j, none⟩ := by unfold Addr.add; split <;> simp_all
  rw [e, Blk.cell h j]
  unfold intsA
  simpa using hu

set_option maxRecDepth 1000000 in
set_option maxHeartbeats 16000000 in
theorem rround_any (w : World) (l : List It) (v : Value) (s : List Bo) (room : Int) (grow : Bool) (b n : Nat) (o : Nat → Int) (g cap gs : Nat) (h : RrPre w l v s room b n o g cap gs) :
    Calls Try.prog 48 #[v, .int .i64 room, .bool grow, .slice (some ⟨g, 0, none⟩) n cap, .slice (some ⟨gs, 0, none⟩) n n] w (RrPost w s room grow b n o g cap gs) := by
  have H := Lib.hid h
  obtain ⟨A, c, rfl, hc, hf⟩ := h.items
  have hln := h.ln
  have hn1 := h.n1
  have hn2 := h.n2
  have r1 := h.r1
  have r2 := h.r2
  obtain ⟨hncap, hbg, hgw, hoc, hofz⟩ := h.mem.out.slot
  have hbgs := h.mem.lo
  have hgsw := Blk.lt h.mem.fl
  have hne := h.mem.ne
  have hbw : b ≤ w.heap.size := by omega
  have hit : ∀ k (hk : k < n), ∃ ad, A = some ad ∧ ad.block < b ∧ ItemAt w (ad.add (k * 6)) (boAt s k).1 := fun k hk => by
    obtain ⟨ad, e, hb, hh⟩ := hf (by omega)
    refine ⟨ad, e, hb, ?_⟩
    rw [h.it k hk, itAt_at (by omega)]
    exact hh k (by omega)
  have HIT : Aside _ := hit
  have hOC : ∀ k (hk : k < n), w.cell? ⟨g, k, none⟩ = some (.int .i64 (o k)) := fun k hk => by
    have := hoc k (by simpa using hk)
    simpa using this
  have HOC : Aside _ := hOC
  have hFC : ∀ k (hk : k < n), w.cell? ⟨gs, k, none⟩ = some (.bool (stB s k)) := fun k hk => by
    have := h.mem.fl.at_ (i := k) (by simpa using hk)
    simpa using this
  have HFC : Aside _ := hFC
  have HB := Lib.hid (szTo_bd h.good)
  have HSN := Lib.hid h.sn
  have HLE := Lib.hid (show leftR room s = room - szTo s n by unfold leftR; rw [← szTo_all, h.sn])
  rw [hln] at hc ⊢
  clear hf hit hoc hOC hFC h hln hofz
  obtain ⟨i0, hi0, hz0, hzs, hzb⟩ := info_parts Try.infoInt
  have hmk := fun W : World => run_make_rowN (P := Try.prog) 22 3 i0 _ Try.underlying22 hi0 hz0 .i64 .i64 n n (Nat.le_refl _) (by rw [hzb]; omega) (by omega) W
  rw [hzs, Nat.mul_one] at hmk
  clear hi0 hz0 hzs hzb
  rw [show (Value.int .i64 0).cells = #[Value.int .i64 0] from rfl, made_zeros] at hmk
  have hblk : Blk (w.alloc (.cells ((List.replicate n (0 : Int)).map (Value.int .i64)).toArray 3)) w.heap.size 3 ((List.replicate n (0 : Int)).map (Value.int .i64)).toArray := Blk.new _ _ _
  have hb1 : Below w.heap.size w (w.alloc (.cells ((List.replicate n (0 : Int)).map (Value.int .i64)).toArray 3)) := (Below.refl _ _).alloc (Nat.le_refl _) _
  have hs1 : (w.alloc (.cells ((List.replicate n (0 : Int)).map (Value.int .i64)).toArray 3)).heap.size = w.heap.size + 1 := World.size_alloc _ _
  have hmk1 := hmk w
  have HMK : Aside _ := hmk
  generalize w.alloc (.cells ((List.replicate n (0 : Int)).map (Value.int .i64)).toArray 3) = w1 at *
  clear hmk
  go_enter Try.func48, Try.ntmps48
  go_wp2_with fail
  obtain ⟨gw, hgw1⟩ : ∃ x, w.heap.size = x := ⟨_, rfl⟩
  rw [hgw1] at hblk hs1 hb1 hgw hgsw hbw ⊢
  have HGW := Lib.hid hgw1
  clear hgw1 hmk1
  go_loopw [11, 13] (Rr1 s n room grow gw w) (fun _ i _ => n - (intOf i).toNat)
  case atStart => exact ⟨0, by omega, rfl, by simp [szTo], by rw [mixI_rep n (wtF grow s) (0 : Int) |> fun e => (show mixI n 0 (wtF grow s) zF = List.replicate n 0 from e)]; exact hblk, hb1⟩
  case round =>
    clear hblk hb1 hs1
    obtain ⟨k, hk, rfl, rfl, hbk, hbr⟩ := hrel
    have hb := HB.out k (by have := HSN.out; omega)
    by_cases hlt : k < n
    · have hltz : (k : Int) < (n : Int) := by omega
      have cfl := (hbr.cell (p := ⟨gs, k, none⟩) hgsw).trans (HFC.out k hlt)
      have hG := H.out.good k (by have := HSN.out; omega)
      have hszb := (fit_iff _).1 hG.fz
      cases hst : stB s k with
      | true =>
        rw [hst] at cfl
        have cou := (hbr.cell (p := ⟨g, k, none⟩) hgw).trans (HOC.out k hlt)
        have hok := H.out.ok k (by have := HSN.out; omega) hst
        have HS := Lib.hid (show szTo s (k + 1) = szTo s k + o k by rw [szTo, hok])
        rw [← hok] at hszb
        have HM := Lib.hid (mixI_same n k (wtF grow s) zF fun _ => wt_settled hst)
        obtain ⟨sz, hsz⟩ : ∃ z, o k = z := ⟨_, rfl⟩
        rw [hsz] at cou HS hszb
        obtain ⟨t, ht⟩ : ∃ t, room - szTo s k = t := ⟨_, rfl⟩
        have htb : -20000000000000000 ≤ t - sz ∧ t - sz ≤ 20000000000000000 := by omega
        have hw : IntKind.i64.wrap (t - sz) = t - sz := by rw [IntKind.wrap_i64]; omega
        rw [ht]
        have HT := Lib.hid ht
        have HBK := Lib.hid hbk
        clear hsz ht hok hG hb hst hbk
        go_wp2_with fail
        go_roundw
        case rel => exact ⟨k + 1, hlt, by go_num, by rw [HS.out, ← HT.out]; go_num, by rw [HM.out]; exact HBK.out, hbr⟩
        case measure => simp [intOf]; omega
      | false =>
        rw [hst] at cfl
        obtain ⟨ad, rfl, hadb, k0, k1, k2, k3, k4, k5⟩ := HIT.out k hlt
        have hadw : ad.block < gw := by omega
        have e0 := (hbr.cell (p := ad.add (k * 6)) (by rw [block_of_add]; exact hadw)).trans k0
        have e3 := (hbr.cell (p := ⟨(ad.add (k * 6)).block, (ad.add (k * 6)).off + 3, none⟩) (by show (ad.add (k * 6)).block < _; rw [block_of_add]; exact hadw)).trans k3
        have e4 := (hbr.cell (p := ⟨(ad.add (k * 6)).block, (ad.add (k * 6)).off + 4, none⟩) (by show (ad.add (k * 6)).block < _; rw [block_of_add]; exact hadw)).trans k4
        have HS := Lib.hid (show szTo s (k + 1) = szTo s k + (boAt s k).1.base by rw [szTo, sz_open hst])
        have HM := Lib.hid (mixI_step n k (wtF grow s) zF)
        have HW := Lib.hid (wt_open (grow := grow) hst)
        have cw : wr.cell? ⟨gw, k, none⟩ = some (.int .i64 (mixI n k (wtF grow s) zF)[k]!) := by
          rw [Blk.cell hbk k]
          simp [intsA, mixI_len, hlt]
        have fw := Blk.frozen hbk k
        obtain ⟨z0, hz0⟩ : ∃ z, (mixI n k (wtF grow s) zF)[k]! = z := ⟨_, rfl⟩
        rw [hz0] at cw
        have hb0 := hG.b0
        have hfb := (fit_iff _).1 hG.fb
        have hs0 := hG.s0
        have hs1 := hG.s1
        obtain ⟨it, hit⟩ : ∃ it, (boAt s k).1 = it := ⟨_, rfl⟩
        rw [hit] at e0 e3 e4 HS HW hb0 hfb hs0 hs1
        clear hit hG hz0 k0 k1 k2 k3 k4 k5 hszb
        obtain ⟨bs, _, _, gr, sh, _⟩ := it
        simp only at e0 e3 e4 HS HW hb0 hfb hs0 hs1
        have h1 := Int.mul_nonneg hs0 hb0
        have h2 := Int.mul_le_mul hs1 hfb.2 hb0 (by omega : (0 : Int) ≤ 1000)
        have hwm : IntKind.i64.wrap (sh * bs) = sh * bs := by rw [IntKind.wrap_i64]; omega
        have hwm2 : wrap64 (sh * bs) = sh * bs := by unfold wrap64; omega
        obtain ⟨t, ht⟩ : ∃ t, room - szTo s k = t := ⟨_, rfl⟩
        have htb : -20000000000000000 ≤ t - bs ∧ t - bs ≤ 20000000000000000 := by omega
        have hw : IntKind.i64.wrap (t - bs) = t - bs := by rw [IntKind.wrap_i64]; omega
        rw [ht]
        have HT := Lib.hid ht
        have HBK := Lib.hid hbk
        have hadg : (ad.add (k * 6)).block ≠ gw := by rw [block_of_add]; omega
        obtain ⟨pr, hpr⟩ : ∃ z, sh * bs = z := ⟨_, rfl⟩
        rw [hpr] at hwm hwm2 HW
        have HPR := Lib.hid hpr
        clear ht hb hst hbk h1 h2
        have hq : ∀ (W : World), wr.drew = W → W.cell? ⟨gw, k, none⟩ = some (.int .i64 z0) ∧ W.frozen? ⟨gw, k, none⟩ = false ∧ W.cell? (ad.add (k * 6)) = some (.int .i64 bs) ∧ W.cell? ⟨(ad.add (k * 6)).block, (ad.add (k * 6)).off + 3, none⟩ = some (.int .i64 gr) ∧ Below gw w W ∧ Blk W gw 3 (intsA (mixI n k (wtF grow s) zF)) := fun W e => by
          subst e
          exact ⟨cw, fw, e0, e3, hbr.drew, HBK.out⟩
        have HQ : Aside _ := hq
        clear hq
        cases grow with
        | true =>
          go_wp2_with fail
          refine wp_region_still_tail 14 (by kernel_rfl) (by kernel_rfl) ?_
          simp only [List.take_succ_cons, List.take_zero, List.drop_succ_cons, List.drop_zero]
          repeat still_step
          refine wpStill_nil ?_
          go_wp2_with fail
          go_roundw
          case rel =>
            have hb2 := blk_out (x := gr) (j := k) (blk_out (x := pr) (j := k) HBK.out rfl) rfl
            rw [List.set_set] at hb2
            exact ⟨k + 1, hlt, by go_num, by rw [HS.out, ← HT.out]; go_num, by rw [HM.out, HW.out]; exact hb2, ((hbr.setCell (p := ⟨gw, k, none⟩) (Nat.le_refl _) _).setCell (p := ⟨gw, k, none⟩) (Nat.le_refl _) _).drew⟩
          case measure => simp [intOf]; omega
        | false =>
          go_wp2_with fail
          refine wp_region_still_tail 14 (by kernel_rfl) (by kernel_rfl) ?_
          simp only [List.take_succ_cons, List.take_zero, List.drop_succ_cons, List.drop_zero]
          repeat still_step
          refine wpStill_nil ?_
          go_wp2_with fail
          go_roundw
          case rel => exact ⟨k + 1, hlt, by go_num, by rw [HS.out, ← HT.out]; go_num, by rw [HM.out, HW.out]; exact blk_out HBK.out rfl, (hbr.setCell (p := ⟨gw, k, none⟩) (Nat.le_refl _) _).drew⟩
          case measure => simp [intOf]; omega
    · obtain rfl : k = n := by omega
      have hltz : ¬ (k : Int) < (k : Int) := by omega
      have hsw : gw + 1 ≤ wr.heap.size := by have := Blk.lt hbk; omega
      rw [← HLE.out]
      have ft := fun W => rfits (leftR room s) W
      obtain ⟨lf, hlf⟩ : ∃ lf, leftR room s = lf := ⟨_, rfl⟩
      rw [hlf] at ft ⊢
      have HLF := Lib.hid hlf
      clear hlf hb
      cases hfit : fit lf with
      | false =>
        rw [hfit] at ft
        have HFIT := Lib.hid hfit
        clear hfit
        go_wp2_with fail
        refine (ft _).mono ?_
        clear ft
        rintro e w' ⟨rfl, rfl⟩
        go_wp2_with fail
        go_ret
        exact ⟨by rw [HLF.out, HFIT.out]; rfl, by rw [← HGW.out] at hbr; exact hbr.mono (by have := HGW.out; omega), fun hh => by rw [HLF.out, HFIT.out] at hh; cases hh⟩
      | true =>
        rw [hfit] at ft
        have HFIT := Lib.hid hfit
        clear hfit
        go_wp2_with fail
        refine (ft _).mono ?_
        clear ft
        rintro e w' ⟨rfl, rfl⟩
        go_upto_region 14 with fail
        go_cut [86] (fun c wx => c = .bool (cutB grow lf) ∧ wx = wr)
        case first =>
          clear HIT HOC HFC HB HLE
          cases grow with
          | false =>
            by_cases hp : 0 < lf
            · have HV := Lib.hid (show cutB false lf = true by unfold cutB; simp [hp])
              go_wp2_with fail
              go_meet
              exact ⟨by rw [HV.out], rfl⟩
            · have HV := Lib.hid (show cutB false lf = false by unfold cutB; simp [hp])
              go_wp2_with fail
              go_meet
              exact ⟨by rw [HV.out], rfl⟩
          | true =>
            by_cases hp : lf < 0
            · have HV := Lib.hid (show cutB true lf = true by unfold cutB; simp [hp])
              go_wp2_with fail
              go_meet
              exact ⟨by rw [HV.out], rfl⟩
            · have HV := Lib.hid (show cutB true lf = false by unfold cutB; simp [hp])
              go_wp2_with fail
              go_meet
              exact ⟨by rw [HV.out], rfl⟩
        case rest =>
        obtain ⟨rfl, rfl⟩ := hcut
        obtain ⟨cb, hcb⟩ : ∃ x, cutB grow lf = x := ⟨_, rfl⟩
        rw [hcb]
        have HCB := Lib.hid hcb
        clear hcb
        go_upto_if 86 with fail
        go_cut [11] (fun s11 wx => s11 = .int .i64 (cutR grow lf) ∧ wx = wc)
        case first =>
          clear HIT HOC HFC HB HLE
          cases cb with
          | true =>
            have HV := Lib.hid (cutB_yes HCB.out)
            go_wp2_with fail
            go_meet
            exact ⟨by rw [HV.out], rfl⟩
          | false =>
            have HV := Lib.hid (cutB_no HCB.out)
            go_wp2_with fail
            go_meet
            exact ⟨by rw [HV.out], rfl⟩
        case rest =>
          obtain ⟨rfl, rfl⟩ := hcut
          have hcf := cut_fit (grow := grow) HFIT.out
          obtain ⟨cu, hcu⟩ : ∃ cu, cutR grow lf = cu := ⟨_, rfl⟩
          rw [hcu] at hcf ⊢
          have HCU := Lib.hid hcu
          have HCF := Lib.hid hcf
          have hwe : mixI k k (wtF grow s) zF = s.map (wtOf grow) := by
            rw [mixI_all, wts_eq, HSN.out]
            rfl
          rw [hwe] at hbk
          have hI := Ints.of_blk hbk
          have hwl : (s.map (wtOf grow)).length = k := by rw [List.length_map, HSN.out]
          rw [hwl] at hI
          have sh := rshare_any cu _ _ _ wc hI hsw (by rw [hwl]; omega)
          unfold SharePost at sh
          rw [shareR_ok HCF.out (by rw [hwl]; exact hn2) (H.out.good.wts grow)] at sh
          have HZS := Lib.hid (show zsOf cu (s.map (wtOf grow)) = giveR grow lf s by unfold giveR; rw [HCU.out])
          have hzb := fun i => give_bd (L := cu) (grow := grow) HCF.out H.out.good i
          have hzl : (zsOf cu (s.map (wtOf grow))).length = k := by rw [zsOf_len, hwl]
          obtain ⟨zs, hzs⟩ : ∃ zs, zsOf cu (s.map (wtOf grow)) = zs := ⟨_, rfl⟩
          rw [hzs] at sh HZS hzl
          simp only [hzs] at hzb
          have HZB : Aside _ := hzb
          have HZL := Lib.hid hzl
          clear hzs hzb hcu hcf hI hwe hwl hbk
          go_wp2_with fail
          refine sh.mono ?_
          clear sh
          rintro e w3 ⟨v3, rfl, ho3, hb3⟩
          have hs3 := hb3.size
          obtain ⟨gl, capl, rfl, hcapl, hgl, hglw, hcl, _⟩ := ho3.openI (by rw [HZL.out]; exact hn1)
          rw [HZL.out] at hcapl ⊢
          have hclz : ∀ m, m < k → w3.cell? ⟨gl, m, none⟩ = some (.int .i64 (zs.getD m 0)) := fun m hm => by
            rw [hcl m (by rw [HZL.out]; exact hm)]
            simp [HZL.out, hm]
          clear hcl ho3
          have hmk4 := HMK.out w3
          have hb4 : Below w3.heap.size w3 (w3.alloc (.cells ((List.replicate k (0 : Int)).map (Value.int .i64)).toArray 3)) := (Below.refl _ _).alloc (Nat.le_refl _) _
          have hblk4 : Blk (w3.alloc (.cells ((List.replicate k (0 : Int)).map (Value.int .i64)).toArray 3)) w3.heap.size 3 ((List.replicate k (0 : Int)).map (Value.int .i64)).toArray := Blk.new _ _ _
          generalize w3.alloc (.cells ((List.replicate k (0 : Int)).map (Value.int .i64)).toArray 3) = w4 at *
          obtain ⟨gc, hgc⟩ : ∃ x, w3.heap.size = x := ⟨_, rfl⟩
          rw [hgc] at hmk4 hb4 hblk4 hs3 hglw
          have hcl4 : ∀ m, m < k → w4.cell? ⟨gl, m, none⟩ = some (.int .i64 (zs.getD m 0)) := fun m hm => (hb4.cell (p := ⟨gl, m, none⟩) hglw).trans (hclz m hm)
          have hb04 : Below gw w w4 := hbr.trans ((hb3.mono (by omega)).trans (hb4.mono (by omega)))
          have hgcg : gc ≠ g := by omega
          have hgcs : gc ≠ gs := by omega
          have hglg : gl ≠ g := by omega
          have hglc : gl ≠ gc := by omega
          have hgls : gl ≠ gs := by omega
          have hbgc : b ≤ gc := by omega
          have hM0 : Owns w4 b (.slice (some ⟨g, 0, none⟩) k cap) (mixI k 0 (goO zs s o) o) := by
            rw [mixI_none]
            exact H.out.mem.out.below (by rw [HGW.out]; exact hb04)
          have hF0 : BBlk w4 gs ((List.range k).map (stB s)) := Blk.below H.out.mem.fl hb04 hgsw
          have hC0 : Blk w4 gc 3 (intsA (mixI k 0 (chgR zs s) zF)) := by
            rw [show mixI k 0 (chgR zs s) zF = List.replicate k 0 from mixI_rep k _ (0 : Int)]
            exact hblk4
          have hb0 : Below b w w4 := hb04.mono hbw
          clear hblk4 hclz hb3 hbr hb04 hb4 hgl
          go_wp2_with fail
          go_loopw [17, 18] (Rr2 s zs k o b g cap gs gl gc w) (fun _ i _ => k - (intOf i).toNat)
          case atStart => exact ⟨0, by omega, rfl, rfl, hC0, hM0, hF0, hcl4, hb0⟩
          case round =>
            clear hC0 hM0 hF0 hcl4 hb0 hmk4
            obtain ⟨j, hj, rfl, rfl, hC, hM, hF, hL, hB⟩ := hrel
            have hcb := sumR_bd H.out.good HZB.out j (by have := HSN.out; omega)
            by_cases hlt : j < k
            · have hltz : (j : Int) < (k : Int) := by omega
              have cfl : wr.cell? ⟨gs, j, none⟩ = some (.bool (stB s j)) := by
                have := hF.at_ (i := j) (by simpa using hlt)
                simpa using this
              cases hst : stB s j with
              | true =>
                rw [hst] at cfl
                have HS := Lib.hid (show sumR zs s (j + 1) = sumR zs s j by
                  rw [sumR]
                  unfold stB at hst
                  unfold chgR
                  rw [if_pos hst]
                  omega)
                have HC := Lib.hid (mixI_same k j (chgR zs s) zF fun _ => by
                  unfold stB at hst
                  unfold chgR zF
                  rw [if_pos hst])
                have HM := Lib.hid (mixI_same k j (goO zs s o) o fun _ => by unfold goO; rw [if_pos hst])
                have HCC := Lib.hid hC
                have HMM := Lib.hid hM
                have HFF := Lib.hid hF
                have HLL := Lib.hid hL
                clear hst hC hM hF hL hcb
                go_wp2_with fail
                go_roundw
                case rel => exact ⟨j + 1, hlt, by go_num, by rw [HS.out], by rw [HC.out]; exact HCC.out, by rw [HM.out]; exact HMM.out, HFF.out, HLL.out, hB⟩
                case measure => simp [intOf]; omega
              | false =>
                rw [hst] at cfl
                obtain ⟨ad, rfl, hadb, k0, k1, k2, k3, k4, k5⟩ := HIT.out j hlt
                have e0 := (hB.cell (p := ad.add (j * 6)) (by rw [block_of_add]; exact hadb)).trans k0
                have e1 := (hB.cell (p := ⟨(ad.add (j * 6)).block, (ad.add (j * 6)).off + 1, none⟩) (by show (ad.add (j * 6)).block < _; rw [block_of_add]; exact hadb)).trans k1
                have e2 := (hB.cell (p := ⟨(ad.add (j * 6)).block, (ad.add (j * 6)).off + 2, none⟩) (by show (ad.add (j * 6)).block < _; rw [block_of_add]; exact hadb)).trans k2
                have cz := hL j hlt
                have co : wr.cell? ⟨g, j, none⟩ = some (.int .i64 (mixI k j (goO zs s o) o)[j]!) := by
                  rw [hM.slot.2.2.2.1 j (by rw [mixI_len]; exact hlt)]
                  simp [mixI_len, hlt]
                have fo := hM.slot.2.2.2.2 j
                have cc : wr.cell? ⟨gc, j, none⟩ = some (.int .i64 (mixI k j (chgR zs s) zF)[j]!) := by
                  rw [Blk.cell hC j]
                  simp [intsA, mixI_len, hlt]
                have fc := Blk.frozen hC j
                obtain ⟨z1, hz1⟩ : ∃ z, (mixI k j (goO zs s o) o)[j]! = z := ⟨_, rfl⟩
                obtain ⟨z2, hz2⟩ : ∃ z, (mixI k j (chgR zs s) zF)[j]! = z := ⟨_, rfl⟩
                rw [hz1] at co
                rw [hz2] at cc
                have hjs : j < s.length := by rw [HSN.out]; exact hlt
                have hbd := chg_bd H.out.good HZB.out hjs
                have hGO := Lib.hid (show goalR zs s j = clampR (gotR zs s j) (boAt s j).1.least (boAt s j).1.most from rfl)
                have hGT := Lib.hid (show gotR zs s j = (boAt s j).1.base + zs.getD j 0 from rfl)
                have hCH := Lib.hid (show chgR zs s j = goalR zs s j - gotR zs s j by unfold chgR; unfold stB at hst; rw [if_neg (by simp [hst])])
                have hCT := Lib.hid (show sumR zs s (j + 1) = sumR zs s j + chgR zs s j from rfl)
                have hCM := Lib.hid (mixI_step k j (chgR zs s) zF)
                have hOM := Lib.hid (show mixI k (j + 1) (goO zs s o) o = (mixI k j (goO zs s o) o).set j (goalR zs s j) by rw [mixI_step]; unfold goO; rw [if_neg (by simp [hst])])
                obtain ⟨it, hit⟩ : ∃ it, (boAt s j).1 = it := ⟨_, rfl⟩
                rw [hit] at e0 e1 e2 hGO hGT
                obtain ⟨z, hz⟩ : ∃ z, zs.getD j 0 = z := ⟨_, rfl⟩
                have hzb := HZB.out j
                rw [hz] at cz hGT hzb
                obtain ⟨gt, hgt⟩ : ∃ z, gotR zs s j = z := ⟨_, rfl⟩
                obtain ⟨go, hgo⟩ : ∃ z, goalR zs s j = z := ⟨_, rfl⟩
                obtain ⟨ch, hch⟩ : ∃ z, chgR zs s j = z := ⟨_, rfl⟩
                obtain ⟨ct, hct⟩ : ∃ z, sumR zs s j = z := ⟨_, rfl⟩
                rw [hgt] at hGO hGT hCH hbd
                rw [hgo] at hGO hCH hbd hOM
                rw [hch] at hCH hCT hbd hCM
                rw [hct] at hCT hcb ⊢
                have cl := fun W => rclamp gt it.least it.most W
                rw [← hGO.out] at cl
                have hw1 : IntKind.i64.wrap (it.base + z) = gt := by have := hGT.out; rw [IntKind.wrap_i64]; omega
                have hw2 : IntKind.i64.wrap (go - gt) = ch := by have := hCH.out; rw [IntKind.wrap_i64]; omega
                have hw3 : IntKind.i64.wrap (ct + ch) = ct + ch := by rw [IntKind.wrap_i64]; omega
                have HCC := Lib.hid hC
                have HMM := Lib.hid hM
                have HFF := Lib.hid hF
                have HLL := Lib.hid hL
                have hcapz : (j : Int) < (k : Int) := hltz
                clear hit hz hgt hgo hch hct hst hC hM hF hL hz1 hz2 k0 k1 k2 k3 k4 k5
                go_wp2_with fail
                go_quiet (fail)
                obtain ⟨wq, hwq⟩ : ∃ W, wr.drewN nq = W := ⟨_, rfl⟩
                have HWQ := Lib.hid hwq
                have d1 : wq.cell? ⟨(ad.add (j * 6)).block, (ad.add (j * 6)).off + 1, none⟩ = some (.int .i64 it.least) := by rw [← hwq]; exact e1
                have d2 : wq.cell? ⟨(ad.add (j * 6)).block, (ad.add (j * 6)).off + 2, none⟩ = some (.int .i64 it.most) := by rw [← hwq]; exact e2
                have do_ : wq.cell? ⟨g, j, none⟩ = some (.int .i64 z1) := by rw [← hwq]; exact co
                have dc : wq.cell? ⟨gc, j, none⟩ = some (.int .i64 z2) := by rw [← hwq]; exact cc
                have go_ : wq.frozen? ⟨g, j, none⟩ = false := by rw [← hwq]; exact fo
                have gc_ : wq.frozen? ⟨gc, j, none⟩ = false := by rw [← hwq]; exact fc
                rw [hwq]
                clear hwq e0 e1 e2 co cc fo fc
                go_wp2_with fail
                refine wp_region_still_tail 15 (by kernel_rfl) (by kernel_rfl) ?_
                simp only [List.take_succ_cons, List.take_zero, List.drop_succ_cons, List.drop_zero]
                repeat still_step
                still_call ((cl _).mono fun _ _ h => ⟨h.1, h.2.symm⟩)
                repeat still_step
                refine wpStill_nil ?_
                go_wp2_with fail
                go_roundw
                case rel =>
                  have qO : Owns wq b (.slice (some ⟨g, 0, none⟩) k cap) (mixI k j (goO zs s o) o) := by rw [← HWQ.out]; exact HMM.out
                  have qC : Blk wq gc 3 (intsA (mixI k j (chgR zs s) zF)) := by rw [← HWQ.out]; exact HCC.out
                  have qF : BBlk wq gs ((List.range k).map (stB s)) := by rw [← HWQ.out]; exact HFF.out
                  have qL : ∀ m, m < k → wq.cell? ⟨gl, m, none⟩ = some (.int .i64 (zs.getD m 0)) := by rw [← HWQ.out]; exact HLL.out
                  have qB : Below b w wq := by rw [← HWQ.out]; exact below_drewN hB nq
                  refine ⟨j + 1, hlt, by go_num, by rw [hCT.out], ?_, ?_, ?_, fun m hm => ?_, ?_⟩
                  · rw [hCM.out]
                    exact blk_out (Blk.far qC (p := ⟨g, j, none⟩) hgcg (.int .i64 go)) rfl
                  · rw [hOM.out]
                    exact (qO.storeAt j go).far (p := ⟨gc, j, none⟩) (fun q e => by
                      have : g = q := Option.some.inj e
                      show q ≠ gc
                      omega) (.int .i64 ch)
                  · exact Blk.far (Blk.far qF (p := ⟨g, j, none⟩) hne.symm (.int .i64 go)) (p := ⟨gc, j, none⟩) hgcs.symm (.int .i64 ch)
                  · exact (World.cell?_of_block (a := ⟨gl, m, none⟩) (Below.heap_setCell (wq.setCell ⟨g, j, none⟩ (.int .i64 go)) ⟨gc, j, none⟩ (.int .i64 ch) gl hglc)).trans
                      ((World.cell?_of_block (a := ⟨gl, m, none⟩) (Below.heap_setCell wq ⟨g, j, none⟩ (.int .i64 go) gl hglg)).trans (qL m hm))
                  · exact ((qB.setCell (p := ⟨g, j, none⟩) hbg (.int .i64 go)).setCell (p := ⟨gc, j, none⟩) hbgc (.int .i64 ch)).drew
                case measure => simp [intOf]; omega
            · obtain rfl : j = k := by omega
              have hltz : ¬ (j : Int) < (j : Int) := by omega
              have hcc : ∀ m, m < j → wr.cell? ⟨gc, m, none⟩ = some (.int .i64 (chgR zs s m)) := fun m hm => by
                rw [Blk.cell hC m, mixI_all]
                simp [intsA, hm]
              have hbc : -8796093022208 * 2048 ≤ sumR zs s j ∧ sumR zs s j ≤ 8796093022208 * 2048 := by omega
              have HSL := Lib.hid (show sumR zs s j = sumR zs s s.length by rw [HSN.out])
              obtain ⟨cs, hcs⟩ : ∃ cs, sumR zs s j = cs := ⟨_, rfl⟩
              rw [hcs] at hbc HSL ⊢
              rw [mixI_all] at hM
              have hF0 : BBlk wr gs (mixI j 0 (fun i => settles cs (chgR zs s i) || stB s i) (stB s)) := by rw [mixI_none]; exact hF
              clear hcs hcb hC hL hF
              go_wp2_with fail
              go_loopw [20] (Rr3 s zs j o cs b g cap gs gc w) (fun i _ => j - (intOf i).toNat)
              case atStart => exact ⟨0, by omega, rfl, hcc, hM, hF0, hB⟩
              case round =>
                clear hcc hM hF0 hB
                obtain ⟨k, hk, rfl, hcc, hM, hF, hB⟩ := hrel
                by_cases hlt : k < j
                · have hltz : (k : Int) < (j : Int) := by omega
                  have cch := hcc k hlt
                  have cfl : wr.cell? ⟨gs, k, none⟩ = some (.bool (mixI j k (fun i => settles cs (chgR zs s i) || stB s i) (stB s))[k]!) := by
                    rw [hF.at_ (i := k) (by rw [mixI_len]; exact hlt)]
                    simp [mixI_len, hlt]
                  have ffl := Blk.frozen hF k
                  obtain ⟨z0, hz0⟩ : ∃ z, (mixI j k (fun i => settles cs (chgR zs s i) || stB s i) (stB s))[k]! = z := ⟨_, rfl⟩
                  rw [hz0] at cfl
                  have HSET := Lib.hid (fun (h : settles cs (chgR zs s k) = true) => show mixI j (k + 1) (fun i => settles cs (chgR zs s i) || stB s i) (stB s) = (mixI j k (fun i => settles cs (chgR zs s i) || stB s i) (stB s)).set k true by rw [mixI_step, h]; rfl)
                  have HNOT := Lib.hid (fun (h : settles cs (chgR zs s k) = false) => mixI_same j k (fun i => settles cs (chgR zs s i) || stB s i) (stB s) fun _ => by simp [h])
                  obtain ⟨ch, hch⟩ : ∃ z, chgR zs s k = z := ⟨_, rfl⟩
                  rw [hch] at cch HSET HNOT
                  have HCC := Lib.hid hcc
                  have HMM := Lib.hid hM
                  have HFF := Lib.hid hF
                  clear hz0 hch hcc hM hF
                  have hset : ∀ (W : World), W = wr.setCell ⟨gs, k, none⟩ (.bool true) → settles cs ch = true → Rr3 s zs j o cs b g cap gs gc w (.int .i64 ((k + 1 : Nat) : Int)) W := fun W e hs => by
                    subst e
                    refine ⟨k + 1, hlt, rfl, fun m hm => ?_, ?_, ?_, hB.setCell (p := ⟨gs, k, none⟩) hbgs _⟩
                    · exact (World.cell?_of_block (a := ⟨gc, m, none⟩) (Below.heap_setCell wr ⟨gs, k, none⟩ (.bool true) gc hgcs)).trans (HCC.out m hm)
                    · exact HMM.out.far (p := ⟨gs, k, none⟩) (fun q e => by
                        have : g = q := Option.some.inj e
                        show q ≠ gs
                        omega) _
                    · rw [HSET.out hs]
                      exact HFF.out.put k true
                  have hnot : settles cs ch = false → Rr3 s zs j o cs b g cap gs gc w (.int .i64 ((k + 1 : Nat) : Int)) wr := fun hs => ⟨k + 1, hlt, rfl, HCC.out, HMM.out, by rw [HNOT.out hs]; exact HFF.out, hB⟩
                  have HYES : Aside _ := hset
                  have HNO := Lib.hid hnot
                  clear hset hnot HSET HNOT HCC HMM HFF
                  have h5 : ((cs == 0) = true) ∨ ((cs == 0) = false ∧ 0 < cs ∧ ¬ cs < 0 ∧ 0 < ch) ∨ ((cs == 0) = false ∧ 0 < cs ∧ ¬ cs < 0 ∧ ¬ 0 < ch) ∨ ((cs == 0) = false ∧ ¬ 0 < cs ∧ cs < 0 ∧ ch < 0) ∨ ((cs == 0) = false ∧ ¬ 0 < cs ∧ cs < 0 ∧ ¬ ch < 0) := by
                    rcases Int.lt_trichotomy cs 0 with h | h | h
                    · have : (cs == 0) = false := by simp; omega
                      by_cases h' : ch < 0
                      · exact Or.inr (Or.inr (Or.inr (Or.inl ⟨this, by omega, h, h'⟩)))
                      · exact Or.inr (Or.inr (Or.inr (Or.inr ⟨this, by omega, h, h'⟩)))
                    · exact Or.inl (by simp [h])
                    · have : (cs == 0) = false := by simp; omega
                      by_cases h' : 0 < ch
                      · exact Or.inr (Or.inl ⟨this, h, by omega, h'⟩)
                      · exact Or.inr (Or.inr (Or.inl ⟨this, h, by omega, h'⟩))
                  rcases h5 with t1 | ⟨t1, t2, t3, t4⟩ | ⟨t1, t2, t3, t4⟩ | ⟨t1, t2, t3, t4⟩ | ⟨t1, t2, t3, t4⟩
                  · have HS := Lib.hid (show settles cs ch = true by simp only [settles, decide_eq_true_eq]; simp at t1; omega)
                    go_wp2_with fail
                    go_roundw
                    case rel => exact HYES.out _ rfl HS.out
                    case measure => simp [intOf]; omega
                  · have HS := Lib.hid (show settles cs ch = true by simp only [settles, decide_eq_true_eq]; simp at t1; omega)
                    go_wp2_with fail
                    go_roundw
                    case rel => exact HYES.out _ rfl HS.out
                    case measure => simp [intOf]; omega
                  · have HS := Lib.hid (show settles cs ch = false by simp only [settles, decide_eq_false_iff_not]; simp at t1; omega)
                    go_wp2_with fail
                    go_roundw
                    case rel => exact HNO.out HS.out
                    case measure => simp [intOf]; omega
                  · have HS := Lib.hid (show settles cs ch = true by simp only [settles, decide_eq_true_eq]; simp at t1; omega)
                    go_wp2_with fail
                    go_roundw
                    case rel => exact HYES.out _ rfl HS.out
                    case measure => simp [intOf]; omega
                  · have HS := Lib.hid (show settles cs ch = false by simp only [settles, decide_eq_false_iff_not]; simp at t1; omega)
                    go_wp2_with fail
                    go_roundw
                    case rel => exact HNO.out HS.out
                    case measure => simp [intOf]; omega
                · obtain rfl : k = j := by omega
                  have hltz : ¬ (k : Int) < (k : Int) := by omega
                  have hend : RMem wr b k (goO zs s o) (stB (nextR zs s)) g cap gs := by
                    refine ⟨hM, ?_, hne, hbgs⟩
                    rw [mixI_all] at hF
                    have e : (List.range k).map (stB (nextR zs s)) = (List.range k).map (fun i => settles cs (chgR zs s i) || stB s i) := List.map_congr_left fun i hi => by
                      rw [stB_next (by rw [HSN.out]; simpa using hi), ← HSL.out]
                    rw [e]
                    exact hF
                  have HEND := Lib.hid hend
                  clear hM hF hcc hend
                  go_wp2_with fail
                  go_ret
                  refine ⟨by rw [HLF.out, HFIT.out]; rfl, hB, fun _ => ?_⟩
                  rw [HLF.out, ← HZS.out]
                  exact HEND.out

end Go.Proofs.Ytbhdolghokhfnaa
