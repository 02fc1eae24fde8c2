/-
  Walks: the law FlexlineStable.
-/
import Derived.Test.YtbhdolghokhfnaaOrdersLaw
import Derived.Test.YtbhdolghokhfnaaAwake15
namespace Go.Proofs.Ytbhdolghokhfnaa
open Go.RowKit

/-- So many places have been looked at. -/
def StA (n s : Nat) (os : List Nat) (w2 : World) (i : Value) (wr : World) : Prop :=
  ∃ k : Nat, k ≤ n ∧ i = .int .i64 k ∧ FBlk wr s (flags n (os.take k)) ∧ Below s w2 wr

set_option maxRecDepth 100000 in
set_option maxHeartbeats 4000000 in
theorem stable_main (l : List Int) (v : Value) (w : World) (h : Ints w w.heap.size v l) (hl : l.length ≤ 300) :
    LawReturns 4 #[v] w := by
  unfold LawReturns
  have aw := awake15 w
  have HO := Lib.hid (fun W (hb : Below w.heap.size w W) => order_any l (by omega) v w.heap.size W (h.below hb) hb.size)
  obtain ⟨n, hn⟩ : ∃ n, l.length = n := ⟨_, rfl⟩
  obtain ⟨A, c, rfl, hc, hr⟩ := h
  have hval : ∀ i (hi : i < n), ∃ ad, A = some ad ∧ ad.block < w.heap.size ∧ w.cell? (ad.add i) = some (.int .i64 (l.getD i 0)) := fun i hi => by
    obtain ⟨ad, e, hb, k⟩ := hr.val (show i < l.length by omega)
    exact ⟨ad, e, hb, by rw [k]; simp [show i < l.length by omega]⟩
  obtain ⟨i0, hi0, hz0, hzs, hzb⟩ := info_parts Try.infoBool
  have hmk := fun W : World => run_make_rowN (P := Try.prog) 27 4 i0 _ Try.underlying27 hi0 hz0 .i64 .i64 n n (Nat.le_refl _) (by rw [hzb]; omega) (by omega) W
  rw [hzs, Nat.mul_one] at hmk
  clear hi0 hz0 hzs hzb
  rw [show (Value.bool false).cells = #[Value.bool false] from rfl, made_falses] at hmk
  have HV : Aside _ := hval
  rw [hn] at hc hl HO ⊢
  have HN := Lib.hid hn
  have hn3 : ¬ 300 < n := by omega
  have hnn : ((n : Int) != (n : Int)) = false := by simp
  clear hr hval hn
  go_enter Try.func4, Try.ntmps4
  go_wp2_with fail
  refine aw.mono ?_
  clear aw
  rintro e w1 ⟨rfl, hb1⟩
  go_wp2_with fail
  refine (HO.out _ hb1).mono ?_
  rintro e w2 ⟨v2, os, rfl, hos, how, hb2⟩
  have hb02 : Below w.heap.size w w2 := below2 hb1 hb2
  have hlen : os.length = n := by rw [hos.len]; exact HN.out
  obtain ⟨A2, c2, rfl, hc2, _⟩ := how.ints
  have hoc : ∀ i (hi : i < n), ∃ (g y : Nat), A2 = some ⟨g, 0, none⟩ ∧ g < w2.heap.size ∧ os[i]? = some y ∧ y < n ∧ w2.cell? ⟨g, i, none⟩ = some (.int .i64 (y : Nat)) := fun i hi => by
    obtain ⟨g, cap, e, _, _, hg, k, _⟩ := how.open1 (by simp; omega)
    injection e with e1 e2 e3
    refine ⟨g, os[i]'(by omega), e1, hg, by simp [hlen, hi], by have := hos.lt (List.getElem_mem (show i < os.length by omega)); have := HN.out; omega, ?_⟩
    rw [k i (by simp; omega)]
    simp
  have HOC : Aside _ := hoc
  have HOS := Lib.hid hos
  simp only [List.length_map] at hc2 ⊢
  rw [hlen] at hc2 ⊢
  have HLN := Lib.hid hlen
  clear hoc how hos HO hlen
  have hblk : FBlk (w2.alloc (.cells ((flags n []).map Value.bool).toArray 4)) w2.heap.size (flags n []) := Blk.new _ _ _
  have hb3 : Below w2.heap.size w2 (w2.alloc (.cells ((flags n []).map Value.bool).toArray 4)) := (Below.refl _ _).alloc (Nat.le_refl _) _
  have hmk1 := hmk w2
  clear hmk
  generalize w2.alloc (.cells ((flags n []).map Value.bool).toArray 4) = w3 at *
  obtain ⟨s, hs⟩ : ∃ s, w2.heap.size = s := ⟨_, rfl⟩
  rw [hs] at hblk hb3 hmk1
  have hbs : w.heap.size ≤ s := by have := hb02.size; omega
  have HS := Lib.hid hs
  clear hs
  go_wp2_with fail
  clear hmk1
  go_loopw [5] (StA n s os w3) (fun i _ => n - (intOf i).toNat)
  case atStart => exact ⟨0, by omega, rfl, hblk, Below.refl _ _⟩
  case round =>
    obtain ⟨k, hk, rfl, hfb, hbr⟩ := hrel
    by_cases hlt : k < n
    · have hltz : (k : Int) < (n : Int) := by omega
      obtain ⟨g, y, rfl, hgb, hy, hyn, hcy⟩ := HOC.out k hlt
      rw [HS.out] at hgb
      have hyz : (y : Int) < (n : Int) := by omega
      have hyz2 : ¬ (n : Int) ≤ (y : Int) := by omega
      have hnot : y ∉ os.take k := fun hm => by
        obtain ⟨j, hj, e⟩ := List.getElem_of_mem hm
        have hjk : j < k := by simp at hj; omega
        rw [List.getElem_take] at e
        have hjo : j < os.length := by have := HLN.out; omega
        have hko : k < os.length := by have := HLN.out; omega
        rw [List.getElem?_eq_getElem hko] at hy
        have e2 : os[j] = os[k] := e.trans (Option.some.inj hy).symm
        have := (List.getElem_inj HOS.out.nodup).1 e2
        omega
      have hcy1 : wr.cell? ⟨g, k, none⟩ = some (.int .i64 (y : Nat)) := (hbr.cell (p := ⟨g, k, none⟩) hgb).trans ((hb3.cell (p := ⟨g, k, none⟩) hgb).trans hcy)
      have hct : wr.cell? ⟨s, y, none⟩ = some (.bool false) := hfb.at_ hyn (decide_eq_false hnot)
      have hft : wr.frozen? ⟨s, y, none⟩ = false := Blk.frozen hfb y
      have hfb2 : FBlk (wr.setCell ⟨s, y, none⟩ (.bool true)) s (flags n (os.take (k + 1))) := by
        have := FBlk.tell (x := y) hfb
        rw [show os.take (k + 1) = os.take k ++ [y] by rw [List.take_add_one, hy]; rfl]
        exact this
      have hbr2 : Below s w3 (wr.setCell ⟨s, y, none⟩ (.bool true)) := hbr.setCell (p := ⟨s, y, none⟩) (Nat.le_refl _) _
      have hold : ∀ (a : Addr), a.block < s → (wr.setCell ⟨s, y, none⟩ (.bool true)).cell? a = w2.cell? a := fun a ha => (hbr2.cell ha).trans (hb3.cell ha)
      have HOLD : Aside _ := hold
      have HFB := Lib.hid hfb2
      have HY := Lib.hid hy
      clear hold hfb hfb2 hnot hy
      rcases Nat.eq_zero_or_pos k with rfl | hk0
      · clear hbr
        go_wp2_with fail
        go_quiet (fail)
        go_wp2_with fail
        go_roundw
        case rel => exact ⟨0 + 1, hlt, by go_num, HFB.out, below_drewN hbr2 _⟩
        case measure => simp [intOf]; omega
      · obtain ⟨j, rfl⟩ : ∃ j, k = j + 1 := ⟨k - 1, by omega⟩
        obtain ⟨g2, x, e2, _, hx, hxn, hcx⟩ := HOC.out j (by omega)
        cases e2
        obtain ⟨ad, rfl, hadb, hlx⟩ := HV.out x hxn
        obtain ⟨ad2, e3, _, hly⟩ := HV.out y hyn
        cases e3
        have hbf : bef l x y = true := by
          have hp := List.pairwise_iff_getElem.1 HOS.out.sorted j (j + 1) (by have := HLN.out; omega) (by have := HLN.out; omega) (by omega)
          have hY := HY.out
          rw [List.getElem?_eq_getElem (by have := HLN.out; omega)] at hx hY
          rw [Option.some.inj hx, Option.some.inj hY] at hp
          exact hp
        rw [bef_iff] at hbf
        have d1 := (HOLD.out (ad.add x) (by rw [block_of_add]; omega)).trans ((hb02.cell (by rw [block_of_add]; omega)).trans hlx)
        have d2 := (HOLD.out (ad.add y) (by rw [block_of_add]; omega)).trans ((hb02.cell (by rw [block_of_add]; omega)).trans hly)
        have d3 := (HOLD.out ⟨g, j, none⟩ hgb).trans hcx
        have d4 := (HOLD.out ⟨g, j + 1, none⟩ hgb).trans hcy
        have hcw : wr.cell? ⟨s, y, none⟩ = some (.bool false) := hct
        have hj0 : (0 : Int) < (j : Int) + 1 := by omega
        have hjn : (j : Int) < (n : Int) := by omega
        have hjn2 : (j : Int) + 1 < (n : Int) := by omega
        have hj1 : IntKind.i64.wrap ((j : Int) + 1 - 1) = (j : Int) := by rw [IntKind.wrap_i64]; omega
        have hxz : (x : Int) < (n : Int) := by omega
        obtain ⟨zx, hzx⟩ : ∃ z, l.getD x 0 = z := ⟨_, rfl⟩
        obtain ⟨zy, hzy⟩ : ∃ z, l.getD y 0 = z := ⟨_, rfl⟩
        rw [hzx, hzy] at hbf
        rw [hzx] at d1
        rw [hzy] at d2
        clear hcx hcy hlx hly hzx hzy hx HY
        go_wp2_with fail
        generalize wr.setCell ⟨s, y, none⟩ (.bool true) = W at *
        clear hct hcw hft hbr hcy1
        rcases hbf with hlt2 | ⟨rfl, hlt2⟩
        · have t1 : decide (zy < zx) = false := decide_eq_false (by omega)
          have t2 : (zx == zy) = false := by simp; omega
          go_quiet (fail)
          go_wp2_with fail
          go_roundw
          case rel => exact ⟨j + 1 + 1, hlt, by go_num, HFB.out, below_drewN hbr2 _⟩
          case measure => simp [intOf]; omega
        · have t1 : decide (zx < zx) = false := decide_eq_false (by omega)
          have t2 : (zx == zx) = true := by simp
          have t3 : decide ((y : Int) < (x : Int)) = false := decide_eq_false (by omega)
          go_quiet (fail)
          go_wp2_with fail
          go_roundw
          case rel => exact ⟨j + 1 + 1, hlt, by go_num, HFB.out, below_drewN hbr2 _⟩
          case measure => simp [intOf]; omega
    · have hltz : ¬ (k : Int) < (n : Int) := by omega
      go_wp2_with fail
      go_ret
      have hb23 : Below s w2 wr := hb3.trans hbr
      exact ⟨rfl, hb02.trans (hb23.mono hbs)⟩

set_option maxRecDepth 100000 in
theorem flexlineStable_walk (zs : List Int) (v : Value) (w : World) (h : Ints w w.heap.size v zs) (_hl : zs.length ≤ 17592186044416) :
    LawReturns 4 #[v] w := by
  by_cases h0 : zs.length ≤ 300
  · exact stable_main zs v w h h0
  · unfold LawReturns
    have h1 : 300 < zs.length := by omega
    have aw := awake15 w
    obtain ⟨A, c, rfl, hc, hr⟩ := h
    go_enter Try.func4, Try.ntmps4
    go_wp2_with fail
    refine aw.mono ?_
    rintro e w1 ⟨rfl, hb1⟩
    go_wp2_with fail
    go_ret
    exact ⟨rfl, hb1⟩

end Go.Proofs.Ytbhdolghokhfnaa
