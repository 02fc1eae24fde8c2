/-
  Walks: a round of sizes, walked.
-/
import Derived.Test.YtbhdolghokhfnaaRound16
namespace Go.Proofs.Ytbhdolghokhfnaa
open Go.RowKit

theorem wtOf_open {x : Bo} (h : x.2.isSome = false) {grow : Bool} : (if grow = true then x.1.grow else x.1.shrink * x.1.base) = wtOf grow x := by
  unfold wtOf
  rw [h]
  rfl
theorem szOf_open {x : Bo} (h : x.2.isSome = false) : szOf x = x.1.base := by
  unfold szOf
  cases hx : x.2 with
  | none => rfl
  | some z => rw [hx] at h; cases h
theorem nextAt_yes {zs : List Int} {s : List Bo} {c : Int} {i : Nat} (h : (boAt s i).2.isSome = false) (hs : settles c (chgR zs s i) = true) : nextAt zs s c i = ((boAt s i).1, some (goalR zs s i)) := by
  unfold nextAt
  rw [h, hs]
  rfl
theorem nextAt_no {zs : List Int} {s : List Bo} {c : Int} {i : Nat} (h : (boAt s i).2.isSome = false) (hs : settles c (chgR zs s i) = false) : nextAt zs s c i = boAt s i := by
  unfold nextAt
  rw [h, hs]
  rfl
/-- What a round finds. -/
structure RdPre (w : World) (gs : List Nat) (s : List Bo) (L : Nat) (v vO : Value) (room : Int) (grow : Bool) : Prop where
  good : GoodS s
  len : s.length ≤ 2048
  glen : gs.length = s.length
  nodup : gs.Nodup
  lt : ∀ g ∈ gs, g < w.heap.size
  line : LineB w L v room grow
  lout : L ∉ gs
  row : Ptrs w w.heap.size v gs
  rout : ∀ k, v.ownBlock = some k → k ∉ gs
  boxes : Boxes w gs s
  op : Ptrs w w.heap.size vO ((opI s).map (gAt gs))
  oout : ∀ k, vO.ownBlock = some k → k ∉ gs
  r1 : -9007199254740992 ≤ room
  r2 : room ≤ 9007199254740992
def RdPost (w : World) (gs : List Nat) (s : List Bo) (room : Int) (grow : Bool) (e : Ending) (w' : World) : Prop :=
  e = .returned (.bool (fit (leftR room s))) ∧ Kept gs w w' ∧ (fit (leftR room s) = true → Boxes w' gs (nextR (giveR grow (leftR room s) s) s))
def Rd1 (s : List Bo) (n : Nat) (room : Int) (w : World) (left i : Value) (wr : World) : Prop :=
  ∃ k : Nat, k ≤ n ∧ i = .int .i64 k ∧ left = .int .i64 (room - szTo s k) ∧ wr = w
def Rd2 (s : List Bo) (m : Nat) (grow : Bool) (b : Nat) (w1 : World) (wv i : Value) (wr : World) : Prop :=
  ∃ k : Nat, k ≤ m ∧ i = .int .i64 k ∧ Owns wr b wv (((opI s).take k).map fun i => wtOf grow (boAt s i)) ∧ Below b w1 wr

def Rd3 (s : List Bo) (gs : List Nat) (zs : List Int) (m : Nat) (w3 : World) (c i : Value) (wr : World) : Prop :=
  ∃ k : Nat, k ≤ m ∧ i = .int .i64 k ∧ c = .int .i64 (chTo zs s k) ∧ Box3 wr gs s zs k ∧ Kept gs w3 wr
def Rd4 (s : List Bo) (gs : List Nat) (zs : List Int) (c : Int) (m : Nat) (w3 : World) (i : Value) (wr : World) : Prop :=
  ∃ k : Nat, k ≤ m ∧ i = .int .i64 k ∧ Box4 wr gs s zs c k ∧ Kept gs w3 wr
set_option maxRecDepth 1000000 in
set_option maxHeartbeats 16000000 in
theorem round_any (w : World) (gs : List Nat) (s : List Bo) (L : Nat) (v vO : Value) (room : Int) (grow : Bool) (h : RdPre w gs s L v vO room grow) :
    Calls Try.prog 52 #[ptrV L, vO] w (RdPost w gs s room grow) := by
  have H := Lib.hid h
  obtain ⟨A, c, hv, hc, hf⟩ := h.row
  obtain ⟨AO, cO, hvO, hcO, hfO⟩ := h.op
  have r1 := h.r1
  have r2 := h.r2
  obtain ⟨n, hn⟩ : ∃ n, s.length = n := ⟨_, rfl⟩
  obtain ⟨m, hm⟩ : ∃ m, (opI s).length = m := ⟨_, rfl⟩
  have hgn : gs.length = n := by rw [h.glen, hn]
  have hmn : m ≤ n := by rw [← hm, ← hn]; exact opI_le s
  have hn2 : n ≤ 2048 := by rw [← hn]; exact h.len
  have hrow : ∀ k (hk : k < n), ∃ g x sz go st, A = some ⟨g, 0, none⟩ ∧ w.cell? ⟨g, k, none⟩ = some (.pointer (some ⟨x, 0, none⟩)) ∧ x = gAt gs k ∧ sz = szOf (boAt s k) ∧ BoxB w x (boAt s k).1 sz go st := fun k hk => by
    obtain ⟨g, e, _, hh⟩ := hf (by omega)
    obtain ⟨go, hb⟩ := h.boxes k (by omega)
    refine ⟨g, gAt gs k, _, go, _, e, ?_, rfl, rfl, hb⟩
    rw [hh k (by omega)]
    unfold gAt ptrV
    simp [show k < gs.length by omega]
  have HROW : Aside _ := hrow
  have HN := Lib.hid hn
  have HM := Lib.hid hm
  obtain ⟨cl0, cl1, cl2⟩ := h.line.cells
  have HB := Lib.hid (szTo_bd h.good)
  have HZ := Lib.hid (fun k (hk : k < n) => (fit_iff _).1 (h.good k (by omega)).fz)
  have HLE := Lib.hid (show leftR room s = room - szTo s n by unfold leftR; rw [← szTo_all, hn])
  subst hv hvO
  have hc2 : n ≤ c := by omega
  have hlO : ((opI s).map (gAt gs)).length = m := by simp [hm]
  rw [hgn] at cl0
  rw [hlO] at hcO ⊢
  have HFO : Aside _ := hfO
  clear hf hfO hrow hn hm h hc hgn hlO
  show Calls Try.prog 52 #[.pointer (some ⟨L, 0, none⟩), _] w _
  go_enter Try.func52, Try.ntmps52
  go_wp2_with fail
  go_loopw [5, 29] (Rd1 s n room w) (fun _ i _ => n - (intOf i).toNat)
  case atStart => exact ⟨0, by omega, rfl, by simp [szTo], rfl⟩
  case round =>
    obtain ⟨k, hk, rfl, rfl, rfl⟩ := hrel
    have hb := HB.out k (by have := HN.out; omega)
    by_cases hlt : k < n
    · have hltz : (k : Int) < (n : Int) := by omega
      obtain ⟨g, x, sz, go, st, rfl, hcg, hgx, hsz, hbx⟩ := HROW.out k hlt
      clear hgx
      obtain ⟨_, _, _, _, _, c6, _⟩ := hbx.cells
      have hzb := HZ.out k hlt
      rw [← hsz] at hzb
      have HS := Lib.hid (show szTo s (k + 1) = szTo s k + sz by rw [szTo, hsz])
      obtain ⟨t, ht⟩ : ∃ t, room - szTo s k = t := ⟨_, rfl⟩
      have htb : -20000000000000000 ≤ t - sz ∧ t - sz ≤ 20000000000000000 := by omega
      have hw : IntKind.i64.wrap (t - sz) = t - sz := by rw [IntKind.wrap_i64]; omega
      rw [ht]
      have HT := Lib.hid ht
      clear hsz ht hbx hb
      go_wp2_with fail
      go_roundw
      case rel => exact ⟨k + 1, hlt, by go_num, by rw [HS.out, ← HT.out]; go_num, rfl⟩
      case measure => simp [intOf]; omega
    · obtain rfl : k = n := by omega
      have hltz : ¬ (k : Int) < (k : Int) := by omega
      rw [← HLE.out]
      have ft := fits_one (leftR room s) 3 wr
      obtain ⟨lf, hlf⟩ : ∃ lf, leftR room s = lf := ⟨_, rfl⟩
      rw [hlf] at ft ⊢
      have HLF := Lib.hid hlf
      clear hlf hb
      cases hfit : fit lf with
      | false =>
        rw [hfit] at ft
        have HFIT := Lib.hid hfit
        clear hfit
        go_wp2_with fail
        refine ft.mono ?_
        clear ft
        rintro e w' ⟨rfl, rfl⟩
        go_wp2_with fail
        go_ret
        exact ⟨by rw [HLF.out, HFIT.out]; rfl, Kept.of_below ((Below.refl _ _).alloc (Nat.le_refl _) _), fun hh => by rw [HLF.out, HFIT.out] at hh; cases hh⟩
      | true =>
        rw [hfit] at ft
        have HFIT := Lib.hid hfit
        clear hfit
        go_wp2_with fail
        refine ft.mono ?_
        clear ft
        rintro e w' ⟨rfl, rfl⟩
        have hb1 : Below wr.heap.size wr (wr.alloc (.cells #[.int .i64 lf] 3)) := (Below.refl _ _).alloc (Nat.le_refl _) _
        have hs1 : (wr.alloc (.cells #[.int .i64 lf] 3)).heap.size = wr.heap.size + 1 := World.size_alloc _ _
        have cl2' : (wr.alloc (.cells #[.int .i64 lf] 3)).cell? ⟨L, 2, none⟩ = some (.bool grow) := (hb1.cell (p := ⟨L, 2, none⟩) (Blk.lt H.out.line)).trans cl2
        generalize wr.alloc (.cells #[.int .i64 lf] 3) = w1 at *
        go_upto_if 50 with fail
        go_cut [5] (fun s5 wx => s5 = .int .i64 (cutR grow lf) ∧ wx = w1)
        case first =>
          clear H HROW HFO HB HZ HLE
          cases grow with
          | false =>
            by_cases hp : 0 < lf
            · have HPB := Lib.hid (show decide (0 < lf) = true from decide_eq_true hp)
              have HV := Lib.hid (show cutR false lf = 0 by unfold cutR; simp <;> omega)
              clear hp
              go_wp2_with fail
              all_goals
                rename_i hh
                rw [HPB.out] at hh
                first
                | (exfalso; revert hh; decide)
                | (go_meet; exact ⟨by rw [HV.out], rfl⟩)
            · have HPB := Lib.hid (show decide (0 < lf) = false from decide_eq_false hp)
              have HV := Lib.hid (show cutR false lf = lf by unfold cutR; simp <;> omega)
              clear hp
              go_wp2_with fail
              all_goals
                rename_i hh
                rw [HPB.out] at hh
                first
                | (exfalso; revert hh; decide)
                | (go_meet; exact ⟨by rw [HV.out], rfl⟩)
          | true =>
            by_cases hp : 0 < lf
            · have HPB := Lib.hid (show decide (0 < lf) = true from decide_eq_true hp)
              have HV := Lib.hid (show cutR true lf = lf by unfold cutR; simp <;> omega)
              clear hp
              go_wp2_with fail
              all_goals
                rename_i hh
                rw [HPB.out] at hh
                first
                | (exfalso; revert hh; decide)
                | (go_meet; exact ⟨by rw [HV.out], rfl⟩)
            · have HPB := Lib.hid (show decide (0 < lf) = false from decide_eq_false hp)
              have HV := Lib.hid (show cutR true lf = 0 by unfold cutR; simp <;> omega)
              clear hp
              go_wp2_with fail
              all_goals
                rename_i hh
                rw [HPB.out] at hh
                first
                | (exfalso; revert hh; decide)
                | (go_meet; exact ⟨by rw [HV.out], rfl⟩)
        case rest =>
          obtain ⟨rfl, rfl⟩ := hcut
          have hcf := cut_fit (grow := grow) HFIT.out
          obtain ⟨cu, hcu⟩ : ∃ cu, cutR grow lf = cu := ⟨_, rfl⟩
          rw [hcu] at hcf ⊢
          have HCU := Lib.hid hcu
          have HCF := Lib.hid hcf
          clear hcu hcf
          have hbx1 := H.out.boxes.keep hb1
          have HB1 : Aside _ := hbx1
          clear hbx1
          have hopen : ∀ k (hk : k < m), ∃ g x i, AO = some ⟨g, 0, none⟩ ∧ wc.cell? ⟨g, k, none⟩ = some (.pointer (some ⟨x, 0, none⟩)) ∧ g < wr.heap.size ∧ g ∉ gs ∧ Hid (x = gAt gs i ∧ i = (opI s).getD k 0 ∧ (opI s)[k]? = some i ∧ i < s.length) := fun k hk => by
            obtain ⟨g, e, hgb, hh⟩ := HFO.out (by simp; have := HM.out; omega)
            have hki : k < (opI s).length := by have := HM.out; omega
            refine ⟨g, gAt gs (opI s)[k], (opI s)[k], e, ?_, hgb, H.out.oout g (by rw [e]; rfl), rfl, by simp [hki], by simp [hki], opI_lt (List.getElem_mem hki)⟩
            rw [hb1.cell (p := ⟨g, k, none⟩) hgb, hh k (by simp; exact hki)]
            simp [ptrV]
          have HOP : Aside _ := hopen
          clear hopen HFO
          have hmz : m ≤ 2048 := by omega
          go_wp2_with fail
          go_loopw [8, 53] (Rd2 s m grow wc.heap.size wc) (fun _ i _ => m - (intOf i).toNat)
          case atStart => exact ⟨0, by omega, rfl, Owns.nil _ _, Below.refl _ _⟩
          case round =>
            obtain ⟨k, hk, rfl, hown, hbr⟩ := hrel
            by_cases hlt : k < m
            · have hltz : (k : Int) < (m : Int) := by omega
              obtain ⟨g, x, i, rfl, hcx, hgb, _, HX⟩ := HOP.out k hlt
              have hcx2 := (hbr.cell (p := ⟨g, k, none⟩) (by show g < _; have := hb1.size; omega)).trans hcx
              have hcl := (hbr.cell (p := ⟨L, 2, none⟩) (by show L < _; have := hb1.size; have := Blk.lt H.out.line; omega)).trans cl2'
              obtain ⟨go, hbi⟩ := HB1.out i HX.out.2.2.2
              rw [← HX.out.1] at hbi
              have hbi2 : BoxB wr x (boAt s i).1 (szOf (boAt s i)) go (boAt s i).2.isSome := (hbr.block _ (Blk.lt hbi)).trans hbi
              have hG := H.out.good i HX.out.2.2.2
              have hop := opI_open (List.mem_of_getElem? HX.out.2.2.1)
              have hwt := weight_any x _ _ _ _ grow wr hbi2 hG.b0 ((fit_iff _).1 hG.fb).2 hG.s0 hG.s1
              rw [wtOf_open hop] at hwt
              obtain ⟨z, hz⟩ : ∃ z, wtOf grow (boAt s i) = z := ⟨_, rfl⟩
              rw [hz] at hwt
              unfold ptrV at hwt
              have HT := Lib.hid (show ((opI s).take (k + 1)).map (fun i => wtOf grow (boAt s i)) = ((opI s).take k).map (fun i => wtOf grow (boAt s i)) ++ [z] by rw [List.take_add_one, HX.out.2.2.1]; simp [hz])
              have hlk : (((opI s).take k).map fun i => wtOf grow (boAt s i)).length < 17592186044416 := by simp; omega
              have hbs := hbr.size
              clear hz hbi hbi2 hG hop
              go_wp2_with fail
              refine hwt.mono ?_
              clear hwt
              rintro e w' ⟨rfl, nq, rfl⟩
              go_wp2_with (at_builtin; refine append_int _ z rfl _ _ rfl wc.heap.size u8 _ rfl (hown.drewN nq) rfl hlk hbs ?_; intro v3 w3 hown3 hb3)
              go_roundw
              case rel => exact ⟨k + 1, hlt, by go_num, by rw [HT.out]; exact hown3, (below_drewN hbr nq).trans hb3⟩
              case measure => simp [intOf]; omega
            · obtain rfl : k = m := by omega
              have hltz : ¬ (k : Int) < (k : Int) := by omega
              rw [List.take_of_length_le (by have := HM.out; omega)] at hown
              have hwa : ((opI s).map fun i => wtOf grow (boAt s i)).all isWeight = true := by
                rw [List.all_eq_true]
                intro z hz
                obtain ⟨i, hi, rfl⟩ := List.mem_map.1 hz
                exact (H.out.good i (opI_lt hi)).wt grow
              have sh := share_any cu _ u8 _ wr hown.ints (Nat.le_refl _) (by simp; have := HM.out; omega)
              unfold SharePost at sh
              rw [shareR_ok HCF.out (by simp; have := HM.out; omega) hwa, give_open] at sh
              have HZS := Lib.hid (show zsOf cu (s.map (wtOf grow)) = giveR grow lf s by unfold giveR; rw [HCU.out])
              have hzb := fun i => give_bd (L := cu) (grow := grow) HCF.out H.out.good i
              obtain ⟨zs, hzs⟩ : ∃ zs, zsOf cu (s.map (wtOf grow)) = zs := ⟨_, rfl⟩
              rw [hzs] at sh HZS
              simp only [hzs] at hzb
              have HZB : Aside _ := hzb
              clear hzs hwa hown hzb
              go_wp2_with fail
              refine sh.mono ?_
              clear sh
              rintro e w3 ⟨v3, rfl, ho3, hb3⟩
              have hbs := hbr.size
              have hb03 : Below wc.heap.size wc w3 := hbr.trans (hb3.mono hbs)
              have hk3 : Kept gs w3 w3 := Kept.refl _ _
              have hbx3 : Box3 w3 gs s zs 0 := Boxes.start3 (Boxes.keep HB1.out hb03)
              have hgw3 : ∀ x ∈ gs, x < wc.heap.size := fun x hx => by have := H.out.lt x hx; have := hb1.size; omega
              have hgl : ((opI s).map fun i => zs.getD i 0).length = k := by simp; exact HM.out
              obtain ⟨A3, c3, hv3, hc3, _⟩ := ho3.ints
              rw [hgl] at hv3 hc3
              subst hv3
              have hshr : ∀ j i, j < k → (opI s)[j]? = some i → ∃ g, A3 = some ⟨g, 0, none⟩ ∧ g ∉ gs ∧ g < w3.heap.size ∧ w3.cell? ⟨g, j, none⟩ = some (.int .i64 (zs.getD i 0)) := fun j i hj hi => by
                obtain ⟨g, cap, e, _, hg, hgl2, hcc, _⟩ := ho3.openI (by rw [hgl]; omega)
                injection e with e1 _ _
                refine ⟨g, e1, fun hm => by have := hgw3 g hm; have := hbr.size; omega, hgl2, ?_⟩
                rw [hcc j (by rw [hgl]; exact hj)]
                obtain ⟨hj2, rfl⟩ := List.getElem?_eq_some_iff.1 hi
                simp
              have HSHR : Aside _ := hshr
              have HHB := Lib.hid hb03
              clear hshr hgl ho3 HB1
              go_wp2_with fail
              go_loopw [13, 75] (Rd3 s gs zs k w3) (fun _ i _ => k - (intOf i).toNat)
              case atStart => exact ⟨0, by omega, rfl, rfl, hbx3, hk3⟩
              case round =>
                clear hbx3 hk3
                obtain ⟨j, hj, rfl, rfl, hbx, hkp⟩ := hrel
                have hcb := chTo_bd H.out.good HZB.out j (by have := HM.out; omega)
                by_cases hlt : j < k
                · have hltz : (j : Int) < (k : Int) := by omega
                  obtain ⟨g, x, i, rfl, hcx, hgb, hgn, HX⟩ := HOP.out j hlt
                  have hki : j < (opI s).length := by rw [HM.out]; exact hlt
                  have hxi : (opI s)[j] = i := by have := HX.out.2.2.1; rw [List.getElem?_eq_getElem hki] at this; exact Option.some.inj this
                  have hop := opI_open (List.mem_of_getElem? HX.out.2.2.1)
                  have hxg : x ∈ gs := by
                    rw [HX.out.1]
                    unfold gAt
                    have : i < gs.length := by rw [H.out.glen]; exact HX.out.2.2.2
                    simp [this]
                  have hcx2 : wr.cell? ⟨g, j, none⟩ = some (.pointer (some ⟨x, 0, none⟩)) := (World.cell?_of_block (a := ⟨g, j, none⟩) (hkp.block g (by have := hb1.size; have := HHB.out.size; omega) hgn)).trans ((HHB.out.cell (p := ⟨g, j, none⟩) (by show g < _; have := hb1.size; omega)).trans hcx)
                  obtain ⟨gsh, rfl, hgsn, hgsl, hcz⟩ := HSHR.out j i hlt HX.out.2.2.1
                  have hcz2 : wr.cell? ⟨gsh, j, none⟩ = some (.int .i64 (zs.getD i 0)) := (World.cell?_of_block (a := ⟨gsh, j, none⟩) (hkp.block gsh hgsl hgsn)).trans hcz
                  have hbi := hbx i HX.out.2.2.2
                  rw [if_neg (fun hc => by have := take_not (opI_nodup s) hki; rw [hxi] at this; exact this hc.2)] at hbi
                  obtain ⟨go, hbi⟩ := hbi
                  rw [← HX.out.1, hop] at hbi
                  have hbd := chg_bd H.out.good HZB.out HX.out.2.2.2
                  have hGO := Lib.hid (show goalR zs s i = clampR (gotR zs s i) (boAt s i).1.least (boAt s i).1.most from rfl)
                  have hGT := Lib.hid (show gotR zs s i = (boAt s i).1.base + zs.getD i 0 from rfl)
                  have hCH := Lib.hid (show chgR zs s i = goalR zs s i - gotR zs s i by unfold chgR; rw [if_neg (by simp [hop])])
                  have hCT := Lib.hid (show chTo zs s (j + 1) = chTo zs s j + chgR zs s i by rw [chTo]; simp [hki, hxi])
                  obtain ⟨it, hit⟩ : ∃ it, (boAt s i).1 = it := ⟨_, rfl⟩
                  rw [hit] at hbi hGO hGT
                  have HIT := Lib.hid hit
                  obtain ⟨z, hz⟩ : ∃ z, zs.getD i 0 = z := ⟨_, rfl⟩
                  have hzb := HZB.out i
                  rw [hz] at hcz2 hGT hzb
                  obtain ⟨gt, hgt⟩ : ∃ z, gotR zs s i = z := ⟨_, rfl⟩
                  obtain ⟨gl, hgl⟩ : ∃ z, goalR zs s i = z := ⟨_, rfl⟩
                  obtain ⟨ch, hch⟩ : ∃ z, chgR zs s i = z := ⟨_, rfl⟩
                  obtain ⟨ct, hct⟩ : ∃ z, chTo zs s j = z := ⟨_, rfl⟩
                  rw [hgt] at hGO hGT hCH hbd
                  rw [hgl] at hGO hCH hbd
                  rw [hch] at hCH hCT hbd
                  rw [hct] at hCT hcb ⊢
                  have HGL := Lib.hid hgl
                  have HCH := Lib.hid hch
                  have cl := fun W => clamp_any gt it.least it.most W
                  rw [← hGO.out] at cl
                  obtain ⟨c0, c1, c2, _, _, c6, c7, _⟩ := hbi.cells
                  have f6 := Blk.frozen hbi 6
                  have f7 := Blk.frozen hbi 7
                  have hw1 : IntKind.i64.wrap (it.base + z) = gt := by have := hGT.out; rw [IntKind.wrap_i64]; omega
                  have hw2 : IntKind.i64.wrap (gl - gt) = ch := by have := hCH.out; rw [IntKind.wrap_i64]; omega
                  have hw3 : IntKind.i64.wrap (ct + ch) = ct + ch := by rw [IntKind.wrap_i64]; omega
                  have HBX : Aside _ := hbx
                  have HKP := Lib.hid hkp
                  have HBI := Lib.hid hbi
                  have HOPN := Lib.hid hop
                  clear hit hz hgt hgl hch hct hbx hkp hbi hop hcz hcx
                  go_wp2_with fail
                  go_quiet (fail)
                  obtain ⟨wq, hwq⟩ : ∃ W, wr.drewN nq = W := ⟨_, rfl⟩
                  have HWQ := Lib.hid hwq
                  have d1 : wq.cell? ⟨x, 1, none⟩ = some (.int .i64 it.least) := by rw [← hwq]; exact c1
                  have d2 : wq.cell? ⟨x, 2, none⟩ = some (.int .i64 it.most) := by rw [← hwq]; exact c2
                  have d6 : wq.cell? ⟨x, 6, none⟩ = some (.int .i64 (szOf (boAt s i))) := by rw [← hwq]; exact c6
                  have d7 : wq.cell? ⟨x, 7, none⟩ = some (.int .i64 go) := by rw [← hwq]; exact c7
                  have e6 : wq.frozen? ⟨x, 6, none⟩ = false := by rw [← hwq]; exact f6
                  have e7 : wq.frozen? ⟨x, 7, none⟩ = false := by rw [← hwq]; exact f7
                  rw [hwq]
                  clear hwq c0 c1 c2 c6 c7 f6 f7
                  go_wp2_with fail
                  refine wp_region_still_tail 15 (by kernel_rfl) (by kernel_rfl) ?_
                  simp only [List.take_succ_cons, List.take_zero, List.drop_succ_cons, List.drop_zero]
                  repeat still_step
                  still_call ((cl _).mono fun _ _ h => ⟨h.1, h.2.symm⟩)
                  repeat still_step
                  refine wpStill_nil ?_
                  go_wp2_with fail
                  go_roundw
                  case rel =>
                    have hbq : BoxB wq x it (szOf (boAt s i)) go false := by rw [← HWQ.out]; exact HBI.out
                    have hbf : BoxB ((wq.setCell ⟨x, 7, none⟩ (.int .i64 gl)).setCell ⟨x, 6, none⟩ (.int .i64 ch)) x it ch gl false := (BoxB.goal hbq gl).size ch
                    have hgx : gAt gs (opI s)[j] = x := by rw [hxi, HX.out.1]
                    have hst := Box3.step (w' := (wq.setCell ⟨x, 7, none⟩ (.int .i64 gl)).setCell ⟨x, 6, none⟩ (.int .i64 ch)) HBX.out H.out.nodup H.out.glen hki (by rw [hgx, hxi, HIT.out, HGL.out, HCH.out]; exact hbf) (fun g _ hne => by
                      rw [hgx] at hne
                      rw [Below.heap_setCell _ ⟨x, 6, none⟩ _ g hne, Below.heap_setCell _ ⟨x, 7, none⟩ _ g hne, ← HWQ.out]
                      rfl)
                    have hkq : Kept gs w3 wq := by rw [← HWQ.out]; exact HKP.out.drewN nq
                    exact ⟨j + 1, by omega, by go_num, by rw [hCT.out], hst, ((hkq.setCell (p := ⟨x, 7, none⟩) hxg (.int .i64 gl)).setCell (p := ⟨x, 6, none⟩) hxg (.int .i64 ch)).drewN 1⟩
                  case measure => simp [intOf]; omega
                · obtain rfl : j = k := by omega
                  have hltz : ¬ (j : Int) < (j : Int) := by omega
                  have hca : chTo zs s j = sumR zs s s.length := by rw [← chTo_all, HM.out]
                  rw [hca] at hcb ⊢
                  have hb4 : Box4 wr gs s zs (sumR zs s s.length) 0 := Box3.to4 (by rw [HM.out]; exact hbx)
                  obtain ⟨cs, hcs⟩ : ∃ cs, sumR zs s s.length = cs := ⟨_, rfl⟩
                  rw [hcs] at hb4 hcb ⊢
                  have HCS := Lib.hid hcs
                  clear hca hcs hbx
                  go_wp2_with fail
                  go_loopw [123] (Rd4 s gs zs cs j w3) (fun i _ => j - (intOf i).toNat)
                  case atStart => exact ⟨0, by omega, rfl, hb4, hkp⟩
                  case round =>
                    clear hb4 hkp
                    obtain ⟨k, hk, rfl, hbx, hkp⟩ := hrel
                    by_cases hlt : k < j
                    · have hltz : (k : Int) < (j : Int) := by omega
                      obtain ⟨g, x, i, rfl, hcx, hgb, hgn, HX⟩ := HOP.out k hlt
                      have hki : k < (opI s).length := by rw [HM.out]; exact hlt
                      have hxi : (opI s)[k] = i := by have := HX.out.2.2.1; rw [List.getElem?_eq_getElem hki] at this; exact Option.some.inj this
                      have hop := opI_open (List.mem_of_getElem? HX.out.2.2.1)
                      have hxg : x ∈ gs := by
                        rw [HX.out.1]
                        unfold gAt
                        have : i < gs.length := by rw [H.out.glen]; exact HX.out.2.2.2
                        simp [this]
                      have hcx2 : wr.cell? ⟨g, k, none⟩ = some (.pointer (some ⟨x, 0, none⟩)) := (World.cell?_of_block (a := ⟨g, k, none⟩) (hkp.block g (by have := hb1.size; have := HHB.out.size; omega) hgn)).trans ((HHB.out.cell (p := ⟨g, k, none⟩) (by show g < _; have := hb1.size; omega)).trans hcx)
                      have hbi := hbx i HX.out.2.2.2
                      rw [if_pos ⟨hop, (fun hc => by have := take_not (opI_nodup s) hki; rw [hxi] at this; exact this hc)⟩] at hbi
                      have hgx : gAt gs (opI s)[k] = x := by rw [hxi, HX.out.1]
                      rw [← HX.out.1] at hbi
                      have hsz := szOf_open hop
                      obtain ⟨it, hit⟩ : ∃ it, (boAt s i).1 = it := ⟨_, rfl⟩
                      rw [hit] at hbi hsz
                      obtain ⟨gl, hgl⟩ : ∃ z, goalR zs s i = z := ⟨_, rfl⟩
                      obtain ⟨ch, hch⟩ : ∃ z, chgR zs s i = z := ⟨_, rfl⟩
                      rw [hgl, hch] at hbi
                      have HYES := Lib.hid (fun (h : settles cs ch = true) => show nextAt zs s cs i = (it, some gl) by rw [nextAt_yes hop (by rw [hch]; exact h), hit, hgl])
                      have HNO := Lib.hid (fun (h : settles cs ch = false) => nextAt_no (c := cs) hop (by rw [hch]; exact h))
                      have HIT := Lib.hid hit
                      have HSZ := Lib.hid hsz
                      have HOPN := Lib.hid hop
                      have HXI := Lib.hid hxi
                      have HGX := Lib.hid hgx
                      obtain ⟨c0, _, _, _, _, c6, c7, c8⟩ := hbi.cells
                      have f6 := Blk.frozen hbi 6
                      have f8 := Blk.frozen hbi 8
                      have HBX : Aside _ := hbx
                      have HKP := Lib.hid hkp
                      have HBI := Lib.hid hbi
                      have hfin : ∀ (w' : World) (sz go : Int) (st : Bool), BoxB w' x it sz go st → (∀ g, g < wr.heap.size → g ≠ x → w'.heap[g]? = wr.heap[g]?) → szOf (nextAt zs s cs i) = sz → (nextAt zs s cs i).2.isSome = st → Box4 w' gs s zs cs (k + 1) := fun w' sz go st h1 h2 h3 h4 =>
                        Box4.step HBX.out H.out.nodup H.out.glen hki (by rw [HGX.out, HXI.out, HIT.out, h3, h4]; exact ⟨go, h1⟩) (fun g hg hne => h2 g hg (by rw [HGX.out] at hne; exact hne))
                      have HFIN : Aside _ := hfin
                      clear hit hgl hch hbx hkp hbi hop hcx hsz hxi hgx hfin
                      have h5 : ((cs == 0) = true) ∨ ((cs == 0) = false ∧ 0 < cs ∧ 0 < ch) ∨ ((cs == 0) = false ∧ 0 < cs ∧ ¬ 0 < ch) ∨ ((cs == 0) = false ∧ ¬ 0 < cs ∧ cs < 0 ∧ ch < 0) ∨ ((cs == 0) = false ∧ ¬ 0 < cs ∧ cs < 0 ∧ ¬ ch < 0) := by
                        rcases Int.lt_trichotomy cs 0 with h | h | h
                        · have : (cs == 0) = false := by simp; omega
                          by_cases h' : ch < 0
                          · exact Or.inr (Or.inr (Or.inr (Or.inl ⟨this, by omega, h, h'⟩)))
                          · exact Or.inr (Or.inr (Or.inr (Or.inr ⟨this, by omega, h, h'⟩)))
                        · exact Or.inl (by simp [h])
                        · have : (cs == 0) = false := by simp; omega
                          by_cases h' : 0 < ch
                          · exact Or.inr (Or.inl ⟨this, h, h'⟩)
                          · exact Or.inr (Or.inr (Or.inl ⟨this, h, h'⟩))
                      rcases h5 with t1 | ⟨t1, t2, t3⟩ | ⟨t1, t2, t3⟩ | ⟨t1, t2, t3, t4⟩ | ⟨t1, t2, t3, t4⟩
                      · have HS := Lib.hid (show settles cs ch = true by simp only [settles, decide_eq_true_eq]; simp at t1; omega)
                        go_wp2_with fail
                        go_roundw
                        case rel =>
                          refine ⟨k + 1, by omega, by go_num, HFIN.out _ gl gl true ?_ ?_ ?_ ?_, ?_⟩
                          · first
                            | exact BoxB.settle (BoxB.size HBI.out gl) true
                            | exact BoxB.settle (BoxB.size (BoxB.size HBI.out it.base) gl) true
                          · intro g hg hne
                            repeat rw [Below.heap_setCell _ _ _ g hne]
                          · rw [HYES.out HS.out]; rfl
                          · rw [HYES.out HS.out]; rfl
                          · first
                            | exact (HKP.out.setCell (p := ⟨x, 6, none⟩) hxg _).setCell (p := ⟨x, 8, none⟩) hxg _
                            | exact ((HKP.out.setCell (p := ⟨x, 6, none⟩) hxg _).setCell (p := ⟨x, 6, none⟩) hxg _).setCell (p := ⟨x, 8, none⟩) hxg _
                        case measure => simp [intOf]; omega
                      · have HS := Lib.hid (show settles cs ch = true by simp only [settles, decide_eq_true_eq]; simp at t1; omega)
                        go_wp2_with fail
                        go_roundw
                        case rel =>
                          refine ⟨k + 1, by omega, by go_num, HFIN.out _ gl gl true ?_ ?_ ?_ ?_, ?_⟩
                          · first
                            | exact BoxB.settle (BoxB.size HBI.out gl) true
                            | exact BoxB.settle (BoxB.size (BoxB.size HBI.out it.base) gl) true
                          · intro g hg hne
                            repeat rw [Below.heap_setCell _ _ _ g hne]
                          · rw [HYES.out HS.out]; rfl
                          · rw [HYES.out HS.out]; rfl
                          · first
                            | exact (HKP.out.setCell (p := ⟨x, 6, none⟩) hxg _).setCell (p := ⟨x, 8, none⟩) hxg _
                            | exact ((HKP.out.setCell (p := ⟨x, 6, none⟩) hxg _).setCell (p := ⟨x, 6, none⟩) hxg _).setCell (p := ⟨x, 8, none⟩) hxg _
                        case measure => simp [intOf]; omega
                      · have HS := Lib.hid (show settles cs ch = false by simp only [settles, decide_eq_false_iff_not]; simp at t1; omega)
                        go_wp2_with fail
                        go_roundw
                        case rel =>
                          refine ⟨k + 1, by omega, by go_num, HFIN.out _ it.base gl false ?_ ?_ ?_ ?_, ?_⟩
                          · exact BoxB.size HBI.out it.base
                          · intro g hg hne
                            rw [Below.heap_setCell _ _ _ g hne]
                          · rw [HNO.out HS.out, HSZ.out]
                          · rw [HNO.out HS.out, HOPN.out]
                          · exact HKP.out.setCell (p := ⟨x, 6, none⟩) hxg _
                        case measure => simp [intOf]; omega
                      · have HS := Lib.hid (show settles cs ch = true by simp only [settles, decide_eq_true_eq]; simp at t1; omega)
                        go_wp2_with fail
                        go_roundw
                        case rel =>
                          refine ⟨k + 1, by omega, by go_num, HFIN.out _ gl gl true ?_ ?_ ?_ ?_, ?_⟩
                          · first
                            | exact BoxB.settle (BoxB.size HBI.out gl) true
                            | exact BoxB.settle (BoxB.size (BoxB.size HBI.out it.base) gl) true
                          · intro g hg hne
                            repeat rw [Below.heap_setCell _ _ _ g hne]
                          · rw [HYES.out HS.out]; rfl
                          · rw [HYES.out HS.out]; rfl
                          · first
                            | exact (HKP.out.setCell (p := ⟨x, 6, none⟩) hxg _).setCell (p := ⟨x, 8, none⟩) hxg _
                            | exact ((HKP.out.setCell (p := ⟨x, 6, none⟩) hxg _).setCell (p := ⟨x, 6, none⟩) hxg _).setCell (p := ⟨x, 8, none⟩) hxg _
                        case measure => simp [intOf]; omega
                      · have HS := Lib.hid (show settles cs ch = false by simp only [settles, decide_eq_false_iff_not]; simp at t1; omega)
                        go_wp2_with fail
                        go_roundw
                        case rel =>
                          refine ⟨k + 1, by omega, by go_num, HFIN.out _ it.base gl false ?_ ?_ ?_ ?_, ?_⟩
                          · exact BoxB.size HBI.out it.base
                          · intro g hg hne
                            rw [Below.heap_setCell _ _ _ g hne]
                          · rw [HNO.out HS.out, HSZ.out]
                          · rw [HNO.out HS.out, HOPN.out]
                          · exact HKP.out.setCell (p := ⟨x, 6, none⟩) hxg _
                        case measure => simp [intOf]; omega
                    · obtain rfl : k = j := by omega
                      have hltz : ¬ (k : Int) < (k : Int) := by omega
                      have hend : Boxes wr gs (nextR zs s) := Box4.end_ (by rw [HCS.out, HM.out]; exact hbx)
                      have HEND := Lib.hid hend
                      have HKP := Lib.hid hkp
                      clear hbx hend hkp
                      go_wp2_with fail
                      go_ret
                      refine ⟨by rw [HLF.out, HFIT.out]; rfl, ?_, fun _ => ?_⟩
                      · exact (Kept.of_below hb1).trans ((Kept.of_below HHB.out).trans HKP.out)
                      · rw [HLF.out, ← HZS.out]
                        exact HEND.out

end Go.Proofs.Ytbhdolghokhfnaa
