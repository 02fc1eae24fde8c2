/-
  Walk: the law FlexibleAlike.
-/
import Derived.Test.YtbhdolghokhfnaaAwake16
import Derived.Test.YtbhdolghokhfnaaHeldQ
import Derived.Test.YtbhdolghokhfnaaAlikePlain2
import Derived.Test.YtbhdolghokhfnaaItemArg
namespace Go.Proofs.Ytbhdolghokhfnaa
open Go.ChangeShapes Go.WideShapes Go.ChangeAt Go.RowKit

set_option maxRecDepth 100000 in
theorem arg_item {H : Type} {enc : TypeId × Value → H} {W : World} {base : Nat} {v : Value} {d : DataW H} {p : List MemPlace}
    (hv : Value.okWide Try.prog W .any base 39 v) (ht : DataW.Trod enc Try.prog W 0 (fun _ => true) true 39 v d p) : ∃ x : It, v = x.val := by
  obtain ⟨cs, rfl, hsz⟩ := okWide_struct Try.underlying39 hv
  rw [Try.cellsItem] at hsz
  obtain ⟨fuel, hf⟩ := ht
  obtain ⟨l⟩ := cs
  match l, hsz with
  | [c0, c1, c2, c3, c4, c5], _ =>
    obtain ⟨xs, m, rfl, _, _, hxl, hf⟩ := DataW.trod_struct Try.underlying39 hf
    match xs, hxl with
    | [y0, y1, y2, y3, y4, y5], _ =>
      have g0 := hf 0 _ rfl
      have g1 := hf 1 _ rfl
      have g2 := hf 2 _ rfl
      have g3 := hf 3 _ rfl
      have g4 := hf 4 _ rfl
      have g5 := hf 5 _ rfl
      simp [Try.cellsIntI, Value.cells] at g0 g1 g2 g3 g4 g5
      obtain ⟨n0, e0, _, _⟩ := DataW.trod_int Try.underlying3 g0
      obtain ⟨n1, e1, _, _⟩ := DataW.trod_int Try.underlying3 g1
      obtain ⟨n2, e2, _, _⟩ := DataW.trod_int Try.underlying3 g2
      obtain ⟨n3, e3, _, _⟩ := DataW.trod_int Try.underlying3 g3
      obtain ⟨n4, e4, _, _⟩ := DataW.trod_int Try.underlying3 g4
      obtain ⟨n5, e5, _, _⟩ := DataW.trod_int Try.underlying3 g5
      simp at e0 e1 e2 e3 e4 e5
      subst e0 e1 e2 e3 e4 e5
      exact ⟨⟨n0, n1, n2, n3, n4, n5⟩, rfl⟩

/-- 'out = append(out, x)': the one box lies in a new block of its own. -/
theorem append_box {ops : Array Oper} {rest : List Oper} {o : Oper} {a : Act} {Q : Exit → Act → World → Prop} (w : World) (t : It) (hgd : o.guard = none) (s x : Operand)
    (ho : o.op = .call { callee := .builtin .append, args := #[s, x], argTypes := #[33, 33] })
    (base : Nat) (v : Value) (L : List It) (hs : a.eval s = v) (hown : OwnsT w base v L)
    (hx : a.eval x = .slice (some ⟨w.heap.size, 0, none⟩) 1 1)
    (h47 : L.length < 100000) (hbase : base ≤ w.heap.size)
    (h : ∀ v' w', OwnsT w' base v' (L ++ [t]) → Below base w w' → wpList Try.prog ops Q rest (a.put o.dst v') w') :
    wpList Try.prog ops Q (o :: rest) a (w.alloc (.cells #[.int .i64 t.base, .int .i64 t.least, .int .i64 t.most, .int .i64 t.grow, .int .i64 t.shrink, .int .i64 t.outer] 39)) := by
  have hb : Items (w.alloc (.cells #[.int .i64 t.base, .int .i64 t.least, .int .i64 t.most, .int .i64 t.grow, .int .i64 t.shrink, .int .i64 t.outer] 39)) (w.heap.size + 1) (.slice (some ⟨w.heap.size, 0, none⟩) 1 1) [t] := Items.built w [t] (w.heap.size + 1) (Nat.lt_succ_self _)
  refine append_items _ hgd s x ho base v L hs (hown.alloc _) (w.heap.size + 1) _ [t] hx hb (by simp; omega) (by simp; omega) ?_
  intro v' w' h1 _ h2
  exact h v' w' h1 (((Below.refl base w).alloc hbase _).trans h2)

/-! Plain. -/
theorem outs_bd {l : List It} {gap room : Int} {out : List Int} (P : NearP l gap room) (F : SizesF l gap room out) {i : Nat} (hi : i < l.length) : 0 ≤ outI out i ∧ outI out i ≤ 1099511627776 := by
  obtain ⟨g, hg⟩ := F.bnd i hi
  have N := P.it i hi
  have := N.l0
  have := N.l1
  have := N.m0
  have := N.m1
  unfold clampR at hg
  omega
def WaA (n : Nat) (w : World) (i : Value) (wr : World) : Prop := ∃ k : Nat, k ≤ n ∧ i = .int .i64 k ∧ Below w.heap.size w wr
def alI (x : It) : It := ⟨x.base, 0, 1099511627776, x.grow, x.shrink, x.outer⟩
structure AlC (x : It) (many room : Int) : Prop where
  m0 : ¬ many < 1
  m1 : ¬ 50 < many
  r0 : ¬ room < 0
  r1 : ¬ 68719476736 < room
  b0 : ¬ x.base < 0
  b1 : ¬ 268435456 < x.base
  g0 : ¬ x.grow < 0
  g1 : ¬ 1000 < x.grow
  s0 : ¬ x.shrink < 0
  s1 : ¬ 1000 < x.shrink
  o0 : ¬ x.outer < 0
  o1 : ¬ 268435456 < x.outer
theorem al_near {x : It} {room : Int} {n : Nat} (C : AlC x n room) : NearP (List.replicate n (alI x)) 0 room := by
  have := C.m1
  have := C.r0
  have := C.r1
  have := C.b0
  have := C.b1
  have := C.g0
  have := C.g1
  have := C.s0
  have := C.s1
  have := C.o0
  have := C.o1
  refine ⟨by rw [List.length_replicate]; omega, by omega, by omega, by omega, by omega, fun i hi => ?_⟩
  rw [rep_at (by simpa using hi)]
  unfold alI
  exact ⟨by dsimp only; omega, by dsimp only; omega, by dsimp only; omega, by dsimp only; omega, by dsimp only; omega, by dsimp only; omega, by dsimp only; omega, by dsimp only; omega, by dsimp only; omega, by dsimp only; omega, by dsimp only; omega, by dsimp only; omega⟩
def AlA (y : It) (n b : Nat) (w : World) (vs i : Value) (wr : World) : Prop := ∃ k : Nat, k ≤ n ∧ i = .int .i64 k ∧ OwnsT wr b vs (List.replicate k y) ∧ Below b w wr

set_option maxRecDepth 100000 in
set_option maxHeartbeats 8000000 in
theorem alike16_main (x : It) (many room : Int) (w : World) (C : AlC x many room) :
    LawReturns 11 #[x.val, .int .i64 many, .int .i64 room] w := by
  have m0 := C.m0
  have m1 := C.m1
  obtain ⟨n, rfl⟩ : ∃ n : Nat, many = n := ⟨many.toNat, by omega⟩
  have P := al_near C
  obtain ⟨out, hout, F⟩ := sizes_facts P
  have hol := F.len
  rw [List.length_replicate] at hol
  have r0 := C.r0
  have r1 := C.r1
  have b0 := C.b0
  have b1 := C.b1
  have g0 := C.g0
  have g1 := C.g1
  have s0 := C.s0
  have s1 := C.s1
  have o0 := C.o0
  have o1 := C.o1
  have hn1 : 0 < n := by omega
  have HD := Lib.hid (fun i (hi : i < n) => alike_d hn1 P F hout rfl rfl (by omega) (by omega) hi)
  have HB := Lib.hid (fun i (hi : i < n) => outs_bd P F (i := i) (by rw [List.length_replicate]; exact hi))
  unfold LawReturns
  have sz := fun vs b W (hb : Items W b vs (List.replicate n (alI x))) (hs : b ≤ W.heap.size) => sizes_any (List.replicate n (alI x)) 0 room vs _ W hb hs
  have fi := fun vs b W (hb : Items W b vs (List.replicate n (alI x))) (hs : b ≤ W.heap.size) => first16_any (List.replicate n (alI x)) 0 room P vs _ W hb hs
  unfold SizesPost at sz
  rw [hout] at sz
  have HSZ : Aside _ := sz
  obtain ⟨grow, hgrow⟩ : ∃ b, growR (List.replicate n (alI x)) 0 room = b := ⟨_, rfl⟩
  rw [hgrow] at fi HD
  obtain ⟨al, hal⟩ : ∃ b, allR (List.replicate n (alI x)) 0 = b := ⟨_, rfl⟩
  rw [hal] at fi
  have HFI : Aside _ := fi
  have HOL := Lib.hid hol
  clear C P F hout hol sz fi hgrow hal
  obtain ⟨bs, le, mo, gr, sh, ou⟩ := x
  dsimp only at b0 b1 g0 g1 s0 s1 o0 o1
  obtain ⟨y, hy⟩ : ∃ y : It, alI ⟨bs, le, mo, gr, sh, ou⟩ = y := ⟨_, rfl⟩
  rw [hy] at HSZ HFI
  have HY := Lib.hid (show y = ⟨bs, 0, 1099511627776, gr, sh, ou⟩ by rw [← hy]; rfl)
  clear hy
  unfold It.val
  dsimp only
  have hbx : Below w.heap.size w (w.alloc (.cells #[.int .i64 bs, .int .i64 le, .int .i64 mo, .int .i64 gr, .int .i64 sh, .int .i64 ou] 39)) := (Below.refl _ _).alloc (Nat.le_refl _) _
  have hsx : (w.alloc (.cells #[.int .i64 bs, .int .i64 le, .int .i64 mo, .int .i64 gr, .int .i64 sh, .int .i64 ou] 39)).heap.size = w.heap.size + 1 := World.size_alloc _ _
  have hKx : Blk (w.alloc (.cells #[.int .i64 bs, .int .i64 le, .int .i64 mo, .int .i64 gr, .int .i64 sh, .int .i64 ou] 39)) w.heap.size 39 #[.int .i64 bs, .int .i64 le, .int .i64 mo, .int .i64 gr, .int .i64 sh, .int .i64 ou] := Blk.new _ _ _
  go_enter Try.func11, Try.ntmps11
  go_wp2_with fail
  generalize w.alloc (.cells #[.int .i64 bs, .int .i64 le, .int .i64 mo, .int .i64 gr, .int .i64 sh, .int .i64 ou] 39) = wx at *
  obtain ⟨xb, hxb⟩ : ∃ x, w.heap.size = x := ⟨_, rfl⟩
  rw [hxb] at hKx hsx hbx ⊢
  have HXB := Lib.hid hxb
  clear hxb
  refine (awake16 wx).mono ?_
  rintro e w1 ⟨rfl, h1⟩
  have hK1 := Blk.below hKx h1 (by omega)
  have hb1 : Below xb w w1 := hbx.trans (h1.mono (by omega))
  have hl1 := Blk.lt hK1
  obtain ⟨e0, e1, e2, e3, e4, e5⟩ : w1.cell? ⟨xb, 0, none⟩ = some (.int .i64 bs) ∧ w1.cell? ⟨xb, 1, none⟩ = some (.int .i64 le) ∧ w1.cell? ⟨xb, 2, none⟩ = some (.int .i64 mo) ∧ w1.cell? ⟨xb, 3, none⟩ = some (.int .i64 gr) ∧ w1.cell? ⟨xb, 4, none⟩ = some (.int .i64 sh) ∧ w1.cell? ⟨xb, 5, none⟩ = some (.int .i64 ou) :=
    ⟨Blk.cell hK1 0, Blk.cell hK1 1, Blk.cell hK1 2, Blk.cell hK1 3, Blk.cell hK1 4, Blk.cell hK1 5⟩
  have q1 := Blk.frozen hK1 1
  have q2 := Blk.frozen hK1 2
  have hK2 : Blk ((w1.setCell ⟨xb, 1, none⟩ (.int .i64 0)).setCell ⟨xb, 2, none⟩ (.int .i64 1099511627776)) xb 39 #[.int .i64 bs, .int .i64 0, .int .i64 1099511627776, .int .i64 gr, .int .i64 sh, .int .i64 ou] := by
    have := Blk.set_ (Blk.set_ hK1 1 (.int .i64 0)) 2 (.int .i64 1099511627776)
    simpa using this
  have hb2 : Below xb w ((w1.setCell ⟨xb, 1, none⟩ (.int .i64 0)).setCell ⟨xb, 2, none⟩ (.int .i64 1099511627776)) := (hb1.setCell (p := ⟨xb, 1, none⟩) (Nat.le_refl _) _).setCell (p := ⟨xb, 2, none⟩) (Nat.le_refl _) _
  clear hKx hbx hsx h1
  have p1 : ¬ (n : Int) < 1 := by omega
  have p2 : ¬ (50 : Int) < (n : Int) := by omega
  go_wp2_with fail
  clear e0 e1 e2 e3 e4 e5 q1 q2 hK1 hb1 hl1
  generalize (w1.setCell ⟨xb, 1, none⟩ (.int .i64 0)).setCell ⟨xb, 2, none⟩ (.int .i64 1099511627776) = w2 at *
  have hl2 := Blk.lt hK2
  have hs2 := hb2.size
  have hn100 : n ≤ 50 := by omega
  go_loopw [7, 8] (AlA y n w2.heap.size w2) (fun _ i _ => n - (intOf i).toNat)
  case atStart => exact ⟨0, by omega, rfl, OwnsT.nil _ _, Below.refl _ _⟩
  case round =>
    obtain ⟨k, hk, rfl, hown, hbr⟩ := hrel
    have hbs := hbr.size
    by_cases hlt : k < n
    · have hltz : (k : Int) < (n : Int) := by omega
      have hKr := Blk.below hK2 hbr hl2
      obtain ⟨e0, e1, e2, e3, e4, e5⟩ : wr.cell? ⟨xb, 0, none⟩ = some (.int .i64 bs) ∧ wr.cell? ⟨xb, 1, none⟩ = some (.int .i64 0) ∧ wr.cell? ⟨xb, 2, none⟩ = some (.int .i64 1099511627776) ∧ wr.cell? ⟨xb, 3, none⟩ = some (.int .i64 gr) ∧ wr.cell? ⟨xb, 4, none⟩ = some (.int .i64 sh) ∧ wr.cell? ⟨xb, 5, none⟩ = some (.int .i64 ou) :=
        ⟨Blk.cell hKr 0, Blk.cell hKr 1, Blk.cell hKr 2, Blk.cell hKr 3, Blk.cell hKr 4, Blk.cell hKr 5⟩
      have hlk : (List.replicate k y).length < 100000 := by rw [List.length_replicate]; omega
      have HT := Lib.hid (show List.replicate (k + 1) y = List.replicate k y ++ [⟨bs, 0, 1099511627776, gr, sh, ou⟩] by rw [List.replicate_succ', HY.out])
      clear hKr
      go_wp2_with (at_builtin; refine append_box wr ⟨bs, 0, 1099511627776, gr, sh, ou⟩ rfl _ _ rfl w2.heap.size u7 _ rfl hown rfl hlk hbs ?_; intro v3 w3 hown3 hb3)
      go_roundw
      case rel => exact ⟨k + 1, hlt, by go_num, by rw [HT.out]; exact hown3, hbr.trans hb3⟩
      case measure => simp [intOf]; omega
    · obtain rfl : k = n := by omega
      have hltz : ¬ (k : Int) < (k : Int) := by omega
      have hb2r : Below xb w wr := hb2.trans (hbr.mono (by omega))
      obtain ⟨Al, cl, hvl, hcl, _⟩ := hown.items
      have hIl := hown.items
      rw [List.length_replicate] at hvl hcl
      subst hvl
      go_wp2_with fail
      refine (HSZ.out _ _ _ hIl (Nat.le_refl _)).mono ?_
      rintro e w3 ⟨v3, rfl, ho3, h3⟩
      obtain ⟨A3, c3, hv3, hc3, _⟩ := ho3.ints
      subst hv3
      have HO3 := Lib.hid ho3
      rw [HOL.out] at hc3 ⊢
      have hI3 := (hown.below h3).items
      have hb3 : Below xb w w3 := hb2r.trans (h3.mono (by omega))
      have hs3 := h3.size
      have hcell3 : ∀ i, i < k → ∃ g, A3 = some ⟨g, 0, none⟩ ∧ g < w3.heap.size ∧ w3.cell? ⟨g, i, none⟩ = some (.int .i64 (outI out i)) := fun i hi => by
        obtain ⟨g, cap, e, _, _, hl, hcc, _⟩ := HO3.out.openI (by rw [HOL.out]; omega)
        injection e with e _ _
        refine ⟨g, e, hl, ?_⟩
        rw [hcc i (by rw [HOL.out]; exact hi)]
        simp [outI, HOL.out, hi]
      have HC3 : Aside _ := hcell3
      clear hcell3 h3 ho3 hIl hown
      go_wp2_with fail
      refine (HFI.out _ _ _ hI3 (Nat.le_refl _)).mono ?_
      clear hI3
      rintro e w4 ⟨rfl, h4⟩
      have hb4 : Below xb w w4 := hb3.trans (h4.mono (by omega))
      have H4 := Lib.hid h4
      have hs4 := h4.size
      clear h4
      obtain ⟨g0', hA0, hg0w, hc0⟩ := HC3.out 0 hn1
      subst hA0
      have hc04 := (H4.out.cell (p := ⟨g0', 0, none⟩) hg0w).trans hc0
      obtain ⟨o0v, ho0v⟩ : ∃ z, outI out 0 = z := ⟨_, rfl⟩
      rw [ho0v] at hc04 HD
      have hob0 := HB.out 0 hn1
      rw [ho0v] at hob0
      clear hc0 ho0v
      go_wp2_with fail
      go_loopw [13] (WaA k w4) (fun i _ => k - (intOf i).toNat)
      case atStart => exact ⟨0, by omega, rfl, Below.refl _ _⟩
      case round =>
        obtain ⟨i, hi, rfl, hbr3⟩ := hrel
        by_cases hli : i < k
        · have hliz : (i : Int) < (k : Int) := by omega
          have hlz : (0 : Int) < (k : Int) := by omega
          obtain ⟨g3, hA3, hgw3, cg3⟩ := HC3.out i hli
          injection hA3 with hA3
          injection hA3 with hA3
          subst hA3
          have cg2 := (hbr3.cell (p := ⟨g0', i, none⟩) (by show g0' < _; omega)).trans ((H4.out.cell (p := ⟨g0', i, none⟩) hgw3).trans cg3)
          have cg0 := (hbr3.cell (p := ⟨g0', 0, none⟩) (by show g0' < _; omega)).trans hc04
          obtain ⟨d1, d2, d3, d4⟩ := HD.out i hli
          have hob := HB.out i hli
          clear cg3
          generalize outI out i = oi at *
          obtain ⟨d, hd⟩ : ∃ z, o0v - oi = z := ⟨_, rfl⟩
          rw [hd] at d1 d2 d3 d4
          have hw : IntKind.i64.wrap (o0v - oi) = d := by rw [hd, IntKind.wrap_i64]; omega
          clear hd
          cases grow with
          | true =>
            have d5 := d3 rfl
            clear d3 d4
            go_wp2_with fail
            go_quiet (fail)
            clear hw
            go_wp2_with fail
            go_roundw
            case rel => exact ⟨i + 1, hli, by go_num, below_drewN hbr3 nq⟩
            case measure => simp [intOf]; omega
          | false =>
            have d5 := d4 rfl
            clear d3 d4
            go_wp2_with fail
            go_quiet (fail)
            clear hw
            go_wp2_with fail
            go_roundw
            case rel => exact ⟨i + 1, hli, by go_num, below_drewN hbr3 nq⟩
            case measure => simp [intOf]; omega
        · obtain rfl : i = k := by omega
          have hliz : ¬ (i : Int) < (i : Int) := by omega
          go_wp2_with fail
          go_ret
          exact ⟨rfl, by rw [HXB.out]; exact hb4.trans (hbr3.mono (by have := hb4.size; omega))⟩

set_option maxRecDepth 100000 in
set_option maxHeartbeats 8000000 in
theorem alike16_far (x : It) (many room : Int) (w : World) (hC : ¬ AlC x many room) :
    LawReturns 11 #[x.val, .int .i64 many, .int .i64 room] w := by
  unfold LawReturns
  obtain ⟨bs, le, mo, gr, sh, ou⟩ := x
  unfold It.val
  dsimp only
  have hbx : Below w.heap.size w (w.alloc (.cells #[.int .i64 bs, .int .i64 le, .int .i64 mo, .int .i64 gr, .int .i64 sh, .int .i64 ou] 39)) := (Below.refl _ _).alloc (Nat.le_refl _) _
  have hsx : (w.alloc (.cells #[.int .i64 bs, .int .i64 le, .int .i64 mo, .int .i64 gr, .int .i64 sh, .int .i64 ou] 39)).heap.size = w.heap.size + 1 := World.size_alloc _ _
  have hKx : Blk (w.alloc (.cells #[.int .i64 bs, .int .i64 le, .int .i64 mo, .int .i64 gr, .int .i64 sh, .int .i64 ou] 39)) w.heap.size 39 #[.int .i64 bs, .int .i64 le, .int .i64 mo, .int .i64 gr, .int .i64 sh, .int .i64 ou] := Blk.new _ _ _
  have aw := awake16 (w.alloc (.cells #[.int .i64 bs, .int .i64 le, .int .i64 mo, .int .i64 gr, .int .i64 sh, .int .i64 ou] 39))
  generalize hwx : w.alloc (.cells #[.int .i64 bs, .int .i64 le, .int .i64 mo, .int .i64 gr, .int .i64 sh, .int .i64 ou] 39) = wx at *
  have hcs : ∀ w1, Below wx.heap.size wx w1 → (w1.cell? ⟨w.heap.size, 0, none⟩ = some (.int .i64 bs) ∧ w1.cell? ⟨w.heap.size, 1, none⟩ = some (.int .i64 le) ∧ w1.cell? ⟨w.heap.size, 2, none⟩ = some (.int .i64 mo) ∧ w1.cell? ⟨w.heap.size, 3, none⟩ = some (.int .i64 gr) ∧ w1.cell? ⟨w.heap.size, 4, none⟩ = some (.int .i64 sh) ∧ w1.cell? ⟨w.heap.size, 5, none⟩ = some (.int .i64 ou)) ∧
      w1.frozen? ⟨w.heap.size, 1, none⟩ = false ∧ w1.frozen? ⟨w.heap.size, 2, none⟩ = false ∧ Below w.heap.size w ((w1.setCell ⟨w.heap.size, 1, none⟩ (.int .i64 0)).setCell ⟨w.heap.size, 2, none⟩ (.int .i64 1099511627776)) := fun w1 h1 => by
    have hK1 := Blk.below hKx h1 (by omega)
    have hb1 : Below w.heap.size w w1 := hbx.trans (h1.mono (by omega))
    exact ⟨⟨Blk.cell hK1 0, Blk.cell hK1 1, Blk.cell hK1 2, Blk.cell hK1 3, Blk.cell hK1 4, Blk.cell hK1 5⟩, Blk.frozen hK1 1, Blk.frozen hK1 2, (hb1.setCell (p := ⟨w.heap.size, 1, none⟩) (Nat.le_refl _) _).setCell (p := ⟨w.heap.size, 2, none⟩) (Nat.le_refl _) _⟩
  have HCS : Aside _ := hcs
  clear hcs hKx hbx hsx
  have h2 : many < 1 ∨ (¬ many < 1 ∧ 50 < many) ∨ (¬ many < 1 ∧ ¬ 50 < many ∧ room < 0) ∨ (¬ many < 1 ∧ ¬ 50 < many ∧ ¬ room < 0 ∧ 68719476736 < room) ∨ (¬ many < 1 ∧ ¬ 50 < many ∧ ¬ room < 0 ∧ ¬ 68719476736 < room ∧ bs < 0) ∨ (¬ many < 1 ∧ ¬ 50 < many ∧ ¬ room < 0 ∧ ¬ 68719476736 < room ∧ ¬ bs < 0 ∧ 268435456 < bs) ∨ (¬ many < 1 ∧ ¬ 50 < many ∧ ¬ room < 0 ∧ ¬ 68719476736 < room ∧ ¬ bs < 0 ∧ ¬ 268435456 < bs ∧ gr < 0) ∨ (¬ many < 1 ∧ ¬ 50 < many ∧ ¬ room < 0 ∧ ¬ 68719476736 < room ∧ ¬ bs < 0 ∧ ¬ 268435456 < bs ∧ ¬ gr < 0 ∧ 1000 < gr) ∨ (¬ many < 1 ∧ ¬ 50 < many ∧ ¬ room < 0 ∧ ¬ 68719476736 < room ∧ ¬ bs < 0 ∧ ¬ 268435456 < bs ∧ ¬ gr < 0 ∧ ¬ 1000 < gr ∧ sh < 0) ∨ (¬ many < 1 ∧ ¬ 50 < many ∧ ¬ room < 0 ∧ ¬ 68719476736 < room ∧ ¬ bs < 0 ∧ ¬ 268435456 < bs ∧ ¬ gr < 0 ∧ ¬ 1000 < gr ∧ ¬ sh < 0 ∧ 1000 < sh) ∨ (¬ many < 1 ∧ ¬ 50 < many ∧ ¬ room < 0 ∧ ¬ 68719476736 < room ∧ ¬ bs < 0 ∧ ¬ 268435456 < bs ∧ ¬ gr < 0 ∧ ¬ 1000 < gr ∧ ¬ sh < 0 ∧ ¬ 1000 < sh ∧ ou < 0) ∨ (¬ many < 1 ∧ ¬ 50 < many ∧ ¬ room < 0 ∧ ¬ 68719476736 < room ∧ ¬ bs < 0 ∧ ¬ 268435456 < bs ∧ ¬ gr < 0 ∧ ¬ 1000 < gr ∧ ¬ sh < 0 ∧ ¬ 1000 < sh ∧ ¬ ou < 0 ∧ 268435456 < ou) := by
    by_cases c0 : many < 1
    · exact Or.inl c0
    by_cases c1 : 50 < many
    · exact Or.inr (Or.inl ⟨c0, c1⟩)
    by_cases c2 : room < 0
    · exact Or.inr (Or.inr (Or.inl ⟨c0, c1, c2⟩))
    by_cases c3 : 68719476736 < room
    · exact Or.inr (Or.inr (Or.inr (Or.inl ⟨c0, c1, c2, c3⟩)))
    by_cases c4 : bs < 0
    · exact Or.inr (Or.inr (Or.inr (Or.inr (Or.inl ⟨c0, c1, c2, c3, c4⟩))))
    by_cases c5 : 268435456 < bs
    · exact Or.inr (Or.inr (Or.inr (Or.inr (Or.inr (Or.inl ⟨c0, c1, c2, c3, c4, c5⟩)))))
    by_cases c6 : gr < 0
    · exact Or.inr (Or.inr (Or.inr (Or.inr (Or.inr (Or.inr (Or.inl ⟨c0, c1, c2, c3, c4, c5, c6⟩))))))
    by_cases c7 : 1000 < gr
    · exact Or.inr (Or.inr (Or.inr (Or.inr (Or.inr (Or.inr (Or.inr (Or.inl ⟨c0, c1, c2, c3, c4, c5, c6, c7⟩)))))))
    by_cases c8 : sh < 0
    · exact Or.inr (Or.inr (Or.inr (Or.inr (Or.inr (Or.inr (Or.inr (Or.inr (Or.inl ⟨c0, c1, c2, c3, c4, c5, c6, c7, c8⟩))))))))
    by_cases c9 : 1000 < sh
    · exact Or.inr (Or.inr (Or.inr (Or.inr (Or.inr (Or.inr (Or.inr (Or.inr (Or.inr (Or.inl ⟨c0, c1, c2, c3, c4, c5, c6, c7, c8, c9⟩)))))))))
    by_cases c10 : ou < 0
    · exact Or.inr (Or.inr (Or.inr (Or.inr (Or.inr (Or.inr (Or.inr (Or.inr (Or.inr (Or.inr (Or.inl ⟨c0, c1, c2, c3, c4, c5, c6, c7, c8, c9, c10⟩))))))))))
    by_cases c11 : 268435456 < ou
    · exact Or.inr (Or.inr (Or.inr (Or.inr (Or.inr (Or.inr (Or.inr (Or.inr (Or.inr (Or.inr (Or.inr ⟨c0, c1, c2, c3, c4, c5, c6, c7, c8, c9, c10, c11⟩))))))))))
    exact absurd ⟨c0, c1, c2, c3, c4, c5, c6, c7, c8, c9, c10, c11⟩ hC
  clear hC
  rcases h2 with g0 | ⟨g0, g1⟩ | ⟨g0, g1, g2⟩ | ⟨g0, g1, g2, g3⟩ | ⟨g0, g1, g2, g3, g4⟩ | ⟨g0, g1, g2, g3, g4, g5⟩ | ⟨g0, g1, g2, g3, g4, g5, g6⟩ | ⟨g0, g1, g2, g3, g4, g5, g6, g7⟩ | ⟨g0, g1, g2, g3, g4, g5, g6, g7, g8⟩ | ⟨g0, g1, g2, g3, g4, g5, g6, g7, g8, g9⟩ | ⟨g0, g1, g2, g3, g4, g5, g6, g7, g8, g9, g10⟩ | ⟨g0, g1, g2, g3, g4, g5, g6, g7, g8, g9, g10, g11⟩
  all_goals
    go_enter Try.func11, Try.ntmps11
    go_wp2_with fail
    refine aw.mono ?_
    clear aw
    rintro e w1 ⟨rfl, h1⟩
    obtain ⟨⟨e0, e1, e2, e3, e4, e5⟩, q1, q2, hb⟩ := HCS.out w1 h1
    clear h1 hwx
    go_wp2_with fail
    go_ret
    exact ⟨rfl, hb⟩
theorem flexibleAlike_walk (x : It) (many room : Int) (w : World) :
    LawReturns 11 #[x.val, .int .i64 many, .int .i64 room] w := by
  by_cases hC : AlC x many room
  · exact alike16_main x many room w hC
  · exact alike16_far x many room w hC

end Go.Proofs.Ytbhdolghokhfnaa
