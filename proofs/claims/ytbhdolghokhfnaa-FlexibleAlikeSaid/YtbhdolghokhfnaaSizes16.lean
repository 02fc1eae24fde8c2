/-
  Walks: flexible.Sizes.
-/
import Derived.Test.YtbhdolghokhfnaaRoundWalk
import Derived.Test.YtbhdolghokhfnaaSizesPlain
import Derived.Test.YtbhdolghokhfnaaSizesMem
import Derived.Deep.RegionHeld3
import Derived.WalkMore
import Derived.Test.YtbhdolghokhfnaaScopeG
namespace Go.Proofs.Ytbhdolghokhfnaa
open Go.RowKit

/-- 'out = append(out, n)', with what stays told block by block. -/
theorem append_intG {ops : Array Oper} {rest : List Oper} {o : Oper} {a : Act} {Q : Exit → Act → World → Prop} (w : World) (n : Int) (hgd : o.guard = none) (s x : Operand)
    (ho : o.op = .call { callee := .builtin .append, args := #[s, x], argTypes := #[22, 22] })
    (base : Nat) (v : Value) (zs : List Int) (hs : a.eval s = v) (hown : Owns w base v zs)
    (hx : a.eval x = .slice (some ⟨w.heap.size, 0, none⟩) 1 1)
    (h47 : zs.length < 17592186044416) (hbase : base ≤ w.heap.size)
    (h : ∀ v' w', Owns w' base v' (zs ++ [n]) → w.grownBy w' v.ownBlock → wpList Try.prog ops Q rest (a.put o.dst v') w') : wpList Try.prog ops Q (o :: rest) a (w.alloc (.cells #[.int .i64 n] 3)) := by
  obtain ⟨i0, hi0, hz0, hz1, hz2⟩ := info_parts Try.infoInt
  obtain ⟨A, c, e, _, hr⟩ := Ints.built w [n] 3
  cases e
  refine wpList_append_any _ hgd s x _ ho base 3 i0 _ 1 8 Try.underlying22 hi0 hz0 hz1 hz2 rfl (by omega) v _ _ hs (World.ownsRow.alloc hown _) (w.heap.size + 1) _ 1 1 _ hx hr (oneCell_ints [n]) (by simp only [maxLen]; omega) (by omega) (by simp; omega) ?_
  intro v' w' h1 h2 _
  exact h v' w' (by simpa [Owns] using h1) ⟨h2.os, h2.tape, h2.output, Nat.le_trans (by simp) h2.size, fun i hi hne => (h2.block i (by simp; omega) hne).trans (Below.heap_alloc w _ i hi)⟩

def SizesPost (l : List It) (gap room : Int) (w : World) (e : Ending) (w' : World) : Prop :=
  ∃ v, e = .returned (.tuple #[v, .int .i64 (sizesR l gap room).2]) ∧ Owns w' w.heap.size v (sizesR l gap room).1 ∧ Below w.heap.size w w'
/-- What holds whenever the run comes to the label: the memory. -/
structure SzMem (l : List It) (gap room : Int) (w : World) (R : Int) (grow : Bool) (w' : World) (L : Nat) (vb out : Value) (gs : List Nat) (s : List Bo) : Prop where
  good : GoodS s
  len : s.length = l.length
  fuel : ∃ f, openR s < f ∧ lastR (roundsR f grow R s) = sizesR l gap room
  r1 : -9007199254740992 ≤ R
  r2 : R ≤ 9007199254740992
  glen : gs.length = l.length
  nodup : gs.Nodup
  lo : ∀ g ∈ gs, w.heap.size ≤ g
  hi : ∀ g ∈ gs, g < w'.heap.size
  line : LineB w' L vb R grow
  lout : L ∉ gs
  row : OwnsP w' w.heap.size vb gs
  rout : ∀ k, vb.ownBlock = some k → k ∉ gs
  boxes : Boxes w' gs s
  own : ∃ zs : List Int, zs.length = l.length ∧ Owns w' w.heap.size out zs
  oout : ∀ k, out.ownBlock = some k → k ∉ gs
  apart : ∀ k, out.ownBlock = some k → vb.ownBlock ≠ some k
  below : Below w.heap.size w w'
set_option maxRecDepth 100000 in
def SzJ (l : List It) (gap room : Int) (w : World) (R : Int) (grow : Bool) (g : Nat) (a' : Act) (w' : World) : Prop :=
  ∃ (L : Nat) (vb out : Value) (gs : List Nat) (s : List Bo) (u : Nat → Value), a' = { tmps := #[u 0, u 1, u 2, u 3, u 4, u 5, u 6, u 7, u 8, u 9, u 10, u 11, u 12, u 13, u 14, u 15, u 16, u 17, u 18, u 19, u 20, u 21, u 22, u 23, u 24, u 25, u 26, u 27, u 28, u 29, u 30, u 31, u 32, u 33, u 34, u 35, u 36, u 37, u 38, u 39, u 40, u 41, u 42, u 43, u 44, u 45, u 46, u 47, u 48, u 49, u 50, u 51, u 52, u 53, u 54, u 55, u 56, u 57, u 58, u 59, u 60, u 61, u 62, u 63, u 64, u 65, u 66, u 67, u 68, u 69, u 70, u 71, u 72, u 73, u 74, u 75, u 76, u 77, u 78, u 79, u 80, u 81, u 82, u 83, u 84, u 85, u 86, u 87, u 88, u 89, u 90, u 91, u 92, u 93, u 94, u 95, u 96, u 97, u 98, u 99, u 100, u 101, u 102, u 103, u 104, u 105, u 106, u 107, u 108, u 109, u 110, u 111, u 112, u 113, u 114, u 115, u 116, u 117, u 118, u 119, u 120, u 121, u 122, u 123, u 124, u 125, u 126, u 127, u 128, u 129, u 130, u 131, u 132, u 133, u 134, u 135, u 136, u 137, u 138, u 139, u 140, u 141, u 142, u 143, u 144, u 145, u 146, u 147, u 148, u 149, u 150, u 151, u 152, u 153, u 154, u 155, u 156, u 157, u 158, u 159, u 160, u 161, u 162, u 163, u 164, u 165, u 166, u 167, u 168, u 169, u 170, u 171, u 172, u 173, u 174, u 175, u 176, u 177, u 178, u 179], defers := [] } ∧ u 9 = out ∧ u 13 = ptrV L ∧ openR s = g ∧ SzMem l gap room w R grow w' L vb out gs s
theorem frame_of (n : Nat) {a : Act} (hs : a.tmps.size = n) (hd : a.defers = []) : a = { tmps := ((List.range n).map fun i => a.tmps.getD i undef).toArray, defers := [] } := by
  obtain ⟨t, d⟩ := a
  simp only at hs hd
  subst hd
  congr 1
  refine Array.ext (by simp [hs]) fun i h1 h2 => ?_
  simp [Array.getD, h1]
set_option maxRecDepth 100000 in
theorem szJ_mk {l : List It} {gap room : Int} {w : World} {R : Int} {grow : Bool} {g : Nat} {a' : Act} {w' : World} {L : Nat} {vb out : Value} {gs : List Nat} {s : List Bo}
    (hs : a'.tmps.size = 180) (hd : a'.defers = []) (h9 : a'.tmps.getD 9 undef = out) (h13 : a'.tmps.getD 13 undef = ptrV L) (ho : openR s = g) (hM : SzMem l gap room w R grow w' L vb out gs s) : SzJ l gap room w R grow g a' w' :=
  ⟨L, vb, out, gs, s, fun i => a'.tmps.getD i undef, frame_of 180 hs hd, h9, h13, ho, hM⟩
theorem roundsR_done {f : Nat} {grow : Bool} {R : Int} {s : List Bo} (h : openR s = 0) (hf : 0 < f) : roundsR f grow R s = some (s.map szOf) := by
  cases f with
  | zero => omega
  | succ f => rw [roundsR, if_pos h]
theorem roundsR_no {f : Nat} {grow : Bool} {R : Int} {s : List Bo} (h : openR s ≠ 0) (hl : fit (leftR R s) = false) : roundsR f grow R s = none := by
  cases f with
  | zero => rfl
  | succ f => rw [roundsR, if_neg h, if_neg (by simp [hl])]
theorem roundsR_yes {f : Nat} {grow : Bool} {R : Int} {s : List Bo} (h : openR s ≠ 0) (hl : fit (leftR R s) = true) : roundsR (f + 1) grow R s = roundsR f grow R (nextR (giveR grow (leftR R s) s) s) := by
  rw [roundsR, if_neg h, if_pos hl]
theorem SzMem.fits {l : List It} {gap room : Int} {w : World} {R : Int} {grow : Bool} {W : World} {L : Nat} {vb out : Value} {gs : List Nat} {s : List Bo} (h : SzMem l gap room w R grow W L vb out gs s) : (s.map szOf).all fit = true := by
  rw [List.all_eq_true]
  intro x hx
  obtain ⟨b, hb, rfl⟩ := List.mem_map.1 hx
  obtain ⟨i, hi, rfl⟩ := List.getElem_of_mem hb
  have := (h.good i hi).fz
  rwa [boAt_at hi] at this
theorem SzMem.pre {l : List It} {gap room : Int} {w : World} {R : Int} {grow : Bool} {W w4 : World} {L : Nat} {vb out v4 : Value} {gs : List Nat} {s : List Bo} (h : SzMem l gap room w R grow W L vb out gs s) (hl : l.length ≤ 2048)
    (hp : Ptrs w4 w4.heap.size v4 ((opI s).map (gAt gs))) (hb : Below W.heap.size W w4) (hx : ∀ k, v4.ownBlock = some k → W.heap.size ≤ k) : RdPre w4 gs s L vb v4 R grow where
  good := h.good
  len := by rw [h.len]; exact hl
  glen := by rw [h.glen, h.len]
  nodup := h.nodup
  lt := fun g hg => Nat.lt_of_lt_of_le (h.hi g hg) hb.size
  line := Blk.below h.line hb (Blk.lt h.line)
  lout := h.lout
  row := ((h.row.below hb).ptrs)
  rout := h.rout
  boxes := h.boxes.keep hb
  op := hp
  oout := fun k e hm => by have := h.hi k hm; have := hx k e; omega
  r1 := h.r1
  r2 := h.r2
theorem Kept.below_lo {gs : List Nat} {w W W' : World} (h0 : Below w.heap.size w W) (hk : Kept gs W W') (hlo : ∀ g ∈ gs, w.heap.size ≤ g) : Below w.heap.size w W' := h0.trans (hk.to_below h0.size hlo)
theorem OwnsP.keptG {ks : List Nat} {w w' : World} {base : Nat} {v : Value} {gs : List Nat} (h : OwnsP w base v gs) (hk : Kept ks w w') (hg : ∀ k, v.ownBlock = some k → k ∉ ks) : OwnsP w' base v gs := by
  obtain ⟨h1, h2⟩ := h
  refine ⟨h1, ?_⟩
  rcases h2 with h2 | ⟨g, cap, cur, rfl, hb, hh, r⟩
  · exact .inl h2
  · exact .inr ⟨g, cap, cur, rfl, hb, (hk.block g (Array.getElem?_eq_some_iff.1 hh).1 (hg g rfl)).trans hh, r⟩
/-- Behind a round. -/
theorem SzMem.next {l : List It} {gap room : Int} {w : World} {R : Int} {grow : Bool} {W w4 w5 : World} {L : Nat} {vb out : Value} {gs : List Nat} {s : List Bo} (h : SzMem l gap room w R grow W L vb out gs s)
    (hb : Below W.heap.size W w4) (hk : Kept gs w4 w5) (ho : openR s ≠ 0) (hf : fit (leftR R s) = true) (hbx : Boxes w5 gs (nextR (giveR grow (leftR R s) s) s)) :
    SzMem l gap room w R grow w5 L vb out gs (nextR (giveR grow (leftR R s) s) s) where
  good := h.good.next
  len := by rw [nextR_len, h.len]
  fuel := by
    obtain ⟨f, h1, h2⟩ := h.fuel
    obtain ⟨f, rfl⟩ : ∃ f', f = f' + 1 := ⟨f - 1, by omega⟩
    refine ⟨f, ?_, by rw [← roundsR_yes ho hf]; exact h2⟩
    have := openR_next (zs := giveR grow (leftR R s) s) (s := s) (by omega)
    omega
  r1 := h.r1
  r2 := h.r2
  glen := h.glen
  nodup := h.nodup
  lo := h.lo
  hi := fun g hg => by have := h.hi g hg; have := hb.size; have := hk.size; omega
  line := Blk.kept (Blk.below h.line hb (Blk.lt h.line)) hk h.lout
  lout := h.lout
  row := (h.row.below hb).keptG hk h.rout
  rout := h.rout
  boxes := hbx
  own := by
    obtain ⟨zs, h1, h2⟩ := h.own
    exact ⟨zs, h1, (h2.below hb).keptG hk h.oout⟩
  oout := h.oout
  apart := h.apart
  below := Kept.below_lo (h.below.trans (hb.mono h.below.size)) hk h.lo
/-- What a row of ints holds behind a store. -/
theorem Owns.put {w : World} {base g c : Nat} {zs : List Int} (h : Owns w base (.slice (some ⟨g, 0, none⟩) zs.length c) zs) (i : Nat) (z : Int) : Owns (w.setCell ⟨g, i, none⟩ (.int .i64 z)) base (.slice (some ⟨g, 0, none⟩) zs.length c) (zs.set i z) := by
  have h1 := (World.ownsRow.stored h i (.int .i64 z)).1
  unfold Owns
  rw [List.length_set, List.map_set]
  exact h1
theorem szMem_start {l : List It} {gap room : Int} {w w0 W : World} {L : Nat} {vb out : Value} {gs : List Nat} (hok : checkR l gap room = 0) (hr : ¬ room < 0) (hbr : Below w.heap.size w w0) (hL : w0.heap.size = L) (hown : Owns w0 w.heap.size out (l.map firstR))
    (h : SzM2 l (growR l gap room) (room - aroundR l gap) L w0 l.length vb gs W) : SzMem l gap room w (room - aroundR l gap) (growR l gap room) W L vb out gs (startS (growR l gap room) l) := by
  have C := check_ok hok
  have hsl : (startS (growR l gap room) l).length = l.length := by simp [startS]
  have hout : ∀ k, out.ownBlock = some k → k < L := fun k e => by have := (hown.lt k e).2; omega
  have hwL : w.heap.size ≤ L := by have := hbr.size; omega
  have hbel : Below w0.heap.size w0 W := by rw [hL]; exact h.below
  have ha := aroundR_eq l gap
  have g1 := gapsR_bd C.gap0 C.fgap C.len
  have g2 := outTo_bd C.good l.length (Nat.le_refl _)
  have g3 := (fit_iff _).1 C.froom
  have g4 := C.len
  refine ⟨startS_good C.good, hsl, ⟨l.length + 1, ?_, ?_⟩, by omega, by omega, h.len, h.nodup, fun g hg => by have := h.lo g hg; omega, h.hi, h.line, fun hm => by have := h.lo L hm; omega, ?_, h.rout, ?_, ⟨l.map firstR, by simp, hown.keptG (Kept.of_below hbel (gs := gs)) fun k e hm => by have := h.lo k hm; have := hout k e; omega⟩, fun k e hm => by have := h.lo k hm; have := hout k e; omega, fun k e e2 => by have := (h.row.lt k e2).1; have := hout k e; omega, hbr.trans (h.below.mono hwL)⟩
  · have : openR (startS (growR l gap room) l) ≤ (startS (growR l gap room) l).length := List.countP_le_length
    omega
  · unfold sizesR
    rw [if_neg (by simp [hok]), if_neg hr]
    rfl
  · obtain ⟨h1, h2⟩ := h.row
    refine ⟨h1, ?_⟩
    rcases h2 with h2 | ⟨g, cap, cur, e, hg, r⟩
    · exact .inl h2
    · exact .inr ⟨g, cap, cur, e, by omega, r⟩
  · intro i hi
    rw [hsl] at hi
    obtain ⟨go, hx⟩ := h.bx i hi
    rw [startS_bo hi]
    exact ⟨go, hx⟩
/-- Sizes told so far. -/
def Sz3 (w w4 : World) (out : Value) (ys : List Int) (n : Nat) (i : Value) (wr : World) : Prop :=
  ∃ k : Nat, k ≤ n ∧ i = .int .i64 k ∧ (∃ zs : List Int, zs.length = n ∧ zs.take k = ys.take k ∧ Owns wr w.heap.size out zs) ∧ (∀ b, b < w4.heap.size → (∀ q, out.ownBlock = some q → b ≠ q) → wr.heap[b]? = w4.heap[b]?) ∧ Below w.heap.size w wr
/-- First sizes, so far. -/
def Sz1 (l : List It) (G : Int) (b : Nat) (w1 : World) (out all i : Value) (wr : World) : Prop :=
  ∃ k : Nat, k ≤ l.length ∧ i = .int .i64 k ∧ Owns wr b out ((l.take k).map firstR) ∧ all = .int .i64 (G + allTo l k) ∧ Below b w1 wr

/-- So many boxes have been made. -/
def Sz2 (l : List It) (grow : Bool) (R0 : Int) (L : Nat) (w0 : World) (n : Nat) (i : Value) (wr : World) : Prop :=
  ∃ k : Nat, k ≤ n ∧ i = .int .i64 k ∧ ∃ vb gs, SzM2 l grow (R0 - outTo l k) L w0 k vb gs wr
set_option maxRecDepth 1000000 in
set_option maxHeartbeats 16000000 in
theorem sizes_good (l : List It) (gap room : Int) (v : Value) (B : Nat) (w : World) (h : Items w B v l) (hB : B ≤ w.heap.size) (hok : checkR l gap room = 0) :
    Calls Try.prog 23 #[v, .int .i64 gap, .int .i64 room] w (SizesPost l gap room w) := by
  have hch := check_any l gap room v B w h hB
  rw [hok] at hch
  have C := check_ok hok
  have HC := Lib.hid C
  obtain ⟨A, c, rfl, hc, hf⟩ := h
  obtain ⟨n, hn⟩ : ∃ n, l.length = n := ⟨_, rfl⟩
  have hn2 : n ≤ 2048 := by rw [← hn]; exact C.len
  have hit : ∀ k (hk : k < n), ∃ ad, A = some ad ∧ ad.block < B ∧ ItemAt w (ad.add (k * 6)) (itAt l k) := fun k hk => by
    obtain ⟨ad, e, hb, hh⟩ := hf (by omega)
    exact ⟨ad, e, hb, by rw [itAt_at (by omega)]; exact hh k (by omega)⟩
  have HIT : Aside _ := hit
  obtain ⟨g1, g2⟩ := (fit_iff _).1 C.fgap
  obtain ⟨r1, r2⟩ := (fit_iff _).1 C.froom
  have gap0 := C.gap0
  have gb := gapsR_bd gap0 C.fgap C.len
  obtain ⟨G, hG⟩ : ∃ G, gapsR l gap = G := ⟨_, rfl⟩
  rw [hG] at gb
  have HG := Lib.hid hG
  obtain ⟨M, hM⟩ : ∃ M : Int, M = ((n - 1 : Nat) : Int) := ⟨_, rfl⟩
  have hmx : ∀ (W : World) (ts : Array TypeId) (t : TypeId), (Builtin.max_ ts t #[.int .i64 0, .int .i64 ((n : Int) - 1)]).run Try.prog W = .ok (.int .i64 M) W := fun W ts t => by
    rw [run_max_int2]
    congr 2
    rw [hM]
    split <;> omega
  have hw0 : IntKind.i64.wrap ((n : Int) - 1) = (n : Int) - 1 := by rw [IntKind.wrap_i64]; omega
  have hMG : M * gap = G := by rw [hM, ← hG]; unfold gapsR; rw [hn]
  have hw1 : IntKind.i64.wrap (M * gap) = G := by rw [hMG, IntKind.wrap_i64]; omega
  have hw1' : wrap64 (M * gap) = G := by unfold wrap64; rw [hMG]; omega
  have HN := Lib.hid hn
  rw [hn] at hc hch ⊢
  have HOK := Lib.hid hok
  clear hf hit hG hM hMG C hok hn
  go_enter Try.func23, Try.ntmps23
  go_wp2_with fail
  refine wp_scope_ghost 0 (SzJ l gap room w (room - aroundR l gap) (growR l gap room)) rfl ?_ ?_
  · go_wp2_with fail
    refine hch.mono ?_
    clear hch
    rintro e w1 ⟨rfl, hb1⟩
    go_wp2_with fail
    go_loopw [9, 10, 35] (Sz1 l G w.heap.size w) (fun _ _ i _ => n - (intOf i).toNat)
    case atStart => exact ⟨0, by omega, rfl, Owns.nil _ _, by simp [allTo], hb1⟩
    case round =>
      obtain ⟨k, hk, rfl, hown, rfl, hbr⟩ := hrel
      have hbs := hbr.size
      rw [HN.out] at hk
      have hab := allTo_bd HC.out.good k (by have := HN.out; omega)
      by_cases hlt : k < n
      · have hltz : (k : Int) < (n : Int) := by omega
        obtain ⟨ad, rfl, hadb, hat⟩ := HIT.out k hlt
        obtain ⟨k0, k1, k2, k3, k4, k5⟩ := hat.below hbr (by rw [block_of_add]; omega)
        have hgd := HC.out.good k (by have := HN.out; omega)
        have hfb := (fit_iff _).1 hgd.first
        have hob := (fit_iff _).1 hgd.fo
        have HT := Lib.hid (show (l.take (k + 1)).map firstR = (l.take k).map firstR ++ [firstR (itAt l k)] by rw [List.take_succ_eq_append_getElem (by have := HN.out; omega), itAt_at (by have := HN.out; omega), List.map_append, List.map_singleton])
        have HA := Lib.hid (show allTo l (k + 1) = allTo l k + (firstR (itAt l k) + (itAt l k).outer) from rfl)
        have hlk : ((l.take k).map firstR).length < 17592186044416 := by simp; omega
        clear hat hgd
        generalize itAt l k = x at *
        have f1 := fun W => first_any x W
        obtain ⟨fx, hfx⟩ : ∃ z, firstR x = z := ⟨_, rfl⟩
        rw [hfx] at hfb HT HA
        simp only [hfx] at f1
        clear hfx
        obtain ⟨b, le, mo, gr, sh, ou⟩ := x
        unfold It.val at f1
        dsimp only at f1 k0 k1 k2 k3 k4 k5 hob HA
        obtain ⟨at0, hat0⟩ : ∃ z, allTo l k = z := ⟨_, rfl⟩
        rw [hat0] at hab HA ⊢
        clear hat0
        have hw2 : IntKind.i64.wrap (fx + ou) = fx + ou := by rw [IntKind.wrap_i64]; omega
        have hw3 : IntKind.i64.wrap (G + at0 + (fx + ou)) = G + at0 + (fx + ou) := by rw [IntKind.wrap_i64]; omega
        have hbA : Below wr.heap.size wr (wr.alloc (.cells #[.int .i64 b, .int .i64 le, .int .i64 mo, .int .i64 gr, .int .i64 sh, .int .i64 ou] 39)) := (Below.refl _ _).alloc (Nat.le_refl _) _
        have hsA : (wr.alloc (.cells #[.int .i64 b, .int .i64 le, .int .i64 mo, .int .i64 gr, .int .i64 sh, .int .i64 ou] 39)).heap.size = wr.heap.size + 1 := World.size_alloc _ _
        have hKA : Blk (wr.alloc (.cells #[.int .i64 b, .int .i64 le, .int .i64 mo, .int .i64 gr, .int .i64 sh, .int .i64 ou] 39)) wr.heap.size 39 #[.int .i64 b, .int .i64 le, .int .i64 mo, .int .i64 gr, .int .i64 sh, .int .i64 ou] := Blk.new _ _ _
        have hownA : Owns (wr.alloc (.cells #[.int .i64 b, .int .i64 le, .int .i64 mo, .int .i64 gr, .int .i64 sh, .int .i64 ou] 39)) w.heap.size u9 ((l.take k).map firstR) := hown.alloc _
        have hlt9 : ∀ k, u9.ownBlock = some k → k < wr.heap.size := fun k e => (hown.lt k e).2
        clear hown
        go_wp2_with fail
        generalize wr.alloc (.cells #[.int .i64 b, .int .i64 le, .int .i64 mo, .int .i64 gr, .int .i64 sh, .int .i64 ou] 39) = wA at *
        refine (f1 _).mono ?_
        rintro e w2 ⟨rfl, hb2⟩
        have hK2 := Blk.below hKA hb2 (by omega)
        have hown2 := hownA.below hb2
        have hs2 : w.heap.size ≤ w2.heap.size := by have := hb2.size; omega
        have hs3 : wr.heap.size < w2.heap.size := by have := hb2.size; omega
        go_wp2_with (at_builtin; refine append_intG _ fx rfl _ _ rfl w.heap.size u9 _ rfl hown2 rfl hlk hs2 ?_; intro v3 w3 hown3 hgr3)
        have hK3 : Blk w3 wr.heap.size 39 #[.int .i64 b, .int .i64 le, .int .i64 mo, .int .i64 gr, .int .i64 sh, .int .i64 ou] := Blk.grown hK2 hgr3 (fun e => by have := hlt9 _ e.symm; omega)
        have hb3 : Below w.heap.size w w3 := ((hbr.trans (hbA.mono hbs)).trans (hb2.mono (by omega))).trans (below_of_grown rfl hgr3 hs2 (fun k e => (hown2.lt k e).1))
        have hs4 : w2.heap.size ≤ w3.heap.size := hgr3.size
        obtain ⟨q0, q1, q2, q3, q4, q5⟩ : w3.cell? ⟨wr.heap.size, 0, none⟩ = some (.int .i64 b) ∧ w3.cell? ⟨wr.heap.size, 1, none⟩ = some (.int .i64 le) ∧ w3.cell? ⟨wr.heap.size, 2, none⟩ = some (.int .i64 mo) ∧ w3.cell? ⟨wr.heap.size, 3, none⟩ = some (.int .i64 gr) ∧ w3.cell? ⟨wr.heap.size, 4, none⟩ = some (.int .i64 sh) ∧ w3.cell? ⟨wr.heap.size, 5, none⟩ = some (.int .i64 ou) :=
          ⟨Blk.cell hK3 0, Blk.cell hK3 1, Blk.cell hK3 2, Blk.cell hK3 3, Blk.cell hK3 4, Blk.cell hK3 5⟩
        have hsl : wr.heap.size < w3.heap.size := by omega
        clear hK2 hK3 hown2 hownA hgr3 k0 k1 k2 k3 k4 k5
        obtain ⟨sb, hsb⟩ : ∃ z, wr.heap.size = z := ⟨_, rfl⟩
        rw [hsb] at q0 q1 q2 q3 q4 q5 hsl ⊢
        clear hsb hKA hsA hbA hb2 hs2 hs3
        have hd3 : Below w3.heap.size w3 w3.drew := (Below.refl _ _).drew
        have hkeep : ∀ w', Below w3.drew.heap.size w3.drew w' → w'.cell? ⟨sb, 0, none⟩ = some (.int .i64 b) ∧ w'.cell? ⟨sb, 1, none⟩ = some (.int .i64 le) ∧ w'.cell? ⟨sb, 2, none⟩ = some (.int .i64 mo) ∧ w'.cell? ⟨sb, 3, none⟩ = some (.int .i64 gr) ∧ w'.cell? ⟨sb, 4, none⟩ = some (.int .i64 sh) ∧ w'.cell? ⟨sb, 5, none⟩ = some (.int .i64 ou) := fun w' hb' => by
          have hb'' : Below w3.heap.size w3 w' := hd3.trans (hb'.mono hd3.size)
          exact ⟨(hb''.cell (p := ⟨sb, 0, none⟩) hsl).trans q0, (hb''.cell (p := ⟨sb, 1, none⟩) hsl).trans q1, (hb''.cell (p := ⟨sb, 2, none⟩) hsl).trans q2, (hb''.cell (p := ⟨sb, 3, none⟩) hsl).trans q3, (hb''.cell (p := ⟨sb, 4, none⟩) hsl).trans q4, (hb''.cell (p := ⟨sb, 5, none⟩) hsl).trans q5⟩
        have f5 := f1 w3.drew
        clear f1
        go_region_held3 (fun w' => w'.cell? ⟨sb, 0, none⟩ = some (.int .i64 b) ∧ w'.cell? ⟨sb, 1, none⟩ = some (.int .i64 le) ∧ w'.cell? ⟨sb, 2, none⟩ = some (.int .i64 mo) ∧ w'.cell? ⟨sb, 3, none⟩ = some (.int .i64 gr) ∧ w'.cell? ⟨sb, 4, none⟩ = some (.int .i64 sh) ∧ w'.cell? ⟨sb, 5, none⟩ = some (.int .i64 ou)) (first | exact hkeep _ (by assumption) | go_keep)
          (first | (go_at_call 24; with_reducible refine f5.mono ?_; rintro e w5 ⟨rfl, hb5⟩))
        have hb35 : Below w3.heap.size w3 w5 := hd3.trans (hb5.mono hd3.size)
        go_wp2_with fail
        go_roundw
        case rel => exact ⟨k + 1, by have := HN.out; omega, by go_num, by rw [HT.out]; exact hown3.below hb35, by rw [HA.out]; go_num, hb3.trans (hb35.mono hb3.size)⟩
        case measure => simp [intOf]; omega
      · obtain rfl : k = n := by omega
        have hltz : ¬ (k : Int) < (k : Int) := by omega
        have HZ0 := Lib.hid (show ((sizesR l gap room).1 = l.map firstR ∧ (sizesR l gap room).2 = 0) ∨ ¬ room < 0 by
          by_cases hr : room < 0
          · left
            unfold sizesR
            rw [HOK.out, if_neg (by omega), if_pos hr]
            exact ⟨rfl, rfl⟩
          · exact Or.inr hr)
        have hall : G + allTo l k = allR l gap := by rw [allR_eq, HG.out, HN.out]
        have hout := outTo_bd HC.out.good k (by have := HN.out; omega)
        rw [List.take_of_length_le (by have := HN.out; omega)] at hown
        by_cases hr : room < 0
        · have hz : (sizesR l gap room).1 = l.map firstR ∧ (sizesR l gap room).2 = 0 := by
            rcases HZ0.out with h | h
            · exact h
            · exact absurd hr h
          have HZ := Lib.hid hz
          clear hz
          go_wp2_with fail
          simp only [Exit.jump]
          go_ret2
          exact ⟨u9, by rw [HZ.out.2]; rfl, by rw [HZ.out.1]; exact hown, hbr⟩
        · obtain ⟨al, hal⟩ : ∃ z, G + allTo l k = z := ⟨_, rfl⟩
          rw [hal] at hall ⊢
          have HAL := Lib.hid hall
          have hab2 : -9007199254740992 ≤ al ∧ al ≤ 9007199254740992 := by omega
          have hw4 : IntKind.i64.wrap (room - G) = room - G := by rw [IntKind.wrap_i64]; omega
          have HGR := Lib.hid (show growR l gap room = decide (al < room) by unfold growR; rw [hall])
          clear hal hall
          go_wp2_with fail
          rw [← HGR.out]
          have hlt9 : ∀ j, u9.ownBlock = some j → j < wr.heap.size := fun j e => (hown.lt j e).2
          have hb2 : Below wr.heap.size wr (wr.alloc (.cells #[.slice none 0 0, .int .i64 (room - G), .bool (growR l gap room)] 76)) := (Below.refl _ _).alloc (Nat.le_refl _) _
          have hm2 : SzM2 l (growR l gap room) (room - G) wr.heap.size wr 0 (.slice none 0 0) [] (wr.alloc (.cells #[.slice none 0 0, .int .i64 (room - G), .bool (growR l gap room)] 76)) :=
            ⟨rfl, List.nodup_nil, by simp, by simp, Blk.new _ _ _, OwnsP.nil _ _, (fun j e => by cases e), fun j hj => absurd hj (by omega), hb2⟩
          generalize wr.alloc (.cells #[.slice none 0 0, .int .i64 (room - G), .bool (growR l gap room)] 76) = w2 at *
          obtain ⟨L, hL⟩ : ∃ L, wr.heap.size = L := ⟨_, rfl⟩
          rw [hL] at hm2 hb2 hlt9 ⊢
          have HL := Lib.hid hL
          obtain ⟨grow, hgrow⟩ : ∃ g, growR l gap room = g := ⟨_, rfl⟩
          rw [hgrow] at hm2 ⊢
          have HGROW := Lib.hid hgrow
          have hLw : w.heap.size ≤ L := by have := hbr.size; omega
          clear hL hgrow
          have hocell : ∀ j (hj : j < k), ∃ g cap, u9 = .slice (some ⟨g, 0, none⟩) k cap ∧ g < L ∧ wr.cell? ⟨g, j, none⟩ = some (.int .i64 (firstR (itAt l j))) := fun j hj => by
            have hlm : (l.map firstR).length = k := by simp; exact HN.out
            obtain ⟨g, cap, e, _, hg, hgl, hcc, _⟩ := hown.openI (by rw [hlm]; omega)
            rw [hlm] at e
            refine ⟨g, cap, e, by have := HL.out; omega, ?_⟩
            rw [hcc j (by rw [hlm]; exact hj)]
            have : j < l.length := by have := HN.out; omega
            simp [itAt_at this]
          have HOC : Aside _ := hocell
          have HOWN := Lib.hid hown
          have HBR := Lib.hid hbr
          clear hocell hown hbr
          go_loopw [70] (Sz2 l grow (room - G) L wr k) (fun i _ => k - (intOf i).toNat)
          case atStart => exact ⟨0, by omega, rfl, _, _, by simpa [outTo] using hm2⟩
          case round =>
            clear hm2
            obtain ⟨j, hj, rfl, vb, gs, hm⟩ := hrel
            have houb := outTo_bd HC.out.good j (by have := HN.out; omega)
            by_cases hlt : j < k
            · have hltz : (j : Int) < (k : Int) := by omega
              obtain ⟨ad, rfl, hadb, hat⟩ := HIT.out j hlt
              have hbw : Below w.heap.size w wr := HBR.out.trans (hm.below.mono hLw)
              obtain ⟨k0, k1, k2, k3, k4, k5⟩ := hat.below hbw (by rw [block_of_add]; omega)
              obtain ⟨g0, cap0, h9, hg0, hoc⟩ := HOC.out j hlt
              have hLs := hm.lt
              have hoc2 := (hm.below.cell (p := ⟨g0, j, none⟩) hg0).trans hoc
              have hgd := HC.out.good j (by have := HN.out; omega)
              have hob := (fit_iff _).1 hgd.fo
              have HOT := Lib.hid (show outTo l (j + 1) = outTo l j + (itAt l j).outer from rfl)
              obtain ⟨fx, hfx⟩ : ∃ z, firstR (itAt l j) = z := ⟨_, rfl⟩
              rw [hfx] at hoc2 hoc
              have hocw := hoc
              have HFX := Lib.hid hfx
              obtain ⟨x, hx⟩ : ∃ x, itAt l j = x := ⟨_, rfl⟩
              rw [hx] at k0 k1 k2 k3 k4 k5 hob HOT HFX
              have HX := Lib.hid hx
              clear hat hgd hoc hfx hx
              obtain ⟨b, le, mo, gr, sh, ou⟩ := x
              dsimp only at k0 k1 k2 k3 k4 k5 hob HOT
              subst h9
              have hrl : ∀ q, vb.ownBlock = some q → q < wr.heap.size := fun q e => (hm.row.lt q e).2
              have hgi := hm.hi
              have hm3 := (hm.alloc (.cells #[.int .i64 b, .int .i64 le, .int .i64 mo, .int .i64 gr, .int .i64 sh, .int .i64 ou] 39)).alloc (.cells #[.int .i64 b, .int .i64 le, .int .i64 mo, .int .i64 gr, .int .i64 sh, .int .i64 ou, .int .i64 b, .int .i64 0, .bool false] 79)
              have hBx : BoxB ((wr.alloc (.cells #[.int .i64 b, .int .i64 le, .int .i64 mo, .int .i64 gr, .int .i64 sh, .int .i64 ou] 39)).alloc (.cells #[.int .i64 b, .int .i64 le, .int .i64 mo, .int .i64 gr, .int .i64 sh, .int .i64 ou, .int .i64 b, .int .i64 0, .bool false] 79)) (wr.heap.size + 1) ⟨b, le, mo, gr, sh, ou⟩ b 0 false := by
                have := Blk.new (wr.alloc (.cells #[.int .i64 b, .int .i64 le, .int .i64 mo, .int .i64 gr, .int .i64 sh, .int .i64 ou] 39)) 79 #[.int .i64 b, .int .i64 le, .int .i64 mo, .int .i64 gr, .int .i64 sh, .int .i64 ou, .int .i64 b, .int .i64 0, .bool false]
                rw [World.size_alloc] at this
                exact this
              have hKI : Blk ((wr.alloc (.cells #[.int .i64 b, .int .i64 le, .int .i64 mo, .int .i64 gr, .int .i64 sh, .int .i64 ou] 39)).alloc (.cells #[.int .i64 b, .int .i64 le, .int .i64 mo, .int .i64 gr, .int .i64 sh, .int .i64 ou, .int .i64 b, .int .i64 0, .bool false] 79)) wr.heap.size 39 #[.int .i64 b, .int .i64 le, .int .i64 mo, .int .i64 gr, .int .i64 sh, .int .i64 ou] := Blk.alloc (Blk.new _ _ _) _
              have hs3 : ((wr.alloc (.cells #[.int .i64 b, .int .i64 le, .int .i64 mo, .int .i64 gr, .int .i64 sh, .int .i64 ou] 39)).alloc (.cells #[.int .i64 b, .int .i64 le, .int .i64 mo, .int .i64 gr, .int .i64 sh, .int .i64 ou, .int .i64 b, .int .i64 0, .bool false] 79)).heap.size = wr.heap.size + 2 := by rw [World.size_alloc, World.size_alloc]
              go_wp2_with fail
              generalize (wr.alloc (.cells #[.int .i64 b, .int .i64 le, .int .i64 mo, .int .i64 gr, .int .i64 sh, .int .i64 ou] 39)).alloc (.cells #[.int .i64 b, .int .i64 le, .int .i64 mo, .int .i64 gr, .int .i64 sh, .int .i64 ou, .int .i64 b, .int .i64 0, .bool false] 79) = W3 at *
              clear k0 k1 k2 k3 k4 k5 hoc2
              obtain ⟨sI, hsI⟩ : ∃ z, wr.heap.size = z := ⟨_, rfl⟩
              rw [hsI] at hBx hKI hs3 hrl hgi hLs ⊢
              obtain ⟨gb, hgb⟩ : ∃ z, z = sI + 1 := ⟨_, rfl⟩
              rw [← hgb] at hBx ⊢
              have hgb2 : sI < gb := by omega
              have hgb3 : gb < W3.heap.size := by omega
              have hLgb : L < gb := by omega
              have hgbn : gb ∉ gs := fun hm => by have := hgi gb hm; omega
              have hrgb : ∀ q, vb.ownBlock = some q → q ≠ gb := fun q e => by have := hrl q e; omega
              have hsIn : sI ≠ gb := by omega
              have HSI := Lib.hid hsI
              clear hsI hgb hs3 hrl hgi
              obtain ⟨i0, i1, i2, i3, i4, i5⟩ : W3.cell? ⟨sI, 0, none⟩ = some (.int .i64 b) ∧ W3.cell? ⟨sI, 1, none⟩ = some (.int .i64 le) ∧ W3.cell? ⟨sI, 2, none⟩ = some (.int .i64 mo) ∧ W3.cell? ⟨sI, 3, none⟩ = some (.int .i64 gr) ∧ W3.cell? ⟨sI, 4, none⟩ = some (.int .i64 sh) ∧ W3.cell? ⟨sI, 5, none⟩ = some (.int .i64 ou) :=
                ⟨Blk.cell hKI 0, Blk.cell hKI 1, Blk.cell hKI 2, Blk.cell hKI 3, Blk.cell hKI 4, Blk.cell hKI 5⟩
              obtain ⟨_, l1, l2⟩ := hm3.line.cells
              have o3 : W3.cell? ⟨g0, j, none⟩ = some (.int .i64 fx) := (hm3.below.cell (p := ⟨g0, j, none⟩) hg0).trans hocw
              obtain ⟨_, _, _, _, _, x6, _, x8⟩ := hBx.cells
              have y6 := Blk.frozen hBx 6
              have y8 := Blk.frozen hBx 8
              obtain ⟨Rk, hRk⟩ : ∃ z, room - G - outTo l j = z := ⟨_, rfl⟩
              rw [hRk] at hm3 l1
              have hRb : -9007199254740992 ≤ Rk ∧ Rk ≤ 9007199254740992 := by omega
              have hwR : IntKind.i64.wrap (Rk - ou) = Rk - ou := by rw [IntKind.wrap_i64]; omega
              have HRK := Lib.hid hRk
              have HM3 := Lib.hid hm3
              have HBX := Lib.hid hBx
              have HKI := Lib.hid hKI
              clear hRk hm hm3 hBx hKI houb hbw hob
              cases grow with
              | true =>
                by_cases t : gr = 0
                · have t0 : (gr == 0) = true := by simp [t]
                  have HSV := Lib.hid (show startAt true ⟨b, le, mo, gr, sh, ou⟩ = (⟨b, le, mo, gr, sh, ou⟩, some fx) by unfold startAt; rw [HFX.out]; simp [*])
                  go_quiet (fail)
                  go_wp2_with fail
                  have hm4 := ((HM3.out.drewN nq).setCell (p := ⟨gb, 6, none⟩) hLgb hgbn hrgb (.int .i64 fx)).setCell (p := ⟨gb, 8, none⟩) hLgb hgbn hrgb (.bool true)
                  have hB4 : BoxB (((W3.drewN nq).setCell ⟨gb, 6, none⟩ (.int .i64 fx)).setCell ⟨gb, 8, none⟩ (.bool true)) gb ⟨b, le, mo, gr, sh, ou⟩ fx 0 true := BoxB.settle (BoxB.size (w := W3.drewN nq) HBX.out fx) true
                  have hK4 := Blk.far (p := ⟨gb, 8, none⟩) (Blk.far (p := ⟨gb, 6, none⟩) (Blk.drewN HKI.out nq) hsIn (.int .i64 fx)) hsIn (.bool true)
                  generalize ((W3.drewN nq).setCell ⟨gb, 6, none⟩ (.int .i64 fx)).setCell ⟨gb, 8, none⟩ (.bool true) = W4 at *
                  have HSZ := Lib.hid (show szOf (startAt true ⟨b, le, mo, gr, sh, ou⟩) = fx by rw [HSV.out]; rfl)
                  have HSS := Lib.hid (show (startAt true ⟨b, le, mo, gr, sh, ou⟩).2.isSome = true by rw [HSV.out]; rfl)
                  have c5 : W4.cell? ⟨sI, 5, none⟩ = some (.int .i64 ou) := Blk.cell hK4 5
                  obtain ⟨n0, n1, _⟩ := hm4.line.cells
                  have f1 := Blk.frozen hm4.line 1
                  have hm5 := ((hm4.room (Rk - ou)).alloc (.cells #[.pointer (some ⟨gb, 0, none⟩)] 77)).drewN 1
                  have hB5 : BoxB (((W4.setCell ⟨L, 1, none⟩ (.int .i64 (Rk - ou))).alloc (.cells #[.pointer (some ⟨gb, 0, none⟩)] 77)).drewN 1) gb ⟨b, le, mo, gr, sh, ou⟩ _ 0 _ := Blk.alloc (Blk.far hB4 (p := ⟨L, 1, none⟩) (by show gb ≠ L; omega) (.int .i64 (Rk - ou))) _
                  have hsz4 : (W4.setCell ⟨L, 1, none⟩ (.int .i64 (Rk - ou))).heap.size = W4.heap.size := by simp
                  have hgb4 : gb < (((W4.setCell ⟨L, 1, none⟩ (.int .i64 (Rk - ou))).alloc (.cells #[.pointer (some ⟨gb, 0, none⟩)] 77)).drewN 1).heap.size := Blk.lt hB5
                  have hPt : Ptrs (((W4.setCell ⟨L, 1, none⟩ (.int .i64 (Rk - ou))).alloc (.cells #[.pointer (some ⟨gb, 0, none⟩)] 77)).drewN 1) (W4.heap.size + 1) (.slice (some ⟨W4.heap.size, 0, none⟩) 1 1) [gb] := by
                    refine ⟨_, 1, rfl, Nat.le_refl _, fun _ => ⟨W4.heap.size, rfl, by omega, fun q hq => ?_⟩⟩
                    have hq0 : q = 0 := by simp at hq; exact hq
                    subst hq0
                    have := Blk.cell (Blk.new (W4.setCell ⟨L, 1, none⟩ (.int .i64 (Rk - ou))) 77 #[.pointer (some ⟨gb, 0, none⟩)]) 0
                    rw [hsz4] at this
                    exact this
                  have hlen1 : gs.length + [gb].length ≤ 17592186044416 := by have := hm5.len; simp; omega
                  have hLb : L + 1 ≤ (((W4.setCell ⟨L, 1, none⟩ (.int .i64 (Rk - ou))).alloc (.cells #[.pointer (some ⟨gb, 0, none⟩)] 77)).drewN 1).heap.size := hm5.lt
                  have HM5 := Lib.hid hm5
                  have HB5 := Lib.hid hB5
                  have hrow5 := hm5.row
                  have HSZ4 := Lib.hid hsz4
                  clear hm5 hB5 hsz4 hK4 hB4 hm4
                  go_region
                  all_goals
                    go_wp2_with (at_builtin; refine append_ptrs (((W4.setCell ⟨L, 1, none⟩ (.int .i64 (Rk - ou))).alloc (.cells #[.pointer (some ⟨gb, 0, none⟩)] 77)).drewN 1) rfl _ _ rfl (L + 1) vb gs rfl hrow5 _ _ [gb] rfl hPt hlen1 hLb ?_; intro v1 w1 hown1 hgr1 hv1; have hln := Blk.grown HM5.out.line hgr1 (fun e => by have := (hrow5.lt L e.symm).1; omega); have z0 : w1.cell? ⟨L, 0, none⟩ = some vb := Blk.cell hln 0; have z1 : w1.frozen? ⟨L, 0, none⟩ = false := Blk.frozen hln 0; obtain ⟨g1, cap1, cur1, hv, _⟩ := OwnsP.open_ hown1 (by simp); subst hv)
                    go_roundw
                    case rel =>
                      have e : room - G - outTo l (j + 1) = Rk - ou := by rw [HOT.out]; have := HRK.out; omega
                      have hfin := SzM2.push HM5.out hLgb hgb4 hgbn hrgb (by rw [HX.out]; exact HB5.out) (by rw [HX.out]; exact HSZ.out) (by rw [HX.out]; exact HSS.out) hown1 hgr1 (hv1.imp_right fun h q hq => Nat.le_of_eq (Option.some.inj (h.symm.trans hq)))
                      rw [List.length_append, ← e] at hfin
                      exact ⟨j + 1, by omega, by go_num, _, gs ++ [gb], hfin⟩
                    case measure => simp [intOf]; omega
                · by_cases u : fx < b
                  · have t0 : (gr == 0) = false := by simp [t]
                    have t2 : decide (fx < b) = true := decide_eq_true u
                    have HSV := Lib.hid (show startAt true ⟨b, le, mo, gr, sh, ou⟩ = (⟨b, le, mo, gr, sh, ou⟩, some fx) by unfold startAt; rw [HFX.out]; simp [*])
                    go_quiet (fail)
                    go_wp2_with fail
                    have hm4 := ((HM3.out.drewN nq).setCell (p := ⟨gb, 6, none⟩) hLgb hgbn hrgb (.int .i64 fx)).setCell (p := ⟨gb, 8, none⟩) hLgb hgbn hrgb (.bool true)
                    have hB4 : BoxB (((W3.drewN nq).setCell ⟨gb, 6, none⟩ (.int .i64 fx)).setCell ⟨gb, 8, none⟩ (.bool true)) gb ⟨b, le, mo, gr, sh, ou⟩ fx 0 true := BoxB.settle (BoxB.size (w := W3.drewN nq) HBX.out fx) true
                    have hK4 := Blk.far (p := ⟨gb, 8, none⟩) (Blk.far (p := ⟨gb, 6, none⟩) (Blk.drewN HKI.out nq) hsIn (.int .i64 fx)) hsIn (.bool true)
                    generalize ((W3.drewN nq).setCell ⟨gb, 6, none⟩ (.int .i64 fx)).setCell ⟨gb, 8, none⟩ (.bool true) = W4 at *
                    have HSZ := Lib.hid (show szOf (startAt true ⟨b, le, mo, gr, sh, ou⟩) = fx by rw [HSV.out]; rfl)
                    have HSS := Lib.hid (show (startAt true ⟨b, le, mo, gr, sh, ou⟩).2.isSome = true by rw [HSV.out]; rfl)
                    have c5 : W4.cell? ⟨sI, 5, none⟩ = some (.int .i64 ou) := Blk.cell hK4 5
                    obtain ⟨n0, n1, _⟩ := hm4.line.cells
                    have f1 := Blk.frozen hm4.line 1
                    have hm5 := ((hm4.room (Rk - ou)).alloc (.cells #[.pointer (some ⟨gb, 0, none⟩)] 77)).drewN 1
                    have hB5 : BoxB (((W4.setCell ⟨L, 1, none⟩ (.int .i64 (Rk - ou))).alloc (.cells #[.pointer (some ⟨gb, 0, none⟩)] 77)).drewN 1) gb ⟨b, le, mo, gr, sh, ou⟩ _ 0 _ := Blk.alloc (Blk.far hB4 (p := ⟨L, 1, none⟩) (by show gb ≠ L; omega) (.int .i64 (Rk - ou))) _
                    have hsz4 : (W4.setCell ⟨L, 1, none⟩ (.int .i64 (Rk - ou))).heap.size = W4.heap.size := by simp
                    have hgb4 : gb < (((W4.setCell ⟨L, 1, none⟩ (.int .i64 (Rk - ou))).alloc (.cells #[.pointer (some ⟨gb, 0, none⟩)] 77)).drewN 1).heap.size := Blk.lt hB5
                    have hPt : Ptrs (((W4.setCell ⟨L, 1, none⟩ (.int .i64 (Rk - ou))).alloc (.cells #[.pointer (some ⟨gb, 0, none⟩)] 77)).drewN 1) (W4.heap.size + 1) (.slice (some ⟨W4.heap.size, 0, none⟩) 1 1) [gb] := by
                      refine ⟨_, 1, rfl, Nat.le_refl _, fun _ => ⟨W4.heap.size, rfl, by omega, fun q hq => ?_⟩⟩
                      have hq0 : q = 0 := by simp at hq; exact hq
                      subst hq0
                      have := Blk.cell (Blk.new (W4.setCell ⟨L, 1, none⟩ (.int .i64 (Rk - ou))) 77 #[.pointer (some ⟨gb, 0, none⟩)]) 0
                      rw [hsz4] at this
                      exact this
                    have hlen1 : gs.length + [gb].length ≤ 17592186044416 := by have := hm5.len; simp; omega
                    have hLb : L + 1 ≤ (((W4.setCell ⟨L, 1, none⟩ (.int .i64 (Rk - ou))).alloc (.cells #[.pointer (some ⟨gb, 0, none⟩)] 77)).drewN 1).heap.size := hm5.lt
                    have HM5 := Lib.hid hm5
                    have HB5 := Lib.hid hB5
                    have hrow5 := hm5.row
                    have HSZ4 := Lib.hid hsz4
                    clear hm5 hB5 hsz4 hK4 hB4 hm4
                    go_region
                    all_goals
                      go_wp2_with (at_builtin; refine append_ptrs (((W4.setCell ⟨L, 1, none⟩ (.int .i64 (Rk - ou))).alloc (.cells #[.pointer (some ⟨gb, 0, none⟩)] 77)).drewN 1) rfl _ _ rfl (L + 1) vb gs rfl hrow5 _ _ [gb] rfl hPt hlen1 hLb ?_; intro v1 w1 hown1 hgr1 hv1; have hln := Blk.grown HM5.out.line hgr1 (fun e => by have := (hrow5.lt L e.symm).1; omega); have z0 : w1.cell? ⟨L, 0, none⟩ = some vb := Blk.cell hln 0; have z1 : w1.frozen? ⟨L, 0, none⟩ = false := Blk.frozen hln 0; obtain ⟨g1, cap1, cur1, hv, _⟩ := OwnsP.open_ hown1 (by simp); subst hv)
                      go_roundw
                      case rel =>
                        have e : room - G - outTo l (j + 1) = Rk - ou := by rw [HOT.out]; have := HRK.out; omega
                        have hfin := SzM2.push HM5.out hLgb hgb4 hgbn hrgb (by rw [HX.out]; exact HB5.out) (by rw [HX.out]; exact HSZ.out) (by rw [HX.out]; exact HSS.out) hown1 hgr1 (hv1.imp_right fun h q hq => Nat.le_of_eq (Option.some.inj (h.symm.trans hq)))
                        rw [List.length_append, ← e] at hfin
                        exact ⟨j + 1, by omega, by go_num, _, gs ++ [gb], hfin⟩
                      case measure => simp [intOf]; omega
                  · have t0 : (gr == 0) = false := by simp [t]
                    have t2 : decide (fx < b) = false := decide_eq_false u
                    have HSV := Lib.hid (show startAt true ⟨b, le, mo, gr, sh, ou⟩ = (⟨b, le, mo, gr, sh, ou⟩, none) by unfold startAt; rw [HFX.out]; simp [*])
                    go_quiet (fail)
                    go_wp2_with fail
                    have hm4 := HM3.out.drewN nq
                    have hB4 : BoxB (W3.drewN nq) gb ⟨b, le, mo, gr, sh, ou⟩ b 0 false := HBX.out
                    have hK4 := Blk.drewN HKI.out nq
                    generalize W3.drewN nq = W4 at *
                    have HSZ := Lib.hid (show szOf (startAt true ⟨b, le, mo, gr, sh, ou⟩) = b by rw [HSV.out]; rfl)
                    have HSS := Lib.hid (show (startAt true ⟨b, le, mo, gr, sh, ou⟩).2.isSome = false by rw [HSV.out]; rfl)
                    have c5 : W4.cell? ⟨sI, 5, none⟩ = some (.int .i64 ou) := Blk.cell hK4 5
                    obtain ⟨n0, n1, _⟩ := hm4.line.cells
                    have f1 := Blk.frozen hm4.line 1
                    have hm5 := ((hm4.room (Rk - ou)).alloc (.cells #[.pointer (some ⟨gb, 0, none⟩)] 77)).drewN 1
                    have hB5 : BoxB (((W4.setCell ⟨L, 1, none⟩ (.int .i64 (Rk - ou))).alloc (.cells #[.pointer (some ⟨gb, 0, none⟩)] 77)).drewN 1) gb ⟨b, le, mo, gr, sh, ou⟩ _ 0 _ := Blk.alloc (Blk.far hB4 (p := ⟨L, 1, none⟩) (by show gb ≠ L; omega) (.int .i64 (Rk - ou))) _
                    have hsz4 : (W4.setCell ⟨L, 1, none⟩ (.int .i64 (Rk - ou))).heap.size = W4.heap.size := by simp
                    have hgb4 : gb < (((W4.setCell ⟨L, 1, none⟩ (.int .i64 (Rk - ou))).alloc (.cells #[.pointer (some ⟨gb, 0, none⟩)] 77)).drewN 1).heap.size := Blk.lt hB5
                    have hPt : Ptrs (((W4.setCell ⟨L, 1, none⟩ (.int .i64 (Rk - ou))).alloc (.cells #[.pointer (some ⟨gb, 0, none⟩)] 77)).drewN 1) (W4.heap.size + 1) (.slice (some ⟨W4.heap.size, 0, none⟩) 1 1) [gb] := by
                      refine ⟨_, 1, rfl, Nat.le_refl _, fun _ => ⟨W4.heap.size, rfl, by omega, fun q hq => ?_⟩⟩
                      have hq0 : q = 0 := by simp at hq; exact hq
                      subst hq0
                      have := Blk.cell (Blk.new (W4.setCell ⟨L, 1, none⟩ (.int .i64 (Rk - ou))) 77 #[.pointer (some ⟨gb, 0, none⟩)]) 0
                      rw [hsz4] at this
                      exact this
                    have hlen1 : gs.length + [gb].length ≤ 17592186044416 := by have := hm5.len; simp; omega
                    have hLb : L + 1 ≤ (((W4.setCell ⟨L, 1, none⟩ (.int .i64 (Rk - ou))).alloc (.cells #[.pointer (some ⟨gb, 0, none⟩)] 77)).drewN 1).heap.size := hm5.lt
                    have HM5 := Lib.hid hm5
                    have HB5 := Lib.hid hB5
                    have hrow5 := hm5.row
                    have HSZ4 := Lib.hid hsz4
                    clear hm5 hB5 hsz4 hK4 hB4 hm4
                    go_region
                    all_goals
                      go_wp2_with (at_builtin; refine append_ptrs (((W4.setCell ⟨L, 1, none⟩ (.int .i64 (Rk - ou))).alloc (.cells #[.pointer (some ⟨gb, 0, none⟩)] 77)).drewN 1) rfl _ _ rfl (L + 1) vb gs rfl hrow5 _ _ [gb] rfl hPt hlen1 hLb ?_; intro v1 w1 hown1 hgr1 hv1; have hln := Blk.grown HM5.out.line hgr1 (fun e => by have := (hrow5.lt L e.symm).1; omega); have z0 : w1.cell? ⟨L, 0, none⟩ = some vb := Blk.cell hln 0; have z1 : w1.frozen? ⟨L, 0, none⟩ = false := Blk.frozen hln 0; obtain ⟨g1, cap1, cur1, hv, _⟩ := OwnsP.open_ hown1 (by simp); subst hv)
                      go_roundw
                      case rel =>
                        have e : room - G - outTo l (j + 1) = Rk - ou := by rw [HOT.out]; have := HRK.out; omega
                        have hfin := SzM2.push HM5.out hLgb hgb4 hgbn hrgb (by rw [HX.out]; exact HB5.out) (by rw [HX.out]; exact HSZ.out) (by rw [HX.out]; exact HSS.out) hown1 hgr1 (hv1.imp_right fun h q hq => Nat.le_of_eq (Option.some.inj (h.symm.trans hq)))
                        rw [List.length_append, ← e] at hfin
                        exact ⟨j + 1, by omega, by go_num, _, gs ++ [gb], hfin⟩
                      case measure => simp [intOf]; omega
              | false =>
                by_cases t : sh = 0
                · have t0 : (sh == 0) = true := by simp [t]
                  have HSV := Lib.hid (show startAt false ⟨b, le, mo, gr, sh, ou⟩ = (⟨b, le, mo, gr, sh, ou⟩, some fx) by unfold startAt; rw [HFX.out]; simp [*])
                  go_quiet (fail)
                  go_wp2_with fail
                  have hm4 := ((HM3.out.drewN nq).setCell (p := ⟨gb, 6, none⟩) hLgb hgbn hrgb (.int .i64 fx)).setCell (p := ⟨gb, 8, none⟩) hLgb hgbn hrgb (.bool true)
                  have hB4 : BoxB (((W3.drewN nq).setCell ⟨gb, 6, none⟩ (.int .i64 fx)).setCell ⟨gb, 8, none⟩ (.bool true)) gb ⟨b, le, mo, gr, sh, ou⟩ fx 0 true := BoxB.settle (BoxB.size (w := W3.drewN nq) HBX.out fx) true
                  have hK4 := Blk.far (p := ⟨gb, 8, none⟩) (Blk.far (p := ⟨gb, 6, none⟩) (Blk.drewN HKI.out nq) hsIn (.int .i64 fx)) hsIn (.bool true)
                  generalize ((W3.drewN nq).setCell ⟨gb, 6, none⟩ (.int .i64 fx)).setCell ⟨gb, 8, none⟩ (.bool true) = W4 at *
                  have HSZ := Lib.hid (show szOf (startAt false ⟨b, le, mo, gr, sh, ou⟩) = fx by rw [HSV.out]; rfl)
                  have HSS := Lib.hid (show (startAt false ⟨b, le, mo, gr, sh, ou⟩).2.isSome = true by rw [HSV.out]; rfl)
                  have c5 : W4.cell? ⟨sI, 5, none⟩ = some (.int .i64 ou) := Blk.cell hK4 5
                  obtain ⟨n0, n1, _⟩ := hm4.line.cells
                  have f1 := Blk.frozen hm4.line 1
                  have hm5 := ((hm4.room (Rk - ou)).alloc (.cells #[.pointer (some ⟨gb, 0, none⟩)] 77)).drewN 1
                  have hB5 : BoxB (((W4.setCell ⟨L, 1, none⟩ (.int .i64 (Rk - ou))).alloc (.cells #[.pointer (some ⟨gb, 0, none⟩)] 77)).drewN 1) gb ⟨b, le, mo, gr, sh, ou⟩ _ 0 _ := Blk.alloc (Blk.far hB4 (p := ⟨L, 1, none⟩) (by show gb ≠ L; omega) (.int .i64 (Rk - ou))) _
                  have hsz4 : (W4.setCell ⟨L, 1, none⟩ (.int .i64 (Rk - ou))).heap.size = W4.heap.size := by simp
                  have hgb4 : gb < (((W4.setCell ⟨L, 1, none⟩ (.int .i64 (Rk - ou))).alloc (.cells #[.pointer (some ⟨gb, 0, none⟩)] 77)).drewN 1).heap.size := Blk.lt hB5
                  have hPt : Ptrs (((W4.setCell ⟨L, 1, none⟩ (.int .i64 (Rk - ou))).alloc (.cells #[.pointer (some ⟨gb, 0, none⟩)] 77)).drewN 1) (W4.heap.size + 1) (.slice (some ⟨W4.heap.size, 0, none⟩) 1 1) [gb] := by
                    refine ⟨_, 1, rfl, Nat.le_refl _, fun _ => ⟨W4.heap.size, rfl, by omega, fun q hq => ?_⟩⟩
                    have hq0 : q = 0 := by simp at hq; exact hq
                    subst hq0
                    have := Blk.cell (Blk.new (W4.setCell ⟨L, 1, none⟩ (.int .i64 (Rk - ou))) 77 #[.pointer (some ⟨gb, 0, none⟩)]) 0
                    rw [hsz4] at this
                    exact this
                  have hlen1 : gs.length + [gb].length ≤ 17592186044416 := by have := hm5.len; simp; omega
                  have hLb : L + 1 ≤ (((W4.setCell ⟨L, 1, none⟩ (.int .i64 (Rk - ou))).alloc (.cells #[.pointer (some ⟨gb, 0, none⟩)] 77)).drewN 1).heap.size := hm5.lt
                  have HM5 := Lib.hid hm5
                  have HB5 := Lib.hid hB5
                  have hrow5 := hm5.row
                  have HSZ4 := Lib.hid hsz4
                  clear hm5 hB5 hsz4 hK4 hB4 hm4
                  go_region
                  all_goals
                    go_wp2_with (at_builtin; refine append_ptrs (((W4.setCell ⟨L, 1, none⟩ (.int .i64 (Rk - ou))).alloc (.cells #[.pointer (some ⟨gb, 0, none⟩)] 77)).drewN 1) rfl _ _ rfl (L + 1) vb gs rfl hrow5 _ _ [gb] rfl hPt hlen1 hLb ?_; intro v1 w1 hown1 hgr1 hv1; have hln := Blk.grown HM5.out.line hgr1 (fun e => by have := (hrow5.lt L e.symm).1; omega); have z0 : w1.cell? ⟨L, 0, none⟩ = some vb := Blk.cell hln 0; have z1 : w1.frozen? ⟨L, 0, none⟩ = false := Blk.frozen hln 0; obtain ⟨g1, cap1, cur1, hv, _⟩ := OwnsP.open_ hown1 (by simp); subst hv)
                    go_roundw
                    case rel =>
                      have e : room - G - outTo l (j + 1) = Rk - ou := by rw [HOT.out]; have := HRK.out; omega
                      have hfin := SzM2.push HM5.out hLgb hgb4 hgbn hrgb (by rw [HX.out]; exact HB5.out) (by rw [HX.out]; exact HSZ.out) (by rw [HX.out]; exact HSS.out) hown1 hgr1 (hv1.imp_right fun h q hq => Nat.le_of_eq (Option.some.inj (h.symm.trans hq)))
                      rw [List.length_append, ← e] at hfin
                      exact ⟨j + 1, by omega, by go_num, _, gs ++ [gb], hfin⟩
                    case measure => simp [intOf]; omega
                · by_cases u : b < fx
                  · have t0 : (sh == 0) = false := by simp [t]
                    have t2 : decide (b < fx) = true := decide_eq_true u
                    have HSV := Lib.hid (show startAt false ⟨b, le, mo, gr, sh, ou⟩ = (⟨b, le, mo, gr, sh, ou⟩, some fx) by unfold startAt; rw [HFX.out]; simp [*])
                    go_quiet (fail)
                    go_wp2_with fail
                    have hm4 := ((HM3.out.drewN nq).setCell (p := ⟨gb, 6, none⟩) hLgb hgbn hrgb (.int .i64 fx)).setCell (p := ⟨gb, 8, none⟩) hLgb hgbn hrgb (.bool true)
                    have hB4 : BoxB (((W3.drewN nq).setCell ⟨gb, 6, none⟩ (.int .i64 fx)).setCell ⟨gb, 8, none⟩ (.bool true)) gb ⟨b, le, mo, gr, sh, ou⟩ fx 0 true := BoxB.settle (BoxB.size (w := W3.drewN nq) HBX.out fx) true
                    have hK4 := Blk.far (p := ⟨gb, 8, none⟩) (Blk.far (p := ⟨gb, 6, none⟩) (Blk.drewN HKI.out nq) hsIn (.int .i64 fx)) hsIn (.bool true)
                    generalize ((W3.drewN nq).setCell ⟨gb, 6, none⟩ (.int .i64 fx)).setCell ⟨gb, 8, none⟩ (.bool true) = W4 at *
                    have HSZ := Lib.hid (show szOf (startAt false ⟨b, le, mo, gr, sh, ou⟩) = fx by rw [HSV.out]; rfl)
                    have HSS := Lib.hid (show (startAt false ⟨b, le, mo, gr, sh, ou⟩).2.isSome = true by rw [HSV.out]; rfl)
                    have c5 : W4.cell? ⟨sI, 5, none⟩ = some (.int .i64 ou) := Blk.cell hK4 5
                    obtain ⟨n0, n1, _⟩ := hm4.line.cells
                    have f1 := Blk.frozen hm4.line 1
                    have hm5 := ((hm4.room (Rk - ou)).alloc (.cells #[.pointer (some ⟨gb, 0, none⟩)] 77)).drewN 1
                    have hB5 : BoxB (((W4.setCell ⟨L, 1, none⟩ (.int .i64 (Rk - ou))).alloc (.cells #[.pointer (some ⟨gb, 0, none⟩)] 77)).drewN 1) gb ⟨b, le, mo, gr, sh, ou⟩ _ 0 _ := Blk.alloc (Blk.far hB4 (p := ⟨L, 1, none⟩) (by show gb ≠ L; omega) (.int .i64 (Rk - ou))) _
                    have hsz4 : (W4.setCell ⟨L, 1, none⟩ (.int .i64 (Rk - ou))).heap.size = W4.heap.size := by simp
                    have hgb4 : gb < (((W4.setCell ⟨L, 1, none⟩ (.int .i64 (Rk - ou))).alloc (.cells #[.pointer (some ⟨gb, 0, none⟩)] 77)).drewN 1).heap.size := Blk.lt hB5
                    have hPt : Ptrs (((W4.setCell ⟨L, 1, none⟩ (.int .i64 (Rk - ou))).alloc (.cells #[.pointer (some ⟨gb, 0, none⟩)] 77)).drewN 1) (W4.heap.size + 1) (.slice (some ⟨W4.heap.size, 0, none⟩) 1 1) [gb] := by
                      refine ⟨_, 1, rfl, Nat.le_refl _, fun _ => ⟨W4.heap.size, rfl, by omega, fun q hq => ?_⟩⟩
                      have hq0 : q = 0 := by simp at hq; exact hq
                      subst hq0
                      have := Blk.cell (Blk.new (W4.setCell ⟨L, 1, none⟩ (.int .i64 (Rk - ou))) 77 #[.pointer (some ⟨gb, 0, none⟩)]) 0
                      rw [hsz4] at this
                      exact this
                    have hlen1 : gs.length + [gb].length ≤ 17592186044416 := by have := hm5.len; simp; omega
                    have hLb : L + 1 ≤ (((W4.setCell ⟨L, 1, none⟩ (.int .i64 (Rk - ou))).alloc (.cells #[.pointer (some ⟨gb, 0, none⟩)] 77)).drewN 1).heap.size := hm5.lt
                    have HM5 := Lib.hid hm5
                    have HB5 := Lib.hid hB5
                    have hrow5 := hm5.row
                    have HSZ4 := Lib.hid hsz4
                    clear hm5 hB5 hsz4 hK4 hB4 hm4
                    go_region
                    all_goals
                      go_wp2_with (at_builtin; refine append_ptrs (((W4.setCell ⟨L, 1, none⟩ (.int .i64 (Rk - ou))).alloc (.cells #[.pointer (some ⟨gb, 0, none⟩)] 77)).drewN 1) rfl _ _ rfl (L + 1) vb gs rfl hrow5 _ _ [gb] rfl hPt hlen1 hLb ?_; intro v1 w1 hown1 hgr1 hv1; have hln := Blk.grown HM5.out.line hgr1 (fun e => by have := (hrow5.lt L e.symm).1; omega); have z0 : w1.cell? ⟨L, 0, none⟩ = some vb := Blk.cell hln 0; have z1 : w1.frozen? ⟨L, 0, none⟩ = false := Blk.frozen hln 0; obtain ⟨g1, cap1, cur1, hv, _⟩ := OwnsP.open_ hown1 (by simp); subst hv)
                      go_roundw
                      case rel =>
                        have e : room - G - outTo l (j + 1) = Rk - ou := by rw [HOT.out]; have := HRK.out; omega
                        have hfin := SzM2.push HM5.out hLgb hgb4 hgbn hrgb (by rw [HX.out]; exact HB5.out) (by rw [HX.out]; exact HSZ.out) (by rw [HX.out]; exact HSS.out) hown1 hgr1 (hv1.imp_right fun h q hq => Nat.le_of_eq (Option.some.inj (h.symm.trans hq)))
                        rw [List.length_append, ← e] at hfin
                        exact ⟨j + 1, by omega, by go_num, _, gs ++ [gb], hfin⟩
                      case measure => simp [intOf]; omega
                  · have t0 : (sh == 0) = false := by simp [t]
                    have t2 : decide (b < fx) = false := decide_eq_false u
                    have HSV := Lib.hid (show startAt false ⟨b, le, mo, gr, sh, ou⟩ = (⟨b, le, mo, gr, sh, ou⟩, none) by unfold startAt; rw [HFX.out]; simp [*])
                    go_quiet (fail)
                    go_wp2_with fail
                    have hm4 := HM3.out.drewN nq
                    have hB4 : BoxB (W3.drewN nq) gb ⟨b, le, mo, gr, sh, ou⟩ b 0 false := HBX.out
                    have hK4 := Blk.drewN HKI.out nq
                    generalize W3.drewN nq = W4 at *
                    have HSZ := Lib.hid (show szOf (startAt false ⟨b, le, mo, gr, sh, ou⟩) = b by rw [HSV.out]; rfl)
                    have HSS := Lib.hid (show (startAt false ⟨b, le, mo, gr, sh, ou⟩).2.isSome = false by rw [HSV.out]; rfl)
                    have c5 : W4.cell? ⟨sI, 5, none⟩ = some (.int .i64 ou) := Blk.cell hK4 5
                    obtain ⟨n0, n1, _⟩ := hm4.line.cells
                    have f1 := Blk.frozen hm4.line 1
                    have hm5 := ((hm4.room (Rk - ou)).alloc (.cells #[.pointer (some ⟨gb, 0, none⟩)] 77)).drewN 1
                    have hB5 : BoxB (((W4.setCell ⟨L, 1, none⟩ (.int .i64 (Rk - ou))).alloc (.cells #[.pointer (some ⟨gb, 0, none⟩)] 77)).drewN 1) gb ⟨b, le, mo, gr, sh, ou⟩ _ 0 _ := Blk.alloc (Blk.far hB4 (p := ⟨L, 1, none⟩) (by show gb ≠ L; omega) (.int .i64 (Rk - ou))) _
                    have hsz4 : (W4.setCell ⟨L, 1, none⟩ (.int .i64 (Rk - ou))).heap.size = W4.heap.size := by simp
                    have hgb4 : gb < (((W4.setCell ⟨L, 1, none⟩ (.int .i64 (Rk - ou))).alloc (.cells #[.pointer (some ⟨gb, 0, none⟩)] 77)).drewN 1).heap.size := Blk.lt hB5
                    have hPt : Ptrs (((W4.setCell ⟨L, 1, none⟩ (.int .i64 (Rk - ou))).alloc (.cells #[.pointer (some ⟨gb, 0, none⟩)] 77)).drewN 1) (W4.heap.size + 1) (.slice (some ⟨W4.heap.size, 0, none⟩) 1 1) [gb] := by
                      refine ⟨_, 1, rfl, Nat.le_refl _, fun _ => ⟨W4.heap.size, rfl, by omega, fun q hq => ?_⟩⟩
                      have hq0 : q = 0 := by simp at hq; exact hq
                      subst hq0
                      have := Blk.cell (Blk.new (W4.setCell ⟨L, 1, none⟩ (.int .i64 (Rk - ou))) 77 #[.pointer (some ⟨gb, 0, none⟩)]) 0
                      rw [hsz4] at this
                      exact this
                    have hlen1 : gs.length + [gb].length ≤ 17592186044416 := by have := hm5.len; simp; omega
                    have hLb : L + 1 ≤ (((W4.setCell ⟨L, 1, none⟩ (.int .i64 (Rk - ou))).alloc (.cells #[.pointer (some ⟨gb, 0, none⟩)] 77)).drewN 1).heap.size := hm5.lt
                    have HM5 := Lib.hid hm5
                    have HB5 := Lib.hid hB5
                    have hrow5 := hm5.row
                    have HSZ4 := Lib.hid hsz4
                    clear hm5 hB5 hsz4 hK4 hB4 hm4
                    go_region
                    all_goals
                      go_wp2_with (at_builtin; refine append_ptrs (((W4.setCell ⟨L, 1, none⟩ (.int .i64 (Rk - ou))).alloc (.cells #[.pointer (some ⟨gb, 0, none⟩)] 77)).drewN 1) rfl _ _ rfl (L + 1) vb gs rfl hrow5 _ _ [gb] rfl hPt hlen1 hLb ?_; intro v1 w1 hown1 hgr1 hv1; have hln := Blk.grown HM5.out.line hgr1 (fun e => by have := (hrow5.lt L e.symm).1; omega); have z0 : w1.cell? ⟨L, 0, none⟩ = some vb := Blk.cell hln 0; have z1 : w1.frozen? ⟨L, 0, none⟩ = false := Blk.frozen hln 0; obtain ⟨g1, cap1, cur1, hv, _⟩ := OwnsP.open_ hown1 (by simp); subst hv)
                      go_roundw
                      case rel =>
                        have e : room - G - outTo l (j + 1) = Rk - ou := by rw [HOT.out]; have := HRK.out; omega
                        have hfin := SzM2.push HM5.out hLgb hgb4 hgbn hrgb (by rw [HX.out]; exact HB5.out) (by rw [HX.out]; exact HSZ.out) (by rw [HX.out]; exact HSS.out) hown1 hgr1 (hv1.imp_right fun h q hq => Nat.le_of_eq (Option.some.inj (h.symm.trans hq)))
                        rw [List.length_append, ← e] at hfin
                        exact ⟨j + 1, by omega, by go_num, _, gs ++ [gb], hfin⟩
                      case measure => simp [intOf]; omega
            · obtain rfl : j = k := by omega
              have hltz : ¬ (j : Int) < (j : Int) := by omega
              -- behind loop 2
              have hsub := HGROW.out
              subst hsub
              have e : room - G - outTo l j = room - aroundR l gap := by rw [aroundR_eq, HG.out, HN.out]; omega
              have hm' := hm
              rw [e, ← HN.out] at hm'
              have hM := szMem_start HOK.out (Int.not_lt.2 hr) HBR.out HL.out HOWN.out hm'
              clear hm hm' HOC houb e
              obtain ⟨s, hs⟩ : ∃ s, startS (growR l gap room) l = s := ⟨_, rfl⟩
              rw [hs] at hM
              clear hs
              go_wp2_with fail
              go_step3
              have hvb := hM.row.ptrs
              obtain ⟨Ab, cb, hvb, _, hrowb⟩ := hvb
              obtain ⟨zs0, hzl, hzo⟩ := hM.own
              obtain ⟨Ao, co, hvo⟩ := hzo.form
              rw [hzl] at hvo
              rw [hM.glen] at hvb
              subst hvb hvo
              have hop := open_any (pS gs s) gs L _ wr hM.line.cells.1 hM.row.ptrs (pS_cells hM.nodup (hM.glen.trans hM.len.symm) hM.boxes hM.hi) (by rw [hM.glen]; have := HC.out.len; omega)
              unfold ptrV at hop
              have HMM := Lib.hid hM
              clear hM hrowb hzl hzo
              rw [HN.out] at HMM ⊢
              go_wp2_with fail
              refine hop.mono ?_
              clear hop
              rintro e w4 ⟨v4, rfl, hp4, hb4, hx4⟩
              rw [open_filter HMM.out.nodup (HMM.out.glen.trans HMM.out.len.symm)] at hp4
              have hp4' := hp4
              obtain ⟨A4, c4, hv4, hc4, _⟩ := hp4'
              rw [show ((opI s).map (gAt gs)).length = openR s by simp [opI_len]] at hv4 hc4
              subst hv4
              have hR1 := HMM.out.r1
              by_cases ho : openR s = 0
              · have hS : sizesR l gap room = (s.map szOf, 0) := by
                  obtain ⟨f, h1, h2⟩ := HMM.out.fuel
                  rw [← h2, roundsR_done ho (by omega)]
                  unfold lastR
                  dsimp only
                  rw [if_pos HMM.out.fits]
                have HS := Lib.hid hS
                have hoz : ¬ (0 : Int) < (openR s : Nat) := by omega
                have hln4 : LineB w4 L (.slice Ab j cb) (room - aroundR l gap) (growR l gap room) := Blk.below HMM.out.line hb4 (Blk.lt HMM.out.line)
                obtain ⟨m0, _, _⟩ := hln4.cells
                obtain ⟨zs0, hz1, hz2⟩ := HMM.out.own
                have ho4 : Owns w4 w.heap.size (.slice Ao j co) zs0 := hz2.below hb4
                have hsn : s.length = j := by rw [HMM.out.len, HN.out]
                have hgn : gs.length = j := by rw [HMM.out.glen, HN.out]
                have hz0 : zs0.length = j := by rw [hz1, HN.out]
                have hb04 : Below w.heap.size w w4 := HMM.out.below.trans (hb4.mono HMM.out.below.size)
                have hbk : ∀ i, i < j → ∃ gv x go st, Ab = some ⟨gv, 0, none⟩ ∧ gv < w4.heap.size ∧ (∀ q, (Value.slice Ao j co).ownBlock = some q → gv ≠ q) ∧ w4.cell? ⟨gv, i, none⟩ = some (.pointer (some ⟨x, 0, none⟩)) ∧ x < w4.heap.size ∧ (∀ q, (Value.slice Ao j co).ownBlock = some q → x ≠ q) ∧ BoxB w4 x (boAt s i).1 (szOf (boAt s i)) go st := fun i hi => by
                  obtain ⟨gv, cap, cur, e, _, _, hgl, _, hcc, _⟩ := (HMM.out.row.below hb4).open_ (by rw [hgn]; omega)
                  injection e with e1 _ _
                  obtain ⟨go, hx⟩ := HMM.out.boxes.keep hb4 i (by omega)
                  refine ⟨gv, gAt gs i, go, _, e1, hgl, fun q hq h => HMM.out.apart q hq (by rw [e1, h]; rfl), ?_, Blk.lt hx, fun q hq h => HMM.out.oout q hq (by rw [← h]; exact gAt_mem (by omega)), hx⟩
                  rw [hcc i (by omega)]
                  simp [gAt, ptrV, show i < gs.length by omega]
                have HBK : Aside _ := hbk
                have HO4 := Lib.hid ho4
                have HSN := Lib.hid hsn
                have HZ0 := Lib.hid hz0
                have HB04 := Lib.hid hb04
                clear hS hz1 hz2 hln4 ho4 hsn hgn hz0 hb04 hbk ho hp4 hx4 hb4
                rw [show openR s = openR s from rfl]
                go_wp2_with fail
                go_loopw [163] (Sz3 w w4 (.slice Ao j co) (s.map szOf) j) (fun i _ => j - (intOf i).toNat)
                case atStart => exact ⟨0, by omega, rfl, ⟨zs0, HZ0.out, rfl, HO4.out⟩, fun _ _ _ => rfl, HB04.out⟩
                case round =>
                  obtain ⟨k, hk, rfl, ⟨zs, hzl, hzt, hzo⟩, hoth, hbr⟩ := hrel
                  by_cases hlt : k < j
                  · have hltz : (k : Int) < (j : Int) := by omega
                    obtain ⟨gv, x, go, st, rfl, hgv, hgvo, hcx, hxl, hxo, hbx⟩ := HBK.out k hlt
                    have hcx2 := (World.cell?_of_block (a := ⟨gv, k, none⟩) (hoth gv hgv hgvo)).trans hcx
                    have hbx2 : BoxB wr x (boAt s k).1 (szOf (boAt s k)) go st := (hoth x hxl hxo).trans hbx
                    obtain ⟨_, _, _, _, _, c6, _⟩ := hbx2.cells
                    obtain ⟨g0, cap0, e0, _, hg0, _, hoc, hof⟩ := hzo.openI (by omega)
                    rw [hzl] at e0
                    injection e0 with e1 _ e3
                    subst e1 e3
                    have hoc2 := hoc k (by omega)
                    have hof2 := hof k
                    obtain ⟨sz, hsz⟩ : ∃ z, szOf (boAt s k) = z := ⟨_, rfl⟩
                    rw [hsz] at c6
                    have HSZ := Lib.hid hsz
                    have HZO := Lib.hid hzo
                    have HOTH : Aside _ := hoth
                    have HZT := Lib.hid hzt
                    have HZL := Lib.hid hzl
                    clear hoc hof hsz hzo hoth hbx hbx2 hcx hzt
                    go_wp2_with fail
                    go_roundw
                    case rel =>
                      have hzo2 := HZO.out
                      rw [← HZL.out] at hzo2
                      have hput := Owns.put hzo2 k sz
                      rw [HZL.out] at hput
                      refine ⟨k + 1, hlt, by go_num, ⟨zs.set k sz, by rw [List.length_set]; exact HZL.out, ?_, hput⟩, fun b hb hq => ?_, hbr.setCell (p := ⟨g0, k, none⟩) hg0 _⟩
                      · have hks : k < s.length := by rw [HSN.out]; exact hlt
                        rw [List.take_succ_eq_append_getElem (by rw [List.length_set, HZL.out]; exact hlt), List.take_succ_eq_append_getElem (by simpa using hks), List.getElem_set_self, List.take_set_of_le (Nat.le_refl _), HZT.out, List.getElem_map, ← boAt_at hks, HSZ.out]
                      · exact (Below.heap_setCell _ ⟨g0, k, none⟩ _ b (hq g0 rfl)).trans (HOTH.out b hb hq)
                    case measure => simp [intOf]; omega
                  · obtain rfl : k = j := by omega
                    have hltz : ¬ (k : Int) < (k : Int) := by omega
                    have hzf : zs = s.map szOf := by
                      rw [List.take_of_length_le (by omega), List.take_of_length_le (by simp; have := HSN.out; omega)] at hzt
                      exact hzt
                    have hfa := fits_any zs _ _ wr hzo.ints (by omega)
                    rw [hzf, HMM.out.fits] at hfa
                    have HZO := Lib.hid hzo
                    have HZF := Lib.hid hzf
                    clear hoth hzt hzo hzf hzl
                    go_wp2_with fail
                    refine hfa.mono ?_
                    clear hfa
                    rintro e w6 ⟨rfl, rfl⟩
                    go_wp2_with fail
                    simp only [Exit.jump]
                    go_ret2
                    exact ⟨_, by rw [HS.out]; rfl, by rw [HS.out]; rw [← HZF.out]; exact HZO.out, hbr⟩
              · have hoz : (0 : Int) < (openR s : Nat) := by omega
                have hrd := round_any w4 gs s L _ _ _ _ (HMM.out.pre HC.out.len hp4 hb4 hx4)
                unfold ptrV at hrd
                have HB4 := Lib.hid hb4
                clear hp4 hx4 hb4
                go_wp2_with fail
                refine hrd.mono ?_
                clear hrd
                rintro e w5 ⟨rfl, hk5, hbx5⟩
                cases hfit : fit (leftR (room - aroundR l gap) s) with
                | false =>
                  have hS : sizesR l gap room = ([], 10) := by
                    obtain ⟨f, _, h2⟩ := HMM.out.fuel
                    rw [← h2, roundsR_no ho hfit]
                    rfl
                  have HS := Lib.hid hS
                  have hbel := Kept.below_lo (HMM.out.below.trans (HB4.out.mono HMM.out.below.size)) hk5 HMM.out.lo
                  clear hfit hk5 hbx5 hS
                  go_wp2_with fail
                  simp only [Exit.jump]
                  go_ret2
                  exact ⟨_, by rw [HS.out]; rfl, by rw [HS.out]; exact Owns.nil _ _, hbel⟩
                | true =>
                  have hnx := HMM.out.next HB4.out hk5 ho hfit (hbx5 hfit)
                  have HNX := Lib.hid hnx
                  have HLT := Lib.hid (openR_next (zs := giveR (growR l gap room) (leftR (room - aroundR l gap) s) s) (s := s) (by omega))
                  clear hfit hk5 hbx5 hnx
                  go_wp2_with fail
                  go_step3
                  exact ⟨rfl, _, szJ_mk rfl rfl rfl rfl rfl HNX.out⟩
  · rintro gh aj wj ⟨L, vb, out, gs, s, u, rfl, h9, h13, rfl, hM⟩
    rw [h9, h13]
    clear h9 h13
    unfold ptrV
    have hvb := hM.row.ptrs
    obtain ⟨Ab, cb, hvb, _, hrowb⟩ := hvb
    obtain ⟨zs0, hzl, hzo⟩ := hM.own
    obtain ⟨Ao, co, hvo⟩ := hzo.form
    rw [hzl] at hvo
    rw [hM.glen] at hvb
    subst hvb hvo
    have hop := open_any (pS gs s) gs L _ wj hM.line.cells.1 hM.row.ptrs (pS_cells hM.nodup (hM.glen.trans hM.len.symm) hM.boxes hM.hi) (by rw [hM.glen]; have := HC.out.len; omega)
    unfold ptrV at hop
    have HMM := Lib.hid hM
    clear hM hrowb hzl hzo
    rw [HN.out] at HMM ⊢
    go_wp2_with fail
    refine hop.mono ?_
    clear hop
    rintro e w4 ⟨v4, rfl, hp4, hb4, hx4⟩
    rw [open_filter HMM.out.nodup (HMM.out.glen.trans HMM.out.len.symm)] at hp4
    have hp4' := hp4
    obtain ⟨A4, c4, hv4, hc4, _⟩ := hp4'
    rw [show ((opI s).map (gAt gs)).length = openR s by simp [opI_len]] at hv4 hc4
    subst hv4
    have hR1 := HMM.out.r1
    by_cases ho : openR s = 0
    · have hS : sizesR l gap room = (s.map szOf, 0) := by
        obtain ⟨f, h1, h2⟩ := HMM.out.fuel
        rw [← h2, roundsR_done ho (by omega)]
        unfold lastR
        dsimp only
        rw [if_pos HMM.out.fits]
      have HS := Lib.hid hS
      have hoz : ¬ (0 : Int) < (openR s : Nat) := by omega
      have hln4 : LineB w4 L (.slice Ab n cb) (room - aroundR l gap) (growR l gap room) := Blk.below HMM.out.line hb4 (Blk.lt HMM.out.line)
      obtain ⟨m0, _, _⟩ := hln4.cells
      obtain ⟨zs0, hz1, hz2⟩ := HMM.out.own
      have ho4 : Owns w4 w.heap.size (.slice Ao n co) zs0 := hz2.below hb4
      have hsn : s.length = n := by rw [HMM.out.len, HN.out]
      have hgn : gs.length = n := by rw [HMM.out.glen, HN.out]
      have hz0 : zs0.length = n := by rw [hz1, HN.out]
      have hb04 : Below w.heap.size w w4 := HMM.out.below.trans (hb4.mono HMM.out.below.size)
      have hbk : ∀ i, i < n → ∃ gv x go st, Ab = some ⟨gv, 0, none⟩ ∧ gv < w4.heap.size ∧ (∀ q, (Value.slice Ao n co).ownBlock = some q → gv ≠ q) ∧ w4.cell? ⟨gv, i, none⟩ = some (.pointer (some ⟨x, 0, none⟩)) ∧ x < w4.heap.size ∧ (∀ q, (Value.slice Ao n co).ownBlock = some q → x ≠ q) ∧ BoxB w4 x (boAt s i).1 (szOf (boAt s i)) go st := fun i hi => by
        obtain ⟨gv, cap, cur, e, _, _, hgl, _, hcc, _⟩ := (HMM.out.row.below hb4).open_ (by rw [hgn]; omega)
        injection e with e1 _ _
        obtain ⟨go, hx⟩ := HMM.out.boxes.keep hb4 i (by omega)
        refine ⟨gv, gAt gs i, go, _, e1, hgl, fun q hq h => HMM.out.apart q hq (by rw [e1, h]; rfl), ?_, Blk.lt hx, fun q hq h => HMM.out.oout q hq (by rw [← h]; exact gAt_mem (by omega)), hx⟩
        rw [hcc i (by omega)]
        simp [gAt, ptrV, show i < gs.length by omega]
      have HBK : Aside _ := hbk
      have HO4 := Lib.hid ho4
      have HSN := Lib.hid hsn
      have HZ0 := Lib.hid hz0
      have HB04 := Lib.hid hb04
      clear hS hz1 hz2 hln4 ho4 hsn hgn hz0 hb04 hbk ho hp4 hx4 hb4
      rw [show openR s = openR s from rfl]
      go_wp2_with fail
      go_loopw [163] (Sz3 w w4 (.slice Ao n co) (s.map szOf) n) (fun i _ => n - (intOf i).toNat)
      case atStart => exact ⟨0, by omega, rfl, ⟨zs0, HZ0.out, rfl, HO4.out⟩, fun _ _ _ => rfl, HB04.out⟩
      case round =>
        obtain ⟨k, hk, rfl, ⟨zs, hzl, hzt, hzo⟩, hoth, hbr⟩ := hrel
        by_cases hlt : k < n
        · have hltz : (k : Int) < (n : Int) := by omega
          obtain ⟨gv, x, go, st, rfl, hgv, hgvo, hcx, hxl, hxo, hbx⟩ := HBK.out k hlt
          have hcx2 := (World.cell?_of_block (a := ⟨gv, k, none⟩) (hoth gv hgv hgvo)).trans hcx
          have hbx2 : BoxB wr x (boAt s k).1 (szOf (boAt s k)) go st := (hoth x hxl hxo).trans hbx
          obtain ⟨_, _, _, _, _, c6, _⟩ := hbx2.cells
          obtain ⟨g0, cap0, e0, _, hg0, _, hoc, hof⟩ := hzo.openI (by omega)
          rw [hzl] at e0
          injection e0 with e1 _ e3
          subst e1 e3
          have hoc2 := hoc k (by omega)
          have hof2 := hof k
          obtain ⟨sz, hsz⟩ : ∃ z, szOf (boAt s k) = z := ⟨_, rfl⟩
          rw [hsz] at c6
          have HSZ := Lib.hid hsz
          have HZO := Lib.hid hzo
          have HOTH : Aside _ := hoth
          have HZT := Lib.hid hzt
          have HZL := Lib.hid hzl
          clear hoc hof hsz hzo hoth hbx hbx2 hcx hzt
          go_wp2_with fail
          go_roundw
          case rel =>
            have hzo2 := HZO.out
            rw [← HZL.out] at hzo2
            have hput := Owns.put hzo2 k sz
            rw [HZL.out] at hput
            refine ⟨k + 1, hlt, by go_num, ⟨zs.set k sz, by rw [List.length_set]; exact HZL.out, ?_, hput⟩, fun b hb hq => ?_, hbr.setCell (p := ⟨g0, k, none⟩) hg0 _⟩
            · have hks : k < s.length := by rw [HSN.out]; exact hlt
              rw [List.take_succ_eq_append_getElem (by rw [List.length_set, HZL.out]; exact hlt), List.take_succ_eq_append_getElem (by simpa using hks), List.getElem_set_self, List.take_set_of_le (Nat.le_refl _), HZT.out, List.getElem_map, ← boAt_at hks, HSZ.out]
            · exact (Below.heap_setCell _ ⟨g0, k, none⟩ _ b (hq g0 rfl)).trans (HOTH.out b hb hq)
          case measure => simp [intOf]; omega
        · obtain rfl : k = n := by omega
          have hltz : ¬ (k : Int) < (k : Int) := by omega
          have hzf : zs = s.map szOf := by
            rw [List.take_of_length_le (by omega), List.take_of_length_le (by simp; have := HSN.out; omega)] at hzt
            exact hzt
          have hfa := fits_any zs _ _ wr hzo.ints (by omega)
          rw [hzf, HMM.out.fits] at hfa
          have HZO := Lib.hid hzo
          have HZF := Lib.hid hzf
          clear hoth hzt hzo hzf hzl
          go_wp2_with fail
          refine hfa.mono ?_
          clear hfa
          rintro e w6 ⟨rfl, rfl⟩
          go_wp2_with fail
          simp only [Exit.jump]
          go_ret2
          exact ⟨_, by rw [HS.out]; rfl, by rw [HS.out]; rw [← HZF.out]; exact HZO.out, hbr⟩
    · have hoz : (0 : Int) < (openR s : Nat) := by omega
      have hrd := round_any w4 gs s L _ _ _ _ (HMM.out.pre HC.out.len hp4 hb4 hx4)
      unfold ptrV at hrd
      have HB4 := Lib.hid hb4
      clear hp4 hx4 hb4
      go_wp2_with fail
      refine hrd.mono ?_
      clear hrd
      rintro e w5 ⟨rfl, hk5, hbx5⟩
      cases hfit : fit (leftR (room - aroundR l gap) s) with
      | false =>
        have hS : sizesR l gap room = ([], 10) := by
          obtain ⟨f, _, h2⟩ := HMM.out.fuel
          rw [← h2, roundsR_no ho hfit]
          rfl
        have HS := Lib.hid hS
        have hbel := Kept.below_lo (HMM.out.below.trans (HB4.out.mono HMM.out.below.size)) hk5 HMM.out.lo
        clear hfit hk5 hbx5 hS
        go_wp2_with fail
        simp only [Exit.jump]
        go_ret2
        exact ⟨_, by rw [HS.out]; rfl, by rw [HS.out]; exact Owns.nil _ _, hbel⟩
      | true =>
        have hnx := HMM.out.next HB4.out hk5 ho hfit (hbx5 hfit)
        have HNX := Lib.hid hnx
        have HLT := Lib.hid (openR_next (zs := giveR (growR l gap room) (leftR (room - aroundR l gap) s) s) (s := s) (by omega))
        clear hfit hk5 hbx5 hnx
        go_wp2_with fail
        go_step3
        exact ⟨rfl, _, HLT.out, szJ_mk rfl rfl rfl rfl rfl HNX.out⟩

end Go.Proofs.Ytbhdolghokhfnaa
