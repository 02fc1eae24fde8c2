/-
  Contracts of Go's library, at this program: strings.Builder's Write (walked here), WriteByte, String (laid), of a builder that nobody has read yet.
-/
import Derived.Test.YtaoehdmdjplegaaGreatDoorSame32
import Derived.Test.YtaoehdmdjplegaaGreatDoorBuilder
import Derived.Test.YtaoehdmdjplegaaGreatDoorRBytes
import Derived.Test.YtaoehdmdjplegaaGreatDoorPlain32
namespace Go.Proofs.YtaoehdmdjplegaaGreatDoor
open Go.RowKit Go.Shelf

abbrev BldAt (B b : Nat) (p : Value) (bs : List UInt8) (w : World) : Prop := Lib.BuilderAt 79 5 B b p (byV bs) w
abbrev Bld (B b : Nat) (bs : List UInt8) (w : World) : Prop := Lib.IsBuilder 79 5 B b (byV bs) w
theorem byV_len (l : List UInt8) : (byV l).length = l.length := by simp [byV]
theorem bld_new (w : World) : Bld w.heap.size w.heap.size [] (w.alloc (.cells #[.pointer none, .slice none 0 0] 79)) :=
  .inl ⟨Nat.le_refl _, .slice none 0 0, heap_alloc_new w _, World.ownsRow_nil _ _ _ _, by simp [Value.ownBlock]⟩
theorem copycheck_own (B b base : Nat) (bs : List UInt8) (v : Value) (l : List UInt8) (w : World) (h : Bld B b bs w) (hy : OwnsY w base v l) (hb : b < base) :
    Calls Tryz.prog 58 #[.pointer (some ⟨b, 0, none⟩)] w fun e w' => e = .returned (.tuple #[]) ∧ BldAt B b (.pointer (some ⟨b, 0, none⟩)) bs w' ∧ OwnsY w' base v l ∧ Below B w w' := by
  rcases h with h | h
  · refine (Any.Builder_copyCheck_fresh { Tryz.lays167 with } Tryz.Builder_Extra_167.toX72 b w h.cell0 h.shape h.frozen0).mono ?_
    rintro e w' ⟨rfl, rfl⟩
    exact ⟨rfl, h.used _, hy.kept1 ((Kept.refl [b] w).setCell (p := ⟨b, 0, none⟩) (by simp) _) hb, (Below.refl B w).setCell (p := ⟨b, 0, none⟩) h.1 _⟩
  · refine (Any.Builder_copyCheck_used { Tryz.lays167 with } Tryz.Builder_Extra_167.toX72 b w h.cell0).mono ?_
    rintro e w' ⟨rfl, rfl⟩
    exact ⟨rfl, h, hy, Below.refl B _⟩

set_option maxRecDepth 100000 in
set_option maxHeartbeats 2000000 in
theorem builder_Write (B b base : Nat) (bs : List UInt8) (v : Value) (l : List UInt8) (w : World) (h : Bld B b bs w) (hy : OwnsY w base v l) (hb : b < base) (hlen : bs.length + l.length ≤ 100000000) (hBw : B ≤ w.heap.size) :
    Calls Tryz.prog 53 #[.pointer (some ⟨b, 0, none⟩), v] w fun e w' => (∃ n, e = .returned (.tuple #[n, .nilIface])) ∧ BldAt B b (.pointer (some ⟨b, 0, none⟩)) (bs ++ l) w' ∧ Below B w w' := by
  obtain ⟨i0, hi0, hz0, hz1, hz2⟩ := info_parts Tryz.infoU8
  have HCC := Lib.hid (copycheck_own B b base bs v l w h hy hb)
  clear h hy
  go_enter Tryz.func53, Tryz.ntmps53
  go_wp2_with fail
  refine HCC.out.mono ?_
  rintro e w1 ⟨rfl, h1, hy1, hb1⟩
  obtain ⟨hB, v0, hbk, hown, hne⟩ := h1
  obtain ⟨A, c, hv, hc, hr⟩ := hy1.byts.reads
  subst hv
  have c1 : w1.cell? ⟨b, 1, none⟩ = some v0 := by rw [Lib.cell_of_heap hbk]; rfl
  have hbase : B ≤ w1.heap.size := Nat.le_trans hBw hb1.size
  rw [byV_len] at hown
  go_wp2_with (at_builtin; refine wpList_append_any w1 rfl _ _ _ rfl B 5 i0 _ 1 1 Tryz.underlying22 hi0 hz0 hz1 hz2 rfl (by omega) v0 _ _ rfl hown w1.heap.size A l.length c (byV l) rfl hr (byV_cells l) (by simp only [maxLen]; omega) (by omega) hbase ?_)
  intro v' w2 hown' hgrow _
  have hlt : b < w1.heap.size := by
    rcases Nat.lt_or_ge b w1.heap.size with h' | h'
    · exact h'
    · simp [Array.getElem?_eq_none h'] at hbk
  have hb2 : w2.heap[b]? = some (.cells #[.pointer (some ⟨b, 0, none⟩), v0] 79 (0, 0)) := by
    rw [hgrow.block b hlt (fun e => hne e.symm)]
    exact hbk
  have d1 : w2.cell? ⟨b, 1, none⟩ = some v0 := by rw [Lib.cell_of_heap hb2]; rfl
  have f1 : w2.frozen? ⟨b, 1, none⟩ = false := Lib.frozen_of_heap hb2 1
  obtain ⟨ao, n', cap, rfl⟩ : ∃ ao n' cap, v' = .slice ao n' cap := by
    rcases hown'.2 with ⟨hv, _⟩ | ⟨g, cap, cur, hv, _⟩
    · exact ⟨_, _, _, hv⟩
    · exact ⟨_, _, _, hv⟩
  go_wp2_with fail
  go_ret2
  refine ⟨⟨_, rfl⟩, ?_, ?_⟩
  · refine Lib.BuilderAt.put hB hb2 (bs' := byV (bs ++ l)) ?_ (by decide)
    rw [byV_len, List.length_append, show byV (bs ++ l) = byV bs ++ byV l by simp [byV]]
    exact hown'
  · exact (hb1.grown hgrow hbase (fun k hk => (World.ownsRow.lt hown k hk).1)).setCell (p := ⟨b, 1, none⟩) hB _
theorem builder_WriteByte (B b : Nat) (bs : List UInt8) (c : UInt8) (cv : Int) (hcv : cv = (c.toNat : Nat)) (w : World) (h : Bld B b bs w) (hlen : bs.length ≤ 100000000) (hBw : B ≤ w.heap.size) :
    Calls Tryz.prog 52 #[.pointer (some ⟨b, 0, none⟩), .int .u8 cv] w fun e w' => e = .returned .nilIface ∧ Bld B b (bs ++ [c]) w' ∧ Below B w w' := by
  subst hcv
  refine (Any.Builder_WriteByte Tryz.lays167 Tryz.Builder_Extra_167 B b (byV bs) _ w h (by rw [byV_len]; omega) hBw).mono ?_
  rintro e w' ⟨rfl, h1, h2⟩
  exact ⟨rfl, .inr (by rw [show byV (bs ++ [c]) = byV bs ++ byV [c] by simp [byV]]; exact h1), h2⟩
theorem builder_String (B b : Nat) (l : List UInt8) (w : World) (h : Bld B b l w) (hBw : B ≤ w.heap.size) :
    Calls Tryz.prog 33 #[.pointer (some ⟨b, 0, none⟩)] w fun e w' => e = .returned (.string (mkB l)) ∧ Below B w w' := by
  refine (Tryz.Builder_String_any B b l w h hBw).mono ?_
  rintro e w' ⟨rfl, h1⟩
  exact ⟨rfl, h1⟩

end Go.Proofs.YtaoehdmdjplegaaGreatDoor
namespace Go.Proofs.YtaoehdmdjplegaaGreatDoor
open Go.RowKit Go.Shelf

def hexD : List UInt8 := [48, 49, 50, 51, 52, 53, 54, 55, 56, 57, 97, 98, 99, 100, 101, 102]
theorem index_hex : ∀ c : Fin 256, Lib.indexByte hexD (UInt8.ofNat c.val) = if hv (UInt8.ofNat c.val) < 16 then ((hv (UInt8.ofNat c.val) : Nat) : Int) else -1 := by decide +kernel
theorem index_hex' (c : UInt8) : Lib.indexByte hexD (((c.toNat : Nat) : Int).toNat.toUInt8) = if hv c < 16 then ((hv c : Nat) : Int) else -1 := by
  have h := index_hex ⟨c.toNat, c.toNat_lt⟩
  simp only [UInt8.ofNat_toNat] at h
  rw [show (((c.toNat : Nat) : Int).toNat.toUInt8) = c by simp]
  exact h
theorem ix_good {c : UInt8} (h : hv c < 16) (w : World) : Calls Tryz.prog 54 #[.string ⟨#[48, 49, 50, 51, 52, 53, 54, 55, 56, 57, 97, 98, 99, 100, 101, 102]⟩, .int .u8 (c.toNat : Nat)] w fun e w' => e = .returned (.int .i64 (hv c : Nat)) ∧ w' = w :=
  (Tryz.strings_IndexByte ⟨#[48, 49, 50, 51, 52, 53, 54, 55, 56, 57, 97, 98, 99, 100, 101, 102]⟩ ((c.toNat : Nat) : Int) w).mono fun e w' ⟨h1, h2⟩ => ⟨by rw [h1]; exact congrArg (fun z => Ending.returned (.int .i64 z)) ((index_hex' c).trans (if_pos h)), h2⟩
theorem ix_bad {c : UInt8} (h : ¬ hv c < 16) (w : World) : Calls Tryz.prog 54 #[.string ⟨#[48, 49, 50, 51, 52, 53, 54, 55, 56, 57, 97, 98, 99, 100, 101, 102]⟩, .int .u8 (c.toNat : Nat)] w fun e w' => e = .returned (.int .i64 (-1)) ∧ w' = w :=
  (Tryz.strings_IndexByte ⟨#[48, 49, 50, 51, 52, 53, 54, 55, 56, 57, 97, 98, 99, 100, 101, 102]⟩ ((c.toNat : Nat) : Int) w).mono fun e w' ⟨h1, h2⟩ => ⟨by rw [h1]; exact congrArg (fun z => Ending.returned (.int .i64 z)) ((index_hex' c).trans (if_neg h)), h2⟩
theorem pairs_odd : ∀ (l : List UInt8), l.length % 2 = 1 → pairs l = none
  | [], h => by simp at h
  | [_], _ => rfl
  | a :: b :: r, h => by
    rw [pairs, pairs_odd r (by simp at h; omega)]
    split <;> rfl
theorem bits_or : ∀ x y : Fin 16, (bits .or .i64 (((x.val : Nat) : Int) * 16) ((y.val : Nat) : Int)) % 256 = (((UInt8.ofNat (x.val * 16 + y.val)).toNat : Nat) : Int) := by decide +kernel
theorem or_val {a b : Nat} (ha : a < 16) (hb : b < 16) : Value.int .u8 ((bits .or .i64 ((a : Int) * 16) (b : Int)) % 256) = .int .u8 ((UInt8.ofNat (a * 16 + b)).toNat : Nat) := congrArg (Value.int .u8) (bits_or ⟨a, ha⟩ ⟨b, hb⟩)
/-- What the bytes' text leaves: bytes, or it is thrown. -/
def BytPost (o : Option (List UInt8)) (w : World) (e : Ending) (w' : World) : Prop :=
  Below w.heap.size w w' ∧ (∀ x, o = some x → ∃ v, e = .returned v ∧ OwnsY w' w.heap.size v x) ∧ (o = none → e = .panicked wrongC)
theorem BytPost.ok {o : Option (List UInt8)} {x : List UInt8} {w w' : World} {v : Value} (h : o = some x) (hb : Below w.heap.size w w') (ho : OwnsY w' w.heap.size v x) : BytPost o w (.returned v) w' :=
  ⟨hb, fun y hy => by
    rw [h] at hy
    injection hy with hy
    subst hy
    exact ⟨v, rfl, ho⟩, fun hn => by rw [h] at hn; cases hn⟩
theorem BytPost.bad {o : Option (List UInt8)} {w w' : World} (h : o = none) (hb : Below w.heap.size w w') : BytPost o w (.panicked wrongC) w' :=
  ⟨hb, fun y hy => (by rw [h] at hy; cases hy), fun _ => rfl⟩
def BpA (S : ByteArray) (w0 : World) (out i : Value) (w : World) : Prop :=
  ∃ (k : Nat) (o : List UInt8), k ≤ S.size ∧ k % 2 = 0 ∧ i = .int .i64 k ∧ o.length ≤ k ∧ OwnsY w w0.heap.size out o ∧ Below w0.heap.size w0 w ∧ pairs S.data.toList = (pairs (S.data.toList.drop k)).map (o ++ ·)

set_option maxRecDepth 100000 in
set_option maxHeartbeats 4000000 in
theorem bytes_any (l : ByteArray) (hl : l.size ≤ 5000) (w : World) :
    Calls Tryz.prog 23 #[.string l] w (BytPost (bytesR l.data.toList) w) := by
  have hE := mkB_data l
  by_cases hd : l.data.toList = [45]
  · have e1 : (l.toList == ([45] : List UInt8)) = true := by rw [Lib.toList_data, hd]; rfl
    have HT := Lib.hid (show bytesR l.data.toList = some [] by unfold bytesR; rw [if_pos hd])
    clear hd hE
    go_enter Tryz.func23, Tryz.ntmps23
    go_wp2_with fail
    go_ret
    exact BytPost.ok HT.out (Below.refl _ _) (OwnsY.nil _ _)
  · have e1 : (l.toList == ([45] : List UInt8)) = false := by rw [Lib.toList_data, beq_eq_false_iff_ne]; exact hd
    have HT := Lib.hid (show bytesR l.data.toList = pairs l.data.toList by unfold bytesR; rw [if_neg hd])
    clear hd hE
    by_cases hodd : l.size % 2 = 1
    · have HO := Lib.hid (show bytesR l.data.toList = none by rw [HT.out]; exact pairs_odd _ (by rw [size_len]; exact hodd))
      have z1 : ((l.size : Nat) : Int) % 2 = 1 := by omega
      go_enter Tryz.func23, Tryz.ntmps23
      go_wp2_with fail
      exact ⟨rfl, BytPost.bad HO.out (Below.refl _ _)⟩
    · have z1 : ((l.size : Nat) : Int) % 2 = 0 := by omega
      have hev : l.size % 2 = 0 := by omega
      have HEV := Lib.hid hev
      clear hodd hev
      go_enter Tryz.func23, Tryz.ntmps23
      go_wp2_with fail
      clear z1 e1
      go_loopw [3, 4] (BpA l w) (fun _ i _ => l.size - (intOf i).toNat)
      case atStart => exact ⟨0, [], by omega, rfl, rfl, by simp, OwnsY.nil _ _, Below.refl _ _, by simp⟩
      case round =>
        obtain ⟨k, o, hk, hke, rfl, hok, hown, hbw, hpr⟩ := hrel
        have HX := Lib.hid hpr
        have HK := Lib.hid hke
        clear hpr hke
        have hbase := hbw.size
        have hlo : o.length < 17592186044416 := by omega
        by_cases hlt : k < l.size
        · have hl1 : k + 1 < l.size := by have := HEV.out; have := HK.out; omega
          have hw1 : IntKind.i64.wrap ((k : Int) + 1) = (k : Int) + 1 := by rw [IntKind.wrap_i64]; omega
          have i1 : (0 : Int) ≤ (k : Int) + 1 := by omega
          have i2 : (k : Int) + 1 < ((l.size : Nat) : Int) := by omega
          have i3 : ((k : Int) + 1).toNat = k + 1 := by omega
          by_cases a16 : hv l[k] < 16
          · by_cases b16 : hv l[k + 1] < 16
            · have HST := Lib.hid (pr_two hl1 ⟨a16, b16⟩)
              have hd2 := Lib.hid (fun W => ix_good a16 W)
              have hd3 := Lib.hid (fun W => ix_good b16 W)
              have d16 : ¬ ((hv l[k] : Nat) : Int) < 0 := by omega
              have d17 : ¬ ((hv l[k + 1] : Nat) : Int) < 0 := by omega
              go_wp2_with fail
              go_quiet ((go_at_call 54; first | (with_reducible exact Calls.quiet_of_same (hd2.out _)) | (with_reducible exact Calls.quiet_of_same (hd3.out _))))
              have hbw := below_drewN hbw nq
              have hown : OwnsY (wr.drewN nq) w.heap.size u3 o := hown
              have hbase : w.heap.size ≤ (wr.drewN nq).heap.size := hbase
              go_wp2_with (at_builtin; refine append_byte _ (UInt8.ofNat (hv l[k] * 16 + hv l[k + 1])) _ (or_val a16 b16) rfl _ _ rfl w.heap.size u3 o rfl hown rfl hlo hbase ?_; intro v3 w3 hown3 hb3)
              go_roundw
              case rel => exact ⟨k + 2, o ++ [UInt8.ofNat (hv l[k] * 16 + hv l[k + 1])], by omega, by have := HK.out; omega, by go_num, by simp; omega, hown3, hbw.trans hb3, by rw [HX.out, HST.out]; simp [Function.comp_def]⟩
              case measure => simp [intOf]; omega
            · have HST := Lib.hid (pr_bad hl1 fun h => b16 h.2)
              have hd2 := Lib.hid (fun W => ix_good a16 W)
              have hd3 := Lib.hid (fun W => ix_bad b16 W)
              have d16 : ¬ ((hv l[k] : Nat) : Int) < 0 := by omega
              go_wp2_with fail
              go_quiet ((go_at_call 54; first | (with_reducible exact Calls.quiet_of_same (hd2.out _)) | (with_reducible exact Calls.quiet_of_same (hd3.out _))))
              go_wp2_with fail
              exact ⟨rfl, BytPost.bad (by rw [HT.out, HX.out, HST.out]; rfl) (below_drewN hbw _)⟩
          · have HST := Lib.hid (pr_bad hl1 fun h => a16 h.1)
            have hd2 := Lib.hid (fun W => ix_bad a16 W)
            by_cases b16 : hv l[k + 1] < 16
            · have hd3 := Lib.hid (fun W => ix_good b16 W)
              go_wp2_with fail
              go_quiet ((go_at_call 54; first | (with_reducible exact Calls.quiet_of_same (hd2.out _)) | (with_reducible exact Calls.quiet_of_same (hd3.out _))))
              go_wp2_with fail
              exact ⟨rfl, BytPost.bad (by rw [HT.out, HX.out, HST.out]; rfl) (below_drewN hbw _)⟩
            · have hd3 := Lib.hid (fun W => ix_bad b16 W)
              go_wp2_with fail
              go_quiet ((go_at_call 54; first | (with_reducible exact Calls.quiet_of_same (hd2.out _)) | (with_reducible exact Calls.quiet_of_same (hd3.out _))))
              go_wp2_with fail
              exact ⟨rfl, BytPost.bad (by rw [HT.out, HX.out, HST.out]; rfl) (below_drewN hbw _)⟩
        · have hke : k = l.size := by omega
          go_wp2_with fail
          go_ret
          exact BytPost.ok (by rw [HT.out, HX.out, drop_end (by omega)]; simp [pairs]) hbw hown

end Go.Proofs.YtaoehdmdjplegaaGreatDoor
namespace Go.Proofs.YtaoehdmdjplegaaGreatDoor
open Go.RowKit Go.Shelf

section
variable {S : ByteArray} {k : Nat}
theorem bs_plain (h : k < S.size) (h1 : S[k].toNat ≠ 92) : bareGo (S.data.toList.drop k) = (bareGo (S.data.toList.drop (k + 1))).map (S[k] :: ·) := by
  rw [drop_cons h, bareGo_plain (byte_ne h1 92 rfl)]
theorem bs_end (h : k < S.size) (h1 : S[k].toNat = 92) (h2 : S.size ≤ k + 1) : bareGo (S.data.toList.drop k) = none := by
  rw [drop_cons h, drop_end h2, byte_is h1 92 rfl]
  exact (bareGo.eq_def _).trans (if_pos rfl)
theorem bs_line (h : k + 1 < S.size) (h1 : S[k].toNat = 92) (h2 : S[k + 1].toNat = 110) : bareGo (S.data.toList.drop k) = (bareGo (S.data.toList.drop (k + 2))).map (10 :: ·) := by
  rw [drop_cons (show k < S.size by omega), drop_cons h, byte_is h1 92 rfl, byte_is h2 110 rfl, bareGo_line]
theorem bareGo_hex {a b : UInt8} (r : List UInt8) : bareGo (92 :: 120 :: a :: b :: r) = if hv a < 16 ∧ hv b < 16 then (bareGo r).map (UInt8.ofNat (hv a * 16 + hv b) :: ·) else none :=
  (bareGo.eq_def _).trans ((if_pos rfl).trans ((if_neg (by decide)).trans (if_pos rfl)))
theorem bareGo_x0 : bareGo [92, 120] = (bareGo []).map (120 :: ·) := (bareGo.eq_def _).trans ((if_pos rfl).trans ((if_neg (by decide)).trans (if_pos rfl)))
theorem bareGo_x1 (a : UInt8) : bareGo [92, 120, a] = (bareGo [a]).map (120 :: ·) := (bareGo.eq_def _).trans ((if_pos rfl).trans ((if_neg (by decide)).trans (if_pos rfl)))
theorem bs_hex (h : k + 3 < S.size) (h1 : S[k].toNat = 92) (h2 : S[k + 1].toNat = 120) :
    bareGo (S.data.toList.drop k) = if hv S[k + 2] < 16 ∧ hv S[k + 3] < 16 then (bareGo (S.data.toList.drop (k + 4))).map (UInt8.ofNat (hv S[k + 2] * 16 + hv S[k + 3]) :: ·) else none := by
  rw [drop_cons (show k < S.size by omega), drop_cons (show k + 1 < S.size by omega), drop_cons (show k + 1 + 1 < S.size by omega), drop_cons (show k + 1 + 1 + 1 < S.size by omega), byte_is h1 92 rfl, byte_is h2 120 rfl]
  exact bareGo_hex _
theorem bs_self (h : k + 1 < S.size) (h1 : S[k].toNat = 92) (h2 : S[k + 1].toNat ≠ 110) (h3 : S[k + 1].toNat = 120 → S.size ≤ k + 3) :
    bareGo (S.data.toList.drop k) = (bareGo (S.data.toList.drop (k + 2))).map (S[k + 1] :: ·) := by
  rw [drop_cons (show k < S.size by omega), drop_cons h, byte_is h1 92 rfl]
  by_cases hx : S[k + 1].toNat = 120
  · have h3 := h3 hx
    rw [byte_is hx 120 rfl]
    rcases Nat.lt_or_ge (k + 2) S.size with l2 | l2
    · rw [drop_cons (show k + 1 + 1 < S.size by omega), drop_end (show S.size ≤ k + 1 + 1 + 1 by omega)]
      exact bareGo_x1 _
    · rw [drop_end (show S.size ≤ k + 1 + 1 by omega)]
      exact bareGo_x0
  · exact bareGo_self (byte_ne h2 110 rfl) (byte_ne hx 120 rfl) _
theorem bytes_two (h : k + 3 < S.size) : bytesR [S[k + 2], S[k + 3]] = if hv S[k + 2] < 16 ∧ hv S[k + 3] < 16 then some [UInt8.ofNat (hv S[k + 2] * 16 + hv S[k + 3])] else none := by
  unfold bytesR
  rw [if_neg (by simp), pairs]
  split <;> simp [pairs]
/-- What stands behind a sign. -/
theorem rest_facts (h : k < S.size) : ∃ R : ByteArray, R = S.extract k S.size ∧ R.size = S.size - k ∧ (∀ j (h : j < R.size) (h2 : k + j < S.size), R[j] = S[k + j]) ∧ (∀ (h3 : k + 2 < S.size), R.extract 1 3 = mkB [S[k + 1], S[k + 2]]) := by
  have hd : (S.data.toList.drop k).length = S.size - k := by rw [List.length_drop, size_len]
  have e : S.extract k S.size = mkB (S.data.toList.drop k) := by rw [extract_list, List.take_of_length_le (by omega)]
  refine ⟨mkB (S.data.toList.drop k), e.symm, by rw [mkB_size, hd], fun j hj h2 => ?_, fun h3 => ?_⟩
  · rw [mkB_get (by omega), List.getElem_drop, get_len h2]
  · rw [extract_list, mkB_toList, List.drop_drop, drop_cons (show k + 1 < S.size by omega), drop_cons (show k + 1 + 1 < S.size by omega)]
    rfl
end
theorem Bld.below {B b : Nat} {bs : List UInt8} {w w' : World} (h : Bld B b bs w) (hb : Below w.heap.size w w') : Bld B b bs w' := by
  have key : ∀ p, BldAt B b p bs w → BldAt B b p bs w' := by
    rintro p ⟨hB, v, hbk, hown, hne⟩
    have hlt : b < w.heap.size := by
      rcases Nat.lt_or_ge b w.heap.size with h' | h'
      · exact h'
      · simp [Array.getElem?_eq_none h'] at hbk
    refine ⟨hB, v, (hb.block b hlt).trans hbk, ?_, hne⟩
    refine World.ownsRow.kept (row := none) hown ⟨hb.os, hb.tape, hb.output, hb.size, fun k hk _ => hb.block k hk⟩ ?_
    cases hv : v.ownBlock with
    | none => exact .inl rfl
    | some g => exact .inr (by simp)
  exact h.imp (key _) (key _)
theorem pre_one (l : List UInt8) : Lib.hasPrefix l [34] = decide (l.head? = some 34) := by
  unfold Lib.hasPrefix
  cases l with
  | nil => rfl
  | cons c l =>
    simp [List.isPrefixOf]
    by_cases h : (34 : UInt8) = c
    · simp [h]
    · simp [h, Ne.symm h]
theorem suf_one (l : List UInt8) : Lib.hasSuffix l [34] = decide (l.getLast? = some 34) := by
  unfold Lib.hasSuffix
  rw [List.isSuffixOf]
  cases hl : l.getLast? with
  | none =>
    rw [List.getLast?_eq_none_iff] at hl
    subst hl
    rfl
  | some c =>
    have : l.reverse.head? = some c := by rw [List.head?_reverse, hl]
    cases hr : l.reverse with
    | nil => rw [hr] at this; cases this
    | cons d r =>
      rw [hr] at this
      injection this with this
      subst this
      simp [List.isPrefixOf]
      by_cases h : (34 : UInt8) = d
      · simp [h]
      · simp [h, Ne.symm h]

def BaA (S : ByteArray) (w0 : World) (b : Nat) (i : Value) (w : World) : Prop :=
  ∃ (k : Nat) (o : List UInt8), k ≤ S.size ∧ i = .int .i64 k ∧ o.length ≤ k ∧ Bld w0.heap.size b o w ∧ Below w0.heap.size w0 w ∧ b < w.heap.size ∧ bareGo S.data.toList = (bareGo (S.data.toList.drop k)).map (o ++ ·)
def strO (o : Option (List UInt8)) : Option Value := o.map fun x => .string (mkB x)
theorem OptPost.bad {o : Option (List UInt8)} {w w' : World} (h : o = none) (hb : Below w.heap.size w w') : OptPost (strO o) w (.panicked wrongC) w' :=
  ⟨hb, fun y hy => (by rw [h] at hy; cases hy), fun _ => rfl⟩
theorem OptPost.str {o : Option (List UInt8)} {x : List UInt8} {w w' : World} (h : o = some x) (hb : Below w.heap.size w w') : OptPost (strO o) w (.returned (.string (mkB x))) w' :=
  ⟨hb, fun y hy => (by rw [h] at hy; injection hy with hy; rw [← hy]), fun hn => (by rw [h] at hn; cases hn)⟩

set_option maxRecDepth 100000 in
set_option maxHeartbeats 8000000 in
theorem bare_any (l : ByteArray) (hl : l.size ≤ 5000) (w : World) :
    Calls Tryz.prog 22 #[.string l] w (OptPost (strO (bareP l.data.toList)) w) := by
  have hp := pre_one l.data.toList
  by_cases h34 : l.data.toList.head? = some 34
  · have hp1 : Lib.hasPrefix l.data.toList [34] = true := by rw [hp]; simpa using h34
    obtain ⟨t, ht⟩ : ∃ t, l.data.toList = 34 :: t := by
      cases hll : l.data.toList with
      | nil => rw [hll] at h34; cases h34
      | cons c t =>
        rw [hll] at h34
        injection h34 with h34
        exact ⟨t, by rw [h34]⟩
    have hT1 : Lib.trimPrefix l.data.toList [34] = t := by unfold Lib.trimPrefix; rw [if_pos hp1, ht]; rfl
    have htl : t.length ≤ 5000 := by have := size_len l; rw [ht] at this; simp at this; omega
    have HC := Lib.hid (show ∀ W, Calls Tryz.prog 50 #[.string l, .string ⟨#[34]⟩] W fun e w' => e = .returned (.tuple #[.string (mkB t), .bool true]) ∧ w' = W from fun W =>
      (Tryz.strings_CutPrefix l ⟨#[34]⟩ W).mono fun e w' ⟨h1, h2⟩ => ⟨by rw [h1]; show Ending.returned (.tuple #[.string ⟨(Lib.trimPrefix l.data.toList [34]).toArray⟩, .bool (Lib.hasPrefix l.data.toList [34])]) = _; rw [hp1, hT1]; rfl, h2⟩)
    have hs := suf_one t
    by_cases h35 : t.getLast? = some 34
    · have hs1 : Lib.hasSuffix t [34] = true := by rw [hs]; simpa using h35
      have htn : 1 ≤ t.length := by
        cases t with
        | nil => cases h35
        | cons c t => simp
      have hT2 : Lib.trimSuffix t [34] = t.dropLast := by unfold Lib.trimSuffix; rw [if_pos hs1, List.dropLast_eq_take]; rfl
      have HB := Lib.hid (show bareP l.data.toList = bareGo t.dropLast by
        unfold bareP
        rw [ht, if_pos ⟨rfl, by simp; omega, by
          cases t with
          | nil => simp at htn
          | cons c t => rw [List.getLast?_cons_cons]; exact h35⟩]
        rfl)
      obtain ⟨S, hS⟩ : ∃ S, S = mkB t.dropLast := ⟨_, rfl⟩
      have HD := Lib.hid (show ∀ W, Calls Tryz.prog 51 #[.string (mkB t), .string ⟨#[34]⟩] W fun e w' => e = .returned (.tuple #[.string S, .bool true]) ∧ w' = W from fun W =>
        (Tryz.strings_CutSuffix (mkB t) ⟨#[34]⟩ W (by rw [mkB_size]; omega)).mono fun e w' ⟨h1, h2⟩ => ⟨by rw [h1]; show Ending.returned (.tuple #[.string ⟨(Lib.trimSuffix t [34]).toArray⟩, .bool (Lib.hasSuffix t [34])]) = _; rw [hs1, hT2, hS]; rfl, h2⟩)
      have HBS := Lib.hid (show bareP l.data.toList = bareGo S.data.toList by rw [HB.out, hS]; rfl)
      have hSz : S.size ≤ 5000 := by rw [hS, mkB_size]; simp; omega
      clear hS HB hT2 hs1 hs h35 hT1 hp1 hp h34 ht htn
      go_enter Tryz.func22, Tryz.ntmps22
      go_wp2_with fail
      refine (HC.out _).mono ?_
      rintro e w1 ⟨rfl, rfl⟩
      go_wp2_with fail
      refine (HD.out _).mono ?_
      rintro e w2 ⟨rfl, rfl⟩
      go_wp2_with fail
      clear HC HD
      go_loopw [6] (BaA S w2 w2.heap.size) (fun i _ => S.size - (intOf i).toNat)
      case atStart => exact ⟨0, [], by omega, rfl, by simp, bld_new w2, below_one _ _, by simp, by simp⟩
      case round =>
        obtain ⟨k, o, hk, rfl, hok, hbd, hbw, hbs, hbg⟩ := hrel
        have HX := Lib.hid hbg
        clear hbg
        by_cases hlt : k < S.size
        · by_cases c92 : S[k].toNat = 92
          · have n92 : (((S[k].toNat : Nat) : Int) != 92) = false := by unfold bne; rw [show (((S[k].toNat : Nat) : Int) == 92) = true from eq8 c92]; rfl
            by_cases hl1 : k + 1 < S.size
            · obtain ⟨R, hR, hRs, hRg, hRx⟩ := rest_facts hl1
              have hR0 : 0 < R.size := by omega
              have g0 : R[0] = S[k + 1] := hRg 0 hR0 hl1
              clear hRg
              have m1 : min ((k : Int) + 1) ((S.size : Nat) : Int) = ((k + 1 : Nat) : Int) := by omega
              have e0 : (R.toList == ([] : List UInt8)) = false := by
                rw [Lib.toList_data, beq_eq_false_iff_ne]
                intro h
                have := size_len R
                rw [h] at this
                simp at this
                omega
              by_cases c110 : S[k + 1].toNat = 110
              · have d110 : (((S[k + 1].toNat : Nat) : Int) == (110 : Int)) = true := eq8 c110
                have HST := Lib.hid (bs_line hl1 c92 c110)
                have HW := Lib.hid (builder_WriteByte w2.heap.size w2.heap.size o 10 _ rfl wr hbd (by omega) hbw.size)
                clear c110 c92
                go_upto_region 14 with fail
                rw [← hR]
                clear hR
                go_wp2_with fail
                refine HW.out.mono ?_
                rintro e w3 ⟨rfl, h1, h2⟩
                go_wp2_with fail
                go_roundw
                case rel => exact ⟨k + 2, o ++ [10], by omega, by go_num, by simp; omega, h1, hbw.trans h2, Nat.lt_of_lt_of_le hbs h2.size, by rw [HX.out, HST.out]; simp [Function.comp_def]⟩
                case measure => simp [intOf]; omega
              have d110 : (((S[k + 1].toNat : Nat) : Int) == (110 : Int)) = false := neq8 c110
              by_cases c120 : S[k + 1].toNat = 120
              · have d120 : (((S[k + 1].toNat : Nat) : Int) == (120 : Int)) = true := eq8 c120
                by_cases h3 : k + 3 < S.size
                · have r2 : (2 : Int) < ((R.size : Nat) : Int) := by omega
                  have r3 : 3 ≤ R.size := by omega
                  have HRX := Lib.hid (show R.extract 1 3 = mkB [S[k + 2], S[k + 3]] from hRx h3)
                  have HST := Lib.hid (bs_hex h3 c92 c120)
                  have HBT := Lib.hid (bytes_two h3)
                  have HWR := Lib.hid (fun v l W h hy hl hB => builder_Write w2.heap.size w2.heap.size wr.heap.size o v l W h hy hbs hl hB)
                  clear hRx c110 c120 c92
                  go_upto_region 14 with fail
                  rw [← hR]
                  clear hR
                  go_wp2_with fail
                  rw [HRX.out]
                  refine (bytes_any (mkB [S[k + 2], S[k + 3]]) (by rw [mkB_size]; simp) _).mono ?_
                  rintro e w3 ⟨hb3, hg, hbad⟩
                  rw [mkB_toList, HBT.out] at hg hbad
                  by_cases hh : hv S[k + 2] < 16 ∧ hv S[k + 3] < 16
                  · obtain ⟨v, rfl, hown⟩ := hg _ (if_pos hh)
                    have HH := Lib.hid hh
                    clear hg hbad hh
                    have hbd3 := Bld.below hbd hb3
                    have hown1 := hown.byts.one
                    go_wp2_with fail
                    refine (HWR.out v _ _ hbd3 hown (by simp; omega) (Nat.le_trans hbw.size hb3.size)).mono ?_
                    rintro e w4 ⟨⟨n, rfl⟩, h1, h2⟩
                    go_wp2_with fail
                    go_roundw
                    case rel => exact ⟨k + 4, o ++ [UInt8.ofNat (hv S[k + 2] * 16 + hv S[k + 3])], by omega, by go_num, by simp; omega, .inr h1, (hbw.trans (hb3.mono hbw.size)).trans h2, Nat.lt_of_lt_of_le hbs (Nat.le_trans hb3.size h2.size), by rw [HX.out, HST.out, if_pos HH.out]; simp [Function.comp_def]⟩
                    case measure => simp [intOf]; omega
                  · have := hbad (if_neg hh)
                    subst this
                    exact ⟨rfl, OptPost.bad (by rw [HBS.out, HX.out, HST.out, if_neg hh]; rfl) (hbw.trans (hb3.mono hbw.size))⟩
                · have r2 : ¬ (2 : Int) < ((R.size : Nat) : Int) := by omega
                  have HST := Lib.hid (bs_self hl1 c92 c110 fun _ => by omega)
                  have HW := Lib.hid (builder_WriteByte w2.heap.size w2.heap.size o S[k + 1] _ rfl wr hbd (by omega) hbw.size)
                  clear c110 c120 c92
                  go_upto_region 14 with fail
                  rw [← hR]
                  clear hR
                  go_wp2_with fail
                  refine HW.out.mono ?_
                  rintro e w3 ⟨rfl, h1, h2⟩
                  go_wp2_with fail
                  go_roundw
                  case rel => exact ⟨k + 2, o ++ [S[k + 1]], by omega, by go_num, by simp; omega, h1, hbw.trans h2, Nat.lt_of_lt_of_le hbs h2.size, by rw [HX.out, HST.out]; simp [Function.comp_def]⟩
                  case measure => simp [intOf]; omega
              · have d120 : (((S[k + 1].toNat : Nat) : Int) == (120 : Int)) = false := neq8 c120
                have HST := Lib.hid (bs_self hl1 c92 c110 fun h => absurd h c120)
                have HW := Lib.hid (builder_WriteByte w2.heap.size w2.heap.size o S[k + 1] _ rfl wr hbd (by omega) hbw.size)
                clear c110 c120 c92
                go_upto_region 14 with fail
                rw [← hR]
                clear hR
                go_wp2_with fail
                refine HW.out.mono ?_
                rintro e w3 ⟨rfl, h1, h2⟩
                go_wp2_with fail
                go_roundw
                case rel => exact ⟨k + 2, o ++ [S[k + 1]], by omega, by go_num, by simp; omega, h1, hbw.trans h2, Nat.lt_of_lt_of_le hbs h2.size, by rw [HX.out, HST.out]; simp [Function.comp_def]⟩
                case measure => simp [intOf]; omega
            · have m1 : min ((k : Int) + 1) ((S.size : Nat) : Int) = ((S.size : Nat) : Int) := by omega
              have HST := Lib.hid (bs_end hlt c92 (by omega))
              have hRe : S.extract S.size S.size = mkB [] := by rw [extract_list]; simp
              go_wp2_with fail
              exact ⟨rfl, OptPost.bad (by rw [HBS.out, HX.out, HST.out]; rfl) hbw⟩
          · have n92 : (((S[k].toNat : Nat) : Int) != 92) = true := by unfold bne; rw [show (((S[k].toNat : Nat) : Int) == 92) = false from neq8 c92]; rfl
            have HST := Lib.hid (bs_plain hlt c92)
            have HW := Lib.hid (builder_WriteByte w2.heap.size w2.heap.size o S[k] _ rfl wr hbd (by omega) hbw.size)
            go_wp2_with fail
            refine HW.out.mono ?_
            rintro e w3 ⟨rfl, h1, h2⟩
            go_wp2_with fail
            go_roundw
            case rel => exact ⟨k + 1, o ++ [S[k]], by omega, by go_num, by simp; omega, h1, hbw.trans h2, Nat.lt_of_lt_of_le hbs h2.size, by rw [HX.out, HST.out]; simp [Function.comp_def]⟩
            case measure => simp [intOf]; omega
        · have hke : k = S.size := by omega
          go_wp2_with fail
          refine (builder_String _ _ o _ hbd hbw.size).mono ?_
          rintro e w3 ⟨rfl, h2⟩
          go_wp2_with fail
          go_ret
          exact OptPost.str (by rw [HBS.out, HX.out, drop_end (by omega)]; simp [bareGo]) (hbw.trans h2)
    · have hs1 : Lib.hasSuffix t [34] = false := by rw [hs]; simpa using h35
      have hT2 : Lib.trimSuffix t [34] = t := by unfold Lib.trimSuffix; rw [if_neg (by rw [hs1]; decide)]
      have HB := Lib.hid (show bareP l.data.toList = none by
        unfold bareP
        rw [if_neg]
        rintro ⟨_, h2, h3⟩
        rw [ht] at h2 h3
        cases t with
        | nil => simp at h2
        | cons c t => rw [List.getLast?_cons_cons] at h3; exact h35 h3)
      have HD := Lib.hid (show ∀ W, Calls Tryz.prog 51 #[.string (mkB t), .string ⟨#[34]⟩] W fun e w' => e = .returned (.tuple #[.string (mkB t), .bool false]) ∧ w' = W from fun W =>
        (Tryz.strings_CutSuffix (mkB t) ⟨#[34]⟩ W (by rw [mkB_size]; omega)).mono fun e w' ⟨h1, h2⟩ => ⟨by rw [h1]; show Ending.returned (.tuple #[.string ⟨(Lib.trimSuffix t [34]).toArray⟩, .bool (Lib.hasSuffix t [34])]) = _; rw [hs1, hT2]; rfl, h2⟩)
      clear hT2 hs1 hs h35 hT1 hp1 hp h34 ht
      go_enter Tryz.func22, Tryz.ntmps22
      go_wp2_with fail
      refine (HC.out _).mono ?_
      rintro e w1 ⟨rfl, rfl⟩
      go_wp2_with fail
      refine (HD.out _).mono ?_
      rintro e w2 ⟨rfl, rfl⟩
      go_wp2_with fail
      exact ⟨rfl, OptPost.bad HB.out (Below.refl _ _)⟩
  · have hp1 : Lib.hasPrefix l.data.toList [34] = false := by rw [hp]; simpa using h34
    have hT1 : Lib.trimPrefix l.data.toList [34] = l.data.toList := by unfold Lib.trimPrefix; rw [if_neg (by rw [hp1]; decide)]
    have HC := Lib.hid (show ∀ W, Calls Tryz.prog 50 #[.string l, .string ⟨#[34]⟩] W fun e w' => e = .returned (.tuple #[.string l, .bool false]) ∧ w' = W from fun W =>
      (Tryz.strings_CutPrefix l ⟨#[34]⟩ W).mono fun e w' ⟨h1, h2⟩ => ⟨by rw [h1]; show Ending.returned (.tuple #[.string ⟨(Lib.trimPrefix l.data.toList [34]).toArray⟩, .bool (Lib.hasPrefix l.data.toList [34])]) = _; rw [hp1, hT1], h2⟩)
    have HB := Lib.hid (show bareP l.data.toList = none by unfold bareP; rw [if_neg (fun h => h34 h.1)])
    have HD := Lib.hid (fun W => Tryz.strings_CutSuffix l ⟨#[34]⟩ W (by omega))
    clear hT1 hp1 hp h34
    go_enter Tryz.func22, Tryz.ntmps22
    go_wp2_with fail
    refine (HC.out _).mono ?_
    rintro e w1 ⟨rfl, rfl⟩
    go_wp2_with fail
    refine (HD.out _).mono ?_
    rintro e w2 ⟨rfl, rfl⟩
    go_wp2_with fail
    exact ⟨rfl, OptPost.bad HB.out (Below.refl _ _)⟩

end Go.Proofs.YtaoehdmdjplegaaGreatDoor
