/-
  Rows of pieces in memory: owned, appended to, written into, read.
-/
import Derived.RangeFuncBox
import Derived.RangeFuncLeaves
import Derived.RangeFuncNested
import Derived.Shelf.Abstract
import Derived.WalkKit
import Derived.OwnWalkIn
import Derived.TacticsInMore
import Derived.LoopNIn
import Derived.LoopIn
import Derived.Maps.AppendAt
import Derived.Test.YtlfmeagdelmlpaaDoorBreakPlain2
import Derived.Test.YtlfmeagdelmlpaaDoorWords
import Derived.Test.YtlfmeagdelmlpaaDoorProg
namespace Go.Proofs.YtlfmeagdelmlpaaDoor
open Go.RowKit Go.Shelf

def mkB (l : List UInt8) : ByteArray := ⟨l.toArray⟩
theorem mkB_data (s : ByteArray) : mkB s.data.toList = s := rfl
theorem mkB_size (l : List UInt8) : (mkB l).size = l.length := by simp [mkB, ByteArray.size]
theorem mkB_toList (l : List UInt8) : (mkB l).data.toList = l := rfl
theorem byteArray_ext {a b : ByteArray} (h : a.data.toList = b.data.toList) : a = b := by
  obtain ⟨⟨a⟩⟩ := a
  obtain ⟨⟨b⟩⟩ := b
  simp at h
  rw [h]
theorem append_data (a b : ByteArray) : (a ++ b).data.toList = a.data.toList ++ b.data.toList := by simp
theorem mkB_append (a b : List UInt8) : mkB a ++ mkB b = mkB (a ++ b) := byteArray_ext (by rw [append_data]; rfl)
theorem size_len (s : ByteArray) : s.data.toList.length = s.size := by simp
theorem get_len {s : ByteArray} {k : Nat} (h : k < s.size) : s.data.toList[k]'(by simpa using h) = s[k] := by simp [ByteArray.getElem_eq_getElem_data]
theorem getD_len {s : ByteArray} {k : Nat} (h : k < s.size) : s.data.toList.getD k 0 = s[k] := by
  have h' : k < s.data.toList.length := by simpa using h
  rw [List.getD_eq_getElem?_getD, List.getElem?_eq_getElem h', Option.getD_some, get_len h]
theorem extract_mkB (s : ByteArray) (a b : Nat) : s.extract a b = mkB (sub s.data.toList (a, b)) := byteArray_ext (by rw [Go.Lib.extract_data]; rfl)
theorem extract_one {s : ByteArray} {k : Nat} (h : k < s.size) : s.extract k (k + 1) = mkB [s[k]] := by
  rw [extract_mkB, sub_one (by simpa using h), get_len h]

theorem Tryd.infoPiece : (Tryd.prog.info? 26).map (fun i => (i.zero, i.size, i.bytes)) = some (some (.agg #[.int .u8 0, .string ⟨#[]⟩]), 2, 24) := by kernel_rfl
def encP (p : Pc) : List Value := [.int .u8 (p.1 : Nat), .string (mkB p.2)]
def rowP (L : List Pc) : List Value := L.flatMap encP
theorem rowP_snoc (L : List Pc) (x : Pc) : rowP (L ++ [x]) = rowP L ++ encP x := by simp [rowP]
theorem rowP_len : ∀ L : List Pc, (rowP L).length = L.length * 2
  | [] => rfl
  | x :: L => by
    show (encP x ++ rowP L).length = _
    rw [List.length_append, rowP_len L]
    simp [encP]
    omega
theorem rowP_at : ∀ {L : List Pc} {k : Nat} (hk : k < L.length), (rowP L)[k * 2]? = some (.int .u8 ((L[k]).1 : Nat)) ∧ (rowP L)[k * 2 + 1]? = some (.string (mkB (L[k]).2))
  | x :: L, 0, _ => by
    show (encP x ++ rowP L)[_]? = _ ∧ (encP x ++ rowP L)[_]? = _
    simp [encP]
  | x :: L, k + 1, hk => by
    have h := rowP_at (L := L) (k := k) (by simpa using hk)
    show (encP x ++ rowP L)[_]? = _ ∧ (encP x ++ rowP L)[_]? = _
    rw [List.getElem?_append_right (by simp [encP]; omega), List.getElem?_append_right (by simp [encP]; omega)]
    rw [show (k + 1) * 2 - (encP x).length = k * 2 by simp [encP]; omega, show (k + 1) * 2 + 1 - (encP x).length = k * 2 + 1 by simp [encP]; omega]
    simpa using h
def OwnsP (w : World) (base : Nat) (v : Value) (L : List Pc) : Prop := w.ownsRow base 26 2 v L.length (rowP L)
theorem OwnsP.nil (w : World) (base : Nat) : OwnsP w base (.slice none 0 0) [] := World.ownsRow_nil _ _ _ _
theorem OwnsP.below {w w' : World} {base : Nat} {v : Value} {L : List Pc} (h : OwnsP w base v L) (hb : Below w.heap.size w w') : OwnsP w' base v L := by
  refine World.ownsRow.kept (row := none) h ⟨hb.os, hb.tape, hb.output, hb.size, fun k hk _ => hb.block k hk⟩ ?_
  cases hv : v.ownBlock with
  | none => exact .inl rfl
  | some g => exact .inr (by simp)
theorem OwnsP.base_le {w : World} {base base' : Nat} {v : Value} {L : List Pc} (h : OwnsP w base v L) (hb : base' ≤ base) : OwnsP w base' v L := by
  obtain ⟨h1, h2⟩ := h
  refine ⟨h1, ?_⟩
  rcases h2 with h2 | ⟨g, cap, cur, e, hg, r⟩
  · exact .inl h2
  · exact .inr ⟨g, cap, cur, e, by omega, r⟩
/-- A slice of pieces, read: what its cells hold. -/
def PiecesIn (w : World) (lo hi : Nat) (v : Value) (L : List Pc) : Prop :=
  (L = [] ∧ ∃ A c, v = .slice A 0 c) ∨ ∃ g cap, v = .slice (some ⟨g, 0, none⟩) L.length cap ∧ 0 < L.length ∧ lo ≤ g ∧ g < hi ∧ L.length ≤ cap ∧
    (∀ k (h : k < L.length), w.cell? ⟨g, k * 2, none⟩ = some (.int .u8 ((L[k]).1 : Nat)) ∧ w.cell? ⟨g, k * 2 + 1, none⟩ = some (.string (mkB (L[k]).2))) ∧ ∀ o, w.frozen? ⟨g, o, none⟩ = false
theorem OwnsP.pieces {w : World} {base : Nat} {v : Value} {L : List Pc} (h : OwnsP w base v L) : PiecesIn w base w.heap.size v L := by
  rcases h.2 with ⟨rfl, h0⟩ | ⟨g, cap, cur, rfl, hg, hb, hc, _, hs, ht⟩
  · exact .inl ⟨List.eq_nil_of_length_eq_zero h0, _, _, by first | rfl | rw [h0]⟩
  · rcases Nat.eq_zero_or_pos L.length with h0 | h0
    · exact .inl ⟨List.eq_nil_of_length_eq_zero h0, _, _, by rw [h0]⟩
    · refine .inr ⟨g, cap, rfl, h0, hg, (Array.getElem?_eq_some_iff.1 hb).1, hc, fun k hk => ?_, fun o => by simp [World.frozen?, hb]⟩
      have hcell : ∀ j, j < L.length * 2 → w.cell? ⟨g, j, none⟩ = (rowP L)[j]? := fun j hj => by
        rw [cell_of_row w g j cur _ _ hb, ← ht, List.getElem?_take_of_lt hj, Array.getElem?_toList]
      obtain ⟨a, b⟩ := rowP_at hk
      exact ⟨(hcell _ (by omega)).trans a, (hcell _ (by omega)).trans b⟩
theorem PiecesIn.below {w w' : World} {lo hi : Nat} {v : Value} {L : List Pc} (h : PiecesIn w lo hi v L) (hb : Below hi w w') : PiecesIn w' lo hi v L := by
  rcases h with h | ⟨g, cap, e, h0, h1, h2, h3, hc, hf⟩
  · exact .inl h
  · exact .inr ⟨g, cap, e, h0, h1, h2, h3, fun k hk => ⟨(hb.cell (p := ⟨g, k * 2, none⟩) h2).trans (hc k hk).1, (hb.cell (p := ⟨g, k * 2 + 1, none⟩) h2).trans (hc k hk).2⟩, fun o => (World.frozen?_of_block (a := ⟨g, o, none⟩) (hb.block g h2)).trans (hf o)⟩
theorem PiecesIn.more {w : World} {lo hi hi' : Nat} {v : Value} {L : List Pc} (h : PiecesIn w lo hi v L) (hh : hi ≤ hi') : PiecesIn w lo hi' v L := by
  rcases h with h | ⟨g, cap, e, h0, h1, h2, r⟩
  · exact .inl h
  · exact .inr ⟨g, cap, e, h0, h1, by omega, r⟩
/-- The slice's own form. -/
theorem PiecesIn.form {w : World} {lo hi : Nat} {v : Value} {L : List Pc} (h : PiecesIn w lo hi v L) : ∃ A c, v = .slice A L.length c := by
  rcases h with ⟨rfl, A, c, e⟩ | ⟨g, cap, e, _⟩
  · exact ⟨A, c, e⟩
  · exact ⟨_, _, e⟩

theorem cells_piece (W : World) (x : Pc) : ∀ j u, (encP x)[j]? = some u → (W.alloc (.cells #[.int .u8 (x.1 : Nat), .string (mkB x.2)] 26)).cell? ((⟨W.heap.size, 0, none⟩ : Addr).add j) = some u := fun j u hu => by
  have e : (⟨W.heap.size, 0, none⟩ : Addr).add j = ⟨W.heap.size, j, none⟩ := by unfold Addr.add; split <;> simp_all
  rw [e, (Blk.new W 26 #[.int .u8 (x.1 : Nat), .string (mkB x.2)]).cell j]
  simpa [encP] using hu

/-- 'l = append(l, p)': the one piece lies in a new block of its own. -/
theorem append_piece {ops : Array Oper} {rest : List Oper} {o : Oper} {a : Act} {Q : Exit → Act → World → Prop} (w : World) (p : Pc) (k : Value) (t : Value) (hk : k = .int .u8 (p.1 : Nat)) (ht : t = .string (mkB p.2)) (hgd : o.guard = none) (s y : Operand)
    (ho : o.op = .call { callee := .builtin .append, args := #[s, y], argTypes := #[22, 22] })
    (base : Nat) (v : Value) (L : List Pc) (hs : a.eval s = v) (hown : OwnsP w base v L)
    (hx : a.eval y = .slice (some ⟨w.heap.size, 0, none⟩) 1 1)
    (h47 : L.length < 1000000) (hbase : base ≤ w.heap.size)
    (h : ∀ v' w', OwnsP w' base v' (L ++ [p]) → Below base w w' → wpList Tryd.prog ops Q rest (a.put o.dst v') w') : wpList Tryd.prog ops Q (o :: rest) a (w.alloc (.cells #[k, t] 26)) := by
  subst hk ht
  obtain ⟨i0, hi0, hz0, hz1, hz2⟩ := info_parts Tryd.infoPiece
  have hlt := fun k (e : v.ownBlock = some k) => (World.ownsRow.lt hown k e).1
  refine wpList_append_any _ hgd s y _ ho base 26 i0 _ 2 24 Tryd.underlying22 hi0 hz0 hz1 hz2 rfl (by omega) v _ _ hs (World.ownsRow.alloc hown _) (w.heap.size + 1) _ 1 1 (encP p) hx ?_ ?_ (by simp only [maxLen]; omega) (by omega) (by simp; omega) ?_
  · exact ⟨rfl, fun _ => ⟨_, rfl, by simp, cells_piece w p⟩⟩
  · intro u hu
    simp [encP] at hu
    rcases hu with rfl | rfl <;> rfl
  · intro v' w' h1 h2 _
    refine h v' w' (by unfold OwnsP; rw [List.length_append, rowP_snoc]; exact h1) ?_
    exact ((Below.refl base w).alloc hbase _).grown h2 (by simp; omega) (fun k e => hlt k e)

/-- A row of one piece, written out. -/
theorem OwnsP.built (w : World) (base : Nat) (hb : base ≤ w.heap.size) (p : Pc) : OwnsP (w.alloc (.cells #[.int .u8 (p.1 : Nat), .string (mkB p.2)] 26)) base (.slice (some ⟨w.heap.size, 0, none⟩) 1 1) [p] := by
  refine ⟨by simp [rowP, encP], .inr ⟨w.heap.size, 1, #[.int .u8 (p.1 : Nat), .string (mkB p.2)], rfl, hb, heap_alloc_new w _, Nat.le_refl _, by simp [maxLen], rfl, by simp [rowP, encP]⟩⟩

/-- A text is written into a row of the call's own. -/
theorem OwnsP.setText {w : World} {base g cap : Nat} {L : List Pc} (h : OwnsP w base (.slice (some ⟨g, 0, none⟩) L.length cap) L) {k : Nat} (hk : k < L.length) (t : List UInt8) :
    OwnsP (w.setCell ⟨g, k * 2 + 1, none⟩ (.string (mkB t))) base (.slice (some ⟨g, 0, none⟩) L.length cap) (L.set k ((L[k]).1, t)) := by
  rcases h.2 with ⟨e, _⟩ | ⟨g', cap', cur, e, hg, hb, hc, hm, hs, ht⟩
  · cases e
  · have e1 : g' = g ∧ cap' = cap := by
      injection e with e1 _ e2
      injection e1 with e1
      injection e1 with e1
      exact ⟨e1.symm, e2.symm⟩
    obtain ⟨rfl, rfl⟩ := e1
    refine ⟨by rw [rowP_len], .inr ⟨g', cap', cur.setIfInBounds (k * 2 + 1) (.string (mkB t)), by rw [List.length_set], hg, ?_, by rw [List.length_set]; exact hc, hm, by simpa using hs, ?_⟩⟩
    · simp [World.setCell, Array.getElem?_modify, hb]
    · rw [List.length_set]
      apply List.ext_getElem?
      intro j
      rw [List.getElem?_take]
      have hrow : ∀ j, j < L.length * 2 → cur[j]? = (rowP L)[j]? := fun j hj => by
        rw [← ht, List.getElem?_take_of_lt hj, Array.getElem?_toList]
      by_cases hj : j < L.length * 2
      · rw [if_pos hj]
        have hi : j / 2 < L.length := by omega
        obtain ⟨a1, a2⟩ := rowP_at (L := L.set k ((L[k]).1, t)) (k := j / 2) (by rw [List.length_set]; exact hi)
        obtain ⟨b1, b2⟩ := rowP_at (L := L) hi
        rw [List.getElem_set] at a1 a2
        rw [Array.getElem?_toList, Array.getElem?_setIfInBounds]
        rcases Nat.mod_two_eq_zero_or_one j with hm2 | hm2
        · rw [show j / 2 * 2 = j by omega] at a1 b1
          rw [if_neg (by omega), hrow j hj, a1, b1]
          by_cases hkj : k = j / 2
          · subst hkj; simp
          · rw [if_neg hkj]
        · rw [show j / 2 * 2 + 1 = j by omega] at a2 b2
          rw [a2]
          by_cases hkj : k = j / 2
          · subst hkj
            rw [if_pos rfl, if_pos (by omega)]
            have : j < cur.size := by
              have := hrow j hj
              rw [b2] at this
              exact (Array.getElem?_eq_some_iff.1 this).1
            rw [if_pos (show j / 2 * 2 + 1 < cur.size by omega)]
          · rw [if_neg hkj, if_neg (by omega), hrow j hj, b2]
      · rw [if_neg hj, List.getElem?_eq_none (by rw [rowP_len, List.length_set]; omega)]

end Go.Proofs.YtlfmeagdelmlpaaDoor
