/-
  A struct of plain cells, compared with another one.
-/
import Derived.DeepKeys
import Derived.Test.YtaoehdmdjplegaaGreatDoorEvC
namespace Go.Proofs.YtaoehdmdjplegaaGreatDoor
open Go.RowKit Go.Shelf

/-- The plain types that a type is made of, in order. -/
def shpF (P : Program) (sh : TypeId → Option (List TypeId)) : List Field → Nat → Option (List TypeId)
  | [], _ => some []
  | f :: fs, o => match sh f.type with
    | none => none
    | some l => if f.offset = o ∧ P.cellsOf f.type = l.length then (shpF P sh fs (o + l.length)).map (l ++ ·) else none
def shp (P : Program) : Nat → TypeId → Option (List TypeId)
  | 0, _ => none
  | d + 1, t => match P.underlying t with
    | some .bool | some (.int _) | some .string => some [t]
    | some (.array n e) => match shp P d e with
      | none => none
      | some l => if P.cellsOf e = l.length ∧ P.cellsOf t = n * l.length then some (List.replicate n l).flatten else none
    | some (.struct fs) => match shpF P (shp P d) fs.toList 0 with
      | none => none
      | some l => if fs.all (·.name != "_") = true ∧ P.cellsOf t = l.length then some l else none
    | _ => none
def Lits (P : Program) : List TypeId → List Value → List Lit → Prop
  | [], [], [] => True
  | t :: ts, c :: cs, l :: ls => P.keyLits 1 t [c] = some [l] ∧ Lits P ts cs ls
  | _, _, _ => False
theorem Lits.len {P : Program} : ∀ {ts : List TypeId} {cs : List Value} {ls : List Lit}, Lits P ts cs ls → cs.length = ts.length ∧ ls.length = ts.length
  | [], [], [], _ => ⟨rfl, rfl⟩
  | _ :: _, _ :: _, _ :: _, ⟨_, h⟩ => by simp [(Lits.len h).1, (Lits.len h).2]
  | [], _ :: _, _, h => h.elim
  | [], [], _ :: _, h => h.elim
  | _ :: _, [], _, h => h.elim
  | _ :: _, _ :: _, [], h => h.elim
theorem Lits.split {P : Program} : ∀ (a : List TypeId) {b : List TypeId} {cs : List Value} {ls : List Lit}, Lits P (a ++ b) cs ls → ∃ c1 c2 l1 l2, cs = c1 ++ c2 ∧ ls = l1 ++ l2 ∧ Lits P a c1 l1 ∧ Lits P b c2 l2
  | [], b, cs, ls, h => ⟨[], cs, [], ls, rfl, rfl, trivial, h⟩
  | t :: a, b, c :: cs, l :: ls, ⟨h0, h⟩ => by
    obtain ⟨c1, c2, l1, l2, rfl, rfl, h1, h2⟩ := Lits.split a h
    exact ⟨c :: c1, c2, l :: l1, l2, rfl, rfl, ⟨h0, h1⟩, h2⟩
  | _ :: _, _, [], _, h => h.elim
  | _ :: _, _, _ :: _, [], h => h.elim
theorem keyLits_up {P : Program} {t : TypeId} (h : (match P.underlying t with | some .bool | some (.int _) | some .string => true | _ => false) = true) (d : Nat) (c : Value) : P.keyLits (d + 1) t [c] = P.keyLits 1 t [c] := by
  unfold Program.keyLits
  split at h
  · rename_i hu; simp only [hu]; cases c <;> rfl
  · rename_i hu; simp only [hu]; cases c <;> rfl
  · rename_i hu; simp only [hu]; cases c <;> rfl
  · cases h
theorem shpF_lits {P : Program} {d : Nat} (ih : ∀ t l, shp P d t = some l → ∀ cs ls, Lits P l cs ls → P.keyLits d t cs = some ls) (all : List Value) : ∀ (fs : List Field) (o : Nat) (l : List TypeId) (cs : List Value) (ls : List Lit), shpF P (shp P d) fs o = some l → Lits P l cs ls → all.drop o = cs →
    ∃ parts, fs.mapM (fun f => P.keyLits d f.type ((all.drop f.offset).take (P.cellsOf f.type))) = some parts ∧ parts.flatten = ls
  | [], o, l, cs, ls, h, hl, _ => by
    simp only [shpF] at h
    injection h with h
    subst h
    match cs, ls, hl with
    | [], [], _ => exact ⟨[], rfl, rfl⟩
  | f :: fs, o, l, cs, ls, h, hl, hd => by
    rw [shpF] at h
    split at h
    · cases h
    · rename_i l1 h1
      split at h
      · rename_i hc
        cases h2 : shpF P (shp P d) fs (o + l1.length) with
        | none => rw [h2] at h; cases h
        | some l2 =>
          rw [h2] at h
          injection h with h
          subst h
          obtain ⟨c1, c2, s1, s2, rfl, rfl, a1, a2⟩ := Lits.split l1 hl
          have hlen := (Lits.len a1).1
          have hd2 : all.drop (o + l1.length) = c2 := by
            rw [← List.drop_drop, hd, List.drop_append_of_le_length (by omega), List.drop_of_length_le (by omega)]; rfl
          obtain ⟨parts, p1, p2⟩ := shpF_lits ih all fs (o + l1.length) l2 c2 s2 h2 a2 hd2
          refine ⟨s1 :: parts, ?_, by simp [p2]⟩
          have e1 : (all.drop f.offset).take (P.cellsOf f.type) = c1 := by
            rw [hc.1, hc.2, hd, List.take_append_of_le_length (by omega), List.take_of_length_le (by omega)]
          rw [List.mapM_cons, e1, ih f.type l1 h1 c1 s1 a1, p1]; rfl
      · cases h
theorem shp_rep {P : Program} {d : Nat} {e : TypeId} {l : List TypeId} (ih : ∀ cs ls, Lits P l cs ls → P.keyLits d e cs = some ls) (all : List Value) : ∀ (n j : Nat) (cs : List Value) (ls : List Lit), Lits P (List.replicate n l).flatten cs ls → all.drop (j * l.length) = cs →
    ∃ parts, (List.range' j n).mapM (fun i => P.keyLits d e ((all.drop (i * l.length)).take l.length)) = some parts ∧ parts.flatten = ls
  | 0, j, cs, ls, hl, _ => by
    match cs, ls, hl with
    | [], [], _ => exact ⟨[], rfl, rfl⟩
  | n + 1, j, cs, ls, hl, hd => by
    rw [List.replicate_succ, List.flatten_cons] at hl
    obtain ⟨c1, c2, s1, s2, rfl, rfl, a1, a2⟩ := Lits.split l hl
    have hlen := (Lits.len a1).1
    have hd2 : all.drop ((j + 1) * l.length) = c2 := by
      rw [Nat.add_mul, Nat.one_mul, ← List.drop_drop, hd, List.drop_append_of_le_length (by omega), List.drop_of_length_le (by omega)]; rfl
    obtain ⟨parts, p1, p2⟩ := shp_rep ih all n (j + 1) c2 s2 a2 hd2
    refine ⟨s1 :: parts, ?_, by simp [p2]⟩
    have e1 : (all.drop (j * l.length)).take l.length = c1 := by
      rw [hd, List.take_append_of_le_length (by omega), List.take_of_length_le (by omega)]
    rw [List.range'_succ, List.mapM_cons, e1, ih c1 s1 a1, p1]; rfl
theorem shp_lits {P : Program} : ∀ (d : Nat) (t : TypeId) (l : List TypeId), shp P d t = some l → ∀ cs ls, Lits P l cs ls → P.keyLits d t cs = some ls
  | 0, _, _, h, _, _, _ => by cases h
  | d + 1, t, l, h, cs, ls, hl => by
    have one : (match P.underlying t with | some .bool | some (.int _) | some .string => true | _ => false) = true → l = [t] → P.keyLits (d + 1) t cs = some ls := by
      intro hp e
      subst e
      obtain ⟨c, rfl⟩ := List.length_eq_one_iff.1 (Lits.len hl).1
      obtain ⟨x, rfl⟩ := List.length_eq_one_iff.1 (Lits.len hl).2
      rw [keyLits_up hp]
      exact hl.1
    rw [shp] at h
    split at h
    · rename_i hu
      injection h with h
      exact one (by rw [hu]) h.symm
    · rename_i hu
      injection h with h
      exact one (by rw [hu]) h.symm
    · rename_i hu
      injection h with h
      exact one (by rw [hu]) h.symm
    · rename_i n e hu
      split at h
      · cases h
      · rename_i l1 h1
        split at h
        · rename_i hc
          injection h with h
          subst h
          have hlen := (Lits.len hl).1
          obtain ⟨parts, p1, p2⟩ := shp_rep (fun cs ls => shp_lits d e l1 h1 cs ls) cs n 0 cs ls hl (by simp)
          unfold Program.keyLits
          simp only [hu]
          rw [if_pos (by rw [hlen, hc.2]; simp), hc.1, List.range_eq_range', p1, ← p2]; rfl
        · cases h
    · rename_i fs hu
      split at h
      · cases h
      · rename_i l1 h1
        split at h
        · rename_i hc
          injection h with h
          subst h
          have hlen := (Lits.len hl).1
          obtain ⟨parts, p1, p2⟩ := shpF_lits (fun t l h cs ls => shp_lits d t l h cs ls) cs fs.toList 0 l1 cs ls h1 hl (by simp)
          unfold Program.keyLits
          simp only [hu]
          rw [if_pos ⟨by rw [hlen, hc.2], hc.1⟩, p1, ← p2]; rfl
        · cases h
    · cases h


def chSh : List TypeId := [5, 3, 3, 3, 3, 3, 5, 5, 4, 5, 3, 5, 3, 5, 3, 5, 3, 5, 3, 5, 3, 5, 3, 5, 3, 5, 3, 5, 3, 3, 3, 3, 3, 3, 3, 3, 3, 3, 3, 3, 5, 5, 5, 5, 5, 4, 5, 3, 3, 3, 3, 5, 3, 3, 9]
theorem shp_change : shp Tryz.prog 10 32 = some chSh := by kernel_rfl
theorem Lits.cons {P : Program} {t : TypeId} {ts : List TypeId} {c : Value} {cs : List Value} {l : Lit} {ls : List Lit} (h0 : P.keyLits 1 t [c] = some [l]) (h : Lits P ts cs ls) : Lits P (t :: ts) (c :: cs) (l :: ls) := ⟨h0, h⟩
theorem lit_u8 {k : Nat} (h : k < 256) : (Tryz.prog).keyLits 1 5 [.int .u8 (k : Int)] = some [.int .u8 (k : Int)] := by
  simp [Program.keyLits, Tryz.underlying5, Lit.wf, IntKind.min, IntKind.max, IntKind.signed, IntKind.bits]; omega
theorem lit_int {n : Int} (h : I64 n) : (Tryz.prog).keyLits 1 3 [.int .i64 n] = some [.int .i64 n] := by
  have := h.1
  have := h.2
  simp [Program.keyLits, Tryz.underlying3, Lit.wf, IntKind.min, IntKind.max, IntKind.signed, IntKind.bits]; omega
theorem lit_bool (b : Bool) : (Tryz.prog).keyLits 1 4 [.bool b] = some [.bool b] := by
  simp [Program.keyLits, Tryz.underlying4]
theorem lit_str {l : List UInt8} (h : l.length ≤ 100000) : (Tryz.prog).keyLits 1 9 [.string (mkB l)] = some [.string l] := by
  simp [Program.keyLits, Tryz.underlying9, mkB_size, mkB_toList, maxLen]; omega
theorem pk_at {s : Sty} (hs : s.Ok) (i : Nat) : s.picks.getD i 0 < 256 := by
  rw [List.getD_eq_getElem?_getD]
  cases h : s.picks[i]? with
  | none => simp
  | some x => exact hs.pk x (List.mem_of_getElem? h)
theorem lk_at {s : Sty} (hs : s.Ok) (i : Nat) : (s.lens.getD i (0, 0)).1 < 256 ∧ I64 (s.lens.getD i (0, 0)).2 := by
  rw [List.getD_eq_getElem?_getD]
  cases h : s.lens[i]? with
  | none => exact ⟨by simp, I64_zero⟩
  | some x => exact hs.lk x (List.mem_of_getElem? h)
theorem nk_at {s : Sty} (hs : s.Ok) (i : Nat) : I64 (s.nums.getD i 0) := by
  rw [List.getD_eq_getElem?_getD]
  cases h : s.nums[i]? with
  | none => exact I64_zero
  | some x => exact hs.nk x (List.mem_of_getElem? h)
def litOf : Value → Lit
  | .int k n => .int k n
  | .bool b => .bool b
  | .string s => .string s.data.toList
  | _ => .bool false
def unlit : Lit → Value
  | .int k n => .int k n
  | .bool b => .bool b
  | .string l => .string (mkB l)
  | _ => .bool false
theorem change_lits {e : Ev} (he : e.Ok) (ht : e.text.length ≤ 100000) : Lits Tryz.prog chSh (chC e) ((chC e).map litOf) := by
  have hs := he.sty
  unfold chSh
  refine Lits.cons (lit_u8 he.ck) ?_
  refine Lits.cons (lit_int he.key) ?_
  refine Lits.cons (lit_int he.parent) ?_
  refine Lits.cons (lit_int he.at_) ?_
  refine Lits.cons (lit_int he.nkey) ?_
  refine Lits.cons (lit_int he.ndepth) ?_
  refine Lits.cons (lit_u8 he.nkind) ?_
  refine Lits.cons (lit_u8 (pk_at hs 0)) ?_
  refine Lits.cons (lit_bool _) ?_
  refine Lits.cons (lit_u8 (lk_at hs 0).1) ?_
  refine Lits.cons (lit_int (lk_at hs 0).2) ?_
  refine Lits.cons (lit_u8 (lk_at hs 1).1) ?_
  refine Lits.cons (lit_int (lk_at hs 1).2) ?_
  refine Lits.cons (lit_u8 (lk_at hs 2).1) ?_
  refine Lits.cons (lit_int (lk_at hs 2).2) ?_
  refine Lits.cons (lit_u8 (lk_at hs 3).1) ?_
  refine Lits.cons (lit_int (lk_at hs 3).2) ?_
  refine Lits.cons (lit_u8 (lk_at hs 4).1) ?_
  refine Lits.cons (lit_int (lk_at hs 4).2) ?_
  refine Lits.cons (lit_u8 (lk_at hs 5).1) ?_
  refine Lits.cons (lit_int (lk_at hs 5).2) ?_
  refine Lits.cons (lit_u8 (lk_at hs 6).1) ?_
  refine Lits.cons (lit_int (lk_at hs 6).2) ?_
  refine Lits.cons (lit_u8 (lk_at hs 7).1) ?_
  refine Lits.cons (lit_int (lk_at hs 7).2) ?_
  refine Lits.cons (lit_u8 (lk_at hs 8).1) ?_
  refine Lits.cons (lit_int (lk_at hs 8).2) ?_
  refine Lits.cons (lit_u8 (lk_at hs 9).1) ?_
  refine Lits.cons (lit_int (lk_at hs 9).2) ?_
  refine Lits.cons (lit_int (nk_at hs 0)) ?_
  refine Lits.cons (lit_int (nk_at hs 1)) ?_
  refine Lits.cons (lit_int (nk_at hs 2)) ?_
  refine Lits.cons (lit_int (nk_at hs 3)) ?_
  refine Lits.cons (lit_int (nk_at hs 4)) ?_
  refine Lits.cons (lit_int (nk_at hs 5)) ?_
  refine Lits.cons (lit_int (nk_at hs 6)) ?_
  refine Lits.cons (lit_int (nk_at hs 7)) ?_
  refine Lits.cons (lit_int (nk_at hs 8)) ?_
  refine Lits.cons (lit_int (nk_at hs 9)) ?_
  refine Lits.cons (lit_int (nk_at hs 10)) ?_
  refine Lits.cons (lit_u8 (pk_at hs 1)) ?_
  refine Lits.cons (lit_u8 (pk_at hs 2)) ?_
  refine Lits.cons (lit_u8 (pk_at hs 3)) ?_
  refine Lits.cons (lit_u8 (pk_at hs 4)) ?_
  refine Lits.cons (lit_u8 (pk_at hs 5)) ?_
  refine Lits.cons (lit_bool _) ?_
  refine Lits.cons (lit_u8 (pk_at hs 6)) ?_
  refine Lits.cons (lit_int (nk_at hs 11)) ?_
  refine Lits.cons (lit_int (nk_at hs 12)) ?_
  refine Lits.cons (lit_int (nk_at hs 13)) ?_
  refine Lits.cons (lit_int (nk_at hs 14)) ?_
  refine Lits.cons (lit_u8 (lk_at hs 10).1) ?_
  refine Lits.cons (lit_int (lk_at hs 10).2) ?_
  refine Lits.cons (lit_int (nk_at hs 15)) ?_
  refine Lits.cons (lit_str ht) ?_
  trivial
theorem styC_unlit (s : Sty) : ∀ v ∈ styC s, unlit (litOf v) = v := by
  intro v hv
  unfold styC at hv
  simp only [List.mem_cons, List.not_mem_nil, or_false] at hv
  (repeat' (rcases hv with rfl | hv)) <;> first | rfl | (subst hv; rfl)
theorem chC_unlit (e : Ev) : ∀ v ∈ chC e, unlit (litOf v) = v := by
  intro v hv
  unfold chC at hv
  rw [List.mem_append, List.mem_append] at hv
  rcases hv with hv | hv | hv
  · simp only [List.mem_cons, List.not_mem_nil, or_false] at hv
    (repeat' (rcases hv with rfl | hv)) <;> first | rfl | (subst hv; rfl)
  · exact styC_unlit _ v hv
  · rw [List.mem_singleton.1 hv]; rfl
theorem chC_lits {a b : Ev} : (chC a).map litOf = (chC b).map litOf ↔ chC a = chC b := by
  constructor
  · intro h
    have h2 := congrArg (List.map unlit) h
    rw [List.map_map, List.map_map] at h2
    have e : ∀ x : Ev, (chC x).map (unlit ∘ litOf) = chC x := fun x => (List.map_congr_left (g := id) (fun v hv => chC_unlit x v hv)).trans (List.map_id _)
    rw [e, e] at h2
    exact h2
  · intro h; rw [h]
theorem chC_formed (e : Ev) : (Value.agg (chC e).toArray).formed Tryz.prog 32 = true := by
  have h : Tryz.prog.cellsOf 32 = 55 := by kernel_rfl
  simp [Value.formed, Tryz.underlying32, h, chC_len]
/-- A CHANGE COMPARED WITH A CHANGE. -/
theorem change_equal {a b : Ev} (ha : a.Ok) (hb : b.Ok) (hta : a.text.length ≤ 100000) (htb : b.text.length ≤ 100000) (w : World) :
    ∃ r : Bool, (Op.equal 32 (.agg (chC a).toArray) (.agg (chC b).toArray)).run Tryz.prog w = .ok r w ∧ (r = true ↔ chC a = chC b) := by
  have h1 := shp_lits 10 _ _ shp_change _ _ (change_lits ha hta)
  have h2 := shp_lits 10 _ _ shp_change _ _ (change_lits hb htb)
  obtain ⟨r, hr, hi⟩ := run_equalIn_deep (P := Tryz.prog) 9990 10 32 (by kernel_rfl) w 10 10 _ _ _ _ (chC_formed a) (chC_formed b) h1 h2
  exact ⟨r, hr, hi.trans chC_lits⟩
theorem styC_inj {s t : Sty} (hs : s.Ok) (ht : t.Ok) (h : styC s = styC t) : s = t := by
  obtain ⟨p, w1, w2, l, n⟩ := s
  obtain ⟨p', w1', w2', l', n'⟩ := t
  obtain ⟨a0, a1, a2, a3, a4, a5, a6, rfl⟩ := list7 hs.p
  obtain ⟨b0, b1, b2, b3, b4, b5, b6, rfl⟩ := list7 ht.p
  obtain ⟨⟨c0, e0⟩, ⟨c1, e1⟩, ⟨c2, e2⟩, ⟨c3, e3⟩, ⟨c4, e4⟩, ⟨c5, e5⟩, ⟨c6, e6⟩, ⟨c7, e7⟩, ⟨c8, e8⟩, ⟨c9, e9⟩, ⟨c10, e10⟩, rfl⟩ := list11 hs.l
  obtain ⟨⟨d0, f0⟩, ⟨d1, f1⟩, ⟨d2, f2⟩, ⟨d3, f3⟩, ⟨d4, f4⟩, ⟨d5, f5⟩, ⟨d6, f6⟩, ⟨d7, f7⟩, ⟨d8, f8⟩, ⟨d9, f9⟩, ⟨d10, f10⟩, rfl⟩ := list11 ht.l
  obtain ⟨g0, g1, g2, g3, g4, g5, g6, g7, g8, g9, g10, g11, g12, g13, g14, g15, rfl⟩ := list16 hs.n
  obtain ⟨i0, i1, i2, i3, i4, i5, i6, i7, i8, i9, i10, i11, i12, i13, i14, i15, rfl⟩ := list16 ht.n
  simp [styC] at h
  simp [h]
  omega
theorem chC_inj {a b : Ev} (ha : a.Ok) (hb : b.Ok) : chC a = chC b ↔ a.ck = b.ck ∧ a.key = b.key ∧ a.parent = b.parent ∧ a.at_ = b.at_ ∧ a.nkey = b.nkey ∧ a.ndepth = b.ndepth ∧ a.nkind = b.nkind ∧ a.sty = b.sty ∧ a.text = b.text := by
  constructor
  · intro h
    unfold chC at h
    have h1 := List.append_inj h rfl
    have h2 := List.append_inj h1.2 (by rw [styC_len, styC_len])
    have h3 := styC_inj ha.sty hb.sty h2.1
    have h4 := h1.1
    have h5 := h2.2
    simp only [List.cons.injEq, Value.int.injEq, true_and, and_true, Value.string.injEq, mkB_eq] at h4 h5
    obtain ⟨q1, q2, q3, q4, q5, q6, q7⟩ := h4
    exact ⟨by omega, q2, q3, q4, q5, q6, by omega, h3, h5⟩
  · rintro ⟨h1, h2, h3, h4, h5, h6, h7, h8, h9⟩
    unfold chC
    rw [h1, h2, h3, h4, h5, h6, h7, h8, h9]

end Go.Proofs.YtaoehdmdjplegaaGreatDoor
