/-
  Walks: windowpaneref32.reader's field: a length, or a number, of a style.
-/
import Derived.Test.YtaoehdmdjplegaaGreatDoorBlkC
namespace Go.Proofs.YtaoehdmdjplegaaGreatDoor
open Go.RowKit Go.Shelf

/-- A field's word, read. -/
def fieldR (s : Sty) (w : List UInt8) : Sty × Bool := match cutEq w with
  | none => (s, true)
  | some (a, b) => setR s a b
theorem cutEq_none : ∀ {a : List UInt8}, (∀ c ∈ a, c ≠ 61) → cutEq a = none
  | [], _ => rfl
  | c :: a, h => by rw [cutEq, if_neg (h c (by simp)), cutEq_none (fun x hx => h x (by simp [hx]))]; rfl
theorem styC_setLen {s : Sty} (h : s.lens.length = 11) (i : Fin 11) (k : Nat) (n : Int) : setL (styC s) (lensO.getD i.val 0) [.int .u8 (k : Int), .int .i64 n] = styC { s with lens := s.lens.set i.val (k, n) } := by
  obtain ⟨P, wh, wp, L, N⟩ := s
  obtain ⟨a0, a1, a2, a3, a4, a5, a6, a7, a8, a9, a10, rfl⟩ := list11 h
  match i with
  | ⟨0, _⟩ | ⟨1, _⟩ | ⟨2, _⟩ | ⟨3, _⟩ | ⟨4, _⟩ | ⟨5, _⟩ | ⟨6, _⟩ | ⟨7, _⟩ | ⟨8, _⟩ | ⟨9, _⟩ | ⟨10, _⟩ => rfl
theorem styC_setNum {s : Sty} (h : s.nums.length = 16) (i : Fin 16) (n : Int) : (styC s).set (numsO.getD i.val 0) (.int .i64 n) = styC { s with nums := s.nums.set i.val n } := by
  obtain ⟨P, wh, wp, L, N⟩ := s
  obtain ⟨a0, a1, a2, a3, a4, a5, a6, a7, a8, a9, a10, a11, a12, a13, a14, a15, rfl⟩ := list16 h
  obtain ⟨i, hi⟩ := i
  have h : i = 0 ∨ i = 1 ∨ i = 2 ∨ i = 3 ∨ i = 4 ∨ i = 5 ∨ i = 6 ∨ i = 7 ∨ i = 8 ∨ i = 9 ∨ i = 10 ∨ i = 11 ∨ i = 12 ∨ i = 13 ∨ i = 14 ∨ i = 15 := by omega
  rcases h with rfl | rfl | rfl | rfl | rfl | rfl | rfl | rfl | rfl | rfl | rfl | rfl | rfl | rfl | rfl | rfl <;> rfl
theorem styC_setPick {s : Sty} (h : s.picks.length = 7) (i : Fin 7) (x : Nat) : (styC s).set (pickO.getD i.val 0) (.int .u8 (x : Int)) = styC { s with picks := s.picks.set i.val x } := by
  obtain ⟨P, wh, wp, L, N⟩ := s
  obtain ⟨a0, a1, a2, a3, a4, a5, a6, rfl⟩ := list7 h
  match i with
  | ⟨0, _⟩ | ⟨1, _⟩ | ⟨2, _⟩ | ⟨3, _⟩ | ⟨4, _⟩ | ⟨5, _⟩ | ⟨6, _⟩ => rfl
theorem badW_kept {t : TypeId} {g : Nat} {s : ByteArray} {a : Nat} {bad : Bool} (b : Bool) {w : World} (hr : Rdr t w g s a bad) : Kept [g] w (badW g b w) ∧ Rdr t (badW g b w) g s a (bad || b) ∧ (badW g b w).heap.size = w.heap.size := by
  cases b with
  | false => exact ⟨Kept.refl _ _, by simpa [badW] using hr, rfl⟩
  | true => exact ⟨(Kept.refl _ _).setCell (by simp) _, by rw [Bool.or_true]; exact hr.wrong, by simp [badW, World.setCell]⟩
theorem part_last {V : List UInt8} (hne : 0 < V.length) {h : (mkB V).size - 1 < (mkB V).size} : Value.bool ((((mkB V)[(mkB V).size - 1]'h).toNat : Int) == 112) = .bool (partV V).2 := by
  have e : (mkB V)[(mkB V).size - 1]'h = V[V.length - 1]'(by omega) := by
    have := mkB_get (l := V) (k := V.length - 1) (by omega)
    rw [← this]
    congr 1
  rw [e]
  unfold partV
  rw [List.getLast?_eq_getElem?, List.getElem?_eq_getElem (by omega)]
  by_cases h : V[V.length - 1]'(by omega) = 112
  · rw [h]; simp
  · have : ((((V[V.length - 1]'(by omega)).toNat : Nat) : Int) == 112) = false := neq8 (n := 112) fun he => h (UInt8.toNat_inj.1 he)
    rw [this]
    simp [h]
theorem part_drop {V : List UInt8} (h : (partV V).2 = true) : (partV V).1 = V.dropLast ∧ 0 < V.length := by
  unfold partV at *
  split at h
  · rename_i hl
    refine ⟨by rw [if_pos hl], ?_⟩
    cases V with
    | nil => simp at hl
    | cons c V => simp
  · cases h
theorem part_keep {V : List UInt8} (h : (partV V).2 = false) : (partV V).1 = V := by
  unfold partV at *
  split at h
  · cases h
  · rename_i hl
    rw [if_neg hl]
theorem two_cells (u v : Value) (h1 : u.oneCell' = true) (h2 : v.oneCell' = true) : ∀ x ∈ [u, v], x.oneCell' = true := by
  intro x hx
  simp only [List.mem_cons, List.not_mem_nil, or_false] at hx
  rcases hx with rfl | rfl
  · exact h1
  · exact h2
theorem Kept.then {gs : List Nat} {a b c : World} (h : Kept gs a b) (k : Below a.heap.size b c) : Kept gs a c :=
  ⟨k.os.trans h.os, k.tape.trans h.tape, k.output.trans h.output, Nat.le_trans h.size k.size, fun i hi hn => (k.block i hi).trans (h.block i hi hn)⟩
/-- What lies in memory while a field is read. -/
structure FM (t : TypeId) (g b : Nat) (S : ByteArray) (a : Nat) (bad : Bool) (s : Sty) (w0 : World) (m : Nat) (kd : Nat) (n : Int) (w : World) : Prop where
  kp : Kept [g, b] w0 w
  rd : Rdr t w g S a bad
  st : Blk w b 28 (styC s).toArray
  le : Blk w m 24 [.int .u8 (kd : Int), .int .i64 n].toArray
  ng : g ≠ m
  nb : b ≠ m
  lo : w0.heap.size ≤ m
theorem FM.put {t : TypeId} {g b : Nat} {S : ByteArray} {a : Nat} {bad : Bool} {s : Sty} {w0 w w' : World} {m kd kd' : Nat} {n n' : Int} (h : FM t g b S a bad s w0 m kd n w) (hk : Kept [m] w w') (hb : Blk w' m 24 [.int .u8 (kd' : Int), .int .i64 n'].toArray) : FM t g b S a bad s w0 m kd' n' w' :=
  ⟨h.kp.then (hk.to_below h.kp.size (by simpa using h.lo)), Blk.kept h.rd hk (by simpa using h.ng), h.st.kept hk (by simpa using h.nb), hb, h.ng, h.nb, h.lo⟩
theorem FM.drewN {t : TypeId} {g b : Nat} {S : ByteArray} {a : Nat} {bad : Bool} {s : Sty} {w0 w : World} {m kd : Nat} {n : Int} (h : FM t g b S a bad s w0 m kd n w) (j : Nat) : FM t g b S a bad s w0 m kd n (w.drewN j) :=
  ⟨h.kp.drewN j, h.rd, h.st, h.le, h.ng, h.nb, h.lo⟩
theorem FM.told {t : TypeId} {g b : Nat} {S : ByteArray} {a : Nat} {bad c : Bool} {s : Sty} {w0 w : World} {m kd : Nat} {n : Int} (h : FM t g b S a bad s w0 m kd n w) (hgb : g ≠ b) : FM t g b S a (bad || c) s w0 m kd n (badW g c w) := by
  obtain ⟨h1, h2, _⟩ := badW_kept c h.rd
  exact ⟨h.kp.trans (h1.more (by simp)), h2, h.st.kept h1 (by simpa using hgb.symm), h.le.kept h1 (by simpa using h.ng.symm), h.ng, h.nb, h.lo⟩
theorem FM.done {t : TypeId} {g b : Nat} {S : ByteArray} {a : Nat} {bad : Bool} {s : Sty} {w0 w w' : World} {m kd : Nat} {n : Int} {L : List Value} (h : FM t g b S a bad s w0 m kd n w) (hgb : g ≠ b) (hb : Blk w' b 28 L.toArray) (hk : Kept [b] w w') : Kept [g, b] w0 w' ∧ Rdr t w' g S a bad ∧ Blk w' b 28 L.toArray :=
  ⟨h.kp.trans (hk.more (by simp)), Blk.kept h.rd hk (by simpa using hgb), hb⟩
theorem setR_len (s : Sty) (i : Fin 11) (V : List UInt8) : setR s (lensT[i.val]'i.isLt) V = ({ s with lens := s.lens.set i.val (if (partV V).2 then 2 else 1, (toldR (partV V).1).1) }, (toldR (partV V).1).2) := by
  unfold setR
  rw [lens_idx i, if_pos i.isLt]
theorem setR_num (s : Sty) (i : Fin 16) (V : List UInt8) : setR s (numsT[i.val]'i.isLt) V = ({ s with nums := s.nums.set i.val (toldR (partV V).1).1 }, (toldR (partV V).1).2) := by
  obtain ⟨h1, h2⟩ := nums_idx i
  unfold setR
  rw [if_neg h2, h1, if_pos i.isLt]
theorem setR_none {s : Sty} {NM V : List UInt8} (h1 : NM ∉ lensT) (h2 : NM ∉ numsT) : setR s NM V = (s, true) := by
  unfold setR
  rw [if_neg (fun h : idxW lensT NM < 11 => h1 (idxW_lt.1 h)), if_neg (fun h : idxW numsT NM < 16 => h2 (idxW_lt.1 h))]
/-- What a field's reading leaves. -/
def FieldPost (t : TypeId) (g b : Nat) (S : ByteArray) (a : Nat) (bad : Bool) (s : Sty) (l : List UInt8) (w : World) (e : Ending) (w' : World) : Prop :=
  e = .returned (.tuple #[]) ∧ Kept [g, b] w w' ∧ Rdr t w' g S a (bad || (fieldR s l).2) ∧ Blk w' b 28 (styC (fieldR s l).1).toArray
def FlA (l : ByteArray) (i : Value) : Prop := ∃ k : Nat, k ≤ l.size ∧ i = .int .i64 k ∧ ∀ c ∈ l.data.toList.take k, c ≠ 61

set_option maxRecDepth 100000 in
set_option maxHeartbeats 8000000 in
theorem rfield_any (t : TypeId) (g b : Nat) (hgb : g ≠ b) (S : ByteArray) (a : Nat) (bad : Bool) (s : Sty) (hs : s.Ok) (l : ByteArray) (hl : l.size ≤ 5000) (w : World) (hr : Rdr t w g S a bad) (hb : Blk w b 28 (styC s).toArray) :
    Calls Tryz.prog 61 #[.pointer (some ⟨g, 0, none⟩), .pointer (some ⟨b, 0, none⟩), .string l] w (FieldPost t g b S a bad s l.data.toList w) := by
  have hg := hr.lt
  have hf := hr.frozen
  have c2 := hr.cell 2
  simp only [List.getElem?_toArray, List.getElem?_cons_succ, List.getElem?_cons_zero] at c2
  go_enter Tryz.func61, Tryz.ntmps61
  go_wp2_with fail
  go_loop [6] (FlA l) (fun i => l.size - (intOf i).toNat)
  case atStart => exact ⟨0, by omega, rfl, by simp⟩
  case round =>
    obtain ⟨k, hk, rfl, hcl⟩ := hrel
    have HC := Lib.hid hcl
    clear hcl
    by_cases hlt : k < l.size
    · by_cases h61 : l[k].toNat = 61
      · have n1 : (((l[k].toNat : Nat) : Int) != 61) = false := by unfold bne; rw [show (((l[k].toNat : Nat) : Int) == 61) = true from eq8 h61]; rfl
        have n2 : (((k : Nat) : Int) == ((l.size : Nat) : Int)) = false := by rw [beq_eq_false_iff_ne]; omega
        go_upto_region 5 with fail
        go_quiet (fail)
        have hk1 : Kept [g, b] w (w.drewN nq) := (Kept.refl _ _).drewN nq
        have hr1 : Rdr t (w.drewN nq) g S a bad := hr.drewN nq
        have hb1 : Blk (w.drewN nq) b 28 (styC s).toArray := Blk.drewN hb nq
        generalize w.drewN nq = wq at *
        go_upto_region 7 with (refine wpList_store_blk rfl 24 _ _ rfl wq.heap.size 0 24 [.int .u8 0, .int .i64 0] [.int .u8 1, .int .i64 0] rfl (Blk.new wq 24 _) rfl (Nat.le_refl _) (by kernel_rfl) (two_cells _ _ rfl rfl) ?_; intro w1 b1 k1 z1)
        have hm : FM t g b S a bad s w wq.heap.size 1 0 w1 := by
          have hq := hk1.size
          have hbel : Kept [wq.heap.size] (wq.alloc (.cells #[.int .u8 0, .int .i64 0] 24)) w1 := k1
          have hbe : Below wq.heap.size wq w1 := ((Below.refl _ _).alloc (Nat.le_refl _) _).trans (hbel.to_below (by simp) (by simp))
          exact ⟨hk1.then (hbe.mono hq), Blk.below hr1 hbe hr1.lt, hb1.below hbe hb1.lt, b1, Nat.ne_of_lt hr1.lt, Nat.ne_of_lt hb1.lt, hq⟩
        clear b1 k1 z1 hk1 hr1 hb1 hr hb hf hg c2
        simp only [Act.put]
        obtain ⟨V, hV⟩ : ∃ V, V = l.data.toList.drop (k + 1) := ⟨_, rfl⟩
        have hVe : l.extract (k + 1) l.size = mkB V := by rw [hV, extract_list, List.take_of_length_le (by rw [List.length_drop, size_len]; omega)]
        have hVl : V.length ≤ 5000 := by rw [hV, List.length_drop, size_len]; omega
        have hNe : l.extract 0 k = mkB (l.data.toList.take k) := by rw [extract_list]; rfl
        generalize l.extract (k + 1) l.size = vb at *
        generalize l.extract 0 k = nb at *
        subst hVe hNe
        have HV := Lib.hid hV
        clear hV
        go_cut [48] (fun s wx => s = .bool (partV V).2 ∧ wx = w1)
        case first =>
          have hsz := mkB_size V
          by_cases hne : 0 < V.length
          · have z1 : (0 : Int) < (((mkB V).size : Nat) : Int) := by omega
            have z2 : (mkB V).size ≤ 5000 := by omega
            have HS := Lib.hid hsz
            clear hsz
            go_wp2_with fail
            go_meet
            exact ⟨part_last hne, rfl⟩
          · have hp : V = [] := List.eq_nil_of_length_eq_zero (by omega)
            have z1 : ¬ (0 : Int) < (((mkB V).size : Nat) : Int) := by omega
            have HP := Lib.hid hp
            clear hp hsz
            go_wp2_with fail
            go_meet
            exact ⟨by rw [HP.out]; rfl, rfl⟩
        case rest =>
          obtain ⟨rfl, rfl⟩ := hcut
          go_upto_if 48 with fail
          go_cut [8] (fun s8 wx => s8 = .string (mkB (partV V).1) ∧ FM t g b S a bad s w wq.heap.size (if (partV V).2 then 2 else 1) 0 wx)
          case first =>
            cases hb : (partV V).2 with
            | false =>
              go_wp2_with fail
              go_meet
              exact ⟨by rw [part_keep hb], by simpa [hb] using hm⟩
            | true =>
              obtain ⟨hd, hne⟩ := part_drop hb
              have hsz := mkB_size V
              have z1 : (0 : Int) < (((mkB V).size : Nat) : Int) := by omega
              have z2 : (mkB V).size ≤ 5000 := by omega
              have i1 : IntKind.i64.wrap ((((mkB V).size : Nat) : Int) - 1) = (((mkB V).size : Nat) : Int) - 1 := by rw [IntKind.wrap_i64]; omega
              have i2 : (0 : Int) ≤ (((mkB V).size : Nat) : Int) - 1 := by omega
              have i3 : (((mkB V).size : Nat) : Int) - 1 ≤ (((mkB V).size : Nat) : Int) := by omega
              have q0 : wc.cell? ⟨wq.heap.size, 0, none⟩ = some (.int .u8 1) := hm.le.cell 0
              have qf := hm.le.frozen
              have HS := Lib.hid hsz
              have HD := Lib.hid hd
              have HB := Lib.hid hb
              clear hsz hd hb
              go_wp2_with fail
              go_region
              go_wp2_with fail
              go_meet
              refine ⟨?_, ?_⟩
              · rw [HD.out, extract_list, mkB_toList, List.dropLast_eq_take, ← HS.out]
                simp
              · rw [HB.out, if_pos rfl]
                exact (hm.drewN 1).put ((Kept.refl _ _).setCell (by simp) _) (Blk.set_ (hm.drewN 1).le 0 _)
          case rest =>
            obtain ⟨rfl, hm⟩ := hcut
            have hWl : (partV V).1.length ≤ 5000 := by
              unfold partV
              split
              · simp; omega
              · exact hVl
            have HF := Lib.hid (show fieldR s l.data.toList = setR s (l.data.toList.take k) V by
              have e : l.data.toList = l.data.toList.take k ++ 61 :: V := by
                have h : k < l.data.toList.length := by rw [size_len]; exact hlt
                have h2 : l.data.toList[k] = 61 := by rw [get_len hlt]; exact UInt8.toNat_inj.1 h61
                rw [HV.out, ← h2, ← List.drop_eq_getElem_cons h, List.take_append_drop]
              have := cutEq_at (fun c hc => HC.out c hc) V
              rw [← e] at this
              unfold fieldR
              rw [this])
            generalize List.take k l.data.toList = NM at *
            have HSL := Lib.hid (fun i : Fin 11 => setR_len s i V)
            have HSN := Lib.hid (fun i : Fin 16 => setR_num s i V)
            have HSE := Lib.hid (fun h1 h2 => setR_none (s := s) (NM := NM) (V := V) h1 h2)
            clear HV HC
            go_wp2_with fail
            refine (rtold_any t g (mkB (partV V).1) (by rw [mkB_size]; exact hWl) S a bad _ hm.rd).mono ?_
            rintro e w3 ⟨rfl, rfl⟩
            rw [mkB_toList]
            have hm := hm.told (c := (toldR (partV V).1).2) hgb
            generalize badW g (toldR (partV V).1).2 wc = w4 at *
            generalize (if (partV V).2 = true then 2 else 1) = kd at *
            generalize (toldR (partV V).1).1 = n at *
            generalize (toldR (partV V).1).2 = c at *
            go_upto_region 13 with (first | (refine wpList_store_one rfl 3 _ _ rfl wq.heap.size 1 24 _ (.int .i64 n) (by rfl) hm.le (by rfl) (by simp) (by rfl) (storeVar_int _ _ _ _) ?_; intro w5 b5 k5 z5; have hm := hm.put k5 b5; clear b5 k5 z5))
            by_cases h0 : NM = [119]
            · have m0 : ((mkB NM).toList == ([119] : List UInt8)) = true := str_eq' (b := [119]) h0
              have HS := Lib.hid (show setR s NM V = ({ s with lens := s.lens.set 0 (kd, n) }, c) by rw [h0]; exact HSL.out ⟨0, by decide⟩)
              clear h0
              go_wp2_with (first | (refine wpList_load_blk rfl 24 _ rfl wq.heap.size 0 24 _ [.int .u8 (kd : Int), .int .i64 n] _ rfl hm.le (fun j v hv => by rw [Nat.zero_add]; exact hv) Tryz.underlying24 rfl (by kernel_rfl) ?_) | (refine wpList_store_blk rfl 24 _ _ rfl b 2 28 (styC s) [.int .u8 (kd : Int), .int .i64 n] rfl hm.st rfl (by rw [styC_len]; simp) (by kernel_rfl) (two_cells _ _ rfl rfl) ?_; intro w6 b6 k6 z6))
              go_end0
              obtain ⟨q1, q2, q3⟩ := hm.done hgb b6 k6
              exact ⟨rfl, q1, by rw [HF.out, HS.out]; exact q2, by rw [HF.out, HS.out, ← styC_setLen hs.l ⟨0, by decide⟩]; exact q3⟩
            have n0 : ((mkB NM).toList == ([119] : List UInt8)) = false := str_ne' (b := [119]) h0
            go_upto_region 15 with fail
            clear n0
            have H0 := Lib.hid h0
            clear h0
            by_cases h1 : NM = [109, 105, 110, 119]
            · have m1 : ((mkB NM).toList == ([109, 105, 110, 119] : List UInt8)) = true := str_eq' (b := [109, 105, 110, 119]) h1
              have HS := Lib.hid (show setR s NM V = ({ s with lens := s.lens.set 1 (kd, n) }, c) by rw [h1]; exact HSL.out ⟨1, by decide⟩)
              clear h1
              go_wp2_with (first | (refine wpList_load_blk rfl 24 _ rfl wq.heap.size 0 24 _ [.int .u8 (kd : Int), .int .i64 n] _ rfl hm.le (fun j v hv => by rw [Nat.zero_add]; exact hv) Tryz.underlying24 rfl (by kernel_rfl) ?_) | (refine wpList_store_blk rfl 24 _ _ rfl b 4 28 (styC s) [.int .u8 (kd : Int), .int .i64 n] rfl hm.st rfl (by rw [styC_len]; simp) (by kernel_rfl) (two_cells _ _ rfl rfl) ?_; intro w6 b6 k6 z6))
              go_end0
              obtain ⟨q1, q2, q3⟩ := hm.done hgb b6 k6
              exact ⟨rfl, q1, by rw [HF.out, HS.out]; exact q2, by rw [HF.out, HS.out, ← styC_setLen hs.l ⟨1, by decide⟩]; exact q3⟩
            have n1 : ((mkB NM).toList == ([109, 105, 110, 119] : List UInt8)) = false := str_ne' (b := [109, 105, 110, 119]) h1
            go_upto_region 17 with fail
            clear n1
            have H1 := Lib.hid h1
            clear h1
            by_cases h2 : NM = [109, 97, 120, 119]
            · have m2 : ((mkB NM).toList == ([109, 97, 120, 119] : List UInt8)) = true := str_eq' (b := [109, 97, 120, 119]) h2
              have HS := Lib.hid (show setR s NM V = ({ s with lens := s.lens.set 2 (kd, n) }, c) by rw [h2]; exact HSL.out ⟨2, by decide⟩)
              clear h2
              go_wp2_with (first | (refine wpList_load_blk rfl 24 _ rfl wq.heap.size 0 24 _ [.int .u8 (kd : Int), .int .i64 n] _ rfl hm.le (fun j v hv => by rw [Nat.zero_add]; exact hv) Tryz.underlying24 rfl (by kernel_rfl) ?_) | (refine wpList_store_blk rfl 24 _ _ rfl b 6 28 (styC s) [.int .u8 (kd : Int), .int .i64 n] rfl hm.st rfl (by rw [styC_len]; simp) (by kernel_rfl) (two_cells _ _ rfl rfl) ?_; intro w6 b6 k6 z6))
              go_end0
              obtain ⟨q1, q2, q3⟩ := hm.done hgb b6 k6
              exact ⟨rfl, q1, by rw [HF.out, HS.out]; exact q2, by rw [HF.out, HS.out, ← styC_setLen hs.l ⟨2, by decide⟩]; exact q3⟩
            have n2 : ((mkB NM).toList == ([109, 97, 120, 119] : List UInt8)) = false := str_ne' (b := [109, 97, 120, 119]) h2
            go_upto_region 19 with fail
            clear n2
            have H2 := Lib.hid h2
            clear h2
            by_cases h3 : NM = [104]
            · have m3 : ((mkB NM).toList == ([104] : List UInt8)) = true := str_eq' (b := [104]) h3
              have HS := Lib.hid (show setR s NM V = ({ s with lens := s.lens.set 3 (kd, n) }, c) by rw [h3]; exact HSL.out ⟨3, by decide⟩)
              clear h3
              go_wp2_with (first | (refine wpList_load_blk rfl 24 _ rfl wq.heap.size 0 24 _ [.int .u8 (kd : Int), .int .i64 n] _ rfl hm.le (fun j v hv => by rw [Nat.zero_add]; exact hv) Tryz.underlying24 rfl (by kernel_rfl) ?_) | (refine wpList_store_blk rfl 24 _ _ rfl b 8 28 (styC s) [.int .u8 (kd : Int), .int .i64 n] rfl hm.st rfl (by rw [styC_len]; simp) (by kernel_rfl) (two_cells _ _ rfl rfl) ?_; intro w6 b6 k6 z6))
              go_end0
              obtain ⟨q1, q2, q3⟩ := hm.done hgb b6 k6
              exact ⟨rfl, q1, by rw [HF.out, HS.out]; exact q2, by rw [HF.out, HS.out, ← styC_setLen hs.l ⟨3, by decide⟩]; exact q3⟩
            have n3 : ((mkB NM).toList == ([104] : List UInt8)) = false := str_ne' (b := [104]) h3
            go_upto_region 21 with fail
            clear n3
            have H3 := Lib.hid h3
            clear h3
            by_cases h4 : NM = [109, 105, 110, 104]
            · have m4 : ((mkB NM).toList == ([109, 105, 110, 104] : List UInt8)) = true := str_eq' (b := [109, 105, 110, 104]) h4
              have HS := Lib.hid (show setR s NM V = ({ s with lens := s.lens.set 4 (kd, n) }, c) by rw [h4]; exact HSL.out ⟨4, by decide⟩)
              clear h4
              go_wp2_with (first | (refine wpList_load_blk rfl 24 _ rfl wq.heap.size 0 24 _ [.int .u8 (kd : Int), .int .i64 n] _ rfl hm.le (fun j v hv => by rw [Nat.zero_add]; exact hv) Tryz.underlying24 rfl (by kernel_rfl) ?_) | (refine wpList_store_blk rfl 24 _ _ rfl b 10 28 (styC s) [.int .u8 (kd : Int), .int .i64 n] rfl hm.st rfl (by rw [styC_len]; simp) (by kernel_rfl) (two_cells _ _ rfl rfl) ?_; intro w6 b6 k6 z6))
              go_end0
              obtain ⟨q1, q2, q3⟩ := hm.done hgb b6 k6
              exact ⟨rfl, q1, by rw [HF.out, HS.out]; exact q2, by rw [HF.out, HS.out, ← styC_setLen hs.l ⟨4, by decide⟩]; exact q3⟩
            have n4 : ((mkB NM).toList == ([109, 105, 110, 104] : List UInt8)) = false := str_ne' (b := [109, 105, 110, 104]) h4
            go_upto_region 23 with fail
            clear n4
            have H4 := Lib.hid h4
            clear h4
            by_cases h5 : NM = [109, 97, 120, 104]
            · have m5 : ((mkB NM).toList == ([109, 97, 120, 104] : List UInt8)) = true := str_eq' (b := [109, 97, 120, 104]) h5
              have HS := Lib.hid (show setR s NM V = ({ s with lens := s.lens.set 5 (kd, n) }, c) by rw [h5]; exact HSL.out ⟨5, by decide⟩)
              clear h5
              go_wp2_with (first | (refine wpList_load_blk rfl 24 _ rfl wq.heap.size 0 24 _ [.int .u8 (kd : Int), .int .i64 n] _ rfl hm.le (fun j v hv => by rw [Nat.zero_add]; exact hv) Tryz.underlying24 rfl (by kernel_rfl) ?_) | (refine wpList_store_blk rfl 24 _ _ rfl b 12 28 (styC s) [.int .u8 (kd : Int), .int .i64 n] rfl hm.st rfl (by rw [styC_len]; simp) (by kernel_rfl) (two_cells _ _ rfl rfl) ?_; intro w6 b6 k6 z6))
              go_end0
              obtain ⟨q1, q2, q3⟩ := hm.done hgb b6 k6
              exact ⟨rfl, q1, by rw [HF.out, HS.out]; exact q2, by rw [HF.out, HS.out, ← styC_setLen hs.l ⟨5, by decide⟩]; exact q3⟩
            have n5 : ((mkB NM).toList == ([109, 97, 120, 104] : List UInt8)) = false := str_ne' (b := [109, 97, 120, 104]) h5
            go_upto_region 25 with fail
            clear n5
            have H5 := Lib.hid h5
            clear h5
            by_cases h6 : NM = [109, 116]
            · have m6 : ((mkB NM).toList == ([109, 116] : List UInt8)) = true := str_eq' (b := [109, 116]) h6
              have HS := Lib.hid (show setR s NM V = ({ s with lens := s.lens.set 6 (kd, n) }, c) by rw [h6]; exact HSL.out ⟨6, by decide⟩)
              clear h6
              have l0 : w5.cell? ⟨wq.heap.size, 0, none⟩ = some (.int .u8 (kd : Int)) := hm.le.cell 0
              have l1 : w5.cell? ⟨wq.heap.size, 1, none⟩ = some (.int .i64 n) := hm.le.cell 1
              obtain ⟨v0, s0⟩ : ∃ v, w5.cell? ⟨b, 14, none⟩ = some v := ⟨_, hm.st.cell 14⟩
              obtain ⟨v1, s1⟩ : ∃ v, w5.cell? ⟨b, 15, none⟩ = some v := ⟨_, hm.st.cell 15⟩
              have sf := hm.st.frozen
              go_wp2_with fail
              go_region
              go_wp2_with fail
              go_end0
              obtain ⟨q1, q2, q3⟩ := (hm.drewN 1).done hgb (setCells_blk [.int .u8 (kd : Int), .int .i64 n] _ b 14 _ (styC s) (hm.drewN 1).st).1 (setCells_blk [.int .u8 (kd : Int), .int .i64 n] _ b 14 _ (styC s) (hm.drewN 1).st).2.1
              exact ⟨rfl, q1, by rw [HF.out, HS.out]; exact q2, by rw [HF.out, HS.out, ← styC_setLen hs.l ⟨6, by decide⟩]; exact q3⟩
            have n6 : ((mkB NM).toList == ([109, 116] : List UInt8)) = false := str_ne' (b := [109, 116]) h6
            go_upto_region 27 with fail
            clear n6
            have H6 := Lib.hid h6
            clear h6
            by_cases h7 : NM = [109, 114]
            · have m7 : ((mkB NM).toList == ([109, 114] : List UInt8)) = true := str_eq' (b := [109, 114]) h7
              have HS := Lib.hid (show setR s NM V = ({ s with lens := s.lens.set 7 (kd, n) }, c) by rw [h7]; exact HSL.out ⟨7, by decide⟩)
              clear h7
              have l0 : w5.cell? ⟨wq.heap.size, 0, none⟩ = some (.int .u8 (kd : Int)) := hm.le.cell 0
              have l1 : w5.cell? ⟨wq.heap.size, 1, none⟩ = some (.int .i64 n) := hm.le.cell 1
              obtain ⟨v0, s0⟩ : ∃ v, w5.cell? ⟨b, 16, none⟩ = some v := ⟨_, hm.st.cell 16⟩
              obtain ⟨v1, s1⟩ : ∃ v, w5.cell? ⟨b, 17, none⟩ = some v := ⟨_, hm.st.cell 17⟩
              have sf := hm.st.frozen
              go_wp2_with fail
              go_region
              go_wp2_with fail
              go_end0
              obtain ⟨q1, q2, q3⟩ := (hm.drewN 1).done hgb (setCells_blk [.int .u8 (kd : Int), .int .i64 n] _ b 16 _ (styC s) (hm.drewN 1).st).1 (setCells_blk [.int .u8 (kd : Int), .int .i64 n] _ b 16 _ (styC s) (hm.drewN 1).st).2.1
              exact ⟨rfl, q1, by rw [HF.out, HS.out]; exact q2, by rw [HF.out, HS.out, ← styC_setLen hs.l ⟨7, by decide⟩]; exact q3⟩
            have n7 : ((mkB NM).toList == ([109, 114] : List UInt8)) = false := str_ne' (b := [109, 114]) h7
            go_upto_region 29 with fail
            clear n7
            have H7 := Lib.hid h7
            clear h7
            by_cases h8 : NM = [109, 98]
            · have m8 : ((mkB NM).toList == ([109, 98] : List UInt8)) = true := str_eq' (b := [109, 98]) h8
              have HS := Lib.hid (show setR s NM V = ({ s with lens := s.lens.set 8 (kd, n) }, c) by rw [h8]; exact HSL.out ⟨8, by decide⟩)
              clear h8
              have l0 : w5.cell? ⟨wq.heap.size, 0, none⟩ = some (.int .u8 (kd : Int)) := hm.le.cell 0
              have l1 : w5.cell? ⟨wq.heap.size, 1, none⟩ = some (.int .i64 n) := hm.le.cell 1
              obtain ⟨v0, s0⟩ : ∃ v, w5.cell? ⟨b, 18, none⟩ = some v := ⟨_, hm.st.cell 18⟩
              obtain ⟨v1, s1⟩ : ∃ v, w5.cell? ⟨b, 19, none⟩ = some v := ⟨_, hm.st.cell 19⟩
              have sf := hm.st.frozen
              go_wp2_with fail
              go_region
              go_wp2_with fail
              go_end0
              obtain ⟨q1, q2, q3⟩ := (hm.drewN 1).done hgb (setCells_blk [.int .u8 (kd : Int), .int .i64 n] _ b 18 _ (styC s) (hm.drewN 1).st).1 (setCells_blk [.int .u8 (kd : Int), .int .i64 n] _ b 18 _ (styC s) (hm.drewN 1).st).2.1
              exact ⟨rfl, q1, by rw [HF.out, HS.out]; exact q2, by rw [HF.out, HS.out, ← styC_setLen hs.l ⟨8, by decide⟩]; exact q3⟩
            have n8 : ((mkB NM).toList == ([109, 98] : List UInt8)) = false := str_ne' (b := [109, 98]) h8
            go_upto_region 31 with fail
            clear n8
            have H8 := Lib.hid h8
            clear h8
            by_cases h9 : NM = [109, 108]
            · have m9 : ((mkB NM).toList == ([109, 108] : List UInt8)) = true := str_eq' (b := [109, 108]) h9
              have HS := Lib.hid (show setR s NM V = ({ s with lens := s.lens.set 9 (kd, n) }, c) by rw [h9]; exact HSL.out ⟨9, by decide⟩)
              clear h9
              have l0 : w5.cell? ⟨wq.heap.size, 0, none⟩ = some (.int .u8 (kd : Int)) := hm.le.cell 0
              have l1 : w5.cell? ⟨wq.heap.size, 1, none⟩ = some (.int .i64 n) := hm.le.cell 1
              obtain ⟨v0, s0⟩ : ∃ v, w5.cell? ⟨b, 20, none⟩ = some v := ⟨_, hm.st.cell 20⟩
              obtain ⟨v1, s1⟩ : ∃ v, w5.cell? ⟨b, 21, none⟩ = some v := ⟨_, hm.st.cell 21⟩
              have sf := hm.st.frozen
              go_wp2_with fail
              go_region
              go_wp2_with fail
              go_end0
              obtain ⟨q1, q2, q3⟩ := (hm.drewN 1).done hgb (setCells_blk [.int .u8 (kd : Int), .int .i64 n] _ b 20 _ (styC s) (hm.drewN 1).st).1 (setCells_blk [.int .u8 (kd : Int), .int .i64 n] _ b 20 _ (styC s) (hm.drewN 1).st).2.1
              exact ⟨rfl, q1, by rw [HF.out, HS.out]; exact q2, by rw [HF.out, HS.out, ← styC_setLen hs.l ⟨9, by decide⟩]; exact q3⟩
            have n9 : ((mkB NM).toList == ([109, 108] : List UInt8)) = false := str_ne' (b := [109, 108]) h9
            go_upto_region 33 with fail
            clear n9
            have H9 := Lib.hid h9
            clear h9
            by_cases h10 : NM = [98, 97, 115, 105, 115]
            · have m10 : ((mkB NM).toList == ([98, 97, 115, 105, 115] : List UInt8)) = true := str_eq' (b := [98, 97, 115, 105, 115]) h10
              have HS := Lib.hid (show setR s NM V = ({ s with lens := s.lens.set 10 (kd, n) }, c) by rw [h10]; exact HSL.out ⟨10, by decide⟩)
              clear h10
              go_wp2_with (first | (refine wpList_load_blk rfl 24 _ rfl wq.heap.size 0 24 _ [.int .u8 (kd : Int), .int .i64 n] _ rfl hm.le (fun j v hv => by rw [Nat.zero_add]; exact hv) Tryz.underlying24 rfl (by kernel_rfl) ?_) | (refine wpList_store_blk rfl 24 _ _ rfl b 44 28 (styC s) [.int .u8 (kd : Int), .int .i64 n] rfl hm.st rfl (by rw [styC_len]; simp) (by kernel_rfl) (two_cells _ _ rfl rfl) ?_; intro w6 b6 k6 z6))
              go_end0
              obtain ⟨q1, q2, q3⟩ := hm.done hgb b6 k6
              exact ⟨rfl, q1, by rw [HF.out, HS.out]; exact q2, by rw [HF.out, HS.out, ← styC_setLen hs.l ⟨10, by decide⟩]; exact q3⟩
            have n10 : ((mkB NM).toList == ([98, 97, 115, 105, 115] : List UInt8)) = false := str_ne' (b := [98, 97, 115, 105, 115]) h10
            go_upto_region 35 with fail
            clear n10
            have H10 := Lib.hid h10
            clear h10
            by_cases h11 : NM = [112, 116]
            · have m11 : ((mkB NM).toList == ([112, 116] : List UInt8)) = true := str_eq' (b := [112, 116]) h11
              have HS := Lib.hid (show setR s NM V = ({ s with nums := s.nums.set 0 n }, c) by rw [h11]; exact HSN.out ⟨0, by decide⟩)
              clear h11
              go_wp2_with (refine wpList_store_one rfl 3 _ _ rfl b 22 28 (styC s) (.int .i64 n) (by rfl) hm.st (by rfl) (by rw [styC_len]; omega) (by rfl) (storeVar_int _ _ _ _) ?_; intro w6 b6 k6 z6)
              go_end0
              obtain ⟨q1, q2, q3⟩ := hm.done hgb b6 k6
              exact ⟨rfl, q1, by rw [HF.out, HS.out]; exact q2, by rw [HF.out, HS.out, ← styC_setNum hs.n ⟨0, by decide⟩]; exact q3⟩
            have n11 : ((mkB NM).toList == ([112, 116] : List UInt8)) = false := str_ne' (b := [112, 116]) h11
            go_upto_region 37 with fail
            clear n11
            have H11 := Lib.hid h11
            clear h11
            by_cases h12 : NM = [112, 114]
            · have m12 : ((mkB NM).toList == ([112, 114] : List UInt8)) = true := str_eq' (b := [112, 114]) h12
              have HS := Lib.hid (show setR s NM V = ({ s with nums := s.nums.set 1 n }, c) by rw [h12]; exact HSN.out ⟨1, by decide⟩)
              clear h12
              go_wp2_with (refine wpList_store_one rfl 3 _ _ rfl b 23 28 (styC s) (.int .i64 n) (by rfl) hm.st (by rfl) (by rw [styC_len]; omega) (by rfl) (storeVar_int _ _ _ _) ?_; intro w6 b6 k6 z6)
              go_end0
              obtain ⟨q1, q2, q3⟩ := hm.done hgb b6 k6
              exact ⟨rfl, q1, by rw [HF.out, HS.out]; exact q2, by rw [HF.out, HS.out, ← styC_setNum hs.n ⟨1, by decide⟩]; exact q3⟩
            have n12 : ((mkB NM).toList == ([112, 114] : List UInt8)) = false := str_ne' (b := [112, 114]) h12
            go_upto_region 39 with fail
            clear n12
            have H12 := Lib.hid h12
            clear h12
            by_cases h13 : NM = [112, 98]
            · have m13 : ((mkB NM).toList == ([112, 98] : List UInt8)) = true := str_eq' (b := [112, 98]) h13
              have HS := Lib.hid (show setR s NM V = ({ s with nums := s.nums.set 2 n }, c) by rw [h13]; exact HSN.out ⟨2, by decide⟩)
              clear h13
              go_wp2_with (refine wpList_store_one rfl 3 _ _ rfl b 24 28 (styC s) (.int .i64 n) (by rfl) hm.st (by rfl) (by rw [styC_len]; omega) (by rfl) (storeVar_int _ _ _ _) ?_; intro w6 b6 k6 z6)
              go_end0
              obtain ⟨q1, q2, q3⟩ := hm.done hgb b6 k6
              exact ⟨rfl, q1, by rw [HF.out, HS.out]; exact q2, by rw [HF.out, HS.out, ← styC_setNum hs.n ⟨2, by decide⟩]; exact q3⟩
            have n13 : ((mkB NM).toList == ([112, 98] : List UInt8)) = false := str_ne' (b := [112, 98]) h13
            go_upto_region 41 with fail
            clear n13
            have H13 := Lib.hid h13
            clear h13
            by_cases h14 : NM = [112, 108]
            · have m14 : ((mkB NM).toList == ([112, 108] : List UInt8)) = true := str_eq' (b := [112, 108]) h14
              have HS := Lib.hid (show setR s NM V = ({ s with nums := s.nums.set 3 n }, c) by rw [h14]; exact HSN.out ⟨3, by decide⟩)
              clear h14
              go_wp2_with (refine wpList_store_one rfl 3 _ _ rfl b 25 28 (styC s) (.int .i64 n) (by rfl) hm.st (by rfl) (by rw [styC_len]; omega) (by rfl) (storeVar_int _ _ _ _) ?_; intro w6 b6 k6 z6)
              go_end0
              obtain ⟨q1, q2, q3⟩ := hm.done hgb b6 k6
              exact ⟨rfl, q1, by rw [HF.out, HS.out]; exact q2, by rw [HF.out, HS.out, ← styC_setNum hs.n ⟨3, by decide⟩]; exact q3⟩
            have n14 : ((mkB NM).toList == ([112, 108] : List UInt8)) = false := str_ne' (b := [112, 108]) h14
            go_upto_region 43 with fail
            clear n14
            have H14 := Lib.hid h14
            clear h14
            by_cases h15 : NM = [98, 116]
            · have m15 : ((mkB NM).toList == ([98, 116] : List UInt8)) = true := str_eq' (b := [98, 116]) h15
              have HS := Lib.hid (show setR s NM V = ({ s with nums := s.nums.set 4 n }, c) by rw [h15]; exact HSN.out ⟨4, by decide⟩)
              clear h15
              go_wp2_with (refine wpList_store_one rfl 3 _ _ rfl b 26 28 (styC s) (.int .i64 n) (by rfl) hm.st (by rfl) (by rw [styC_len]; omega) (by rfl) (storeVar_int _ _ _ _) ?_; intro w6 b6 k6 z6)
              go_end0
              obtain ⟨q1, q2, q3⟩ := hm.done hgb b6 k6
              exact ⟨rfl, q1, by rw [HF.out, HS.out]; exact q2, by rw [HF.out, HS.out, ← styC_setNum hs.n ⟨4, by decide⟩]; exact q3⟩
            have n15 : ((mkB NM).toList == ([98, 116] : List UInt8)) = false := str_ne' (b := [98, 116]) h15
            go_upto_region 45 with fail
            clear n15
            have H15 := Lib.hid h15
            clear h15
            by_cases h16 : NM = [98, 114]
            · have m16 : ((mkB NM).toList == ([98, 114] : List UInt8)) = true := str_eq' (b := [98, 114]) h16
              have HS := Lib.hid (show setR s NM V = ({ s with nums := s.nums.set 5 n }, c) by rw [h16]; exact HSN.out ⟨5, by decide⟩)
              clear h16
              go_wp2_with (refine wpList_store_one rfl 3 _ _ rfl b 27 28 (styC s) (.int .i64 n) (by rfl) hm.st (by rfl) (by rw [styC_len]; omega) (by rfl) (storeVar_int _ _ _ _) ?_; intro w6 b6 k6 z6)
              go_end0
              obtain ⟨q1, q2, q3⟩ := hm.done hgb b6 k6
              exact ⟨rfl, q1, by rw [HF.out, HS.out]; exact q2, by rw [HF.out, HS.out, ← styC_setNum hs.n ⟨5, by decide⟩]; exact q3⟩
            have n16 : ((mkB NM).toList == ([98, 114] : List UInt8)) = false := str_ne' (b := [98, 114]) h16
            go_upto_region 47 with fail
            clear n16
            have H16 := Lib.hid h16
            clear h16
            by_cases h17 : NM = [98, 98]
            · have m17 : ((mkB NM).toList == ([98, 98] : List UInt8)) = true := str_eq' (b := [98, 98]) h17
              have HS := Lib.hid (show setR s NM V = ({ s with nums := s.nums.set 6 n }, c) by rw [h17]; exact HSN.out ⟨6, by decide⟩)
              clear h17
              go_wp2_with (refine wpList_store_one rfl 3 _ _ rfl b 28 28 (styC s) (.int .i64 n) (by rfl) hm.st (by rfl) (by rw [styC_len]; omega) (by rfl) (storeVar_int _ _ _ _) ?_; intro w6 b6 k6 z6)
              go_end0
              obtain ⟨q1, q2, q3⟩ := hm.done hgb b6 k6
              exact ⟨rfl, q1, by rw [HF.out, HS.out]; exact q2, by rw [HF.out, HS.out, ← styC_setNum hs.n ⟨6, by decide⟩]; exact q3⟩
            have n17 : ((mkB NM).toList == ([98, 98] : List UInt8)) = false := str_ne' (b := [98, 98]) h17
            go_upto_region 49 with fail
            clear n17
            have H17 := Lib.hid h17
            clear h17
            by_cases h18 : NM = [98, 108]
            · have m18 : ((mkB NM).toList == ([98, 108] : List UInt8)) = true := str_eq' (b := [98, 108]) h18
              have HS := Lib.hid (show setR s NM V = ({ s with nums := s.nums.set 7 n }, c) by rw [h18]; exact HSN.out ⟨7, by decide⟩)
              clear h18
              go_wp2_with (refine wpList_store_one rfl 3 _ _ rfl b 29 28 (styC s) (.int .i64 n) (by rfl) hm.st (by rfl) (by rw [styC_len]; omega) (by rfl) (storeVar_int _ _ _ _) ?_; intro w6 b6 k6 z6)
              go_end0
              obtain ⟨q1, q2, q3⟩ := hm.done hgb b6 k6
              exact ⟨rfl, q1, by rw [HF.out, HS.out]; exact q2, by rw [HF.out, HS.out, ← styC_setNum hs.n ⟨7, by decide⟩]; exact q3⟩
            have n18 : ((mkB NM).toList == ([98, 108] : List UInt8)) = false := str_ne' (b := [98, 108]) h18
            go_upto_region 51 with fail
            clear n18
            have H18 := Lib.hid h18
            clear h18
            by_cases h19 : NM = [120]
            · have m19 : ((mkB NM).toList == ([120] : List UInt8)) = true := str_eq' (b := [120]) h19
              have HS := Lib.hid (show setR s NM V = ({ s with nums := s.nums.set 8 n }, c) by rw [h19]; exact HSN.out ⟨8, by decide⟩)
              clear h19
              go_wp2_with (refine wpList_store_one rfl 3 _ _ rfl b 30 28 (styC s) (.int .i64 n) (by rfl) hm.st (by rfl) (by rw [styC_len]; omega) (by rfl) (storeVar_int _ _ _ _) ?_; intro w6 b6 k6 z6)
              go_end0
              obtain ⟨q1, q2, q3⟩ := hm.done hgb b6 k6
              exact ⟨rfl, q1, by rw [HF.out, HS.out]; exact q2, by rw [HF.out, HS.out, ← styC_setNum hs.n ⟨8, by decide⟩]; exact q3⟩
            have n19 : ((mkB NM).toList == ([120] : List UInt8)) = false := str_ne' (b := [120]) h19
            go_upto_region 53 with fail
            clear n19
            have H19 := Lib.hid h19
            clear h19
            by_cases h20 : NM = [121]
            · have m20 : ((mkB NM).toList == ([121] : List UInt8)) = true := str_eq' (b := [121]) h20
              have HS := Lib.hid (show setR s NM V = ({ s with nums := s.nums.set 9 n }, c) by rw [h20]; exact HSN.out ⟨9, by decide⟩)
              clear h20
              go_wp2_with (refine wpList_store_one rfl 3 _ _ rfl b 31 28 (styC s) (.int .i64 n) (by rfl) hm.st (by rfl) (by rw [styC_len]; omega) (by rfl) (storeVar_int _ _ _ _) ?_; intro w6 b6 k6 z6)
              go_end0
              obtain ⟨q1, q2, q3⟩ := hm.done hgb b6 k6
              exact ⟨rfl, q1, by rw [HF.out, HS.out]; exact q2, by rw [HF.out, HS.out, ← styC_setNum hs.n ⟨9, by decide⟩]; exact q3⟩
            have n20 : ((mkB NM).toList == ([121] : List UInt8)) = false := str_ne' (b := [121]) h20
            go_upto_region 55 with fail
            clear n20
            have H20 := Lib.hid h20
            clear h20
            by_cases h21 : NM = [102, 111, 110, 116]
            · have m21 : ((mkB NM).toList == ([102, 111, 110, 116] : List UInt8)) = true := str_eq' (b := [102, 111, 110, 116]) h21
              have HS := Lib.hid (show setR s NM V = ({ s with nums := s.nums.set 10 n }, c) by rw [h21]; exact HSN.out ⟨10, by decide⟩)
              clear h21
              go_wp2_with (refine wpList_store_one rfl 3 _ _ rfl b 32 28 (styC s) (.int .i64 n) (by rfl) hm.st (by rfl) (by rw [styC_len]; omega) (by rfl) (storeVar_int _ _ _ _) ?_; intro w6 b6 k6 z6)
              go_end0
              obtain ⟨q1, q2, q3⟩ := hm.done hgb b6 k6
              exact ⟨rfl, q1, by rw [HF.out, HS.out]; exact q2, by rw [HF.out, HS.out, ← styC_setNum hs.n ⟨10, by decide⟩]; exact q3⟩
            have n21 : ((mkB NM).toList == ([102, 111, 110, 116] : List UInt8)) = false := str_ne' (b := [102, 111, 110, 116]) h21
            go_upto_region 57 with fail
            clear n21
            have H21 := Lib.hid h21
            clear h21
            by_cases h22 : NM = [103, 97, 112]
            · have m22 : ((mkB NM).toList == ([103, 97, 112] : List UInt8)) = true := str_eq' (b := [103, 97, 112]) h22
              have HS := Lib.hid (show setR s NM V = ({ s with nums := s.nums.set 11 n }, c) by rw [h22]; exact HSN.out ⟨11, by decide⟩)
              clear h22
              go_wp2_with (refine wpList_store_one rfl 3 _ _ rfl b 40 28 (styC s) (.int .i64 n) (by rfl) hm.st (by rfl) (by rw [styC_len]; omega) (by rfl) (storeVar_int _ _ _ _) ?_; intro w6 b6 k6 z6)
              go_end0
              obtain ⟨q1, q2, q3⟩ := hm.done hgb b6 k6
              exact ⟨rfl, q1, by rw [HF.out, HS.out]; exact q2, by rw [HF.out, HS.out, ← styC_setNum hs.n ⟨11, by decide⟩]; exact q3⟩
            have n22 : ((mkB NM).toList == ([103, 97, 112] : List UInt8)) = false := str_ne' (b := [103, 97, 112]) h22
            go_upto_region 59 with fail
            clear n22
            have H22 := Lib.hid h22
            clear h22
            by_cases h23 : NM = [108, 105, 110, 101, 103, 97, 112]
            · have m23 : ((mkB NM).toList == ([108, 105, 110, 101, 103, 97, 112] : List UInt8)) = true := str_eq' (b := [108, 105, 110, 101, 103, 97, 112]) h23
              have HS := Lib.hid (show setR s NM V = ({ s with nums := s.nums.set 12 n }, c) by rw [h23]; exact HSN.out ⟨12, by decide⟩)
              clear h23
              go_wp2_with (refine wpList_store_one rfl 3 _ _ rfl b 41 28 (styC s) (.int .i64 n) (by rfl) hm.st (by rfl) (by rw [styC_len]; omega) (by rfl) (storeVar_int _ _ _ _) ?_; intro w6 b6 k6 z6)
              go_end0
              obtain ⟨q1, q2, q3⟩ := hm.done hgb b6 k6
              exact ⟨rfl, q1, by rw [HF.out, HS.out]; exact q2, by rw [HF.out, HS.out, ← styC_setNum hs.n ⟨12, by decide⟩]; exact q3⟩
            have n23 : ((mkB NM).toList == ([108, 105, 110, 101, 103, 97, 112] : List UInt8)) = false := str_ne' (b := [108, 105, 110, 101, 103, 97, 112]) h23
            go_upto_region 61 with fail
            clear n23
            have H23 := Lib.hid h23
            clear h23
            by_cases h24 : NM = [103, 114, 111, 119]
            · have m24 : ((mkB NM).toList == ([103, 114, 111, 119] : List UInt8)) = true := str_eq' (b := [103, 114, 111, 119]) h24
              have HS := Lib.hid (show setR s NM V = ({ s with nums := s.nums.set 13 n }, c) by rw [h24]; exact HSN.out ⟨13, by decide⟩)
              clear h24
              go_wp2_with (refine wpList_store_one rfl 3 _ _ rfl b 42 28 (styC s) (.int .i64 n) (by rfl) hm.st (by rfl) (by rw [styC_len]; omega) (by rfl) (storeVar_int _ _ _ _) ?_; intro w6 b6 k6 z6)
              go_end0
              obtain ⟨q1, q2, q3⟩ := hm.done hgb b6 k6
              exact ⟨rfl, q1, by rw [HF.out, HS.out]; exact q2, by rw [HF.out, HS.out, ← styC_setNum hs.n ⟨13, by decide⟩]; exact q3⟩
            have n24 : ((mkB NM).toList == ([103, 114, 111, 119] : List UInt8)) = false := str_ne' (b := [103, 114, 111, 119]) h24
            go_upto_region 63 with fail
            clear n24
            have H24 := Lib.hid h24
            clear h24
            by_cases h25 : NM = [115, 104, 114, 105, 110, 107]
            · have m25 : ((mkB NM).toList == ([115, 104, 114, 105, 110, 107] : List UInt8)) = true := str_eq' (b := [115, 104, 114, 105, 110, 107]) h25
              have HS := Lib.hid (show setR s NM V = ({ s with nums := s.nums.set 14 n }, c) by rw [h25]; exact HSN.out ⟨14, by decide⟩)
              clear h25
              go_wp2_with (refine wpList_store_one rfl 3 _ _ rfl b 43 28 (styC s) (.int .i64 n) (by rfl) hm.st (by rfl) (by rw [styC_len]; omega) (by rfl) (storeVar_int _ _ _ _) ?_; intro w6 b6 k6 z6)
              go_end0
              obtain ⟨q1, q2, q3⟩ := hm.done hgb b6 k6
              exact ⟨rfl, q1, by rw [HF.out, HS.out]; exact q2, by rw [HF.out, HS.out, ← styC_setNum hs.n ⟨14, by decide⟩]; exact q3⟩
            have n25 : ((mkB NM).toList == ([115, 104, 114, 105, 110, 107] : List UInt8)) = false := str_ne' (b := [115, 104, 114, 105, 110, 107]) h25
            go_upto_region 65 with fail
            clear n25
            have H25 := Lib.hid h25
            clear h25
            by_cases h26 : NM = [111, 114, 100, 101, 114]
            · have m26 : ((mkB NM).toList == ([111, 114, 100, 101, 114] : List UInt8)) = true := str_eq' (b := [111, 114, 100, 101, 114]) h26
              have HS := Lib.hid (show setR s NM V = ({ s with nums := s.nums.set 15 n }, c) by rw [h26]; exact HSN.out ⟨15, by decide⟩)
              clear h26
              go_wp2_with (refine wpList_store_one rfl 3 _ _ rfl b 46 28 (styC s) (.int .i64 n) (by rfl) hm.st (by rfl) (by rw [styC_len]; omega) (by rfl) (storeVar_int _ _ _ _) ?_; intro w6 b6 k6 z6)
              go_end0
              obtain ⟨q1, q2, q3⟩ := hm.done hgb b6 k6
              exact ⟨rfl, q1, by rw [HF.out, HS.out]; exact q2, by rw [HF.out, HS.out, ← styC_setNum hs.n ⟨15, by decide⟩]; exact q3⟩
            have n26 : ((mkB NM).toList == ([111, 114, 100, 101, 114] : List UInt8)) = false := str_ne' (b := [111, 114, 100, 101, 114]) h26
            have HS := Lib.hid (show setR s NM V = (s, true) from HSE.out (by simp [lensT, H0.out, H1.out, H2.out, H3.out, H4.out, H5.out, H6.out, H7.out, H8.out, H9.out, H10.out]) (by simp [numsT, H11.out, H12.out, H13.out, H14.out, H15.out, H16.out, H17.out, H18.out, H19.out, H20.out, H21.out, H22.out, H23.out, H24.out, H25.out, h26]))
            have f2 := hm.rd.frozen
            have r2 : w5.cell? ⟨g, 2, none⟩ = some (.bool (bad || c)) := hm.rd.cell 2
            clear h26
            go_wp2_with fail
            go_end0
            exact ⟨rfl, hm.kp.setCell (by simp) _, by rw [HF.out, HS.out, Bool.or_true]; exact hm.rd.wrong, by rw [HF.out, HS.out]; exact hm.st.kept ((Kept.refl [g] _).setCell (by simp) _) (by simpa using hgb.symm)⟩
      · have n1 : (((l[k].toNat : Nat) : Int) != 61) = true := by unfold bne; rw [show (((l[k].toNat : Nat) : Int) == 61) = false from neq8 h61]; rfl
        go_wp2_with fail
        go_round
        case rel =>
          refine ⟨k + 1, by omega, by go_num, fun c hc => ?_⟩
          rw [take_one hlt] at hc
          rcases List.mem_append.1 hc with hc | hc
          · exact HC.out c hc
          · rw [List.mem_singleton.1 hc]
            intro h
            exact h61 (by rw [h]; rfl)
        case measure => simp [intOf]; omega
    · have n2 : (((k : Nat) : Int) == ((l.size : Nat) : Int)) = true := by rw [beq_iff_eq]; omega
      have HE := Lib.hid (show fieldR s l.data.toList = (s, true) by
        unfold fieldR
        rw [cutEq_none (fun c hc => HC.out c (by rw [List.take_of_length_le (by rw [size_len]; omega)]; exact hc))])
      go_wp2_with fail
      refine bodyPost_ret (results_none rfl _ _ _) rfl ?_
      exact ⟨rfl, (Kept.refl _ _).setCell (by simp) _, by rw [HE.out, Bool.or_true]; exact hr.wrong, by rw [HE.out]; exact hb.kept ((Kept.refl [g] _).setCell (by simp) _) (by simpa using hgb.symm)⟩

end Go.Proofs.YtaoehdmdjplegaaGreatDoor
