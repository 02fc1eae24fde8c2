/-
  An event as an argument: what a walk is told of it (written by gen_arg32.py).
-/
import Derived.ChangeSlices
import Derived.OpenShut
import Derived.Test.YtaoehdmdjplegaaGreatDoorLawP
import Derived.Lib.LaidU8
import Derived.LaidMore
import Derived.LaidLaws
import Derived.MakeChecks
import Derived.Test.YtaoehdmdjplegaaGreatDoorRows
import Derived.Test.YtaoehdmdjplegaaGreatDoorScrW
import Derived.Test.YtaoehdmdjplegaaGreatDoorLiftL
import Derived.Test.YtaoehdmdjplegaaGreatDoorTie
import Derived.Test.YtaoehdmdjplegaaGreatDoorCards
namespace Go.Proofs.YtaoehdmdjplegaaGreatDoor
open Go.ChangeShapes Go.WideShapes Go.ChangeAt Go.RowKit

/-- The types of one cell that a type is made of, in order. -/
def lsh (P : Program) : Nat → TypeId → Option (List TypeId)
  | 0, _ => none
  | d + 1, t => match P.underlying t with
    | some .bool | some (.int _) | some .string | some (.slice _) => if P.cellsOf t = 1 then some [t] else none
    | some (.array n e) => match lsh P d e with
      | none => none
      | some l => if P.cellsOf e = l.length ∧ P.cellsOf t = n * l.length then some (List.replicate n l).flatten else none
    | some (.struct fs) => match shpF P (lsh P d) fs.toList 0 with
      | none => none
      | some l => if P.cellsOf t = l.length then some l else none
    | _ => none
def Opens (R : TypeId → Value → Prop) : List TypeId → List Value → Prop
  | [], [] => True
  | t :: ts, c :: cs => R t c ∧ Opens R ts cs
  | _, _ => False
theorem Opens.append {R : TypeId → Value → Prop} : ∀ {a : List TypeId} {x : List Value} {b : List TypeId} {y : List Value}, Opens R a x → Opens R b y → Opens R (a ++ b) (x ++ y)
  | [], [], _, _, _, h => h
  | _ :: _, _ :: _, _, _, ⟨h0, h1⟩, h => ⟨h0, h1.append h⟩
  | [], _ :: _, _, _, h, _ => h.elim
  | _ :: _, [], _, _, h, _ => h.elim
theorem Opens.cons {R : TypeId → Value → Prop} {t : TypeId} {ts : List TypeId} : ∀ {cs : List Value}, Opens R (t :: ts) cs → ∃ c cs', cs = c :: cs' ∧ R t c ∧ Opens R ts cs'
  | [], h => h.elim
  | c :: cs, h => ⟨c, cs, rfl, h.1, h.2⟩
theorem Opens.nil {R : TypeId → Value → Prop} : ∀ {cs : List Value}, Opens R [] cs → cs = []
  | [], _ => rfl
  | _ :: _, h => h.elim
section
variable {H : Type} {enc : TypeId × Value → H} {P : Program} {W : World} {base : Nat} {sp : Nat → Bool} {held : Bool} {p : List MemPlace}
/-- A cell that reads at its type; the places of its reading lie among p. -/
def ReadsAs (enc : TypeId × Value → H) (P : Program) (W : World) (base : Nat) (sp : Nat → Bool) (held : Bool) (p : List MemPlace) (t : TypeId) (c : Value) : Prop :=
  ∃ m y, DataW.trod enc P W base sp held m t [c] = some y ∧ ∀ z ∈ y.2, z ∈ p
theorem opens_fields {m : Nat} {sh : TypeId → Option (List TypeId)} (ih : ∀ t l, sh t = some l → ∀ cs x, DataW.trod enc P W base sp held m t cs = some x → (∀ z ∈ x.2, z ∈ p) → cs.length = l.length → Opens (ReadsAs enc P W base sp held p) l cs) (all : List Value) :
    ∀ (fs : List Field) (o : Nat) (l : List TypeId), shpF P sh fs o = some l → all.length = o + l.length →
      (∀ f ∈ fs, ∃ y, DataW.trod enc P W base sp held m f.type ((all.drop f.offset).take (P.cellsOf f.type)) = some y ∧ ∀ z ∈ y.2, z ∈ p) → Opens (ReadsAs enc P W base sp held p) l (all.drop o)
  | [], o, l, h, hl, _ => by
    simp only [shpF] at h
    injection h with h
    subst h
    rw [List.drop_of_length_le (by simpa using Nat.le_of_eq hl)]
    trivial
  | f :: fs, o, l, h, hl, hall => by
    rw [shpF] at h
    split at h
    · cases h
    · rename_i l1 h1
      split at h
      · rename_i hc
        cases h2 : shpF P sh fs (o + l1.length) with
        | none => rw [h2] at h; cases h
        | some l2 =>
          rw [h2] at h
          injection h with h
          subst h
          rw [List.length_append] at hl
          obtain ⟨y, hy, hz⟩ := hall f (by simp)
          rw [hc.1, hc.2] at hy
          have a1 := ih f.type l1 h1 _ y hy hz (by rw [List.length_take, List.length_drop]; omega)
          have a2 := opens_fields ih all fs (o + l1.length) l2 h2 (by omega) (fun g hg => hall g (by simp [hg]))
          have e : all.drop o = (all.drop o).take l1.length ++ all.drop (o + l1.length) := by rw [← List.drop_drop, List.take_append_drop]
          rw [e]
          exact a1.append a2
      · cases h
theorem opens_elems {m : Nat} {e : TypeId} {l : List TypeId} (ih : ∀ cs x, DataW.trod enc P W base sp held m e cs = some x → (∀ z ∈ x.2, z ∈ p) → cs.length = l.length → Opens (ReadsAs enc P W base sp held p) l cs) (all : List Value) :
    ∀ (n j : Nat), all.length = (j + n) * l.length →
      (∀ i, i < j + n → ∃ y, DataW.trod enc P W base sp held m e ((all.drop (i * l.length)).take l.length) = some y ∧ ∀ z ∈ y.2, z ∈ p) → Opens (ReadsAs enc P W base sp held p) (List.replicate n l).flatten (all.drop (j * l.length))
  | 0, j, hl, _ => by
    rw [List.drop_of_length_le (by rw [hl]; simp)]
    trivial
  | n + 1, j, hl, hall => by
    rw [List.replicate_succ, List.flatten_cons]
    obtain ⟨y, hy, hz⟩ := hall j (by omega)
    have hlen : (j + 1) * l.length ≤ all.length := by rw [hl]; exact Nat.mul_le_mul_right _ (by omega)
    rw [Nat.succ_mul] at hlen
    have a1 := ih _ y hy hz (by rw [List.length_take, List.length_drop]; omega)
    have a2 := opens_elems ih all n (j + 1) (by rw [hl]; congr 1; omega) (fun i hi => hall i (by omega))
    have e1 : all.drop (j * l.length) = (all.drop (j * l.length)).take l.length ++ all.drop ((j + 1) * l.length) := by
      rw [Nat.succ_mul, ← List.drop_drop, List.take_append_drop]
    rw [e1]
    exact a1.append a2
theorem lsh_opens : ∀ (d : Nat) (t : TypeId) (l : List TypeId), lsh P d t = some l → ∀ (fuel : Nat) (cs : List Value) (x : DataW H × List MemPlace), DataW.trod enc P W base sp held fuel t cs = some x → (∀ z ∈ x.2, z ∈ p) → cs.length = l.length → Opens (ReadsAs enc P W base sp held p) l cs
  | 0, _, _, h, _, _, _, _, _, _ => by cases h
  | d + 1, t, l, h, fuel, cs, x, hx, hz, hl => by
    have one : (if P.cellsOf t = 1 then some [t] else none) = some l → Opens (ReadsAs enc P W base sp held p) l cs := by
      intro h
      split at h
      · injection h with h
        subst h
        obtain ⟨c, rfl⟩ := List.length_eq_one_iff.1 hl
        exact ⟨⟨fuel, x, hx, hz⟩, trivial⟩
      · cases h
    rw [lsh] at h
    split at h
    · exact one h
    · exact one h
    · exact one h
    · exact one h
    · rename_i n e hu
      split at h
      · cases h
      · rename_i l1 h1
        split at h
        · rename_i hc
          injection h with h
          subst h
          obtain ⟨xs, m, rfl, rfl, hcl, hxl, hall⟩ := DataW.trod_array hu hx
          have := opens_elems (m := m) (l := l1) (fun cs x a b c => lsh_opens d e l1 h1 m cs x a b c) cs n 0 (by rw [hcl, hc.2]; simp) (fun i hi => by
            have hi : i < n := by omega
            have ha := hall i hi
            rw [hc.1, List.getElem?_eq_getElem (by omega)] at ha
            exact ⟨_, ha, fun z hzz => hz z (List.mem_flatMap.2 ⟨_, List.getElem_mem _, hzz⟩)⟩)
          simpa using this
        · cases h
    · rename_i fs hu
      split at h
      · cases h
      · rename_i l1 h1
        split at h
        · rename_i hc
          injection h with h
          subst h
          obtain ⟨xs, m, rfl, rfl, hcl, hxl, hall⟩ := DataW.trod_struct hu hx
          have := opens_fields (m := m) (fun t l a cs x b c e => lsh_opens d t l a m cs x b c e) cs fs.toList 0 l1 h1 (by rw [hcl, hc]; simp) (fun f hf => by
            obtain ⟨i, hi, rfl⟩ := List.getElem_of_mem hf
            have hi' : i < fs.size := by simpa using hi
            have ha := hall i fs[i] (by simp [hi'])
            rw [List.getElem?_eq_getElem (by omega)] at ha
            exact ⟨_, by simpa using ha, fun z hzz => hz z (List.mem_flatMap.2 ⟨_, List.getElem_mem _, hzz⟩)⟩)
          simpa using this
        · cases h
    · cases h
end
theorem u8_nat2 {n : Int} (h : (Lit.int .u8 n).wf = true) : ∃ k : Nat, n = (k : Int) ∧ k < 256 := by
  have : 0 ≤ n ∧ n ≤ 255 := by
    simp [Lit.wf, IntKind.min, IntKind.max, IntKind.signed, IntKind.bits] at h
    omega
  exact ⟨n.toNat, by omega, by omega⟩
section
variable {H : Type} {enc : TypeId × Value → H} {W : World} {p : List MemPlace} {c : Value}
theorem ra_u8 (h : ReadsAs enc Tryz.prog W 0 (fun _ => true) true p 5 c) : ∃ k : Nat, c = .int .u8 (k : Int) ∧ k < 256 := by
  obtain ⟨m, y, hy, _⟩ := h
  obtain ⟨n, e, _, hw⟩ := DataW.trod_int Tryz.underlying5 hy
  obtain ⟨k, rfl, hk⟩ := u8_nat2 hw
  injection e with e
  exact ⟨k, e, hk⟩
theorem ra_int (h : ReadsAs enc Tryz.prog W 0 (fun _ => true) true p 3 c) : ∃ n : Int, c = .int .i64 n ∧ I64 n := by
  obtain ⟨m, y, hy, _⟩ := h
  obtain ⟨n, e, _, hw⟩ := DataW.trod_int Tryz.underlying3 hy
  injection e with e
  refine ⟨n, e, ?_⟩
  simp [Lit.wf, IntKind.min, IntKind.max, IntKind.signed, IntKind.bits] at hw
  unfold I64
  omega
theorem ra_bool (h : ReadsAs enc Tryz.prog W 0 (fun _ => true) true p 4 c) : ∃ b : Bool, c = .bool b := by
  obtain ⟨m, y, hy, _⟩ := h
  obtain ⟨n, e, _⟩ := DataW.trod_bool Tryz.underlying4 hy
  injection e with e
  exact ⟨n, e⟩
theorem ra_str (h : ReadsAs enc Tryz.prog W 0 (fun _ => true) true p 9 c) : ∃ l : List UInt8, c = .string (mkB l) := by
  obtain ⟨m, y, hy, _⟩ := h
  obtain ⟨s, e, _⟩ := DataW.trod_string Tryz.underlying9 hy
  injection e with e
  exact ⟨s.data.toList, e⟩
theorem Tryz.cellsU8 : Tryz.prog.cellsOf 5 = 1 := by kernel_rfl
theorem ra_by (h : ReadsAs enc Tryz.prog W 0 (fun _ => true) true p 22 c) (hlt : ∀ x ∈ p, x.block < W.heap.size) : ∃ l : List UInt8, Byts W W.heap.size c l := by
  obtain ⟨m, y, hy, hz⟩ := h
  rcases open_ints Tryz.underlying22 Tryz.underlying5 Tryz.cellsU8 hy with ⟨hcs, hx⟩ | ⟨a, len, cap, zs, hcs, _, hl, hm, hzl, hx, hcell, hwz⟩
  · injection hcs with hcs
    exact ⟨[], hcs ▸ Byts.nil_ _ _⟩
  · injection hcs with hcs
    subst hcs
    simp only [if_true] at hzl
    have hlen : (zs.take len).length = len := by rw [List.length_take]; omega
    have el : ((zs.take len).map fun z => UInt8.ofNat z.toNat).length = len := by rw [List.length_map, hlen]
    refine ⟨(zs.take len).map fun z => UInt8.ofNat z.toNat, some a, cap, by rw [el], by rw [el]; exact hl, by simp, fun hn => ⟨a, rfl, ?_, fun j u hu => ?_⟩⟩
    · rw [el] at hn
      have hs : a.spot = none := by
        have := World.cell?_spot (hcell 0 (by omega))
        simpa [Addr.add] using this
      obtain ⟨b, off, spot⟩ := a
      simp at hs
      subst hs
      exact hlt (.cell b off) (hz _ (by rw [hx]; exact MemPlace.mem_row.2 ⟨0, by omega, by simp⟩))
    · rw [List.map_map, List.getElem?_map] at hu
      obtain ⟨z, hzj, hu⟩ := Option.map_eq_some_iff.1 hu
      have hj : j < len := by
        have := (List.getElem?_eq_some_iff.1 hzj).1
        omega
      rw [List.getElem?_take, if_pos hj] at hzj
      have hc2 := hcell j (by omega)
      rw [List.getD_eq_getElem?_getD, hzj] at hc2
      obtain ⟨k, hk, hk2⟩ := u8_nat2 (hwz z (List.mem_of_getElem? hzj))
      subst hk
      rw [hc2, ← hu]
      simp
      omega
end
def evSh : List TypeId := [5, 3, 3, 22, 5, 3, 3, 3, 3, 3, 5, 5, 4, 5, 3, 5, 3, 5, 3, 5, 3, 5, 3, 5, 3, 5, 3, 5, 3, 5, 3, 5, 3, 3, 3, 3, 3, 3, 3, 3, 3, 3, 3, 3, 5, 5, 5, 5, 5, 4, 5, 3, 3, 3, 3, 5, 3, 3, 9]
theorem evSh_is : lsh Tryz.prog 12 34 = some evSh := by kernel_rfl
theorem cellsEv : Tryz.prog.cellsOf 34 = 59 := by kernel_rfl
set_option maxRecDepth 100000 in
set_option maxHeartbeats 4000000 in
theorem arg_event {H : Type} {enc : TypeId × Value → H} {W : World} {base : Nat} {v : Value} {d : DataW H} {p : List MemPlace} {fs : Array Field} (hu : Tryz.prog.underlying 34 = some (.struct fs))
    (hv : Value.okWide Tryz.prog W .any base 34 v) (ht : DataW.Trod enc Tryz.prog W 0 (fun _ => true) true 34 v d p) (hlt : ∀ x ∈ p, x.block < W.heap.size) :
    ∃ (e : Ev) (va : Value), v = .agg (evC e va).toArray ∧ e.Ok ∧ Byts W W.heap.size va e.bytes := by
  obtain ⟨cs, rfl, hsz⟩ := okWide_struct hu hv
  rw [cellsEv] at hsz
  obtain ⟨fuel, hf⟩ := ht
  obtain ⟨L⟩ := cs
  have hL : L.length = 59 := hsz
  have ho := lsh_opens 12 _ _ evSh_is fuel L _ hf (fun z hz => hz) hL
  clear hf hv
  clear hL hsz
  unfold evSh at ho
  obtain ⟨c0, L, rfl, h0, ho⟩ := Opens.cons ho
  obtain ⟨c1, L, rfl, h1, ho⟩ := Opens.cons ho
  obtain ⟨c2, L, rfl, h2, ho⟩ := Opens.cons ho
  obtain ⟨c3, L, rfl, h3, ho⟩ := Opens.cons ho
  obtain ⟨c4, L, rfl, h4, ho⟩ := Opens.cons ho
  obtain ⟨c5, L, rfl, h5, ho⟩ := Opens.cons ho
  obtain ⟨c6, L, rfl, h6, ho⟩ := Opens.cons ho
  obtain ⟨c7, L, rfl, h7, ho⟩ := Opens.cons ho
  obtain ⟨c8, L, rfl, h8, ho⟩ := Opens.cons ho
  obtain ⟨c9, L, rfl, h9, ho⟩ := Opens.cons ho
  obtain ⟨c10, L, rfl, h10, ho⟩ := Opens.cons ho
  obtain ⟨c11, L, rfl, h11, ho⟩ := Opens.cons ho
  obtain ⟨c12, L, rfl, h12, ho⟩ := Opens.cons ho
  obtain ⟨c13, L, rfl, h13, ho⟩ := Opens.cons ho
  obtain ⟨c14, L, rfl, h14, ho⟩ := Opens.cons ho
  obtain ⟨c15, L, rfl, h15, ho⟩ := Opens.cons ho
  obtain ⟨c16, L, rfl, h16, ho⟩ := Opens.cons ho
  obtain ⟨c17, L, rfl, h17, ho⟩ := Opens.cons ho
  obtain ⟨c18, L, rfl, h18, ho⟩ := Opens.cons ho
  obtain ⟨c19, L, rfl, h19, ho⟩ := Opens.cons ho
  obtain ⟨c20, L, rfl, h20, ho⟩ := Opens.cons ho
  obtain ⟨c21, L, rfl, h21, ho⟩ := Opens.cons ho
  obtain ⟨c22, L, rfl, h22, ho⟩ := Opens.cons ho
  obtain ⟨c23, L, rfl, h23, ho⟩ := Opens.cons ho
  obtain ⟨c24, L, rfl, h24, ho⟩ := Opens.cons ho
  obtain ⟨c25, L, rfl, h25, ho⟩ := Opens.cons ho
  obtain ⟨c26, L, rfl, h26, ho⟩ := Opens.cons ho
  obtain ⟨c27, L, rfl, h27, ho⟩ := Opens.cons ho
  obtain ⟨c28, L, rfl, h28, ho⟩ := Opens.cons ho
  obtain ⟨c29, L, rfl, h29, ho⟩ := Opens.cons ho
  obtain ⟨c30, L, rfl, h30, ho⟩ := Opens.cons ho
  obtain ⟨c31, L, rfl, h31, ho⟩ := Opens.cons ho
  obtain ⟨c32, L, rfl, h32, ho⟩ := Opens.cons ho
  obtain ⟨c33, L, rfl, h33, ho⟩ := Opens.cons ho
  obtain ⟨c34, L, rfl, h34, ho⟩ := Opens.cons ho
  obtain ⟨c35, L, rfl, h35, ho⟩ := Opens.cons ho
  obtain ⟨c36, L, rfl, h36, ho⟩ := Opens.cons ho
  obtain ⟨c37, L, rfl, h37, ho⟩ := Opens.cons ho
  obtain ⟨c38, L, rfl, h38, ho⟩ := Opens.cons ho
  obtain ⟨c39, L, rfl, h39, ho⟩ := Opens.cons ho
  obtain ⟨c40, L, rfl, h40, ho⟩ := Opens.cons ho
  obtain ⟨c41, L, rfl, h41, ho⟩ := Opens.cons ho
  obtain ⟨c42, L, rfl, h42, ho⟩ := Opens.cons ho
  obtain ⟨c43, L, rfl, h43, ho⟩ := Opens.cons ho
  obtain ⟨c44, L, rfl, h44, ho⟩ := Opens.cons ho
  obtain ⟨c45, L, rfl, h45, ho⟩ := Opens.cons ho
  obtain ⟨c46, L, rfl, h46, ho⟩ := Opens.cons ho
  obtain ⟨c47, L, rfl, h47, ho⟩ := Opens.cons ho
  obtain ⟨c48, L, rfl, h48, ho⟩ := Opens.cons ho
  obtain ⟨c49, L, rfl, h49, ho⟩ := Opens.cons ho
  obtain ⟨c50, L, rfl, h50, ho⟩ := Opens.cons ho
  obtain ⟨c51, L, rfl, h51, ho⟩ := Opens.cons ho
  obtain ⟨c52, L, rfl, h52, ho⟩ := Opens.cons ho
  obtain ⟨c53, L, rfl, h53, ho⟩ := Opens.cons ho
  obtain ⟨c54, L, rfl, h54, ho⟩ := Opens.cons ho
  obtain ⟨c55, L, rfl, h55, ho⟩ := Opens.cons ho
  obtain ⟨c56, L, rfl, h56, ho⟩ := Opens.cons ho
  obtain ⟨c57, L, rfl, h57, ho⟩ := Opens.cons ho
  obtain ⟨c58, L, rfl, h58, ho⟩ := Opens.cons ho
  obtain rfl := Opens.nil ho
  clear ho
  obtain ⟨k0, rfl, w0⟩ := ra_u8 h0
  obtain ⟨k1, rfl, w1⟩ := ra_int h1
  obtain ⟨k2, rfl, w2⟩ := ra_int h2
  obtain ⟨k3, w3⟩ := ra_by h3 hlt
  obtain ⟨k4, rfl, w4⟩ := ra_u8 h4
  obtain ⟨k5, rfl, w5⟩ := ra_int h5
  obtain ⟨k6, rfl, w6⟩ := ra_int h6
  obtain ⟨k7, rfl, w7⟩ := ra_int h7
  obtain ⟨k8, rfl, w8⟩ := ra_int h8
  obtain ⟨k9, rfl, w9⟩ := ra_int h9
  obtain ⟨k10, rfl, w10⟩ := ra_u8 h10
  obtain ⟨k11, rfl, w11⟩ := ra_u8 h11
  obtain ⟨k12, rfl⟩ := ra_bool h12
  obtain ⟨k13, rfl, w13⟩ := ra_u8 h13
  obtain ⟨k14, rfl, w14⟩ := ra_int h14
  obtain ⟨k15, rfl, w15⟩ := ra_u8 h15
  obtain ⟨k16, rfl, w16⟩ := ra_int h16
  obtain ⟨k17, rfl, w17⟩ := ra_u8 h17
  obtain ⟨k18, rfl, w18⟩ := ra_int h18
  obtain ⟨k19, rfl, w19⟩ := ra_u8 h19
  obtain ⟨k20, rfl, w20⟩ := ra_int h20
  obtain ⟨k21, rfl, w21⟩ := ra_u8 h21
  obtain ⟨k22, rfl, w22⟩ := ra_int h22
  obtain ⟨k23, rfl, w23⟩ := ra_u8 h23
  obtain ⟨k24, rfl, w24⟩ := ra_int h24
  obtain ⟨k25, rfl, w25⟩ := ra_u8 h25
  obtain ⟨k26, rfl, w26⟩ := ra_int h26
  obtain ⟨k27, rfl, w27⟩ := ra_u8 h27
  obtain ⟨k28, rfl, w28⟩ := ra_int h28
  obtain ⟨k29, rfl, w29⟩ := ra_u8 h29
  obtain ⟨k30, rfl, w30⟩ := ra_int h30
  obtain ⟨k31, rfl, w31⟩ := ra_u8 h31
  obtain ⟨k32, rfl, w32⟩ := ra_int h32
  obtain ⟨k33, rfl, w33⟩ := ra_int h33
  obtain ⟨k34, rfl, w34⟩ := ra_int h34
  obtain ⟨k35, rfl, w35⟩ := ra_int h35
  obtain ⟨k36, rfl, w36⟩ := ra_int h36
  obtain ⟨k37, rfl, w37⟩ := ra_int h37
  obtain ⟨k38, rfl, w38⟩ := ra_int h38
  obtain ⟨k39, rfl, w39⟩ := ra_int h39
  obtain ⟨k40, rfl, w40⟩ := ra_int h40
  obtain ⟨k41, rfl, w41⟩ := ra_int h41
  obtain ⟨k42, rfl, w42⟩ := ra_int h42
  obtain ⟨k43, rfl, w43⟩ := ra_int h43
  obtain ⟨k44, rfl, w44⟩ := ra_u8 h44
  obtain ⟨k45, rfl, w45⟩ := ra_u8 h45
  obtain ⟨k46, rfl, w46⟩ := ra_u8 h46
  obtain ⟨k47, rfl, w47⟩ := ra_u8 h47
  obtain ⟨k48, rfl, w48⟩ := ra_u8 h48
  obtain ⟨k49, rfl⟩ := ra_bool h49
  obtain ⟨k50, rfl, w50⟩ := ra_u8 h50
  obtain ⟨k51, rfl, w51⟩ := ra_int h51
  obtain ⟨k52, rfl, w52⟩ := ra_int h52
  obtain ⟨k53, rfl, w53⟩ := ra_int h53
  obtain ⟨k54, rfl, w54⟩ := ra_int h54
  obtain ⟨k55, rfl, w55⟩ := ra_u8 h55
  obtain ⟨k56, rfl, w56⟩ := ra_int h56
  obtain ⟨k57, rfl, w57⟩ := ra_int h57
  obtain ⟨k58, rfl⟩ := ra_str h58
  refine ⟨⟨k0, k1, k2, k3, k4, k5, k6, k7, k8, k9, k10, ⟨[k11, k44, k45, k46, k47, k48, k50], k12, k49, [(k13, k14), (k15, k16), (k17, k18), (k19, k20), (k21, k22), (k23, k24), (k25, k26), (k27, k28), (k29, k30), (k31, k32), (k55, k56)], [k33, k34, k35, k36, k37, k38, k39, k40, k41, k42, k43, k51, k52, k53, k54, k57]⟩, k58⟩, c3, rfl, ⟨w0, w1, w2, w4, w5, w6, w7, w8, w9, w10, ⟨rfl, rfl, rfl, ?_, ?_, ?_⟩⟩, w3⟩
  · intro x hx
    simp only [List.mem_cons, List.not_mem_nil, or_false] at hx
    rcases hx with rfl | rfl | rfl | rfl | rfl | rfl | rfl
    · exact w11
    · exact w44
    · exact w45
    · exact w46
    · exact w47
    · exact w48
    · exact w50
  · intro x hx
    simp only [List.mem_cons, List.not_mem_nil, or_false] at hx
    rcases hx with rfl | rfl | rfl | rfl | rfl | rfl | rfl | rfl | rfl | rfl | rfl
    · exact ⟨w13, w14⟩
    · exact ⟨w15, w16⟩
    · exact ⟨w17, w18⟩
    · exact ⟨w19, w20⟩
    · exact ⟨w21, w22⟩
    · exact ⟨w23, w24⟩
    · exact ⟨w25, w26⟩
    · exact ⟨w27, w28⟩
    · exact ⟨w29, w30⟩
    · exact ⟨w31, w32⟩
    · exact ⟨w55, w56⟩
  · intro x hx
    simp only [List.mem_cons, List.not_mem_nil, or_false] at hx
    rcases hx with rfl | rfl | rfl | rfl | rfl | rfl | rfl | rfl | rfl | rfl | rfl | rfl | rfl | rfl | rfl | rfl
    · exact w33
    · exact w34
    · exact w35
    · exact w36
    · exact w37
    · exact w38
    · exact w39
    · exact w40
    · exact w41
    · exact w42
    · exact w43
    · exact w51
    · exact w52
    · exact w53
    · exact w54
    · exact w57

end Go.Proofs.YtaoehdmdjplegaaGreatDoor
namespace Go.Proofs.YtaoehdmdjplegaaGreatDoor
open Go.RowKit Go.ChangeShapes

section
variable {H : Type} {enc : TypeId × Value → H} {P : Program} {W : World} {base : Nat} {sp : Nat → Bool} {held : Bool}
/-- An array of elements of one cell each: each cell, with its reading. -/
theorem array_at {n : Nat} {t e : TypeId} {fuel : Nat} {cs : List Value} {ds : List (DataW H)} {p : List MemPlace} (ht : P.underlying t = some (.array n e)) (hc : P.cellsOf e = 1) (hct : P.cellsOf t = n)
    (h : DataW.trod enc P W base sp held fuel t cs = some (.agg ds, p)) : ∀ (i : Nat) (d : DataW H), ds[i]? = some d → ∃ c m q, cs[i]? = some c ∧ DataW.trod enc P W base sp held m e [c] = some (d, q) := by
  obtain ⟨xs, m, rfl, hx, hl, hxl, hall⟩ := DataW.trod_array ht h
  simp only [Prod.mk.injEq, DataW.agg.injEq] at hx
  obtain ⟨rfl, _⟩ := hx
  intro i d hd
  rw [List.getElem?_map] at hd
  obtain ⟨y, hy, rfl⟩ := Option.map_eq_some_iff.1 hd
  have hi : i < n := by have := (List.getElem?_eq_some_iff.1 hy).1; omega
  have ha := hall i hi
  rw [hc, Nat.mul_one, hy] at ha
  have hi2 : i < cs.length := by rw [hl, hct]; exact hi
  have e1 : (cs.drop i).take 1 = [cs[i]] := by rw [List.drop_eq_getElem_cons hi2]; rfl
  rw [e1] at ha
  exact ⟨cs[i], m, y.2, List.getElem?_eq_getElem hi2, ha⟩
theorem str_of_trod {t : TypeId} {m : Nat} {c : Value} {l : List UInt8} {q : List MemPlace} (ht : P.underlying t = some .string) (h : DataW.trod enc P W base sp held m t [c] = some (.lit (.string l), q)) : c = .string (mkB l) := by
  obtain ⟨s, e1, e2, _⟩ := DataW.trod_string ht h
  injection e1 with e1
  simp only [Prod.mk.injEq, DataW.lit.injEq, Lit.string.injEq] at e2
  rw [e1, e2.1]; rfl
end
theorem Tryz.gLen : Tryz.prog.globalNamed "windowpane/script.lengths" = some 1 := by kernel_rfl
theorem Tryz.gNum : Tryz.prog.globalNamed "windowpane/script.numbers" = some 2 := by kernel_rfl
theorem Tryz.gPck : Tryz.prog.globalNamed "windowpane/script.picked" = some 0 := by kernel_rfl
theorem Tryz.cellsStr : Tryz.prog.cellsOf 9 = 1 := by kernel_rfl
def strD (l : List (List UInt8)) : List (DataW Unit) := l.map fun x => .lit (.string x)
theorem strs_laid {W : World} {n : String} {g : Nat} {t : TypeId} {k : Nat} {T : List (List UInt8)} (h : Lib.VarReads Tryz.prog W n (.agg (strD T))) (hg : Tryz.prog.globalNamed n = some g) (ht : (Tryz.prog.globals[g]?).map (·.type) = some t)
    (hu : Tryz.prog.underlying t = some (.array k 9)) (hc : Tryz.prog.cellsOf t = k) : ∀ j, j < T.length → W.cell? ⟨g, j, none⟩ = some (.string (mkB (T.getD j []))) := by
  obtain ⟨g', t', cs, fuel, p, hg', ht', hv, hd⟩ := h
  obtain rfl := Option.some.inj (hg.symm.trans hg')
  obtain rfl := Option.some.inj (ht.symm.trans ht')
  intro j hj
  obtain ⟨c, m, q, h1, h2⟩ := array_at hu Tryz.cellsStr hc hd j (.lit (.string (T.getD j []))) (by
    unfold strD
    rw [List.getElem?_map, List.getElem?_eq_getElem hj, List.getD_eq_getElem?_getD, List.getElem?_eq_getElem hj]; rfl)
  rw [str_of_trod Tryz.underlying9 h2] at h1
  rw [World.var?_cell hg hv j]
  simpa using h1
theorem iface_laid {W : World} {n nm : String} {d : DataW Unit} {g : Nat} {ti : TypeId} {ms : Array (String × TypeId)} (h : Lib.VarReads Tryz.prog W n (.iface nm d)) (hg : Tryz.prog.globalNamed n = some g) (ht : (Tryz.prog.globals[g]?).map (·.type) = some ti)
    (hi : Tryz.prog.underlying ti = some (.interface ms)) : ∃ tp p, W.var? Tryz.prog n = some #[.iface tp p] := by
  obtain ⟨g', t', cs, fuel, p, hg', ht', hv, hd⟩ := h
  obtain rfl := Option.some.inj (hg.symm.trans hg')
  obtain rfl := Option.some.inj (ht.symm.trans ht')
  obtain ⟨f1, u, v, hcs, _, _⟩ := iface_of_trod hi hd
  exact ⟨u, v, by rw [hv, Array.eq_one_of_toList hcs]⟩
theorem tab_laid {W : World} {n : String} {k : IntKind} {zs : List Int} {g : Nat} {t e : TypeId} {m : Nat} (h : Lib.VarReads Tryz.prog W n (Lib.tabData k zs)) (hg : Tryz.prog.globalNamed n = some g) (hty : (Tryz.prog.globals[g]?).map (·.type) = some t)
    (ht : Tryz.prog.underlying t = some (.array m e)) (he : Tryz.prog.underlying e = some (.int k)) (hce : Tryz.prog.cellsOf e = 1) (hct : Tryz.prog.cellsOf t = m) : Lib.TabIs Tryz.prog W n k zs := by
  obtain ⟨g', t', cs, fuel, p, hg', ht', hv, hd⟩ := h
  obtain rfl := Option.some.inj (hg.symm.trans hg')
  obtain rfl := Option.some.inj (hty.symm.trans ht')
  unfold Lib.TabIs
  rw [hv, ← Lib.cells_of_tab ht he hce hct hd]
theorem laid_pck : (Rows.laid_windowpane_script_picked : DataW Unit) = .agg (picksT.map fun t => .slice (strD t) []) := rfl
theorem laid_len : (Rows.laid_windowpane_script_lengths : DataW Unit) = .agg (strD lensT) := rfl
theorem laid_num : (Rows.laid_windowpane_script_numbers : DataW Unit) = .agg (strD numsT) := rfl
theorem laid_pow : (Rows.laid_internal_strconv_uint64pow10 : DataW Unit) = Lib.tabData .u64 Lib.pow10Tab := by kernel_rfl
set_option maxRecDepth 100000 in
theorem scr_of_laid {W : World} (hL : laidMetH Tryz.prog Rows.scriptLinesRow.laid W) (hmx : ∃ m, W.cell? ⟨3, 0, none⟩ = some (.int .i64 m)) : ScrW W := by
  have h : laidMet Tryz.prog Rows.scriptLinesRow.laid W := by
    have h := hL
    rw [MakeChecks.laidMetH_plain _ _ _ (by kernel_rfl)] at h
    exact h
  have r1 : Lib.VarReads Tryz.prog W "strconv.ErrSyntax" Rows.laid_strconv_ErrSyntax := Lib.laidMet.reads h (by simp [Rows.scriptLinesRow])
  have r2 : Lib.VarReads Tryz.prog W "strconv.ErrRange" Rows.laid_strconv_ErrRange := Lib.laidMet.reads h (by simp [Rows.scriptLinesRow])
  have r3 : Lib.VarReads Tryz.prog W "internal/strconv.uint64pow10" Rows.laid_internal_strconv_uint64pow10 := Lib.laidMet.reads h (by simp [Rows.scriptLinesRow])
  have r4 : Lib.VarReads Tryz.prog W "windowpane/script.picked" Rows.laid_windowpane_script_picked := Lib.laidMet.reads h (by simp [Rows.scriptLinesRow])
  have r5 : Lib.VarReads Tryz.prog W "windowpane/script.lengths" Rows.laid_windowpane_script_lengths := Lib.laidMet.reads h (by simp [Rows.scriptLinesRow])
  have r6 : Lib.VarReads Tryz.prog W "windowpane/script.numbers" Rows.laid_windowpane_script_numbers := Lib.laidMet.reads h (by simp [Rows.scriptLinesRow])
  rw [laid_pow] at r3
  rw [laid_pck] at r4
  rw [laid_len] at r5
  rw [laid_num] at r6
  clear h hL
  refine ⟨⟨?_, ?_, ?_⟩, hmx, ?_, ?_, ?_⟩
  · exact iface_laid r1 Tryz.gSyn (by kernel_rfl) Tryz.underlying82
  · exact iface_laid r2 Tryz.gRan (by kernel_rfl) Tryz.underlying82
  · exact tab_laid r3 Tryz.gTab (by kernel_rfl) Tryz.underlying154 Tryz.underlying143 (by kernel_rfl) (by kernel_rfl)
  · exact strs_laid r5 Tryz.gLen (by kernel_rfl) Tryz.underlying109 (by kernel_rfl)
  · exact strs_laid r6 Tryz.gNum (by kernel_rfl) Tryz.underlying112 (by kernel_rfl)
  · obtain ⟨g', t', cs, fuel, p, hg', ht', hv, hd⟩ := r4
    obtain rfl := Option.some.inj (Tryz.gPck.symm.trans hg')
    obtain rfl := Option.some.inj ((show (Tryz.prog.globals[0]?).map (·.type) = some 96 by kernel_rfl).symm.trans ht')
    intro i hi
    have hi' : i < picksT.length := hi
    obtain ⟨c, m, q, h1, h2⟩ := array_at Tryz.underlying96 (show Tryz.prog.cellsOf 47 = 1 by kernel_rfl) (by kernel_rfl) hd i (.slice (strD (picksT.getD i [])) []) (by
      rw [List.getElem?_map, List.getElem?_eq_getElem hi', List.getD_eq_getElem?_getD, List.getElem?_eq_getElem hi']; rfl)
    obtain ⟨a, cap, hcs, hlc, hel⟩ := open_row Tryz.underlying47 Tryz.cellsStr h2
    injection hcs with hcs
    rw [show (strD (picksT.getD i [])).length = (picksT.getD i []).length by simp [strD]] at hcs hlc
    have hpos : 0 < (picksT.getD i []).length := by
      have key : ∀ i : Fin 7, 0 < (picksT.getD i.val []).length := by decide
      exact key ⟨i, hi⟩
    generalize picksT.getD i [] = T at *
    have hels : ∀ j, j < T.length → W.cell? (a.add j) = some (.string (mkB (T.getD j []))) := fun j hj => by
      obtain ⟨v, n, q, e1, e2⟩ := hel j (.lit (.string (T.getD j []))) (by
        unfold strD
        rw [List.getElem?_map, List.getElem?_eq_getElem hj, List.getD_eq_getElem?_getD, List.getElem?_eq_getElem hj]; rfl)
      rw [str_of_trod Tryz.underlying9 e2] at e1
      exact e1
    obtain ⟨b, off, spot⟩ := a
    have hspot : spot = none := by simpa [Addr.add] using World.cell?_spot (hels 0 hpos)
    subst hspot
    refine ⟨b, off, cap, ?_, hlc, fun j hj => by
      have e : (⟨b, off, none⟩ : Addr).add j = ⟨b, off + j, none⟩ := by unfold Addr.add; split <;> simp_all
      rw [← e]; exact hels j hj⟩
    rw [World.var?_cell Tryz.gPck hv i]
    rw [hcs] at h1
    simpa using h1

end Go.Proofs.YtaoehdmdjplegaaGreatDoor
namespace Go.Proofs.YtaoehdmdjplegaaGreatDoor
open Go.ChangeShapes Go.WideShapes Go.ChangeAt Go.RowKit
open Go.ChangeMaps (open_string)

set_option maxRecDepth 100000 in
theorem scriptLines_lifted (os : Os) (started : os.Started) (H : Type) (enc : TypeId × Value → H) :
    ReturnsInHanded {} Tryz.checked os 3 .any (fun w args => (Rows.scriptLinesSpec.pre enc Tryz.prog Tryz.f3 Rows.scriptLinesRow.domain false w args ∧ laidMetH Tryz.prog Rows.scriptLinesRow.laid w) ∧ sizedMet enc Tryz.prog Tryz.f3 (OpenSpec.ofChange Rows.scriptLinesSpec) false w args)
      (Rows.scriptLinesSpec.post enc Tryz.prog Tryz.f3 false true false false) := by
  refine law_lift_laid os started H enc (by kernel_rfl) Tryz.func3 rfl (fun ds hd => ?_) rfl ?_
    (ChangeSpec.witness_shaped (enc := enc) (C := Tryz.checked) (os := os) (X := fun w _ => laidMetH Tryz.prog Rows.scriptLinesRow.laid w) false (World.laidAll Tryz.prog os Rows.scriptLinesRow.laid) #[.string ByteArray.empty, .agg (evC ev0 (.slice none 0 0)).toArray] 8 (World.laidAll_os _ _ _)
      (World.shaped_of_ZipB (by kernel_rfl) (by kernel_rfl)) (by kernel_rfl) (by kernel_rfl) (by kernel_rfl) (by rw [MakeChecks.laidMetH_plain _ _ _ (by kernel_rfl)]; exact laidMet_laidAll _ (by kernel_rfl) (by kernel_rfl))) ?_
  · match ds, hd with
    | [_d0, _d1], _ => exact ⟨rfl, rfl, rfl⟩
  · rw [Tryz.params3]
    intro t ht
    simp only [List.mem_cons, List.not_mem_nil, or_false] at ht
    rcases ht with rfl | rfl
    all_goals exact ⟨by kernel_rfl, of_decide_eq_true (by kernel_rfl)⟩
  · intro W base args ds p hval hA hsz hlt hsh hL
    rw [Tryz.params3] at hA hval hsz
    obtain ⟨v0, v1, d0, d1, p0, p1, rfl, rfl, rfl, h0, h1⟩ := trodAll_two hA
    obtain ⟨m, hm⟩ := Tryz.laysM146.s1_3 W hsh
    obtain ⟨s, rfl, rfl, rfl, ls⟩ := open_string Tryz.underlying9 (hval 0 _ v0 rfl rfl) h0
    have rs := sized_string hsz (j := 0) rfl rfl
    obtain ⟨e, vae, rfl, hee, hbe⟩ := arg_event Tryz.underlying34 (hval 1 _ v1 rfl rfl) h1 (fun x hx => hlt x (by simp [hx]))
    exact law_any s.data.toList e hee vae W (scr_of_laid hL ⟨m, hm⟩) hbe

theorem scriptLines_row : Rows.ScriptLinesSaid :=
  OpenClaim.holds_of_wide 3 Tryz.f3 rfl rfl rfl rfl rfl rfl rfl ⟨rfl, rfl, rfl, rfl, rfl⟩ rfl rfl rfl rfl rfl (by kernel_rfl) Tryz.func3 (by kernel_rfl)
    (of_decide_eq_true (by kernel_rfl)) (by unfold Func.isWrapper; first | (rw [if_pos (by decide +kernel)]; kernel_rfl) | (rw [if_neg (by decide +kernel)]; exact ⟨rfl, rfl⟩))
    (fun os started H enc _ => scriptLines_lifted os started H enc)
theorem scriptLines_holds : Rows.ScriptLinesCardSaid :=
  Claim7.holds_tied_plain_at .later [] [.data, .data, .data, .data, .sentinel, .sentinel, .widerDeep, .widerDeep, .widerDeep, .pinned] true (true, "134c4c9be80c42f7908e08865e75a7996fbc49c0041fb51d07ebbf3572ffceeb") true scriptLines_row (fun _ h => by cases h) (by kernel_rfl) (fun _ h => by cases h) scriptLines_row_tie rfl ⟨rfl, rfl⟩ (by kernel_rfl) rfl
    (fun f fn hf hfn => by
      obtain rfl : f = 3 := Option.some.inj ((show Tryz.prog.funcNamed "windowpane/windowpanelaw32.ScriptLines" = some 3 by kernel_rfl).symm.trans hf) |>.symm
      obtain rfl : fn = Tryz.f3 := (Option.some.inj (Tryz.func3.symm.trans hfn)).symm
      exact ⟨by kernel_rfl, fun j t ht => by
        rw [Tryz.params3] at ht
        have hm : t ∈ ([9, 34] : List Nat) := by simpa using Array.mem_of_getElem? ht
        have hall : (([9, 34] : List Nat).all fun u => !Tryz.prog.wantsStandIn u) = true := by kernel_rfl
        exact (show Tryz.prog.wantsStandIn t = false by simpa using List.all_eq_true.1 hall t hm)⟩)
    (by kernel_rfl)
#print axioms scriptLines_holds

end Go.Proofs.YtaoehdmdjplegaaGreatDoor
