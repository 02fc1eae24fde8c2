/-
  Arguments that are slices of ints, strings: what a walk is told of them.
-/
import Derived.Test.YtbhdolghokhfnaaInts
namespace Go.Proofs.Ytbhdolghokhfnaa
open Go.ChangeShapes Go.WideShapes Go.ChangeAt Go.RowKit

theorem Try.cellsInt : Try.prog.cellsOf 3 = 1 := by kernel_rfl
theorem Try.bytesInt : Try.prog.bytesOf 3 = 8 := by kernel_rfl

set_option maxRecDepth 100000 in
theorem arg_ints {H : Type} {enc : TypeId × Value → H} {W : World} {base : Nat} {v : Value} {d : DataW H} {p : List MemPlace} {ts : List TypeId} {ds : List (DataW H)} {j : Nat}
    (hv : Value.okWide Try.prog W .any base 22 v) (ht : DataW.Trod enc Try.prog W 0 (fun _ => true) true 22 v d p) (hlt : ∀ x ∈ p, x.block < W.heap.size)
    (hsz : (DataW.weightsEach Try.prog ts ds).all (· ≤ reachBytes) = true) (hts : ts[j]? = some 22) (hds : ds[j]? = some d) :
    ∃ zs, Ints W W.heap.size v zs ∧ (∀ z ∈ zs, (Lit.int .i64 z).wf = true) ∧ zs.length ≤ 17592186044416 := by
  obtain ⟨a0, len, cap, rfl⟩ := okWide_slice Try.underlying22 hv
  obtain ⟨fuel, hf⟩ := ht
  rcases open_ints Try.underlying22 Try.underlying3 Try.cellsInt hf with ⟨hcs, hx⟩ | ⟨a, len', cap', zs, hcs, _, hl, hm, hz, hx, hcell, hwz⟩
  · simp [Value.cells] at hcs
    obtain ⟨rfl, rfl, rfl⟩ := hcs
    exact ⟨[], Ints.nil _ _, by simp, by simp⟩
  · simp [Value.cells] at hcs
    obtain ⟨rfl, rfl, rfl⟩ := hcs
    simp only [Prod.mk.injEq] at hx
    obtain ⟨rfl, rfl⟩ := hx
    simp only [if_true] at hz
    have hreach := sized_slice hsz hts hds Try.underlying22
    rw [Try.bytesInt] at hreach
    simp only [lits, List.length_map, List.length_take, List.length_drop, reachBytes] at hreach
    have hlen : (zs.take len).length = len := by rw [List.length_take]; omega
    refine ⟨zs.take len, ⟨some a, cap, by rw [hlen], by rw [hlen]; exact hl, by simp, fun hn => ⟨a, rfl, ?_, fun j u hu => ?_⟩⟩, fun z hzm => hwz z (List.mem_of_mem_take hzm), by rw [hlen]; omega⟩
    · rw [hlen] at hn
      have hs : a.spot = none := by
        have := World.cell?_spot (hcell 0 (by omega))
        simpa [Addr.add] using this
      obtain ⟨b, off, spot⟩ := a
      simp at hs
      subst hs
      exact hlt (.cell b off) (MemPlace.mem_row.2 ⟨0, by omega, by simp⟩)
    · have hj : j < (zs.take len).length := by
        rcases Nat.lt_or_ge j ((zs.take len).map (Value.int .i64)).length with h | h
        · simpa using h
        · rw [List.getElem?_eq_none h] at hu; cases hu
      rw [List.getElem?_eq_getElem (by simpa using hj)] at hu
      injection hu with hu
      rw [← hu, hcell j (by rw [hlen] at hj; omega)]
      simp [List.getD, List.getElem?_eq_getElem (show j < zs.length by rw [hlen] at hj; omega)]

end Go.Proofs.Ytbhdolghokhfnaa
