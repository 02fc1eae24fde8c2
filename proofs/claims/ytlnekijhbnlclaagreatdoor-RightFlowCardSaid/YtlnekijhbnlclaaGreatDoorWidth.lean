/-
  Walks: metric.Width and Count.
-/
import Derived.Test.YtlnekijhbnlclaaGreatDoorMetric2
import Derived.Test.YtlnekijhbnlclaaGreatDoorDocFacts
import Derived.Lib.OthersKept
namespace Go.Proofs.YtlnekijhbnlclaaGreatDoor
open Go.RowKit
theorem q8i {w:World} {k:Nat} {s:ByteArray} {p:Nat} (h:w.heap[k]?=some (.stringIter s p)):w.iterPos k=p:=by
 simp [World.iterPos,h]
theorem qpw (s:ByteArray) (font:Int) (w:World) (hs:s.size<=140737488351232) :
  Calls Tryz.prog 150 #[.string s,.int .i64 font] w fun e w'=>e=.returned (.tuple #[.int .i64 (q1b s font).1,.int .i64 (q1b s font).2])/\Below w.heap.size w w':=by
 have htot:=qfj (codes s)
 have hlen:=q3w s _ 0 (Nat.le_refl _)
 rw [<-qvj] at hlen
 go_enter Tryz.func150,Tryz.ntmps150
 go_wp2_with fail
 go_loopw [6,8] (fun n _ wr=>∃ (pos:Nat) (acc:Int),n=.int .i64 acc/\0<=acc/\Hid (acc+qoc (q9c s pos)=qoc (codes s))/\wr.heap[w.heap.size]?=some (.stringIter s pos)/\Below w.heap.size w wr)
  (fun _ _ wr=>s.size - wr.iterPos w.heap.size)
 case atStart=>exact ⟨0,0,rfl,by omega,by show _=_; rw [qvj]; omega,World.iter_heap _ _ _,qnj _ _ _⟩
 case round =>
  obtain ⟨pos,acc,rfl,hacc,HE,hit,hbr⟩:=hrel
  by_cases hlt:pos < s.size
  ·have hx:=fun ty=>Lib.run_next_any_at (P:=Tryz.prog) wr w.heap.size s pos ty hit hlt
   have hb':=Lib.below_iterAt hbr (Nat.le_refl _) s (pos+(Utf8.decode s pos).2)
   have hit':=Lib.iterAt_heap wr w.heap.size s pos (pos+(Utf8.decode s pos).2) hit
   have HD:=Lib.hid (qlg s pos)
   have HS:=Lib.hid (qfm s pos hlt)
   have hsb:=qsm ((Utf8.decode s pos).1:Int)
   have hrem:=qfj (q9c s (pos+(Utf8.decode s pos).2))
   have hup:acc+share ((Utf8.decode s pos).1:Int)<=64 * 140737488351232:=by
    have h1:=HE.out
    rw [HS.out,q8h] at h1
    omega
   have hsz:=(Lib.iterAt_size wr w.heap.size s (pos+(Utf8.decode s pos).2))
   have hit0:=hit
   clear hit
   go_wp2_with fail
   refine (q3u _ _).mono ?_
   rintro e w2 ⟨rfl,hb2⟩
   go_wp2_with fail
   have hit2:=(hb2.block w.heap.size (by rw [hsz]; have:=hbr.size; exact (Array.getElem?_eq_some_iff.1 hit').1 |> fun h=>by rw [hsz] at h; exact h)).trans hit'
   go_roundw
   case rel=>exact ⟨_,_,rfl,by omega,by
    have h1:=HE.out
    rw [HS.out,q8h] at h1
    show _=_
    omega,hit2,hb'.trans (hb2.mono (by rw [hsz]; exact hbr.size))⟩
   case measure =>
    rw [q8i hit2,q8i hit0]
    have:=HD.out
    omega
  ·have hx:=fun ty=>Lib.run_next_end_at (P:=Tryz.prog) wr w.heap.size s pos ty hit hlt
   have hacc2:acc=qoc (codes s):=by
    have h1:=HE.out
    rw [q7h s pos hlt] at h1
    simpa [qoc] using h1
   have HA:=Lib.hid hacc2; clear hacc2
   go_wp2_with fail
   refine (qki acc font wr hacc).mono ?_
   rintro e w2 ⟨rfl,rfl⟩
   go_wp2_with fail
   go_ret2
   exact ⟨by rw [q1b,<-HA.out]; rfl,hbr⟩
end Go.Proofs.YtlnekijhbnlclaaGreatDoor
