/-
  Plain: what the law RightFlow asks of a layout of blocks alone.
-/
import Derived.Test.YtlnekijhbnlclaaGreatDoorPlainP
import Derived.Test.YtlnekijhbnlclaaGreatDoorBlocksLen
namespace Go.Proofs.YtlnekijhbnlclaaGreatDoor
open Go.RowKit
section
variable {ns:List Nd} {next:Int} (H:Blocks ns next) {flex:Lay->Lay} {w:Int} {l:List Fg}
include H
theorem Blocks.few (h:qrb ns flex w=some l):l.length < 4000000000:=by
 obtain ⟨b,t1,t2,t3,_⟩:=H.root_tree h
 have h1:=H.ok.some_
 have h2:=qan (ns.length+1) b 0 0 t1
 rw [<-t3,t2] at h2
 have h3:=(q4b (ns:=ns) (a:=0) (by omega)).1
 have h5:=H.ok.few
 have h4:=Nat.mul_le_mul_right 4196353 (show eN ns 0 - 0<=300 by omega)
 omega
theorem Blocks.frag_in (h:qrb ns flex w=some l) {i:Nat} (hi:i < ns.length) (hk:(ndAt ns i).kind=0) :
  (q7a l (ndAt ns i).key).depth=(ndAt ns i).depth/\(-1099511627776<=(q7a l (ndAt ns i).key).y/\(q7a l (ndAt ns i).key).y<=1099511627776)/\(-1099511627776<=(q7a l (ndAt ns i).key).h/\(q7a l (ndAt ns i).key).h<=1099511627776):=by
 obtain ⟨f,b,x,y,ht,hb,hsub⟩:=H.has h i hi hk
 obtain ⟨r,r1,r2,r3,r4⟩:=H.root_tree h
 have hk0:=ht.at_.2
 unfold allL at hsub
 dsimp only at hsub
 rw [if_neg (by rw [hk0]; decide)] at hsub
 have hin:=hsub _ List.mem_cons_self
 have he:=H.fragOf_eq h hin rfl
 have hf:=r4 _ hin
 dsimp only at he
 rw [hb] at he
 rw [he]
 rw [hb] at hf
 exact ⟨rfl,(qpc _).1 hf.2.1,(qpc _).1 hf.2.2.2⟩
end
theorem flow_whole {ns:List Nd} {flex:List Nd->Lay->Lay} {next x:Int} (h:(qob ns flex next x).2=0):∃ l,qob ns flex next x=(l,0)/\qgb ns next=true/\qrb ns (flex ns) x=some l:=by
 unfold qob at h ⊢
 cases hm:qgb ns next with
 | false=>rw [hm,if_pos rfl] at h; cases h
 | true =>
  rw [hm,if_neg (by decide)] at h
  rw [if_neg (by decide)]
  split at h
  ·cases h
  ·rename_i hx
   rw [if_neg hx]
   cases hw:qrb ns (flex ns) x with
   | none=>rw [hw] at h; cases h
   | some l=>exact ⟨l,rfl,rfl,rfl⟩
def txB (D:List Nd) (kids:List Nat):List Bool:=kids.map fun q=>decide ((ndAt D q).kind=1)
theorem txB_none {D:List Nd} {kids:List Nat} (h:(txB D kids).any id=false):∀ q ∈ kids,(ndAt D q).kind≠1:=by
 intro q hq
 have:=List.any_eq_false.1 h (decide ((ndAt D q).kind=1)) (List.mem_map.2 ⟨q,hq,rfl⟩)
 simpa using this
theorem any_step {bs:List Bool} {j:Nat} (h:j < bs.length):(bs.take (j+1)).any id=((bs.take j).any id || bs[j]):=by
 rw [List.take_succ_eq_append_getElem h,List.any_append]
 simp
end Go.Proofs.YtlnekijhbnlclaaGreatDoor
