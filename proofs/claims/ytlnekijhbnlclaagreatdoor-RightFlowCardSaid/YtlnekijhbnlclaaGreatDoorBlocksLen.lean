/-
  Plain: how many fragments a document of blocks alone has at most. No program.
-/
import Derived.Test.YtlnekijhbnlclaaGreatDoorBlocksLaw
namespace Go.Proofs.YtlnekijhbnlclaaGreatDoor
section
variable {ns:List Nd}
theorem qnl {a:Nat} (ha:a < ns.length):∀ (ks:List Nat) (s:Nat),s<=eN ns a->(∀ k ∈ ks,k ∈ kidsN ns a/\s<=k)->ks.Pairwise (· < ·)->(ks.map fun k=>eN ns k - k).sum<=eN ns a - s
 | [],s,_,_,_=>by simp
 | k :: ks,s,hs,hk,hp=>by
  obtain ⟨hp1,hp2⟩:=List.pairwise_cons.1 hp
  obtain ⟨k1,k2⟩:=hk k List.mem_cons_self
  have hn:=qqk ha k1
  have hg:k+1<=eN ns k:=by unfold eN; omega
  have ih:=qnl ha ks (eN ns k) hn (fun j hj=>⟨(hk j (List.mem_cons_of_mem _ hj)).1,q7m ha k1 (hk j (List.mem_cons_of_mem _ hj)).1 (hp1 j hj)⟩) hp2
  rw [List.map_cons,List.sum_cons]
  omega
theorem qok {α β:Type} {g:α->List β} {h:α->Nat} {K:Nat}:∀ {l:List α},(∀ c ∈ l,(g c).length<=h c * K)->(l.flatMap g).length<=(l.map h).sum * K
 | [],_=>by simp
 | c :: l,hl=>by
  have h1:=hl c List.mem_cons_self
  have h2:=qok (g:=g) (h:=h) (K:=K) fun x hx=>hl x (List.mem_cons_of_mem _ hx)
  rw [List.flatMap_cons,List.length_append,List.map_cons,List.sum_cons,Nat.add_mul]
  omega
theorem qan:∀ (f:Nat) (b:BT) (x y:Int),Tree ns f b->(allL ns f b x y).length<=(eN ns b.at_ - b.at_) * 4196353
 | 0,_,_,_,h=>h.elim
 | f+1,b,x,y,h=>by
  obtain ⟨⟨h0,hk0⟩,h1,h2,h3,_⟩:=h
  have hk:∀ c ∈ b.kids,c.at_ ∈ kidsN ns b.at_:=fun c hc=>h1.subset (List.mem_map.2 ⟨c,hc,rfl⟩)
  have hp:(b.kids.map BT.at_).Pairwise (· < ·):=List.Pairwise.sublist h1 (qvk h0)
  have hg:b.at_+1<=eN ns b.at_:=by unfold eN; omega
  have hs:=qnl h0 (b.kids.map BT.at_) (b.at_+1) hg (fun k hk'=>by
   obtain ⟨c,hc,rfl⟩:=List.mem_map.1 hk'
   have:=hk c hc
   have h6:=((q8c h0).1 this).1
   exact ⟨this,by omega⟩) hp
  rw [List.map_map] at hs
  have hall:∀ (X Y:Int),(b.kids.flatMap fun k=>allL ns f k X Y).length<=(b.kids.map ((fun k=>eN ns k - k) ∘ BT.at_)).sum * 4196353:=fun X Y=>qok fun c hc=>by
   have hc1:c.at_+1<=eN ns c.at_:=by unfold eN; omega
   have hm:=Nat.mul_le_mul_right 4196353 (show 1<=eN ns c.at_ - c.at_ by omega)
   rcases h3 c hc with ⟨q1,q2,q3⟩ | ⟨q1,q2⟩
   ·show (allL ns f c X Y).length<=(eN ns c.at_ - c.at_) * 4196353
    cases f with
    | zero=>exact Nat.zero_le _
    | succ f =>
     unfold allL
     dsimp only
     rw [if_pos q1,List.length_map]
     omega
   ·exact qan f c X Y q2
  unfold allL
  dsimp only
  rw [if_neg (by rw [hk0]; decide),List.length_cons]
  refine Nat.le_trans (Nat.succ_le_succ (hall _ _)) ?_
  have hm:=Nat.mul_le_mul_right 4196353 hs
  have hm2:=Nat.mul_le_mul_right 4196353 (show (eN ns b.at_ - (b.at_+1))+1<=eN ns b.at_ - b.at_ by omega)
  rw [Nat.add_mul] at hm2
  exact Nat.le_trans (Nat.add_le_add hm (show 1<=1 * 4196353 by decide)) hm2
theorem Blocks.len {next:Int} (H:Blocks ns next) (flex:Lay->Lay) (hn:ns.length<=300) (h0:0 < ns.length) (hk:(ndAt ns 0).kind=0) {x:Int} {b:BT×Tl} {fo:Int} {ap:Bool} (h:layOf ns flex (ns.length+1) 0 fo x (-1) ap=some b) (l t:Int) :
  (allL ns (ns.length+1) (b.1.put l t) 0 0).length < 4000000000:=by
 obtain ⟨h1,_⟩:=Blocks.lay_tree H flex (ns.length+1) 0 fo x ap b.1 b.2 h0 hk h
 have hat:b.1.at_=0:=Blocks.lay_at H flex _ _ _ _ _ _ _ _ h
 have h2:=qan (ns.length+1) (b.1.put l t) 0 0 (h1.alike rfl rfl rfl)
 have e:(b.1.put l t).at_=0:=hat
 rw [e] at h2
 have h3:=(q4b h0).1
 have h4:=Nat.mul_le_mul_right 4196353 (show eN ns 0 - 0<=300 by omega)
 omega
end
end Go.Proofs.YtlnekijhbnlclaaGreatDoor
