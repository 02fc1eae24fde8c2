/-
  The plain law of pieces of a text: lines by Split; what is shown; turns, ends, texts beside one another.
-/
import Derived.Test.YtlnekijhbnlclaaGreatDoorDocFacts
import Derived.RangeFuncBox
import Derived.RangeFuncLeaves
import Derived.RangeFuncNested
import Derived.Shelf.Abstract
import Derived.WalkKit
import Derived.OwnWalkIn
import Derived.TacticsInMore
import Derived.LoopNIn
import Derived.LoopIn
import Derived.Maps.AppendAt
import Derived.Test.YtlnekijhbnlclaaGreatDoorFlowPlain
import Derived.Test.YtlnekijhbnlclaaGreatDoorProg
import Derived.Test.YtlnekijhbnlclaaGreatDoorHit
namespace Go.Proofs.YtlnekijhbnlclaaGreatDoor
theorem qnh (l:List UInt8) (j:Nat):Go.Lib.occAt l [10] j=(l[j]? == some 10):=by
 unfold Go.Lib.occAt
 by_cases h:j < l.length
 ·rw [List.drop_eq_getElem_cons h]
  rw [List.getElem?_eq_getElem h]
  simp only [List.isPrefixOf,Bool.and_true]
  rw [Bool.eq_iff_iff,beq_iff_eq,beq_iff_eq]
  exact ⟨fun e=>by rw [e],fun e=>(Option.some.inj e).symm⟩
 ·rw [List.drop_eq_nil_of_le (by omega),List.getElem?_eq_none (by omega)]
  rfl
theorem q1j:∀ (n:Nat) (l:List UInt8),l.length<=n->qhb (Go.Lib.split l [10])=cutK l/\(Go.Lib.split l [10])≠[]
 | n,l,hn=>by
  rcases Go.Lib.index_spec l [10] with ⟨hi,hno⟩ | ⟨i,hi,hil,hocc,hbe⟩
  ·have hc:Go.Lib.count l [10]=0:=Go.Lib.count_miss hi
   have h10:10 ∉ l:=fun h=>by
    obtain ⟨j,hj,e⟩:=List.mem_iff_getElem.1 h
    have:=hno j (by omega)
    rw [qnh] at this
    simp [hj,e] at this
   unfold Go.Lib.split
   rw [hc]
   refine ⟨?_,by simp [Go.Lib.splitK]⟩
   rw [q9h l h10]
   simp [Go.Lib.splitK,qhb,q0b]
  ·have hc:=Go.Lib.count_hit (sub:=[10]) (by simp) hi
   rw [qnh] at hocc
   have hlt:i < l.length:=by
    rcases Nat.lt_or_ge i l.length with h | h
    ·exact h
    ·rw [List.getElem?_eq_none h] at hocc; simp at hocc
   have hli:l[i]=10:=by simpa [hlt] using hocc
   obtain ⟨m,rfl⟩:∃ m,n=m+1:=⟨n - 1,by omega⟩
   obtain ⟨ih1,ih2⟩:=q1j m (l.drop (i+1)) (by simp; omega)
   have hl:l=l.take i ++ 10 :: l.drop (i+1):=by
    rw [<-hli,<-List.drop_eq_getElem_cons hlt,List.take_append_drop]
   have h10:10 ∉ l.take i:=fun h=>by
    obtain ⟨j,hj,e⟩:=List.mem_iff_getElem.1 h
    have hj':j < i:=by simp at hj; omega
    have:=hbe j hj'
    rw [qnh] at this
    simp at e
    simp [show j < l.length by omega,e] at this
   have hs:Go.Lib.split l [10]=l.take i :: Go.Lib.split (l.drop (i+1)) [10]:=by
    unfold Go.Lib.split
    rw [hc,Nat.add_comm 1]
    conv=>lhs; unfold Go.Lib.splitK
    rw [hi,if_neg (by simp)]
    simp
   refine ⟨?_,by rw [hs]; simp⟩
   rw [hs]
   conv=>rhs; rw [hl]
   rw [q6r _ _ h10,<-ih1]
   obtain ⟨a,ls,e⟩:=List.exists_cons_of_ne_nil ih2
   rw [e]
   simp [qhb,q0b]
termination_by n=>n
theorem qoi {P:List UInt8->Prop} (h0:P []) (h1:∀ l c,P l->P (l ++ [c])):∀ l,P l:=by
 intro l
 rcases List.eq_nil_or_concat l with rfl | ⟨l,c,rfl⟩
 ·exact h0
 ·rw [List.concat_eq_append]
  exact h1 l c (qoi h0 h1 l)
termination_by l=>l.length
theorem q0j {L:List Pc} {k:Nat} (h:lastK L k=true):∃ M t,L=M ++ [(k,t)]:=by
 rcases List.eq_nil_or_concat L with rfl | ⟨M,p,rfl⟩
 ·cases h
 ·rw [List.concat_eq_append] at h ⊢
  rw [qbc] at h
  obtain ⟨k',t⟩:=p
  have:k'=k:=by simpa using h
  subst this
  exact ⟨M,t,rfl⟩
theorem qwo (b:Bool) (c:UInt8) (l:List UInt8):nrm b (c :: l)=if isB c then (if b then nrm true l else 32 :: nrm true l) else c :: nrm false l:=rfl
def bareR (l:List UInt8):List UInt8:=l.filter fun c=>!isB c
inductive Turns:List Pc->Prop
 | nil:Turns []
 | blank {L}:Turns L->lastK L 1=false->Turns (L ++ [(1,[32])])
 | word {L t}:Turns L->lastK L 0=false->t≠[]->(∀ c ∈ t,isB c=false)->Turns (L ++ [(0,t)])
theorem Turns.at {L:List Pc} (h:Turns L):∀ i (hi:i < L.length),((L[i].1=1/\L[i].2=[32])\/(L[i].1=0/\L[i].2≠[]/\bareR L[i].2=L[i].2))/\(∀ h0:0 < i,L[i - 1].1≠L[i].1):=by
 have key:∀ {L:List Pc} {p:Pc},(∀ i (hi:i < L.length),((L[i].1=1/\L[i].2=[32])\/(L[i].1=0/\L[i].2≠[]/\bareR L[i].2=L[i].2))/\(∀ h0:0 < i,L[i - 1].1≠L[i].1)) ->
   ((p.1=1/\p.2=[32])\/(p.1=0/\p.2≠[]/\bareR p.2=p.2))->lastK L p.1=false ->
   ∀ i (hi:i < (L ++ [p]).length),(((L ++ [p])[i].1=1/\(L ++ [p])[i].2=[32])\/((L ++ [p])[i].1=0/\(L ++ [p])[i].2≠[]/\bareR (L ++ [p])[i].2=(L ++ [p])[i].2))/\(∀ h0:0 < i,(L ++ [p])[i - 1].1≠(L ++ [p])[i].1):=by
  intro L p ih hp hl i hi
  rcases Nat.lt_or_ge i L.length with hlt | hge
  ·rw [List.getElem_append_left hlt]
   refine ⟨(ih i hlt).1,fun h0=>?_⟩
   rw [List.getElem_append_left (show i - 1 < L.length by omega)]
   exact (ih i hlt).2 h0
  ·obtain rfl:i=L.length:=by simp at hi; omega
   refine ⟨by simpa using hp,fun h0=>?_⟩
   rw [List.getElem_append_left (show L.length - 1 < L.length by omega)]
   rcases List.eq_nil_or_concat L with rfl | ⟨M,q,rfl⟩
   ·simp at h0
   ·rw [List.concat_eq_append] at hl
    rw [qbc] at hl
    simpa using hl
 induction h with
 | nil=>intro i hi; simp at hi
 | blank _ h2 ih=>exact key ih (.inl ⟨rfl,rfl⟩) h2
 | word _ h2 h3 h4 ih =>
  refine key ih (.inr ⟨rfl,h3,?_⟩) h2
  unfold bareR
  exact List.filter_eq_self.2 fun c hc=>by simp [h4 c hc]
inductive Ends:List Pc->Prop
 | nil:Ends []
 | hard {L}:Ends L->Ends (L ++ [(2,[])])
 | word {L t}:Ends L->lastK L 0=false->t≠[]->10 ∉ t->Ends (L ++ [(0,t)])
theorem Ends.at {L:List Pc} (h:Ends L):∀ i (hi:i < L.length),(L[i].1=2/\L[i].2=[])\/(L[i].1=0/\L[i].2≠[]/\10 ∉ L[i].2/\(∀ h0:0 < i,L[i - 1].1≠0)):=by
 have key:∀ {L:List Pc} {p:Pc},(∀ i (hi:i < L.length),(L[i].1=2/\L[i].2=[])\/(L[i].1=0/\L[i].2≠[]/\10 ∉ L[i].2/\(∀ h0:0 < i,L[i - 1].1≠0))) ->
   ((p.1=2/\p.2=[])\/(p.1=0/\p.2≠[]/\10 ∉ p.2/\lastK L 0=false)) ->
   ∀ i (hi:i < (L ++ [p]).length),((L ++ [p])[i].1=2/\(L ++ [p])[i].2=[])\/((L ++ [p])[i].1=0/\(L ++ [p])[i].2≠[]/\10 ∉ (L ++ [p])[i].2/\(∀ h0:0 < i,(L ++ [p])[i - 1].1≠0)):=by
  intro L p ih hp i hi
  rcases Nat.lt_or_ge i L.length with hlt | hge
  ·rw [List.getElem_append_left hlt]
   rcases ih i hlt with h | ⟨h1,h2,h3,h4⟩
   ·exact .inl h
   ·refine .inr ⟨h1,h2,h3,fun h0=>?_⟩
    rw [List.getElem_append_left (show i - 1 < L.length by omega)]
    exact h4 h0
  ·obtain rfl:i=L.length:=by simp at hi; omega
   rcases hp with h | ⟨h1,h2,h3,h4⟩
   ·exact .inl (by simpa using h)
   ·refine .inr ⟨by simpa using h1,by simpa using h2,by simpa using h3,fun h0=>?_⟩
    rw [List.getElem_append_left (show L.length - 1 < L.length by omega)]
    rcases List.eq_nil_or_concat L with rfl | ⟨M,q,rfl⟩
    ·simp at h0
    ·rw [List.concat_eq_append] at h4
     rw [qbc] at h4
     simpa using h4
 induction h with
 | nil=>intro i hi; simp at hi
 | hard _ ih=>exact key ih (.inl ⟨rfl,rfl⟩)
 | word _ h2 h3 h4 ih=>exact key ih (.inr ⟨rfl,h3,h4,h2⟩)
def hards (L:List Pc):Nat:=L.countP fun p=>p.1 == 2
def sumL (L:List Pc):Nat:=(L.map fun p=>p.2.length).sum
def tens (l:List UInt8):Nat:=l.countP fun c=>c == 10
theorem qpg (L:List Pc) (p:Pc):hards (L ++ [p])=hards L+if p.1=2 then 1 else 0:=by
 unfold hards
 rw [List.countP_append]
 simp [List.countP_cons]
theorem qcd (L:List Pc) (p:Pc):sumL (L ++ [p])=sumL L+p.2.length:=by simp [sumL]
theorem qgp (l:List UInt8) (c:UInt8):tens (l ++ [c])=tens l+if c=10 then 1 else 0:=by
 unfold tens
 rw [List.countP_append]
 simp [List.countP_cons]
theorem q0s {L:List Pc} {k:Nat} (h:k < L.length):sumL (L.take (k+1))=sumL (L.take k)+L[k].2.length:=by rw [List.take_succ_eq_append_getElem h,qcd]
theorem qns:∀ l:List UInt8,hards (cutK l)=tens l/\sumL (cutK l)+tens l=l.length/\(cutK l).length<=l.length:=qoi ⟨rfl,rfl,Nat.le_refl _⟩ fun l c ih=>by
 obtain ⟨i1,i2,i3⟩:=ih
 rw [qln,qgp]
 by_cases hc:(c == 10)=true
 ·rw [qie hc,qpg,qcd,if_pos (show c=10 by simpa using hc)]
  simp
  omega
 ·have hc':(c == 10)=false:=by simpa using hc
  rw [if_neg (show ¬ c=10 by simpa using hc)]
  cases h:lastK (cutK l) 0 with
  | true =>
   rw [qmf hc' h]
   obtain ⟨M,t,e⟩:=q0j h
   rw [e] at i1 i2 i3 ⊢
   rw [q9e,qpg,qcd]
   rw [qpg] at i1
   rw [qcd] at i2
   simp at *
   omega
  | false =>
   rw [qte hc' h,qpg,qcd]
   simp
   omega
theorem qzu {L:List Pc} (k:Nat):sumL (L.take k)<=sumL L:=by
 conv=>rhs; rw [<-List.take_append_drop k L]
 unfold sumL
 rw [List.map_append,List.sum_append]
 omega
theorem q5v:∀ l:List UInt8,sumL (cutN l)<=l.length/\(cutN l).length<=l.length:=qoi ⟨Nat.le_refl _,Nat.le_refl _⟩ fun l c ih=>by
 obtain ⟨i2,i3⟩:=ih
 rw [qdj]
 cases hb:isB c with
 | true =>
  cases h:lastK (cutN l) 1 with
  | true=>rw [q5j hb h]; simp; omega
  | false=>rw [q5h hb h,qcd]; simp; omega
 | false =>
  cases h:lastK (cutN l) 0 with
  | true =>
   rw [qjk hb h]
   obtain ⟨M,t,e⟩:=q0j h
   rw [e] at i2 i3 ⊢
   rw [q9e,qcd]
   rw [qcd] at i2
   simp at *
   omega
  | false=>rw [qii hb h,qcd]; simp; omega
theorem qev (l:List UInt8):∀ b,(nrm b l).length<=l.length:=by
 induction l with
 | nil=>intro b; exact Nat.le_refl _
 | cons c l ih =>
  intro b
  have h1:=ih true
  have h2:=ih false
  unfold nrm
  split
  ·split <;> simp <;> omega
  ·simp; omega
theorem qsn (ws:Int) (l:List UInt8):sumL (cutR ws l)<=l.length/\(cutR ws l).length<=l.length:=by
 unfold cutR
 split
 ·exact q5v l
 ·split
  ·unfold cutS
   split
   ·exact ⟨Nat.zero_le _,Nat.zero_le _⟩
   ·rename_i h
    have:=qev l false
    have:0 < l.length:=List.length_pos_iff.2 h
    simp [sumL]
    omega
  ·split
   ·have:=qns l
    omega
   ·exact ⟨Nat.zero_le _,Nat.zero_le _⟩
theorem qaj {L:List Pc} {k:Nat} (h:k < L.length):L[k].2.length<=sumL L:=by
 have h1:=q0s h
 have h2:=qzu (L:=L) (k+1)
 omega
end Go.Proofs.YtlnekijhbnlclaaGreatDoor
namespace Go.Proofs.YtlnekijhbnlclaaGreatDoor
open Go.RowKit Go.Shelf
def mkB (l:List UInt8):ByteArray:=⟨l.toArray⟩
theorem qti (l:List UInt8):(mkB l).size=l.length:=by simp [mkB,ByteArray.size]
theorem qaq {a b:ByteArray} (h:a.data.toList=b.data.toList):a=b:=by
 obtain ⟨⟨a⟩⟩:=a
 obtain ⟨⟨b⟩⟩:=b
 simp at h
 rw [h]
theorem q6e (s:ByteArray):s.data.toList.length=s.size:=by simp
theorem qir {s:ByteArray} {k:Nat} (h:k < s.size):s.data.toList[k]'(by simpa using h)=s[k]:=by simp [ByteArray.getElem_eq_getElem_data]
theorem qxk {s:ByteArray} {k:Nat} (h:k < s.size):s.data.toList.getD k 0=s[k]:=by
 have h':k < s.data.toList.length:=by simpa using h
 rw [List.getD_eq_getElem?_getD,List.getElem?_eq_getElem h',Option.getD_some,qir h]
theorem qpm (s:ByteArray) (a b:Nat):s.extract a b=mkB (sub s.data.toList (a,b)):=qaq (by rw [Go.Lib.extract_data]; rfl)
theorem Tryz.infoPiece:(Tryz.prog.info? 240).map (fun i=>(i.zero,i.size,i.bytes))=some (some (.agg #[.int .u8 0,.string ⟨#[]⟩]),2,24):=by kernel_rfl
def encP (p:Pc):List Value:=[.int .u8 (p.1:Nat),.string (mkB p.2)]
def rowP (L:List Pc):List Value:=L.flatMap encP
theorem qyg (L:List Pc) (x:Pc):rowP (L ++ [x])=rowP L ++ encP x:=by simp [rowP]
theorem qlk:∀ {L:List Pc} {k:Nat} (hk:k < L.length),(rowP L)[k * 2]?=some (.int .u8 ((L[k]).1:Nat))/\(rowP L)[k * 2+1]?=some (.string (mkB (L[k]).2))
 | x :: L,0,_=>by
  show (encP x ++ rowP L)[_]?=_/\(encP x ++ rowP L)[_]?=_
  simp [encP]
 | x :: L,k+1,hk=>by
  have h:=qlk (L:=L) (k:=k) (by simpa using hk)
  show (encP x ++ rowP L)[_]?=_/\(encP x ++ rowP L)[_]?=_
  rw [List.getElem?_append_right (by simp [encP]; omega),List.getElem?_append_right (by simp [encP]; omega)]
  rw [show (k+1) * 2 - (encP x).length=k * 2 by simp [encP]; omega,show (k+1) * 2+1 - (encP x).length=k * 2+1 by simp [encP]; omega]
  simpa using h
def OwnsP (w:World) (base:Nat) (v:Value) (L:List Pc):Prop:=w.ownsRow base 240 2 v L.length (rowP L)
theorem OwnsP.nil (w:World) (base:Nat):OwnsP w base (.slice none 0 0) []:=World.ownsRow_nil _ _ _ _
theorem OwnsP.below {w w':World} {base:Nat} {v:Value} {L:List Pc} (h:OwnsP w base v L) (hb:Below w.heap.size w w'):OwnsP w' base v L:=by
 refine World.ownsRow.kept (row:=none) h ⟨hb.os,hb.tape,hb.output,hb.size,fun k hk _=>hb.block k hk⟩ ?_
 cases hv:v.ownBlock with
 | none=>exact .inl rfl
 | some g=>exact .inr (by simp)
theorem OwnsP.base_le {w:World} {base base':Nat} {v:Value} {L:List Pc} (h:OwnsP w base v L) (hb:base'<=base):OwnsP w base' v L:=by
 obtain ⟨h1,h2⟩:=h
 refine ⟨h1,?_⟩
 rcases h2 with h2 | ⟨g,cap,cur,e,hg,r⟩
 ·exact .inl h2
 ·exact .inr ⟨g,cap,cur,e,by omega,r⟩
def PiecesIn (w:World) (lo hi:Nat) (v:Value) (L:List Pc):Prop :=
 (L=[]/\∃ A c,v=.slice A 0 c)\/∃ g cap,v=.slice (some ⟨g,0,none⟩) L.length cap/\0 < L.length/\lo<=g/\g < hi/\L.length<=cap /\
  (∀ k (h:k < L.length),w.cell? ⟨g,k * 2,none⟩=some (.int .u8 ((L[k]).1:Nat))/\w.cell? ⟨g,k * 2+1,none⟩=some (.string (mkB (L[k]).2)))/\∀ o,w.frozen? ⟨g,o,none⟩=false
theorem OwnsP.pieces {w:World} {base:Nat} {v:Value} {L:List Pc} (h:OwnsP w base v L):PiecesIn w base w.heap.size v L:=by
 rcases h.2 with ⟨rfl,h0⟩ | ⟨g,cap,cur,rfl,hg,hb,hc,_,hs,ht⟩
 ·exact .inl ⟨List.eq_nil_of_length_eq_zero h0,_,_,by first | rfl | rw [h0]⟩
 ·rcases Nat.eq_zero_or_pos L.length with h0 | h0
  ·exact .inl ⟨List.eq_nil_of_length_eq_zero h0,_,_,by rw [h0]⟩
  ·refine .inr ⟨g,cap,rfl,h0,hg,(Array.getElem?_eq_some_iff.1 hb).1,hc,fun k hk=>?_,fun o=>by simp [World.frozen?,hb]⟩
   have hcell:∀ j,j < L.length * 2->w.cell? ⟨g,j,none⟩=(rowP L)[j]?:=fun j hj=>by
    rw [cell_of_row w g j cur _ _ hb,<-ht,List.getElem?_take_of_lt hj,Array.getElem?_toList]
   obtain ⟨a,b⟩:=qlk hk
   exact ⟨(hcell _ (by omega)).trans a,(hcell _ (by omega)).trans b⟩
theorem PiecesIn.below {w w':World} {lo hi:Nat} {v:Value} {L:List Pc} (h:PiecesIn w lo hi v L) (hb:Below hi w w'):PiecesIn w' lo hi v L:=by
 rcases h with h | ⟨g,cap,e,h0,h1,h2,h3,hc,hf⟩
 ·exact .inl h
 ·exact .inr ⟨g,cap,e,h0,h1,h2,h3,fun k hk=>⟨(hb.cell (p:=⟨g,k * 2,none⟩) h2).trans (hc k hk).1,(hb.cell (p:=⟨g,k * 2+1,none⟩) h2).trans (hc k hk).2⟩,fun o=>(World.frozen?_of_block (a:=⟨g,o,none⟩) (hb.block g h2)).trans (hf o)⟩
theorem PiecesIn.more {w:World} {lo hi hi':Nat} {v:Value} {L:List Pc} (h:PiecesIn w lo hi v L) (hh:hi<=hi'):PiecesIn w lo hi' v L:=by
 rcases h with h | ⟨g,cap,e,h0,h1,h2,r⟩
 ·exact .inl h
 ·exact .inr ⟨g,cap,e,h0,h1,by omega,r⟩
theorem PiecesIn.form {w:World} {lo hi:Nat} {v:Value} {L:List Pc} (h:PiecesIn w lo hi v L):∃ A c,v=.slice A L.length c:=by
 rcases h with ⟨rfl,A,c,e⟩ | ⟨g,cap,e,_⟩
 ·exact ⟨A,c,e⟩
 ·exact ⟨_,_,e⟩
theorem qjg (W:World) (x:Pc):∀ j u,(encP x)[j]?=some u->(W.alloc (.cells #[.int .u8 (x.1:Nat),.string (mkB x.2)] 240)).cell? ((⟨W.heap.size,0,none⟩:Addr).add j)=some u:=fun j u hu=>by
 have e:(⟨W.heap.size,0,none⟩:Addr).add j=⟨W.heap.size,j,none⟩:=by unfold Addr.add; split <;> simp_all
 rw [e,(Blk.new W 240 #[.int .u8 (x.1:Nat),.string (mkB x.2)]).cell j]
 simpa [encP] using hu
theorem OwnsP.built (w:World) (base:Nat) (hb:base<=w.heap.size) (p:Pc):OwnsP (w.alloc (.cells #[.int .u8 (p.1:Nat),.string (mkB p.2)] 240)) base (.slice (some ⟨w.heap.size,0,none⟩) 1 1) [p]:=by
 refine ⟨by simp [rowP,encP],.inr ⟨w.heap.size,1,#[.int .u8 (p.1:Nat),.string (mkB p.2)],rfl,hb,heap_alloc_new w _,Nat.le_refl _,by simp [maxLen],rfl,by simp [rowP,encP]⟩⟩
end Go.Proofs.YtlnekijhbnlclaaGreatDoor
namespace Go.Proofs.YtlnekijhbnlclaaGreatDoor
open Go.RowKit
theorem eq32 (c:UInt8) (n:Nat) (hn:n < 256):(((c.toNat:Nat):Int) == (n:Int))=(c == UInt8.ofNat n):=by
 rw [Bool.eq_iff_iff,beq_iff_eq,beq_iff_eq]
 constructor
 ·intro h
  have:c.toNat=n:=by omega
  rw [<-this]
  simp
 ·intro h
  subst h
  simp [UInt8.toNat_ofNat']
  omega
theorem qps (c:UInt8):isB c=((((c.toNat:Nat):Int) == 32) || (((c.toNat:Nat):Int) == 10)):=by
 rw [show (32:Int)=((32:Nat):Int) from rfl,show (10:Int)=((10:Nat):Int) from rfl,eq32 c 32 (by decide),eq32 c 10 (by decide)]
 rfl
theorem qbo (c:UInt8) (w:World):Calls Tryz.prog 203 #[.int .u8 (c.toNat:Nat)] w fun e w'=>e=.returned (.bool (isB c))/\w=w':=by
 have hb:=qps c
 cases h1:(((c.toNat:Nat):Int) == 32) with
 | true =>
  rw [h1,Bool.true_or] at hb
  rw [hb]
  clear hb
  go_enter Tryz.func203,Tryz.ntmps203
  go_wp2
  go_ret
  exact ⟨rfl,rfl⟩
 | false =>
  rw [h1,Bool.false_or] at hb
  rw [hb]
  clear hb
  go_enter Tryz.func203,Tryz.ntmps203
  go_wp2
  go_ret
  exact ⟨rfl,rfl⟩
end Go.Proofs.YtlnekijhbnlclaaGreatDoor
namespace Go.Proofs.YtlnekijhbnlclaaGreatDoor
open Go.RowKit Go.Shelf
attribute [local go_sem] Oper.semAt_some
def KeepS (n₀ b:Nat) (W W':World):Prop:=Below n₀ W W'/\∀ v,Boxed W b 9 v->Boxed W' b 9 v
theorem KeepS.refl (n₀ b:Nat) (W:World):KeepS n₀ b W W:=⟨Below.refl _ _,fun _ h=>h⟩
theorem KeepS.trans {n₀ b:Nat} {A B C:World} (h:KeepS n₀ b A B) (k:KeepS n₀ b B C):KeepS n₀ b A C:=⟨h.1.trans k.1,fun v hv=>k.2 v (h.2 v hv)⟩
theorem KeepS.put {n₀ b:Nat} {w:World} (hn:n₀<=w.heap.size) (W:World) (l:Nat) (o o':Obj) (hl:w.heap.size<=l) (h:W.heap[l]?=some o) (hc:o.isCells=false) (hw:o.isWalk=false):KeepS n₀ b W (W.putObj l o'):=by
 refine ⟨belowK_b hn W l o o' hl h hc hw,fun v hb=>hb.kept (grownBy_putObj' W l o') fun e=>?_⟩
 cases e
 rw [show W.heap[b]?=_ from hb] at h
 cases h
 cases hc
theorem qyh {Q:Exit->Act->World->Prop} {a:Act} {w:World} (h:Q .ret a w):Exit.noGoto Q .ret a w:=h
theorem q0w {Q:Exit->Act->World->Prop} {a:Act} {w:World} (h:Q .normal a w):Exit.noGoto Q .normal a w:=h
def bAt (l:List UInt8) (k:Nat):Bool:=isB (l.getD k 0)
def encR (s:ByteArray) (x:Nat×Nat):Array Value:=#[.string (mkB (sub s.data.toList x)),.bool (bAt s.data.toList x.1)]
def RwA (s:ByteArray) (J:List (Nat×Nat)->World->Prop) (n₀ b:Nat) (W:World) (from_:Value) (wr:World):Prop :=
 ∃ (f:Nat) (pre:List (Nat×Nat)),from_=.int .i64 f/\((f < s.size/\lnTo (okB s.data.toList) (f+1)=(pre,f))\/(s.size=0/\f=0/\pre=[]))/\J pre wr/\KeepS n₀ b W wr
def RwB (s:ByteArray) (pre:List (Nat×Nat)) (f:Nat) (from_ to_:Value):Prop :=
 ∃ t:Nat,from_=.int .i64 f/\f < t/\t<=s.size/\to_=.int .i64 t/\lnTo (okB s.data.toList) t=(pre,f)
set_option maxRecDepth 100000 in
set_option maxHeartbeats 4000000 in
theorem qzt (n:Nat) (hn:1<=n) (l b n₀:Nat) (s:ByteArray) (hs:s.size<=4000) (J Jx:List (Nat×Nat)->World->Prop)
  (hY:∀ pre x W,J pre W->pre.length < s.size->YieldAt Fence.wide (n - 1) Tryz.prog l (encR s x) W fun e W' =>
   (e=.returned (.bool true)/\J (pre ++ [x]) W'/\KeepS n₀ b W W')\/(e=.returned (.bool false)/\Jx (pre ++ [x]) W'))
  (W:World) (bS:Boxed W b 9 (.string s)) (h0:J [] W) :
  CallsIn Fence.wide n Tryz.prog 202 #[.func (.yield l) #[] #[],.pointer (some ⟨b,0,none⟩)] W fun e W'=>(∃ v,e=.returned v) /\
   ((∃ ys,ys=rowsR s.data.toList/\J ys W')\/(∃ pre,True/\Jx pre W')):=by
 refine callsIn_of_wp Tryz.func202 rfl trivial ?_ rfl
 simp only [Tryz.ntmps202,List.size_toArray,List.length_cons,List.length_nil,Nat.reduceAdd,Nat.reduceSub,Array.replicate_succ,Array.replicate_zero,List.push_toArray,List.append_toArray,List.nil_append,List.cons_append]
 have HL:=Lib.hid (fun i=>q4l (okB s.data.toList) i)
 have kS:=bS.cell
 gi_wp2
 refine wpIn_wide.2 (wp_scope_straight ((wpIn_wide (n:=n)).1 ?_))
 refine wpIn_seq (wpIn_label ?_)
 simp only [Exit.then]
 gi_wp2
 gi_loopw [3] (RwA s J n₀ b W) (fun i _=>s.size - (intOf i).toNat)
 case atStart =>
  refine ⟨0,[],rfl,?_,h0,KeepS.refl _ _ _⟩
  rcases Nat.eq_zero_or_pos s.size with h | h
  ·exact .inr ⟨h,rfl,rfl⟩
  ·exact .inl ⟨h,qkk _⟩
 case round =>
  obtain ⟨f,pre,rfl,hst,hJ,hkb⟩:=hrel
  have kS':=(hkb.2 _ bS).cell
  rcases hst with ⟨hf,hln⟩ | ⟨h0',rfl,rfl⟩
  ·have HLN:=Lib.hid hln; clear hln
   have hd:=qxk hf
   have hbf:=fun w=>qbo s[f] w
   have HD:=Lib.hid (show bAt s.data.toList f=isB s[f] by unfold bAt; rw [hd]); clear hd
   generalize hbq:isB s[f]=bf at *
   have HBQ:=Lib.hid hbq; clear hbq
   gi_wp2_with (refine ⟨trivial,(callsIn_wide.2 (hbf _)).mono ?_⟩; rintro e w2 ⟨rfl,rfl⟩)
   gi_loop [3,5] (RwB s pre f) (fun _ i=>s.size - (intOf i).toNat)
   case atStart=>exact ⟨f+1,rfl,by omega,by omega,by go_num,HLN.out⟩
   case round =>
    obtain ⟨t,rfl,ht1,ht2,rfl,hlt⟩:=hrel
    have HT:=Lib.hid hlt; clear hlt
    have hlp:=HL.out t
    rw [HT.out] at hlp
    change pre.length<=t - 1 at hlp
    by_cases htn:t < s.size
    ·have hbt:=fun w=>qbo s[t] w
     have hok:okB s.data.toList f t=(bf == isB s[t]):=by show (bAt _ _ == _)=_; rw [HD.out,qxk htn]
     have HOK:=Lib.hid hok; clear hok
     generalize isB s[t]=bt at *
     cases hq:(bf == bt) with
     | true =>
      obtain rfl:bf=bt:=by simpa using hq
      rw [hq] at HOK
      have HN:=Lib.hid (q5n HT.out (.inr HOK.out))
      clear hq
      gi_wp2_with (refine ⟨trivial,(callsIn_wide.2 (hbt _)).mono ?_⟩; rintro e w2 ⟨rfl,rfl⟩)
      go_round
      case rel=>exact ⟨t+1,rfl,by omega,by omega,by go_num,HN.out⟩
      case measure=>simp [intOf]; omega
     | false =>
      obtain rfl:bt=!bf:=by cases bf <;> cases bt <;> simp_all
      rw [hq] at HOK
      have HN:=Lib.hid (qxm HT.out ht1 HOK.out)
      clear hq
      obtain ⟨fn,tmps,assign,body,hy,hR⟩:=hY pre (f,t) wr hJ (by omega)
      simp only [encR,HD.out,<-qpm] at hy
      have hnb:(!bf == bf)=false:=by cases bf <;> rfl
      gi_wp2_with (refine ⟨trivial,(callsIn_wide.2 (hbt _)).mono ?_⟩; rintro e w2 ⟨rfl,rfl⟩)
      refine hR.mono ?_
      rintro e W3 (⟨rfl,hJ3,hk3⟩ | ⟨rfl,hJx3⟩)
      ·gi_wp2
       go_roundw
       case rel=>exact ⟨t,pre ++ [(f,t)],rfl,.inl ⟨htn,HN.out⟩,hJ3,hkb.trans hk3⟩
       case measure=>simp [intOf]; omega
      ·gi_wp2
       refine qyh ?_; refine bodyPost_ret (results_none rfl _ _ _) rfl ?_
       exact ⟨⟨_,rfl⟩,.inr ⟨_,trivial,hJx3⟩⟩
    ·obtain rfl:t=s.size:=by omega
     have HE:=Lib.hid (q8g (by omega) HT.out)
     obtain ⟨fn,tmps,assign,body,hy,hR⟩:=hY pre (f,s.size) wr hJ (by omega)
     simp only [encR,HD.out,<-qpm] at hy
     have HR:=Lib.hid (show rowsR s.data.toList=qbf (okB s.data.toList) s.size by unfold rowsR; rw [q6e])
     gi_wp2
     refine hR.mono ?_
     rintro e W3 (⟨rfl,hJ3,hk3⟩ | ⟨rfl,hJx3⟩)
     ·gi_wp2
      refine qyh ?_; refine bodyPost_ret (results_none rfl _ _ _) rfl ?_
      exact ⟨⟨_,rfl⟩,.inl ⟨_,by rw [HR.out,HE.out],hJ3⟩⟩
     ·gi_wp2
      refine qyh ?_; refine bodyPost_ret (results_none rfl _ _ _) rfl ?_
      exact ⟨⟨_,rfl⟩,.inr ⟨_,trivial,hJx3⟩⟩
  ·have HE:=Lib.hid (show rowsR s.data.toList=[] by unfold rowsR qbf; rw [q6e,if_pos h0'])
   gi_wp2
   refine q0w ?_
   go_end0
   exact ⟨⟨_,rfl⟩,.inl ⟨_,HE.out.symm,hJ⟩⟩
set_option maxHeartbeats 1000000 in
theorem qej (n:Nat) (s:ByteArray) (w:World) :
  CallsIn Fence.wide n Tryz.prog 170 #[.string s] w fun e w'=>e=.returned (.func (.func 202) #[] #[.pointer (some ⟨w.heap.size,0,none⟩)])/\w'=w.alloc (.cells #[.string s] 9):=by
 refine callsIn_of_wp Tryz.func170 rfl trivial ?_ rfl
 simp only [Tryz.ntmps170,List.size_toArray,List.length_cons,List.length_nil,Nat.reduceAdd,Nat.reduceSub,Array.replicate_succ,Array.replicate_zero,List.push_toArray,List.append_toArray,List.nil_append,List.cons_append]
 gi_wp2
 go_ret
 exact ⟨rfl,rfl⟩
theorem qkj (n:Nat) (hn:1<=n) (b n₀:Nat) (s:ByteArray) (hs:s.size<=4000) (w:World) (bS:Boxed w b 9 (.string s)) :
  SeqStopsK Fence.wide n Tryz.prog 202 #[.pointer (some ⟨b,0,none⟩)] (encR s) (KeepS n₀ b) (fun ys=>ys=rowsR s.data.toList) (fun _=>True) s.size w:=fun l J Jx W hW _ _ hY h0 =>
 qzt n hn l b n₀ s hs J Jx hY W ((hW.block b bS.lt).trans bS) h0
end Go.Proofs.YtlnekijhbnlclaaGreatDoor
namespace Go.Proofs.YtlnekijhbnlclaaGreatDoor
open Go.RowKit Go.Shelf
attribute [local go_sem] Oper.semAt_some
def qye (ws:Int) (s:ByteArray) (w:World) (e:Ending) (w':World):Prop :=
 ∃ v,e=.returned v/\OwnsP w' w.heap.size v (cutR ws s.data.toList)/\Below w.heap.size w w'
def CnAx (bO:Nat) (l:List UInt8) (x:Nat×Nat) (a':Act) (_:World):Prop :=
 ∃ u0 u1 u2 u3 u4 u8 u9 u10 u11 u12 u13 u14 u15 u16 u17 u18 u19 u20 u21 u22 u23 u24 u25 u26 u27 u28 u29 u30 u31 u32 u33 u34 u35 u36 u37 u38 u39 u40 u41 u42 u43 u44 u45 u46 u47 u48 u49 u50 u51 u52 u53 u54 u55 u56 u57 u58 u59 u60 u61 u62 u63 u64 u65 u66 u67 u68 u69 u70:Value,a'={ tmps:=#[u0,u1,u2,u3,u4,.pointer (some ⟨bO,0,none⟩),.string (mkB (sub l x)),.bool (bAt l x.1),u8,u9,u10,u11,u12,u13,u14,u15,u16,u17,u18,u19,u20,u21,u22,u23,u24,u25,u26,u27,u28,u29,u30,u31,u32,u33,u34,u35,u36,u37,u38,u39,u40,u41,u42,u43,u44,u45,u46,u47,u48,u49,u50,u51,u52,u53,u54,u55,u56,u57,u58,u59,u60,u61,u62,u63,u64,u65,u66,u67,u68,u69,u70],defers:=[] }
def CnI (l:List UInt8) (s:Nat) (w:World) (pre:List (Nat×Nat)) (W:World):Prop:=(∃ v,Boxed W s 237 v/\OwnsP W s v (pre.map (pcN l)))/\Below s w W
theorem qyt (l:List UInt8) (s B:Nat) (w:World) (hs:s<=w.heap.size) (hB:s<=B):OwnFrom B (CnI l s w) :=
 OwnFrom.and (fun pre X Y row h hg hr=>by
  obtain ⟨v,h1,h2⟩:=h
  obtain ⟨v',h1',h2',_⟩:=(Own.from (holdsRow_own s s 237 240 2 (fun pre:List (Nat×Nat)=>(pre.map (pcN l)).length) (fun pre=>rowP (pre.map (pcN l))) (fun _ _=>True)) B) pre X Y row ⟨v,h1,h2,trivial⟩ hg hr
  exact ⟨v',h1',h2'⟩) (ownFrom_below hs hB)
set_option maxRecDepth 100000 in
set_option maxHeartbeats 4000000 in
theorem q8t (s:ByteArray) (hs:s.size<=4000) (w:World):Calls Tryz.prog 149 #[.string s,.int .u8 0] w (qye 0 s w):=by
 have HR:=Lib.hid (show cutR 0 s.data.toList=(rowsR s.data.toList).map (pcN s.data.toList) from qor _)
 obtain ⟨i0,hi,hz0,hz1,hz2⟩:=info_parts Tryz.infoPiece
 refine (callsIn_wide (n:=6)).1 ?_
 refine callsIn_of_wp_marks Tryz.func149 rfl trivial ?_ rfl
 simp only [Tryz.ntmps149,List.size_toArray,List.length_cons,List.length_nil,Nat.reduceAdd,Nat.reduceSub,Array.replicate_succ,Array.replicate_zero,List.push_toArray,List.append_toArray,List.nil_append,List.cons_append]
 gi_wp2
 have hb2:Below w.heap.size w (w.alloc (.cells #[.slice none 0 0] 237)):=(Below.refl _ w).alloc (Nat.le_refl _) _
 have hs2:(w.alloc (.cells #[.slice none 0 0] 237)).heap.size=w.heap.size+1:=by simp
 have bO2:=Boxed.new w 237 (.slice none 0 0)
 generalize w.alloc (.cells #[.slice none 0 0] 237)=W2 at *
 refine ⟨trivial,(qej _ s W2).mono ?_⟩
 rintro e w3 ⟨rfl,rfl⟩
 simp only [hs2]
 have bS:=Boxed.new W2 9 (.string s)
 rw [hs2] at bS
 have bO:=bO2.alloc (.cells #[.string s] 9)
 have hb0:Below w.heap.size w (W2.alloc (.cells #[.string s] 9)):=hb2.alloc (by omega) _
 have hs0:(W2.alloc (.cells #[.string s] 9)).heap.size=w.heap.size+2:=by simp; omega
 generalize W2.alloc (.cells #[.string s] 9)=W0 at *
 clear bO2 hb2 hs2
 gi_wp2
 refine wpIn_rangeFunc_ownH rfl (by omega) (gf:=202) (lb:=#[.pointer (some ⟨w.heap.size+1,0,none⟩)]) rfl trivial (enters_of Tryz.func202 (by kernel_rfl) rfl)
  (qkj 5 (by omega) (w.heap.size+1) w.heap.size s hs W0 bS) KeepS.trans (KeepS.put (by omega)) (Below.refl _ _) (fun _=>rfl)
  (CnI s.data.toList w.heap.size w) (fun _ _ _=>False) (qyt _ _ _ _ (Nat.le_refl _) (by omega)) (fun _ _ _ _ _ hs _ _=>hs)
  ⟨⟨_,bO,OwnsP.nil _ _⟩,hb0⟩ (CnAx w.heap.size s.data.toList) (fun x a'=>fun _ _ _ _ h _ _=>h) ?assign ?body ?done ?stop
 case assign =>
  rintro l pre x W K hi1 hK
  unfold encR
  gi_wp2
  exact hK _ _ (KeepsFrom.refl _ _) (KeepS.refl _ _ _) hi1 ⟨_,_,_,_,_,_,_,_,_,_,_,_,_,_,_,_,_,_,_,_,_,_,_,_,_,_,_,_,_,_,_,_,_,_,_,_,_,_,_,_,_,_,_,_,_,_,_,_,_,_,_,_,_,_,_,_,_,_,_,_,_,_,_,_,_,_,_,_,rfl⟩
 case body =>
  rintro l pre x a' W hl _ ⟨⟨v,hv,ho⟩,hB1⟩ ⟨u0,u1,u2,u3,u4,u8,u9,u10,u11,u12,u13,u14,u15,u16,u17,u18,u19,u20,u21,u22,u23,u24,u25,u26,u27,u28,u29,u30,u31,u32,u33,u34,u35,u36,u37,u38,u39,u40,u41,u42,u43,u44,u45,u46,u47,u48,u49,u50,u51,u52,u53,u54,u55,u56,u57,u58,u59,u60,u61,u62,u63,u64,u65,u66,u67,u68,u69,u70,rfl⟩ hlt
  have hc:=hv.cell
  have hsW:=hB1.size
  have hpl:(pre.map (pcN s.data.toList)).length < 4000:=by rw [List.length_map]; omega
  have hb0:bAt s.data.toList x.1=isB (s.data.toList.getD x.1 0):=rfl
  generalize hP:pre.map (pcN s.data.toList)=P at *
  have HM:=Lib.hid hP
  clear hP
  cases hb:bAt s.data.toList x.1 with
  | true =>
   have HP:=Lib.hid (show pcN s.data.toList x=(1,[32]) by unfold pcN; rw [if_pos (hb0.symm.trans hb)])
   clear hb hb0
   gi_wp2_with (gi_at_builtin; refine wpListIn_append_own _ rfl _ _ 237 rfl w.heap.size 240 i0 (.agg #[.int .u8 0,.string ⟨#[]⟩]) 2 24 Tryz.underlying237 hi hz0 hz1 hz2 rfl (by decide) _ _ _ rfl (World.ownsRow.alloc ho _) ⟨W.heap.size,0,none⟩ 1 1 (encP (1,[32])) rfl rfl (qjg W (1,[32])) (by simp [encP,Value.oneCell']) (by simp only [maxLen]; omega) (by omega) (by simp; omega) ?_; intro v' w1 hown' hgrow _; obtain ⟨g',cap',rfl⟩:=ownsRow_succ hown'; obtain ⟨hv1,hv2,hr2,hk2,hb2⟩:=hv.appended (by decide) ho hsW (by omega) hown' hgrow; have hc1:=hv1.cell; have hf1:=hv1.frozen)
   refine ⟨hk2.from _,⟨hb2,fun u h4=>?_⟩,⟨⟨_,hv2,?_⟩,hB1.trans hb2⟩⟩
   ·have h5:=h4.alloc (.cells #[.int .u8 1,.string ⟨#[32]⟩] 240)
    exact (h5.kept hgrow (h4.not_row (by decide) ho)).other (by omega) _
   ·unfold OwnsP
    rw [List.map_append,HM.out,List.length_append,List.map_cons,List.map_nil,qyg,HP.out]
    exact hr2
  | false =>
   have HP:=Lib.hid (show pcN s.data.toList x=(0,sub s.data.toList x) by unfold pcN; rw [if_neg (by rw [<-hb0,hb]; decide)])
   clear hb hb0
   gi_wp2_with (gi_at_builtin; refine wpListIn_append_own _ rfl _ _ 237 rfl w.heap.size 240 i0 (.agg #[.int .u8 0,.string ⟨#[]⟩]) 2 24 Tryz.underlying237 hi hz0 hz1 hz2 rfl (by decide) _ _ _ rfl (World.ownsRow.alloc ho _) ⟨W.heap.size,0,none⟩ 1 1 (encP (0,sub s.data.toList x)) rfl rfl (qjg W (0,sub s.data.toList x)) (by simp [encP,Value.oneCell']) (by simp only [maxLen]; omega) (by omega) (by simp; omega) ?_; intro v' w1 hown' hgrow _; obtain ⟨g',cap',rfl⟩:=ownsRow_succ hown'; obtain ⟨hv1,hv2,hr2,hk2,hb2⟩:=hv.appended (by decide) ho hsW (by omega) hown' hgrow; have hc1:=hv1.cell; have hf1:=hv1.frozen)
   refine ⟨hk2.from _,⟨hb2,fun u h4=>?_⟩,⟨⟨_,hv2,?_⟩,hB1.trans hb2⟩⟩
   ·have h5:=h4.alloc (.cells #[.int .u8 0,.string (mkB (sub s.data.toList x))] 240)
    exact (h5.kept hgrow (h4.not_row (by decide) ho)).other (by omega) _
   ·unfold OwnsP
    rw [List.map_append,HM.out,List.length_append,List.map_cons,List.map_nil,qyg,HP.out]
    exact hr2
 case done =>
  rintro D ys W hD rfl ⟨⟨v,hv,ho⟩,hB1⟩ hK
  have hc:=hv.cell
  gi_wp2
  refine ⟨by simp,.inl ⟨_,_,rfl,run_takeDeferred hK,?_⟩⟩
  refine ⟨_,results_tmp rfl _ _ _,v,rfl,?_,hB1.trans (belowK_b (w:=W0) (by omega) W D _ _ hD hK rfl rfl)⟩
  rw [HR.out]
  exact ownsRow_putObj ho _ hK rfl
 case stop =>
  rintro D c pre W _ _ h _
  exact h.elim
end Go.Proofs.YtlnekijhbnlclaaGreatDoor
namespace Go.Proofs.YtlnekijhbnlclaaGreatDoor
open Go.RowKit Go.Shelf
attribute [local go_sem] Oper.semAt_some
def qtl (f:Fr):Array Value:=#[.int .i64 f.node,.int .i64 f.part,.int .i64 f.depth,.int .i64 f.x,.int .i64 f.y,.int .i64 f.w,.int .i64 f.h,.string f.text]
def LsAx (fs:List Fr) (s:Nat) (x:Nat) (a':Act) (W:World):Prop :=
 ∃ Bx,Blk W Bx 42 (qtl (frAt fs x))/\∃ u0 u1 u2 u7 u8 u9 u10 u11 u12 u13 u14:Value,a'={ tmps:=#[u0,u1,u2,.pointer (some ⟨s,0,none⟩),.pointer (some ⟨s+1,0,none⟩),.int .i64 (x:Nat),.pointer (some ⟨Bx,0,none⟩),u7,u8,u9,u10,u11,u12,u13,u14],defers:=[] }
theorem qmt (fs:List Fr) (s B:Nat) (x:Nat) (a':Act):OwnFrom B (fun (_:Unit) W=>LsAx fs s x a' W):=fun _ X Y row hs hg hr=>by
 obtain ⟨Bx,hb,ha⟩:=hs
 refine ⟨Bx,(hg.block Bx hb.lt fun e=>?_).trans hb,ha⟩
 obtain ⟨_,o,ho,hc⟩:=hr Bx e.symm
 rw [show X.heap[Bx]?=_ from hb] at ho
 cases ho
 cases hc
def LsI (fs:List Fr) (x y:Int) (s bx bY:Nat) (w:World) (pre:List Nat) (W:World):Prop :=
 ((∀ i ∈ pre,hitP fs x y i=false)/\(Boxed W s 68 (.func (.func 39) #[] #[.pointer (some ⟨bx,0,none⟩),.pointer (some ⟨bY,0,none⟩)])/\Boxed W (s+1) 3 (.int .i64 0)))/\(Below s w W/\s+3<=W.heap.size)
def LsX (fs:List Fr) (x y:Int) (s:Nat) (w:World) (c:Code) (pre:List Nat) (W:World):Prop :=
 ((c=.ret/\(∃ q i,pre=q ++ [i]/\(∀ j ∈ q,hitP fs x y j=false)/\hitP fs x y i=true/\Boxed W (s+1) 3 (.int .i64 (i:Nat)))))/\Below s w W
set_option maxRecDepth 100000 in
set_option maxHeartbeats 4000000 in
theorem q0t (fs:List Fr) (x y:Int) (v:Value) (B bx bY:Nat) (w:World) (h:Frags w B v fs) (hB:B<=w.heap.size) (hm:fs.length<=2100)
  (hx:w.cell? ⟨bx,0,none⟩=some (.int .i64 x)) (hy:w.cell? ⟨bY,0,none⟩=some (.int .i64 y)) (b1:bx < w.heap.size) (b2:bY < w.heap.size) :
  Calls Tryz.prog 38 #[v,.func (.func 39) #[] #[.pointer (some ⟨bx,0,none⟩),.pointer (some ⟨bY,0,none⟩)]] w fun e w'=>e=.returned (.int .i64 (q2a (hitP fs x y) fs.length))/\Below w.heap.size w w':=by
 have h':=h
 obtain ⟨A,c,rfl,_,_⟩:=h'
 refine (callsIn_wide (n:=6)).1 ?_
 refine callsIn_of_wp_marks Tryz.func38 rfl trivial ?_ rfl
 simp only [Tryz.ntmps38,List.size_toArray,List.length_cons,List.length_nil,Nat.reduceAdd,Nat.reduceSub,Array.replicate_succ,Array.replicate_zero,List.push_toArray,List.append_toArray,List.nil_append,List.cons_append]
 gi_wp2
 have hb2:Below w.heap.size w ((w.alloc (.cells #[.func (.func 39) #[] #[.pointer (some ⟨bx,0,none⟩),.pointer (some ⟨bY,0,none⟩)]] 68)).alloc (.cells #[.int .i64 0] 3)):=((Below.refl _ w).alloc (Nat.le_refl _) _).alloc (by simp) _
 have hs2:((w.alloc (.cells #[.func (.func 39) #[] #[.pointer (some ⟨bx,0,none⟩),.pointer (some ⟨bY,0,none⟩)]] 68)).alloc (.cells #[.int .i64 0] 3)).heap.size=w.heap.size+2:=by simp
 have bF:=(Boxed.new w 68 (.func (.func 39) #[] #[.pointer (some ⟨bx,0,none⟩),.pointer (some ⟨bY,0,none⟩)])).alloc (.cells #[.int .i64 0] 3)
 have bR:=Boxed.new (w.alloc (.cells #[.func (.func 39) #[] #[.pointer (some ⟨bx,0,none⟩),.pointer (some ⟨bY,0,none⟩)]] 68)) 3 (.int .i64 0)
 rw [World.size_alloc] at bR
 generalize (w.alloc (.cells #[.func (.func 39) #[] #[.pointer (some ⟨bx,0,none⟩),.pointer (some ⟨bY,0,none⟩)]] 68)).alloc (.cells #[.int .i64 0] 3)=W2 at *
 refine ⟨trivial,(q8w _ A _ c W2).mono ?_⟩
 rintro e w3 ⟨rfl,rfl⟩
 simp only [hs2]
 have bL:=Boxed.new W2 36 (.slice A fs.length c)
 rw [hs2] at bL
 have bF0:=bF.alloc (.cells #[.slice A fs.length c] 36)
 have bR0:=bR.alloc (.cells #[.slice A fs.length c] 36)
 have hb0:Below w.heap.size w (W2.alloc (.cells #[.slice A fs.length c] 36)):=hb2.alloc (by omega) _
 have hs0:(W2.alloc (.cells #[.slice A fs.length c] 36)).heap.size=w.heap.size+3:=by rw [World.size_alloc]; omega
 generalize W2.alloc (.cells #[.slice A fs.length c] 36)=W0 at *
 have hF0:=(h.below (hb0.mono hB)).more (show B<=W0.heap.size by omega)
 clear bF bR hb2 hs2 h
 gi_wp2
 refine wpIn_rangeFunc_ownH rfl (by omega) (gf:=72) (lb:=#[.pointer (some ⟨w.heap.size+2,0,none⟩)]) rfl trivial (enters_of Tryz.func72 (by kernel_rfl) rfl)
  (qjo 5 (by omega) (w.heap.size+2) W0.heap.size (.slice A fs.length c) fs hm W0 (Nat.le_refl _) (by omega) bL.cell hF0) belowK_t (belowK_b (Nat.le_refl _)) (Below.refl _ _) (fun _=>rfl)
  (LsI fs x y w.heap.size bx bY w) (LsX fs x y w.heap.size w)
  (OwnFrom.and (OwnFrom.and (ownFrom_pure _ _) (OwnFrom.and (Own.from (boxed_own _ _ _) _) (Own.from (boxed_own _ _ _) _))) (OwnFrom.and (ownFrom_below (Nat.le_refl _) (by omega)) (fun _ _ _ _ hs hg _=>Nat.le_trans hs hg.size)))
  (fun c=>OwnFrom.and (fun pre X Y row hs hg hr=>by
   obtain ⟨e,q,i,e1,h1,h2,h3⟩:=hs
   exact ⟨e,q,i,e1,h1,h2,Own.from (boxed_own (w.heap.size+1) 3 (fun _:Unit=>.int .i64 (i:Nat))) _ () X Y row h3 hg hr⟩) (ownFrom_below (Nat.le_refl _) (by omega)))
  ⟨⟨by simp,bF0,bR0⟩,hb0,by omega⟩ (LsAx fs w.heap.size) (fun x a'=>qmt _ _ _ x a') ?assign ?body ?done ?stop
 case assign =>
  rintro l pre i W K ⟨⟨hp,h1,h2⟩,hB1,hs3⟩ hK
  have hsW:=hB1.size
  unfold Fr.val
  gi_wp2
  exact hK _ _ ((KeepsOthers.alloc _ _).from _) ((Below.refl _ W).alloc (by omega) _) ⟨⟨hp,h1.alloc _,h2.alloc _⟩,hB1.alloc hsW _,by rw [World.size_alloc]; omega⟩ ⟨W.heap.size,Blk.new _ _ _,_,_,_,_,_,_,_,_,_,_,_,rfl⟩
 case body =>
  rintro l pre i a' W hl _ ⟨⟨hp,h1,h2⟩,hB1,hs3⟩ ⟨Bx,hbx,u0,u1,u2,u7,u8,u9,u10,u11,u12,u13,u14,rfl⟩ hlt
  have hsW:=hB1.size
  have hcF:=h1.cell
  have hx':=(hB1.cell (p:=⟨bx,0,none⟩) b1).trans hx
  have hy':=(hB1.cell (p:=⟨bY,0,none⟩) b2).trans hy
  have hc:=hit1 (frAt fs i) x y bx bY W hx' hy' (by omega) (by omega)
  have HP:=Lib.hid (show hitP fs x y i=cov (frAt fs i) x y from rfl)
  unfold Fr.val at hc
  have k0:=hbx.cell 0
  have k1:=hbx.cell 1
  have k2:=hbx.cell 2
  have k3:=hbx.cell 3
  have k4:=hbx.cell 4
  have k5:=hbx.cell 5
  have k6:=hbx.cell 6
  have k7:=hbx.cell 7
  unfold qtl at k0 k1 k2 k3 k4 k5 k6 k7
  generalize frAt fs i=f at *
  obtain ⟨n1,p1,d1,fx,fy,fw,fh,s1⟩:=f
  simp at k0 k1 k2 k3 k4 k5 k6 k7
  have HB:=Lib.hid hbx
  clear hbx hx' hy'
  cases hcv:cov ⟨n1,p1,d1,fx,fy,fw,fh,s1⟩ x y with
  | false =>
   rw [hcv] at hc HP
   gi_wp2
   refine ⟨trivial,(CallsIn.inRound l (callsIn_wide.2 hc)).mono ?_⟩
   rintro e w' ⟨rfl,o,rfl⟩
   gi_wp2
   exact ⟨(KeepsOthers.alloc _ _).from _,(Below.refl _ W).alloc (by omega) _,⟨fun j hj=>(List.mem_append.1 hj).elim (hp j) (fun e=>by simp at e; subst e; exact HP.out),h1.alloc _,h2.alloc _⟩,hB1.alloc hsW _,by rw [World.size_alloc]; omega⟩
  | true =>
   rw [hcv] at hc HP
   gi_wp2
   refine ⟨trivial,(CallsIn.inRound l (callsIn_wide.2 hc)).mono ?_⟩
   rintro e w' ⟨rfl,o,rfl⟩
   have c2:=(h2.alloc o).cell
   have f2:=(h2.alloc o).frozen
   gi_wp2
   exact ⟨((KeepsOthers.alloc _ _).trans (KeepsOthers.setCell _ _ _)).from _,⟨rfl,pre,i,rfl,hp,HP.out,(h2.alloc o).set _⟩,(hB1.alloc hsW _).setCell (p:=⟨w.heap.size+1,0,none⟩) (by simp) _⟩
 case done =>
  rintro D ys W hD rfl ⟨⟨hp,h1,h2⟩,hB1,hs3⟩ hK
  have c2:=h2.cell
  have f2:=h2.frozen
  gi_wp2
  have hK':=(KeepsOthers.setCell W ⟨w.heap.size+1,0,none⟩ (.int .i64 (-1))).same D _ hK rfl
  refine ⟨by simp,.inl ⟨_,_,rfl,run_takeDeferred hK',?_⟩⟩
  have hc5:=cell_kept (World.cell?_setCell_same' W ⟨w.heap.size+1,0,none⟩ (.int .i64 (-1)) (by rw [c2]; rfl)) (grownBy_putObj' _ D (.deferred none)) (fun r e=>by cases e; exact ⟨_,hK',rfl⟩)
  refine ⟨.int .i64 (-1),?_,by rw [qcn fun i hi=>hp i (downTo_mem.2 ⟨Nat.zero_le i,hi⟩)],(hB1.setCell (p:=⟨w.heap.size+1,0,none⟩) (by simp) _).trans (belowK_b (w:=W0) (by omega) _ D _ _ hD hK' rfl rfl)⟩
  simp [results,Tryz.f38,go_sem,hc5]
 case stop =>
  rintro D c pre W hD ⟨m,hm1,hpre⟩ ⟨⟨rfl,q,i,e1,h1,h2,h3⟩,hB1⟩ hK
  have c2:=h3.cell
  gi_wp2
  refine ⟨by simp,.inl ⟨_,_,rfl,run_takeDeferred hK,?_⟩⟩
  have hc5:=cell_kept c2 (grownBy_putObj' _ D (.deferred none)) (fun r e=>by cases e; exact ⟨_,hK,rfl⟩)
  have hlast:q2a (hitP fs x y) fs.length=i:=by
   rw [e1] at hpre
   have hmn:m < fs.length:=by
    rcases Nat.lt_or_ge m fs.length with h | h
    ·exact h
    ·have:m=fs.length:=by omega
     rw [this,qwk] at hpre
     simp at hpre
   rw [q9m hmn] at hpre
   obtain ⟨e2,e3⟩:=List.append_inj' hpre rfl
   simp at e3
   subst e3
   exact qbj h2 hmn fun j h4 h5=>h1 j (by rw [e2]; exact downTo_mem.2 ⟨by omega,h5⟩)
  refine ⟨.int .i64 (i:Nat),?_,by rw [hlast],hB1.trans (belowK_b (w:=W0) (by omega) W D _ _ hD hK rfl rfl)⟩
  simp [results,Tryz.f38,go_sem,hc5]
set_option maxRecDepth 100000 in
set_option maxHeartbeats 2000000 in
theorem qao (fs:List Fr) (x y:Int) (v:Value) (B:Nat) (w:World) (h:Frags w B v fs) (hB:B<=w.heap.size) (hm:fs.length<=2100) :
  Calls Tryz.prog 27 #[v,.int .i64 x,.int .i64 y] w fun e w'=>e=.returned (.int .i64 (q2a (hitP fs x y) fs.length))/\Below w.heap.size w w':=by
 have hb2:Below w.heap.size w ((w.alloc (.cells #[.int .i64 x] 3)).alloc (.cells #[.int .i64 y] 3)):=((Below.refl _ w).alloc (Nat.le_refl _) _).alloc (by simp) _
 have hs2:((w.alloc (.cells #[.int .i64 x] 3)).alloc (.cells #[.int .i64 y] 3)).heap.size=w.heap.size+2:=by simp
 have bx:=((Boxed.new w 3 (.int .i64 x)).alloc (.cells #[.int .i64 y] 3)).cell
 have bY:=(Boxed.new (w.alloc (.cells #[.int .i64 x] 3)) 3 (.int .i64 y)).cell
 rw [World.size_alloc] at bY
 have hl:=q0t fs x y v B w.heap.size (w.heap.size+1) _ (h.below (hb2.mono hB)) (by omega) hm bx bY (by omega) (by omega)
 have h':=h
 obtain ⟨A,c,rfl,_,_⟩:=h'
 clear h bx bY
 generalize q2a (hitP fs x y) fs.length=r at *
 go_enter Tryz.func27,Tryz.ntmps27
 go_wp2_with fail
 refine hl.mono ?_
 rintro e w3 ⟨rfl,hb3⟩
 go_wp2_with fail
 go_ret
 exact ⟨rfl,hb2.trans (hb3.mono (by omega))⟩
end Go.Proofs.YtlnekijhbnlclaaGreatDoor
namespace Go.Proofs.YtlnekijhbnlclaaGreatDoor
theorem obk {α β:Type} {o:Option α} {f:α->Option β} {b:β} (h:(o >>= f)=some b):∃ a,o=some a/\f a=some b:=by
 cases o with
 | none=>cases h
 | some a=>exact ⟨a,rfl,h⟩
theorem qtc {n:Int} (h:-9223372036854775808<=n/\n<=9223372036854775807):w64 n=n:=by unfold w64 Go.RowKit.wrap64; omega
theorem qwn {next:Int}:∀ (ns:List Nd) (met:List Int) (d:Int) (k:Nat),qdb next ns met d k=true ->
  (0 < ns.length->(ndAt ns 0).depth<=d+1/\(k=1->(ndAt ns 0).depth<=d)/\((ndAt ns 0).depth=0↔d < 0)) /\
  ∀ i,i+1 < ns.length->(ndAt ns (i+1)).depth<=(ndAt ns i).depth+1/\((ndAt ns i).kind=1->(ndAt ns (i+1)).depth<=(ndAt ns i).depth)/\((ndAt ns (i+1)).depth=0↔(ndAt ns i).depth < 0)
 | [],_,_,_,_=>⟨fun h=>absurd h (by simp),fun i h=>absurd h (by simp)⟩
 | n :: r,met,d,k,h=>by
  obtain ⟨h1,h2,h3⟩:=qdi h
  rw [qdb] at h
  simp only [Bool.and_eq_true,Bool.not_eq_true',Bool.and_eq_false_iff,decide_eq_false_iff_not,beq_iff_eq,decide_eq_decide] at h
  have ih:=qwn r _ _ _ h3
  refine ⟨fun _=>?_,fun i hi=>?_⟩
  ·refine ⟨by have:=h.1.1.1.2; show n.depth<=_; omega,fun hk=>?_,h.1.2⟩
   have:=h.1.1.2
   show n.depth<=d
   rcases this with a | a
   ·omega
   ·exact absurd hk a
  ·cases i with
   | zero=>exact ih.1 (by simpa using hi)
   | succ i=>exact ih.2 i (by simpa using hi)
def eN (ns:List Nd) (a:Nat):Nat:=a+1+(qcb ns a).length
theorem q4b {ns:List Nd} {a:Nat} (ha:a < ns.length):eN ns a<=ns.length/\qcb ns a=List.range' (a+1) (eN ns a - (a+1))/\(∀ x,a < x->x < eN ns a->(ndAt ns a).depth < (ndAt ns x).depth)/\(eN ns a < ns.length->¬ (ndAt ns a).depth < (ndAt ns (eN ns a)).depth):=by
 obtain ⟨m,h1,h2,h3⟩:=qgm ns a ha
 have hb:=qyn h1 h2 h3
 have he:eN ns a=a+1+m:=by unfold eN; rw [hb,List.length_range']
 rw [he]
 refine ⟨h1,by rw [hb]; congr 1; omega,fun x hx hl=>?_,fun hl=>?_⟩
 ·have:=h2 (x - (a+1)) (by omega)
  rw [show a+1+(x - (a+1))=x by omega] at this
  exact of_decide_eq_true this
 ·exact of_decide_eq_false (h3 hl)
theorem q8c {ns:List Nd} {a:Nat} (ha:a < ns.length) {k:Nat}:k ∈ kidsN ns a↔a < k/\k < eN ns a/\(ndAt ns k).depth=(ndAt ns a).depth+1:=by
 obtain ⟨h1,h2,h3,h4⟩:=q4b ha
 have hg:a+1<=eN ns a:=by unfold eN; omega
 unfold kidsN
 rw [List.mem_filter,h2,List.mem_range',decide_eq_true_eq]
 constructor
 ·rintro ⟨⟨j,hj,rfl⟩,hd⟩
  exact ⟨by omega,by omega,by omega⟩
 ·rintro ⟨h5,h6,h7⟩
  exact ⟨⟨k - (a+1),by omega,by omega⟩,by omega⟩
theorem qvk {ns:List Nd} {a:Nat} (ha:a < ns.length):(kidsN ns a).Pairwise (· < ·):=by
 obtain ⟨h1,h2,h3,h4⟩:=q4b ha
 unfold kidsN
 rw [h2]
 exact List.Pairwise.filter _ (List.pairwise_lt_range' ..)
theorem qqk {ns:List Nd} {a k:Nat} (ha:a < ns.length) (hk:k ∈ kidsN ns a):eN ns k<=eN ns a:=by
 obtain ⟨h1,h2,h3⟩:=(q8c ha).1 hk
 obtain ⟨a1,a2,a3,a4⟩:=q4b ha
 have hkl:k < ns.length:=by omega
 obtain ⟨k1,k2,k3,k4⟩:=q4b hkl
 rcases Nat.lt_or_ge (eN ns a) (eN ns k) with h | h
 ·have:=k3 (eN ns a) h2 h
  have:=a4 (by omega)
  omega
 ·exact h
theorem q7m {ns:List Nd} {a k j:Nat} (ha:a < ns.length) (hk:k ∈ kidsN ns a) (hj:j ∈ kidsN ns a) (hlt:k < j):eN ns k<=j:=by
 obtain ⟨h1,h2,h3⟩:=(q8c ha).1 hk
 obtain ⟨j1,j2,j3⟩:=(q8c ha).1 hj
 obtain ⟨a1,a2,a3,a4⟩:=q4b ha
 have hkl:k < ns.length:=by omega
 obtain ⟨k1,k2,k3,k4⟩:=q4b hkl
 rcases Nat.lt_or_ge j (eN ns k) with h | h
 ·have:=k3 j hlt h
  omega
 ·exact h
structure Blocks (ns:List Nd) (next:Int):Prop where
 ok:DocOk ns next
 step:∀ i,i+1 < ns.length->(ndAt ns (i+1)).depth<=(ndAt ns i).depth+1/\((ndAt ns i).kind=1->(ndAt ns (i+1)).depth<=(ndAt ns i).depth)/\1<=(ndAt ns (i+1)).depth
 root:(ndAt ns 0).depth=0
 disp:∀ i,(stAt ns i).display=0
 mT:∀ i,(stAt ns i).mT=(0,0)
 mB:∀ i,(stAt ns i).mB=(0,0)
 offY:∀ i,(stAt ns i).offY=0
 tall:∀ i,kidsN ns i≠[]->(stAt ns i).height=(0,0)/\(stAt ns i).minH=(0,0)/\(stAt ns i).maxH=(0,0)
theorem qjw {ns:List Nd} {next:Int} (h:qgb ns next=true):(∀ i,i+1 < ns.length->(ndAt ns (i+1)).depth<=(ndAt ns i).depth+1/\((ndAt ns i).kind=1->(ndAt ns (i+1)).depth<=(ndAt ns i).depth)/\1<=(ndAt ns (i+1)).depth)/\(ndAt ns 0).depth=0:=by
 have hok:=q9k h
 simp only [qgb,q9a,Bool.and_eq_true,decide_eq_true_eq] at h
 obtain ⟨⟨⟨⟨⟨⟨h1,h2⟩,h3⟩,h4⟩,h5⟩,h6⟩,h7⟩:=h
 obtain ⟨a,b⟩:=qwn _ _ _ _ h4
 refine ⟨fun i hi=>?_,(a (by omega)).2.2.2 (by omega)⟩
 obtain ⟨b1,b2,b3⟩:=b i hi
 have d1:=(hok.at_ hi).depth
 have d2:=(hok.at_ (i:=i) (by omega)).depth
 refine ⟨b1,b2,?_⟩
 rcases Int.lt_or_le 0 (ndAt ns (i+1)).depth with h | h
 ·omega
 ·have:=b3.1 (by omega)
  omega
section
variable {ns:List Nd} {next:Int} (H:Blocks ns next)
include H
theorem Blocks.parent {i:Nat} (h0:0 < i) (hi:i < ns.length):∃ p,p < i/\i ∈ kidsN ns p/\(ndAt ns p).kind=0:=by
 have key:∀ j,j < i->(∀ x,j < x->x < i->(ndAt ns i).depth<=(ndAt ns x).depth)->∃ p,p<=j/\(ndAt ns p).depth < (ndAt ns i).depth/\∀ x,p < x->x < i->(ndAt ns i).depth<=(ndAt ns x).depth:=by
  intro j
  induction j with
  | zero =>
   intro hj hx
   have:=(H.step (i - 1) (by omega)).2.2
   rw [show i - 1+1=i by omega] at this
   exact ⟨0,Nat.le_refl _,by rw [H.root]; omega,hx⟩
  | succ j ih =>
   intro hj hx
   rcases Int.lt_or_le (ndAt ns (j+1)).depth (ndAt ns i).depth with h | h
   ·exact ⟨j+1,Nat.le_refl _,h,hx⟩
   ·obtain ⟨p,h1,h2,h3⟩:=ih (by omega) fun x h4 h5=>by
     rcases Nat.lt_or_eq_of_le (show j+1<=x from h4) with h6 | rfl
     ·exact hx x h6 h5
     ·exact h
    exact ⟨p,by omega,h2,h3⟩
 obtain ⟨p,h1,h2,h3⟩:=key (i - 1) (by omega) fun x h4 h5=>by omega
 have hp:p < i:=by omega
 have hpl:p < ns.length:=by omega
 obtain ⟨s1,s2,s3⟩:=H.step p (by omega)
 have hd:(ndAt ns i).depth<=(ndAt ns (p+1)).depth:=by
  rcases Nat.lt_or_eq_of_le (show p+1<=i from hp) with h | h
  ·exact h3 (p+1) (by omega) h
  ·rw [h]; exact Int.le_refl _
 obtain ⟨a1,a2,a3,a4⟩:=q4b hpl
 refine ⟨p,hp,(q8c hpl).2 ⟨hp,?_,by omega⟩,?_⟩
 ·rcases Nat.lt_or_ge i (eN ns p) with h | h
  ·exact h
  ·have h5:=a4 (by omega)
   have hg:p+1<=eN ns p:=by unfold eN; omega
   rcases Nat.lt_or_eq_of_le h with h6 | h6
   ·have:=h3 (eN ns p) (by omega) h6
    omega
   ·rw [h6] at h5
    omega
 ·rcases (H.ok.at_ hpl).kind with h | h
  ·exact h
  ·have:=s2 h
   omega
theorem Blocks.has_kids {i:Nat} (hi:i < ns.length) (hk:kidsN ns i≠[]):(ndAt ns i).kind=0:=by
 obtain ⟨k,hk⟩:=List.exists_mem_of_ne_nil _ hk
 obtain ⟨h1,h2,h3⟩:=(q8c hi).1 hk
 obtain ⟨a1,a2,a3,a4⟩:=q4b hi
 rcases (H.ok.at_ hi).kind with h | h
 ·exact h
 ·have:=(H.step i (by omega)).2.1 h
  have:=a3 (i+1) (by omega) (by omega)
  omega
theorem Blocks.inside (i:Nat):qfa ns i=decide ((ndAt ns i).kind=1):=by
 unfold qfa
 have:(ndAt ns i).st.display=0:=H.disp i
 rw [this]
 simp
end
def offs:Int->List Int->List Int
 | _,[]=>[]
 | y,h :: r=>y :: offs (y+h) r
theorem qfk:∀ (l:List Int) (y:Int),(offs y l).length=l.length
 | [],_=>rfl
 | h :: r,y=>by rw [offs,List.length_cons,qfk r,List.length_cons]
structure Kd0 (k:Kd):Prop where
 top:k.top=(0,0)
 bottom:k.bottom=(0,0)
 least:0<=k.height
 most:k.height<=1099511627776
 thr:k.through=true->k.height=0
structure Pl0 (p:Pl) (A:List Int) (z:Int):Prop where
 at_:p.at_=A
 y:p.y=z
 waits:p.waits=(0,0)
 top:p.top=(0,0)
 bottom:p.bottom=(0,0)
 height:p.height=0
 out:p.outside=true->z=0
theorem with0:withM (0,0) (0,0)=(0,0):=by decide
theorem val0:valM (0,0)=0:=by unfold valM; exact qtc (by decide)
theorem putK0 {p:Pl} {k:Kd} {at_:List Int} {y:Int} (h:Pl0 p at_ y) (hk:Kd0 k) (hy:0<=y/\y<=4611686018427387904):Pl0 (putK p k) (at_ ++ [y]) (y+k.height):=by
 obtain ⟨a1,a2,a3,a4,a5,a6,a7⟩:=h
 obtain ⟨b1,b2,b3,b4,b5⟩:=hk
 have e1:w64 y=y:=qtc (by omega)
 have e2:w64 (y+k.height)=y+k.height:=qtc (by omega)
 unfold putK
 rw [a3,b1,b2,with0]
 dsimp only
 rw [val0]
 by_cases ht:k.through=true
 ·have hh:=b5 ht
  cases ho:p.outside with
  | true =>
   simp only [ht,Bool.and_self,if_true,hh,Int.add_zero]
   exact ⟨by show p.at_ ++ [p.y]=_; rw [a1,a2],a2,with0,a4,a5,a6,fun _=>a7 ho⟩
  | false =>
   simp only [ht,Bool.and_false,Bool.false_eq_true,if_false,if_true,hh,Int.add_zero]
   exact ⟨by show p.at_ ++ [w64 p.y]=_; rw [a1,a2,e1],a2,with0,a4,a5,a6,fun h=>by cases h⟩
 ·have ht':k.through=false:=by simpa using ht
  cases ho:p.outside with
  | true =>
   simp only [ht',Bool.false_and,Bool.false_eq_true,if_false,if_true]
   exact ⟨by show p.at_ ++ [p.y]=_; rw [a1,a2],by show w64 (p.y+k.height)=_; rw [a2,e2],rfl,rfl,a5,a6,fun h=>by cases h⟩
  | false =>
   simp only [ht',Bool.false_and,Bool.false_eq_true,if_false,Int.add_zero]
   have e3:w64 p.y=y:=by rw [a2,e1]
   exact ⟨by show p.at_ ++ [w64 p.y]=_; rw [a1,e3],by show w64 (w64 p.y+k.height)=_; rw [e3,e2],rfl,a4,a5,a6,fun h=>by cases h⟩
theorem qon:∀ (l:List Kd) (p:Pl) (at_:List Int) (y:Int),Pl0 p at_ y->(∀ k ∈ l,Kd0 k)->0<=y->y+1099511627776 * (l.length:Int)<=4611686018427387904 ->
  ∃ z,Pl0 (l.foldl putK p) (at_ ++ offs y (l.map Kd.height)) z/\z=y+(l.map Kd.height).sum/\0<=z/\z<=y+1099511627776 * (l.length:Int)
 | [],p,at_,y,h,_,h0,_=>⟨y,by simpa [offs] using h,by simp,h0,by simp⟩
 | k :: r,p,at_,y,h,hk,h0,hy=>by
  have hk0:=hk k List.mem_cons_self
  have b3:=hk0.least
  have b4:=hk0.most
  rw [List.length_cons] at hy
  obtain ⟨z,h1,h2,h3,h4⟩:=qon r _ _ _ (putK0 h hk0 (by omega)) (fun x hx=>hk x (List.mem_cons_of_mem _ hx)) (by omega) (by omega)
  refine ⟨z,?_,by rw [h2,List.map_cons,List.sum_cons]; omega,h3,by rw [List.length_cons]; omega⟩
  rw [List.map_cons,offs,List.foldl_cons]
  simpa using h1
theorem q2w {l:List Kd} (hk:∀ k ∈ l,k.top=(0,0)/\k.bottom=(0,0)) {above below:Bool} {r:Pl} (h:q0a l above below=(r,0)) :
  r.at_=offs 0 (l.map Kd.height)/\r.height=(l.map Kd.height).sum/\r.top=(0,0)/\r.bottom=(0,0)/\(∀ y ∈ r.at_,fit y=true)/\fit r.height=true/\∀ k ∈ l,0<=k.height/\k.height<=1099511627776:=by
 unfold q0a at h
 split at h
 ·rename_i h1
  injection h with _ h
  exact absurd h h1
 rename_i h1
 split at h
 rotate_left
 ·injection h with _ h; cases h
 rename_i h2
 injection h with h _
 have hc:qlb l=0:=by simpa using h1
 unfold qlb at hc
 split at hc
 ·cases hc
 rename_i hlen
 split at hc
 ·cases hc
 rename_i hbad
 split at hc
 rotate_left
 ·cases hc
 rename_i hfit
 have hbad':l.any badK=false:=by simpa using hbad
 rw [List.any_eq_false] at hbad'
 rw [List.all_eq_true] at hfit
 have hK:∀ k ∈ l,Kd0 k:=fun k hm=>by
  have b1:=hbad' k hm
  have b2:=hfit k hm
  simp only [badK,Bool.or_eq_true,Bool.and_eq_true,decide_eq_true_eq,not_or,not_and] at b1
  simp only [fitK,Bool.and_eq_true,qpc] at b2
  refine ⟨(hk k hm).1,(hk k hm).2,by omega,b2.1.1.2,fun ht=>?_⟩
  have:=b1.1.1.2 ht
  omega
 obtain ⟨z,hP,hz,hz0,hz1⟩:=qon l (pile0 above) [] 0 ⟨rfl,rfl,rfl,rfl,rfl,rfl,fun _=>rfl⟩ hK (Int.le_refl _) (by omega)
 simp only [Bool.and_eq_true,List.all_eq_true] at h2
 rw [List.nil_append] at hP
 obtain ⟨a1,a2,a3,a4,a5,a6,a7⟩:=hP
 subst h
 refine ⟨?_,?_,?_,?_,h2.1,h2.2,fun k hm=>⟨(hK k hm).least,(hK k hm).most⟩⟩
 all_goals unfold qne endK
 ·split
  ·exact a1
  ·split
   ·exact a1
   ·exact a1
 ·rw [a3,val0]
  split
  ·rename_i ho
   show Pl.height _=_
   rw [a6]
   have:=a7 ho
   omega
  ·split
   ·show max 0 (Pl.y _)=_
    rw [a2]
    omega
   ·show max 0 (w64 _)=_
    rw [a2,qtc (by omega)]
    omega
 ·split
  ·exact a3
  ·split
   ·exact a4
   ·exact a4
 ·split
  ·exact a5
  ·split
   ·exact a3
   ·exact a5
end Go.Proofs.YtlnekijhbnlclaaGreatDoor
