/-
  Plain: the law of documents of blocks alone. No program.
-/
import Derived.Test.YtlnekijhbnlclaaGreatDoorBlocksTree
namespace Go.Proofs.YtlnekijhbnlclaaGreatDoor
theorem qun {α β:Type} {f g:α->List β}:∀ {l:List α},(∀ a ∈ l,f a=g a)->l.flatMap f=l.flatMap g
 | [],_=>rfl
 | a :: l,h=>by rw [List.flatMap_cons,List.flatMap_cons,h a List.mem_cons_self,qun fun x hx=>h x (List.mem_cons_of_mem _ hx)]
section
variable (ns:List Nd)
def atsB:Nat->BT->List Nat
 | 0,_=>[]
 | f+1,b=>b.at_ :: b.kids.flatMap fun c=>if (ndAt ns c.at_).kind=1 then [] else atsB f c
variable {ns}
theorem Tree.pos {f:Nat} {b:BT} (h:Tree ns f b):∃ g,f=g+1:=by
 cases f with
 | zero=>exact h.elim
 | succ g=>exact ⟨g,rfl⟩
theorem Tree.at_ {f:Nat} {b:BT} (h:Tree ns f b):b.at_ < ns.length/\(ndAt ns b.at_).kind=0:=by
 obtain ⟨g,rfl⟩:=h.pos
 exact h.1
theorem qih:∀ (f:Nat) (b:BT),Tree ns f b->(∀ a ∈ atsB ns f b,b.at_<=a/\a < eN ns b.at_)/\(atsB ns f b).Pairwise (· < ·)
 | 0,_,h=>h.elim
 | f+1,b,h=>by
  obtain ⟨⟨h0,_⟩,h1,h2,h3,_⟩:=h
  have hk:∀ c ∈ b.kids,c.at_ ∈ kidsN ns b.at_:=fun c hc=>h1.subset (List.mem_map.2 ⟨c,hc,rfl⟩)
  have hsub:∀ c ∈ b.kids,∀ a ∈ (if (ndAt ns c.at_).kind=1 then [] else atsB ns f c),c.at_<=a/\a < eN ns c.at_:=by
   intro c hc a ha
   split at ha
   ·cases ha
   ·rcases h3 c hc with q | q
    ·rename_i hn; exact absurd q.1 hn
    ·exact (qih f c q.2).1 a ha
  refine ⟨fun a ha=>?_,?_⟩
  ·rw [atsB] at ha
   rcases List.mem_cons.1 ha with rfl | ha
   ·exact ⟨Nat.le_refl _,by unfold eN; omega⟩
   ·obtain ⟨c,hc,ha⟩:=List.mem_flatMap.1 ha
    have h4:=hsub c hc a ha
    have h5:=qqk h0 (hk c hc)
    have h6:=((q8c h0).1 (hk c hc)).1
    omega
  ·rw [atsB,List.pairwise_cons]
   refine ⟨fun a ha=>?_,?_⟩
   ·obtain ⟨c,hc,ha⟩:=List.mem_flatMap.1 ha
    have h4:=hsub c hc a ha
    have h6:=((q8c h0).1 (hk c hc)).1
    omega
   ·rw [List.pairwise_flatMap]
    refine ⟨fun c hc=>?_,?_⟩
    ·split
     ·simp
     ·rcases h3 c hc with q | q
      ·rename_i hn; exact absurd q.1 hn
      ·exact (qih f c q.2).2
    ·have hp:(b.kids.map BT.at_).Pairwise (· < ·):=List.Pairwise.sublist h1 (qvk h0)
     rw [List.pairwise_map] at hp
     refine List.Pairwise.imp_of_mem (fun {c e} hc he hlt x hx y hy=>?_) hp
     have h4:=hsub c hc x hx
     have h5:=hsub e he y hy
     have h6:=q7m h0 (hk c hc) (hk e he) hlt
     omega
def isBox (f:Fg):Bool:=decide (f.part=0)
theorem qav {f:Nat} {c:BT} {x y:Int} (h:TextB ns c):(allL ns f c x y).filter isBox=[]:=by
 rw [List.filter_eq_nil_iff]
 intro t ht
 cases f with
 | zero=>cases ht
 | succ f =>
  unfold allL at ht
  dsimp only at ht
  rw [if_pos h.1] at ht
  obtain ⟨t',ht',rfl⟩:=List.mem_map.1 ht
  unfold isBox
  rw [decide_eq_true_eq]
  exact h.2.1 t' ht'
theorem qxl:∀ (f:Nat) (b:BT) (x y:Int),Tree ns f b->((allL ns f b x y).filter isBox).map Fg.node=(atsB ns f b).map fun a=>(ndAt ns a).key
 | 0,_,_,_,h=>h.elim
 | f+1,b,x,y,h=>by
  obtain ⟨⟨h0,h0'⟩,h1,h2,h3,_⟩:=h
  unfold allL atsB
  dsimp only
  rw [if_neg (by rw [h0']; decide),List.filter_cons_of_pos (by rfl),List.map_cons,List.map_cons]
  congr 1
  rw [List.filter_flatMap,List.map_flatMap,List.map_flatMap]
  refine qun fun c hc=>?_
  rcases h3 c hc with q | q
  ·rw [qav q,if_pos q.1]
   rfl
  ·rw [if_neg (by rw [q.1]; decide)]
   exact qxl f c _ _ q.2
end
theorem qxr {α β:Type} {g:α->β} {l:List α} (h:(l.map g).Nodup) {a b:α} (ha:a ∈ l) (hb:b ∈ l) (e:g a=g b):a=b:=by
 unfold List.Nodup at h
 rw [List.pairwise_map,List.pairwise_iff_getElem] at h
 obtain ⟨i,hi,rfl⟩:=List.getElem_of_mem ha
 obtain ⟨j,hj,rfl⟩:=List.getElem_of_mem hb
 rcases Nat.lt_trichotomy i j with hij | rfl | hij
 ·exact absurd e (h i j hi hj hij)
 ·rfl
 ·exact absurd e.symm (h j i hj hi hij)
def fg0:Fg:=⟨0,0,0,0,0,0,0,ByteArray.empty⟩
def q7a (l:List Fg) (key:Int):Fg:=(l.find? fun f=>decide (f.node=key) && isBox f).getD fg0
def ownF (ns:List Nd) (b:BT) (X Y:Int):Fg:=⟨(ndAt ns b.at_).key,0,(ndAt ns b.at_).depth,X,Y,w64 ((qha (ndAt ns b.at_).st).1+b.w),w64 ((qha (ndAt ns b.at_).st).2.1+b.h),ByteArray.empty⟩
def qze (l:List Fg) (deep:Int) (keys:Nat->Int):Int->List Nat->Option Int
 | e,[]=>some e
 | e,k :: r=>if (q7a l (keys k)).y=e/\(q7a l (keys k)).depth=deep then qze l deep keys ((q7a l (keys k)).y+(q7a l (keys k)).h) r else none
theorem qfp {s:St} (h:stOk s=true):0<=s.pT/\s.pT<=274877906944/\0<=s.bT/\s.bT<=274877906944/\0<=s.pB/\s.pB<=274877906944/\0<=s.bB/\s.bB<=274877906944:=by
 simp only [stOk,sideR,qga,Bool.and_eq_true,decide_eq_true_eq] at h
 omega
section
variable {ns:List Nd} {next:Int} (H:Blocks ns next) {flex:Lay->Lay} {w:Int} {l:List Fg}
include H
theorem Blocks.root_tree (h:qrb ns flex w=some l):∃ b,Tree ns (ns.length+1) b/\b.at_=0/\l=allL ns (ns.length+1) b 0 0/\∀ t ∈ l,fit t.x=true/\fit t.y=true/\fit t.w=true/\fit t.h=true:=by
 unfold qrb at h
 obtain ⟨f,_,h⟩:=obk h
 obtain ⟨_,_,h⟩:=obk h
 obtain ⟨b,hb,h⟩:=obk h
 have h1:=H.ok.some_
 obtain ⟨t1,t2⟩:=H.lay_tree flex _ 0 _ _ _ b.1 b.2 (by omega) H.ok.root hb
 have h2:=H.lay_at flex _ _ _ _ _ _ b.1 b.2 hb
 dsimp only at h
 split at h
 ·rename_i hf
  cases h
  refine ⟨b.1.put (qia w f.ak).1 f.top,t1.alike rfl rfl rfl,h2,rfl,fun t ht=>?_⟩
  have:=List.all_eq_true.1 hf t ht
  simp only [Bool.and_eq_true] at this
  exact ⟨this.1.1.1,this.1.1.2,this.1.2,this.2⟩
 ·cases h
theorem Blocks.uniq (h:qrb ns flex w=some l) {a b:Fg} (ha:a ∈ l) (hb:b ∈ l) (ha0:isBox a=true) (hb0:isBox b=true) (e:a.node=b.node):a=b:=by
 obtain ⟨r,h1,h2,h3,h4⟩:=H.root_tree h
 have hn:=qxl _ r 0 0 h1
 rw [<-h3] at hn
 have hd:((l.filter isBox).map Fg.node).Nodup:=by
  rw [hn]
  obtain ⟨p1,p2⟩:=qih _ r h1
  have hlt:∀ a ∈ atsB ns (ns.length+1) r,a < ns.length:=fun a ha=>Nat.lt_of_lt_of_le (p1 a ha).2 (q4b h1.at_.1).1
  unfold List.Nodup
  rw [List.pairwise_map]
  refine List.Pairwise.imp_of_mem (fun {x y} hx hy hxy e=>?_) p2
  have hk:=H.ok.keys
  have hx':=hlt x hx
  have hy':=hlt y hy
  unfold ndAt at e
  rw [List.getD_eq_getElem?_getD,List.getD_eq_getElem?_getD,List.getElem?_eq_getElem hx',List.getElem?_eq_getElem hy'] at e
  unfold List.Nodup at hk
  rw [List.pairwise_map,List.pairwise_iff_getElem] at hk
  exact hk x y hx' hy' hxy e
 exact qxr hd (List.mem_filter.2 ⟨ha,ha0⟩) (List.mem_filter.2 ⟨hb,hb0⟩) e
theorem Blocks.fragOf_eq (h:qrb ns flex w=some l) {a:Fg} (ha:a ∈ l) (ha0:isBox a=true):q7a l a.node=a:=by
 unfold q7a
 cases hf:l.find? fun f=>decide (f.node=a.node) && isBox f with
 | none =>
  have:=List.find?_eq_none.1 hf a ha
  rw [ha0] at this
  simp at this
 | some g =>
  have h1:=List.mem_of_find?_eq_some hf
  have h2:=List.find?_some hf
  simp only [Bool.and_eq_true,decide_eq_true_eq] at h2
  exact H.uniq h h1 ha h2.2 ha0 h2.1
theorem Blocks.has (h:qrb ns flex w=some l):∀ i,i < ns.length->(ndAt ns i).kind=0->∃ f b x y,Tree ns (f+1) b/\b.at_=i/\∀ t ∈ allL ns (f+1) b x y,t ∈ l:=by
 intro i
 induction i using Nat.strongRecOn with
 | _ i ih =>
  intro hi hk
  rcases Nat.eq_zero_or_pos i with rfl | hpos
  ·obtain ⟨r,h1,h2,h3,_⟩:=H.root_tree h
   exact ⟨ns.length,r,0,0,h1,h2,fun t ht=>by rw [h3]; exact ht⟩
  ·obtain ⟨p,hp,hpk,hp0⟩:=H.parent hpos hi
   obtain ⟨f,b,x,y,h1,h2,h3⟩:=ih p hp (by omega) hp0
   obtain ⟨⟨q0,q0'⟩,q1,q2,q3,q4⟩:=h1
   obtain ⟨c,hc,hca⟩:=q2 i (by rw [h2]; exact hpk) hk
   rcases q3 c hc with q | ⟨q,ht⟩
   ·have:=q.1
    rw [hca] at this
    omega
   ·obtain ⟨g,rfl⟩:=ht.pos
    refine ⟨g,c,w64 (w64 (w64 (x+b.x)+(ndAt ns b.at_).st.offX)+w64 ((ndAt ns b.at_).st.pL+(ndAt ns b.at_).st.bL)),w64 (w64 (w64 (y+b.y)+(ndAt ns b.at_).st.offY)+w64 ((ndAt ns b.at_).st.pT+(ndAt ns b.at_).st.bT)),ht,hca,fun t hm=>h3 t ?_⟩
    rw [allL]
    dsimp only
    rw [if_neg (by rw [q0']; decide)]
    exact List.mem_cons_of_mem _ (List.mem_flatMap.2 ⟨c,hc,hm⟩)
theorem Blocks.law (h:qrb ns flex w=some l) {i:Nat} (hi:i < ns.length) (hne:kidsN ns i≠[]) (hall:∀ k ∈ kidsN ns i,(ndAt ns k).kind=0) :
  let f:=q7a l (ndAt ns i).key
  qze l (f.depth+1) (fun k=>(ndAt ns k).key) (f.y+(stAt ns i).pT+(stAt ns i).bT) (kidsN ns i)=some (f.y+f.h - (stAt ns i).pB - (stAt ns i).bB):=by
 intro f
 have hk0:=H.has_kids hi hne
 obtain ⟨g,b,x,y,ht,hba,hsub⟩:=H.has h i hi hk0
 obtain ⟨r,r1,r2,r3,r4⟩:=H.root_tree h
 obtain ⟨⟨q0,q0'⟩,q1,q2,q3,q4⟩:=ht
 have hall':allL ns (g+1) b x y=ownF ns b (w64 (w64 (x+b.x)+(ndAt ns b.at_).st.offX)) (w64 (w64 (y+b.y)+(ndAt ns b.at_).st.offY)) ::
   b.kids.flatMap fun k=>allL ns g k (w64 (w64 (w64 (x+b.x)+(ndAt ns b.at_).st.offX)+w64 ((ndAt ns b.at_).st.pL+(ndAt ns b.at_).st.bL))) (w64 (w64 (w64 (y+b.y)+(ndAt ns b.at_).st.offY)+w64 ((ndAt ns b.at_).st.pT+(ndAt ns b.at_).st.bT))):=by
  rw [allL]
  dsimp only
  rw [if_neg (by rw [q0']; decide)]
  rfl
 obtain ⟨X,hX⟩:∃ X,X=w64 (w64 (x+b.x)+(ndAt ns b.at_).st.offX):=⟨_,rfl⟩
 obtain ⟨Y,hY⟩:∃ Y,Y=w64 (w64 (y+b.y)+(ndAt ns b.at_).st.offY):=⟨_,rfl⟩
 rw [<-hX,<-hY] at hall'
 have hown:ownF ns b X Y ∈ l:=hsub _ (by rw [hall']; exact List.mem_cons_self)
 have hf:f=ownF ns b X Y:=by
  have:=H.fragOf_eq h hown rfl
  rw [<-this]
  show q7a l (ndAt ns i).key=q7a l (ndAt ns b.at_).key
  rw [hba]
 obtain ⟨d1,d2,d3,d4,d5⟩:=q4 (by rw [hba]; exact hne) (by rw [hba]; exact hall)
 have hok:stOk (stAt ns b.at_)=true:=H.ok.st_at _
 have hbd:=qfp hok
 have hfitY:=(qpc _).1 (r4 _ hown).2.1
 have hfitH:=(qpc _).1 d5
 have hed:(qha (ndAt ns b.at_).st).2.1=upR (stAt ns b.at_):=by
  show (qha (stAt ns b.at_)).2.1=_
  unfold qha
  rw [if_pos hok]
 have hYe:(ownF ns b X Y).y=Y:=rfl
 rw [hYe] at hfitY
 have hcy:w64 (Y+w64 ((ndAt ns b.at_).st.pT+(ndAt ns b.at_).st.bT))=Y+(stAt ns b.at_).pT+(stAt ns b.at_).bT:=by
  have e1:(ndAt ns b.at_).st=stAt ns b.at_:=rfl
  rw [e1,qtc (n:=(stAt ns b.at_).pT+(stAt ns b.at_).bT) (by omega),qtc (by omega)]
  omega
 have hHe:(ownF ns b X Y).h=upR (stAt ns b.at_)+b.h:=by
  show w64 ((qha (ndAt ns b.at_).st).2.1+b.h)=_
  rw [hed]
  unfold upR
  exact qtc (by omega)
 have hkid:∀ c ∈ b.kids,(q7a l (ndAt ns c.at_).key).y=Y+(stAt ns b.at_).pT+(stAt ns b.at_).bT+c.y/\(q7a l (ndAt ns c.at_).key).depth=(ndAt ns b.at_).depth+1/\(q7a l (ndAt ns c.at_).key).h=tallB ns c:=by
  intro c hc
  have hcm:c.at_ ∈ kidsN ns b.at_:=q1.subset (List.mem_map.2 ⟨c,hc,rfl⟩)
  rcases q3 c hc with q | ⟨q,ht⟩
  ·have h1:=hall c.at_ (by rw [<-hba]; exact hcm)
   have h2:=q.1
   omega
  ·obtain ⟨g',rfl⟩:=ht.pos
   have hmem:∀ t ∈ allL ns (g'+1) c (w64 (X+w64 ((ndAt ns b.at_).st.pL+(ndAt ns b.at_).st.bL))) (w64 (Y+w64 ((ndAt ns b.at_).st.pT+(ndAt ns b.at_).st.bT))),t ∈ l:=fun t hm=>hsub t (by
    rw [hall']
    exact List.mem_cons_of_mem _ (List.mem_flatMap.2 ⟨c,hc,hm⟩))
   rw [hcy] at hmem
   obtain ⟨XX,hXX⟩:∃ XX,XX=w64 (X+w64 ((ndAt ns b.at_).st.pL+(ndAt ns b.at_).st.bL)):=⟨_,rfl⟩
   rw [<-hXX] at hmem
   have hcown:ownF ns c (w64 (w64 (XX+c.x)+(ndAt ns c.at_).st.offX)) (w64 (w64 (Y+(stAt ns b.at_).pT+(stAt ns b.at_).bT+c.y)+(ndAt ns c.at_).st.offY)) ∈ l:=hmem _ (by
    rw [allL]
    dsimp only
    rw [if_neg (by rw [q]; decide)]
    exact List.mem_cons_self)
   have he:=H.fragOf_eq h hcown rfl
   have he:q7a l (ndAt ns c.at_).key=_:=he
   rw [he]
   have hcf:=(qpc _).1 (d4 c hc).1
   refine ⟨?_,((q8c q0).1 hcm).2.2,?_⟩
   ·show w64 (w64 _+(stAt ns c.at_).offY)=_
    rw [H.offY,Int.add_zero,qtc (n:=Y+(stAt ns b.at_).pT+(stAt ns b.at_).bT+c.y) (by omega),qtc (by omega)]
   ·show w64 ((qha (stAt ns c.at_)).2.1+c.h)=tallB ns c
    have hs:stOk (stAt ns c.at_)=true:=H.ok.st_at c.at_
    unfold qha
    rw [if_pos hs]
    rfl
 have hgo:∀ (cs:List BT) (e:Int),(∀ c ∈ cs,c ∈ b.kids)->cs.map BT.y=offs e (cs.map (tallB ns)) ->
   qze l (f.depth+1) (fun k=>(ndAt ns k).key) (Y+(stAt ns b.at_).pT+(stAt ns b.at_).bT+e) (cs.map BT.at_)=some (Y+(stAt ns b.at_).pT+(stAt ns b.at_).bT+e+(cs.map (tallB ns)).sum):=by
  intro cs
  induction cs with
  | nil=>intro e _ _; simp [qze]
  | cons c cs ih =>
   intro e hm hy
   rw [List.map_cons,List.map_cons,offs] at hy
   injection hy with hy1 hy2
   obtain ⟨k1,k2,k3⟩:=hkid c (hm c List.mem_cons_self)
   rw [List.map_cons,qze,if_pos ⟨by rw [k1,hy1],by rw [k2,hf]; rfl⟩,k1,k3,hy1,show Y+(stAt ns b.at_).pT+(stAt ns b.at_).bT+e+tallB ns c=Y+(stAt ns b.at_).pT+(stAt ns b.at_).bT+(e+tallB ns c) by omega,ih _ (fun z hz=>hm z (List.mem_cons_of_mem _ hz)) hy2,List.map_cons,List.sum_cons]
   congr 1
   omega
 have:=hgo b.kids 0 (fun c hc=>hc) d2
 rw [d1,hba,Int.add_zero] at this
 rw [hf] at this ⊢
 rw [hHe,hba]
 show qze l _ _ (Y+_+_) _=some (Y+_ - _ - _)
 rw [this,<-d3]
 congr 1
 unfold upR
 omega
end
end Go.Proofs.YtlnekijhbnlclaaGreatDoor
