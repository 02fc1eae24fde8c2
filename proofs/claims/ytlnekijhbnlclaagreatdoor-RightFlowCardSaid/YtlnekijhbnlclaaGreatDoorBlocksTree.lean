/-
  Plain: documents of blocks alone, laid out: every box stands in the tree, each below the one ahead of it. No program.
-/
import Derived.Test.YtlnekijhbnlclaaGreatDoorBlocksLay
namespace Go.Proofs.YtlnekijhbnlclaaGreatDoor
section
variable {ns:List Nd} {next:Int} (H:Blocks ns next)
include H
theorem Blocks.frames {k:Nat} {w:Int} {f:Fm} (h:q3a ns k w=some f):f.top=0/\f.bottom=0/\f.up=upR (stAt ns k):=by
 unfold q3a at h
 obtain ⟨_,_,h⟩:=obk h
 obtain ⟨_,_,h⟩:=obk h
 obtain ⟨_,_,h⟩:=obk h
 obtain ⟨_,_,h⟩:=obk h
 cases h
 have hs:stOk (stAt ns k)=true:=H.ok.st_at k
 refine ⟨?_,?_,?_⟩
 ·show (qsa (stAt ns k).mT w).1=0
  rw [H.mT k]
  rfl
 ·show (qsa (stAt ns k).mB w).1=0
  rw [H.mB k]
  rfl
 ·show (qha (stAt ns k)).2.1=_
  unfold qha
  rw [if_pos hs]
theorem Blocks.height {i:Nat} {c h:Int} (hk:kidsN ns i≠[]) (hh:qnb ns i c (-1)=some h) (hc:0<=c/\c<=1099511627776):h=c:=by
 obtain ⟨t1,t2,t3⟩:=H.tall i hk
 have hs:stOk (stAt ns i)=true:=H.ok.st_at i
 have e1:qtb (stAt ns i)=(0,false,0):=by
  unfold qtb
  rw [if_pos hs,t1]
  rfl
 have e2:qfb (stAt ns i)=(0,1099511627776,0):=by
  unfold qfb
  rw [if_pos hs,t2,t3]
  rfl
 have e3:qgc ns i (-1)=some none:=by
  unfold qgc
  rw [if_neg (by decide),e1]
  rfl
 unfold qnb at hh
 rw [e3] at hh
 have hh:qkc ns i c=some h:=hh
 unfold qkc at hh
 rw [e2] at hh
 have hh:some (q7b c 0 1099511627776)=some h:=hh
 injection hh with hh
 rw [<-hh]
 unfold q7b
 omega
variable (flex:Lay->Lay)
theorem Blocks.lay_at:∀ f i font w by_ ap b t,layOf ns flex f i font w by_ ap=some (b,t)->b.at_=i
 | 0,_,_,_,_,_,_,_,h=>by cases h
 | f+1,i,font,w,by_,ap,b,t,h=>by
  unfold layOf at h
  dsimp only at h
  rw [if_neg (by rw [H.disp i]; decide)] at h
  unfold flowL at h
  obtain ⟨m,_,h⟩:=obk h
  obtain ⟨_,_,h⟩:=obk h
  obtain ⟨_,_,h⟩:=obk h
  cases h
  rfl
theorem Blocks.lay_tree:∀ f i font w ap b t,i < ns.length->(ndAt ns i).kind=0->layOf ns flex f i font w (-1) ap=some (b,t)->Tree ns f b/\t.top=(0,0)/\t.bottom=(0,0)/\b.y=0
 | 0,_,_,_,_,_,_,_,_,h=>by cases h
 | f+1,i,font,w,ap,b,t,hi,hkd,h=>by
  have ih:=Blocks.lay_tree f
  have hat:=Blocks.lay_at H flex (f+1) _ _ _ _ _ _ _ h
  unfold layOf at h
  dsimp only at h
  rw [if_neg (by rw [H.disp i]; decide)] at h
  unfold flowL at h
  obtain ⟨m,hm,h⟩:=obk h
  obtain ⟨_,hst,h⟩:=obk h
  obtain ⟨hh,hht,h⟩:=obk h
  have hkl:∀ k ∈ kidsN ns i,k < ns.length:=fun k hk=>(q1n hk).2
  have hgk:∀ g ∈ q2b ns i,(g.2=true->∀ k ∈ g.1,(ndAt ns k).kind=1)/\(g.2=false->∃ k,g.1=[k]/\(ndAt ns k).kind=0):=by
   intro g hg
   obtain ⟨g1,g2⟩:=qqi _ _ g hg
   have hfl:=qpf (ns:=ns) _ (kidsN ns i) (Nat.le_refl _)
   have hmem:∀ k ∈ g.1,k ∈ kidsN ns i:=fun k hk=>by
    rw [<-hfl]
    exact List.mem_flatMap.2 ⟨g,hg,hk⟩
   refine ⟨fun e k hk=>?_,fun e=>?_⟩
   ·have:=g1 e k hk
    rw [H.inside] at this
    exact of_decide_eq_true this
   ·obtain ⟨k,hk,hin⟩:=g2 e
    refine ⟨k,hk,?_⟩
    rw [H.inside] at hin
    have h1:=of_decide_eq_false hin
    have h2:=(H.ok.at_ (hkl k (hmem k (by rw [hk]; simp)))).kind
    omega
  obtain ⟨es,e1,e2,e3,e4⟩:=qum (Blocks.lay_at H flex f) (q2b ns i) [] m hgk hm
  rw [List.nil_append] at e1
  subst e1
  have hfl:(q2b ns i).flatMap (·.1)=kidsN ns i:=qpf _ _ (Nat.le_refl _)
  rw [hfl] at e2
  have h0:∀ e ∈ m,e.1.top=(0,0)/\e.1.bottom=(0,0):=by
   refine qlj (fun m:List (Kd×List BT)=>∀ e ∈ m,e.1.top=(0,0)/\e.1.bottom=(0,0)) _ _ _ hm (fun e he=>by cases he) ?_
   intro m1 g m2 hg hI hs
   obtain ⟨g1,g2⟩:=hgk g hg
   unfold q1a at hs
   split at hs
   ·obtain ⟨r,_,hs⟩:=obk hs
    cases hs
    split
    ·intro e he
     rcases List.mem_append.1 he with he | he
     ·exact hI e he
     ·rw [List.mem_singleton.1 he]
      exact ⟨rfl,rfl⟩
    ·exact hI
   ·rename_i hgf
    obtain ⟨k,hk,hkd0⟩:=g2 (by simpa using hgf)
    obtain ⟨fm,hfm,hs⟩:=obk hs
    obtain ⟨_,_,hs⟩:=obk hs
    obtain ⟨c,hc,hs⟩:=obk hs
    cases hs
    have hkm:k ∈ kidsN ns i:=by
     rw [<-hfl]
     exact List.mem_flatMap.2 ⟨g,hg,by rw [hk]; simp⟩
    rw [hk] at hfm hc
    obtain ⟨f1,f2,f3⟩:=H.frames hfm
    obtain ⟨_,t1,t2,_⟩:=ih k _ _ _ c.1 c.2 (hkl k hkm) hkd0 hc
    intro e he
    rcases List.mem_append.1 he with he | he
    ·exact hI e he
    ·rw [List.mem_singleton.1 he]
     refine ⟨?_,?_⟩
     ·show withM (oneM fm.top) c.2.top=_
      rw [f1,t1]; decide
     ·show withM (oneM fm.bottom) c.2.bottom=_
      rw [f2,t2]; decide
  obtain ⟨r,hr⟩:∃ r,q0a (m.map (·.1)) (openL ns i ap).1 (openL ns i ap).2=r:=⟨_,rfl⟩
  rw [hr] at hst hht h
  obtain ⟨P,e0⟩:=r
  have he0:e0=0:=by
   unfold must at hst
   split at hst
   ·assumption
   ·cases hst
  subst he0
  obtain ⟨s1,s2,s3,s4,s5,s6,s7⟩:=q2w (fun k hk=>by
   obtain ⟨e,he,rfl⟩:=List.mem_map.1 hk
   exact h0 e he) hr
  have hal:P.at_.length=m.length:=by rw [s1,qfk,List.length_map,List.length_map]
  injection h with h
  injection h with hb ht
  have hkids:b.kids=(m.zip P.at_).flatMap (fun g=>g.1.2.map (downB g.2)):=by rw [<-hb]; rfl
  have hbh:b.h=hh:=by rw [<-hb]; rfl
  have hby:b.y=0:=by rw [<-hb]; rfl
  have hbat:b.at_=i:=hat
  refine ⟨?_,by rw [<-ht]; exact s3,by rw [<-ht]; exact s4,hby⟩
  have hmk:∀ c ∈ b.kids,KidB ns (layOf ns flex f) (fontR (stAt ns i) font) c:=by
   intro c hc
   rw [hkids] at hc
   obtain ⟨c0,hc0,y,rfl⟩:=qgu c hc
   rcases e4 c0 hc0 with ⟨q1,q2⟩ | ⟨q1,n,b0,t0,q2,q3,q4⟩
   ·refine .inl ⟨q1,fun t ht=>?_,?_⟩
    ·obtain ⟨t',ht',rfl⟩:=List.mem_map.1 ht
     exact q2.1 t' ht'
    ·show (c0.text.map _).length<=_
     rw [List.length_map]
     exact q2.2
   ·exact .inr ⟨q1,n,b0,t0,q2,q3,q4⟩
  refine ⟨by rw [hbat]; exact ⟨hi,hkd⟩,?_,?_,fun c hc=>?_,?_⟩
  ·rw [hkids,q4h hal,hbat]
   exact e2
  ·intro k hk hk0
   rw [hbat] at hk
   have hg:∃ g ∈ q2b ns i,k ∈ g.1:=by
    rw [<-hfl] at hk
    obtain ⟨g,hg,hk⟩:=List.mem_flatMap.1 hk
    exact ⟨g,hg,hk⟩
   obtain ⟨g,hg,hkg⟩:=hg
   obtain ⟨g1,g2⟩:=hgk g hg
   cases hg2:g.2 with
   | true =>
    have:=g1 hg2 k hkg
    omega
   | false =>
    obtain ⟨k',hk',_⟩:=g2 hg2
    obtain ⟨c,hc,hca⟩:=e3 g hg hg2
    rw [hk'] at hca hkg
    rw [List.mem_singleton.1 hkg]
    obtain ⟨y,hy⟩:=qmo hal hc
    exact ⟨downB y c,by rw [hkids]; exact hy,hca⟩
  ·rcases hmk c hc with q | ⟨q1,n,b0,t0,q2,q3,q4⟩
   ·exact .inl q
   ·have hcl:c.at_ < ns.length:=by
     have:c.at_ ∈ b.kids.map BT.at_:=List.mem_map.2 ⟨c,hc,rfl⟩
     rw [hkids,q4h hal] at this
     exact hkl _ (e2.subset this)
    exact .inr ⟨q1,(ih _ _ _ _ _ _ hcl q1 q2).1.alike (Blocks.lay_at H flex f _ _ _ _ _ _ _ q2).symm q3 q4⟩
  ·intro hne hall
   rw [hbat] at hne hall ⊢
   have hgs:q2b ns i=(kidsN ns i).map fun k=>([k],false):=qyl _ _ (Nat.le_refl _) fun k hk=>by
    rw [H.inside,hall k hk]
    decide
   rw [hgs] at hm
   obtain ⟨m',p1,p2,p3⟩:=qoj (kidsN ns i) [] m hm
   rw [List.nil_append] at p1
   subst p1
   have hone:∀ j (hj:j < m.length),∃ c:BT,m[j].2=[c]/\c.at_=(kidsN ns i)[j]'(by omega)/\m[j].1.height=w64 (upR (stAt ns c.at_)+c.h)/\c.y=0:=by
    intro j hj
    obtain ⟨c,t1,sl,n,fm,k1,k2,k3⟩:=p3 j (by omega) hj
    have hkm:(kidsN ns i)[j]'(by omega) ∈ kidsN ns i:=List.getElem_mem _
    have hca:=Blocks.lay_at H flex f _ _ _ _ _ _ _ k2
    obtain ⟨f1,f2,f3⟩:=H.frames k1
    obtain ⟨_,_,_,hcy⟩:=ih _ _ _ _ _ _ (hkl _ hkm) (hall _ hkm) k2
    refine ⟨c.put sl c.y,by rw [k3],hca,?_,hcy⟩
    rw [k3]
    show w64 (fm.up+c.h)=w64 (upR (stAt ns c.at_)+c.h)
    rw [f3,hca]
   obtain ⟨bs,hbs⟩:∃ bs:List BT,bs.length=m.length/\∀ j (hj:j < m.length) (h2:j < bs.length),m[j].2=[bs[j]]/\bs[j].at_=(kidsN ns i)[j]'(by omega)/\m[j].1.height=w64 (upR (stAt ns bs[j].at_)+bs[j].h)/\bs[j].y=0:=by
    refine ⟨m.map fun e=>e.2.headD (.mk 0 0 0 0 0 [] []),by simp,fun j hj h2=>?_⟩
    obtain ⟨c,c1,c2,c3,c4⟩:=hone j hj
    have:(m.map fun e=>e.2.headD (.mk 0 0 0 0 0 [] []))[j]'h2=c:=by
     rw [List.getElem_map,c1]
     rfl
    rw [this]
    exact ⟨c1,c2,c3,c4⟩
   obtain ⟨hbl,hbs⟩:=hbs
   have hk2:b.kids=(bs.zip P.at_).map fun g=>downB g.2 g.1:=by
    rw [hkids]
    exact q4k BT.at_ hal hbl fun j hj h2=>(hbs j hj h2).1
   have hkl2:b.kids.length=m.length:=by rw [hk2,List.length_map,List.length_zip]; omega
   have hkj:∀ j (hj:j < m.length),b.kids[j]'(by omega)=downB (P.at_[j]'(by omega)) (bs[j]'(by omega)):=fun j hj=>by
    have:b.kids[j]'(by omega)=((bs.zip P.at_).map fun g=>downB g.2 g.1)[j]'(by rw [List.length_map,List.length_zip]; omega):=by congr 1
    rw [this,List.getElem_map,List.getElem_zip]
   have htall:b.kids.map (tallB ns)=m.map (·.1.height):=by
    refine List.ext_getElem (by simp [hkl2]) fun j h1 h2=>?_
    rw [List.getElem_map,List.getElem_map]
    rw [List.length_map] at h2
    rw [hkj j h2,(hbs j h2 (by omega)).2.2.1]
    rfl
   have hheights:(m.map (·.1)).map Kd.height=m.map (·.1.height):=by rw [List.map_map]; rfl
   have hP:P.at_=offs 0 (b.kids.map (tallB ns)):=by rw [s1,htall,hheights]
   have hsum:P.height=(b.kids.map (tallB ns)).sum:=by rw [s2,htall,hheights]
   have hfitH:=(qpc _).1 s6
   have hnn:∀ c ∈ b.kids,0<=tallB ns c/\tallB ns c<=1099511627776:=fun c hc=>by
    have:tallB ns c ∈ b.kids.map (tallB ns):=List.mem_map.2 ⟨c,hc,rfl⟩
    rw [htall,<-hheights] at this
    obtain ⟨k,hk,e⟩:=List.mem_map.1 this
    rw [<-e]
    exact s7 k hk
   have hsn:0<=P.height:=by
    rw [hsum]
    have:∀ l:List BT,(∀ c ∈ l,0<=tallB ns c)->0<=(l.map (tallB ns)).sum:=by
     intro l
     induction l with
     | nil=>intro _; simp
     | cons c l ih =>
      intro hl
      have h1:=hl c List.mem_cons_self
      have h2:=ih fun c hc=>hl c (List.mem_cons_of_mem _ hc)
      rw [List.map_cons,List.sum_cons]
      omega
    exact this _ fun c hc=>(hnn c hc).1
   have hhe:hh=P.height:=H.height hne hht ⟨hsn,hfitH.2⟩
   have hyj:∀ j (hj:j < m.length),(b.kids[j]'(by omega)).y=P.at_[j]'(by omega):=fun j hj=>by
    rw [hkj j hj]
    show w64 ((bs[j]'(by omega)).y+_)=_
    rw [(hbs j hj (by omega)).2.2.2,Int.zero_add]
    have:=(qpc _).1 (s5 (P.at_[j]'(by omega)) (List.getElem_mem _))
    exact qtc (by omega)
   refine ⟨?_,?_,by rw [hbh,hhe,hsum],fun c hc=>⟨?_,hnn c hc⟩,by rw [hbh,hhe]; exact s6⟩
   ·refine List.ext_getElem (by rw [List.length_map,hkl2]; omega) fun j h1 h2=>?_
    rw [List.getElem_map]
    rw [List.length_map,hkl2] at h1
    rw [hkj j h1]
    exact (hbs j h1 (by omega)).2.1
   ·rw [<-hP]
    refine List.ext_getElem (by rw [List.length_map,hkl2]; omega) fun j h1 h2=>?_
    rw [List.getElem_map]
    rw [List.length_map,hkl2] at h1
    exact hyj j h1
   ·obtain ⟨j,hj,rfl⟩:=List.getElem_of_mem hc
    rw [hkl2] at hj
    rw [hyj j hj]
    exact s5 _ (List.getElem_mem _)
end
end Go.Proofs.YtlnekijhbnlclaaGreatDoor
