/-
  Plain: documents of blocks alone, laid out: the tree of boxes. No program.
-/
import Derived.Test.YtlnekijhbnlclaaGreatDoorBlocksPlain
namespace Go.Proofs.YtlnekijhbnlclaaGreatDoor
theorem qyl {ns:List Nd}:∀ (f:Nat) (l:List Nat),l.length<=f->(∀ k ∈ l,qfa ns k=false)->q6a ns f l=l.map fun k=>([k],false)
 | f,[],_,_=>by cases f <;> rfl
 | f+1,k :: l,hl,hk=>by
  rw [q6a,if_neg (by rw [hk k List.mem_cons_self]; simp),List.map_cons,qyl f l (by simpa using hl) fun x hx=>hk x (List.mem_cons_of_mem _ hx)]
theorem qpf {ns:List Nd}:∀ (f:Nat) (l:List Nat),l.length<=f->(q6a ns f l).flatMap (·.1)=l
 | f,[],_=>by cases f <;> rfl
 | f+1,k :: l,hl=>by
  rw [q6a]
  split
  ·have h1:(l.dropWhile (qfa ns)).length<=l.length:=(List.dropWhile_suffix _).length_le
   rw [List.flatMap_cons,qpf f _ (by simp at hl; omega),List.cons_append,List.takeWhile_append_dropWhile]
  ·rw [List.flatMap_cons,qpf f l (by simpa using hl)]
   rfl
theorem qqi {ns:List Nd}:∀ (f:Nat) (l:List Nat) (g:List Nat×Bool),g ∈ q6a ns f l->(g.2=true->∀ k ∈ g.1,qfa ns k=true)/\(g.2=false->∃ k,g.1=[k]/\qfa ns k=false)
 | 0,_,_,h=>by cases h
 | f+1,[],_,h=>by cases h
 | f+1,k :: l,g,h=>by
  rw [q6a] at h
  split at h
  ·rename_i hin
   rcases List.mem_cons.1 h with rfl | h
   ·refine ⟨fun _ x hx=>?_,fun e=>by cases e⟩
    rcases List.mem_cons.1 hx with rfl | hx
    ·exact hin
    ·exact (List.all_eq_true.1 (List.all_takeWhile (l:=l) (p:=qfa ns))) x hx
   ·exact qqi f _ g h
  ·rename_i hn
   rcases List.mem_cons.1 h with rfl | h
   ·exact ⟨fun e=>(by cases e),fun _=>⟨k,rfl,by simpa using hn⟩⟩
   ·exact qqi f _ g h
section
variable (ns:List Nd)
def TextB (b:BT):Prop:=(ndAt ns b.at_).kind=1/\(∀ t ∈ b.text,t.part≠0)/\b.text.length<=4196352
def RunX (n:Nat) (m:Bx):Prop:=∀ k b,getX m k=some b->b.at_=k/\(∀ t ∈ b.text,t.part≠0)/\b.text.length<=n
variable {ns}
theorem q5w {t:List Fg} {w:Int} {s:ByteArray}:(qsc t w s).length=t.length:=by
 unfold qsc
 cases hg:t.getLast? with
 | none=>rfl
 | some g =>
  have:t≠[]:=by rintro rfl; cases hg
  have:=List.length_pos_iff.2 this
  simp
  omega
theorem qzp {t:List Fg} {w:Int} {s:ByteArray} (h:∀ f ∈ t,f.part≠0):∀ f ∈ qsc t w s,f.part≠0:=by
 intro f hf
 unfold qsc at hf
 cases hg:t.getLast? with
 | none=>rw [hg] at hf; exact h f hf
 | some g =>
  rw [hg] at hf
  rcases List.mem_append.1 hf with hf | hf
  ·exact h f (List.dropLast_subset _ hf)
  ·rw [List.mem_singleton.1 hf]
   exact h g (List.mem_of_getLast? hg)
theorem qrp {m:Bx} {k i:Nat} {b c:BT} (h:getX (putX m k b) i=some c):(i=k/\c=b)\/getX m i=some c:=by
 unfold getX putX at h
 rw [List.find?_cons] at h
 by_cases e:k=i
 ·subst e
  simp at h
  exact .inl ⟨rfl,h.symm⟩
 ·rw [show (k == i)=false by simpa using e] at h
  exact .inr h
theorem qcp {n:Nat} {y tall:Int} {m:Bx×Int} {x:Pie×Int×Int} (hm:RunX n m.1) (hx:x.1.box=none):RunX (n+1) (q9b ns y tall m x).1:=by
 intro i b h
 unfold q9b at h
 rw [hx] at h
 rcases qrp h with ⟨rfl,rfl⟩ | h
 ·obtain ⟨c,hc⟩:∃ c,c=(getX m.1 x.1.at_).getD (.mk x.1.at_ 0 0 0 0 [] []):=⟨_,rfl⟩
  have hg:c.at_=x.1.at_/\(∀ t ∈ c.text,t.part≠0)/\c.text.length<=n:=by
   cases hq:getX m.1 x.1.at_ with
   | none=>rw [hq] at hc; subst hc; exact ⟨rfl,(fun f hf=>by cases hf),Nat.zero_le _⟩
   | some c'=>rw [hq] at hc; subst hc; exact hm _ _ hq
  rw [<-hc]
  refine ⟨hg.1,qzp fun f hf=>?_,?_⟩
  ·split at hf
   ·exact hg.2.1 f hf
   ·rcases List.mem_append.1 hf with hf | hf
    ·exact hg.2.1 f hf
    ·rw [List.mem_singleton.1 hf]
     show (c.text.length:Int)+1≠0
     omega
  ·show (qsc _ _ _).length<=n+1
   rw [q5w]
   have:=hg.2.2
   split
   ·omega
   ·rw [List.length_append,List.length_singleton]
    omega
 ·obtain ⟨h1,h2,h3⟩:=hm i b h
  exact ⟨h1,h2,by omega⟩
theorem qgk {y tall:Int}:∀ (l:List (Pie×Int×Int)) (n:Nat) (m:Bx×Int),RunX n m.1->(∀ x ∈ l,x.1.box=none)->RunX (n+l.length) (l.foldl (q9b ns y tall) m).1
 | [],_,_,hm,_=>hm
 | x :: l,n,m,hm,hp=>by
  have h:=qgk (y:=y) (tall:=tall) l (n+1) _ (qcp (ns:=ns) (y:=y) (tall:=tall) hm (hp x List.mem_cons_self)) fun z hz=>hp z (List.mem_cons_of_mem _ hz)
  rw [List.foldl_cons,List.length_cons,show n+(l.length+1)=n+1+l.length by omega]
  exact h
theorem RunX.mono {n k:Nat} {m:Bx} (h:RunX n m) (hn:n<=k):RunX k m:=fun i b hb=>by
 obtain ⟨h1,h2,h3⟩:=h i b hb
 exact ⟨h1,h2,by omega⟩
theorem qhj {α β:Type} {f:β->α->Option β} (P:Nat->β->Prop) (K:Nat) (hs:∀ n b a b',P n b->f b a=some b'->P (n+K) b'):∀ (l:List α) (n:Nat) (b b':β),l.foldlM f b=some b'->P n b->P (n+l.length * K) b'
 | [],n,b,b',h,hp=>by cases h; simpa using hp
 | a :: l,n,b,b',h,hp=>by
  rw [List.foldlM_cons] at h
  obtain ⟨b1,h1,h2⟩:=obk h
  have h3:=qhj P K hs l (n+K) b1 b' h2 (hs n b a b1 hp h1)
  rw [List.length_cons,Nat.succ_mul,show n+(l.length * K+K)=n+K+l.length * K by omega]
  exact h3
theorem q6g (l:List Im) (w:Int):∀ (f a:Nat),(qdc l w f a).length<=f
 | 0,a=>Nat.le_refl _
 | f+1,a=>by
  unfold qdc
  dsimp only
  split
  ·rw [List.length_cons]
   have:=q6g l w f (pass1 l 2 (passK l 1 (qmb l w (passK l 1 a) (l.length+1 - passK l 1 a) (passK l 1 a) 0 (passK l 1 a)).1))
   omega
  ·split
   ·rw [List.length_cons]
    have:=q6g l w f (pass1 l 2 (qmb l w (passK l 1 a) (l.length+1 - passK l 1 a) (passK l 1 a) 0 (passK l 1 a)).1)
    omega
   ·simp
theorem q4o {l:List Im} {w:Int} (h:(fillL l w).2=0):l.length<=2048/\(fillL l w).1.length<=l.length+1:=by
 unfold fillL at h ⊢
 split at h
 ·cases h
 ·rename_i h0
  refine ⟨by omega,?_⟩
  rw [if_neg h0]
  split
  ·simp
  ·split
   ·simp
   ·split
    ·exact q6g _ _ _ _
    ·simp
theorem qhp {e:Int} {u:Unit} (h:must e=some u):e=0:=by
 unfold must at h
 split at h
 ·assumption
 ·cases h
theorem q2h {α β:Type} {f:α->Option β}:∀ {l:List α} {l':List β},l.mapM f=some l'->∀ y ∈ l',∃ x ∈ l,f x=some y
 | [],l',h,y,hy=>by
  rw [List.mapM_nil] at h
  cases h
  cases hy
 | a :: l,l',h,y,hy=>by
  rw [List.mapM_cons] at h
  obtain ⟨b,h1,h2⟩:=obk h
  obtain ⟨bs,h3,h4⟩:=obk h2
  cases h4
  rcases List.mem_cons.1 hy with rfl | hy
  ·exact ⟨a,List.mem_cons_self,h1⟩
  ·obtain ⟨x,hx,e⟩:=q2h h3 y hy
   exact ⟨x,List.mem_cons_of_mem _ hx,e⟩
theorem qlj {α β:Type} {f:β->α->Option β} (P:β->Prop):∀ (l:List α) (b b':β),l.foldlM f b=some b'->P b->(∀ b a b',a ∈ l->P b->f b a=some b'->P b')->P b'
 | [],b,b',h,hp,_=>by cases h; exact hp
 | a :: l,b,b',h,hp,hs=>by
  rw [List.foldlM_cons] at h
  obtain ⟨b1,h1,h2⟩:=obk h
  exact qlj P l b1 b' h2 (hs b a b1 List.mem_cons_self hp h1) fun b a b' ha=>hs b a b' (List.mem_cons_of_mem _ ha)
theorem q7g {n:Nat} {m:Bx} (hg:RunX n m):∀ l:List Nat,((l.filterMap (getX m)).map BT.at_).Sublist l
 | []=>by simp
 | k :: l=>by
  rw [List.filterMap_cons]
  cases hq:getX m k with
  | none=>exact (q7g hg l).cons k
  | some b =>
   rw [List.map_cons,(hg k b hq).1]
   exact (q7g hg l).cons_cons k
theorem qax {lay:Lay} {l:List Nat} {i:Nat} {font w:Int} {r:List BT×Int×Bool} (hk:∀ k ∈ l,(ndAt ns k).kind=1) (h:runL ns lay l i font w=some r):(r.1.map BT.at_).Sublist l/\∀ b ∈ r.1,TextB ns b:=by
 unfold runL at h
 obtain ⟨more,hmore,h⟩:=obk h
 obtain ⟨_,hfl,h⟩:=obk h
 obtain ⟨_,_,h⟩:=obk h
 obtain ⟨_,_,h⟩:=obk h
 obtain ⟨x,hx,h⟩:=obk h
 cases h
 obtain ⟨hl1,hl2⟩:=q4o (qhp hfl)
 rw [List.length_map] at hl1 hl2
 have hp:∀ p ∈ more.flatten,p.box=none:=by
  intro p hp
  obtain ⟨ps,hps,hp⟩:=List.mem_flatten.1 hp
  obtain ⟨k,hkm,hk'⟩:=q2h hmore ps hps
  rw [if_neg (by rw [hk k hkm]; decide)] at hk'
  unfold cutL at hk'
  obtain ⟨_,_,hk'⟩:=obk hk'
  obtain ⟨_,_,hk'⟩:=obk hk'
  obtain ⟨z,_,hz⟩:=q2h hk' p hp
  obtain ⟨_,_,hz⟩:=obk hz
  cases hz
  rfl
 have hg:RunX 4196352 x.1:=by
  refine RunX.mono (qhj (fun n (m:Bx×Int)=>RunX n m.1) 2048 (fun n m row m' hm hr=>?_) _ 0 _ _ hx (fun i b h=>by cases h)) ?_
  ·unfold rowU at hr
   obtain ⟨_,_,hr⟩:=obk hr
   cases hr
   refine RunX.mono (qgk _ n _ hm fun z hz=>hp _ ?_) ?_
   ·have:=(List.of_mem_zip (show (z.1,z.2) ∈ _ from hz)).1
    exact List.mem_of_mem_drop (List.mem_of_mem_take this)
   ·rw [List.length_zip,List.length_take,List.length_drop]
    omega
  ·rw [Nat.zero_add]
   refine Nat.le_trans (Nat.mul_le_mul_right 2048 hl2) ?_
   have:=Nat.mul_le_mul_right 2048 (show more.flatten.length+1<=2049 by omega)
   omega
 refine ⟨q7g hg l,fun b hb=>?_⟩
 obtain ⟨k,hkl,hb⟩:=List.mem_filterMap.1 hb
 obtain ⟨h1,h2⟩:=hg k b hb
 exact ⟨by rw [h1]; exact hk k hkl,h2⟩
def KidB (ns:List Nd) (lay:Lay) (font:Int) (b:BT):Prop :=
 TextB ns b\/((ndAt ns b.at_).kind=0/\∃ n b0 t,lay b.at_ font n (-1) false=some (b0,t)/\b.kids=b0.kids/\b.h=b0.h)
theorem qum {lay:Lay} {i:Nat} {font w:Int} (hl:∀ i font w by_ ap b t,lay i font w by_ ap=some (b,t)->b.at_=i):∀ (gs:List (List Nat×Bool)) (m0 m:List (Kd×List BT)),
  (∀ g ∈ gs,(g.2=true->∀ k ∈ g.1,(ndAt ns k).kind=1)/\(g.2=false->∃ k,g.1=[k]/\(ndAt ns k).kind=0))->gs.foldlM (q1a ns lay i font w) m0=some m ->
  ∃ es,m=m0 ++ es/\((es.flatMap (·.2)).map BT.at_).Sublist (gs.flatMap (·.1))/\(∀ g ∈ gs,g.2=false->∃ b ∈ es.flatMap (·.2),b.at_=g.1.headD 0)/\∀ b ∈ es.flatMap (·.2),KidB ns lay font b
 | [],m0,m,_,h=>by cases h; exact ⟨[],by simp,by simp,fun g hg=>(by cases hg),fun b hb=>(by cases hb)⟩
 | g :: gs,m0,m,hg,h=>by
  rw [List.foldlM_cons] at h
  obtain ⟨m1,h1,h2⟩:=obk h
  obtain ⟨es,e1,e2,e3,e4⟩:=qum hl gs m1 m (fun x hx=>hg x (List.mem_cons_of_mem _ hx)) h2
  obtain ⟨g1,g2⟩:=hg g List.mem_cons_self
  unfold q1a at h1
  split at h1
  ·rename_i hr
   obtain ⟨r,hrun,h1⟩:=obk h1
   obtain ⟨t1,t2⟩:=qax (g1 hr) hrun
   cases h1
   split at e1
   ·refine ⟨(⟨(0,0),(0,0),r.2.1,false⟩,r.1) :: es,by rw [e1]; simp,?_,fun x hx hf=>?_,fun b hb=>?_⟩
    ·rw [List.flatMap_cons,List.flatMap_cons,List.map_append]
     exact t1.append e2
    ·rcases List.mem_cons.1 hx with rfl | hx
     ·rw [hr] at hf; cases hf
     ·obtain ⟨b,hb,e⟩:=e3 x hx hf
      exact ⟨b,by rw [List.flatMap_cons]; exact List.mem_append_right _ hb,e⟩
    ·rw [List.flatMap_cons] at hb
     rcases List.mem_append.1 hb with hb | hb
     ·exact .inl (t2 b hb)
     ·exact e4 b hb
   ·refine ⟨es,e1,?_,fun x hx hf=>?_,e4⟩
    ·rw [List.flatMap_cons]
     exact e2.trans (List.sublist_append_right _ _)
    ·rcases List.mem_cons.1 hx with rfl | hx
     ·rw [hr] at hf; cases hf
     ·exact e3 x hx hf
  ·rename_i hr
   have hr':g.2=false:=by simpa using hr
   obtain ⟨k,hk,hkd⟩:=g2 hr'
   obtain ⟨f,_,h1⟩:=obk h1
   obtain ⟨_,_,h1⟩:=obk h1
   obtain ⟨b,hb,h1⟩:=obk h1
   cases h1
   rw [hk] at hb
   have hat:=hl _ _ _ _ _ _ _ (show lay k font _ (-1) false=some (b.1,b.2) from hb)
   refine ⟨_ :: es,by rw [e1]; simp; rfl,?_,fun x hx hf=>?_,fun c hc=>?_⟩
   ·rw [List.flatMap_cons,List.flatMap_cons,List.map_append,hk]
    refine List.Sublist.append ?_ e2
    show [b.1.at_].Sublist [k]
    rw [hat]
    exact List.Sublist.refl _
   ·rcases List.mem_cons.1 hx with rfl | hx
    ·refine ⟨b.1.put (qia w f.ak).1 b.1.y,by rw [List.flatMap_cons]; exact List.mem_append_left _ (by simp),?_⟩
     rw [hk]
     exact hat
    ·obtain ⟨c,hc,e⟩:=e3 x hx hf
     exact ⟨c,by rw [List.flatMap_cons]; exact List.mem_append_right _ hc,e⟩
   ·rw [List.flatMap_cons] at hc
    rcases List.mem_append.1 hc with hc | hc
    ·rw [List.mem_singleton.1 hc]
     refine .inr ⟨?_,(qia w f.ak).2.1,b.1,b.2,?_,rfl,rfl⟩
     ·show (ndAt ns b.1.at_).kind=0
      rw [hat]; exact hkd
     ·show lay b.1.at_ font _ (-1) false=_
      rw [hat]
      exact hb
    ·exact e4 c hc
structure Kid1 (ns:List Nd) (lay:Lay) (font w:Int) (k:Nat) (e:Kd×List BT) (b:BT) (t:Tl) (sl:Int) (n:Int) (f:Fm):Prop where
 fm:q3a ns k w=some f
 laid:lay k font n (-1) false=some (b,t)
 eq:e=(⟨withM (oneM f.top) t.top,withM (oneM f.bottom) t.bottom,w64 (f.up+b.h),t.through⟩,[b.put sl b.y])
theorem qoj {lay:Lay} {i:Nat} {font w:Int}:∀ (ks:List Nat) (m0 m:List (Kd×List BT)),(ks.map fun k=>([k],false)).foldlM (q1a ns lay i font w) m0=some m ->
  ∃ es:List (Kd×List BT),m=m0 ++ es/\es.length=ks.length/\∀ j (hj:j < ks.length) (he:j < es.length),∃ b t sl n f,Kid1 ns lay font w ks[j] es[j] b t sl n f
 | [],m0,m,h=>by cases h; exact ⟨[],by simp,rfl,fun j hj=>absurd hj (by simp)⟩
 | k :: ks,m0,m,h=>by
  rw [List.map_cons,List.foldlM_cons] at h
  obtain ⟨m1,h1,h2⟩:=obk h
  obtain ⟨es,e1,e2,e3⟩:=qoj ks m1 m h2
  unfold q1a at h1
  rw [if_neg (by simp)] at h1
  obtain ⟨f,hf,h1⟩:=obk h1
  obtain ⟨_,_,h1⟩:=obk h1
  obtain ⟨b,hb,h1⟩:=obk h1
  cases h1
  refine ⟨_ :: es,by rw [e1]; simp; rfl,by simp [e2],fun j hj he=>?_⟩
  cases j with
  | zero=>exact ⟨b.1,b.2,_,_,f,hf,hb,rfl⟩
  | succ j=>exact e3 j (by simpa using hj) (by simpa using he)
end
section
variable (ns:List Nd)
def tallB (c:BT):Int:=w64 (upR (stAt ns c.at_)+c.h)
def Down (b:BT):Prop:=kidsN ns b.at_≠[]->(∀ k ∈ kidsN ns b.at_,(ndAt ns k).kind=0) ->
 b.kids.map BT.at_=kidsN ns b.at_/\b.kids.map BT.y=offs 0 (b.kids.map (tallB ns))/\b.h=(b.kids.map (tallB ns)).sum/\(∀ c ∈ b.kids,fit c.y=true/\0<=tallB ns c/\tallB ns c<=1099511627776)/\fit b.h=true
def Tree:Nat->BT->Prop
 | 0,_=>False
 | f+1,b=>(b.at_ < ns.length/\(ndAt ns b.at_).kind=0)/\(b.kids.map BT.at_).Sublist (kidsN ns b.at_)/\(∀ k ∈ kidsN ns b.at_,(ndAt ns k).kind=0->∃ c ∈ b.kids,c.at_=k) /\
   (∀ c ∈ b.kids,TextB ns c\/((ndAt ns c.at_).kind=0/\Tree f c))/\Down ns b
variable {ns}
theorem Tree.alike {f:Nat} {b c:BT} (h:Tree ns f b) (h1:c.at_=b.at_) (h2:c.kids=b.kids) (h3:c.h=b.h):Tree ns f c:=by
 cases f with
 | zero=>exact h.elim
 | succ f =>
  unfold Tree Down at h ⊢
  rw [h1,h2,h3]
  exact h
end
theorem qgu {m:List (Kd×List BT)} {a:List Int}:∀ c,c ∈ (m.zip a).flatMap (fun g=>g.1.2.map (downB g.2))->∃ b ∈ m.flatMap (·.2),∃ y,c=downB y b:=by
 intro c hc
 obtain ⟨z,hz,hc⟩:=List.mem_flatMap.1 hc
 obtain ⟨b,hb,rfl⟩:=List.mem_map.1 hc
 exact ⟨b,List.mem_flatMap.2 ⟨z.1,(List.of_mem_zip (show (z.1,z.2) ∈ _ from hz)).1,hb⟩,_,rfl⟩
theorem q4h:∀ {m:List (Kd×List BT)} {a:List Int},a.length=m.length->((m.zip a).flatMap (fun g=>g.1.2.map (downB g.2))).map BT.at_=(m.flatMap (·.2)).map BT.at_
 | [],[],_=>rfl
 | x :: m,y :: a,h=>by
  rw [List.zip_cons_cons,List.flatMap_cons,List.flatMap_cons,List.map_append,List.map_append,q4h (by simpa using h),List.map_map]
  rfl
theorem qmo {m:List (Kd×List BT)} {a:List Int} (hl:a.length=m.length) {b:BT} (hb:b ∈ m.flatMap (·.2)):∃ y,downB y b ∈ (m.zip a).flatMap (fun g=>g.1.2.map (downB g.2)):=by
 obtain ⟨e,he,hb⟩:=List.mem_flatMap.1 hb
 obtain ⟨j,hj,rfl⟩:=List.getElem_of_mem he
 refine ⟨a[j]'(by omega),List.mem_flatMap.2 ⟨(m[j],a[j]'(by omega)),?_,List.mem_map.2 ⟨b,hb,rfl⟩⟩⟩
 rw [List.mem_iff_getElem]
 exact ⟨j,by rw [List.length_zip]; omega,by rw [List.getElem_zip]⟩
theorem q4k {α:Type} (F:BT->α):∀ {m:List (Kd×List BT)} {a:List Int} {bs:List BT},a.length=m.length->bs.length=m.length->(∀ j (h:j < m.length) (h2:j < bs.length),m[j].2=[bs[j]]) ->
  (m.zip a).flatMap (fun g=>g.1.2.map (downB g.2))=(bs.zip a).map fun g=>downB g.2 g.1
 | [],[],[],_,_,_=>rfl
 | x :: m,y :: a,b :: bs,h,h2,h3=>by
  rw [List.zip_cons_cons,List.flatMap_cons,List.zip_cons_cons,List.map_cons,q4k F (by simpa using h) (by simpa using h2) fun j hj hj2=>h3 (j+1) (by simpa using hj) (by simpa using hj2)]
  have:=h3 0 (by simp) (by simp)
  simp only [List.getElem_cons_zero] at this
  rw [this]
  rfl
end Go.Proofs.YtlnekijhbnlclaaGreatDoor
