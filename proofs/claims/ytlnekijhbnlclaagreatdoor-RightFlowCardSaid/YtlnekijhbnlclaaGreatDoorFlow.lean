/-
  Walks: package layout: flow.
-/
import Derived.Test.YtlnekijhbnlclaaGreatDoorRun
import Derived.Test.YtlnekijhbnlclaaGreatDoorAllK
import Derived.Test.YtlnekijhbnlclaaGreatDoorLay
import Derived.Test.YtlnekijhbnlclaaGreatDoorCutPg
import Derived.Test.YtlnekijhbnlclaaGreatDoorDocFacts
import Derived.Sort.CutIn
namespace Go.Proofs.YtlnekijhbnlclaaGreatDoor
open Go.RowKit Go.Shelf
attribute [local go_sem] Oper.semAt_some
set_option linter.unusedSimpArgs false
set_option linter.unusedVariables false
theorem qzf {ns:List Nd} {l:List Nat}:∀ (f a:Nat),(grpGo ns l f a).length<=f
 | 0,_=>Nat.le_refl _
 | f+1,a=>by
  rw [qmh]
  split
  ·rw [List.length_cons]; have:=qzf (ns:=ns) (l:=l) f (grpTo ns l a); omega
  ·simp
structure FwC (W:World) (s g i:Nat) (font x:Int):Prop where
 page:Blk W s 73 #[.pointer (some ⟨g,0,none⟩)]
 at_:Blk W (s+1) 3 #[.int .i64 i]
 font:Blk W (s+2) 3 #[.int .i64 font]
 wd:Blk W (s+3) 3 #[.int .i64 x]
 tells:Blk W (s+4) 87 (tlC tl0).toArray
theorem FwC.kept {W W':World} {s g i:Nat} {font x:Int} {gs:List Nat} (h:FwC W s g i font x) (hk:Kept gs W W') (hg:∀ q ∈ gs,s+5<=q):FwC W' s g i font x :=
 ⟨h.page.kept hk fun h=>by have:=hg _ h; omega,h.at_.kept hk fun h=>by have:=hg _ h; omega,h.font.kept hk fun h=>by have:=hg _ h; omega,h.wd.kept hk fun h=>by have:=hg _ h; omega,h.tells.kept hk fun h=>by have:=hg _ h; omega⟩
theorem qvs (w:World) (g i:Nat) (font x:Int):∃ W,W=((((w.alloc (.cells #[.pointer (some ⟨g,0,none⟩)] 73)).alloc (.cells #[.int .i64 i] 3)).alloc (.cells #[.int .i64 font] 3)).alloc (.cells #[.int .i64 x] 3)).alloc (.cells (tlC tl0).toArray 87) /\
  FwC W w.heap.size g i font x/\Below w.heap.size w W/\W.heap.size=w.heap.size+5:=by
 refine ⟨_,rfl,⟨?_,?_,?_,?_,?_⟩,?_,by simp⟩
 ·exact ((((Blk.new w _ _).alloc _).alloc _).alloc _).alloc _
 ·have h:=Blk.new (w.alloc (.cells #[.pointer (some ⟨g,0,none⟩)] 73)) 3 #[.int .i64 i]
  rw [World.size_alloc] at h
  exact ((h.alloc _).alloc _).alloc _
 ·have h:=Blk.new ((w.alloc (.cells #[.pointer (some ⟨g,0,none⟩)] 73)).alloc (.cells #[.int .i64 i] 3)) 3 #[.int .i64 font]
  simp only [World.size_alloc] at h
  exact (h.alloc _).alloc _
 ·have h:=Blk.new (((w.alloc (.cells #[.pointer (some ⟨g,0,none⟩)] 73)).alloc (.cells #[.int .i64 i] 3)).alloc (.cells #[.int .i64 font] 3)) 3 #[.int .i64 x]
  simp only [World.size_alloc] at h
  exact h.alloc _
 ·have h:=Blk.new ((((w.alloc (.cells #[.pointer (some ⟨g,0,none⟩)] 73)).alloc (.cells #[.int .i64 i] 3)).alloc (.cells #[.int .i64 font] 3)).alloc (.cells #[.int .i64 x] 3)) 87 (tlC tl0).toArray
  simp only [World.size_alloc] at h
  exact h
 ·exact (((((Below.refl _ _).alloc (Nat.le_refl _) _).alloc (by simp) _).alloc (by simp; omega) _).alloc (by simp; omega) _).alloc (by simp; omega) _
theorem PartsAt.is {W W':World} {base n d:Nat} {bss:List (List BT)} {vs:List Sl} {pss fks:List (List Nat)} (h:PartsAt W base d bss vs pss fks) (hk:IS [] n W W'):PartsAt W' base d bss vs pss fks :=
 ⟨h.lenV,h.lenP,fun i hi hi2=>(h.row i hi hi2).is hk (by simp),h.lens,h.boxes.keep hk.size fun g hg=>by
  obtain ⟨f,hf,hg⟩:=List.mem_flatten.1 hg
  obtain ⟨i,hi,rfl⟩:=List.getElem_of_mem hf
  have e1:=h.boxes.lenP
  have e2:=h.boxes.lenF
  obtain ⟨cs,t,fr,h4,h5⟩:=(h.boxes.box i (by omega) (pss.flatten[i]'(by omega)) fks[i] (List.getElem?_eq_getElem _) (List.getElem?_eq_getElem _)).typ g hg
  exact (hk.block g _ (by simp) h4 (.inl rfl)).trans h4.symm,h.apart⟩
def FwI (ns:List Nd) (lay:Lay) (i d s g:Nat) (font x:Int) (w:World) (l:List Nat) (wr:List Nat) (pre:List (Nat×Nat×Bool)) (W:World):Prop :=
 ∃ (lv pv:Value) (m:List (Kd×List BT)) (vs:List Sl) (pss fks:List (List Nat)),wr=(s+6) :: (s+7) :: (lv.ownBlock.toList ++ pv.ownBlock.toList)/\(pre.map (grpOf l)).foldlM (q1a ns lay i font x) []=some m /\
  Boxed W (s+6) 163 lv/\Boxed W (s+7) 164 pv/\shKd.Owns W (s+10) lv (m.map (·.1))/\shBs.Owns W (s+10) pv vs/\PartsAt W (s+10) d (m.map (·.2)) vs pss fks/\(∀ q ∈ m,∀ b ∈ q.2,okT ns.length d b) /\
  FwC W s g i font x/\Blk W (s+5) YT.box (btC (.mk i x 0 0 0 [] []) (.slice none 0 0) (.slice none 0 0)).toArray/\Below s w W/\s+10<=W.heap.size/\m.length<=pre.length
def FwT:List TypeId:=[163,164,171,91]
theorem FwI.more2 {ns:List Nd} {lay:Lay} {i d s g:Nat} {font x:Int} {w W w7 W2:World} {l:List Nat} {pre:List (Nat×Nat×Bool)} {z:Nat×Nat×Bool} {m:List (Kd×List BT)} {vs:List Sl} {pss fks:List (List Nat)} {lv pv:Value} {X:Kd} {bs:List BT} {v:Sl} {ps7:List Nat} {fks7:List (List Nat)}
  (hf:((pre ++ [z]).map (grpOf l)).foldlM (q1a ns lay i font x) []=some (m ++ [(X,bs)])) (h7:PartsAt W (s+10) d (m.map (·.2)) vs pss fks) (h8:∀ q ∈ m,∀ b ∈ q.2,okT ns.length d b) (h9:FwC W s g i font x)
  (h10:Blk W (s+5) YT.box (btC (.mk i x 0 0 0 [] []) (.slice none 0 0) (.slice none 0 0)).toArray) (h11:Below s w W) (h12:s+10<=W.heap.size) (h13:m.length<=pre.length)
  (hk7:Kept [] W w7) (hch:Chg (s+6) FwT w7 W2) (h3:Boxed W2 (s+6) 163 lv) (h4:Boxed W2 (s+7) 164 pv) (h5:shKd.Owns W2 (s+10) lv (m.map Prod.fst ++ [X])) (h6:shBs.Owns W2 (s+10) pv (vs ++ [v]))
  (ho:(shPt YT.ptr).Owns W2 W.heap.size (slV v) ps7) (hx:BoxesAt YT W2 W.heap.size d bs ps7 fks7) (ha:∀ q,(slV v).ownBlock=some q->q ∉ fks7.flatten) (hok:∀ b ∈ bs,okT ns.length d b) :
  FwI ns lay i d s g font x w l ((s+6) :: (s+7) :: (lv.ownBlock.toList ++ pv.ownBlock.toList)) (pre ++ [z]) W2:=by
 have hlt:=h7.lt
 have hs2:s+10<=W2.heap.size:=Nat.le_trans h12 (Nat.le_trans hk7.size hch.size)
 have hb6:Below (s+6) w7 W2:=hch.below (Nat.le_refl _) (by have:=hk7.size; omega)
 have hP:PartsAt W2 (s+10) d (m.map (·.2)) vs pss fks:=(h7.is (IS.of_kept (n:=0) hk7)).chg hch (by decide) (by decide) (by decide)
 have hP2:=hP.snoc (n:=W.heap.size) h12 hlt.1 hlt.2 ho hx ha
 refine ⟨lv,pv,m ++ [(X,bs)],vs ++ [v],pss ++ [ps7],fks ++ fks7,rfl,hf,h3,h4,by rw [List.map_append]; exact h5,h6,by rw [List.map_append]; exact hP2,fun q hq b hb=>?_,?_,?_,?_,hs2,by rw [List.length_append,List.length_append]; simp; omega⟩
 ·rcases List.mem_append.1 hq with hq | hq
  ·exact h8 q hq b hb
  ·rw [List.mem_singleton.1 hq] at hb
   exact hok b hb
 ·have h:=h9.kept hk7 (by simp)
  exact ⟨h.page.below hb6 (by omega),h.at_.below hb6 (by omega),h.font.below hb6 (by omega),h.wd.below hb6 (by omega),h.tells.below hb6 (by omega)⟩
 ·exact (h10.kept hk7 (by simp)).below hb6 (by omega)
 ·exact (h11.trans (hk7.to_below (by omega) (by simp))).trans (hb6.mono (by omega))
theorem FwI.more {ns:List Nd} {lay:Lay} {i d s g:Nat} {font x:Int} {w W w7 W2:World} {l:List Nat} {pre:List (Nat×Nat×Bool)} {z:Nat×Nat×Bool} {m:List (Kd×List BT)} {vs:List Sl} {pss fks:List (List Nat)} {lv pv:Value} {X:Kd} {bs:List BT} {v:Sl} {ps7:List Nat} {fks7:List (List Nat)}
  (hf:((pre ++ [z]).map (grpOf l)).foldlM (q1a ns lay i font x) []=some (m ++ [(X,bs)])) (h7:PartsAt W (s+10) d (m.map (·.2)) vs pss fks) (h8:∀ q ∈ m,∀ b ∈ q.2,okT ns.length d b) (h9:FwC W s g i font x)
  (h10:Blk W (s+5) YT.box (btC (.mk i x 0 0 0 [] []) (.slice none 0 0) (.slice none 0 0)).toArray) (h11:Below s w W) (h12:s+10<=W.heap.size) (h13:m.length<=pre.length)
  (hk7:Kept [] W w7) (hch:Chg (s+6) FwT w7 W2) (h3:Boxed W2 (s+6) 163 lv) (h4:Boxed W2 (s+7) 164 pv) (h5:shKd.Owns W2 (s+10) lv (m.map Prod.fst ++ [X])) (h6:shBs.Owns W2 (s+10) pv (vs ++ [v]))
  (ho:(shPt YT.ptr).Owns w7 W.heap.size (slV v) ps7) (hx:BoxesAt YT w7 W.heap.size d bs ps7 fks7) (ha:∀ q,(slV v).ownBlock=some q->q ∉ fks7.flatten) (hok:∀ b ∈ bs,okT ns.length d b) :
  FwI ns lay i d s g font x w l ((s+6) :: (s+7) :: (lv.ownBlock.toList ++ pv.ownBlock.toList)) (pre ++ [z]) W2 :=
 FwI.more2 hf h7 h8 h9 h10 h11 h12 h13 hk7 hch h3 h4 h5 h6 (hch.owns ho (by decide)) (hch.boxes hx (by decide) (by decide) (by decide)) ha hok
theorem q6p {P:Program} {Q:Exit->Act->World->Prop} {id k l0:Nat} {a:Act} {w:World} {l:List Oper} (hN:q2e l.toArray=true) (hL:¬ LetsOut Q)
  (h:wpList P l.toArray Q l a w):(Code.region id l.toArray false).wpIn (Fence.wide.inRound l0) k P Q a w:=by
 refine wpIn_region ?_
 have h2:wpOps P l.toArray Q (List.range l.toArray.size) a w:=by
  rw [List.range_eq_range',show l.toArray.size=l.length from List.size_toArray ..,wpOps_eq_wpList l 0 (by simp)]
  exact h
 exact qvd hL (fun j o c ho=>qkg hN j o c ho) _ _ _ h2
def FwA (g i s:Nat) (font x by_:Int) (apart:Bool) (b o c:Nat) (z:Nat×Nat×Bool) (a':Act) (_:World):Prop:=a'={ tmps:=#[.pointer (some ⟨g,0,none⟩),.int .i64 i,.int .i64 font,.int .i64 x,.int .i64 by_,.bool apart,.pointer (some ⟨s,0,none⟩),.pointer (some ⟨s+1,0,none⟩),.pointer (some ⟨s+2,0,none⟩),.pointer (some ⟨s+3,0,none⟩),undef,undef,.pointer none,.pointer (some ⟨s+4,0,none⟩),.pointer (some ⟨s+5,0,none⟩),.pointer (some ⟨s+6,0,none⟩),.pointer (some ⟨s+7,0,none⟩),grpV b o c z,.bool z.2.2,undef,undef,undef,undef,undef,undef,undef,undef,undef,undef,undef,undef,undef,undef,undef,undef,undef,undef,undef,undef,.int .i64 i,.int .i64 x,.agg #[.int .i64 i,.int .i64 x,.int .i64 0,.int .i64 0,.int .i64 0,.slice none 0 0,.slice none 0 0],.pointer (some ⟨s+5,0,none⟩),.pointer (some ⟨g,0,none⟩),.int .i64 i,.func (.func 135) #[] #[.pointer (some ⟨s+8,0,none⟩),.pointer (some ⟨s+9,0,none⟩)],grpV b o c z,.bool z.2.2,undef,undef,undef,undef,undef,undef,undef,undef,undef,undef,undef,undef,undef,undef,undef,undef,undef,undef,undef,undef,undef,undef,undef,undef,undef,undef,undef,undef,undef,undef,undef,undef,undef,undef,undef,undef,undef,undef,undef,undef,undef,undef,undef,undef,undef,undef,undef,undef,undef,undef,undef,undef,undef,undef,undef,undef,undef,undef,undef,undef,undef,undef,undef,undef,undef,undef,undef,undef,undef,undef,undef,undef,undef,undef,undef,undef,undef,undef,undef,undef,undef,undef,undef,undef,undef,undef,undef,undef,undef,undef,undef,undef,undef,undef,undef,undef,undef,undef,undef,undef,undef,undef,undef,undef,undef,undef,undef,undef,undef,undef,undef,undef,undef,undef,undef,undef,undef,undef,undef,undef,undef,undef,undef,undef,undef,undef,undef,undef,undef,undef,undef,undef,undef,undef,undef,undef,undef,undef,undef,undef,undef,undef,undef,undef,undef,undef,undef,undef,undef,undef,undef,undef,undef,undef,undef,undef,undef,undef,undef,undef,undef,undef,undef,undef,undef,undef,undef,undef,undef,undef,undef,undef,undef,undef,undef,undef,undef,undef],defers:=[] }
def FwP (ns:List Nd) (lay:Lay) (i s:Nat) (font x:Int) (w:World) (ch:List PanicEntry) (W:World):Prop:=ch=overC/\(q2b ns i).foldlM (q1a ns lay i font x) []=none/\Below s w W
theorem FwC.is {W W':World} {s g i n:Nat} {font x:Int} (h:FwC W s g i font x) (hk:IS [] n W W'):FwC W' s g i font x :=
 ⟨h.page.is hk (by simp),h.at_.is hk (by simp),h.font.is hk (by simp),h.wd.is hk (by simp),h.tells.is hk (by simp)⟩
set_option maxRecDepth 100000 in
set_option maxHeartbeats 60000000 in
theorem qhr (lay:Lay) (d g B:Nat) (ns:List Nd) (next:Int) (i:Nat) (font x by_:Int) (apart:Bool) (w:World) (h:PgW w g B ns next) (hi:i < ns.length) (hns:ns.length<=300) (htx:∀ k,(ndAt ns k).text.size<=200) (hd1:1<=d)
  (hkl:∀ k ∈ kidsN ns i,k < ns.length)
  (hlay:∀ k ∈ kidsN ns i,qfa ns k=false->∀ W n,PgW W g B ns next->Calls Tryz.prog 52 #[.pointer (some ⟨g,0,none⟩),.int .i64 k,.int .i64 font,.int .i64 n,.int .i64 (-1),.bool false] W (LayP ns.length (lay k font n (-1) false) d W))
  (hrun:∀ (l':List Nat) (v:Value) (W:World),l'.Sublist (kidsN ns i)->(∀ k ∈ l',qfa ns k=true)->PgW W g B ns next->RowN W B v l'->Calls Tryz.prog 110 #[.pointer (some ⟨g,0,none⟩),v,.int .i64 i,.int .i64 font,.int .i64 x] W (RunP ns.length (runL ns lay l' i font x) d W)) :
  Calls Tryz.prog 69 #[.pointer (some ⟨g,0,none⟩),.int .i64 i,.int .i64 font,.int .i64 x,.int .i64 by_,.bool apart] w (LayP ns.length (flowL ns lay i font x by_ apart) (d+1) w):=by
 obtain ⟨A,b,o,c,hK⟩:=h.pg.kids hi
 have hBw:=h.lt
 refine callsIn_wide.1 (qef (n:=6) Tryz.func69 rfl ?_)
 simp only [Tryz.ntmps69,List.size_toArray,List.length_cons,List.length_nil,Nat.reduceAdd,Nat.reduceSub,Array.replicate_succ,Array.replicate_zero,List.push_toArray,List.append_toArray,List.nil_append,List.cons_append]
 have H:=Lib.hid (And.intro h hK)
 clear hK
 repeat (refine qea ?_)
 refine qda (n:=6) (wpIn_wide.2 ?_)
 go_wp2_with fail
 obtain ⟨w1,hw1,hC1,hb1,hs1⟩:=qvs w g i font x
 change wpF _ _ _ _ _ (((((w.alloc (.cells #[.pointer (some ⟨g,0,none⟩)] 73)).alloc (.cells #[.int .i64 i] 3)).alloc (.cells #[.int .i64 font] 3)).alloc (.cells #[.int .i64 x] 3)).alloc (.cells (tlC tl0).toArray 87))
 rw [<-hw1]
 clear hw1
 obtain ⟨s,hse⟩:∃ s,w.heap.size=s:=⟨_,rfl⟩
 rw [hse] at hC1 hb1 hs1 hBw
 simp only [hse]
 have HSE:=Lib.hid hse
 clear hse
 have HS1:=Lib.hid hs1
 clear hs1
 have e1:w1.cell? ⟨s+1,0,none⟩=some (.int .i64 i):=hC1.at_.cell 0
 have e3:w1.cell? ⟨s+3,0,none⟩=some (.int .i64 x):=hC1.wd.cell 0
 repeat (refine qea ?_)
 refine qda (n:=6) (wpIn_wide.2 ?_)
 go_wp2_with fail
 clear e1 e3
 have b5:Blk (w1.alloc (.cells (btC (.mk i x 0 0 0 [] []) (.slice none 0 0) (.slice none 0 0)).toArray 93)) w1.heap.size YT.box (btC (.mk i x 0 0 0 [] []) (.slice none 0 0) (.slice none 0 0)).toArray:=Blk.new w1 _ _
 change wpF _ _ _ _ _ (w1.alloc (.cells (btC (.mk i x 0 0 0 [] []) (.slice none 0 0) (.slice none 0 0)).toArray 93))
 have k2:Kept [] w1 (w1.alloc (.cells (btC (.mk i x 0 0 0 [] []) (.slice none 0 0) (.slice none 0 0)).toArray 93)):=(Kept.refl [] w1).alloc _
 have z2:(w1.alloc (.cells (btC (.mk i x 0 0 0 [] []) (.slice none 0 0) (.slice none 0 0)).toArray 93)).heap.size=s+6:=by rw [World.size_alloc,HS1.out]
 have hC2:=hC1.kept k2 (by simp)
 have hb2:=hb1.trans (k2.to_below (by have:=HS1.out; omega) (by simp))
 simp only [HS1.out]
 rw [HS1.out] at b5
 clear k2 hC1 hb1
 generalize w1.alloc (.cells (btC (.mk i x 0 0 0 [] []) (.slice none 0 0) (.slice none 0 0)).toArray 93)=w2 at *
 have HS2:=Lib.hid z2
 clear z2
 repeat (refine qea ?_)
 refine qda (n:=6) (wpIn_wide.2 ?_)
 go_wp2_with fail
 repeat (refine qea ?_)
 refine qda (n:=6) (wpIn_wide.2 ?_)
 go_wp2_with fail
 have f6:Boxed ((w2.alloc (.cells #[.slice none 0 0] 163)).alloc (.cells #[.slice none 0 0] 164)) (s+6) 163 (.slice none 0 0):=by
  have h:=(Boxed.new w2 163 (.slice none 0 0)).alloc (.cells #[.slice none 0 0] 164)
  rw [HS2.out] at h
  exact h
 have f7:Boxed ((w2.alloc (.cells #[.slice none 0 0] 163)).alloc (.cells #[.slice none 0 0] 164)) (s+7) 164 (.slice none 0 0):=by
  have h:=Boxed.new (w2.alloc (.cells #[.slice none 0 0] 163)) 164 (.slice none 0 0)
  rw [World.size_alloc,HS2.out] at h
  exact h
 have k3:Kept [] w2 ((w2.alloc (.cells #[.slice none 0 0] 163)).alloc (.cells #[.slice none 0 0] 164)):=((Kept.refl [] w2).alloc _).alloc _
 have z3:((w2.alloc (.cells #[.slice none 0 0] 163)).alloc (.cells #[.slice none 0 0] 164)).heap.size=s+8:=by rw [World.size_alloc,World.size_alloc,HS2.out]
 have hC3:=hC2.kept k3 (by simp)
 have b53:=b5.kept k3 (by simp)
 have hb3:=hb2.trans (k3.to_below (by have:=HS2.out; omega) (by simp))
 simp only [HS2.out]
 clear k3 hC2 hb2 b5
 generalize (w2.alloc (.cells #[.slice none 0 0] 163)).alloc (.cells #[.slice none 0 0] 164)=w3 at *
 have hgc:=qpr g i w3
 rw [z3] at hgc
 have HS3:=Lib.hid z3
 clear z3
 have e0:w3.cell? ⟨s,0,none⟩=some (.pointer (some ⟨g,0,none⟩)):=hC3.page.cell 0
 have e1:w3.cell? ⟨s+1,0,none⟩=some (.int .i64 i):=hC3.at_.cell 0
 repeat (refine qea ?_)
 refine qda (n:=6) (wpIn_wide.2 ?_)
 go_wp2_with fail
 refine hgc.mono ?_
 rintro e w4 ⟨rfl,hw4⟩
 have k4:Kept [] w3 w4:=by rw [hw4]; exact ((Kept.refl [] w3).alloc _).alloc _
 have g8:Blk w4 (s+8) 73 #[.pointer (some ⟨g,0,none⟩)]:=by
  rw [hw4]
  have h:=(Blk.new w3 73 #[.pointer (some ⟨g,0,none⟩)]).alloc (.cells #[.int .i64 i] 3)
  rw [HS3.out] at h
  exact h
 have g9:Blk w4 (s+9) 3 #[.int .i64 i]:=by
  rw [hw4]
  have h:=Blk.new (w3.alloc (.cells #[.pointer (some ⟨g,0,none⟩)] 73)) 3 #[.int .i64 i]
  rw [World.size_alloc,HS3.out] at h
  exact h
 have z4:w4.heap.size=s+10:=by rw [hw4,World.size_alloc,World.size_alloc,HS3.out]
 clear hgc e0 e1 hw4
 go_wp2_with fail
 refine qwd ?_
 simp only [show s+6+1=s+7 from rfl,show s+8+1=s+9 from rfl]
 have hb4:Below s w w4:=hb3.trans (k4.to_below (by have:=HS3.out; omega) (by simp))
 have hG4:GrpW w4 (s+8) (s+9) g B ns next i A b o c:=⟨g8,g9,H.out.1.pg.below (hb4.mono hBw),H.out.2.below (hb4.mono hBw)⟩
 have hkl2:(kidsN ns i).length < 1000000:=by
  have h1:=List.length_filter_le (fun j=>decide ((ndAt ns j).depth - 1=(ndAt ns i).depth)) (qcb ns i)
  have h2:(qcb ns i).length<=ns.length:=by
   unfold qcb
   have h3:=(List.takeWhile_sublist (fun j=>decide ((ndAt ns i).depth < (ndAt ns j).depth)) (l:=(List.range ns.length).drop (i+1))).length_le
   rw [List.length_drop,List.length_range] at h3
   omega
  have h4:(kidsN ns i).length<=(qcb ns i).length:=h1
  omega
 have hC4:=hC3.kept k4 (by simp)
 have b54:=b53.kept k4 (by simp)
 have f64:Boxed w4 (s+6) 163 (.slice none 0 0):=Blk.kept (g:=s+6) (cs:=#[.slice none 0 0]) f6 k4 (by simp)
 have f74:Boxed w4 (s+7) 164 (.slice none 0 0):=Blk.kept (g:=s+7) (cs:=#[.slice none 0 0]) f7 k4 (by simp)
 clear k4 hC3 b53 f6 f7 hb3 g8 g9
 refine qdh (f:=69) ⟨_,Tryz.func69⟩ (n:=5) (gf:=135) (lb:=#[.pointer (some ⟨s+8,0,none⟩),.pointer (some ⟨s+9,0,none⟩)]) rfl (enters_of Tryz.func135 (by kernel_rfl) rfl)
  (qdt ns next i (s+8) (s+9) g B A b o c w4 hG4 hkl hkl2 hi) (Below.refl _ _) (fun _=>rfl) [s+6,s+7] ?hwr (FwI ns lay i d s g font x w (kidsN ns i)) (fun _ _=>False) (FwP ns lay i s font x w)
  ?hI (fun _ _ _ h _=>h) ?hIp (by simp) ?h0 (FwA g i s font x by_ apart b o c) ?hAx ?assign ?body ?done (fun _ _ _ _ h _=>h.elim) ?thrown
 case hwr =>
  intro q hq
  unfold GrpRd
  simp only [List.mem_cons,List.not_mem_nil,or_false] at hq
  rcases hq with rfl | rfl <;> omega
 case hI =>
  rintro wr pre A' B' ⟨lv,pv,m,vs,pss,fks,h1,h2,h3,h4,h5,h6,h7,h8,h9,h10,h11,h12,h13⟩ hi'
  have hb:=hi'.below (s:=s) (by omega) (by omega) (by simp)
  refine ⟨lv,pv,m,vs,pss,fks,h1,h2,Blk.is (g:=s+6) (cs:=#[lv]) h3 hi' (by simp),Blk.is (g:=s+7) (cs:=#[pv]) h4 hi' (by simp),h5.is hi' (by simp),h6.is hi' (by simp),h7.is hi',h8,h9.is hi',h10.is hi' (by simp),h11.trans hb,Nat.le_trans h12 hi'.size,h13⟩
 case hIp =>
  rintro ch A' B' ⟨h1,h2,h3⟩ hi'
  exact ⟨h1,h2,h3.trans (hi'.below (s:=s) (by omega) (by have:=h3.size; have:=HSE.out; omega) (by simp))⟩
 case h0=>exact ⟨.slice none 0 0,.slice none 0 0,[],[],[],[],rfl,rfl,f64,f74,Shp.Owns.nil _ _,Shp.Owns.nil _ _,PartsAt.nil _ _ _,by simp,hC4,b54,hb4,by omega,by simp⟩
 case hAx=>exact fun x a' A' B' h _=>h
 case assign =>
  rintro lp wr pre z W K hi' hK
  gi_wp2
  exact hK _ _ (Kept.refl _ _) rfl
 case body =>
  rintro lp wr pre z a' W hl hlp hwl ⟨lv,pv,m,vs,pss,fks,h1,h2,h3,h4,h5,h6,h7,h8,h9,h10,h11,h12,h13⟩ rfl hpre
  have hzm:=qwv (show z ∈ grpL ns (kidsN ns i) from by
   obtain ⟨r,hr⟩:=hpre
   rw [<-hr]
   simp)
  obtain ⟨hz1,hz2,hz3⟩:=hzm
  have hpg:=H.out.1.below (h11.mono hBw)
  have hkW:=H.out.2.below (h11.mono hBw)
  obtain ⟨hAe,hbB⟩:=hkW.adr (by omega)
  have hrow:RowN W B (grpV b o c z) (grpOf (kidsN ns i) z).1:=by
   have hl5:(grpOf (kidsN ns i) z).1.length=z.2.1 - z.1:=by
    show (((kidsN ns i).drop z.1).take (z.2.1 - z.1)).length=_
    rw [List.length_take,List.length_drop]
    omega
   refine ⟨b,o+z.1,c - z.1,by unfold grpV; rw [hl5],hbB,fun j hj=>?_⟩
   have h5:=hkW.cell (z.1+j) (by omega)
   rw [Nat.add_assoc,h5]
   have hj':j < (((kidsN ns i).drop z.1).take (z.2.1 - z.1)).length:=hj
   have h6:((((kidsN ns i).drop z.1).take (z.2.1 - z.1))[j]'hj')=(kidsN ns i)[z.1+j]'(by omega):=by rw [List.getElem_take,List.getElem_drop]
   exact congrArg (fun q:Nat=>some (Value.int .i64 q)) h6.symm
  have HRW:=Lib.hid (And.intro hpg hrow)
  have e0:W.cell? ⟨s,0,none⟩=some (.pointer (some ⟨g,0,none⟩)):=h9.page.cell 0
  have e1:W.cell? ⟨s+1,0,none⟩=some (.int .i64 i):=h9.at_.cell 0
  have e2:W.cell? ⟨s+2,0,none⟩=some (.int .i64 font):=h9.font.cell 0
  have e3:W.cell? ⟨s+3,0,none⟩=some (.int .i64 x):=h9.wd.cell 0
  clear hpg hrow hkW
  obtain ⟨za,zb,run⟩:=z
  dsimp only at hz1 hz2 hz3
  cases run with
  | true =>
   have hmem:grpOf (kidsN ns i) (za,zb,true) ∈ q6a ns (kidsN ns i).length (kidsN ns i):=by
    rw [<-grpL_same]
    refine List.mem_map.2 ⟨_,?_,rfl⟩
    obtain ⟨r,hr⟩:=hpre
    rw [<-hr]
    simp
   have hgr:=qkf _ _ _ hmem
   have hr1:=CallsIn.inRound lp (callsIn_wide (n:=4).2 (hrun (grpOf (kidsN ns i) (za,zb,true)).1 _ W (show (((kidsN ns i).drop za).take (zb - za)).Sublist (kidsN ns i) from (List.take_sublist _ _).trans (List.drop_sublist _ _)) (fun k hk=>hgr.2.1 rfl k hk) HRW.out.1 HRW.out.2))
   have hpf:∃ r,q2b ns i=(pre ++ [(za,zb,true)]).map (grpOf (kidsN ns i)) ++ r:=by
    obtain ⟨r,hr⟩:=hpre
    refine ⟨r.map (grpOf (kidsN ns i)),?_⟩
    rw [<-List.map_append,hr]
    exact grpL_same.symm
   have HPF:=Lib.hid hpf
   have HFO:=Lib.hid (show ((pre ++ [(za,zb,true)]).map (grpOf (kidsN ns i))).foldlM (q1a ns lay i font x) []=q1a ns lay i font x m (grpOf (kidsN ns i) (za,zb,true)) by
    rw [List.map_append,List.map_cons,List.map_nil,qxh,h2]
    rfl)
   have HGL:=Lib.hid (show q1a ns lay i font x m (grpOf (kidsN ns i) (za,zb,true))=(runL ns lay (grpOf (kidsN ns i) (za,zb,true)).1 i font x).bind fun r=>some (if r.2.2=true then m ++ [(⟨(0,0),(0,0),r.2.1,false⟩,r.1)] else m) from rfl)
   clear hpf hgr hmem hz3
   have hsW:s+10<=W.heap.size:=h12
   cases hrl:runL ns lay (grpOf (kidsN ns i) (za,zb,true)).1 i font x with
   | none =>
    rw [hrl] at hr1
    have HN:=Lib.hid hrl
    clear hrl
    gi_wp2
    refine ⟨trivial,hr1.mono ?_⟩
    rintro e w7 ⟨hb7,he⟩
    obtain rfl:=he
    obtain ⟨r,hr⟩:=HPF.out
    refine ⟨rfl,Kept.of_below hb7,rfl,?_,h11.trans (hb7.mono (by omega))⟩
    rw [hr]
    refine q3e _ ?_
    rw [HFO.out,HGL.out,HN.out]
    rfl
   | some y =>
    obtain ⟨bs,yh,sm⟩:=y
    rw [hrl] at hr1
    have HN:=Lib.hid hrl
    clear hrl
    cases sm with
    | false =>
     gi_wp2
     refine ⟨trivial,hr1.mono ?_⟩
     rintro e w7 ⟨hb7,v7,ps7,fks7,rfl,ho7,hx7,ha7,hok7⟩
     gi_wp2
     have hk7:Kept [] W w7:=Kept.of_below hb7
     have hi7:IS [] (s+10) W w7:=IS.of_kept hk7
     refine ⟨wr,⟨lv,pv,m,vs,pss,fks,h1,by rw [HFO.out,HGL.out,HN.out]; rfl,Blk.is (g:=s+6) (cs:=#[lv]) h3 hi7 (by simp),Blk.is (g:=s+7) (cs:=#[pv]) h4 hi7 (by simp),h5.is hi7 (by simp),h6.is hi7 (by simp),h7.is hi7,h8,h9.is hi7,h10.is hi7 (by simp),h11.trans (hb7.mono (by omega)),Nat.le_trans h12 hk7.size,by rw [List.length_append]; omega⟩,hk7.more (by simp),fun q hq=>⟨.inl hq,Nat.lt_of_lt_of_le (hwl q hq).1 hk7.size⟩⟩
    | true =>
     have f6:=h3.cell
     gi_wp2
     refine ⟨trivial,hr1.mono ?_⟩
     rintro e w7 ⟨hb7,v7,ps7,fks7,rfl,ho7,hx7,ha7,hok7⟩
     obtain ⟨Av,nv,cv,rfl⟩:=ho7.slice_
     have hk7:Kept [] W w7:=Kept.of_below hb7
     have hi7:IS [] (s+10) W w7:=IS.of_kept hk7
     have hl7:=h5.is hi7 (by simp)
     have hp7:=h6.is hi7 (by simp)
     have h37:Boxed w7 (s+6) 163 lv:=Blk.is (g:=s+6) (cs:=#[lv]) h3 hi7 (by simp)
     have h47:Boxed w7 (s+7) 164 pv:=Blk.is (g:=s+7) (cs:=#[pv]) h4 hi7 (by simp)
     obtain ⟨A6,n6,c6,rfl⟩:=hl7.slice_
     obtain ⟨A7,n7,c7,rfl⟩:=hp7.slice_
     have hs7:s+10<=w7.heap.size:=Nat.le_trans h12 hk7.size
     obtain ⟨gs,hgs⟩:∃ gs,(Value.slice A6 n6 c6).ownBlock.toList ++ (Value.slice A7 n7 c7).ownBlock.toList=gs:=⟨_,rfl⟩
     have hgs1:∀ q,(Value.slice A6 n6 c6).ownBlock=some q->q ∈ gs:=fun q hq=>by rw [<-hgs,hq]; simp
     have hgs2:∀ q,(Value.slice A7 n7 c7).ownBlock=some q->q ∈ gs:=fun q hq=>by rw [<-hgs,hq]; simp
     have hgl:∀ q ∈ gs,s+10<=q:=fun q hq=>by
      rw [<-hgs] at hq
      simp only [List.mem_append,Option.mem_toList] at hq
      exact hq.elim (fun h=>(hl7.lt q h).1) (fun h=>(hp7.lt q h).1)
     have c60:∀ V:KW gs w7,V.val.cell? ⟨s+6,0,none⟩=some (.slice A6 n6 c6):=fun V=>(Blk.kept (g:=s+6) (cs:=#[.slice A6 n6 c6]) h37 V.ok (fun h=>by have:=hgl _ h; omega)).cell 0
     have c70:∀ V:KW gs w7,V.val.cell? ⟨s+7,0,none⟩=some (.slice A7 n7 c7):=fun V=>(Blk.kept (g:=s+7) (cs:=#[.slice A7 n7 c7]) h47 V.ok (fun h=>by have:=hgl _ h; omega)).cell 0
     have hml:(m.map (·.1)).length+1<=1000000000:=by rw [List.length_map]; have h1:=hpre.length_le; have h2:(grpL ns (kidsN ns i)).length<=(kidsN ns i).length:=qzf _ _; rw [List.length_append] at h1; simp at h1; omega
     have hvl:vs.length+1<=1000000000:=by have h1:=h7.lenV; rw [List.length_map] at h1; rw [List.length_map] at hml; omega
     gi_wp2
     refine qbq [9,10] [0,1,2,5,6] 6 (fun w'=>∃ V:KW gs w7,w'=V.val) (by kernel_rfl) (by kernel_rfl) (by rintro ⟨_,_,h⟩; exact h) (fun c a d v w h=>by cases d <;> exact h) ⟨⟨w7.drew,(Kept.refl _ _).drew⟩,rfl⟩ ?_
     simp only [pickD,List.map_cons,List.map_nil,List.getD_cons_zero,List.getD_cons_succ]
     repeat (go_big_quiet_step (fail))
     refine wpQuiet_nil ?_
     refine qba [3,7] (by kernel_rfl) fun i hi=>?_
     rcases (by simpa using hi:i=3\/i=7) with rfl | rfl
     ·skip
      refine qaa rfl fun K hK=>?_
      go_simp
      refine hK.out _ _ (.inr ⟨⟨_,((Kept.refl _ _).drew).alloc _⟩,rfl⟩) ?_
      clear hK K
      try simp only [Act.put,zA,zB,zC]
      refine qba [4,7] (by kernel_rfl) fun i hi=>?_
      rcases (by simpa using hi:i=4\/i=7) with rfl | rfl
      ·skip
       refine qaa rfl fun K hK=>?_
       refine qpb (v:=.slice A6 n6 c6) (L:=m.map Prod.fst) (M:=[(⟨(0,0),(0,0),yh,false⟩:Kd)]) (base:=s+10) (u:=.slice (some ⟨w7.heap.size,0,none⟩) 1 1) qwf rfl _ _ rfl (by rfl) (hl7.alloc _) (by rfl) (Shp.In.one shKd w7 ⟨(0,0),(0,0),yh,false⟩) hml (by simp; omega) ?_
       intro v8 w8 hl8 hg8 hc8
       obtain ⟨A8,n8,c8,rfl⟩:=hl8.slice_
       have k8:Kept (Value.slice A6 n6 c6).ownBlock.toList w7 w8:=(((Kept.refl _ w7).alloc _).drew).grown hg8 fun q hq=>.inl (by rw [hq]; simp)
       have K8:Kept gs w7 w8:=(((Kept.refl gs w7).alloc _).drew).grown hg8 fun q hq=>.inl (hgs1 q hq)
       have hp8:=hp7.kept k8 fun q hq hm=>qbb hl7 hp7 (by decide) q (by simpa using hm) hq
       have hs8:s+10<=w8.heap.size:=Nat.le_trans hs7 K8.size
       refine hK.out _ _ (.inr ⟨⟨_,K8⟩,rfl⟩) ?_
       clear hK K
       try simp only [Act.put,zA,zB,zC]
       refine qba [7] (by kernel_rfl) fun i hi=>?_
       obtain rfl:i=7:=by simpa using hi
       refine qaa rfl fun K hK=>?_
       go_simp
       refine hK.out _ _ (.inr ⟨⟨_,(K8).alloc _⟩,rfl⟩) ?_
       clear hK K
       try simp only [Act.put,zA,zB,zC]
       refine qba [8] (by kernel_rfl) fun i hi=>?_
       obtain rfl:i=8:=by simpa using hi
       refine qaa rfl fun K hK=>?_
       refine qpb (v:=.slice A7 n7 c7) (L:=vs) (M:=[((Av,nv,cv):Sl)]) (base:=s+10) (u:=.slice (some ⟨w8.heap.size,0,none⟩) 1 1) qzg rfl _ _ rfl (by rfl) (hp8.alloc _) (by rfl) (Shp.In.one shBs w8 (Av,nv,cv)) hvl (by first | exact hs8 | (simp; omega)) ?_
       intro v9 w9 hp9 hg9 hc9
       obtain ⟨A9,n9,c9,rfl⟩:=hp9.slice_
       have k9:Kept (Value.slice A7 n7 c7).ownBlock.toList w8 w9:=((Kept.refl _ w8).alloc _).grown hg9 fun q hq=>.inl (by rw [hq]; simp)
       have K9:Kept gs w7 w9:=K8.trans (((Kept.refl gs w8).alloc _).grown hg9 fun q hq=>.inl (hgs2 q hq))
       have hl9:=hl8.kept k9 fun q hq hm=>qbb hp8 hl8 (by decide) q (by simpa using hm) hq
       have h39:Boxed w9 (s+6) 163 (.slice A6 n6 c6):=Blk.kept (g:=s+6) (cs:=#[.slice A6 n6 c6]) h37 K9 (fun h=>by have:=hgl _ h; omega)
       have h49:Boxed w9 (s+7) 164 (.slice A7 n7 c7):=Blk.kept (g:=s+7) (cs:=#[.slice A7 n7 c7]) h47 K9 (fun h=>by have:=hgl _ h; omega)
       refine hK.out _ _ (.inr ⟨⟨_,K9⟩,rfl⟩) ?_
       clear hK K
       try simp only [Act.put,zA,zB,zC]
       refine qba [9] (by kernel_rfl) fun i hi=>?_
       obtain rfl:i=9:=by simpa using hi
       refine qaa rfl fun K hK=>?_
       have t0:=h39.frozen
       have t1:=h39.cell
       go_simp
       refine hK.out _ _ (.inl (by decide)) ?_
       clear hK K
       try simp only [Act.put,zA,zB,zC]
       refine qba [10] (by kernel_rfl) fun i hi=>?_
       obtain rfl:i=10:=by simpa using hi
       refine qaa rfl fun K hK=>?_
       have t2:=(Blk.far (g:=s+7) (cs:=#[.slice A7 n7 c7]) h49 (p:=⟨s+6,0,none⟩) (by show s+7≠s+6; omega) (.slice A8 n8 c8)).frozen
       have t3:=(Blk.far (g:=s+7) (cs:=#[.slice A7 n7 c7]) h49 (p:=⟨s+6,0,none⟩) (by show s+7≠s+6; omega) (.slice A8 n8 c8)).cell 0
       go_simp
       refine hK.out _ _ (.inl (by decide)) ?_
       clear hK K
       try simp only [Act.put,zA,zB,zC]
       refine qma (by kernel_rfl) ?_
       have hKK:Kept ((s+6) :: (s+7) :: gs) w7 ((w9.setCell ⟨s+6,0,none⟩ (.slice A8 n8 c8)).setCell ⟨s+7,0,none⟩ (.slice A9 n9 c9)):=((K9.more fun q hq=>List.mem_cons_of_mem _ (List.mem_cons_of_mem _ hq)).setCell (p:=⟨s+6,0,none⟩) (by simp) _).setCell (p:=⟨s+7,0,none⟩) (by simp) _
       have hks:Kept [s+6,s+7] w9 ((w9.setCell ⟨s+6,0,none⟩ (.slice A8 n8 c8)).setCell ⟨s+7,0,none⟩ (.slice A9 n9 c9)):=((Kept.refl _ _).setCell (p:=⟨s+6,0,none⟩) (by simp) _).setCell (p:=⟨s+7,0,none⟩) (by simp) _
       have b6:Boxed ((w9.setCell ⟨s+6,0,none⟩ (.slice A8 n8 c8)).setCell ⟨s+7,0,none⟩ (.slice A9 n9 c9)) (s+6) 163 (.slice A8 n8 c8):=Blk.far (g:=s+6) (cs:=#[.slice A8 n8 c8]) (Blk.set_ (g:=s+6) (cs:=#[.slice A6 n6 c6]) h39 0 (.slice A8 n8 c8)) (p:=⟨s+7,0,none⟩) (by show s+6≠s+7; omega) _
       have b7:Boxed ((w9.setCell ⟨s+6,0,none⟩ (.slice A8 n8 c8)).setCell ⟨s+7,0,none⟩ (.slice A9 n9 c9)) (s+7) 164 (.slice A9 n9 c9):=Blk.set_ (g:=s+7) (cs:=#[.slice A7 n7 c7]) (Blk.far (g:=s+7) (cs:=#[.slice A7 n7 c7]) h49 (p:=⟨s+6,0,none⟩) (by show s+7≠s+6; omega) _) 0 (.slice A9 n9 c9)
       have bl:=hl9.kept hks fun q hq hm=>by
        have h2:=(hl9.lt q hq).1
        simp at hm
        omega
       have bp:=hp9.kept hks fun q hq hm=>by
        have h2:=(hp9.lt q hq).1
        simp at hm
        omega
       have bz:w9.heap.size<=((w9.setCell ⟨s+6,0,none⟩ (.slice A8 n8 c8)).setCell ⟨s+7,0,none⟩ (.slice A9 n9 c9)).heap.size:=hks.size
       generalize (w9.setCell ⟨s+6,0,none⟩ (.slice A8 n8 c8)).setCell ⟨s+7,0,none⟩ (.slice A9 n9 c9)=W9 at *
       have hch:Chg (s+6) FwT w7 W9:=Chg.of_kept hKK (fun q hq=>by
        rcases List.mem_cons.1 hq with rfl | hq
        ·exact Nat.le_refl _
        ·rcases List.mem_cons.1 hq with rfl | hq
         ·omega
         ·have:=hgl q hq
          omega) (fun q hq cs t fr hb=>by
        rcases List.mem_cons.1 hq with rfl | hq
        ·rw [qvb (g:=s+6) (cs:=#[.slice A6 n6 c6]) h37 hb]
         decide
        ·rcases List.mem_cons.1 hq with rfl | hq
         ·rw [qvb (g:=s+7) (cs:=#[.slice A7 n7 c7]) h47 hb]
          decide
         ·rw [<-hgs] at hq
          simp only [List.mem_append,Option.mem_toList] at hq
          rcases hq with hq | hq
          ·rw [qsb hl7 hq hb]
           decide
          ·rw [qsb hp7 hq hb]
           decide)
       have hFM:=FwI.more (z:=(za,zb,true)) (v:=(Av,nv,cv)) (HFO.out.trans (by rw [HGL.out,HN.out]; rfl)) h7 h8 h9 h10 h11 h12 h13 hk7 hch b6 b7 bl bp ho7 hx7 ha7 hok7
       have hKW:Kept wr W W9:=by
        rw [h1,hgs]
        exact (hk7.more (by simp)).trans hKK
       have hloc:∀ q ∈ (s+6) :: (s+7) :: ((Value.slice A8 n8 c8).ownBlock.toList ++ (Value.slice A9 n9 c9).ownBlock.toList),(q ∈ wr\/W.heap.size<=q)/\q < W9.heap.size:=fun q hq=>by
        have z7:=hk7.size
        have z8:=K8.size
        have z9:=K9.size
        rcases List.mem_cons.1 hq with rfl | hq
        ·exact ⟨.inl (by rw [h1]; simp),by omega⟩
        rcases List.mem_cons.1 hq with rfl | hq
        ·exact ⟨.inl (by rw [h1]; simp),by omega⟩
        simp only [List.mem_append,Option.mem_toList] at hq
        rcases hq with hq | hq
        ·refine ⟨?_,(bl.lt q hq).2⟩
         rcases hc8 with e | e
         ·left
          rw [h1,<-e,hq]
          simp
         ·right
          rw [e] at hq
          injection hq with hq
          rw [<-hq]
          first
           | (show W.heap.size<=((w7.alloc _).alloc _).heap.size; rw [World.size_alloc,World.size_alloc]; omega)
           | (show W.heap.size<=(w7.alloc _).heap.size; rw [World.size_alloc]; omega)
        ·refine ⟨?_,(bp.lt q hq).2⟩
         rcases hc9 with e | e
         ·left
          rw [h1,<-e,hq]
          simp
         ·right
          rw [e] at hq
          injection hq with hq
          rw [<-hq]
          first
           | omega
           | (show W.heap.size<=(w8.alloc _).heap.size; rw [World.size_alloc]; omega)
       gi_wp2
       exact ⟨_,hFM,hKW,hloc⟩
      ·skip
       refine qaa rfl fun K hK=>?_
       go_simp
       refine hK.out _ _ (.inr ⟨⟨_,(((Kept.refl _ _).drew).alloc _).alloc _⟩,rfl⟩) ?_
       clear hK K
       try simp only [Act.put,zA,zB,zC]
       refine qba [4] (by kernel_rfl) fun i hi=>?_
       obtain rfl:i=4:=by simpa using hi
       refine qaa rfl fun K hK=>?_
       refine qpb (v:=.slice A6 n6 c6) (L:=m.map Prod.fst) (M:=[(⟨(0,0),(0,0),yh,false⟩:Kd)]) (base:=s+10) (u:=.slice (some ⟨w7.heap.size,0,none⟩) 1 1) qwf rfl _ _ rfl (by rfl) ((hl7.alloc _).alloc _) (by rfl) ((by have h1:=Shp.In.one shKd w7 ⟨(0,0),(0,0),yh,false⟩; exact h1.below (((Below.refl _ (w7.alloc (.cells (shKd.enc ⟨(0,0),(0,0),yh,false⟩).toArray shKd.t))).alloc (by rw [World.size_alloc]; exact Nat.le_refl _) (.cells #[.slice Av nv cv] 91)).drew))) hml (by simp; omega) ?_
       intro v8 w8 hl8 hg8 hc8
       obtain ⟨A8,n8,c8,rfl⟩:=hl8.slice_
       have k8:Kept (Value.slice A6 n6 c6).ownBlock.toList w7 w8:=((((Kept.refl _ w7).alloc _).alloc _).drew).grown hg8 fun q hq=>.inl (by rw [hq]; simp)
       have K8:Kept gs w7 w8:=((((Kept.refl gs w7).alloc _).alloc _).drew).grown hg8 fun q hq=>.inl (hgs1 q hq)
       have hp8:=hp7.kept k8 fun q hq hm=>qbb hl7 hp7 (by decide) q (by simpa using hm) hq
       have hs8:s+10<=w8.heap.size:=Nat.le_trans hs7 K8.size
       have hI8:Blk w8 (w7.heap.size+1) 91 #[.slice Av nv cv]:=(by have h1:=Blk.new (w7.alloc (.cells (shKd.enc ⟨(0,0),(0,0),yh,false⟩).toArray shKd.t)) 91 #[.slice Av nv cv]; rw [World.size_alloc] at h1; exact h1.kept (((Kept.refl (Value.slice A6 n6 c6).ownBlock.toList _).drew).grown hg8 fun q hq=>.inl (by rw [hq]; simp)) (by simp only [Option.mem_toList]; intro hm; have h2:w7.heap.size+1 < w7.heap.size:=(hl7.lt _ hm).2; omega))
       refine hK.out _ _ (.inr ⟨⟨_,K8⟩,rfl⟩) ?_
       clear hK K
       try simp only [Act.put,zA,zB,zC]
       refine qba [8] (by kernel_rfl) fun i hi=>?_
       obtain rfl:i=8:=by simpa using hi
       refine qaa rfl fun K hK=>?_
       refine qpb (v:=.slice A7 n7 c7) (L:=vs) (M:=[((Av,nv,cv):Sl)]) (base:=s+10) (u:=.slice (some ⟨w7.heap.size+1,0,none⟩) 1 1) qzg rfl _ _ rfl (by rfl) (hp8) (by rfl) (Shp.In.of_blk (S:=shBs) (x:=(Av,nv,cv)) hI8) hvl (by first | exact hs8 | (simp; omega)) ?_
       intro v9 w9 hp9 hg9 hc9
       obtain ⟨A9,n9,c9,rfl⟩:=hp9.slice_
       have k9:Kept (Value.slice A7 n7 c7).ownBlock.toList w8 w9:=(Kept.refl _ w8).grown hg9 fun q hq=>.inl (by rw [hq]; simp)
       have K9:Kept gs w7 w9:=K8.trans ((Kept.refl gs w8).grown hg9 fun q hq=>.inl (hgs2 q hq))
       have hl9:=hl8.kept k9 fun q hq hm=>qbb hp8 hl8 (by decide) q (by simpa using hm) hq
       have h39:Boxed w9 (s+6) 163 (.slice A6 n6 c6):=Blk.kept (g:=s+6) (cs:=#[.slice A6 n6 c6]) h37 K9 (fun h=>by have:=hgl _ h; omega)
       have h49:Boxed w9 (s+7) 164 (.slice A7 n7 c7):=Blk.kept (g:=s+7) (cs:=#[.slice A7 n7 c7]) h47 K9 (fun h=>by have:=hgl _ h; omega)
       refine hK.out _ _ (.inr ⟨⟨_,K9⟩,rfl⟩) ?_
       clear hK K
       try simp only [Act.put,zA,zB,zC]
       refine qba [9] (by kernel_rfl) fun i hi=>?_
       obtain rfl:i=9:=by simpa using hi
       refine qaa rfl fun K hK=>?_
       have t0:=h39.frozen
       have t1:=h39.cell
       go_simp
       refine hK.out _ _ (.inl (by decide)) ?_
       clear hK K
       try simp only [Act.put,zA,zB,zC]
       refine qba [10] (by kernel_rfl) fun i hi=>?_
       obtain rfl:i=10:=by simpa using hi
       refine qaa rfl fun K hK=>?_
       have t2:=(Blk.far (g:=s+7) (cs:=#[.slice A7 n7 c7]) h49 (p:=⟨s+6,0,none⟩) (by show s+7≠s+6; omega) (.slice A8 n8 c8)).frozen
       have t3:=(Blk.far (g:=s+7) (cs:=#[.slice A7 n7 c7]) h49 (p:=⟨s+6,0,none⟩) (by show s+7≠s+6; omega) (.slice A8 n8 c8)).cell 0
       go_simp
       refine hK.out _ _ (.inl (by decide)) ?_
       clear hK K
       try simp only [Act.put,zA,zB,zC]
       refine qma (by kernel_rfl) ?_
       have hKK:Kept ((s+6) :: (s+7) :: gs) w7 ((w9.setCell ⟨s+6,0,none⟩ (.slice A8 n8 c8)).setCell ⟨s+7,0,none⟩ (.slice A9 n9 c9)):=((K9.more fun q hq=>List.mem_cons_of_mem _ (List.mem_cons_of_mem _ hq)).setCell (p:=⟨s+6,0,none⟩) (by simp) _).setCell (p:=⟨s+7,0,none⟩) (by simp) _
       have hks:Kept [s+6,s+7] w9 ((w9.setCell ⟨s+6,0,none⟩ (.slice A8 n8 c8)).setCell ⟨s+7,0,none⟩ (.slice A9 n9 c9)):=((Kept.refl _ _).setCell (p:=⟨s+6,0,none⟩) (by simp) _).setCell (p:=⟨s+7,0,none⟩) (by simp) _
       have b6:Boxed ((w9.setCell ⟨s+6,0,none⟩ (.slice A8 n8 c8)).setCell ⟨s+7,0,none⟩ (.slice A9 n9 c9)) (s+6) 163 (.slice A8 n8 c8):=Blk.far (g:=s+6) (cs:=#[.slice A8 n8 c8]) (Blk.set_ (g:=s+6) (cs:=#[.slice A6 n6 c6]) h39 0 (.slice A8 n8 c8)) (p:=⟨s+7,0,none⟩) (by show s+6≠s+7; omega) _
       have b7:Boxed ((w9.setCell ⟨s+6,0,none⟩ (.slice A8 n8 c8)).setCell ⟨s+7,0,none⟩ (.slice A9 n9 c9)) (s+7) 164 (.slice A9 n9 c9):=Blk.set_ (g:=s+7) (cs:=#[.slice A7 n7 c7]) (Blk.far (g:=s+7) (cs:=#[.slice A7 n7 c7]) h49 (p:=⟨s+6,0,none⟩) (by show s+7≠s+6; omega) _) 0 (.slice A9 n9 c9)
       have bl:=hl9.kept hks fun q hq hm=>by
        have h2:=(hl9.lt q hq).1
        simp at hm
        omega
       have bp:=hp9.kept hks fun q hq hm=>by
        have h2:=(hp9.lt q hq).1
        simp at hm
        omega
       have bz:w9.heap.size<=((w9.setCell ⟨s+6,0,none⟩ (.slice A8 n8 c8)).setCell ⟨s+7,0,none⟩ (.slice A9 n9 c9)).heap.size:=hks.size
       generalize (w9.setCell ⟨s+6,0,none⟩ (.slice A8 n8 c8)).setCell ⟨s+7,0,none⟩ (.slice A9 n9 c9)=W9 at *
       have hch:Chg (s+6) FwT w7 W9:=Chg.of_kept hKK (fun q hq=>by
        rcases List.mem_cons.1 hq with rfl | hq
        ·exact Nat.le_refl _
        ·rcases List.mem_cons.1 hq with rfl | hq
         ·omega
         ·have:=hgl q hq
          omega) (fun q hq cs t fr hb=>by
        rcases List.mem_cons.1 hq with rfl | hq
        ·rw [qvb (g:=s+6) (cs:=#[.slice A6 n6 c6]) h37 hb]
         decide
        ·rcases List.mem_cons.1 hq with rfl | hq
         ·rw [qvb (g:=s+7) (cs:=#[.slice A7 n7 c7]) h47 hb]
          decide
         ·rw [<-hgs] at hq
          simp only [List.mem_append,Option.mem_toList] at hq
          rcases hq with hq | hq
          ·rw [qsb hl7 hq hb]
           decide
          ·rw [qsb hp7 hq hb]
           decide)
       have hFM:=FwI.more (z:=(za,zb,true)) (v:=(Av,nv,cv)) (HFO.out.trans (by rw [HGL.out,HN.out]; rfl)) h7 h8 h9 h10 h11 h12 h13 hk7 hch b6 b7 bl bp ho7 hx7 ha7 hok7
       have hKW:Kept wr W W9:=by
        rw [h1,hgs]
        exact (hk7.more (by simp)).trans hKK
       have hloc:∀ q ∈ (s+6) :: (s+7) :: ((Value.slice A8 n8 c8).ownBlock.toList ++ (Value.slice A9 n9 c9).ownBlock.toList),(q ∈ wr\/W.heap.size<=q)/\q < W9.heap.size:=fun q hq=>by
        have z7:=hk7.size
        have z8:=K8.size
        have z9:=K9.size
        rcases List.mem_cons.1 hq with rfl | hq
        ·exact ⟨.inl (by rw [h1]; simp),by omega⟩
        rcases List.mem_cons.1 hq with rfl | hq
        ·exact ⟨.inl (by rw [h1]; simp),by omega⟩
        simp only [List.mem_append,Option.mem_toList] at hq
        rcases hq with hq | hq
        ·refine ⟨?_,(bl.lt q hq).2⟩
         rcases hc8 with e | e
         ·left
          rw [h1,<-e,hq]
          simp
         ·right
          rw [e] at hq
          injection hq with hq
          rw [<-hq]
          first
           | (show W.heap.size<=((w7.alloc _).alloc _).heap.size; rw [World.size_alloc,World.size_alloc]; omega)
           | (show W.heap.size<=(w7.alloc _).heap.size; rw [World.size_alloc]; omega)
        ·refine ⟨?_,(bp.lt q hq).2⟩
         rcases hc9 with e | e
         ·left
          rw [h1,<-e,hq]
          simp
         ·right
          rw [e] at hq
          injection hq with hq
          rw [<-hq]
          first
           | omega
           | (show W.heap.size<=(w8.alloc _).heap.size; rw [World.size_alloc]; omega)
       gi_wp2
       exact ⟨_,hFM,hKW,hloc⟩
     ·skip
      refine qaa rfl fun K hK=>?_
      go_simp
      refine hK.out _ _ (.inr ⟨⟨_,((Kept.refl _ _).drew).alloc _⟩,rfl⟩) ?_
      clear hK K
      try simp only [Act.put,zA,zB,zC]
      refine qba [3] (by kernel_rfl) fun i hi=>?_
      obtain rfl:i=3:=by simpa using hi
      refine qaa rfl fun K hK=>?_
      go_simp
      refine hK.out _ _ (.inr ⟨⟨_,(((Kept.refl _ _).drew).alloc _).alloc _⟩,rfl⟩) ?_
      clear hK K
      try simp only [Act.put,zA,zB,zC]
      refine qba [4] (by kernel_rfl) fun i hi=>?_
      obtain rfl:i=4:=by simpa using hi
      refine qaa rfl fun K hK=>?_
      refine qpb (v:=.slice A6 n6 c6) (L:=m.map Prod.fst) (M:=[(⟨(0,0),(0,0),yh,false⟩:Kd)]) (base:=s+10) (u:=.slice (some ⟨w7.heap.size+1,0,none⟩) 1 1) qwf rfl _ _ rfl (by rfl) ((hl7.alloc _).alloc _) (by rfl) ((by have h1:=Shp.In.one shKd (w7.alloc (.cells #[.slice Av nv cv] 91)) ⟨(0,0),(0,0),yh,false⟩; rw [World.size_alloc] at h1; exact h1)) hml (by simp; omega) ?_
      intro v8 w8 hl8 hg8 hc8
      obtain ⟨A8,n8,c8,rfl⟩:=hl8.slice_
      have k8:Kept (Value.slice A6 n6 c6).ownBlock.toList w7 w8:=((((Kept.refl _ w7).alloc _).alloc _).drew).grown hg8 fun q hq=>.inl (by rw [hq]; simp)
      have K8:Kept gs w7 w8:=((((Kept.refl gs w7).alloc _).alloc _).drew).grown hg8 fun q hq=>.inl (hgs1 q hq)
      have hp8:=hp7.kept k8 fun q hq hm=>qbb hl7 hp7 (by decide) q (by simpa using hm) hq
      have hs8:s+10<=w8.heap.size:=Nat.le_trans hs7 K8.size
      have hI8:Blk w8 (w7.heap.size) 91 #[.slice Av nv cv]:=(by have h1:=(Blk.new w7 91 #[.slice Av nv cv]).alloc (.cells (shKd.enc ⟨(0,0),(0,0),yh,false⟩).toArray shKd.t); exact h1.kept (((Kept.refl (Value.slice A6 n6 c6).ownBlock.toList _).drew).grown hg8 fun q hq=>.inl (by rw [hq]; simp)) (by simp only [Option.mem_toList]; intro hm; have h2:w7.heap.size < w7.heap.size:=(hl7.lt _ hm).2; omega))
      refine hK.out _ _ (.inr ⟨⟨_,K8⟩,rfl⟩) ?_
      clear hK K
      try simp only [Act.put,zA,zB,zC]
      refine qba [8] (by kernel_rfl) fun i hi=>?_
      obtain rfl:i=8:=by simpa using hi
      refine qaa rfl fun K hK=>?_
      refine qpb (v:=.slice A7 n7 c7) (L:=vs) (M:=[((Av,nv,cv):Sl)]) (base:=s+10) (u:=.slice (some ⟨w7.heap.size,0,none⟩) 1 1) qzg rfl _ _ rfl (by rfl) (hp8) (by rfl) (Shp.In.of_blk (S:=shBs) (x:=(Av,nv,cv)) hI8) hvl (by first | exact hs8 | (simp; omega)) ?_
      intro v9 w9 hp9 hg9 hc9
      obtain ⟨A9,n9,c9,rfl⟩:=hp9.slice_
      have k9:Kept (Value.slice A7 n7 c7).ownBlock.toList w8 w9:=(Kept.refl _ w8).grown hg9 fun q hq=>.inl (by rw [hq]; simp)
      have K9:Kept gs w7 w9:=K8.trans ((Kept.refl gs w8).grown hg9 fun q hq=>.inl (hgs2 q hq))
      have hl9:=hl8.kept k9 fun q hq hm=>qbb hp8 hl8 (by decide) q (by simpa using hm) hq
      have h39:Boxed w9 (s+6) 163 (.slice A6 n6 c6):=Blk.kept (g:=s+6) (cs:=#[.slice A6 n6 c6]) h37 K9 (fun h=>by have:=hgl _ h; omega)
      have h49:Boxed w9 (s+7) 164 (.slice A7 n7 c7):=Blk.kept (g:=s+7) (cs:=#[.slice A7 n7 c7]) h47 K9 (fun h=>by have:=hgl _ h; omega)
      refine hK.out _ _ (.inr ⟨⟨_,K9⟩,rfl⟩) ?_
      clear hK K
      try simp only [Act.put,zA,zB,zC]
      refine qba [9] (by kernel_rfl) fun i hi=>?_
      obtain rfl:i=9:=by simpa using hi
      refine qaa rfl fun K hK=>?_
      have t0:=h39.frozen
      have t1:=h39.cell
      go_simp
      refine hK.out _ _ (.inl (by decide)) ?_
      clear hK K
      try simp only [Act.put,zA,zB,zC]
      refine qba [10] (by kernel_rfl) fun i hi=>?_
      obtain rfl:i=10:=by simpa using hi
      refine qaa rfl fun K hK=>?_
      have t2:=(Blk.far (g:=s+7) (cs:=#[.slice A7 n7 c7]) h49 (p:=⟨s+6,0,none⟩) (by show s+7≠s+6; omega) (.slice A8 n8 c8)).frozen
      have t3:=(Blk.far (g:=s+7) (cs:=#[.slice A7 n7 c7]) h49 (p:=⟨s+6,0,none⟩) (by show s+7≠s+6; omega) (.slice A8 n8 c8)).cell 0
      go_simp
      refine hK.out _ _ (.inl (by decide)) ?_
      clear hK K
      try simp only [Act.put,zA,zB,zC]
      refine qma (by kernel_rfl) ?_
      have hKK:Kept ((s+6) :: (s+7) :: gs) w7 ((w9.setCell ⟨s+6,0,none⟩ (.slice A8 n8 c8)).setCell ⟨s+7,0,none⟩ (.slice A9 n9 c9)):=((K9.more fun q hq=>List.mem_cons_of_mem _ (List.mem_cons_of_mem _ hq)).setCell (p:=⟨s+6,0,none⟩) (by simp) _).setCell (p:=⟨s+7,0,none⟩) (by simp) _
      have hks:Kept [s+6,s+7] w9 ((w9.setCell ⟨s+6,0,none⟩ (.slice A8 n8 c8)).setCell ⟨s+7,0,none⟩ (.slice A9 n9 c9)):=((Kept.refl _ _).setCell (p:=⟨s+6,0,none⟩) (by simp) _).setCell (p:=⟨s+7,0,none⟩) (by simp) _
      have b6:Boxed ((w9.setCell ⟨s+6,0,none⟩ (.slice A8 n8 c8)).setCell ⟨s+7,0,none⟩ (.slice A9 n9 c9)) (s+6) 163 (.slice A8 n8 c8):=Blk.far (g:=s+6) (cs:=#[.slice A8 n8 c8]) (Blk.set_ (g:=s+6) (cs:=#[.slice A6 n6 c6]) h39 0 (.slice A8 n8 c8)) (p:=⟨s+7,0,none⟩) (by show s+6≠s+7; omega) _
      have b7:Boxed ((w9.setCell ⟨s+6,0,none⟩ (.slice A8 n8 c8)).setCell ⟨s+7,0,none⟩ (.slice A9 n9 c9)) (s+7) 164 (.slice A9 n9 c9):=Blk.set_ (g:=s+7) (cs:=#[.slice A7 n7 c7]) (Blk.far (g:=s+7) (cs:=#[.slice A7 n7 c7]) h49 (p:=⟨s+6,0,none⟩) (by show s+7≠s+6; omega) _) 0 (.slice A9 n9 c9)
      have bl:=hl9.kept hks fun q hq hm=>by
       have h2:=(hl9.lt q hq).1
       simp at hm
       omega
      have bp:=hp9.kept hks fun q hq hm=>by
       have h2:=(hp9.lt q hq).1
       simp at hm
       omega
      have bz:w9.heap.size<=((w9.setCell ⟨s+6,0,none⟩ (.slice A8 n8 c8)).setCell ⟨s+7,0,none⟩ (.slice A9 n9 c9)).heap.size:=hks.size
      generalize (w9.setCell ⟨s+6,0,none⟩ (.slice A8 n8 c8)).setCell ⟨s+7,0,none⟩ (.slice A9 n9 c9)=W9 at *
      have hch:Chg (s+6) FwT w7 W9:=Chg.of_kept hKK (fun q hq=>by
       rcases List.mem_cons.1 hq with rfl | hq
       ·exact Nat.le_refl _
       ·rcases List.mem_cons.1 hq with rfl | hq
        ·omega
        ·have:=hgl q hq
         omega) (fun q hq cs t fr hb=>by
       rcases List.mem_cons.1 hq with rfl | hq
       ·rw [qvb (g:=s+6) (cs:=#[.slice A6 n6 c6]) h37 hb]
        decide
       ·rcases List.mem_cons.1 hq with rfl | hq
        ·rw [qvb (g:=s+7) (cs:=#[.slice A7 n7 c7]) h47 hb]
         decide
        ·rw [<-hgs] at hq
         simp only [List.mem_append,Option.mem_toList] at hq
         rcases hq with hq | hq
         ·rw [qsb hl7 hq hb]
          decide
         ·rw [qsb hp7 hq hb]
          decide)
      have hFM:=FwI.more (z:=(za,zb,true)) (v:=(Av,nv,cv)) (HFO.out.trans (by rw [HGL.out,HN.out]; rfl)) h7 h8 h9 h10 h11 h12 h13 hk7 hch b6 b7 bl bp ho7 hx7 ha7 hok7
      have hKW:Kept wr W W9:=by
       rw [h1,hgs]
       exact (hk7.more (by simp)).trans hKK
      have hloc:∀ q ∈ (s+6) :: (s+7) :: ((Value.slice A8 n8 c8).ownBlock.toList ++ (Value.slice A9 n9 c9).ownBlock.toList),(q ∈ wr\/W.heap.size<=q)/\q < W9.heap.size:=fun q hq=>by
       have z7:=hk7.size
       have z8:=K8.size
       have z9:=K9.size
       rcases List.mem_cons.1 hq with rfl | hq
       ·exact ⟨.inl (by rw [h1]; simp),by omega⟩
       rcases List.mem_cons.1 hq with rfl | hq
       ·exact ⟨.inl (by rw [h1]; simp),by omega⟩
       simp only [List.mem_append,Option.mem_toList] at hq
       rcases hq with hq | hq
       ·refine ⟨?_,(bl.lt q hq).2⟩
        rcases hc8 with e | e
        ·left
         rw [h1,<-e,hq]
         simp
        ·right
         rw [e] at hq
         injection hq with hq
         rw [<-hq]
         first
          | (show W.heap.size<=((w7.alloc _).alloc _).heap.size; rw [World.size_alloc,World.size_alloc]; omega)
          | (show W.heap.size<=(w7.alloc _).heap.size; rw [World.size_alloc]; omega)
       ·refine ⟨?_,(bp.lt q hq).2⟩
        rcases hc9 with e | e
        ·left
         rw [h1,<-e,hq]
         simp
        ·right
         rw [e] at hq
         injection hq with hq
         rw [<-hq]
         first
          | omega
          | (show W.heap.size<=(w8.alloc _).heap.size; rw [World.size_alloc]; omega)
      gi_wp2
      exact ⟨_,hFM,hKW,hloc⟩
  | false =>
   have hmem:grpOf (kidsN ns i) (za,zb,false) ∈ q6a ns (kidsN ns i).length (kidsN ns i):=by
    rw [<-grpL_same]
    refine List.mem_map.2 ⟨_,?_,rfl⟩
    obtain ⟨r,hr⟩:=hpre
    rw [<-hr]
    simp
   have hgr:=qkf _ _ _ hmem
   obtain ⟨k0,hk0,hin0⟩:=hgr.2.2 rfl
   have hk0m:k0 ∈ kidsN ns i:=hgr.1 k0 (by rw [hk0]; simp)
   have hk0l:=hkl k0 hk0m
   have hpf:∃ r,q2b ns i=(pre ++ [(za,zb,false)]).map (grpOf (kidsN ns i)) ++ r:=by
    obtain ⟨r,hr⟩:=hpre
    refine ⟨r.map (grpOf (kidsN ns i)),?_⟩
    rw [<-List.map_append,hr]
    exact grpL_same.symm
   have HPF:=Lib.hid hpf
   have HFO:=Lib.hid (show ((pre ++ [(za,zb,false)]).map (grpOf (kidsN ns i))).foldlM (q1a ns lay i font x) []=q1a ns lay i font x m (grpOf (kidsN ns i) (za,zb,false)) by
    rw [List.map_append,List.map_cons,List.map_nil,qxh,h2]
    rfl)
   have HGL:=Lib.hid (show q1a ns lay i font x m (grpOf (kidsN ns i) (za,zb,false))=(q3a ns k0 x).bind fun f=>(must (qia x f.ak).2.2.2).bind fun _=>(lay k0 font (qia x f.ak).2.1 (-1) false).bind fun b =>
     some (m ++ [(⟨withM (oneM f.top) b.2.top,withM (oneM f.bottom) b.2.bottom,w64 (f.up+b.1.h),b.2.through⟩,[b.1.put (qia x f.ak).1 b.1.y])]) by
    have h5:(grpOf (kidsN ns i) (za,zb,false)).1.headD 0=k0:=by rw [hk0]; rfl
    unfold q1a
    rw [if_neg (by show ¬ false=true; decide)]
    dsimp only
    rw [h5]
    rfl)
   have hrow0:W.cell? ⟨b,o+za,none⟩=some (.int .i64 (k0:Nat)):=by
    obtain ⟨b',o',c',e,hb',hc'⟩:=HRW.out.2
    have hl1:(grpOf (kidsN ns i) (za,zb,false)).1.length=1:=by rw [hk0]; rfl
    have h5:=hc' 0 (by omega)
    unfold grpV at e
    injection e with e5
    injection e5 with e5
    injection e5 with e6 e7
    subst e6 e7
    rw [Nat.add_zero] at h5
    rw [h5]
    have h6:(grpOf (kidsN ns i) (za,zb,false)).1[0]'(by omega)=k0:=by simp [hk0]
    exact congrArg (fun q:Nat=>some (Value.int .i64 q)) h6
   have hzz:(0:Int) < ((zb - za:Nat):Int):=by omega
   have hzz2:0 < zb - za:=by omega
   clear hpf hgr hmem hz3 hk0
   have hsW:s+10<=W.heap.size:=h12
   have hfr:=CallsIn.inRound lp (callsIn_wide (n:=4).2 (q6k g B ns next k0 x W HRW.out.1.pg hk0l))
   unfold FrP at hfr
   dsimp only [grpV]
   cases hfl:q3a ns k0 x with
   | none =>
    rw [hfl] at hfr
    have HN:=Lib.hid hfl
    clear hfl
    gi_wp2
    refine ⟨trivial,hfr.mono ?_⟩
    rintro e w7 ⟨hb7,he⟩
    obtain rfl:=he
    obtain ⟨r,hr⟩:=HPF.out
    refine ⟨rfl,Kept.of_below hb7,rfl,?_,h11.trans (hb7.mono (by omega))⟩
    rw [hr]
    refine q3e _ ?_
    rw [HFO.out,HGL.out,HN.out]
    rfl
   | some f =>
    rw [hfl] at hfr
    have HN:=Lib.hid hfl
    clear hfl
    gi_wp2
    refine ⟨trivial,hfr.mono ?_⟩
    rintro e w7 ⟨hb7,he⟩
    obtain rfl:=he
    obtain ⟨⟨is,wd,le,mo,lf,rt,al,ar,ed⟩,tp,bt,up⟩:=f
    have hsv:=fun W=>CallsIn.inRound lp (callsIn_wide (n:=4).2 (qtn x ⟨is,wd,le,mo,lf,rt,al,ar,ed⟩ W))
    unfold Res4 akV at hsv
    dsimp only at hsv HGL
    obtain ⟨sv,hsve⟩:∃ sv,qia x ⟨is,wd,le,mo,lf,rt,al,ar,ed⟩=sv:=⟨_,rfl⟩
    rw [hsve] at hsv
    have HSV:=Lib.hid hsve
    clear hsve
    obtain ⟨sl,sw,sr,se⟩:=sv
    unfold fmV
    dsimp only
    have hm0:=fun W=>CallsIn.inRound lp (callsIn_wide (n:=4).2 (q6c W))
    have hC7:=h9.kept (Kept.of_below (gs:=[]) hb7) (by simp)
    have e38:(w7.alloc (.cells #[.bool is,.int .i64 wd,.int .i64 le,.int .i64 mo,.int .i64 lf,.int .i64 rt,.bool al,.bool ar,.int .i64 ed,.int .i64 tp,.int .i64 bt,.int .i64 up] 78)).cell? ⟨s+3,0,none⟩=some (.int .i64 x):=(hC7.wd.alloc _).cell 0
    gi_wp2
    refine ⟨trivial,(hsv _).mono ?_⟩
    rintro e w8 ⟨rfl,hb8⟩
    by_cases hse:se=0
    case neg =>
     have hmo:=fun W=>CallsIn.inRound lp (callsIn_wide (n:=4).2 (qvc se hse W))
     gi_wp2
     refine ⟨trivial,(hmo _).mono ?_⟩
     rintro e w9 ⟨rfl,rfl⟩
     have hk8:Kept [] W w8:=((Kept.of_below hb7).trans ((Kept.refl [] w7).alloc _)).trans (Kept.of_below hb8)
     obtain ⟨r,hr⟩:=HPF.out
     refine ⟨rfl,hk8.more (by simp),rfl,?_,h11.trans (hk8.to_below (by omega) (by simp))⟩
     rw [hr]
     refine q3e _ ?_
     rw [HFO.out,HGL.out,HN.out]
     show (must (qia x ⟨is,wd,le,mo,lf,rt,al,ar,ed⟩).2.2.2).bind _=none
     rw [HSV.out]
     show (must se).bind _=none
     rw [q4c hse]
     rfl
    subst hse
    have fA:=Blk.new w7 78 #[.bool is,.int .i64 wd,.int .i64 le,.int .i64 mo,.int .i64 lf,.int .i64 rt,.bool al,.bool ar,.int .i64 ed,.int .i64 tp,.int .i64 bt,.int .i64 up]
    have k78:Kept [] w7 w8:=((Kept.refl [] w7).alloc _).trans (Kept.of_below hb8)
    have hC8:=hC7.kept k78 (by simp)
    have f8:=fA.kept (Kept.of_below (gs:=[]) hb8) (by simp)
    have hkW8:Kept [] W w8:=(Kept.of_below hb7).trans k78
    have hpg8:=HRW.out.1.below (hkW8.to_below HRW.out.1.lt (by simp))
    have e80:w8.cell? ⟨s,0,none⟩=some (.pointer (some ⟨g,0,none⟩)):=hC8.page.cell 0
    have e82:w8.cell? ⟨s+2,0,none⟩=some (.int .i64 font):=hC8.font.cell 0
    have hly:=CallsIn.inRound lp (callsIn_wide (n:=4).2 (hlay k0 hk0m hin0 w8 sw hpg8))
    have HW8:=Lib.hid (And.intro hC8 (And.intro f8 (And.intro hkW8 k78)))
    clear e38 hC7 hC8 f8 fA hkW8 k78 hpg8
    cases hla:lay k0 font sw (-1) false with
    | none =>
     rw [hla] at hly
     have HLA:=Lib.hid hla
     clear hla
     gi_wp2
     refine ⟨trivial,(hm0 _).mono ?_⟩
     rintro e w9 ⟨rfl,rfl⟩
     gi_wp2
     refine ⟨trivial,hly.mono ?_⟩
     rintro e w9 ⟨hb9,he⟩
     obtain rfl:=he
     obtain ⟨r,hr⟩:=HPF.out
     have hk9:Kept [] W w9:=HW8.out.2.2.1.trans (Kept.of_below hb9)
     refine ⟨rfl,hk9.more (by simp),rfl,?_,h11.trans (hk9.to_below (by omega) (by simp))⟩
     rw [hr]
     refine q3e _ ?_
     rw [HFO.out,HGL.out,HN.out]
     show (must (qia x ⟨is,wd,le,mo,lf,rt,al,ar,ed⟩).2.2.2).bind (fun _=>(lay k0 font (qia x ⟨is,wd,le,mo,lf,rt,al,ar,ed⟩).2.1 (-1) false).bind _)=none
     rw [HSV.out,HLA.out]
     rfl
    | some y =>
     obtain ⟨bL,tL⟩:=y
     rw [hla] at hly
     have HLA:=Lib.hid hla
     clear hla
     gi_wp2
     refine ⟨trivial,(hm0 _).mono ?_⟩
     rintro e w9 ⟨rfl,rfl⟩
     gi_wp2
     refine ⟨trivial,hly.mono ?_⟩
     rintro e w9 ⟨hb9,p9,fp9,rfl,hbx9,hok9⟩
     obtain ⟨kv,tv,hblk,-⟩:=hbx9.own
     unfold tlC
     have t0:=(hblk.alloc (.cells #[.int .i64 tL.top.1,.int .i64 tL.top.2,.int .i64 tL.bottom.1,.int .i64 tL.bottom.2,.bool tL.through] 87)).frozen
     have t1:(w9.alloc (.cells #[.int .i64 tL.top.1,.int .i64 tL.top.2,.int .i64 tL.bottom.1,.int .i64 tL.bottom.2,.bool tL.through] 87)).cell? ⟨p9,3,none⟩=some (.int .i64 bL.x):=(hblk.alloc _).cell 3
     gi_wp2
     have hz8:=HW8.out.2.2.1.size
     have hz9:=hb9.size
     have hr9:=hbx9.root
     have hz7:=hb7.size
     generalize hwA:World.setCell (World.alloc w9 _) _ _=wA
     have kA9:Kept [p9] w9 wA:=by rw [<-hwA]; exact ((Kept.refl [p9] w9).alloc _).setCell (by simp) _
     have fT:Blk wA w9.heap.size 87 #[.int .i64 tL.top.1,.int .i64 tL.top.2,.int .i64 tL.bottom.1,.int .i64 tL.bottom.2,.bool tL.through]:=by
      rw [<-hwA]
      exact (Blk.new w9 _ _).far (p:=⟨p9,3,none⟩) (by show w9.heap.size≠p9; omega) _
     have k89:Kept [p9] w8 wA:=(Kept.of_below hb9).trans kA9
     have fF:Blk wA w7.heap.size 78 #[.bool is,.int .i64 wd,.int .i64 le,.int .i64 mo,.int .i64 lf,.int .i64 rt,.bool al,.bool ar,.int .i64 ed,.int .i64 tp,.int .i64 bt,.int .i64 up]:=HW8.out.2.1.kept k89 (by have:=HW8.out.2.1.lt; simp; omega)
     have kWA:Kept [] W wA:=HW8.out.2.2.1.fresh k89 (by intro q hq; rw [List.mem_singleton.1 hq]; omega)
     have hbA:BoxAt YT wA W.heap.size d (bL.put sl bL.y) p9 fp9:=(hbx9.put kA9 fun kv tv hb=>by
      rw [<-hwA]
      exact (hb.alloc _).set_ 3 (.int .i64 sl)).base_le hz8
     clear hwA
     obtain ⟨kv2,tv2,fB,-⟩:=hbA.own
     have hrA:=hbA.root
     have hi7:IS [] (s+10) W wA:=IS.of_kept kWA
     obtain ⟨A6,n6,c6,rfl⟩:=h5.slice_
     obtain ⟨A7,n7,c7,rfl⟩:=h6.slice_
     have hlA:=h5.is hi7 (by simp)
     have hpA:=h6.is hi7 (by simp)
     have h3A:Boxed wA (s+6) 163 (.slice A6 n6 c6):=Blk.is (g:=s+6) (cs:=#[.slice A6 n6 c6]) h3 hi7 (by simp)
     have h4A:Boxed wA (s+7) 164 (.slice A7 n7 c7):=Blk.is (g:=s+7) (cs:=#[.slice A7 n7 c7]) h4 hi7 (by simp)
     have hsA:s+10<=wA.heap.size:=Nat.le_trans h12 kWA.size
     obtain ⟨gs,hgs⟩:∃ gs,(Value.slice A6 n6 c6).ownBlock.toList=gs:=⟨_,rfl⟩
     have hgl:∀ q ∈ gs,s+10<=q/\q < W.heap.size:=fun q hq=>by
      rw [<-hgs] at hq
      exact h5.lt q (by simpa using hq)
     have hgp:∀ q,(Value.slice A7 n7 c7).ownBlock=some q->s+10<=q/\q < W.heap.size:=fun q hq=>h6.lt q hq
     have nF:w7.heap.size ∉ gs:=fun h=>by have:=(hgl _ h).2; omega
     have nT:w9.heap.size ∉ gs:=fun h=>by have:=(hgl _ h).2; omega
     have nB:p9 ∉ gs:=fun h=>by have:=(hgl _ h).2; omega
     have c60:∀ V:KW gs wA,V.val.cell? ⟨s+6,0,none⟩=some (.slice A6 n6 c6):=fun V=>(Blk.kept (g:=s+6) (cs:=#[.slice A6 n6 c6]) h3A V.ok (fun h=>by have:=(hgl _ h).1; omega)).cell 0
     have q9:∀ V:KW gs wA,V.val.cell? ⟨w7.heap.size,9,none⟩=some (.int .i64 tp):=fun V=>(fF.kept V.ok nF).cell 9
     have q10:∀ V:KW gs wA,V.val.cell? ⟨w7.heap.size,10,none⟩=some (.int .i64 bt):=fun V=>(fF.kept V.ok nF).cell 10
     have q11:∀ V:KW gs wA,V.val.cell? ⟨w7.heap.size,11,none⟩=some (.int .i64 up):=fun V=>(fF.kept V.ok nF).cell 11
     have u0:∀ V:KW gs wA,V.val.cell? ⟨w9.heap.size,0,none⟩=some (.int .i64 tL.top.1):=fun V=>(fT.kept V.ok nT).cell 0
     have u1:∀ V:KW gs wA,V.val.cell? ⟨w9.heap.size,1,none⟩=some (.int .i64 tL.top.2):=fun V=>(fT.kept V.ok nT).cell 1
     have u2:∀ V:KW gs wA,V.val.cell? ⟨w9.heap.size,2,none⟩=some (.int .i64 tL.bottom.1):=fun V=>(fT.kept V.ok nT).cell 2
     have u3:∀ V:KW gs wA,V.val.cell? ⟨w9.heap.size,3,none⟩=some (.int .i64 tL.bottom.2):=fun V=>(fT.kept V.ok nT).cell 3
     have u4:∀ V:KW gs wA,V.val.cell? ⟨w9.heap.size,4,none⟩=some (.bool tL.through):=fun V=>(fT.kept V.ok nT).cell 4
     have b2:∀ V:KW gs wA,V.val.cell? ⟨p9,2,none⟩=some (.int .i64 bL.h):=fun V=>(fB.kept V.ok nB).cell 2
     have hone:=fun n W=>q1s n W
     unfold mgV at hone
     have hml:(m.map Prod.fst).length+1<=1000000000:=by rw [List.length_map]; have h1:=hpre.length_le; have h2:(grpL ns (kidsN ns i)).length<=(kidsN ns i).length:=qzf _ _; rw [List.length_append] at h1; simp at h1; omega
     have hvl:vs.length+1<=1000000000:=by have h1:=h7.lenV; rw [List.length_map] at h1; rw [List.length_map] at hml; omega
     refine qai [27] [0,1,2,4,5,8,9,11,12,15,16,17,18,19,20,21,22,23] [3,6,7,10,13,14,24,25,26,27] (fun w'=>∃ V:KW gs wA,w'=V.val) (by kernel_rfl) (by kernel_rfl) (by rintro ⟨_,_,h⟩; exact h) (fun c a d v w h=>by cases d <;> exact h) ⟨⟨wA.drew,(Kept.refl _ _).drew⟩,rfl⟩ ?_
     simp only [pickD,List.map_cons,List.map_nil,List.getD_cons_zero,List.getD_cons_succ]
     repeat (go_big_quiet_step (fail))
     refine wpQuiet_nil ?_
     refine qca rfl fun K hK=>?_
     go_simp
     go_at_call 112
     refine (hone tp _).mono ?_
     rintro e wB ⟨rfl,hbKB⟩
     have KB:Kept [] wA wB:=((Kept.refl _ _).drew).trans (Kept.of_below hbKB)
     refine hK.out _ _ (.inr ⟨⟨_,(KB.more (by simp))⟩,rfl⟩) ?_
     clear hK K
     try simp only [Act.put,zA,zB,zC]
     refine qca rfl fun K hK=>?_
     go_simp
     refine hK.out _ _ (.inr ⟨⟨_,((KB.more (by simp))).alloc _⟩,rfl⟩) ?_
     clear hK K
     try simp only [Act.put,zA,zB,zC]
     refine qca rfl fun K hK=>?_
     have gKC:=Blk.new wB 85 (mgC (oneM tp) ++ mgC tL.top).toArray
     go_simp
     go_at_call 111
     refine (qgf (oneM tp) tL.top wB.heap.size _ gKC).mono ?_
     rintro e wC ⟨rfl,hbKC⟩
     have KC:Kept [] wA wC:=(KB.alloc _).trans (Kept.of_below hbKC)
     refine hK.out _ _ (.inr ⟨⟨_,(KC.more (by simp))⟩,rfl⟩) ?_
     clear hK K
     try simp only [Act.put,zA,zB,zC]
     refine qca rfl fun K hK=>?_
     go_simp
     go_at_call 112
     refine (hone bt _).mono ?_
     rintro e wD ⟨rfl,hbKD⟩
     have KD:Kept [] wA wD:=(KC).trans (Kept.of_below hbKD)
     refine hK.out _ _ (.inr ⟨⟨_,(KD.more (by simp))⟩,rfl⟩) ?_
     clear hK K
     try simp only [Act.put,zA,zB,zC]
     refine qca rfl fun K hK=>?_
     go_simp
     refine hK.out _ _ (.inr ⟨⟨_,((KD.more (by simp))).alloc _⟩,rfl⟩) ?_
     clear hK K
     try simp only [Act.put,zA,zB,zC]
     refine qca rfl fun K hK=>?_
     have gKE:=Blk.new wD 85 (mgC (oneM bt) ++ mgC tL.bottom).toArray
     go_simp
     go_at_call 111
     refine (qgf (oneM bt) tL.bottom wD.heap.size _ gKE).mono ?_
     rintro e wE ⟨rfl,hbKE⟩
     have KE:Kept [] wA wE:=(KD.alloc _).trans (Kept.of_below hbKE)
     refine hK.out _ _ (.inr ⟨⟨_,(KE.more (by simp))⟩,rfl⟩) ?_
     clear hK K
     try simp only [Act.put,zA,zB,zC]
     refine qca rfl fun K hK=>?_
     go_simp
     refine hK.out _ _ (.inr ⟨⟨_,(KE.more (by simp))⟩,rfl⟩) ?_
     clear hK K
     try simp only [Act.put,zA,zB,zC]
     refine qca rfl fun K hK=>?_
     go_simp
     refine hK.out _ _ (.inr ⟨⟨_,((KE.more (by simp))).alloc _⟩,rfl⟩) ?_
     clear hK K
     try simp only [Act.put,zA,zB,zC]
     refine qca rfl fun K hK=>?_
     have hlE:=hlA.kept KE (by simp)
     refine qpb (v:=.slice A6 n6 c6) (L:=m.map Prod.fst) (M:=[(⟨withM (oneM tp) tL.top,withM (oneM bt) tL.bottom,w64 (up+bL.h),tL.through⟩:Kd)]) (base:=s+10) (u:=.slice (some ⟨wE.heap.size,0,none⟩) 1 1) qwf rfl _ _ rfl (by rfl) (hlE.alloc _) (by rfl) (Shp.In.one shKd wE ⟨withM (oneM tp) tL.top,withM (oneM bt) tL.bottom,w64 (up+bL.h),tL.through⟩) hml (by have:=KE.size; simp; omega) ?_
     intro v8 wG hl8 hg8 hc8
     obtain ⟨A8,n8,c8,rfl⟩:=hl8.slice_
     have K8:Kept gs wA wG:=((KE.more (by simp)).alloc _).grown hg8 fun q hq=>.inl (by rw [<-hgs,hq]; simp)
     have h3G:Boxed wG (s+6) 163 (.slice A6 n6 c6):=Blk.kept (g:=s+6) (cs:=#[.slice A6 n6 c6]) h3A K8 (fun h=>by have:=(hgl _ h).1; omega)
     refine hK.out _ _ (.inr ⟨⟨_,K8⟩,rfl⟩) ?_
     clear hK K
     try simp only [Act.put,zA,zB,zC]
     refine qca rfl fun K hK=>?_
     have t0:=h3G.frozen
     have t1:=h3G.cell
     go_simp
     refine hK.out _ _ (.inl (by decide)) ?_
     clear hK K
     refine qla ?_
     generalize hwH:World.setCell wG _ _=wH
     have kH:Kept ((s+6) :: gs) wA wH:=by rw [<-hwH]; exact (K8.more fun q hq=>List.mem_cons_of_mem _ hq).setCell (p:=⟨s+6,0,none⟩) (by simp) _
     have kGH:Kept [s+6] wG wH:=by rw [<-hwH]; exact (Kept.refl _ _).setCell (p:=⟨s+6,0,none⟩) (by simp) _
     have h6H:Boxed wH (s+6) 163 (.slice A8 n8 c8):=by rw [<-hwH]; exact Blk.set_ (g:=s+6) (cs:=#[.slice A6 n6 c6]) h3G 0 _
     have h7H:Boxed wH (s+7) 164 (.slice A7 n7 c7):=Blk.kept (g:=s+7) (cs:=#[.slice A7 n7 c7]) h4A kH (by
      intro hm
      rcases List.mem_cons.1 hm with e | hm
      ·omega
      ·have:=(hgl _ hm).1; omega)
     have hlH:=hl8.kept kGH (fun q hq hm=>by have:=(hl8.lt q hq).1; simp at hm; omega)
     have hpH:=hpA.kept kH (fun q hq hm=>by
      rcases List.mem_cons.1 hm with e | hm
      ·have:=(hpA.lt _ hq).1; omega
      ·exact qbb hlA hpA (by decide) q (by rw [<-hgs] at hm; simpa using hm) hq)
     have hxH:BoxAt YT wH W.heap.size d (bL.put sl bL.y) p9 fp9:=hbA.kept kH (fun q hq hm=>by
      have:=hbA.mem_lt q hq
      rcases List.mem_cons.1 hm with e | hm
      ·omega
      ·have:=(hgl _ hm).2; omega)
     have hsH:s+10<=wH.heap.size:=Nat.le_trans hsA kH.size
     have v7:=h7H.cell
     clear hwH c60 q9 q10 q11 u0 u1 u2 u3 u4 b2 hone
     gi_upto_region 18 with fail
     refine q6p (by kernel_rfl) (by rintro ⟨_,_,h⟩; exact h) ?_
     go_wp2_with (at_builtin; refine qsd (v:=.slice A7 n7 c7) (L:=vs) (base:=s+10) qzg (wH.alloc (.cells #[.pointer (some ⟨p9,0,none⟩)] 83)) (some ⟨wH.heap.size,0,none⟩,1,1) rfl _ _ rfl rfl (hpH.alloc _) (by rw [World.size_alloc]; rfl) hvl (by rw [World.size_alloc]; omega) ?_; intro v9 wI hp9 hg9 hc9; obtain ⟨A9,n9,c9,rfl⟩:=hp9.slice_; have h7I:Boxed wI (s+7) 164 (.slice A7 n7 c7):=((h7H.alloc _).alloc _).kept hg9 (fun e=>by have:=(hgp (s+7) e.symm).1; omega); have y7:=h7I.frozen; have y7c:=h7I.cell)
     generalize hwJ:World.setCell wI _ _=W9
     have hbt:=Shp.Owns.built (shPt YT.ptr) wH W.heap.size (Nat.le_trans kWA.size kH.size) [p9] (by simp [maxLen])
     have kHI:Kept (Value.slice A7 n7 c7).ownBlock.toList (wH.alloc (.cells #[.pointer (some ⟨p9,0,none⟩)] 83)) wI:=((Kept.refl _ _).alloc _).grown hg9 fun q hq=>.inl (by rw [hq]; simp)
     have kIJ:Kept [s+7] wI W9:=by rw [<-hwJ]; exact (Kept.refl _ _).setCell (p:=⟨s+7,0,none⟩) (by simp) _
     have kHJ:Kept ((s+7) :: (Value.slice A7 n7 c7).ownBlock.toList) wH W9:=((((Kept.refl _ wH).alloc _).trans (kHI.more fun q hq=>List.mem_cons_of_mem _ hq)).trans (kIJ.more (by simp)))
     have b7:Boxed W9 (s+7) 164 (.slice A9 n9 c9):=by rw [<-hwJ]; exact Blk.set_ (g:=s+7) (cs:=#[.slice A7 n7 c7]) h7I 0 _
     have b6:Boxed W9 (s+6) 163 (.slice A8 n8 c8):=Blk.kept (g:=s+6) (cs:=#[.slice A8 n8 c8]) h6H kHJ (by
      intro hm
      rcases List.mem_cons.1 hm with e | hm
      ·omega
      ·have:=(hgp _ (by simpa using hm)).1; omega)
     have bl:=hlH.kept kHJ fun q hq hm=>by
      rcases List.mem_cons.1 hm with e | hm
      ·have:=(hlH.lt _ hq).1; omega
      ·exact qbb hlH hpH (by decide) q hq (by simpa using hm)
     have bp:=hp9.kept kIJ fun q hq hm=>by
      have:=(hp9.lt _ hq).1
      simp at hm
      omega
     have ho2:(shPt YT.ptr).Owns W9 W.heap.size (slV (some ⟨wH.heap.size,0,none⟩,1,1)) [p9]:=(hbt.kept kHI fun q hq hm=>by
      have h1:=(hgp q (by simpa using hm)).2
      have h2:=kWA.size
      have h3:=kH.size
      injection hq with hq
      simp only at hq
      omega).kept kIJ fun q hq hm=>by
      injection hq with hq
      simp only [List.mem_singleton] at hq hm
      omega
     have hx2:BoxAt YT W9 W.heap.size d (bL.put sl bL.y) p9 fp9:=hxH.kept kHJ fun q hq hm=>by
      have:=hxH.mem_lt q hq
      rcases List.mem_cons.1 hm with e | hm
      ·omega
      ·have:=(hgp q (by simpa using hm)).2; omega
     have kAJ:Kept ((s+6) :: (s+7) :: (gs ++ (Value.slice A7 n7 c7).ownBlock.toList)) wA W9:=(kH.more (by simp +contextual)).trans (kHJ.more (by simp +contextual))
     clear hwJ
     have hch:Chg (s+6) FwT wA W9:=Chg.of_kept kAJ (fun q hq=>by
      rcases List.mem_cons.1 hq with rfl | hq
      ·exact Nat.le_refl _
      rcases List.mem_cons.1 hq with rfl | hq
      ·omega
      rcases List.mem_append.1 hq with hq | hq
      ·have:=(hgl q hq).1; omega
      ·have:=(hgp q (by simpa using hq)).1; omega) (fun q hq cs t fr hb=>by
      rcases List.mem_cons.1 hq with rfl | hq
      ·rw [qvb (g:=s+6) (cs:=#[.slice A6 n6 c6]) h3A hb]
       decide
      rcases List.mem_cons.1 hq with rfl | hq
      ·rw [qvb (g:=s+7) (cs:=#[.slice A7 n7 c7]) h4A hb]
       decide
      rcases List.mem_append.1 hq with hq | hq
      ·rw [qsb hlA (by rw [<-hgs] at hq; simpa using hq) hb]
       decide
      ·rw [qsb hpA (by simpa using hq) hb]
       decide)
     have hFM:=FwI.more2 (z:=(za,zb,false)) (v:=(some ⟨wH.heap.size,0,none⟩,1,1)) (HFO.out.trans (by
      rw [HGL.out,HN.out]
      show (must (qia x ⟨is,wd,le,mo,lf,rt,al,ar,ed⟩).2.2.2).bind (fun _=>(lay k0 font (qia x ⟨is,wd,le,mo,lf,rt,al,ar,ed⟩).2.1 (-1) false).bind _)=_
      rw [HSV.out,HLA.out]
      rfl)) h7 h8 h9 h10 h11 h12 h13 kWA hch b6 b7 bl bp ho2 ((BoxesAt.nil d).snoc hx2 (by simp)) (fun q hq hm=>by
       injection hq with hq
       have h1:=(hxH.mem_lt q (by simpa using hm)).2
       simp only at hq
       omega) (fun b hb=>by rw [List.mem_singleton.1 hb]; exact q3h hok9 _ _)
     have hKW:Kept wr W W9:=by
      rw [h1]
      rw [<-hgs] at kAJ
      exact (kWA.more (by simp)).trans kAJ
     have hloc:∀ q ∈ (s+6) :: (s+7) :: ((Value.slice A8 n8 c8).ownBlock.toList ++ (Value.slice A9 n9 c9).ownBlock.toList),(q ∈ wr\/W.heap.size<=q)/\q < W9.heap.size:=fun q hq=>by
      have z7:=kWA.size
      have z8:=kH.size
      have z9:=kHJ.size
      have z6:=KE.size
      rcases List.mem_cons.1 hq with rfl | hq
      ·exact ⟨.inl (by rw [h1]; simp),by omega⟩
      rcases List.mem_cons.1 hq with rfl | hq
      ·exact ⟨.inl (by rw [h1]; simp),by omega⟩
      simp only [List.mem_append,Option.mem_toList] at hq
      rcases hq with hq | hq
      ·refine ⟨?_,(bl.lt q hq).2⟩
       rcases hc8 with e | e
       ·left
        rw [h1,<-e,hq]
        simp
       ·right
        rw [e] at hq
        injection hq with hq
        rw [<-hq,World.size_alloc]
        omega
      ·refine ⟨?_,(bp.lt q hq).2⟩
       rcases hc9 with e | e
       ·left
        rw [h1,<-e,hq]
        simp
       ·right
        rw [e] at hq
        injection hq with hq
        rw [<-hq,World.size_alloc,World.size_alloc]
        omega
     gi_wp2
     exact ⟨_,hFM,hKW,hloc⟩
 case done =>
  rintro D wr W hD ⟨lv,pv,m,vs,pss,fks,h1,h2,h3,h4,h5,h6,h7,h8,h9,h10,h11,h12,h13⟩ hK
  have hml3:m.length<=300:=by
   have h2':(grpL ns (kidsN ns i)).length<=(kidsN ns i).length:=qzf _ _
   have h3':=qpi ns i
   omega
  have hbxW:=h7.boxes
  have hpgW:=H.out.1.below (h11.mono hBw)
  have hopen:=q2s g B ns next i apart W hpgW.pg hi
  have hDl:D < W.heap.size:=(Array.getElem?_eq_some_iff.1 hK).1
  have hf2:(q2b ns i).foldlM (q1a ns lay i font x) []=some m:=by rw [<-h2]; congr 1; exact grpL_same.symm
  have hPPl:pss.flatten.length<=1000000:=by
   have h2':=qbt hf2
   have h3':=qpi ns i
   rw [hbxW.lenP]
   omega
  have HF2:=Lib.hid hf2
  clear hf2 h2
  have e0:W.cell? ⟨s,0,none⟩=some (.pointer (some ⟨g,0,none⟩)):=h9.page.cell 0
  have e1:W.cell? ⟨s+1,0,none⟩=some (.int .i64 i):=h9.at_.cell 0
  obtain ⟨A7,n7,c7,rfl⟩:=h6.slice_
  obtain rfl:=q1f h6
  refine qda (n:=6) (wpIn_wide.2 ?_)
  go_upto_region 20 with (go_at_call 113; refine hopen.mono ?_; rintro e w5 ⟨rfl,hb5⟩)
  have h35:Blk w5 (s+6) 163 #[lv]:=Blk.below (g:=s+6) (cs:=#[lv]) h3 hb5 (Blk.lt (g:=s+6) (cs:=#[lv]) h3)
  have f6:w5.cell? ⟨s+6,0,none⟩=some lv:=h35.cell 0
  have hkd:=q3r h5.in_
  obtain ⟨P,se,hPe⟩:∃ P se,q0a (m.map (·.1)) (openL ns i apart).1 (openL ns i apart).2=(P,se):=⟨_,_,rfl⟩
  have hst:=qft (m.map (·.1)) (openL ns i apart).1 (openL ns i apart).2 lv W.heap.size w5 (hkd.below hb5) hb5.size
  rw [hPe] at hst
  unfold q7k skC at hst
  dsimp only at hst
  have HPE:=Lib.hid hPe
  clear hPe hkd e0 e1 hopen
  go_upto_region 21 with (go_at_call 114; refine hst.mono ?_; rintro e w6 ⟨av,rfl,hb6,hav⟩; obtain ⟨Aa,ca,rfl⟩:=hav.form)
  generalize hW0:World.alloc w6 _=W0
  have gS:Blk W0 w6.heap.size 177 #[.slice Aa P.at_.length ca,.int .i64 P.height,.int .i64 P.top.1,.int .i64 P.top.2,.int .i64 P.bottom.1,.int .i64 P.bottom.2,.bool P.through]:=by rw [<-hW0]; exact Blk.new _ _ _
  have kW0:Kept [] W W0:=by rw [<-hW0]; exact ((Kept.of_below hb5).trans (Kept.of_below hb6)).alloc _
  have hav0:Owns W0 w5.heap.size (.slice Aa P.at_.length ca) P.at_:=by rw [<-hW0]; exact hav.alloc _
  have hz56:W.heap.size<=w5.heap.size/\w5.heap.size<=w6.heap.size:=⟨hb5.size,hb6.size⟩
  clear hW0 f6 h35 hb5 hb6 hav hst
  have HZ:=Lib.hid hz56
  clear hz56
  have hK0:W0.heap[D]?=some (.deferred (some [])):=(kW0.block D hDl (by simp)).trans hK
  have hsW0:s+10<=W0.heap.size:=Nat.le_trans h12 kW0.size
  by_cases hse:se=0
  case neg =>
   have hmo:=qvc se hse W0
   go_wp2_with (go_at_call 51; refine hmo.mono ?_; rintro e w7 ⟨rfl,rfl⟩)
   refine ⟨by simp,.inl ⟨_,_,rfl,run_takeDeferred hK0,?_⟩⟩
   have h3':Below w.heap.size w W0:=by rw [HSE.out]; exact h11.trans (kW0.to_below (by omega) (by simp))
   refine ⟨h3'.trans (belowK_b (w:=w) (Nat.le_refl _) W0 D _ _ (by have:=HSE.out; omega) hK0 rfl rfl),?_⟩
   rw [show flowL ns lay i font x by_ apart=none by
    unfold flowL
    rw [HF2.out]
    show (must (q0a (m.map (·.1)) (openL ns i apart).1 (openL ns i apart).2).2).bind _=none
    rw [HPE.out]
    show (must se).bind _=none
    rw [q4c hse]
    rfl]
  subst hse
  have hal:P.at_.length=m.length:=by
   have:=qtu (l:=m.map (·.1)) HPE.out
   rw [this,List.length_map]
  have hvm:vs.length=m.length:=by rw [h7.lenV,List.length_map]
  have hpm:pss.length=m.length:=by rw [h7.lenP,List.length_map]
  have hlens:∀ i (h1:i < pss.length) (h2:i < m.length),pss[i].length=m[i].2.length:=fun i h1 h2=>by
   rw [h7.lens i h1 (by rw [List.length_map]; exact h2),List.getElem_map]
  have hm0:=q6c W0
  have f7:W0.cell? ⟨s+7,0,none⟩=some (.slice A7 vs.length c7):=(Blk.kept (g:=s+7) (cs:=#[.slice A7 vs.length c7]) h4 kW0 (by simp)).cell 0
  have hnb:∀ q ∈ (s+5) :: fks.flatten,s+5<=q/\q < W.heap.size:=fun q hq=>by
   rcases List.mem_cons.1 hq with rfl | hq
   ·exact ⟨Nat.le_refl _,by omega⟩
   ·have:=hbxW.mem_lt q hq
    omega
  go_wp2_with (go_at_call 51; refine hm0.mono ?_; rintro e w7 ⟨rfl,rfl⟩)
  go_loopw [149] (FpR W0 (s+10) (s+5) d i x pss.flatten fks m P.at_) (fun q _=>m.length - (intOf q).toNat)
  case atStart=>exact ⟨0,Nat.zero_le _,rfl,.slice none 0 0,by simpa [dnL,restL] using h7.boxes.kept kW0 (by simp),h10.kept kW0 (by simp),by simpa [dnL] using Shp.Owns.nil (S:=shPt YT.ptr) W0 W0.heap.size,Kept.refl _ _⟩
  case round =>
   obtain ⟨j,hj,rfl,kv,hBX,hO,hkv,hkr⟩:=hrel
   rcases Nat.lt_or_ge j m.length with hjt | hjt
   ·skip
    have hz1:(j:Int) < (vs.length:Int):=by omega
    obtain ⟨pb,rfl⟩:=h6.addr (by omega)
    have hjv:j < vs.length:=by omega
    have hjp:j < pss.length:=by omega
    have hja:j < P.at_.length:=by omega
    have hrow:=h7.row j hjv hjp
    have hapart:=h7.apart j hjv
    have hc7:wr.cell? ⟨pb,j,none⟩=some (slV vs[j]):=by
     have h1:=h6.cellr (i:=j) hjv (j:=0) (show 0 < 1 by decide)
     have hb:=h6.lt pb rfl
     have hn:=q8u h6 hbxW (by decide) (by decide) (by decide) pb rfl
     refine (World.cell?_of_block (a:=⟨pb,j,none⟩) (hkr.block pb (Nat.lt_of_lt_of_le hb.2 kW0.size) (by
      intro hm
      rcases List.mem_cons.1 hm with e | hm
      ·omega
      ·exact hn hm))).trans ((World.cell?_of_block (a:=⟨pb,j,none⟩) (kW0.block pb hb.2 (by simp))).trans ?_)
     have e:j * shBs.k+0=j:=by show j * 1+0=j; omega
     rw [e] at h1
     exact h1
    obtain ⟨⟨Av,nv,cv⟩,hvj⟩:∃ z:Sl,z=vs[j]:=⟨_,rfl⟩
    rw [<-hvj] at hc7 hrow hapart
    replace hc7:wr.cell? ⟨pb,j,none⟩=some (.slice Av nv cv):=hc7
    replace hrow:(shPt YT.ptr).Owns W (s+10) (.slice Av nv cv) pss[j]:=hrow
    replace hapart:∀ q,(Value.slice Av nv cv).ownBlock=some q->q ∉ fks.flatten:=hapart
    obtain rfl:=q1f hrow
    have hlb:=hlens j hjp hjt
    have HR:=Lib.hid (And.intro hrow hapart)
    have hdl:=qvh hal hpm hlens j (by omega)
    have HD:=Lib.hid hdl
    clear hdl hvj hrow hapart
    go_wp2_with fail
    go_loopw [156] (FqR W0 (s+10) (s+5) d i x pss.flatten fks (dnL m P.at_ j) m[j].2 (restL m (j+1)) P.at_[j]) (fun q _=>m[j].2.length - (intOf q).toNat)
    case atStart=>exact ⟨0,Nat.zero_le _,rfl,kv,by rw [qhs,<-qqr hjt]; exact hBX,hO,hkv,hkr⟩
    case round =>
     obtain ⟨k,hk,rfl,kv2,hBX2,hO2,hkv2,hkr2⟩:=hrel
     rcases Nat.lt_or_ge k m[j].2.length with hkt | hkt
     ·skip
      have hkp:k < pss[j].length:=by omega
      have hz2:(k:Int) < (pss[j].length:Int):=by omega
      obtain ⟨q,hq⟩:∃ q,q=(dnL m P.at_ j).length+k:=⟨_,rfl⟩
      have hPq:pss.flatten[q]?=some (pss[j][k]):=by rw [hq,HD.out]; exact qrn hjp hkp
      have hLq:=qox (n:=P.at_[j]) hkt (dnL m P.at_ j) (restL m (j+1))
      rw [<-hq] at hLq hkv2
      have hql:q < (dnL m P.at_ j ++ (midL m[j].2 P.at_[j] k ++ restL m (j+1))).length:=(List.getElem?_eq_some_iff.1 hLq).1
      have hfl:=hBX2.lenF
      have hfq:fks[q]?=some (fks[q]'(by omega)):=List.getElem?_eq_getElem _
      have hset:=q1v (n:=P.at_[j]) hkt (dnL m P.at_ j) (restL m (j+1))
      rw [<-hq] at hset
      obtain ⟨rb,cv',hrv,hrc⟩:=qen HR.out.1 (by omega)
      injection hrv with hrv1 hrv2 hrv3
      subst hrv1 hrv3
      obtain ⟨ab,ca',hav1,hab1,hab2,habc⟩:=qup hav0 (by omega)
      injection hav1 with hav1 hav2 hav3
      subst hav1 hav3
      have hrbl:=HR.out.1.lt rb rfl
      have hrbn:=HR.out.2 rb rfl
      have hRr:wr.cell? ⟨rb,0+k,none⟩=some (.pointer (some ⟨pss[j][k],0,none⟩)):=by
       refine (World.cell?_of_block (a:=⟨rb,0+k,none⟩) (hkr2.block rb (Nat.lt_of_lt_of_le hrbl.2 kW0.size) (by
        intro hm
        rcases List.mem_cons.1 hm with e | hm
        ·omega
        ·exact hrbn hm))).trans ((World.cell?_of_block (a:=⟨rb,0+k,none⟩) (kW0.block rb hrbl.2 (by simp))).trans (hrc k hkp))
      have hfor:∀ V:World,Kept ((s+5) :: (kv2.ownBlock.toList ++ fks[q]'(by omega))) wr V->V.cell? ⟨w6.heap.size,0,none⟩=some (.slice (some ⟨ab,0,none⟩) P.at_.length ca)/\V.cell? ⟨ab,0+j,none⟩=some (.int .i64 P.at_[j]):=by
       intro V hV
       have hV0:Kept ((s+5) :: fks.flatten) W0 V:=hkr2.freshM hV fun z hz=>by
        rcases List.mem_cons.1 hz with rfl | hz
        ·exact .inl (by simp)
        rcases List.mem_append.1 hz with hz | hz
        ·exact .inr (hkv2.lt z (by simpa using hz)).1
        ·exact .inl (List.mem_cons_of_mem _ (qfd hfq hz))
       have hz:=HZ.out
       refine ⟨(gS.kept hV0 fun hm=>?_).cell 0,(World.cell?_of_block (a:=⟨ab,0+j,none⟩) (hV0.block ab hab2 fun hm=>?_)).trans (habc j hja)⟩
       ·have:=(hnb _ hm).2; omega
       ·have:=(hnb _ hm).2; omega
      have hk6:k < 1000000:=by have:=hBX2.lenP; omega
      have HC:=Lib.hid (And.intro hset hq)
      clear hset hq hrc habc
      go_upto_if 157 with fail
      rename_i Kx hKx
      refine wp_cond_true rfl (wp_skip (hKx _ _ ?_))
      refine wp_seq (wp_block ?_)
      refine Code.wp_mono NoPanic.imp ?_
      refine qzr _ d (s+10) W0.heap.size (s+5) w6.heap.size q j k i x _ pss.flatten fks m[j].2[k] pss[j][k] (fks[q]'(by omega)) kv2 ab 0 P.at_.length ca P.at_[j] rb 0 m[j].2.length cv wr _ hBX2 hql hLq hPq hfq hO2 (by omega) hkv2 (fun z hz=>Nat.lt_of_lt_of_le (hbxW.mem_lt z hz).2 kW0.size) hsW0 hkr2.size hPPl hfor hja hRr hkt _ _ _ _ _ _ _ _ _ _ _ _ _ _ _ _ _ _ _ _ _ _ _ _ _ _ _ _ _ _ _ _ _ _ _ _ _ _ _ _ _ _ _ _ _ _ _ _ _ _ _ _ _ _ _ _ _ _ _ _ _ _ _ _ _ _ _ _ _ _ _ _ _ _ _ _ _ _ _ _ _ _ _ _ _ _ _ _ _ _ _ _ _ _ _ _ _ _ _ _ _ _ _ _ _ _ _ _ _ _ _ _ _ _ _ _ _ _ _ _ _ _ _ _ _ _ _ _ _ _ _ _ _ _ _ _ _ _ _ _ _ _ _ _ _ _ _ _ _ _ _ _ _ _ _ _ _ _ _ _ _ _ _ _ _ _ _ _ _ _ _ _ _ _ _ _ _ _ _ _ _ _ _ _ _ _ _ _ _ _ _ _ _ _ _ _ _ _ _ _ _ _ _ _ _ _ _ _ _ _ _ _ _ _ _ _ _ _ _ _ _ ?_ ?_
      ·intro c a e v w h
       cases e <;> exact h
      ·intro x37 x38 x158 x159 x160 x161 x162 x163 x164 x165 x166 x167 x168 x169 x170 x171 x172 x173 x174 x175 x176 x177 x178 x179 x180 x181 x182 x183 x184 x185 x186 x187 x188 x189 x190 x191 x192 x193 x194 x195 x196 x197 x198 x199 x200 x201 x202 x203 x204 x205 x206 w2 kv3 hB3 hO3 hkv3 hk3
       have hk3':Kept ((s+5) :: fks.flatten) W0 w2:=hkr2.freshM hk3 fun z hz=>by
        rcases List.mem_cons.1 hz with rfl | hz
        ·exact .inl (by simp)
        rcases List.mem_append.1 hz with hz | hz
        ·exact .inr (hkv2.lt z (by simpa using hz)).1
        ·exact .inl (List.mem_cons_of_mem _ (qfd hfq hz))
       rw [HC.out.1] at hB3
       clear hfor hk3
       refine NoPanic.normal ?_
       go_wp2_with fail
       have hqq:=HC.out.2
       rw [hqq,Nat.add_assoc] at hkv3
       exact ⟨⟨k+1,hkt,by go_num,kv3,hB3,hO3,hkv3,hk3'⟩,by simp [intOf]; omega⟩
     ·obtain rfl:k=m[j].2.length:=by omega
      have hz2:¬ ((m[j].2.length:Nat):Int) < (pss[j].length:Int):=by omega
      go_wp2_with fail
      have he:dnL m P.at_ j ++ (midL m[j].2 P.at_[j] m[j].2.length ++ restL m (j+1))=dnL m P.at_ (j+1) ++ restL m (j+1):=by
       rw [q9u,qhh hjt hja,List.append_assoc]
      have hcn:(dnL m P.at_ j).length+m[j].2.length=(dnL m P.at_ (j+1)).length:=by
       rw [qhh hjt hja,List.length_append,List.length_map]
      rw [he] at hBX2
      rw [hcn] at hkv2
      exact ⟨⟨j+1,hjt,by go_num,kv2,hBX2,hO2,hkv2,hkr2⟩,by simp [intOf]; omega⟩
   ·skip
    obtain rfl:j=m.length:=by omega
    have hz1:¬ ((m.length:Nat):Int) < (vs.length:Int):=by omega
    have hkids:dnL m P.at_ m.length ++ restL m m.length=(m.zip P.at_).flatMap fun g=>g.1.2.map (downB g.2):=by rw [q9w,List.append_nil,q3s hal]
    obtain ⟨KS,hKS⟩:∃ KS,KS=(m.zip P.at_).flatMap fun g=>g.1.2.map (downB g.2):=⟨_,rfl⟩
    rw [hkids,<-hKS] at hBX
    have hkl:(dnL m P.at_ m.length).length=pss.flatten.length:=by
     have:=qvh hal hpm hlens m.length (Nat.le_refl _)
     rw [this,List.take_of_length_le (by omega)]
    rw [hkl,List.take_of_length_le (Nat.le_refl _)] at hkv
    have HKS:=Lib.hid hKS
    clear hkids hkl hKS
    have hkb:Below (s+5) W wr:=(kW0.to_below (by omega) (by simp)).trans (hkr.to_below (by omega) fun q hq=>(hnb q hq).1)
    have hpg2:=hpgW.below (hkb.mono (by omega))
    have h9r:=(h9.kept kW0 (by simp)).kept hkr fun q hq=>(hnb q hq).1
    have hz:=HZ.out
    have gSr:=gS.kept hkr (fun hm=>by have:=(hnb _ hm).2; omega)
    have hKr:wr.heap[D]?=some (.deferred (some [])):=(hkr.block D (Nat.lt_of_lt_of_le hDl kW0.size) (fun hm=>by
     rcases List.mem_cons.1 hm with e | hm
     ·have:=HSE.out; omega
     ·exact q1k hbxW hK hm)).trans hK0
    have hht:=qnp g B ns next i P.height by_ wr hpg2.pg hi
    unfold OvP at hht
    have e0:wr.cell? ⟨s,0,none⟩=some (.pointer (some ⟨g,0,none⟩)):=h9r.page.cell 0
    have e1:wr.cell? ⟨s+1,0,none⟩=some (.int .i64 i):=h9r.at_.cell 0
    have e2:wr.cell? ⟨w6.heap.size,1,none⟩=some (.int .i64 P.height):=gSr.cell 1
    have hokK:∀ c ∈ KS,okT ns.length d c:=fun c hc=>by
     rw [HKS.out] at hc
     obtain ⟨z,hz,hc⟩:=List.mem_flatMap.1 hc
     obtain ⟨b,hb,rfl⟩:=List.mem_map.1 hc
     exact qju (h8 z.1 (List.of_mem_zip (show (z.1,z.2) ∈ _ from hz)).1 b hb) _
    cases hhl:qnb ns i P.height by_ with
    | none =>
     rw [hhl] at hht
     have HN:=Lib.hid hhl
     clear hhl
     go_wp2_with (go_at_call 98; refine hht.mono ?_; rintro e w8 ⟨hb8,he⟩; obtain rfl:=he)
     have hK8:w8.heap[D]?=some (.deferred (some [])):=(hb8.block D (Array.getElem?_eq_some_iff.1 hKr).1).trans hKr
     refine ⟨by simp,.inl ⟨_,_,rfl,run_takeDeferred hK8,?_⟩⟩
     have h3':Below w.heap.size w w8:=by rw [HSE.out]; exact (h11.trans (hkb.mono (by omega))).trans (hb8.mono (by have:=hkb.size; omega))
     refine ⟨h3'.trans (belowK_b (w:=w) (Nat.le_refl _) w8 D _ _ (by have:=HSE.out; omega) hK8 rfl rfl),?_⟩
     rw [show flowL ns lay i font x by_ apart=none by
      unfold flowL
      rw [HF2.out]
      show (must (q0a (m.map (·.1)) (openL ns i apart).1 (openL ns i apart).2).2).bind (fun _=>(qnb ns i (q0a (m.map (·.1)) (openL ns i apart).1 (openL ns i apart).2).1.height by_).bind _)=none
      rw [HPE.out]
      show (qnb ns i P.height by_).bind _=none
      rw [HN.out]
      rfl]
    | some ht =>
     rw [hhl] at hht
     have HN:=Lib.hid hhl
     clear hhl
     go_upto_region 38 with (go_at_call 98; refine hht.mono ?_; rintro e w8 ⟨hb8,he⟩; obtain rfl:=he; have hO8:=hO.below hb8 hO.lt; have t0:=hO8.frozen; have t1:w8.cell? ⟨s+5,2,none⟩=some (.int .i64 0):=hO8.cell 2)
     generalize hw9:World.setCell w8 _ _=w9
     have k9:Kept [s+5] wr w9:=by rw [<-hw9]; exact (Kept.of_below hb8).setCell (p:=⟨s+5,2,none⟩) (by simp) _
     have hO9:Blk w9 (s+5) YT.box (btC (.mk i x ht 0 0 KS []) kv (.slice none 0 0)).toArray:=by rw [<-hw9]; exact hO8.set_ 2 (.int .i64 ht)
     clear hw9 t0 t1 hO8
     have gS9:=gSr.kept k9 (by simp; omega)
     have hT9:Blk w9 (s+4) 87 (tlC tl0).toArray:=h9r.tells.kept k9 (by simp)
     have s2:∀ V:KW [] w9,V.val.cell? ⟨w6.heap.size,2,none⟩=some (.int .i64 P.top.1):=fun V=>(gS9.kept V.ok (by simp)).cell 2
     have s3:∀ V:KW [] w9,V.val.cell? ⟨w6.heap.size,3,none⟩=some (.int .i64 P.top.2):=fun V=>(gS9.kept V.ok (by simp)).cell 3
     have s4:∀ V:KW [] w9,V.val.cell? ⟨w6.heap.size,4,none⟩=some (.int .i64 P.bottom.1):=fun V=>(gS9.kept V.ok (by simp)).cell 4
     have s5:∀ V:KW [] w9,V.val.cell? ⟨w6.heap.size,5,none⟩=some (.int .i64 P.bottom.2):=fun V=>(gS9.kept V.ok (by simp)).cell 5
     have s6:∀ V:KW [] w9,V.val.cell? ⟨w6.heap.size,6,none⟩=some (.bool P.through):=fun V=>(gS9.kept V.ok (by simp)).cell 6
     clear e0 e1 e2
     refine wp_region_noPanic ?_
     refine qna [9] [0,1,2,3,4,5,6,7,8] [9] (fun w'=>∃ V:KW [] w9,w'=V.val) (by kernel_rfl) (by kernel_rfl) (fun c a d v w h=>by cases d <;> exact h) ⟨⟨w9.drew,(Kept.refl _ _).drew⟩,rfl⟩ ?_
     simp only [pickD,List.map_cons,List.map_nil,List.getD_cons_zero,List.getD_cons_succ]
     repeat (go_big_quiet_step (fail))
     refine wpQuiet_nil ?_
     refine qca rfl fun K hK=>?_
     refine qoe rfl 87 _ _ rfl (s+4) 0 87 (tlC tl0) (tlC ⟨P.top,P.bottom,P.through⟩) (by rfl) hT9.drew (by rfl) (by show (5:Nat)<=5; exact Nat.le_refl _) q0g (qij _) ?_
     intro w10 r10 k10 z10
     refine hK.out _ _ (.inl (by decide)) ?_
     clear hK K
     refine qla ?_
     clear s2 s3 s4 s5 s6
     refine NoPanic.normal ?_
     go_wp2_with fail
     have hK10:w10.heap[D]?=some (.deferred (some [])):=by
      have h1:(w9.drew).heap[D]?=some (.deferred (some [])):=(k9.block D (Array.getElem?_eq_some_iff.1 hKr).1 (by have:=HSE.out; simp; omega)).trans hKr
      exact (k10.block D (Array.getElem?_eq_some_iff.1 h1).1 (by have:=HSE.out; simp; omega)).trans h1
     refine ⟨by simp,.inl ⟨_,_,rfl,run_takeDeferred hK10,?_⟩⟩
     generalize hwE:World.putObj w10 D _=wE
     have hoth:∀ k,k≠D->wE.heap[k]?=w10.heap[k]?:=fun k hk=>by rw [<-hwE]; exact World.putObj_heap_other hk
     have hsE:wE.heap.size=w10.heap.size:=by rw [<-hwE]; exact q1c _ _ _
     have hbE:Below (s+4) w10 wE:=by
      rw [<-hwE]
      exact ⟨rfl,rfl,rfl,by rw [q1c]; exact Nat.le_refl _,fun k hk=>World.putObj_heap_other (by have:=HSE.out; omega)⟩
     have hDs:s+10<=D:=by have:=HSE.out; omega
     have hE4:Blk wE (s+4) 87 (tlC ⟨P.top,P.bottom,P.through⟩).toArray:=(hoth (s+4) (by omega)).trans r10
     have k9a:Kept [s+4] w9 w10:=((Kept.refl _ w9).drew).trans k10
     have hE5:Blk wE (s+5) YT.box (btC (.mk i x ht 0 0 KS []) kv (.slice none 0 0)).toArray:=(hoth (s+5) (by omega)).trans (hO9.kept k9a (by simp))
     have k10w:Kept [s+4,s+5] wr w10:=(k9.more (by simp)).trans (k9a.more (by simp))
     have hkv10:=hkv.kept k10w (fun q hq hm=>by have:=(hkv.lt q hq).1; simp at hm; omega)
     have hBX10:=hBX.kept k10w (fun q hq hm=>by have:=(hBX.mem_lt q hq).1; simp at hm; omega)
     have hkvE:(shPt YT.ptr).Owns wE W0.heap.size kv pss.flatten:=hkv10.keep (by omega) fun q hq=>hoth q (fun e=>by
      subst e
      rcases hkv10.2 with ⟨e,_⟩ | ⟨g',cap,cur,e,_,hb,_⟩
      ·rw [e] at hq; cases hq
      ·rw [e] at hq
       injection hq with hq
       subst hq
       rw [hK10] at hb
       cases hb)
     have hBXE:BoxesAt YT wE (s+10) d KS pss.flatten fks:=hBX10.keep (by omega) fun q hq=>hoth q (fun e=>by
      subst e
      exact q1k hBX10 hK10 hq)
     have hnd:((s+5) :: (blkL kv ++ (blkL (Value.slice none 0 0) ++ fks.flatten))).Nodup:=by
      have e:blkL (Value.slice none 0 0)=[]:=rfl
      rw [e,List.nil_append,List.nodup_cons,List.nodup_append]
      refine ⟨fun hm=>?_,?_,hBX.nodup,fun a ha b hb' e=>?_⟩
      ·rcases List.mem_append.1 hm with hm | hm
       ·have:=(hkv.lt _ (mem_blkL.1 hm)).1
        omega
       ·have:=(hBX.mem_lt _ hm).1
        omega
      ·unfold blkL
       cases kv.ownBlock <;> simp
      ·have h1:=(hkv.lt _ (mem_blkL.1 ha)).1
       have h2:=(hbxW.mem_lt b hb').2
       have:=kW0.size
       omega
     have hbx:BoxAt YT wE (s+5) (d+1) (.mk i x ht 0 0 KS []) (s+5) _:=BoxAt.mk_ hE5 (hkvE.base_le (by omega)) (Shp.Owns.nil wE (s+5)) (hBXE.base_le (by omega)) hnd (Nat.le_refl _)
     refine ⟨_,qrm rfl _ _ (s+4) 87 (tlC ⟨P.top,P.bottom,P.through⟩).toArray (0,0) _ rfl hE4 Tryz.underlying87 rfl q0g,?_⟩
     have hBl:Below w.heap.size w wE:=by
      rw [HSE.out]
      exact ((h11.trans (hkb.mono (by omega))).trans (k10w.to_below (by have:=hkb.size; omega) (by intro q hq; simp at hq; omega))).trans (hbE.mono (by omega))
     refine ⟨hBl,?_⟩
     rw [show flowL ns lay i font x by_ apart=some (.mk i x ht 0 0 KS [],⟨P.top,P.bottom,P.through⟩) by
      unfold flowL
      rw [HF2.out]
      show (must (q0a (m.map (·.1)) (openL ns i apart).1 (openL ns i apart).2).2).bind (fun _=>(qnb ns i (q0a (m.map (·.1)) (openL ns i apart).1 (openL ns i apart).2).1.height by_).bind _)=_
      rw [HPE.out]
      show (qnb ns i P.height by_).bind _=_
      rw [HN.out,HKS.out]
      rfl]
     exact ⟨s+5,_,rfl,hbx.base_le (by rw [HSE.out]; omega),hi,hokK⟩
 case thrown =>
  rintro D ch W hD ⟨rfl,h2,h3⟩ hK
  simp only [Exit.inBlock,Exit.then]
  refine ⟨by simp,.inl ⟨_,_,rfl,run_takeDeferred hK,?_⟩⟩
  have h3':Below w.heap.size w W:=by rw [HSE.out]; exact h3
  refine ⟨h3'.trans (belowK_b (w:=w) (Nat.le_refl _) W D _ _ (by have:=HSE.out; omega) hK rfl rfl),?_⟩
  rw [show flowL ns lay i font x by_ apart=none by unfold flowL; rw [h2]; rfl]
end Go.Proofs.YtlnekijhbnlclaaGreatDoor
