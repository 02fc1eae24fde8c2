/-
  Walks: package block: kids that are stacked (written by gen_block.py).
-/
import Derived.Test.YtlnekijhbnlclaaGreatDoorKids
import Derived.Test.YtlnekijhbnlclaaGreatDoorRunePlain
set_option linter.unusedSimpArgs false
set_option linter.unusedVariables false
namespace Go.Proofs.YtlnekijhbnlclaaGreatDoor
open Go.RowKit Go.Shelf
def kdC (k:Kd):List Value:=[.int .i64 k.top.1,.int .i64 k.top.2,.int .i64 k.bottom.1,.int .i64 k.bottom.2,.int .i64 k.height,.bool k.through]
def plC (p:Pl) (av:Value):List Value:=[av,.int .i64 p.height,.int .i64 p.top.1,.int .i64 p.top.2,.int .i64 p.bottom.1,.int .i64 p.bottom.2,.bool p.through,.int .i64 p.y,.int .i64 p.waits.1,.int .i64 p.waits.2,.bool p.outside]
theorem qua {w:World} {base:Nat} {v:Value} {zs:List Int} (h:Owns w base v zs) {p:Addr} (hp:p.block < base) (u:Value):Owns (w.setCell p u) base v zs:=by
 obtain ⟨h1,h2⟩:=h
 refine ⟨h1,?_⟩
 rcases h2 with h2 | ⟨g,cap,cur,e,hg,hb,r⟩
 ·exact .inl h2
 ·exact .inr ⟨g,cap,cur,e,hg,(Below.heap_setCell w p u g (by omega)).trans hb,r⟩
theorem qxf {ops:Array Oper} {o:Oper} {a:Act} {K:Act->World->Prop} {Q:Exit->Act->World->Prop} {E:Prop} (w:World) (n:Int) (hgd:o.guard=none) (s x:Operand)
  (ho:o.op=.call { callee:=.builtin .append,args:=#[s,x],argTypes:=#[47,47] })
  (base:Nat) (v:Value) (zs:List Int) (hs:a.eval s=v) (hown:Owns w base v zs) (hx:a.eval x=.slice (some ⟨w.heap.size,0,none⟩) 1 1)
  (h47:zs.length < 1000000) (hbase:base<=w.heap.size)
  (h:∀ v' w',Owns w' base v' (zs ++ [n])->Below base w w'->(∀ b t cs,Blk w b t cs->3≠t->Blk w' b t cs)->K (a.put o.dst v') w') :
  if Region.wanted o (yielded ops a.tmps)=true then Oper.wp Tryz.prog o a (w.alloc (.cells #[.int .i64 n] 3)) K Q else E:=by
 obtain ⟨i0,hi0,hz0,hz1,hz2⟩:=info_parts Tryz.infoInt
 have hlt:=fun k (e:v.ownBlock=some k)=>(hown.lt k e).1
 obtain ⟨A,c,hA,_,hr⟩:=Ints.built w [n] 3
 refine qnf _ hgd s x _ ho base 3 i0 _ 1 8 Tryz.underlying47 hi0 hz0 hz1 hz2 rfl (by omega) v _ _ hs (hown.alloc _) _ A 1 c [.int .i64 n] (hx.trans hA) hr (by intro u hu; rw [List.mem_singleton.1 hu]; rfl) (by simp only [maxLen]; omega) (by omega) (by simp; omega) ?_
 intro v' w' h1 h2 _
 refine h v' w' (by unfold Owns; rw [List.length_append,List.map_append]; exact h1) ?_ fun b t cs hb hne=>?_
 ·exact ((Below.refl base w).alloc hbase _).grown h2 (by simp; omega) (fun k e=>hlt k e)
 ·exact (hb.alloc _).grown h2 fun e=>qqh hown hb hne e.symm
theorem qpd {w:World} {base:Nat} {v:Value} {zs:List Int} (h:Owns w base v zs):∃ A n c,v=.slice A n c:=by
 obtain ⟨rfl,-⟩ | ⟨g,cap,cur,rfl,-⟩:=h.2
 ·exact ⟨_,_,_,rfl⟩
 ·exact ⟨_,_,_,rfl⟩
def q0v (q:Pl) (g:Nat) (w:World) (e:Ending) (w':World):Prop :=
 e=.returned (.tuple #[])/\Below g w w'/\∃ av,Blk w' g 232 (plC q av).toArray/\Owns w' (g+1) av q.at_
set_option maxRecDepth 100000 in
set_option maxHeartbeats 8000000 in
theorem qpu (p:Pl) (k:Kd) (av:Value) (g:Nat) (w:World) (hg:Blk w g 232 (plC p av).toArray) (ho:Owns w (g+1) av p.at_) (hl:p.at_.length < 3000) :
  Calls Tryz.prog 144 #[.pointer (some ⟨g,0,none⟩),.agg (kdC k).toArray] w (q0v (putK p k) g w):=by
 obtain ⟨W,hW,hbel0,hk,-⟩:=qya w 171 (kdC k)
 have hG:Blk W g 232 (plC p av).toArray:=hg.below hbel0 hg.lt
 have hglt:=hg.lt
 have hne:g≠w.heap.size:=Nat.ne_of_lt hglt
 have hbel:Below g w W:=hbel0.mono (Nat.le_of_lt hglt)
 have ho:=ho.below hbel0
 clear hg hbel0
 go_enter Tryz.func144,Tryz.ntmps144
 go_upto_region 1 with fail
 change Code.wp _ _ _ _ (w.alloc (.cells (kdC k).toArray 171))
 rw [<-hW]
 clear hW
 go_wp2_with fail
 have c8:∀ V:BW (W.heap.size) W,V.val.cell? ⟨g,8,none⟩=some (.int .i64 (p.waits).1):=fun V=>(hG.below V.ok hG.lt).cell 8
 have c9:∀ V:BW (W.heap.size) W,V.val.cell? ⟨g,9,none⟩=some (.int .i64 (p.waits).2):=fun V=>(hG.below V.ok hG.lt).cell 9
 have k0:∀ V:BW (W.heap.size) W,V.val.cell? ⟨w.heap.size,0,none⟩=some (.int .i64 k.top.1):=fun V=>(hk.below V.ok hk.lt).cell 0
 have k1:∀ V:BW (W.heap.size) W,V.val.cell? ⟨w.heap.size,1,none⟩=some (.int .i64 k.top.2):=fun V=>(hk.below V.ok hk.lt).cell 1
 refine qna [11] [0,1,2,3,4,5,6] [7,8,9,10,11] (fun w'=>∃ V:BW (W.heap.size) W,w'=V.val) (by kernel_rfl) (by kernel_rfl) (fun c a d v w h=>by cases d <;> exact h) ⟨⟨W.drew,(Below.refl _ _).drew⟩,rfl⟩ ?_
 simp only [pickD,List.map_cons,List.map_nil,List.getD_cons_zero,List.getD_cons_succ]
 repeat (go_big_quiet_step (fail))
 refine wpQuiet_nil ?_
 refine qca rfl fun K hK=>?_
 go_simp
 refine hK.out _ _ (.inr ⟨⟨_,((Below.refl _ _).drew).alloc (Nat.le_refl _) _⟩,rfl⟩) ?_
 clear hK K
 try simp only [Act.put,zA,zB,zC]
 refine qca rfl fun K hK=>?_
 go_simp
 go_at_call 111
 refine (qgf (p.waits) (k.top) W.heap.size _ (Blk.new W.drew _ _)).mono ?_
 rintro e W1j ⟨rfl,hj⟩
 have hb2:Below W.heap.size W W1j:=(((Below.refl W.heap.size W).drew).alloc (Nat.le_refl _) (.cells (mgC (p.waits) ++ mgC (k.top)).toArray 85)).trans (hj.mono (by simp))
 refine hK.out _ _ (.inr ⟨⟨_,hb2⟩,rfl⟩) ?_
 clear hK K
 try simp only [Act.put,zA,zB,zC]
 refine qca rfl fun K hK=>?_
 go_simp
 refine hK.out _ _ (.inr ⟨⟨_,hb2⟩,rfl⟩) ?_
 clear hK K
 try simp only [Act.put,zA,zB,zC]
 refine qca rfl fun K hK=>?_
 go_simp
 refine hK.out _ _ (.inr ⟨⟨_,hb2⟩,rfl⟩) ?_
 clear hK K
 try simp only [Act.put,zA,zB,zC]
 refine qca rfl fun K hK=>?_
 have d8:=c8 ⟨W1j,hb2⟩
 have d9:=c9 ⟨W1j,hb2⟩
 have hG1:=hG.below hb2 hG.lt
 have f1:=hG1.frozen
 simp only at d8 d9
 go_simp
 refine hK.out _ _ (.inl (by decide)) ?_
 clear hK K
 refine qla ?_
 obtain ⟨W1,hW1,hbel,hG,ho,hk⟩:∃ V,V=(W1j.setCell ⟨g,8,none⟩ (.int .i64 (withM (p.waits) (k.top)).1)).setCell ⟨g,9,none⟩ (.int .i64 (withM (p.waits) (k.top)).2)/\Below g w V/\Blk V g 232 (plC ⟨p.at_,p.height,p.top,p.bottom,p.through,p.y,(withM (p.waits) (k.top)),p.outside⟩ av).toArray/\Owns V (g+1) (av) (p.at_)/\Blk V w.heap.size 171 (kdC k).toArray:=by
  refine ⟨_,rfl,((hbel.trans (hb2.mono (Nat.le_of_lt hG.lt))).setCell (p:=⟨g,8,none⟩) (Nat.le_refl _) _).setCell (p:=⟨g,9,none⟩) (Nat.le_refl _) _,by have h:=(hG1.set_ 8 (.int .i64 (withM (p.waits) (k.top)).1)).set_ 9 (.int .i64 (withM (p.waits) (k.top)).2); simp only [plC,zA,zB,zC] at h; exact h,qua (qua (ho.below hb2) (Nat.lt_succ_self g) _) (Nat.lt_succ_self g) _,((hk.below hb2 hk.lt).far (p:=⟨g,8,none⟩) hne.symm _).far (p:=⟨g,9,none⟩) hne.symm _⟩
 rw [<-hW1]
 clear hW1 c8 c9 d8 d9 hG1 f1 hb2 hj k0 k1
 obtain ⟨m1,hm1⟩:∃ m,withM p.waits k.top=m:=⟨_,rfl⟩
 rw [hm1] at hG
 cases hth:k.through
 all_goals cases hou:p.outside
 all_goals simp only [hou] at hG
 ·have fG:=hG.frozen
  have e1:W1.cell? ⟨g,1,none⟩=some (.int .i64 (p.height)):=hG.cell 1
  have e2:W1.cell? ⟨g,2,none⟩=some (.int .i64 (p.top).1):=hG.cell 2
  have e3:W1.cell? ⟨g,3,none⟩=some (.int .i64 (p.top).2):=hG.cell 3
  have e7:W1.cell? ⟨g,7,none⟩=some (.int .i64 (p.y)):=hG.cell 7
  have e8:W1.cell? ⟨g,8,none⟩=some (.int .i64 (m1).1):=hG.cell 8
  have e9:W1.cell? ⟨g,9,none⟩=some (.int .i64 (m1).2):=hG.cell 9
  have e10:W1.cell? ⟨g,10,none⟩=some (.bool false):=hG.cell 10
  have k2:W1.cell? ⟨w.heap.size,2,none⟩=some (.int .i64 k.bottom.1):=hk.cell 2
  have k3:W1.cell? ⟨w.heap.size,3,none⟩=some (.int .i64 k.bottom.2):=hk.cell 3
  have k4:W1.cell? ⟨w.heap.size,4,none⟩=some (.int .i64 k.height):=hk.cell 4
  have k5:W1.cell? ⟨w.heap.size,5,none⟩=some (.bool k.through):=hk.cell 5
  simp only [hth] at k5
  go_wp2_with fail
  clear fG e1 e2 e3 e7 e8 e9 e10 k2 k3 k4 k5
  have c7:∀ V:BW (W1.heap.size) W1,V.val.cell? ⟨g,7,none⟩=some (.int .i64 (p.y)):=fun V=>(hG.below V.ok hG.lt).cell 7
  have c8:∀ V:BW (W1.heap.size) W1,V.val.cell? ⟨g,8,none⟩=some (.int .i64 (m1).1):=fun V=>(hG.below V.ok hG.lt).cell 8
  have c9:∀ V:BW (W1.heap.size) W1,V.val.cell? ⟨g,9,none⟩=some (.int .i64 (m1).2):=fun V=>(hG.below V.ok hG.lt).cell 9
  refine qna [12] [0,1,2,3,4,5,6,7] [8,9,10,11,12] (fun w'=>∃ V:BW (W1.heap.size) W1,w'=V.val) (by kernel_rfl) (by kernel_rfl) (fun c a d v w h=>by cases d <;> exact h) ⟨⟨W1.drew,(Below.refl _ _).drew⟩,rfl⟩ ?_
  simp only [pickD,List.map_cons,List.map_nil,List.getD_cons_zero,List.getD_cons_succ]
  repeat (go_big_quiet_step (fail))
  refine wpQuiet_nil ?_
  refine qca rfl fun K hK=>?_
  go_simp
  go_at_call 168
  refine (q1h (m1) _).mono ?_
  rintro e Wv ⟨rfl,hv⟩
  have hb2:Below W1.heap.size W1 Wv:=((Below.refl _ _).drew).trans (hv.mono (by simp))
  refine hK.out _ _ (.inr ⟨⟨_,hb2⟩,rfl⟩) ?_
  clear hK K
  try simp only [Act.put,zA,zB,zC]
  refine qca rfl fun K hK=>?_
  go_simp
  try simp only [IntWalk.i64_left]
  refine hK.out _ _ (.inr ⟨⟨_,hb2⟩,rfl⟩) ?_
  clear hK K
  try simp only [Act.put,zA,zB,zC]
  refine qca rfl fun K hK=>?_
  go_simp
  refine hK.out _ _ (.inr ⟨⟨_,hb2⟩,rfl⟩) ?_
  clear hK K
  try simp only [Act.put,zA,zB,zC]
  refine qca rfl fun K hK=>?_
  go_simp
  refine hK.out _ _ (.inr ⟨⟨_,hb2⟩,rfl⟩) ?_
  clear hK K
  try simp only [Act.put,zA,zB,zC]
  refine qca rfl fun K hK=>?_
  have hG1:=hG.below hb2 hG.lt
  have f1:=hG1.frozen
  have d7:Wv.cell? ⟨g,7,none⟩=some (.int .i64 (p.y)):=hG1.cell 7
  go_simp
  refine hK.out _ _ (.inl (by decide)) ?_
  clear hK K
  refine qla ?_
  obtain ⟨W2,hW2,hbel,hG,ho,hk⟩:∃ V,V=Wv.setCell ⟨g,7,none⟩ (.int .i64 (w64 (p.y+valM m1)))/\Below g w V/\Blk V g 232 (plC ⟨p.at_,p.height,p.top,p.bottom,p.through,(w64 (p.y+valM m1)),m1,false⟩ av).toArray/\Owns V (g+1) (av) (p.at_)/\Blk V w.heap.size 171 (kdC k).toArray:=by
   refine ⟨_,rfl,(hbel.trans (hb2.mono (Nat.le_of_lt hG.lt))).setCell (p:=⟨g,7,none⟩) (Nat.le_refl _) _,by have h:=hG1.set_ 7 (.int .i64 (w64 (p.y+valM m1))); simp only [plC,zA,zB,zC] at h; exact h,qua (ho.below hb2) (Nat.lt_succ_self g) _,(hk.below hb2 hk.lt).far (p:=⟨g,7,none⟩) hne.symm _⟩
  rw [<-hW2]
  clear hW2 hG1 d7 f1 hb2 hv c7 c8 c9
  obtain ⟨y1,hy1⟩:∃ y1,(w64 (p.y+valM m1))=y1:=⟨_,rfl⟩
  rw [hy1] at hG
  go_wp2_with fail
  have hbs:g+1<=W2.heap.size:=hG.lt
  have c0:∀ V:BW (g+1) W2,V.val.cell? ⟨g,0,none⟩=some (av):=fun V=>(hG.below V.ok (Nat.lt_succ_self g)).cell 0
  have c7:∀ V:BW (g+1) W2,V.val.cell? ⟨g,7,none⟩=some (.int .i64 (y1)):=fun V=>(hG.below V.ok (Nat.lt_succ_self g)).cell 7
  refine qna [15] [0,1,2,3,4,5,6,7,8,9] [10,11,12,13,14,15] (fun w'=>∃ V:BW (g+1) W2,w'=V.val) (by kernel_rfl) (by kernel_rfl) (fun c a d v w h=>by cases d <;> exact h) ⟨⟨W2.drew,(Below.refl _ _).drew⟩,rfl⟩ ?_
  simp only [pickD,List.map_cons,List.map_nil,List.getD_cons_zero,List.getD_cons_succ]
  repeat (go_big_quiet_step (fail))
  refine wpQuiet_nil ?_
  refine qca rfl fun K hK=>?_
  go_simp
  refine hK.out _ _ (.inr ⟨⟨_,((Below.refl _ _).drew).alloc (hbs) _⟩,rfl⟩) ?_
  clear hK K
  try simp only [Act.put,zA,zB,zC]
  refine qca rfl fun K hK=>?_
  refine qxf W2.drew (y1) rfl _ _ rfl (g+1) (av) (p.at_) ?_ (ho.drew) ?_ (by first | omega | (simp; omega)) (Nat.le_trans hbs (Nat.le_refl _)) ?_
  ·rfl
  ·rfl
  intro w3v W3j ho2 hb2 hkeep
  obtain ⟨w3vA,w3vn,w3vc,rfl⟩:=qpd ho2
  have hb2:Below (g+1) W2 W3j:=((Below.refl (g+1) W2).drew).trans hb2
  refine hK.out _ _ (.inr ⟨⟨_,hb2⟩,rfl⟩) ?_
  clear hK K
  try simp only [Act.put,zA,zB,zC]
  refine qca rfl fun K hK=>?_
  go_simp
  refine hK.out _ _ (.inr ⟨⟨_,hb2⟩,rfl⟩) ?_
  clear hK K
  try simp only [Act.put,zA,zB,zC]
  refine qca rfl fun K hK=>?_
  go_simp
  refine hK.out _ _ (.inr ⟨⟨_,hb2⟩,rfl⟩) ?_
  clear hK K
  try simp only [Act.put,zA,zB,zC]
  refine qca rfl fun K hK=>?_
  go_simp
  refine hK.out _ _ (.inr ⟨⟨_,hb2⟩,rfl⟩) ?_
  clear hK K
  try simp only [Act.put,zA,zB,zC]
  refine qca rfl fun K hK=>?_
  have hG1:=hG.below hb2 (Nat.lt_succ_self g)
  have f1:=hG1.frozen
  have d0:W3j.cell? ⟨g,0,none⟩=some (av):=hG1.cell 0
  go_simp
  refine hK.out _ _ (.inl (by decide)) ?_
  clear hK K
  refine qla ?_
  obtain ⟨W3,hW3,hbel,hG,ho,hk⟩:∃ V,V=W3j.setCell ⟨g,0,none⟩ (.slice w3vA w3vn w3vc)/\Below g w V/\Blk V g 232 (plC ⟨(p.at_ ++ [y1]),p.height,p.top,p.bottom,p.through,y1,m1,false⟩ (.slice w3vA w3vn w3vc)).toArray/\Owns V (g+1) ((.slice w3vA w3vn w3vc)) ((p.at_ ++ [y1]))/\Blk V w.heap.size 171 (kdC k).toArray:=by
   refine ⟨_,rfl,(hbel.trans (hb2.mono (Nat.le_succ g))).setCell (p:=⟨g,0,none⟩) (Nat.le_refl _) _,by have h:=hG1.set_ 0 (.slice w3vA w3vn w3vc); simp only [plC,zA,zB,zC] at h; exact h,qua ho2 (Nat.lt_succ_self g) _,(hkeep _ _ _ hk.drew (by decide)).far (p:=⟨g,0,none⟩) hne.symm _⟩
  rw [<-hW3]
  clear hW3 hbs d0 hG1 f1 hb2 ho2 hkeep c0 c7
  go_wp2_with fail
  have c7:∀ V:BW (W3.heap.size) W3,V.val.cell? ⟨g,7,none⟩=some (.int .i64 (y1)):=fun V=>(hG.below V.ok hG.lt).cell 7
  have k4:∀ V:BW (W3.heap.size) W3,V.val.cell? ⟨w.heap.size,4,none⟩=some (.int .i64 k.height):=fun V=>(hk.below V.ok hk.lt).cell 4
  refine qna [9] [0,1,2,3,4,5,6,7,8] [9] (fun w'=>∃ V:BW (W3.heap.size) W3,w'=V.val) (by kernel_rfl) (by kernel_rfl) (fun c a d v w h=>by cases d <;> exact h) ⟨⟨W3.drew,(Below.refl _ _).drew⟩,rfl⟩ ?_
  simp only [pickD,List.map_cons,List.map_nil,List.getD_cons_zero,List.getD_cons_succ]
  repeat (go_big_quiet_step (fail))
  refine wpQuiet_nil ?_
  refine qca rfl fun K hK=>?_
  have hG1:=hG.drew
  have f1:=hG1.frozen
  have d7:W3.drew.cell? ⟨g,7,none⟩=some (.int .i64 (y1)):=hG1.cell 7
  go_simp
  refine hK.out _ _ (.inl (by decide)) ?_
  clear hK K
  refine qla ?_
  obtain ⟨W4,hW4,hbel,hG,ho,hk⟩:∃ V,V=(W3.setCell ⟨g,7,none⟩ (.int .i64 (w64 (y1+k.height)))).drew/\Below g w V/\Blk V g 232 (plC ⟨(p.at_ ++ [y1]),p.height,p.top,p.bottom,p.through,(w64 (y1+k.height)),m1,false⟩ (.slice w3vA w3vn w3vc)).toArray/\Owns V (g+1) ((.slice w3vA w3vn w3vc)) ((p.at_ ++ [y1]))/\Blk V w.heap.size 171 (kdC k).toArray:=by
   refine ⟨_,rfl,(hbel.setCell (p:=⟨g,7,none⟩) (Nat.le_refl _) _).drew,by have h:=(hG.set_ 7 (.int .i64 (w64 (y1+k.height)))).drew; simp only [plC,zA,zB,zC] at h; exact h,World.ownsRow.drew (qua ho (Nat.lt_succ_self g) _),(hk.far (p:=⟨g,7,none⟩) hne.symm _).drew⟩
  rw [<-hW4]
  clear hW4 hG1 d7 f1 c7 k4
  have fG:=hG.frozen
  have e1:W4.cell? ⟨g,1,none⟩=some (.int .i64 (p.height)):=hG.cell 1
  have e2:W4.cell? ⟨g,2,none⟩=some (.int .i64 (p.top).1):=hG.cell 2
  have e3:W4.cell? ⟨g,3,none⟩=some (.int .i64 (p.top).2):=hG.cell 3
  have e7:W4.cell? ⟨g,7,none⟩=some (.int .i64 ((w64 (y1+k.height)))):=hG.cell 7
  have e8:W4.cell? ⟨g,8,none⟩=some (.int .i64 (m1).1):=hG.cell 8
  have e9:W4.cell? ⟨g,9,none⟩=some (.int .i64 (m1).2):=hG.cell 9
  have e10:W4.cell? ⟨g,10,none⟩=some (.bool false):=hG.cell 10
  have k2:W4.cell? ⟨w.heap.size,2,none⟩=some (.int .i64 k.bottom.1):=hk.cell 2
  have k3:W4.cell? ⟨w.heap.size,3,none⟩=some (.int .i64 k.bottom.2):=hk.cell 3
  have k4:W4.cell? ⟨w.heap.size,4,none⟩=some (.int .i64 k.height):=hk.cell 4
  have k5:W4.cell? ⟨w.heap.size,5,none⟩=some (.bool k.through):=hk.cell 5
  simp only [hth] at k5
  go_wp2_with fail
  clear fG e1 e2 e3 e7 e8 e9 e10 k2 k3 k4 k5
  obtain ⟨W5,hW5,hbel,hG,ho,hk⟩:∃ V,V=((W4).setCell ⟨g,8,none⟩ (.int .i64 k.bottom.1)).setCell ⟨g,9,none⟩ (.int .i64 k.bottom.2)/\Below g w V/\Blk V g 232 (plC ⟨(p.at_ ++ [y1]),p.height,p.top,p.bottom,p.through,(w64 (y1+k.height)),k.bottom,false⟩ (.slice w3vA w3vn w3vc)).toArray/\Owns V (g+1) ((.slice w3vA w3vn w3vc)) ((p.at_ ++ [y1]))/\Blk V w.heap.size 171 (kdC k).toArray:=by
   refine ⟨_,rfl,((hbel).setCell (p:=⟨g,8,none⟩) (Nat.le_refl _) _).setCell (p:=⟨g,9,none⟩) (Nat.le_refl _) _,by have h:=((hG).set_ 8 (.int .i64 k.bottom.1)).set_ 9 (.int .i64 k.bottom.2); simp only [plC,zA,zB,zC] at h; exact h,qua (qua (ho) (Nat.lt_succ_self g) _) (Nat.lt_succ_self g) _,((hk).far (p:=⟨g,8,none⟩) hne.symm _).far (p:=⟨g,9,none⟩) hne.symm _⟩
  rw [<-hW5]
  clear hW5
  go_wp2_with fail
  refine ⟨rfl,_,results_none rfl _ _ _,rfl,hbel,(.slice w3vA w3vn w3vc),by simpa [putK,hth,hou,hm1,hy1] using hG,by simpa [putK,hth,hou,hm1,hy1] using ho⟩
 ·have fG:=hG.frozen
  have e1:W1.cell? ⟨g,1,none⟩=some (.int .i64 (p.height)):=hG.cell 1
  have e2:W1.cell? ⟨g,2,none⟩=some (.int .i64 (p.top).1):=hG.cell 2
  have e3:W1.cell? ⟨g,3,none⟩=some (.int .i64 (p.top).2):=hG.cell 3
  have e7:W1.cell? ⟨g,7,none⟩=some (.int .i64 (p.y)):=hG.cell 7
  have e8:W1.cell? ⟨g,8,none⟩=some (.int .i64 (m1).1):=hG.cell 8
  have e9:W1.cell? ⟨g,9,none⟩=some (.int .i64 (m1).2):=hG.cell 9
  have e10:W1.cell? ⟨g,10,none⟩=some (.bool true):=hG.cell 10
  have k2:W1.cell? ⟨w.heap.size,2,none⟩=some (.int .i64 k.bottom.1):=hk.cell 2
  have k3:W1.cell? ⟨w.heap.size,3,none⟩=some (.int .i64 k.bottom.2):=hk.cell 3
  have k4:W1.cell? ⟨w.heap.size,4,none⟩=some (.int .i64 k.height):=hk.cell 4
  have k5:W1.cell? ⟨w.heap.size,5,none⟩=some (.bool k.through):=hk.cell 5
  simp only [hth] at k5
  go_wp2_with fail
  clear fG e1 e2 e3 e7 e8 e9 e10 k2 k3 k4 k5
  obtain ⟨W6,hW6,hbel,hG,ho,hk⟩:∃ V,V=(((W1).setCell ⟨g,2,none⟩ (.int .i64 m1.1)).setCell ⟨g,3,none⟩ (.int .i64 m1.2)).setCell ⟨g,10,none⟩ (.bool false)/\Below g w V/\Blk V g 232 (plC ⟨p.at_,p.height,m1,p.bottom,p.through,p.y,m1,false⟩ av).toArray/\Owns V (g+1) (av) (p.at_)/\Blk V w.heap.size 171 (kdC k).toArray:=by
   refine ⟨_,rfl,(((hbel).setCell (p:=⟨g,2,none⟩) (Nat.le_refl _) _).setCell (p:=⟨g,3,none⟩) (Nat.le_refl _) _).setCell (p:=⟨g,10,none⟩) (Nat.le_refl _) _,by have h:=(((hG).set_ 2 (.int .i64 m1.1)).set_ 3 (.int .i64 m1.2)).set_ 10 (.bool false); simp only [plC,zA,zB,zC] at h; exact h,qua (qua (qua (ho) (Nat.lt_succ_self g) _) (Nat.lt_succ_self g) _) (Nat.lt_succ_self g) _,(((hk).far (p:=⟨g,2,none⟩) hne.symm _).far (p:=⟨g,3,none⟩) hne.symm _).far (p:=⟨g,10,none⟩) hne.symm _⟩
  rw [<-hW6]
  clear hW6
  have hbs:g+1<=W6.heap.size:=hG.lt
  have c0:∀ V:BW (g+1) W6,V.val.cell? ⟨g,0,none⟩=some (av):=fun V=>(hG.below V.ok (Nat.lt_succ_self g)).cell 0
  have c7:∀ V:BW (g+1) W6,V.val.cell? ⟨g,7,none⟩=some (.int .i64 (p.y)):=fun V=>(hG.below V.ok (Nat.lt_succ_self g)).cell 7
  refine qna [15] [0,1,2,3,4,5,6,7,8,9] [10,11,12,13,14,15] (fun w'=>∃ V:BW (g+1) W6,w'=V.val) (by kernel_rfl) (by kernel_rfl) (fun c a d v w h=>by cases d <;> exact h) ⟨⟨W6.drew,(Below.refl _ _).drew⟩,rfl⟩ ?_
  simp only [pickD,List.map_cons,List.map_nil,List.getD_cons_zero,List.getD_cons_succ]
  repeat (go_big_quiet_step (fail))
  refine wpQuiet_nil ?_
  refine qca rfl fun K hK=>?_
  go_simp
  refine hK.out _ _ (.inr ⟨⟨_,((Below.refl _ _).drew).alloc (hbs) _⟩,rfl⟩) ?_
  clear hK K
  try simp only [Act.put,zA,zB,zC]
  refine qca rfl fun K hK=>?_
  refine qxf W6.drew (p.y) rfl _ _ rfl (g+1) (av) (p.at_) ?_ (ho.drew) ?_ (by first | omega | (simp; omega)) (Nat.le_trans hbs (Nat.le_refl _)) ?_
  ·rfl
  ·rfl
  intro w7v W7j ho2 hb2 hkeep
  obtain ⟨w7vA,w7vn,w7vc,rfl⟩:=qpd ho2
  have hb2:Below (g+1) W6 W7j:=((Below.refl (g+1) W6).drew).trans hb2
  refine hK.out _ _ (.inr ⟨⟨_,hb2⟩,rfl⟩) ?_
  clear hK K
  try simp only [Act.put,zA,zB,zC]
  refine qca rfl fun K hK=>?_
  go_simp
  refine hK.out _ _ (.inr ⟨⟨_,hb2⟩,rfl⟩) ?_
  clear hK K
  try simp only [Act.put,zA,zB,zC]
  refine qca rfl fun K hK=>?_
  go_simp
  refine hK.out _ _ (.inr ⟨⟨_,hb2⟩,rfl⟩) ?_
  clear hK K
  try simp only [Act.put,zA,zB,zC]
  refine qca rfl fun K hK=>?_
  go_simp
  refine hK.out _ _ (.inr ⟨⟨_,hb2⟩,rfl⟩) ?_
  clear hK K
  try simp only [Act.put,zA,zB,zC]
  refine qca rfl fun K hK=>?_
  have hG1:=hG.below hb2 (Nat.lt_succ_self g)
  have f1:=hG1.frozen
  have d0:W7j.cell? ⟨g,0,none⟩=some (av):=hG1.cell 0
  go_simp
  refine hK.out _ _ (.inl (by decide)) ?_
  clear hK K
  refine qla ?_
  obtain ⟨W7,hW7,hbel,hG,ho,hk⟩:∃ V,V=W7j.setCell ⟨g,0,none⟩ (.slice w7vA w7vn w7vc)/\Below g w V/\Blk V g 232 (plC ⟨(p.at_ ++ [p.y]),p.height,m1,p.bottom,p.through,p.y,m1,false⟩ (.slice w7vA w7vn w7vc)).toArray/\Owns V (g+1) ((.slice w7vA w7vn w7vc)) ((p.at_ ++ [p.y]))/\Blk V w.heap.size 171 (kdC k).toArray:=by
   refine ⟨_,rfl,(hbel.trans (hb2.mono (Nat.le_succ g))).setCell (p:=⟨g,0,none⟩) (Nat.le_refl _) _,by have h:=hG1.set_ 0 (.slice w7vA w7vn w7vc); simp only [plC,zA,zB,zC] at h; exact h,qua ho2 (Nat.lt_succ_self g) _,(hkeep _ _ _ hk.drew (by decide)).far (p:=⟨g,0,none⟩) hne.symm _⟩
  rw [<-hW7]
  clear hW7 hbs d0 hG1 f1 hb2 ho2 hkeep c0 c7
  go_wp2_with fail
  have c7:∀ V:BW (W7.heap.size) W7,V.val.cell? ⟨g,7,none⟩=some (.int .i64 (p.y)):=fun V=>(hG.below V.ok hG.lt).cell 7
  have k4:∀ V:BW (W7.heap.size) W7,V.val.cell? ⟨w.heap.size,4,none⟩=some (.int .i64 k.height):=fun V=>(hk.below V.ok hk.lt).cell 4
  refine qna [9] [0,1,2,3,4,5,6,7,8] [9] (fun w'=>∃ V:BW (W7.heap.size) W7,w'=V.val) (by kernel_rfl) (by kernel_rfl) (fun c a d v w h=>by cases d <;> exact h) ⟨⟨W7.drew,(Below.refl _ _).drew⟩,rfl⟩ ?_
  simp only [pickD,List.map_cons,List.map_nil,List.getD_cons_zero,List.getD_cons_succ]
  repeat (go_big_quiet_step (fail))
  refine wpQuiet_nil ?_
  refine qca rfl fun K hK=>?_
  have hG1:=hG.drew
  have f1:=hG1.frozen
  have d7:W7.drew.cell? ⟨g,7,none⟩=some (.int .i64 (p.y)):=hG1.cell 7
  go_simp
  refine hK.out _ _ (.inl (by decide)) ?_
  clear hK K
  refine qla ?_
  obtain ⟨W8,hW8,hbel,hG,ho,hk⟩:∃ V,V=(W7.setCell ⟨g,7,none⟩ (.int .i64 (w64 (p.y+k.height)))).drew/\Below g w V/\Blk V g 232 (plC ⟨(p.at_ ++ [p.y]),p.height,m1,p.bottom,p.through,(w64 (p.y+k.height)),m1,false⟩ (.slice w7vA w7vn w7vc)).toArray/\Owns V (g+1) ((.slice w7vA w7vn w7vc)) ((p.at_ ++ [p.y]))/\Blk V w.heap.size 171 (kdC k).toArray:=by
   refine ⟨_,rfl,(hbel.setCell (p:=⟨g,7,none⟩) (Nat.le_refl _) _).drew,by have h:=(hG.set_ 7 (.int .i64 (w64 (p.y+k.height)))).drew; simp only [plC,zA,zB,zC] at h; exact h,World.ownsRow.drew (qua ho (Nat.lt_succ_self g) _),(hk.far (p:=⟨g,7,none⟩) hne.symm _).drew⟩
  rw [<-hW8]
  clear hW8 hG1 d7 f1 c7 k4
  have fG:=hG.frozen
  have e1:W8.cell? ⟨g,1,none⟩=some (.int .i64 (p.height)):=hG.cell 1
  have e2:W8.cell? ⟨g,2,none⟩=some (.int .i64 (m1).1):=hG.cell 2
  have e3:W8.cell? ⟨g,3,none⟩=some (.int .i64 (m1).2):=hG.cell 3
  have e7:W8.cell? ⟨g,7,none⟩=some (.int .i64 ((w64 (p.y+k.height)))):=hG.cell 7
  have e8:W8.cell? ⟨g,8,none⟩=some (.int .i64 (m1).1):=hG.cell 8
  have e9:W8.cell? ⟨g,9,none⟩=some (.int .i64 (m1).2):=hG.cell 9
  have e10:W8.cell? ⟨g,10,none⟩=some (.bool false):=hG.cell 10
  have k2:W8.cell? ⟨w.heap.size,2,none⟩=some (.int .i64 k.bottom.1):=hk.cell 2
  have k3:W8.cell? ⟨w.heap.size,3,none⟩=some (.int .i64 k.bottom.2):=hk.cell 3
  have k4:W8.cell? ⟨w.heap.size,4,none⟩=some (.int .i64 k.height):=hk.cell 4
  have k5:W8.cell? ⟨w.heap.size,5,none⟩=some (.bool k.through):=hk.cell 5
  simp only [hth] at k5
  go_wp2_with fail
  clear fG e1 e2 e3 e7 e8 e9 e10 k2 k3 k4 k5
  obtain ⟨W9,hW9,hbel,hG,ho,hk⟩:∃ V,V=((W8).setCell ⟨g,8,none⟩ (.int .i64 k.bottom.1)).setCell ⟨g,9,none⟩ (.int .i64 k.bottom.2)/\Below g w V/\Blk V g 232 (plC ⟨(p.at_ ++ [p.y]),p.height,m1,p.bottom,p.through,(w64 (p.y+k.height)),k.bottom,false⟩ (.slice w7vA w7vn w7vc)).toArray/\Owns V (g+1) ((.slice w7vA w7vn w7vc)) ((p.at_ ++ [p.y]))/\Blk V w.heap.size 171 (kdC k).toArray:=by
   refine ⟨_,rfl,((hbel).setCell (p:=⟨g,8,none⟩) (Nat.le_refl _) _).setCell (p:=⟨g,9,none⟩) (Nat.le_refl _) _,by have h:=((hG).set_ 8 (.int .i64 k.bottom.1)).set_ 9 (.int .i64 k.bottom.2); simp only [plC,zA,zB,zC] at h; exact h,qua (qua (ho) (Nat.lt_succ_self g) _) (Nat.lt_succ_self g) _,((hk).far (p:=⟨g,8,none⟩) hne.symm _).far (p:=⟨g,9,none⟩) hne.symm _⟩
  rw [<-hW9]
  clear hW9
  go_wp2_with fail
  refine ⟨rfl,_,results_none rfl _ _ _,rfl,hbel,(.slice w7vA w7vn w7vc),by simpa [putK,hth,hou,hm1] using hG,by simpa [putK,hth,hou,hm1] using ho⟩
 ·have fG:=hG.frozen
  have e1:W1.cell? ⟨g,1,none⟩=some (.int .i64 (p.height)):=hG.cell 1
  have e2:W1.cell? ⟨g,2,none⟩=some (.int .i64 (p.top).1):=hG.cell 2
  have e3:W1.cell? ⟨g,3,none⟩=some (.int .i64 (p.top).2):=hG.cell 3
  have e7:W1.cell? ⟨g,7,none⟩=some (.int .i64 (p.y)):=hG.cell 7
  have e8:W1.cell? ⟨g,8,none⟩=some (.int .i64 (m1).1):=hG.cell 8
  have e9:W1.cell? ⟨g,9,none⟩=some (.int .i64 (m1).2):=hG.cell 9
  have e10:W1.cell? ⟨g,10,none⟩=some (.bool false):=hG.cell 10
  have k2:W1.cell? ⟨w.heap.size,2,none⟩=some (.int .i64 k.bottom.1):=hk.cell 2
  have k3:W1.cell? ⟨w.heap.size,3,none⟩=some (.int .i64 k.bottom.2):=hk.cell 3
  have k4:W1.cell? ⟨w.heap.size,4,none⟩=some (.int .i64 k.height):=hk.cell 4
  have k5:W1.cell? ⟨w.heap.size,5,none⟩=some (.bool k.through):=hk.cell 5
  simp only [hth] at k5
  go_wp2_with fail
  clear fG e1 e2 e3 e7 e8 e9 e10 k2 k3 k4 k5
  have hbs:g+1<=W1.heap.size:=hG.lt
  have c0:∀ V:BW (g+1) W1,V.val.cell? ⟨g,0,none⟩=some (av):=fun V=>(hG.below V.ok (Nat.lt_succ_self g)).cell 0
  have c7:∀ V:BW (g+1) W1,V.val.cell? ⟨g,7,none⟩=some (.int .i64 (p.y)):=fun V=>(hG.below V.ok (Nat.lt_succ_self g)).cell 7
  have c8:∀ V:BW (g+1) W1,V.val.cell? ⟨g,8,none⟩=some (.int .i64 (m1).1):=fun V=>(hG.below V.ok (Nat.lt_succ_self g)).cell 8
  have c9:∀ V:BW (g+1) W1,V.val.cell? ⟨g,9,none⟩=some (.int .i64 (m1).2):=fun V=>(hG.below V.ok (Nat.lt_succ_self g)).cell 9
  refine qna [21] [0,1,2,3,4,5,6,7,8,9,10,11,12,13] [14,15,16,17,18,19,20,21] (fun w'=>∃ V:BW (g+1) W1,w'=V.val) (by kernel_rfl) (by kernel_rfl) (fun c a d v w h=>by cases d <;> exact h) ⟨⟨W1.drew,(Below.refl _ _).drew⟩,rfl⟩ ?_
  simp only [pickD,List.map_cons,List.map_nil,List.getD_cons_zero,List.getD_cons_succ]
  repeat (go_big_quiet_step (fail))
  refine wpQuiet_nil ?_
  refine qca rfl fun K hK=>?_
  go_simp
  go_at_call 168
  refine (q1h (m1) _).mono ?_
  rintro e Wv ⟨rfl,hv⟩
  have hbv:Below (g+1) W1 Wv:=((Below.refl _ _).drew).trans (hv.mono hbs)
  have hsv:W1.heap.size<=Wv.heap.size:=hv.size
  refine hK.out _ _ (.inr ⟨⟨_,hbv⟩,rfl⟩) ?_
  clear hK K
  try simp only [Act.put,zA,zB,zC]
  refine qca rfl fun K hK=>?_
  go_simp
  try simp only [IntWalk.i64_left]
  refine hK.out _ _ (.inr ⟨⟨_,hbv⟩,rfl⟩) ?_
  clear hK K
  try simp only [Act.put,zA,zB,zC]
  refine qca rfl fun K hK=>?_
  go_simp
  refine hK.out _ _ (.inr ⟨⟨_,(hbv).alloc ((Nat.le_trans hbs hsv)) _⟩,rfl⟩) ?_
  clear hK K
  try simp only [Act.put,zA,zB,zC]
  refine qca rfl fun K hK=>?_
  refine qxf Wv (w64 (p.y+valM m1)) rfl _ _ rfl (g+1) (av) (p.at_) ?_ (Owns.below (w:=W1.drew) (ho.drew) hv) ?_ (by first | omega | (simp; omega)) (Nat.le_trans hbs hsv) ?_
  ·rfl
  ·rfl
  intro w10v W10j ho2 hb2 hkeep
  obtain ⟨w10vA,w10vn,w10vc,rfl⟩:=qpd ho2
  have hb2:Below (g+1) W1 W10j:=hbv.trans hb2
  refine hK.out _ _ (.inr ⟨⟨_,hb2⟩,rfl⟩) ?_
  clear hK K
  try simp only [Act.put,zA,zB,zC]
  refine qca rfl fun K hK=>?_
  go_simp
  refine hK.out _ _ (.inr ⟨⟨_,hb2⟩,rfl⟩) ?_
  clear hK K
  try simp only [Act.put,zA,zB,zC]
  refine qca rfl fun K hK=>?_
  go_simp
  refine hK.out _ _ (.inr ⟨⟨_,hb2⟩,rfl⟩) ?_
  clear hK K
  try simp only [Act.put,zA,zB,zC]
  refine qca rfl fun K hK=>?_
  go_simp
  refine hK.out _ _ (.inr ⟨⟨_,hb2⟩,rfl⟩) ?_
  clear hK K
  try simp only [Act.put,zA,zB,zC]
  refine qca rfl fun K hK=>?_
  have hG1:=hG.below hb2 (Nat.lt_succ_self g)
  have f1:=hG1.frozen
  have d0:W10j.cell? ⟨g,0,none⟩=some (av):=hG1.cell 0
  go_simp
  refine hK.out _ _ (.inl (by decide)) ?_
  clear hK K
  refine qla ?_
  obtain ⟨W10,hW10,hbel,hG,ho,hk⟩:∃ V,V=W10j.setCell ⟨g,0,none⟩ (.slice w10vA w10vn w10vc)/\Below g w V/\Blk V g 232 (plC ⟨(p.at_ ++ [w64 (p.y+valM m1)]),p.height,p.top,p.bottom,p.through,p.y,m1,false⟩ (.slice w10vA w10vn w10vc)).toArray/\Owns V (g+1) ((.slice w10vA w10vn w10vc)) ((p.at_ ++ [w64 (p.y+valM m1)]))/\Blk V w.heap.size 171 (kdC k).toArray:=by
   refine ⟨_,rfl,(hbel.trans (hb2.mono (Nat.le_succ g))).setCell (p:=⟨g,0,none⟩) (Nat.le_refl _) _,by have h:=hG1.set_ 0 (.slice w10vA w10vn w10vc); simp only [plC,zA,zB,zC] at h; exact h,qua ho2 (Nat.lt_succ_self g) _,(hkeep _ _ _ ((hk.drew).below hv (by simpa using hk.lt)) (by decide)).far (p:=⟨g,0,none⟩) hne.symm _⟩
  rw [<-hW10]
  clear hW10 hbs d0 hG1 f1 hb2 ho2 hkeep c0 c7 c8 c9 hv hbv hsv
  go_wp2_with fail
  have c8:∀ V:BW (W10.heap.size) W10,V.val.cell? ⟨g,8,none⟩=some (.int .i64 (m1).1):=fun V=>(hG.below V.ok hG.lt).cell 8
  have c9:∀ V:BW (W10.heap.size) W10,V.val.cell? ⟨g,9,none⟩=some (.int .i64 (m1).2):=fun V=>(hG.below V.ok hG.lt).cell 9
  have k2:∀ V:BW (W10.heap.size) W10,V.val.cell? ⟨w.heap.size,2,none⟩=some (.int .i64 k.bottom.1):=fun V=>(hk.below V.ok hk.lt).cell 2
  have k3:∀ V:BW (W10.heap.size) W10,V.val.cell? ⟨w.heap.size,3,none⟩=some (.int .i64 k.bottom.2):=fun V=>(hk.below V.ok hk.lt).cell 3
  refine qna [11] [0,1,2,3,4,5,6] [7,8,9,10,11] (fun w'=>∃ V:BW (W10.heap.size) W10,w'=V.val) (by kernel_rfl) (by kernel_rfl) (fun c a d v w h=>by cases d <;> exact h) ⟨⟨W10.drew,(Below.refl _ _).drew⟩,rfl⟩ ?_
  simp only [pickD,List.map_cons,List.map_nil,List.getD_cons_zero,List.getD_cons_succ]
  repeat (go_big_quiet_step (fail))
  refine wpQuiet_nil ?_
  refine qca rfl fun K hK=>?_
  go_simp
  refine hK.out _ _ (.inr ⟨⟨_,((Below.refl _ _).drew).alloc (Nat.le_refl _) _⟩,rfl⟩) ?_
  clear hK K
  try simp only [Act.put,zA,zB,zC]
  refine qca rfl fun K hK=>?_
  go_simp
  go_at_call 111
  refine (qgf (m1) (k.bottom) W10.heap.size _ (Blk.new W10.drew _ _)).mono ?_
  rintro e W11j ⟨rfl,hj⟩
  have hb2:Below W10.heap.size W10 W11j:=(((Below.refl W10.heap.size W10).drew).alloc (Nat.le_refl _) (.cells (mgC (m1) ++ mgC (k.bottom)).toArray 85)).trans (hj.mono (by simp))
  refine hK.out _ _ (.inr ⟨⟨_,hb2⟩,rfl⟩) ?_
  clear hK K
  try simp only [Act.put,zA,zB,zC]
  refine qca rfl fun K hK=>?_
  go_simp
  refine hK.out _ _ (.inr ⟨⟨_,hb2⟩,rfl⟩) ?_
  clear hK K
  try simp only [Act.put,zA,zB,zC]
  refine qca rfl fun K hK=>?_
  go_simp
  refine hK.out _ _ (.inr ⟨⟨_,hb2⟩,rfl⟩) ?_
  clear hK K
  try simp only [Act.put,zA,zB,zC]
  refine qca rfl fun K hK=>?_
  have d8:=c8 ⟨W11j,hb2⟩
  have d9:=c9 ⟨W11j,hb2⟩
  have hG1:=hG.below hb2 hG.lt
  have f1:=hG1.frozen
  simp only at d8 d9
  go_simp
  refine hK.out _ _ (.inl (by decide)) ?_
  clear hK K
  refine qla ?_
  obtain ⟨W11,hW11,hbel,hG,ho,hk⟩:∃ V,V=(W11j.setCell ⟨g,8,none⟩ (.int .i64 (withM (m1) (k.bottom)).1)).setCell ⟨g,9,none⟩ (.int .i64 (withM (m1) (k.bottom)).2)/\Below g w V/\Blk V g 232 (plC ⟨(p.at_ ++ [w64 (p.y+valM m1)]),p.height,p.top,p.bottom,p.through,p.y,(withM (m1) (k.bottom)),false⟩ (.slice w10vA w10vn w10vc)).toArray/\Owns V (g+1) ((.slice w10vA w10vn w10vc)) ((p.at_ ++ [w64 (p.y+valM m1)]))/\Blk V w.heap.size 171 (kdC k).toArray:=by
   refine ⟨_,rfl,((hbel.trans (hb2.mono (Nat.le_of_lt hG.lt))).setCell (p:=⟨g,8,none⟩) (Nat.le_refl _) _).setCell (p:=⟨g,9,none⟩) (Nat.le_refl _) _,by have h:=(hG1.set_ 8 (.int .i64 (withM (m1) (k.bottom)).1)).set_ 9 (.int .i64 (withM (m1) (k.bottom)).2); simp only [plC,zA,zB,zC] at h; exact h,qua (qua (ho.below hb2) (Nat.lt_succ_self g) _) (Nat.lt_succ_self g) _,((hk.below hb2 hk.lt).far (p:=⟨g,8,none⟩) hne.symm _).far (p:=⟨g,9,none⟩) hne.symm _⟩
  rw [<-hW11]
  clear hW11 c8 c9 d8 d9 hG1 f1 hb2 hj k2 k3
  go_wp2_with fail
  refine ⟨rfl,_,results_none rfl _ _ _,rfl,hbel,(.slice w10vA w10vn w10vc),by simpa [putK,hth,hou,hm1] using hG,by simpa [putK,hth,hou,hm1] using ho⟩
 ·have fG:=hG.frozen
  have e1:W1.cell? ⟨g,1,none⟩=some (.int .i64 (p.height)):=hG.cell 1
  have e2:W1.cell? ⟨g,2,none⟩=some (.int .i64 (p.top).1):=hG.cell 2
  have e3:W1.cell? ⟨g,3,none⟩=some (.int .i64 (p.top).2):=hG.cell 3
  have e7:W1.cell? ⟨g,7,none⟩=some (.int .i64 (p.y)):=hG.cell 7
  have e8:W1.cell? ⟨g,8,none⟩=some (.int .i64 (m1).1):=hG.cell 8
  have e9:W1.cell? ⟨g,9,none⟩=some (.int .i64 (m1).2):=hG.cell 9
  have e10:W1.cell? ⟨g,10,none⟩=some (.bool true):=hG.cell 10
  have k2:W1.cell? ⟨w.heap.size,2,none⟩=some (.int .i64 k.bottom.1):=hk.cell 2
  have k3:W1.cell? ⟨w.heap.size,3,none⟩=some (.int .i64 k.bottom.2):=hk.cell 3
  have k4:W1.cell? ⟨w.heap.size,4,none⟩=some (.int .i64 k.height):=hk.cell 4
  have k5:W1.cell? ⟨w.heap.size,5,none⟩=some (.bool k.through):=hk.cell 5
  simp only [hth] at k5
  go_wp2_with fail
  clear fG e1 e2 e3 e7 e8 e9 e10 k2 k3 k4 k5
  have hbs:g+1<=W1.heap.size:=hG.lt
  have c0:∀ V:BW (g+1) W1,V.val.cell? ⟨g,0,none⟩=some (av):=fun V=>(hG.below V.ok (Nat.lt_succ_self g)).cell 0
  have c7:∀ V:BW (g+1) W1,V.val.cell? ⟨g,7,none⟩=some (.int .i64 (p.y)):=fun V=>(hG.below V.ok (Nat.lt_succ_self g)).cell 7
  refine qna [15] [0,1,2,3,4,5,6,7,8,9] [10,11,12,13,14,15] (fun w'=>∃ V:BW (g+1) W1,w'=V.val) (by kernel_rfl) (by kernel_rfl) (fun c a d v w h=>by cases d <;> exact h) ⟨⟨W1.drew,(Below.refl _ _).drew⟩,rfl⟩ ?_
  simp only [pickD,List.map_cons,List.map_nil,List.getD_cons_zero,List.getD_cons_succ]
  repeat (go_big_quiet_step (fail))
  refine wpQuiet_nil ?_
  refine qca rfl fun K hK=>?_
  go_simp
  refine hK.out _ _ (.inr ⟨⟨_,((Below.refl _ _).drew).alloc (hbs) _⟩,rfl⟩) ?_
  clear hK K
  try simp only [Act.put,zA,zB,zC]
  refine qca rfl fun K hK=>?_
  refine qxf W1.drew (p.y) rfl _ _ rfl (g+1) (av) (p.at_) ?_ (ho.drew) ?_ (by first | omega | (simp; omega)) (Nat.le_trans hbs (Nat.le_refl _)) ?_
  ·rfl
  ·rfl
  intro w12v W12j ho2 hb2 hkeep
  obtain ⟨w12vA,w12vn,w12vc,rfl⟩:=qpd ho2
  have hb2:Below (g+1) W1 W12j:=((Below.refl (g+1) W1).drew).trans hb2
  refine hK.out _ _ (.inr ⟨⟨_,hb2⟩,rfl⟩) ?_
  clear hK K
  try simp only [Act.put,zA,zB,zC]
  refine qca rfl fun K hK=>?_
  go_simp
  refine hK.out _ _ (.inr ⟨⟨_,hb2⟩,rfl⟩) ?_
  clear hK K
  try simp only [Act.put,zA,zB,zC]
  refine qca rfl fun K hK=>?_
  go_simp
  refine hK.out _ _ (.inr ⟨⟨_,hb2⟩,rfl⟩) ?_
  clear hK K
  try simp only [Act.put,zA,zB,zC]
  refine qca rfl fun K hK=>?_
  go_simp
  refine hK.out _ _ (.inr ⟨⟨_,hb2⟩,rfl⟩) ?_
  clear hK K
  try simp only [Act.put,zA,zB,zC]
  refine qca rfl fun K hK=>?_
  have hG1:=hG.below hb2 (Nat.lt_succ_self g)
  have f1:=hG1.frozen
  have d0:W12j.cell? ⟨g,0,none⟩=some (av):=hG1.cell 0
  go_simp
  refine hK.out _ _ (.inl (by decide)) ?_
  clear hK K
  refine qla ?_
  obtain ⟨W12,hW12,hbel,hG,ho,hk⟩:∃ V,V=W12j.setCell ⟨g,0,none⟩ (.slice w12vA w12vn w12vc)/\Below g w V/\Blk V g 232 (plC ⟨(p.at_ ++ [p.y]),p.height,p.top,p.bottom,p.through,p.y,m1,true⟩ (.slice w12vA w12vn w12vc)).toArray/\Owns V (g+1) ((.slice w12vA w12vn w12vc)) ((p.at_ ++ [p.y]))/\Blk V w.heap.size 171 (kdC k).toArray:=by
   refine ⟨_,rfl,(hbel.trans (hb2.mono (Nat.le_succ g))).setCell (p:=⟨g,0,none⟩) (Nat.le_refl _) _,by have h:=hG1.set_ 0 (.slice w12vA w12vn w12vc); simp only [plC,zA,zB,zC] at h; exact h,qua ho2 (Nat.lt_succ_self g) _,(hkeep _ _ _ hk.drew (by decide)).far (p:=⟨g,0,none⟩) hne.symm _⟩
  rw [<-hW12]
  clear hW12 hbs d0 hG1 f1 hb2 ho2 hkeep c0 c7
  go_wp2_with fail
  have c8:∀ V:BW (W12.heap.size) W12,V.val.cell? ⟨g,8,none⟩=some (.int .i64 (m1).1):=fun V=>(hG.below V.ok hG.lt).cell 8
  have c9:∀ V:BW (W12.heap.size) W12,V.val.cell? ⟨g,9,none⟩=some (.int .i64 (m1).2):=fun V=>(hG.below V.ok hG.lt).cell 9
  have k2:∀ V:BW (W12.heap.size) W12,V.val.cell? ⟨w.heap.size,2,none⟩=some (.int .i64 k.bottom.1):=fun V=>(hk.below V.ok hk.lt).cell 2
  have k3:∀ V:BW (W12.heap.size) W12,V.val.cell? ⟨w.heap.size,3,none⟩=some (.int .i64 k.bottom.2):=fun V=>(hk.below V.ok hk.lt).cell 3
  refine qna [11] [0,1,2,3,4,5,6] [7,8,9,10,11] (fun w'=>∃ V:BW (W12.heap.size) W12,w'=V.val) (by kernel_rfl) (by kernel_rfl) (fun c a d v w h=>by cases d <;> exact h) ⟨⟨W12.drew,(Below.refl _ _).drew⟩,rfl⟩ ?_
  simp only [pickD,List.map_cons,List.map_nil,List.getD_cons_zero,List.getD_cons_succ]
  repeat (go_big_quiet_step (fail))
  refine wpQuiet_nil ?_
  refine qca rfl fun K hK=>?_
  go_simp
  refine hK.out _ _ (.inr ⟨⟨_,((Below.refl _ _).drew).alloc (Nat.le_refl _) _⟩,rfl⟩) ?_
  clear hK K
  try simp only [Act.put,zA,zB,zC]
  refine qca rfl fun K hK=>?_
  go_simp
  go_at_call 111
  refine (qgf (m1) (k.bottom) W12.heap.size _ (Blk.new W12.drew _ _)).mono ?_
  rintro e W13j ⟨rfl,hj⟩
  have hb2:Below W12.heap.size W12 W13j:=(((Below.refl W12.heap.size W12).drew).alloc (Nat.le_refl _) (.cells (mgC (m1) ++ mgC (k.bottom)).toArray 85)).trans (hj.mono (by simp))
  refine hK.out _ _ (.inr ⟨⟨_,hb2⟩,rfl⟩) ?_
  clear hK K
  try simp only [Act.put,zA,zB,zC]
  refine qca rfl fun K hK=>?_
  go_simp
  refine hK.out _ _ (.inr ⟨⟨_,hb2⟩,rfl⟩) ?_
  clear hK K
  try simp only [Act.put,zA,zB,zC]
  refine qca rfl fun K hK=>?_
  go_simp
  refine hK.out _ _ (.inr ⟨⟨_,hb2⟩,rfl⟩) ?_
  clear hK K
  try simp only [Act.put,zA,zB,zC]
  refine qca rfl fun K hK=>?_
  have d8:=c8 ⟨W13j,hb2⟩
  have d9:=c9 ⟨W13j,hb2⟩
  have hG1:=hG.below hb2 hG.lt
  have f1:=hG1.frozen
  simp only at d8 d9
  go_simp
  refine hK.out _ _ (.inl (by decide)) ?_
  clear hK K
  refine qla ?_
  obtain ⟨W13,hW13,hbel,hG,ho,hk⟩:∃ V,V=(W13j.setCell ⟨g,8,none⟩ (.int .i64 (withM (m1) (k.bottom)).1)).setCell ⟨g,9,none⟩ (.int .i64 (withM (m1) (k.bottom)).2)/\Below g w V/\Blk V g 232 (plC ⟨(p.at_ ++ [p.y]),p.height,p.top,p.bottom,p.through,p.y,(withM (m1) (k.bottom)),true⟩ (.slice w12vA w12vn w12vc)).toArray/\Owns V (g+1) ((.slice w12vA w12vn w12vc)) ((p.at_ ++ [p.y]))/\Blk V w.heap.size 171 (kdC k).toArray:=by
   refine ⟨_,rfl,((hbel.trans (hb2.mono (Nat.le_of_lt hG.lt))).setCell (p:=⟨g,8,none⟩) (Nat.le_refl _) _).setCell (p:=⟨g,9,none⟩) (Nat.le_refl _) _,by have h:=(hG1.set_ 8 (.int .i64 (withM (m1) (k.bottom)).1)).set_ 9 (.int .i64 (withM (m1) (k.bottom)).2); simp only [plC,zA,zB,zC] at h; exact h,qua (qua (ho.below hb2) (Nat.lt_succ_self g) _) (Nat.lt_succ_self g) _,((hk.below hb2 hk.lt).far (p:=⟨g,8,none⟩) hne.symm _).far (p:=⟨g,9,none⟩) hne.symm _⟩
  rw [<-hW13]
  clear hW13 c8 c9 d8 d9 hG1 f1 hb2 hj k2 k3
  go_wp2_with fail
  refine ⟨rfl,_,results_none rfl _ _ _,rfl,hbel,(.slice w12vA w12vn w12vc),by simpa [putK,hth,hou,hm1] using hG,by simpa [putK,hth,hou,hm1] using ho⟩
theorem qja {w:World} {base:Nat} {v:Value} {zs:List Int} (h:Owns w base v zs) {p:Addr} (hp:∀ k,v.ownBlock=some k->k≠p.block) (u:Value):Owns (w.setCell p u) base v zs:=by
 obtain ⟨h1,h2⟩:=h
 refine ⟨h1,?_⟩
 rcases h2 with h2 | ⟨g,cap,cur,e,hg,hb,r⟩
 ·exact .inl h2
 ·exact .inr ⟨g,cap,cur,e,hg,(Below.heap_setCell w p u g (hp g (by rw [e]; rfl))).trans hb,r⟩
theorem qod:(Tryz.prog.info? 177).map (·.size)=some 7:=by kernel_rfl
def skC (p:Pl) (av:Value):List Value:=[av,.int .i64 p.height,.int .i64 p.top.1,.int .i64 p.top.2,.int .i64 p.bottom.1,.int .i64 p.bottom.2,.bool p.through]
def quk (q:Pl) (g:Nat) (w:World) (e:Ending) (w':World):Prop :=
 ∃ av,e=.returned (.agg (skC q av).toArray)/\Below g w w'/\Owns w' (g+1) av q.at_
set_option maxRecDepth 100000 in
set_option maxHeartbeats 8000000 in
theorem qiv (p:Pl) (below:Bool) (av:Value) (g:Nat) (w:World) (hg:Blk w g 232 (plC p av).toArray) (ho:Owns w (g+1) av p.at_) :
  Calls Tryz.prog 145 #[.pointer (some ⟨g,0,none⟩),.bool below] w (quk (endK p below) g w):=by
 obtain ⟨A,n,c,rfl⟩:=qpd ho
 obtain ⟨W,hW,hbel0,hk,-⟩:=qya w 177 [.slice none 0 0,.int .i64 0,.int .i64 0,.int .i64 0,.int .i64 0,.int .i64 0,.bool false]
 have hG:Blk W g 232 (plC ⟨p.at_,p.height,p.top,p.bottom,p.through,p.y,p.waits,p.outside⟩ (.slice A n c)).toArray:=hg.below hbel0 hg.lt
 have hglt:=hg.lt
 have hne:g≠w.heap.size:=Nat.ne_of_lt hglt
 have hbel:Below g w W:=hbel0.mono (Nat.le_of_lt hglt)
 have hA:∀ k,(Value.slice A n c).ownBlock=some k->k≠g/\k≠w.heap.size:=fun k e=>by have h:=ho.lt k e; omega
 have ho:=ho.below hbel0
 clear hg hbel0
 go_enter Tryz.func145,Tryz.ntmps145
 go_upto_region 2 with fail
 change Code.wp _ _ _ _ (w.alloc _)
 rw [<-hW]
 clear hW
 skip
 cases hou:p.outside
 all_goals simp only [hou] at hG
 all_goals cases hbe:below
 ·have fG:=hG.frozen
  have e0:W.cell? ⟨g,0,none⟩=some ((.slice A n c)):=hG.cell 0
  have e1:W.cell? ⟨g,1,none⟩=some (.int .i64 (p.height)):=hG.cell 1
  have e2:W.cell? ⟨g,2,none⟩=some (.int .i64 (p.top).1):=hG.cell 2
  have e3:W.cell? ⟨g,3,none⟩=some (.int .i64 (p.top).2):=hG.cell 3
  have e4:W.cell? ⟨g,4,none⟩=some (.int .i64 (p.bottom).1):=hG.cell 4
  have e5:W.cell? ⟨g,5,none⟩=some (.int .i64 (p.bottom).2):=hG.cell 5
  have e6:W.cell? ⟨g,6,none⟩=some (.bool p.through):=hG.cell 6
  have e7:W.cell? ⟨g,7,none⟩=some (.int .i64 (p.y)):=hG.cell 7
  have e8:W.cell? ⟨g,8,none⟩=some (.int .i64 (p.waits).1):=hG.cell 8
  have e9:W.cell? ⟨g,9,none⟩=some (.int .i64 (p.waits).2):=hG.cell 9
  have e10:W.cell? ⟨g,10,none⟩=some (.bool false):=hG.cell 10
  have fr:=hk.frozen
  have r0:W.cell? ⟨w.heap.size,0,none⟩=some (.slice none 0 0):=hk.cell 0
  have r1:W.cell? ⟨w.heap.size,1,none⟩=some (.int .i64 0):=hk.cell 1
  have r2:W.cell? ⟨w.heap.size,2,none⟩=some (.int .i64 0):=hk.cell 2
  have r3:W.cell? ⟨w.heap.size,3,none⟩=some (.int .i64 0):=hk.cell 3
  have r4:W.cell? ⟨w.heap.size,4,none⟩=some (.int .i64 0):=hk.cell 4
  have r5:W.cell? ⟨w.heap.size,5,none⟩=some (.int .i64 0):=hk.cell 5
  have r6:W.cell? ⟨w.heap.size,6,none⟩=some (.bool false):=hk.cell 6
  go_wp2_with fail
  clear fG e0 e1 e2 e3 e4 e5 e6 e7 e8 e9 e10
  have c7:∀ V:BW (W.heap.size) W,V.val.cell? ⟨g,7,none⟩=some (.int .i64 (p.y)):=fun V=>(hG.below V.ok hG.lt).cell 7
  have c8:∀ V:BW (W.heap.size) W,V.val.cell? ⟨g,8,none⟩=some (.int .i64 (p.waits).1):=fun V=>(hG.below V.ok hG.lt).cell 8
  have c9:∀ V:BW (W.heap.size) W,V.val.cell? ⟨g,9,none⟩=some (.int .i64 (p.waits).2):=fun V=>(hG.below V.ok hG.lt).cell 9
  refine qna [12] [0,1,2,3,4,5,6,7] [8,9,10,11,12] (fun w'=>∃ V:BW (W.heap.size) W,w'=V.val) (by kernel_rfl) (by kernel_rfl) (fun c a d v w h=>by cases d <;> exact h) ⟨⟨W.drew,(Below.refl _ _).drew⟩,rfl⟩ ?_
  simp only [pickD,List.map_cons,List.map_nil,List.getD_cons_zero,List.getD_cons_succ]
  repeat (go_big_quiet_step (fail))
  refine wpQuiet_nil ?_
  refine qca rfl fun K hK=>?_
  go_simp
  go_at_call 168
  refine (q1h (p.waits) _).mono ?_
  rintro e Wv ⟨rfl,hv⟩
  have hb2:Below W.heap.size W Wv:=((Below.refl _ _).drew).trans (hv.mono (by simp))
  refine hK.out _ _ (.inr ⟨⟨_,hb2⟩,rfl⟩) ?_
  clear hK K
  try simp only [Act.put,zA,zB,zC]
  refine qca rfl fun K hK=>?_
  go_simp
  try simp only [IntWalk.i64_left]
  refine hK.out _ _ (.inr ⟨⟨_,hb2⟩,rfl⟩) ?_
  clear hK K
  try simp only [Act.put,zA,zB,zC]
  refine qca rfl fun K hK=>?_
  go_simp
  refine hK.out _ _ (.inr ⟨⟨_,hb2⟩,rfl⟩) ?_
  clear hK K
  try simp only [Act.put,zA,zB,zC]
  refine qca rfl fun K hK=>?_
  go_simp
  refine hK.out _ _ (.inr ⟨⟨_,hb2⟩,rfl⟩) ?_
  clear hK K
  try simp only [Act.put,zA,zB,zC]
  refine qca rfl fun K hK=>?_
  have hG1:=hG.below hb2 hG.lt
  have f1:=hG1.frozen
  have d7:Wv.cell? ⟨g,7,none⟩=some (.int .i64 (p.y)):=hG1.cell 7
  go_simp
  refine hK.out _ _ (.inl (by decide)) ?_
  clear hK K
  refine qla ?_
  obtain ⟨W14,hW14,hbel,hG,ho,hk⟩:∃ V,V=Wv.setCell ⟨g,7,none⟩ (.int .i64 (w64 (p.y+valM p.waits)))/\Below g w V/\Blk V g 232 (plC ⟨p.at_,p.height,p.top,p.bottom,p.through,(w64 (p.y+valM p.waits)),p.waits,false⟩ (.slice A n c)).toArray/\Owns V (g+1) ((.slice A n c)) (p.at_)/\Blk V w.heap.size 177 #[.slice none 0 0,.int .i64 0,.int .i64 0,.int .i64 0,.int .i64 0,.int .i64 0,.bool false]:=by
   refine ⟨_,rfl,(hbel.trans (hb2.mono (Nat.le_of_lt hG.lt))).setCell (p:=⟨g,7,none⟩) (Nat.le_refl _) _,by have h:=hG1.set_ 7 (.int .i64 (w64 (p.y+valM p.waits))); simp only [plC,zA,zB,zC] at h; exact h,qua (ho.below hb2) (Nat.lt_succ_self g) _,(hk.below hb2 hk.lt).far (p:=⟨g,7,none⟩) hne.symm _⟩
  rw [<-hW14]
  clear hW14 hG1 d7 f1 hb2 hv c7 c8 c9
  obtain ⟨y1,hy1⟩:∃ y1,(w64 (p.y+valM p.waits))=y1:=⟨_,rfl⟩
  rw [hy1] at hG
  have fG:=hG.frozen
  have e0:W14.cell? ⟨g,0,none⟩=some ((.slice A n c)):=hG.cell 0
  have e1:W14.cell? ⟨g,1,none⟩=some (.int .i64 (p.height)):=hG.cell 1
  have e2:W14.cell? ⟨g,2,none⟩=some (.int .i64 (p.top).1):=hG.cell 2
  have e3:W14.cell? ⟨g,3,none⟩=some (.int .i64 (p.top).2):=hG.cell 3
  have e4:W14.cell? ⟨g,4,none⟩=some (.int .i64 (p.bottom).1):=hG.cell 4
  have e5:W14.cell? ⟨g,5,none⟩=some (.int .i64 (p.bottom).2):=hG.cell 5
  have e6:W14.cell? ⟨g,6,none⟩=some (.bool p.through):=hG.cell 6
  have e7:W14.cell? ⟨g,7,none⟩=some (.int .i64 (y1)):=hG.cell 7
  have e8:W14.cell? ⟨g,8,none⟩=some (.int .i64 (p.waits).1):=hG.cell 8
  have e9:W14.cell? ⟨g,9,none⟩=some (.int .i64 (p.waits).2):=hG.cell 9
  have e10:W14.cell? ⟨g,10,none⟩=some (.bool false):=hG.cell 10
  have fr:=hk.frozen
  have r0:W14.cell? ⟨w.heap.size,0,none⟩=some (.slice none 0 0):=hk.cell 0
  have r1:W14.cell? ⟨w.heap.size,1,none⟩=some (.int .i64 0):=hk.cell 1
  have r2:W14.cell? ⟨w.heap.size,2,none⟩=some (.int .i64 0):=hk.cell 2
  have r3:W14.cell? ⟨w.heap.size,3,none⟩=some (.int .i64 0):=hk.cell 3
  have r4:W14.cell? ⟨w.heap.size,4,none⟩=some (.int .i64 0):=hk.cell 4
  have r5:W14.cell? ⟨w.heap.size,5,none⟩=some (.int .i64 0):=hk.cell 5
  have r6:W14.cell? ⟨w.heap.size,6,none⟩=some (.bool false):=hk.cell 6
  have h1:=fun W ts t=>q0c (P:=Tryz.prog) W ts t 0 y1
  go_wp2_with fail
  clear fG e0 e1 e2 e3 e4 e5 e6 e7 e8 e9 e10
  have hr2:=((((((((hk).far (p:=⟨g,1,none⟩) hne.symm (.int .i64 (max 0 y1))).set_ 0 ((.slice A n c))).set_ 1 (.int .i64 ((max 0 y1)))).set_ 2 (.int .i64 (p.top).1)).set_ 3 (.int .i64 (p.top).2)).set_ 4 (.int .i64 (p.bottom).1)).set_ 5 (.int .i64 (p.bottom).2)).set_ 6 (.bool p.through)
  have hb2:=((((((((hbel).setCell (p:=⟨g,1,none⟩) (Nat.le_refl _) (.int .i64 (max 0 y1))).setCell (p:=⟨w.heap.size,0,none⟩) (Nat.le_of_lt hglt) ((.slice A n c))).setCell (p:=⟨w.heap.size,1,none⟩) (Nat.le_of_lt hglt) (.int .i64 ((max 0 y1)))).setCell (p:=⟨w.heap.size,2,none⟩) (Nat.le_of_lt hglt) (.int .i64 (p.top).1)).setCell (p:=⟨w.heap.size,3,none⟩) (Nat.le_of_lt hglt) (.int .i64 (p.top).2)).setCell (p:=⟨w.heap.size,4,none⟩) (Nat.le_of_lt hglt) (.int .i64 (p.bottom).1)).setCell (p:=⟨w.heap.size,5,none⟩) (Nat.le_of_lt hglt) (.int .i64 (p.bottom).2)).setCell (p:=⟨w.heap.size,6,none⟩) (Nat.le_of_lt hglt) (.bool p.through)
  have ho2:=qja (qja (qja (qja (qja (qja (qja (qja (ho) (p:=⟨g,1,none⟩) (fun k e=>(hA k e).1) (.int .i64 (max 0 y1))) (p:=⟨w.heap.size,0,none⟩) (fun k e=>(hA k e).2) ((.slice A n c))) (p:=⟨w.heap.size,1,none⟩) (fun k e=>(hA k e).2) (.int .i64 ((max 0 y1)))) (p:=⟨w.heap.size,2,none⟩) (fun k e=>(hA k e).2) (.int .i64 (p.top).1)) (p:=⟨w.heap.size,3,none⟩) (fun k e=>(hA k e).2) (.int .i64 (p.top).2)) (p:=⟨w.heap.size,4,none⟩) (fun k e=>(hA k e).2) (.int .i64 (p.bottom).1)) (p:=⟨w.heap.size,5,none⟩) (fun k e=>(hA k e).2) (.int .i64 (p.bottom).2)) (p:=⟨w.heap.size,6,none⟩) (fun k e=>(hA k e).2) (.bool p.through)
  simp only [zA,zB,zC] at hr2
  refine bodyPost_ret (results_cell_row rfl _ _ w.heap.size 177 (skC ⟨p.at_,(max 0 y1),p.top,p.bottom,p.through,y1,p.waits,false⟩ (.slice A n c)).toArray (0,0) _ rfl hr2 Tryz.underlying177 rfl qod) rfl ?_
  simp only [endK,hou,hbe,if_true,Bool.false_eq_true,if_false,hy1]
  exact ⟨_,rfl,hb2,ho2⟩
 ·have fG:=hG.frozen
  have e0:W.cell? ⟨g,0,none⟩=some ((.slice A n c)):=hG.cell 0
  have e1:W.cell? ⟨g,1,none⟩=some (.int .i64 (p.height)):=hG.cell 1
  have e2:W.cell? ⟨g,2,none⟩=some (.int .i64 (p.top).1):=hG.cell 2
  have e3:W.cell? ⟨g,3,none⟩=some (.int .i64 (p.top).2):=hG.cell 3
  have e4:W.cell? ⟨g,4,none⟩=some (.int .i64 (p.bottom).1):=hG.cell 4
  have e5:W.cell? ⟨g,5,none⟩=some (.int .i64 (p.bottom).2):=hG.cell 5
  have e6:W.cell? ⟨g,6,none⟩=some (.bool p.through):=hG.cell 6
  have e7:W.cell? ⟨g,7,none⟩=some (.int .i64 (p.y)):=hG.cell 7
  have e8:W.cell? ⟨g,8,none⟩=some (.int .i64 (p.waits).1):=hG.cell 8
  have e9:W.cell? ⟨g,9,none⟩=some (.int .i64 (p.waits).2):=hG.cell 9
  have e10:W.cell? ⟨g,10,none⟩=some (.bool false):=hG.cell 10
  have fr:=hk.frozen
  have r0:W.cell? ⟨w.heap.size,0,none⟩=some (.slice none 0 0):=hk.cell 0
  have r1:W.cell? ⟨w.heap.size,1,none⟩=some (.int .i64 0):=hk.cell 1
  have r2:W.cell? ⟨w.heap.size,2,none⟩=some (.int .i64 0):=hk.cell 2
  have r3:W.cell? ⟨w.heap.size,3,none⟩=some (.int .i64 0):=hk.cell 3
  have r4:W.cell? ⟨w.heap.size,4,none⟩=some (.int .i64 0):=hk.cell 4
  have r5:W.cell? ⟨w.heap.size,5,none⟩=some (.int .i64 0):=hk.cell 5
  have r6:W.cell? ⟨w.heap.size,6,none⟩=some (.bool false):=hk.cell 6
  have h1:=fun W ts t=>q0c (P:=Tryz.prog) W ts t 0 p.y
  go_wp2_with fail
  clear fG e0 e1 e2 e3 e4 e5 e6 e7 e8 e9 e10
  have hr2:=((((((((((hk).far (p:=⟨g,4,none⟩) hne.symm (.int .i64 p.waits.1)).far (p:=⟨g,5,none⟩) hne.symm (.int .i64 p.waits.2)).far (p:=⟨g,1,none⟩) hne.symm (.int .i64 (max 0 p.y))).set_ 0 ((.slice A n c))).set_ 1 (.int .i64 ((max 0 p.y)))).set_ 2 (.int .i64 (p.top).1)).set_ 3 (.int .i64 (p.top).2)).set_ 4 (.int .i64 (p.waits).1)).set_ 5 (.int .i64 (p.waits).2)).set_ 6 (.bool p.through)
  have hb2:=((((((((((hbel).setCell (p:=⟨g,4,none⟩) (Nat.le_refl _) (.int .i64 p.waits.1)).setCell (p:=⟨g,5,none⟩) (Nat.le_refl _) (.int .i64 p.waits.2)).setCell (p:=⟨g,1,none⟩) (Nat.le_refl _) (.int .i64 (max 0 p.y))).setCell (p:=⟨w.heap.size,0,none⟩) (Nat.le_of_lt hglt) ((.slice A n c))).setCell (p:=⟨w.heap.size,1,none⟩) (Nat.le_of_lt hglt) (.int .i64 ((max 0 p.y)))).setCell (p:=⟨w.heap.size,2,none⟩) (Nat.le_of_lt hglt) (.int .i64 (p.top).1)).setCell (p:=⟨w.heap.size,3,none⟩) (Nat.le_of_lt hglt) (.int .i64 (p.top).2)).setCell (p:=⟨w.heap.size,4,none⟩) (Nat.le_of_lt hglt) (.int .i64 (p.waits).1)).setCell (p:=⟨w.heap.size,5,none⟩) (Nat.le_of_lt hglt) (.int .i64 (p.waits).2)).setCell (p:=⟨w.heap.size,6,none⟩) (Nat.le_of_lt hglt) (.bool p.through)
  have ho2:=qja (qja (qja (qja (qja (qja (qja (qja (qja (qja (ho) (p:=⟨g,4,none⟩) (fun k e=>(hA k e).1) (.int .i64 p.waits.1)) (p:=⟨g,5,none⟩) (fun k e=>(hA k e).1) (.int .i64 p.waits.2)) (p:=⟨g,1,none⟩) (fun k e=>(hA k e).1) (.int .i64 (max 0 p.y))) (p:=⟨w.heap.size,0,none⟩) (fun k e=>(hA k e).2) ((.slice A n c))) (p:=⟨w.heap.size,1,none⟩) (fun k e=>(hA k e).2) (.int .i64 ((max 0 p.y)))) (p:=⟨w.heap.size,2,none⟩) (fun k e=>(hA k e).2) (.int .i64 (p.top).1)) (p:=⟨w.heap.size,3,none⟩) (fun k e=>(hA k e).2) (.int .i64 (p.top).2)) (p:=⟨w.heap.size,4,none⟩) (fun k e=>(hA k e).2) (.int .i64 (p.waits).1)) (p:=⟨w.heap.size,5,none⟩) (fun k e=>(hA k e).2) (.int .i64 (p.waits).2)) (p:=⟨w.heap.size,6,none⟩) (fun k e=>(hA k e).2) (.bool p.through)
  simp only [zA,zB,zC] at hr2
  refine bodyPost_ret (results_cell_row rfl _ _ w.heap.size 177 (skC ⟨p.at_,(max 0 p.y),p.top,p.waits,p.through,p.y,p.waits,false⟩ (.slice A n c)).toArray (0,0) _ rfl hr2 Tryz.underlying177 rfl qod) rfl ?_
  simp only [endK,hou,hbe,if_true,Bool.false_eq_true,if_false]
  exact ⟨_,rfl,hb2,ho2⟩
 ·have fG:=hG.frozen
  have e0:W.cell? ⟨g,0,none⟩=some ((.slice A n c)):=hG.cell 0
  have e1:W.cell? ⟨g,1,none⟩=some (.int .i64 (p.height)):=hG.cell 1
  have e2:W.cell? ⟨g,2,none⟩=some (.int .i64 (p.top).1):=hG.cell 2
  have e3:W.cell? ⟨g,3,none⟩=some (.int .i64 (p.top).2):=hG.cell 3
  have e4:W.cell? ⟨g,4,none⟩=some (.int .i64 (p.bottom).1):=hG.cell 4
  have e5:W.cell? ⟨g,5,none⟩=some (.int .i64 (p.bottom).2):=hG.cell 5
  have e6:W.cell? ⟨g,6,none⟩=some (.bool p.through):=hG.cell 6
  have e7:W.cell? ⟨g,7,none⟩=some (.int .i64 (p.y)):=hG.cell 7
  have e8:W.cell? ⟨g,8,none⟩=some (.int .i64 (p.waits).1):=hG.cell 8
  have e9:W.cell? ⟨g,9,none⟩=some (.int .i64 (p.waits).2):=hG.cell 9
  have e10:W.cell? ⟨g,10,none⟩=some (.bool true):=hG.cell 10
  have fr:=hk.frozen
  have r0:W.cell? ⟨w.heap.size,0,none⟩=some (.slice none 0 0):=hk.cell 0
  have r1:W.cell? ⟨w.heap.size,1,none⟩=some (.int .i64 0):=hk.cell 1
  have r2:W.cell? ⟨w.heap.size,2,none⟩=some (.int .i64 0):=hk.cell 2
  have r3:W.cell? ⟨w.heap.size,3,none⟩=some (.int .i64 0):=hk.cell 3
  have r4:W.cell? ⟨w.heap.size,4,none⟩=some (.int .i64 0):=hk.cell 4
  have r5:W.cell? ⟨w.heap.size,5,none⟩=some (.int .i64 0):=hk.cell 5
  have r6:W.cell? ⟨w.heap.size,6,none⟩=some (.bool false):=hk.cell 6
  go_wp2_with fail
  clear fG e0 e1 e2 e3 e4 e5 e6 e7 e8 e9 e10
  have hr2:=((((((((((hk).far (p:=⟨g,2,none⟩) hne.symm (.int .i64 p.waits.1)).far (p:=⟨g,3,none⟩) hne.symm (.int .i64 p.waits.2)).far (p:=⟨g,6,none⟩) hne.symm (.bool false)).set_ 0 ((.slice A n c))).set_ 1 (.int .i64 (p.height))).set_ 2 (.int .i64 (p.waits).1)).set_ 3 (.int .i64 (p.waits).2)).set_ 4 (.int .i64 (p.bottom).1)).set_ 5 (.int .i64 (p.bottom).2)).set_ 6 (.bool false)
  have hb2:=((((((((((hbel).setCell (p:=⟨g,2,none⟩) (Nat.le_refl _) (.int .i64 p.waits.1)).setCell (p:=⟨g,3,none⟩) (Nat.le_refl _) (.int .i64 p.waits.2)).setCell (p:=⟨g,6,none⟩) (Nat.le_refl _) (.bool false)).setCell (p:=⟨w.heap.size,0,none⟩) (Nat.le_of_lt hglt) ((.slice A n c))).setCell (p:=⟨w.heap.size,1,none⟩) (Nat.le_of_lt hglt) (.int .i64 (p.height))).setCell (p:=⟨w.heap.size,2,none⟩) (Nat.le_of_lt hglt) (.int .i64 (p.waits).1)).setCell (p:=⟨w.heap.size,3,none⟩) (Nat.le_of_lt hglt) (.int .i64 (p.waits).2)).setCell (p:=⟨w.heap.size,4,none⟩) (Nat.le_of_lt hglt) (.int .i64 (p.bottom).1)).setCell (p:=⟨w.heap.size,5,none⟩) (Nat.le_of_lt hglt) (.int .i64 (p.bottom).2)).setCell (p:=⟨w.heap.size,6,none⟩) (Nat.le_of_lt hglt) (.bool false)
  have ho2:=qja (qja (qja (qja (qja (qja (qja (qja (qja (qja (ho) (p:=⟨g,2,none⟩) (fun k e=>(hA k e).1) (.int .i64 p.waits.1)) (p:=⟨g,3,none⟩) (fun k e=>(hA k e).1) (.int .i64 p.waits.2)) (p:=⟨g,6,none⟩) (fun k e=>(hA k e).1) (.bool false)) (p:=⟨w.heap.size,0,none⟩) (fun k e=>(hA k e).2) ((.slice A n c))) (p:=⟨w.heap.size,1,none⟩) (fun k e=>(hA k e).2) (.int .i64 (p.height))) (p:=⟨w.heap.size,2,none⟩) (fun k e=>(hA k e).2) (.int .i64 (p.waits).1)) (p:=⟨w.heap.size,3,none⟩) (fun k e=>(hA k e).2) (.int .i64 (p.waits).2)) (p:=⟨w.heap.size,4,none⟩) (fun k e=>(hA k e).2) (.int .i64 (p.bottom).1)) (p:=⟨w.heap.size,5,none⟩) (fun k e=>(hA k e).2) (.int .i64 (p.bottom).2)) (p:=⟨w.heap.size,6,none⟩) (fun k e=>(hA k e).2) (.bool false)
  simp only [zA,zB,zC] at hr2
  refine bodyPost_ret (results_cell_row rfl _ _ w.heap.size 177 (skC ⟨p.at_,p.height,p.waits,p.bottom,false,p.y,p.waits,true⟩ (.slice A n c)).toArray (0,0) _ rfl hr2 Tryz.underlying177 rfl qod) rfl ?_
  simp only [endK,hou,hbe,if_true,Bool.false_eq_true,if_false]
  exact ⟨_,rfl,hb2,ho2⟩
 ·have fG:=hG.frozen
  have e0:W.cell? ⟨g,0,none⟩=some ((.slice A n c)):=hG.cell 0
  have e1:W.cell? ⟨g,1,none⟩=some (.int .i64 (p.height)):=hG.cell 1
  have e2:W.cell? ⟨g,2,none⟩=some (.int .i64 (p.top).1):=hG.cell 2
  have e3:W.cell? ⟨g,3,none⟩=some (.int .i64 (p.top).2):=hG.cell 3
  have e4:W.cell? ⟨g,4,none⟩=some (.int .i64 (p.bottom).1):=hG.cell 4
  have e5:W.cell? ⟨g,5,none⟩=some (.int .i64 (p.bottom).2):=hG.cell 5
  have e6:W.cell? ⟨g,6,none⟩=some (.bool p.through):=hG.cell 6
  have e7:W.cell? ⟨g,7,none⟩=some (.int .i64 (p.y)):=hG.cell 7
  have e8:W.cell? ⟨g,8,none⟩=some (.int .i64 (p.waits).1):=hG.cell 8
  have e9:W.cell? ⟨g,9,none⟩=some (.int .i64 (p.waits).2):=hG.cell 9
  have e10:W.cell? ⟨g,10,none⟩=some (.bool true):=hG.cell 10
  have fr:=hk.frozen
  have r0:W.cell? ⟨w.heap.size,0,none⟩=some (.slice none 0 0):=hk.cell 0
  have r1:W.cell? ⟨w.heap.size,1,none⟩=some (.int .i64 0):=hk.cell 1
  have r2:W.cell? ⟨w.heap.size,2,none⟩=some (.int .i64 0):=hk.cell 2
  have r3:W.cell? ⟨w.heap.size,3,none⟩=some (.int .i64 0):=hk.cell 3
  have r4:W.cell? ⟨w.heap.size,4,none⟩=some (.int .i64 0):=hk.cell 4
  have r5:W.cell? ⟨w.heap.size,5,none⟩=some (.int .i64 0):=hk.cell 5
  have r6:W.cell? ⟨w.heap.size,6,none⟩=some (.bool false):=hk.cell 6
  go_wp2_with fail
  clear fG e0 e1 e2 e3 e4 e5 e6 e7 e8 e9 e10
  have hr2:=((((((((((hk).far (p:=⟨g,2,none⟩) hne.symm (.int .i64 p.waits.1)).far (p:=⟨g,3,none⟩) hne.symm (.int .i64 p.waits.2)).far (p:=⟨g,6,none⟩) hne.symm (.bool true)).set_ 0 ((.slice A n c))).set_ 1 (.int .i64 (p.height))).set_ 2 (.int .i64 (p.waits).1)).set_ 3 (.int .i64 (p.waits).2)).set_ 4 (.int .i64 (p.bottom).1)).set_ 5 (.int .i64 (p.bottom).2)).set_ 6 (.bool true)
  have hb2:=((((((((((hbel).setCell (p:=⟨g,2,none⟩) (Nat.le_refl _) (.int .i64 p.waits.1)).setCell (p:=⟨g,3,none⟩) (Nat.le_refl _) (.int .i64 p.waits.2)).setCell (p:=⟨g,6,none⟩) (Nat.le_refl _) (.bool true)).setCell (p:=⟨w.heap.size,0,none⟩) (Nat.le_of_lt hglt) ((.slice A n c))).setCell (p:=⟨w.heap.size,1,none⟩) (Nat.le_of_lt hglt) (.int .i64 (p.height))).setCell (p:=⟨w.heap.size,2,none⟩) (Nat.le_of_lt hglt) (.int .i64 (p.waits).1)).setCell (p:=⟨w.heap.size,3,none⟩) (Nat.le_of_lt hglt) (.int .i64 (p.waits).2)).setCell (p:=⟨w.heap.size,4,none⟩) (Nat.le_of_lt hglt) (.int .i64 (p.bottom).1)).setCell (p:=⟨w.heap.size,5,none⟩) (Nat.le_of_lt hglt) (.int .i64 (p.bottom).2)).setCell (p:=⟨w.heap.size,6,none⟩) (Nat.le_of_lt hglt) (.bool true)
  have ho2:=qja (qja (qja (qja (qja (qja (qja (qja (qja (qja (ho) (p:=⟨g,2,none⟩) (fun k e=>(hA k e).1) (.int .i64 p.waits.1)) (p:=⟨g,3,none⟩) (fun k e=>(hA k e).1) (.int .i64 p.waits.2)) (p:=⟨g,6,none⟩) (fun k e=>(hA k e).1) (.bool true)) (p:=⟨w.heap.size,0,none⟩) (fun k e=>(hA k e).2) ((.slice A n c))) (p:=⟨w.heap.size,1,none⟩) (fun k e=>(hA k e).2) (.int .i64 (p.height))) (p:=⟨w.heap.size,2,none⟩) (fun k e=>(hA k e).2) (.int .i64 (p.waits).1)) (p:=⟨w.heap.size,3,none⟩) (fun k e=>(hA k e).2) (.int .i64 (p.waits).2)) (p:=⟨w.heap.size,4,none⟩) (fun k e=>(hA k e).2) (.int .i64 (p.bottom).1)) (p:=⟨w.heap.size,5,none⟩) (fun k e=>(hA k e).2) (.int .i64 (p.bottom).2)) (p:=⟨w.heap.size,6,none⟩) (fun k e=>(hA k e).2) (.bool true)
  simp only [zA,zB,zC] at hr2
  refine bodyPost_ret (results_cell_row rfl _ _ w.heap.size 177 (skC ⟨p.at_,p.height,p.waits,p.bottom,true,p.y,p.waits,true⟩ (.slice A n c)).toArray (0,0) _ rfl hr2 Tryz.underlying177 rfl qod) rfl ?_
  simp only [endK,hou,hbe,if_true,Bool.false_eq_true,if_false]
  exact ⟨_,rfl,hb2,ho2⟩
end Go.Proofs.YtlnekijhbnlclaaGreatDoor
