/-
  Walks: package layout: all's iterator: it gives a box's fragments.
-/
import Derived.Test.YtlnekijhbnlclaaGreatDoorAllK
namespace Go.Proofs.YtlnekijhbnlclaaGreatDoor
open Go.RowKit Go.Shelf
set_option linter.unusedSimpArgs false
set_option linter.unusedVariables false
def shF (x y:Int) (f:Fg):Fg:={ f with x:=w64 (f.x+x),y:=w64 (f.y+y) }
def TxR (J:List Nat->List Fg->World->Prop) (bp bb bx by_ g p q5:Nat) (x y:Int) (nb no nc:Nat) (ns:List Nd) (base d:Nat) (b:BT) (fp:List Nat) (lp:Nat) (w3:World) (kv tv:Value) (q:Value) (w:World):Prop :=
 ∃ (ws:List Nat) (t:Nat),t<=b.text.length/\q=.int .i64 t/\J ws ((b.text.map (shF x y)).take t) w/\(∀ q ∈ ws,q < w.heap.size/\¬ qwb bp bb bx by_ g nb fp q5 q/\q≠lp)/\AllS w bp bb bx by_ g p q5 x y nb no nc ns base (d+1) b fp lp/\w3.heap.size<=w.heap.size/\Blk w p YT.box (btC b kv tv).toArray/\(shFg YT.frag).Owns w base tv b.text
theorem BoxesAt.sub {w:World} {base d p:Nat} {bs:List BT} {kv tv:Value} {ps:List Nat} {fks:List (List Nat)} {fp:List Nat} (h4:ps.length=bs.length) (h5:fks.length=bs.length) (h6:∀ i (hi:i < bs.length) p' f',ps[i]?=some p'->fks[i]?=some f'->BoxAt YT w base d bs[i] p' f')
  (h7:fp=p :: (blkL kv ++ (blkL tv ++ fks.flatten))) (h8:fp.Nodup):BoxesAt YT w base d bs ps fks:=by
 subst h7
 rw [List.nodup_cons,List.nodup_append,List.nodup_append] at h8
 exact ⟨h4,h5,h6,h8.2.2.1.2.1⟩
theorem qxi {n:Nat} {w w':World} (e1:w'.heap.size=w.heap.size) (e2:w'.os=w.os) (e3:w'.tape=w.tape) (e4:w'.output=w.output) (e5:∀ k:Nat,k < n->w'.heap[k]?=w.heap[k]?) (e6:∀ (k:Nat) (o:Obj),w.heap[k]?=some o->(∀ l,o≠Obj.deferred l)->w'.heap[k]?=some o):IS [] n w w' :=
 ⟨e2,e3,e4,Nat.le_of_eq e1.symm,fun k o _ ho hc=>hc.elim (fun hcell=>e6 k o ho fun l e=>by subst e; cases hcell) fun hlt=>(e5 k hlt).trans ho⟩
structure KX (q8:Nat) (v:Value) (w5:World) where
 val:World
 ok:Kept [q8] w5 val/\val.cell? ⟨q8,4,none⟩=some v
set_option maxRecDepth 100000 in
set_option maxHeartbeats 8000000 in
theorem q4n (ns:List Nd) (g nb no nc:Nat) (hns:ns.length < 1000000):∀ (d:Nat) (b:BT) (p:Nat) (fp:List Nat) (base:Nat) (x y:Int) (bp bb bx by_:Nat) (w:World),BoxAt YT w base d b p fp->AllW w bp bb bx by_ g p x y->PgN w g nb no nc ns->okT ns.length d b ->
  SeqK Tryz.prog 70 #[.pointer (some ⟨bp,0,none⟩),.pointer (some ⟨bb,0,none⟩),.pointer (some ⟨bx,0,none⟩),.pointer (some ⟨by_,0,none⟩)] (fun f=>#[.agg (fgC f).toArray]) (allL ns d b x y) [] (AllRd bp bb bx by_ g nb fp) w
 | 0,b,p,fp,base,x,y,bp,bb,bx,by_,w,h,_,_,_=>h.elim
 | d+1,b,p,fp,base,x,y,bp,bb,bx,by_,w,h,hc,hp,hok=>by
  have ih:=q4n ns g nb no nc hns d
  have hIH:=Lib.hid ih
  clear ih
  intro lp n J Jx Jp W wr0 hbW hlpW hlpr hwr0 hJ hJx hJp hY hj0
  have hkw:Kept [] w W:=⟨hbW.os,hbW.tape,hbW.output,hbW.size,fun k hk _=>hbW.block k hk⟩
  have hcap:=hc.kept (nb:=nb) (fp:=fp) hkw (by simp)
  have hpg:=hp.kept hkw (by simp) (by simp)
  have hbx:=h.kept hkw (by simp)
  have hat:b.at_ < ns.length:=hok.1
  have hokk:∀ k ∈ b.kids,okT ns.length d k:=hok.2
  clear hc hp h hbW hkw hok
  refine qef (n:=n) Tryz.func70 rfl ?_
  simp only [Tryz.ntmps70,List.size_toArray,List.length_cons,List.length_nil,Nat.reduceAdd,Nat.reduceSub,Array.replicate_succ,Array.replicate_zero,List.push_toArray,List.append_toArray,List.nil_append,List.cons_append]
  repeat (refine qea ?_)
  refine qda (n:=n) (wpIn_wide.2 ?_)
  go_wp2_with fail
  have yb:Blk (W.alloc (.cells #[.func (.yield lp) #[] #[]] 68)) W.heap.size 68 #[.func (.yield lp) #[] #[]]:=Blk.new _ _ _
  have k1:Kept [] W (W.alloc (.cells #[.func (.yield lp) #[] #[]] 68)):=(Kept.refl [] W).alloc _
  generalize W.alloc (.cells #[.func (.yield lp) #[] #[]] 68)=W1 at *
  have hS1:AllS W1 bp bb bx by_ g p W.heap.size x y nb no nc ns base (d+1) b fp lp:=⟨hcap.kept (nb:=nb) (fp:=fp) k1 (by simp),hpg.kept k1 (by simp) (by simp),hbx.kept k1 (by simp),yb⟩
  have hj1:=hJ _ _ _ _ hj0 (IS.of_kept k1)
  obtain ⟨q5,hq5⟩:∃ q5,q5=W.heap.size:=⟨_,rfl⟩
  have hlq:¬ qwb bp bb bx by_ g nb fp q5 lp:=by
   rintro (hh | hh)
   ·exact hlpr hh
   ·omega
  have hw1:∀ q ∈ wr0,q < W1.heap.size/\¬ qwb bp bb bx by_ g nb fp q5 q/\q≠lp:=fun q hq=>by
   have h1:=hwr0 q hq
   refine ⟨Nat.lt_of_lt_of_le h1.1 k1.size,?_,h1.2.2⟩
   rintro (hh | hh)
   ·exact h1.2.1 hh
   ·omega
  rw [<-hq5] at hS1
  simp only [<-hq5]
  have HQ5:=Lib.hid hq5
  clear hq5 yb hcap hpg hbx
  have hd:=hS1.pg.doc
  have hnc:=hS1.pg.cap
  have hrg:=hS1.pg.nodes b.at_ hat
  have hg1:=hS1.pg.lt.1
  have hnb:=hS1.pg.lt.2
  obtain ⟨kv0,tv0,hb0,-⟩:=hS1.box.own
  have hz0:(b.at_:Int) < (ns.length:Int):=by omega
  have a0:∀ V:BW W1.heap.size W1,V.val.cell? ⟨bp,0,none⟩=some (.pointer (some ⟨g,0,none⟩)):=fun V=>(hS1.cap.page.below V.ok hS1.cap.page.lt).cell 0
  have a1:∀ V:BW W1.heap.size W1,V.val.cell? ⟨g,0,none⟩=some (.slice (some ⟨nb,no,none⟩) ns.length nc):=fun V=>(V.ok.cell (p:=⟨g,0,none⟩) hg1).trans hd
  have a2:∀ V:BW W1.heap.size W1,V.val.cell? ⟨bb,0,none⟩=some (.pointer (some ⟨p,0,none⟩)):=fun V=>(hS1.cap.box.below V.ok hS1.cap.box.lt).cell 0
  have a3:∀ V:BW W1.heap.size W1,V.val.cell? ⟨p,0,none⟩=some (.int .i64 b.at_):=fun V=>(hb0.below V.ok hb0.lt).cell 0
  have HND:=Lib.hid (show ∀ V:BW W1.heap.size W1,V.val.rangeAt nb (no+b.at_ * 51) (ndC (ndAt ns b.at_)) from fun V k v hv=>(V.ok.cell (p:=⟨nb,no+b.at_ * 51+k,none⟩) (by show nb < _; omega)).trans (hrg k v hv))
  clear hd hrg hb0
  repeat (refine qea ?_)
  refine qda (n:=n) (wpIn_wide.2 ?_)
  refine wp_region_noPanic ?_
  refine qna [12] [0,1,2,3,4,5,6,7,8,9,10] [11,12] (fun w'=>∃ V:BW (W1.heap.size) W1,w'=V.val) (by kernel_rfl) (by kernel_rfl) (fun c a d v w h=>by cases d <;> exact h) ⟨⟨W1.drew,(Below.refl _ _).drew⟩,rfl⟩ ?_
  simp only [pickD,List.map_cons,List.map_nil,List.getD_cons_zero,List.getD_cons_succ]
  repeat (first | (refine q8f (by rfl) 35 _ rfl nb (no+b.at_ * 51) (ndC (ndAt ns b.at_)) _ rfl (fun W hW=>by obtain ⟨V,rfl⟩:=hW; exact HND.out V) Tryz.underlying35 rfl qza ?_) | (go_big_quiet_step (fail)))
  refine wpQuiet_nil ?_
  refine qca rfl fun K hK=>?_
  go_simp
  refine hK.out _ _ (.inr ⟨⟨_,((Below.refl _ _).drew).alloc (Nat.le_refl _) _⟩,rfl⟩) ?_
  clear hK K
  try simp only [Act.put,zA,zB,zC]
  refine qca rfl fun K hK=>?_
  refine qoe rfl 35 _ _ rfl W1.heap.size 0 35 (ndC nd0) (ndC (ndAt ns b.at_)) (by rfl) (Blk.new W1.drew _ _) (by rfl) (by show (51:Nat)<=51; exact Nat.le_refl _) qza (qec _) ?_
  intro w3 r3 k3 z3
  refine hK.out _ _ (.inl (by decide)) ?_
  clear hK K
  refine qla ?_
  refine NoPanic.normal ?_
  rw [qjd (L:=ndC nd0) (r:=ndC (ndAt ns b.at_)) rfl] at r3
  have k13:Kept [] W1 w3:=(((Kept.refl [] W1).drew).alloc _).fresh k3 (by simp)
  have hS3:=hS1.kept k13 (by simp)
  have hj3:=hJ _ _ _ _ hj1 (IS.of_kept k13)
  have hw3:∀ q ∈ wr0,q < w3.heap.size/\¬ qwb bp bb bx by_ g nb fp q5 q/\q≠lp:=fun q hq=>⟨Nat.lt_of_lt_of_le (hw1 q hq).1 k13.size,(hw1 q hq).2⟩
  have hnn:W.heap.size<=w3.heap.size:=Nat.le_trans k1.size k13.size
  obtain ⟨q6,hq6⟩:∃ q6,q6=W1.heap.size:=⟨_,rfl⟩
  rw [<-hq6] at r3
  simp only [<-hq6]
  have HQ6:=Lib.hid (And.intro hq6 k1.size)
  clear hq6 a0 a1 a2 a3 k3 z3 HND
  repeat (refine qea ?_)
  refine qda (n:=n) (wpIn_wide.2 ?_)
  obtain ⟨nd,hnd⟩:∃ nd,nd=ndAt ns b.at_:=⟨_,rfl⟩
  rw [<-hnd] at r3
  by_cases hk1:(ndAt ns b.at_).kind=1
  ·have c2:w3.cell? ⟨q6,2,none⟩=some (.int .u8 1):=by
    have h:=r3.cell 2
    rw [hnd] at h
    have e:(ndC (ndAt ns b.at_)).toArray[2]?=some (.int .u8 (ndAt ns b.at_).kind):=rfl
    rw [e,hk1] at h
    exact h
   have HND2:=Lib.hid hnd
   clear hnd
   go_wp2_with fail
   have hAL:allL ns (d+1) b x y=b.text.map (shF x y):=by
    rw [allL]
    dsimp only
    rw [if_pos hk1]
    rfl
   rw [hAL] at hY ⊢
   obtain ⟨kv,tv,ps,fks,hB1,hB2,hB3,hB4,hB5,hB6,hB7,hB8,hB9⟩:=hS3.box
   obtain ⟨At,nt,ct,rfl⟩:=hB3.slice_
   obtain rfl:=q1f hB3
   have htfp:∀ q,(Value.slice At b.text.length ct).ownBlock=some q->q ∈ fp:=fun q hq=>by rw [hB7]; simp [mem_blkL.2 hq]
   have hTm:b.text.length<=9223372036854775807:=by have h:=hB3.few; unfold maxLen at h; omega
   have f0c:w3.cell? ⟨bb,0,none⟩=some (.pointer (some ⟨p,0,none⟩)):=hS3.cap.box.cell 0
   have f6:w3.cell? ⟨p,6,none⟩=some (.slice At b.text.length ct):=hB1.cell 6
   have hpfp:p ∈ fp:=by rw [hB7]; simp
   clear hB2 hB4 hB5 hB6 hB7 hB8 hB9
   refine qfi rfl ?_
   refine qda (n:=n) (wpIn_wide.2 ?_)
   go_wp2_with fail
   go_loopw [36] (TxR J bp bb bx by_ g p q5 x y nb no nc ns base d b fp lp w3 kv (.slice At b.text.length ct)) (fun q _=>b.text.length - (intOf q).toNat)
   case atStart=>exact ⟨wr0,0,Nat.zero_le _,rfl,by simpa using hj3,hw3,hS3,Nat.le_refl _,hB1,hB3⟩
   case round =>
    obtain ⟨ws,t,htl,rfl,hj,hwq,hE,hkr,hR1,hR3⟩:=hrel
    rcases Nat.lt_or_ge t b.text.length with hlt | hge
    ·have hz:(t:Int) < (b.text.length:Int):=by omega
     obtain ⟨tg,rfl⟩:=hR3.addr (by omega)
     have hrt:wr.rangeAt tg (t * 8) (fgC b.text[t]):=fun k v hv=>by
      have hk8:k < 8:=(List.getElem?_eq_some_iff.1 hv).1
      rw [<-hv]
      exact hR3.cellr hlt (j:=k) hk8
     obtain ⟨f0,hf0⟩:∃ f0,f0=b.text[t]:=⟨_,rfl⟩
     rw [<-hf0] at hrt
     have HF0:=Lib.hid hf0
     have HRT:=Lib.hid hrt
     clear hf0 hrt f0c f6
     go_upto_region 6 with (first | (refine wpList_load_mid rfl 42 _ rfl tg (t * 8) rfl (fgC f0) _ HRT.out Tryz.underlying42 rfl q8b ?_) | (refine qxa rfl 42 _ _ rfl wr.heap.size 42 (fgC ⟨0,0,0,0,0,0,0,ByteArray.empty⟩) (fgC f0) rfl (Blk.new wr _ _) rfl rfl q8b (qbe f0) ?_; intro w5 r5 k5 z5; simp only [Act.put]))
     have kr5:Kept [] wr w5:=((Kept.refl [] wr).alloc _).fresh k5 (by simp)
     have hE5:=hE.kept kr5 (by simp)
     have hj5:=hJ _ _ _ _ hj (IS.of_kept kr5)
     obtain ⟨q8,hq8⟩:∃ q8,q8=wr.heap.size:=⟨_,rfl⟩
     rw [<-hq8] at r5
     simp only [<-hq8]
     have HQ8:=Lib.hid hq8
     clear hq8 k5 z5
     haveI:Nonempty (KX q8 (.int .i64 f0.y) w5):=⟨⟨w5,Kept.refl _ _,r5.cell 4⟩⟩
     have b0:∀ V:KX q8 (.int .i64 f0.y) w5,V.val.cell? ⟨bx,0,none⟩=some (.int .i64 x):=fun V=>(hE5.cap.x.kept V.ok.1 (by have h1:=hE.cap.x.lt; have h2:=HQ8.out; simp; omega)).cell 0
     have b1:∀ V:KX q8 (.int .i64 f0.y) w5,V.val.cell? ⟨by_,0,none⟩=some (.int .i64 y):=fun V=>(hE5.cap.y.kept V.ok.1 (by have h1:=hE.cap.y.lt; have h2:=HQ8.out; simp; omega)).cell 0
     have b2:∀ V:KX q8 (.int .i64 f0.y) w5,V.val.cell? ⟨q8,4,none⟩=some (.int .i64 f0.y):=fun V=>V.ok.2
     refine wp_region_noPanic ?_
     refine qna [11] [0,2,4,5,6,7] [1,3,8,9,10,11] (fun w'=>∃ V:KX q8 (.int .i64 f0.y) w5,w'=V.val) (by kernel_rfl) (by kernel_rfl) (fun c a d v w h=>by cases d <;> exact h) ⟨⟨w5.drew,⟨(Kept.refl _ _).drew,r5.drew.cell 4⟩⟩,rfl⟩ ?_
     simp only [pickD,List.map_cons,List.map_nil,List.getD_cons_zero,List.getD_cons_succ]
     repeat (go_big_quiet_step (fail))
     refine wpQuiet_nil ?_
     refine qca rfl fun K hK=>?_
     have t1:w5.cell? ⟨q8,3,none⟩=some (.int .i64 f0.x):=r5.cell 3
     go_simp
     refine hK.out _ _ (.inr ⟨⟨_,⟨(Kept.refl _ _).drew,r5.drew.cell 4⟩⟩,rfl⟩) ?_
     clear hK K
     try simp only [Act.put,zA,zB,zC]
     refine qca rfl fun K hK=>?_
     go_simp
     try simp only [IntWalk.i64_left]
     refine hK.out _ _ (.inr ⟨⟨_,⟨(Kept.refl _ _).drew,r5.drew.cell 4⟩⟩,rfl⟩) ?_
     clear hK K
     try simp only [Act.put,zA,zB,zC]
     refine qca rfl fun K hK=>?_
     go_simp
     refine hK.out _ _ (.inr ⟨⟨_,⟨(Kept.refl _ _).drew,r5.drew.cell 4⟩⟩,rfl⟩) ?_
     clear hK K
     try simp only [Act.put,zA,zB,zC]
     refine qca rfl fun K hK=>?_
     have t0:=r5.frozen
     go_simp
     refine hK.out _ _ (.inr ⟨⟨_,⟨((Kept.refl _ _).setCell (p:=⟨q8,3,none⟩) (by simp) _).drew,((r5.set_ 3 (.int .i64 (w64 (f0.x+x)))).drew).cell 4⟩⟩,rfl⟩) ?_
     clear hK K
     try simp only [Act.put,zA,zB,zC]
     refine qca rfl fun K hK=>?_
     go_simp
     refine hK.out _ _ (.inr ⟨⟨_,⟨((Kept.refl _ _).setCell (p:=⟨q8,3,none⟩) (by simp) _).drew,((r5.set_ 3 (.int .i64 (w64 (f0.x+x)))).drew).cell 4⟩⟩,rfl⟩) ?_
     clear hK K
     try simp only [Act.put,zA,zB,zC]
     refine qca rfl fun K hK=>?_
     have t2:=((r5.set_ 3 (.int .i64 (w64 (f0.x+x)))).drew).frozen
     have t3:(w5.setCell ⟨q8,3,none⟩ (.int .i64 (w64 (f0.x+x)))).drew.cell? ⟨q8,4,none⟩=some (.int .i64 f0.y):=((r5.set_ 3 (.int .i64 (w64 (f0.x+x)))).drew).cell 4
     go_simp
     refine hK.out _ _ (.inl (by decide)) ?_
     clear hK K
     refine qla ?_
     refine NoPanic.normal ?_
     go_upto_region 7 with fail
     generalize hw6:World.drew (World.setCell (World.setCell w5 _ _) _ _)=w6
     have k6:Kept [q8] w5 w6:=by rw [<-hw6]; exact (((Kept.refl [q8] w5).setCell (p:=⟨q8,3,none⟩) (by simp) _).setCell (p:=⟨q8,4,none⟩) (by simp) _).drew
     have r6:Blk w6 q8 42 (fgC (shF x y f0)).toArray:=by rw [<-hw6]; exact ((r5.set_ 3 (.int .i64 (w64 (f0.x+x)))).set_ 4 (.int .i64 (w64 (f0.y+y)))).drew
     clear hw6
     have hnl:∀ k,qwb bp bb bx by_ g nb fp q5 k->k < wr.heap.size:=hE.rd
     have kr6:Kept [] wr w6:=kr5.fresh k6 (by have:=HQ8.out; simp; omega)
     have hE6:=hE.kept kr6 (by simp)
     have hj6:=hJ _ _ _ _ hj (IS.of_kept kr6)
     have y0:w6.cell? ⟨q5,0,none⟩=some (.func (.yield lp) #[] #[]):=hE6.yb.cell 0
     have hrg:w6.rangeAt q8 0 (fgC (shF x y f0)):=fun k v hv=>by
      rw [Nat.zero_add,r6.cell k]
      simpa using hv
     have hTl:t < (b.text.map (shF x y)).length:=by simpa using hlt
     have htk:(b.text.map (shF x y)).take t ++ [shF x y f0]=(b.text.map (shF x y)).take (t+1):=by
      rw [List.take_succ_eq_append_getElem hTl,List.getElem_map,HF0.out]
     refine (wpIn_wide (n:=n)).1 ?_
     obtain ⟨fn,tmps,assign,body,hy,hR⟩:=hY (n - 1) ws _ (shF x y f0) w6 hj6 (by rw [htk]; exact List.take_prefix _ _)
     rw [htk] at hR
     have HR:=Lib.hid hR
     have HR13:=Lib.hid (And.intro (hR1.kept kr6 (by simp)) (hR3.kept kr6 (by simp)))
     have HW:=Lib.hid (And.intro hwq hE6)
     clear hR hR1 hR3 htk hTl kr5 k6 r5 hj hj5 hE5
     gi_wp2_with (refine qsh rfl 42 _ rfl q8 0 rfl (fgC (shF x y f0)) _ hrg Tryz.underlying42 rfl q8b ?_)
     refine ⟨fun h=>absurd h (by decide),HR.out.mono ?_⟩
     obtain ⟨hwq,hE6⟩:=HW.out
     rintro e w7 (⟨rfl,ws3,hj3',hk3,hw3'⟩ | ⟨rfl,hx3,hk3⟩ | ⟨ch,rfl,hp3,hk3⟩)
     ·gi_wp2
      go_wp2_with fail
      have hsz:=hk3.size
      have hsz6:=kr6.size
      refine ⟨⟨ws3,t+1,hlt,by go_num,hj3',fun q hq=>⟨(hw3' q hq).2,?_⟩,hE6.kept hk3 (fun q hq=>(hwq q hq).2.1),by omega,HR13.out.1.kept hk3 (fun hm=>(hwq _ hm).2.1 (.inl (.inr (.inr (.inr (.inr (.inr hpfp))))))),HR13.out.2.kept hk3 (fun q hq hm=>(hwq q hm).2.1 (.inl (.inr (.inr (.inr (.inr (.inr (htfp q hq))))))))⟩,by simp [intOf]; omega⟩
      rcases (hw3' q hq).1 with h4 | h4
      ·exact (hwq q h4).2
      ·refine ⟨fun hc=>by have:=hnl q hc; omega,by omega⟩
     ·gi_wp2
      go_wp2_with fail
      exact ⟨_,results_none rfl _ _ _,.inl ⟨⟨_,rfl⟩,.inr hx3⟩⟩
     ·exact .inr ⟨ch,rfl,hp3⟩
    ·obtain rfl:t=b.text.length:=by omega
     have hz:¬ (b.text.length:Int) < (b.text.length:Int):=by omega
     go_wp2_with fail
     exact ⟨_,results_none rfl _ _ _,.inl ⟨⟨_,rfl⟩,.inl ⟨ws,by rw [List.take_of_length_le (by simp)] at hj; exact hj⟩⟩⟩
  ·have c2:w3.cell? ⟨q6,2,none⟩=some (.int .u8 nd.kind):=r3.cell 2
   have hk1i:¬ (nd.kind:Int)=1:=by rw [hnd]; omega
   have hk1b:((nd.kind:Int) == 1)=false:=beq_false_of_ne hk1i
   have HND2:=Lib.hid hnd
   clear hnd
   go_wp2_with fail
   obtain ⟨X,hX⟩:∃ X,X=w64 (w64 (x+b.x)+nd.st.offX):=⟨_,rfl⟩
   obtain ⟨Y,hY0⟩:∃ Y,Y=w64 (w64 (y+b.y)+nd.st.offY):=⟨_,rfl⟩
   obtain ⟨OF,hOF⟩:∃ OF:Fg,OF=⟨nd.key,0,nd.depth,X,Y,w64 ((qha nd.st).1+b.w),w64 ((qha nd.st).2.1+b.h),ByteArray.empty⟩:=⟨_,rfl⟩
   have hAL:allL ns (d+1) b x y=OF :: b.kids.flatMap fun k=>allL ns d k (w64 (X+w64 (nd.st.pL+nd.st.bL))) (w64 (Y+w64 (nd.st.pT+nd.st.bT))):=by
    rw [allL]
    dsimp only
    rw [if_neg hk1,hOF,hX,hY0,HND2.out]
   rw [hAL] at hY ⊢
   have HX:=Lib.hid (And.intro hX (And.intro hY0 hOF))
   clear hX hY0 hOF hAL
   refine q9g rfl ?_
   refine qda (n:=n) (wpIn_wide.2 ?_)
   go_wp2_with fail
   refine qea ?_
   refine qda (n:=n) (wpIn_wide.2 ?_)
   go_wp2_with (first
    | (refine qwa rfl 33 _ rfl q6 3 35 (ndC nd) (stC nd.st) _ rfl r3 (nd_st nd) Tryz.underlying33 rfl qoa ?_)
    | (go_at_call 63; refine (q1d nd.st _).mono ?_; rintro e w4 ⟨rfl,hb4⟩))
   have k34:Kept [] w3 w4:=Kept.of_below hb4
   have r4:=r3.below hb4 r3.lt
   have hS4:=hS3.kept k34 (by simp)
   have hj4:=hJ _ _ _ _ hj3 (IS.of_kept k34)
   obtain ⟨kv,tv,ps,fks,hB1,hB2,hB3,hB4,hB5,hB6,hB7,hB8,hB9⟩:=hS4.box
   obtain ⟨KA,kn,kc,rfl⟩:=hB2.slice_
   obtain rfl:=q1f hB2
   have hxs:BoxesAt YT w4 base d b.kids ps fks:=BoxesAt.sub hB4 hB5 hB6 hB7 hB8
   have a0:∀ V:BW w4.heap.size w4,V.val.cell? ⟨bx,0,none⟩=some (.int .i64 x):=fun V=>(hS4.cap.x.below V.ok hS4.cap.x.lt).cell 0
   have a1:∀ V:BW w4.heap.size w4,V.val.cell? ⟨by_,0,none⟩=some (.int .i64 y):=fun V=>(hS4.cap.y.below V.ok hS4.cap.y.lt).cell 0
   have a2:∀ V:BW w4.heap.size w4,V.val.cell? ⟨bb,0,none⟩=some (.pointer (some ⟨p,0,none⟩)):=fun V=>(hS4.cap.box.below V.ok hS4.cap.box.lt).cell 0
   have a3:∀ V:BW w4.heap.size w4,V.val.cell? ⟨p,3,none⟩=some (.int .i64 b.x):=fun V=>(hB1.below V.ok hB1.lt).cell 3
   have a4:∀ V:BW w4.heap.size w4,V.val.cell? ⟨p,4,none⟩=some (.int .i64 b.y):=fun V=>(hB1.below V.ok hB1.lt).cell 4
   have a5:∀ V:BW w4.heap.size w4,V.val.cell? ⟨q6,33,none⟩=some (.int .i64 nd.st.offX):=fun V=>(r4.below V.ok r4.lt).cell 33
   have a6:∀ V:BW w4.heap.size w4,V.val.cell? ⟨q6,34,none⟩=some (.int .i64 nd.st.offY):=fun V=>(r4.below V.ok r4.lt).cell 34
   refine qea ?_
   refine qda (n:=n) (wpIn_wide.2 ?_)
   refine wp_region_noPanic ?_
   refine qna [21] [0,1,2,3,4,5,6,7,8,9,10,11,12,13,14,15,16,17,18,19,20] [21] (fun w'=>∃ V:BW (w4.heap.size) w4,w'=V.val) (by kernel_rfl) (by kernel_rfl) (fun c a d v w h=>by cases d <;> exact h) ⟨⟨w4.drew,(Below.refl _ _).drew⟩,rfl⟩ ?_
   simp only [pickD,List.map_cons,List.map_nil,List.getD_cons_zero,List.getD_cons_succ]
   repeat (go_big_quiet_step (fail))
   refine wpQuiet_nil ?_
   refine qca rfl fun K hK=>?_
   go_simp
   refine hK.out _ _ (.inl (by decide)) ?_
   clear hK K
   refine qla ?_
   refine NoPanic.normal ?_
   go_wp2_with fail
   have eX:wrap64 (wrap64 (x+b.x)+nd.st.offX)=X:=HX.out.1.symm
   have eY:wrap64 (wrap64 (y+b.y)+nd.st.offY)=Y:=HX.out.2.1.symm
   simp only [eX,eY]
   have HB:=Lib.hid (And.intro hB2 (And.intro hxs hB7))
   clear eX eY a0 a1 a2 a3 a4 a5 a6 hB2 hB3 hB4 hB5 hB6 hB7 hB8 hB9 hxs
   have k5:Kept [] w4 w4.drew:=(Kept.refl [] w4).drew
   generalize w4.drew=w5 at *
   have r5:=r4.kept k5 (by simp)
   have hS5:=hS4.kept k5 (by simp)
   have hB15:=hB1.kept k5 (by simp)
   have hj5:=hJ _ _ _ _ hj4 (IS.of_kept k5)
   have a0:∀ V:BW w5.heap.size w5,V.val.cell? ⟨q5,0,none⟩=some (.func (.yield lp) #[] #[]):=fun V=>(hS5.yb.below V.ok hS5.yb.lt).cell 0
   have a1:∀ V:BW w5.heap.size w5,V.val.cell? ⟨q6,0,none⟩=some (.int .i64 nd.key):=fun V=>(r5.below V.ok r5.lt).cell 0
   have a2:∀ V:BW w5.heap.size w5,V.val.cell? ⟨q6,1,none⟩=some (.int .i64 nd.depth):=fun V=>(r5.below V.ok r5.lt).cell 1
   have a3:∀ V:BW w5.heap.size w5,V.val.cell? ⟨bb,0,none⟩=some (.pointer (some ⟨p,0,none⟩)):=fun V=>(hS5.cap.box.below V.ok hS5.cap.box.lt).cell 0
   have a4:∀ V:BW w5.heap.size w5,V.val.cell? ⟨p,1,none⟩=some (.int .i64 b.w):=fun V=>(hB15.below V.ok hB15.lt).cell 1
   have a5:∀ V:BW w5.heap.size w5,V.val.cell? ⟨p,2,none⟩=some (.int .i64 b.h):=fun V=>(hB15.below V.ok hB15.lt).cell 2
   repeat (refine qea ?_)
   refine qda (n:=n) ?_
   refine qou (k:=20) [0,1,2,3,4,5,6,7,8,9,10,11,12,13,14,15,16,17,18,19] (fun w'=>∃ V:BW w5.heap.size w5,w'=V.val) (by kernel_rfl) (by kernel_rfl) ⟨⟨w5.drew,(Below.refl _ _).drew⟩,rfl⟩ ?_
   simp only [pickD,List.map_cons,List.map_nil,List.getD_cons_zero,List.getD_cons_succ,List.take_succ_cons,List.take_zero,List.drop_succ_cons,List.drop_zero]
   repeat (go_big_quiet_step (fail))
   refine wpQuiet_nil ?_
   have k6:Kept [] w5 w5.drew:=(Kept.refl [] w5).drew
   have r6:Blk w5.drew q6 35 (ndC nd).toArray:=r5.drew
   have hS6:=hS5.kept k6 (by simp)
   have hB16:Blk w5.drew p YT.box (btC b (.slice KA ps.length kc) tv).toArray:=hB15.drew
   have hj6:=hJ _ _ _ _ hj5 (IS.of_kept k6)
   have hnn6:W.heap.size<=w5.drew.heap.size:=by have h1:=k34.size; have h2:=k5.size; show _<=w5.heap.size; omega
   generalize w5.drew=w6 at *
   have eF:(Value.agg #[.int .i64 nd.key,.int .i64 0,.int .i64 nd.depth,.int .i64 X,.int .i64 Y,.int .i64 (wrap64 ((qha nd.st).1+b.w)),.int .i64 (wrap64 ((qha nd.st).2.1+b.h)),.string ⟨#[]⟩])=.agg (fgC OF).toArray:=by rw [HX.out.2.2]; rfl
   obtain ⟨fn,tmps,assign,body,hy,hR⟩:=hY (n - 1) wr0 [] OF w6 hj6 ⟨_,rfl⟩
   rw [<-eF] at hy
   clear eF
   have HR:=Lib.hid hR
   clear hR
   gi_wp2
   refine ⟨fun h=>absurd h (by decide),HR.out.mono ?_⟩
   rintro e w7 (⟨rfl,ws3,hj7,hk7,hw7⟩ | ⟨rfl,hx7,hk7⟩ | ⟨ch,rfl,hp7,hk7⟩)
   ·have hlocw:∀ q ∈ wr0,¬ qwb bp bb bx by_ g nb fp q5 q:=fun q hq=>(hw3 q hq).2.1
    have hq6n:q6 ∉ wr0:=fun hm=>by have h1:=(hwr0 _ hm).1; have h2:=HQ6.out; omega
    have r7:=r6.kept hk7 hq6n
    have hS7:=hS6.kept hk7 hlocw
    have hpfp:p ∈ fp:=by rw [HB.out.2.2]; simp
    have hB17:=hB16.kept hk7 (fun hm=>hlocw _ hm (.inl (.inr (.inr (.inr (.inr (.inr hpfp)))))))
    have hK7:AllK w7 bp bb bx by_ g p q5 x y nb no nc ns base d b fp lp (.slice KA ps.length kc) ps fks:=by
     have h0:AllK w4 bp bb bx by_ g p q5 x y nb no nc ns base d b fp lp (.slice KA ps.length kc) ps fks:=⟨hS4,HB.out.1,HB.out.2.1,fun q hq=>by rw [HB.out.2.2]; simp [mem_blkL.2 hq],fun q hq=>by rw [HB.out.2.2]; simp only [List.mem_cons,List.mem_append]; exact .inr (.inr (.inr hq))⟩
     exact ((h0.kept k5 (by simp)).kept k6 (by simp)).kept hk7 hlocw
    have c0:w7.cell? ⟨q6,28,none⟩=some (.int .i64 nd.st.pL):=r7.cell 28
    have c1:w7.cell? ⟨q6,32,none⟩=some (.int .i64 nd.st.bL):=r7.cell 32
    have c3:w7.cell? ⟨q6,25,none⟩=some (.int .i64 nd.st.pT):=r7.cell 25
    have c4:w7.cell? ⟨q6,29,none⟩=some (.int .i64 nd.st.bT):=r7.cell 29
    have c5:w7.cell? ⟨bb,0,none⟩=some (.pointer (some ⟨p,0,none⟩)):=hS7.cap.box.cell 0
    have c6:w7.cell? ⟨p,5,none⟩=some (.slice KA ps.length kc):=hB17.cell 5
    have hps:ps.length<=9223372036854775807:=by have h:=HB.out.1.few; unfold maxLen at h; omega
    clear r3 r4 r5 r6 r7 hB1 hB15 hB16 hB17 a0 a1 a2 a3 a4 a5
    gi_wp2
    refine q9g rfl ?_
    refine qda (n:=n) (wpIn_wide.2 ?_)
    go_wp2_with fail
    repeat (refine qea ?_)
    refine qda (n:=n) (wpIn_wide.2 ?_)
    go_wp2_with fail
    repeat (refine qea ?_)
    refine qda (n:=n) (wpIn_wide.2 ?_)
    go_wp2_with fail
    repeat (refine qea ?_)
    refine qda (n:=n) (wpIn_wide.2 ?_)
    go_wp2_with fail
    clear c0 c1 c2 c3 c4 c5 c6
    refine qwd ?_
    refine qzo W.heap.size lp n J Jx Jp [OF] bp bb bx by_ g p q5 x y (w64 (X+w64 (nd.st.pL+nd.st.bL))) (w64 (Y+w64 (nd.st.pT+nd.st.bT))) nb no nc ns base d b fp (.slice KA ps.length kc) ps fks w7 ws3 _ (fun i hi pc fc cp cb cx cy w hb hc hp=>hIH.out b.kids[i] pc fc base _ _ cp cb cx cy w hb hc hp (hokk _ (List.getElem_mem hi))) hJ hJx hJp hY hK7 hj7 (fun q hq=>⟨(hw7 q hq).2,?_⟩) (Nat.le_trans hnn6 hk7.size) hlpW hlq hps _ _ _ _ _ _ _ _ _ _ _ _ _ _ _ _ _ _ _ _ _ _ _ _ _ _ _ _ _ _ _ _ _ _ _ _ _ _ _ _ _ _ _ _ _ _ _ _ _ _ _ _ _ _ _ _ _ _ _ _ _ _ _ _ _ _ _ _ _ _ _ _ _ _ _ _ _ _ _ _ _ _ _ _ _ _ _ _ _ _ _ _ _ _ _ _ _ _ _ _ _ _ _ _ _ _ _ _ _ _ _ _ _ _ _ _ _ _ _ _ _ _ _ _ _ _ _ _ _ _ _ _ _ _ _ _ _ _ _ ?_ ?_ ?_
    ·rcases (hw7 q hq).1 with h4 | h4
     ·exact (hw3 q h4).2
     ·exact ⟨fun hc=>by have:=hS6.rd q hc; omega,by omega⟩
    ·intro a w ws hM hj
     exact qqf (by intro h; cases h) a.defers w hM fun w' e1 e2 e3 e4 e5 e6=>⟨_,results_none rfl _ _ _,.inl ⟨⟨_,rfl⟩,.inl ⟨ws,hJ _ _ _ _ hj (qxi e1 e2 e3 e4 e5 e6)⟩⟩⟩
    ·intro a w hM hj
     exact qqf (by intro h; cases h) a.defers w hM fun w' e1 e2 e3 e4 e5 e6=>⟨_,results_none rfl _ _ _,.inl ⟨⟨_,rfl⟩,.inr (hJx _ _ hj (qxi e1 e2 e3 e4 e5 e6))⟩⟩
    ·intro ch a w hM hj
     exact qqf (by intro h; cases h) a.defers w hM fun w' e1 e2 e3 e4 e5 e6=>.inr ⟨ch,rfl,hJp _ _ _ hj (qxi e1 e2 e3 e4 e5 e6)⟩
   ·gi_wp2
    refine qfi rfl ?_
    refine qda (n:=n) (wpIn_wide.2 ?_)
    go_wp2_with fail
    exact ⟨_,results_none rfl _ _ _,.inl ⟨⟨_,rfl⟩,.inr hx7⟩⟩
   ·exact .inr ⟨ch,rfl,hp7⟩
end Go.Proofs.YtlnekijhbnlclaaGreatDoor
