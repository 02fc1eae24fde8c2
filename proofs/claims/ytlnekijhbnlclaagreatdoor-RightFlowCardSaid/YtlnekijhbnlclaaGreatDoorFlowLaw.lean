/-
  Walks: the law RightFlow.
-/
import Derived.Test.YtlnekijhbnlclaaGreatDoorPlain19
import Derived.Test.YtlnekijhbnlclaaGreatDoorFlowP
import Derived.Test.YtlnekijhbnlclaaGreatDoorLayoutB
import Derived.Test.YtlnekijhbnlclaaGreatDoorAwake19
import Derived.Test.YtlnekijhbnlclaaGreatDoorFlowPlain
namespace Go.Proofs.YtlnekijhbnlclaaGreatDoor
open Go.RowKit Go.Shelf
attribute [local go_sem] Oper.semAt_some
set_option linter.unusedSimpArgs false
set_option linter.unusedVariables false
def FloA (D:List Nd) (w0:World) (i:Value) (wr:World):Prop:=∃ k:Nat,k<=D.length/\i=.int .i64 k/\Below w0.heap.size w0 wr
def TxA (bs:List Bool) (w0:World) (t i:Value) (wr:World):Prop:=∃ j:Nat,j<=bs.length/\t=.bool ((bs.take j).any id)/\i=.int .i64 j/\Below w0.heap.size w0 wr
def DnA (l:List Fg) (deep:Int) (keys:Nat->Int) (kids:List Nat) (fin:Int) (w0:World) (e i:Value) (wr:World):Prop :=
 ∃ (j:Nat) (en:Int),j<=kids.length/\e=.int .i64 en/\i=.int .i64 j/\qze l deep keys en (kids.drop j)=some fin/\Below w0.heap.size w0 wr
theorem mem1 {a b:Nat} (h:a<=b):∀ g ∈ [b],a<=g:=fun g hg=>by rw [List.mem_singleton.1 hg]; exact h
theorem alS (c:World):∃ y,World.alloc c (.cells (stC st0).toArray 33)=y/\Below c.heap.size c y/\Blk y c.heap.size 33 (stC st0).toArray/\Hid (y.heap.size=c.heap.size+1) :=
 ⟨_,rfl,(Below.refl _ _).alloc (Nat.le_refl _) _,Blk.new _ _ _,Lib.hid (World.size_alloc ..)⟩
theorem alF (c:World):∃ y,World.alloc c (.cells (fgC fg0).toArray 42)=y/\Below c.heap.size c y/\Blk y c.heap.size 42 (fgC fg0).toArray/\Hid (y.heap.size=c.heap.size+1) :=
 ⟨_,rfl,(Below.refl _ _).alloc (Nat.le_refl _) _,Blk.new _ _ _,Lib.hid (World.size_alloc ..)⟩
theorem step_all {P:Program} {ops:Array Oper} {op:Oper} {a:Act} {w:World} {K:Act->World->Prop} {Q:Exit->Act->World->Prop} {E:Prop} (ty:TypeId) (x y:Operand) (ho:op.op=.store ty x y) (g:Nat) (L cs:List Value) (hx:a.eval x=.pointer (some ⟨g,0,none⟩)) (hg:Blk w g ty L.toArray)
  (hy:a.eval y=.agg cs.toArray) (hl:L.length=cs.length) (hi:(P.info? ty).map (·.size)=some cs.length) (h1:∀ v ∈ cs,v.oneCell'=true) (h:∀ w',Blk w' g ty cs.toArray->Kept [g] w w'->K (a.put op.dst undef) w') (hgd:op.guard=none:=by rfl) :
  if Region.wanted op (yielded ops a.tmps)=true then Oper.wp P op a w K Q else E :=
 qoe hgd ty x y ho g 0 ty L cs hx hg hy (by omega) hi h1 fun w' h2 h3 _=>h w' (by rw [qjd hl] at h2; exact h2) h3
theorem intsN_len (l:List Nat):(intsN l).length=l.length:=by simp [intsN]
set_option maxRecDepth 100000 in
set_option maxHeartbeats 20000000 in
theorem rightFlow_walk (ns:List Nd) (dv:Value) (next x:Int) (w:World) (h:DocIn w w.heap.size dv ns) (hwf:∀ n ∈ ns,(ndC n).all wfC=true) (hml:∃ m,w.cell? ⟨2,0,none⟩=some (.int .i64 m)) :
  qmi 7 #[docA dv next,.int .i64 x] w:=by
 unfold qmi
 obtain ⟨W1,hW1⟩:∃ W1,W1=w.alloc (.cells #[dv,.int .i64 next] 24):=⟨_,rfl⟩
 have hb1:Below w.heap.size w W1:=by rw [hW1]; exact (Below.refl _ _).alloc (Nat.le_refl _) _
 have g1:Blk W1 w.heap.size 24 #[dv,.int .i64 next]:=by rw [hW1]; exact Blk.new _ _ _
 have haw:=q1p W1 (ml_at hml hb1)
 have hgr:=fun W (hW:DocIn W W.heap.size dv ns)=>qxx ns dv next W hW
 have hpl:=fun W (hW:DocIn W W.heap.size dv ns) (hm:ns.length<=1000)=>qvx ns dv next W hW hm hwf
 unfold docA at hgr hpl ⊢
 have H:=Lib.hid h
 have HWF:=Lib.hid hwf
 have HML:=Lib.hid hml
 have HW1:=Lib.hid hW1
 have HPL:=Lib.hid hpl
 clear hW1 h hwf hml hpl
 go_enter Tryz.func7,Tryz.ntmps7
 go_upto_region 1 with fail
 simp only [<-HW1.out]
 clear HW1
 go_upto_region 3 with (go_at_call 20; refine haw.mono ?_; rintro e w2 ⟨he,hb2⟩; obtain rfl:=he)
 have hB2:Below w.heap.size w w2:=hb1.trans (hb2.mono hb1.size)
 have g2:=g1.below hb2 g1.lt
 have c0:w2.cell? ⟨w.heap.size,0,none⟩=some dv:=g2.cell 0
 have c1:w2.cell? ⟨w.heap.size,1,none⟩=some (.int .i64 next):=g2.cell 1
 have hg2:=hgr w2 (Shp.In.more (Shp.In.below H.out hB2) hB2.size)
 clear haw hgr hb1 hb2 g1
 cases hG:qni ns with
 | true =>
  rw [hG] at hg2
  clear hG
  go_wp2_with (go_at_call 12; refine hg2.mono ?_; rintro e w3 ⟨he,hb3⟩; obtain rfl:=he)
  go_ret
  exact ⟨rfl,hB2.trans (hb3.mono hB2.size)⟩
 | false =>
  rw [hG] at hg2
  have hlen:ns.length<=320/\∀ n ∈ ns,(n.text.size:Int)<=5000:=by
   unfold qni at hG
   split at hG
   ·cases hG
   ·exact ⟨by omega,qgr ns 5000 hG⟩
  have HLEN:=Lib.hid hlen
  clear hG hlen
  go_upto_region 5 with (go_at_call 12; refine hg2.mono ?_; rintro e w3 ⟨he,hb3⟩; obtain rfl:=he)
  have hB3:=hB2.trans (hb3.mono hB2.size)
  have g3:=g2.below hb3 g2.lt
  have d0:w3.cell? ⟨w.heap.size,0,none⟩=some dv:=g3.cell 0
  have d1:w3.cell? ⟨w.heap.size,1,none⟩=some (.int .i64 next):=g3.cell 1
  have hp3:=HPL.out w3 (Shp.In.more (Shp.In.below H.out hB3) hB3.size) (by have:=HLEN.out.1; omega)
  have hlt3:=g3.lt
  clear c0 c1 hg2 hb3 g2
  go_upto_region 6 with (first
   | (go_at_call 23; refine hp3.mono ?_; rintro e w4 ⟨hb4,v4,he,ho4⟩; obtain rfl:=he; obtain ⟨A,n,c,rfl⟩:=ho4.slice_; have g4:=g3.below hb4 g3.lt)
   | (refine qxa rfl 24 _ _ rfl w.heap.size 24 [dv,.int .i64 next] [.slice A n c,.int .i64 next] rfl g4 rfl rfl qxd (by simp [Value.oneCell']) ?_; intro w5 g5 k5 z5; simp only [Act.put]))
  obtain ⟨D,hD⟩:∃ D,D=qcc ns:=⟨_,rfl⟩
  rw [<-hD] at ho4
  have hB5:Below w.heap.size w w5:=hB3.trans ((hb4.mono hB3.size).trans (k5.to_below (by have:=hB3.size; have:=hb4.size; omega) (by simp)))
  have ho5:shNd.Owns w5 w3.heap.size (.slice A n c) D:=ho4.kept k5 fun g e=>by
   have:=(ho4.lt g e).1
   rw [List.mem_singleton]
   omega
  have hd5:DocIn w5 w5.heap.size (.slice A n c) D:=ho5.in_
  obtain rfl:n=D.length:=by
   obtain ⟨A',c',e,-⟩:=ho5.in_
   injection e with _ e2 _
  have hwfD:∀ n ∈ D,(ndC n).all wfC=true:=by rw [hD]; exact q3v HWF.out
  have hlenD:D.length<=320:=by
   rw [hD]
   unfold qcc
   rw [qic]
   exact HLEN.out.1
  have ht9:∀ n ∈ D,n.text.size<=140737488355328:=fun n hn=>by
   rw [hD] at hn
   obtain ⟨i,hi,rfl⟩:=List.getElem_of_mem hn
   unfold qcc at hi ⊢
   rw [qpe]
   rw [qic] at hi
   have:(ndAt ns i).text.size<=5000:=by
    rw [qxb hi]
    have:=HLEN.out.2 _ (List.getElem_mem hi)
    omega
   split
   ·exact Nat.le_trans this (by decide)
   ·exact Nat.le_trans this (by decide)
  have hBl:qgb D next=true->Blocks D next:=by rw [hD]; exact qtx
  have hlay:=qux (fun _ f=>f) D (.slice A D.length c) next x w5 hd5 hwfD ht9 (ml_at HML.out hB5) hBl
  unfold docA LaidP at hlay
  have r0:w5.cell? ⟨w.heap.size,0,none⟩=some (.slice A D.length c):=g5.cell 0
  have r1:w5.cell? ⟨w.heap.size,1,none⟩=some (.int .i64 next):=g5.cell 1
  have HBL:=Lib.hid hBl
  have HWD:=Lib.hid hwfD
  have HLD:=Lib.hid hlenD
  clear hBl hwfD hlenD ht9 ho4 ho5 hb4 g3 g4 d0 d1 hp3 hD k5 z5
  by_cases h0:(qob D (fun _ f=>f) next x).2=0
  case neg =>
   have z0:((qob D (fun _ f=>f) next x).2 == 0)=false:=beq_false_of_ne h0
   generalize (qob D (fun _ f=>f) next x).2=er at *
   go_wp2_with (go_at_call 14; refine hlay.mono ?_; rintro e w6 ⟨hb6,v6,he,ho6⟩; obtain rfl:=he)
   go_ret
   exact ⟨rfl,hB5.trans (hb6.mono hB5.size)⟩
  obtain ⟨l,hl,hmay,hwh⟩:=flow_whole h0
  rw [hl] at hlay
  have HH:=Lib.hid (And.intro (HBL.out hmay) hwh)
  clear hl hmay hwh h0
  go_upto_region 9 with (go_at_call 14; refine hlay.mono ?_; rintro e w6 ⟨hb6,v6,he,ho6⟩; obtain rfl:=he; obtain ⟨A6,n6,c6,rfl⟩:=ho6.slice_)
  have hB6:=hB5.trans (hb6.mono hB5.size)
  have g6:=g5.below hb6 g5.lt
  have hd6:=Shp.In.more (Shp.In.below hd5 hb6) hb6.size
  have hl6:=ho6.in_
  have hll:=HH.out.1.few HH.out.2
  have HLL:=Lib.hid hll
  have HD6:=Lib.hid (And.intro hd6 hl6)
  have HB6:=Lib.hid hB6
  have hkd:=fun (a:Nat) (W:World)=>qar D (.slice A D.length c) next a W
  have hfr0:=fun (W:World) (key:Int)=>qyx l (.slice A6 n6 c6) key W
  unfold docA at hkd
  have HKD:=Lib.hid hkd
  have HFR:=Lib.hid hfr0
  clear hlay hll hd6 hl6 hd5 ho6 hb6 g5 r0 r1 hB5 hkd hfr0 hB3 hB2 hB6
  go_wp2_with fail
  go_loopw [7] (FloA D w6) (fun i _=>D.length - (intOf i).toNat)
  case atStart=>exact ⟨0,Nat.zero_le _,rfl,Below.refl _ _⟩
  case round =>
   obtain ⟨k,hk,rfl,hbr⟩:=hrel
   have hD320:=HLD.out
   have gr:=g6.below hbr g6.lt
   have r0:wr.cell? ⟨w.heap.size,0,none⟩=some (.slice A D.length c):=gr.cell 0
   have r1:wr.cell? ⟨w.heap.size,1,none⟩=some (.int .i64 next):=gr.cell 1
   by_cases hlt:k < D.length
   ·have hzk:(k:Int) < (D.length:Int):=by omega
    have hdr:=Shp.In.more (Shp.In.below HD6.out.1 hbr) hbr.size
    have hkr:=HKD.out k wr hdr hlt (by have:=HLD.out; omega) HWD.out
    have HLT:=Lib.hid hlt
    go_upto_region 13 with (go_at_call 24; refine hkr.mono ?_; rintro e wK ⟨vK,he,hoK,hbK⟩; obtain rfl:=he; obtain ⟨AK,cK,rfl⟩:=hoK.form)
    have hBK:Below w6.heap.size w6 wK:=hbr.trans (hbK.mono hbr.size)
    have hiK:=hoK.ints
    obtain ⟨kids,hkids⟩:∃ kids,kids=kidsN D k:=⟨_,rfl⟩
    rw [<-hkids] at hiK
    have hkl320:kids.length<=320:=by rw [hkids]; exact Nat.le_trans (qpi D k) HLD.out
    have hkmem:∀ q ∈ kids,q < D.length:=fun q hq=>by rw [hkids] at hq; exact (q1n hq).2
    rw [<-hkids,intsN_len]
    have HK:=Lib.hid (And.intro hkids hkmem)
    have HBK:=Lib.hid hBK
    clear hkids hkmem r0 r1 gr hdr hkr hoK hbK hbr
    obtain ⟨bs,hbs⟩:∃ bs,bs=txB D kids:=⟨_,rfl⟩
    have hbl:bs.length=kids.length:=by rw [hbs]; simp [txB]
    have HBS:=Lib.hid (And.intro hbs hbl)
    clear hbs hbl
    go_wp2_with fail
    go_loopw [9,10] (TxA bs wK) (fun _ i _=>kids.length - (intOf i).toNat)
    case atStart=>exact ⟨0,Nat.zero_le _,rfl,rfl,Below.refl _ _⟩
    case round =>
     obtain ⟨j,hj,rfl,rfl,hbr⟩:=hrel
     have hBR:Below w6.heap.size w6 wr:=HBK.out.trans (hbr.mono HBK.out.size)
     by_cases hjl:j < kids.length
     ·have hzj:(j:Int) < (kids.length:Int):=by omega
      have hjb:j < bs.length:=by rw [HBS.out.2]; exact hjl
      have HST:=Lib.hid (any_step hjb)
      obtain ⟨t,ht⟩:∃ t,(bs.take j).any id=t:=⟨_,rfl⟩
      rw [ht] at HST ⊢
      clear ht
      cases t with
      | true =>
       go_upto_region 17 with fail
       refine qna [13] [0,1,2,3,4,5,6,7,8,9,10,11,12] [13] (fun w'=>∃ V:BW (wr.heap.size) wr,w'=V.val) (by kernel_rfl) (by kernel_rfl) (fun c a d v w h=>by cases d <;> exact h) ⟨⟨wr.drew,(Below.refl _ _).drew⟩,rfl⟩ ?_
       simp only [pickD,List.map_cons,List.map_nil,List.getD_cons_zero,List.getD_cons_succ]
       repeat (go_big_quiet_step (fail))
       refine wpQuiet_nil ?_
       refine qca rfl fun K hK=>?_
       go_simp
       refine hK.out _ _ (.inl (by decide)) ?_
       clear hK K
       refine qla ?_
       go_wp2_with fail
       go_roundw
       case rel=>exact ⟨j+1,hjb,by rw [HST.out]; rfl,by go_num,hbr.drew⟩
       case measure=>simp [intOf] <;> omega
      | false =>
       obtain ⟨q,hq⟩:∃ q,kids[j]=q:=⟨_,rfl⟩
       have hqn:q < D.length:=by rw [<-hq]; exact HK.out.2 _ (List.getElem_mem hjl)
       obtain ⟨db,do_,dc,e,hdb,hdc⟩:=qoh HD6.out.1 (by omega)
       cases e
       have hki:=(qls D[q]).2.2.1
       rw [<-hdc q hqn 2 (by decide)] at hki
       obtain ⟨kd,hkd⟩:∃ kd,kd=D[q].kind:=⟨_,rfl⟩
       rw [<-hkd] at hki
       have hb2:bs[j]=((kd:Int) == 1):=by
        have:bs[j]=decide ((ndAt D q).kind=1):=by
         simp only [HBS.out.1,txB,List.getElem_map,hq]
        rw [this,qxb hqn,<-hkd]
        by_cases e:kd=1
        ·subst e; rfl
        ·rw [decide_eq_false e]
         exact (beq_false_of_ne (by omega)).symm
       rw [hb2,Bool.false_or] at HST
       obtain ⟨bq,hbq⟩:∃ bq,((kd:Int) == 1)=bq:=⟨_,rfl⟩
       rw [hbq] at HST
       have hzq:(q:Int) < (D.length:Int):=by omega
       have hiR:=Ints.more (hiK.below (hbr)) hbr.size
       have hbB:db < w6.heap.size:=hdb
       have q0:∀ V:BW wr.heap.size wr,V.val.cell? ⟨w.heap.size,0,none⟩=some (.slice (some ⟨db,do_,none⟩) D.length c):=fun V=>((g6.below (hBR.trans (V.ok.mono hBR.size)) g6.lt)).cell 0
       have q1:∀ V:BW wr.heap.size wr,V.val.cell? ⟨db,do_+q * 51+2,none⟩=some (.int .u8 kd):=fun V=>((hBR.trans (V.ok.mono hBR.size)).cell (p:=⟨db,do_+q * 51+2,none⟩) hbB).trans hki
       obtain ⟨_,_,e9,_,hrd⟩:=hiR
       cases e9
       obtain ⟨ad,rfl,hadb,hadc⟩:=Reads.val (zs:=intsN kids) hrd (k:=j) (by rw [intsN_len]; exact hjl)
       have q2:∀ V:BW wr.heap.size wr,V.val.cell? (ad.add j)=some (.int .i64 (q:Int)):=fun V=>((V.ok.cell (p:=ad.add j) (by rw [qac]; exact hadb))).trans (by rw [hadc]; simp [intsN,hq])
       have HZ:=Lib.hid (And.intro hjb hqn)
       have HBX:=Lib.hid hbr
       clear hki hkd hb2 hq hdc hrd hadc hadb hqn hbr hjb
       go_upto_region 17 with fail
       refine qna [13] [0,1,2,3,4,5,6,7,8,9,10,11,12] [13] (fun w'=>∃ V:BW (wr.heap.size) wr,w'=V.val) (by kernel_rfl) (by kernel_rfl) (fun c a d v w h=>by cases d <;> exact h) ⟨⟨wr.drew,(Below.refl _ _).drew⟩,rfl⟩ ?_
       simp only [pickD,List.map_cons,List.map_nil,List.getD_cons_zero,List.getD_cons_succ]
       repeat (go_big_quiet_step (fail))
       refine wpQuiet_nil ?_
       refine qca rfl fun K hK=>?_
       go_simp
       refine hK.out _ _ (.inl (by decide)) ?_
       clear hK K
       refine qla ?_
       go_wp2_with fail
       go_roundw
       case rel=>exact ⟨j+1,HZ.out.1,by rw [HST.out],by go_num,HBX.out.drew⟩
       case measure=>simp [intOf] <;> omega
     ·obtain rfl:j=kids.length:=by have:=HBS.out.2; omega
      have hzj:¬ (kids.length:Int) < (kids.length:Int):=by omega
      have htk:bs.take kids.length=bs:=by rw [<-HBS.out.2,List.take_length]
      rw [htk]
      clear htk
      obtain ⟨T,hT⟩:∃ T,bs.any id=T:=⟨_,rfl⟩
      rw [hT]
      have HT:=Lib.hid hT
      have HLT:=Lib.hid hlt
      have HBRK:=Lib.hid hbr
      clear hT hbr
      cases T with
      | true =>
       go_wp2_with fail
       go_roundw
       case rel=>exact ⟨k+1,HLT.out,by go_num,hBR⟩
       case measure=>simp [intOf] <;> omega
      | false =>
       by_cases hm0:kids.length=0
       ·have hzm:((kids.length:Int) == 0)=true:=by rw [hm0]; rfl
        clear hm0
        go_wp2_with fail
        go_roundw
        case rel=>exact ⟨k+1,HLT.out,by go_num,hBR⟩
        case measure=>simp [intOf] <;> omega
       ·have hzm:((kids.length:Int) == 0)=false:=beq_false_of_ne (by omega)
        have hne:kidsN D k≠[]:=by
         rw [<-HK.out.1]
         rintro e
         rw [e] at hm0
         exact hm0 rfl
        have hkd0:∀ q ∈ kids,(ndAt D q).kind=0:=fun q hq=>by
         have h1:=txB_none (by rw [<-HBS.out.1]; exact HT.out) q hq
         have h2:=(HH.out.1.ok.at_ (HK.out.2 q hq)).kind
         omega
        have hlaw:=HH.out.1.law HH.out.2 hlt hne (by rw [<-HK.out.1]; exact hkd0)
        have hk0:=HH.out.1.has_kids hlt hne
        obtain ⟨fd,fy,fh⟩:=HH.out.1.frag_in HH.out.2 hlt hk0
        have hed:=qfp (HH.out.1.ok.st_at k)
        have hdep:=(HH.out.1.ok.at_ hlt).depth
        rw [<-HK.out.1] at hlaw
        have HLAW:=Lib.hid hlaw
        have HKD0:=Lib.hid hkd0
        clear hne hkd0 hlaw hk0 hm0
        go_upto_region 19 with fail
        obtain ⟨db,do_,dc,e,hdb,hdc⟩:=qoh HD6.out.1 (by omega)
        cases e
        have hfr:=fun (W:World) (hB:Below wr.heap.size wr W)=>HFR.out W (ndAt D k).key (Shp.In.more (Shp.In.below HD6.out.2 (hBR.trans (hB.mono hBR.size))) (hBR.trans (hB.mono hBR.size)).size) (Nat.le_of_lt HLL.out)
        have hBV:∀ V:BW wr.heap.size wr,Below w6.heap.size w6 V.val:=fun V=>hBR.trans (V.ok.mono hBR.size)
        have q0:∀ V:BW wr.heap.size wr,V.val.cell? ⟨w.heap.size,0,none⟩=some (.slice (some ⟨db,do_,none⟩) D.length c):=fun V=>(g6.below (hBV V) g6.lt).cell 0
        have q1:∀ V:BW wr.heap.size wr,V.val.cell? ⟨db,do_+k * 51,none⟩=some (.int .i64 (ndAt D k).key):=fun V=>((hBV V).cell (p:=⟨db,do_+k * 51,none⟩) hdb).trans (by rw [qxb hlt]; exact hdc k hlt 0 (by decide))
        have hst:∀ V:BW wr.heap.size wr,V.val.rangeAt db (do_+k * 51+3) (stC (ndAt D k).st):=fun V j v hv=>((hBV V).cell (p:=⟨db,do_+k * 51+3+j,none⟩) hdb).trans (by
         have hj47:j < 47:=(List.getElem?_eq_some_iff.1 hv).1
         rw [Nat.add_assoc (do_+k * 51) 3 j,hdc k hlt (3+j) (by omega),<-qxb hlt]
         exact nd_st _ j v hv)
        have HST:=Lib.hid hst
        have HNT:=Lib.hid (And.intro fd (And.intro fy (And.intro fh (And.intro hed hdep))))
        clear hst fd fy fh hed hdep
        go_cut [11,12] (fun a b wx=>∃ PS PF,a=.pointer (some ⟨PS,0,none⟩)/\b=.pointer (some ⟨PF,0,none⟩)/\Blk wx PS 33 (stC (ndAt D k).st).toArray/\Blk wx PF 42 (fgC (q7a l (ndAt D k).key)).toArray/\Below wr.heap.size wr wx)
        case first =>
         refine wp_region_noPanic ?_
         refine q5d [17] [0,1,2,3,4,5,6,7,8,9,10,11,12] 5 (fun w'=>∃ V:BW (wr.heap.size) wr,w'=V.val) (by kernel_rfl) (by kernel_rfl) (fun c a d v w h=>by cases d <;> exact h) ⟨⟨wr.drew,(Below.refl _ _).drew⟩,rfl⟩ ?_
         simp only [pickD,List.map_cons,List.map_nil,List.getD_cons_zero,List.getD_cons_succ]
         repeat (first | (refine q8f (by rfl) 33 _ rfl db (do_+k * 51+3) (stC (ndAt D k).st) _ rfl (fun W hW=>by obtain ⟨V,rfl⟩:=hW; exact HST.out V) Tryz.underlying33 rfl qoa ?_; simp only [Act.put,zA,zB,zC]) | (go_big_quiet_step (fail)))
         refine wpQuiet_nil ?_
         refine qba [13,14,15] (by kernel_rfl) fun i hi=>?_
         rcases (by simpa using hi:i=13\/i=14\/i=15) with rfl | rfl | rfl
         ·skip
          refine qaa rfl fun K hK=>?_
          go_simp
          go_at_call 25
          refine (hfr _ ((Below.refl wr.heap.size wr).drew)).mono ?_
          rintro e y1 ⟨he,h1⟩
          obtain rfl:=he
          have b1:=((Below.refl wr.heap.size wr).drew).trans (h1.mono ((Below.refl wr.heap.size wr).drew).size)
          refine hK.out _ _ (.inr ⟨⟨_,b1⟩,rfl⟩) ?_
          clear hK K
          try simp only [Act.put,zA,zB,zC]
          refine qba [14,15] (by kernel_rfl) fun i hi=>?_
          rcases (by simpa using hi:i=14\/i=15) with rfl | rfl
          ·skip
           refine qaa rfl fun K hK=>?_
           go_simp
           obtain ⟨y2,e2,h2,gS,zS⟩:=alS (y1)
           change K _ (World.alloc (y1) (Obj.cells (stC st0).toArray 33))
           rw [e2]
           clear e2
           have nS:=b1.size
           have b2:=b1.trans (h2.mono b1.size)
           refine hK.out _ _ (.inr ⟨⟨_,b2⟩,rfl⟩) ?_
           clear hK K
           try simp only [Act.put,zA,zB,zC]
           refine qba [15] (by kernel_rfl) fun i hi=>?_
           obtain rfl:i=15:=by simpa using hi
           refine qaa rfl fun K hK=>?_
           go_simp
           obtain ⟨y3,e3,h3,gF,zF⟩:=alF (y2)
           change K _ (World.alloc (y2) (Obj.cells (fgC fg0).toArray 42))
           rw [e3]
           clear e3
           have nF:=b2.size
           have gS:=gS.below h3 gS.lt
           have b3:=b2.trans (h3.mono b2.size)
           refine hK.out _ _ (.inr ⟨⟨_,b3⟩,rfl⟩) ?_
           clear hK K
           try simp only [Act.put,zA,zB,zC]
           refine qba [16] (by kernel_rfl) fun i hi=>?_
           obtain rfl:i=16:=by simpa using hi
           refine qaa rfl fun K hK=>?_
           refine step_all 33 _ _ rfl (y1.heap.size) (stC st0) (stC (ndAt D k).st) rfl gS rfl rfl qoa (qve _) ?_
           intro y4 gS k4
           have ne:y2.heap.size≠y1.heap.size:=by have:=h1.size; have:=h2.size; have:=h3.size; have:=zS.out; have:=zF.out; omega
           have gF:=gF.kept k4 (by simp; exact ne)
           have b4:=b3.trans (k4.to_below b3.size (mem1 nS))
           refine hK.out _ _ (.inr ⟨⟨_,b4⟩,rfl⟩) ?_
           clear hK K
           try simp only [Act.put,zA,zB,zC]
           refine qba [17] (by kernel_rfl) fun i hi=>?_
           obtain rfl:i=17:=by simpa using hi
           refine qaa rfl fun K hK=>?_
           refine step_all 42 _ _ rfl (y2.heap.size) (fgC fg0) (fgC (q7a l (ndAt D k).key)) rfl gF rfl rfl q8b (qbe _) ?_
           intro y5 gF k5
           have gS:=gS.kept k5 (by simp; exact ne.symm)
           have b5:=b4.trans (k5.to_below b4.size (mem1 nF))
           refine hK.out _ _ (.inl (by decide)) ?_
           clear hK K
           try simp only [Act.put,zA,zB,zC]
           refine qma (by kernel_rfl) ?_
           refine NoPanic.normal ?_
           go_wp2_with fail
           go_meet
           exact ⟨_,_,rfl,rfl,gS,gF,b5⟩
          ·skip
           refine qaa rfl fun K hK=>?_
           go_simp
           obtain ⟨y2,e2,h2,gF,zF⟩:=alF (y1)
           change K _ (World.alloc (y1) (Obj.cells (fgC fg0).toArray 42))
           rw [e2]
           clear e2
           have nF:=b1.size
           have b2:=b1.trans (h2.mono b1.size)
           refine hK.out _ _ (.inr ⟨⟨_,b2⟩,rfl⟩) ?_
           clear hK K
           try simp only [Act.put,zA,zB,zC]
           refine qba [14] (by kernel_rfl) fun i hi=>?_
           obtain rfl:i=14:=by simpa using hi
           refine qaa rfl fun K hK=>?_
           go_simp
           obtain ⟨y3,e3,h3,gS,zS⟩:=alS (y2)
           change K _ (World.alloc (y2) (Obj.cells (stC st0).toArray 33))
           rw [e3]
           clear e3
           have nS:=b2.size
           have gF:=gF.below h3 gF.lt
           have b3:=b2.trans (h3.mono b2.size)
           refine hK.out _ _ (.inr ⟨⟨_,b3⟩,rfl⟩) ?_
           clear hK K
           try simp only [Act.put,zA,zB,zC]
           refine qba [16] (by kernel_rfl) fun i hi=>?_
           obtain rfl:i=16:=by simpa using hi
           refine qaa rfl fun K hK=>?_
           refine step_all 33 _ _ rfl (y2.heap.size) (stC st0) (stC (ndAt D k).st) rfl gS rfl rfl qoa (qve _) ?_
           intro y4 gS k4
           have ne:y1.heap.size≠y2.heap.size:=by have:=h1.size; have:=h2.size; have:=h3.size; have:=zS.out; have:=zF.out; omega
           have gF:=gF.kept k4 (by simp; exact ne)
           have b4:=b3.trans (k4.to_below b3.size (mem1 nS))
           refine hK.out _ _ (.inr ⟨⟨_,b4⟩,rfl⟩) ?_
           clear hK K
           try simp only [Act.put,zA,zB,zC]
           refine qba [17] (by kernel_rfl) fun i hi=>?_
           obtain rfl:i=17:=by simpa using hi
           refine qaa rfl fun K hK=>?_
           refine step_all 42 _ _ rfl (y1.heap.size) (fgC fg0) (fgC (q7a l (ndAt D k).key)) rfl gF rfl rfl q8b (qbe _) ?_
           intro y5 gF k5
           have gS:=gS.kept k5 (by simp; exact ne.symm)
           have b5:=b4.trans (k5.to_below b4.size (mem1 nF))
           refine hK.out _ _ (.inl (by decide)) ?_
           clear hK K
           try simp only [Act.put,zA,zB,zC]
           refine qma (by kernel_rfl) ?_
           refine NoPanic.normal ?_
           go_wp2_with fail
           go_meet
           exact ⟨_,_,rfl,rfl,gS,gF,b5⟩
         ·skip
          refine qaa rfl fun K hK=>?_
          go_simp
          obtain ⟨y1,e1,h1,gS,zS⟩:=alS (wr.drew)
          change K _ (World.alloc (wr.drew) (Obj.cells (stC st0).toArray 33))
          rw [e1]
          clear e1
          have nS:=((Below.refl wr.heap.size wr).drew).size
          have b1:=((Below.refl wr.heap.size wr).drew).trans (h1.mono ((Below.refl wr.heap.size wr).drew).size)
          refine hK.out _ _ (.inr ⟨⟨_,b1⟩,rfl⟩) ?_
          clear hK K
          try simp only [Act.put,zA,zB,zC]
          refine qba [13,15] (by kernel_rfl) fun i hi=>?_
          rcases (by simpa using hi:i=13\/i=15) with rfl | rfl
          ·skip
           refine qaa rfl fun K hK=>?_
           go_simp
           go_at_call 25
           refine (hfr _ b1).mono ?_
           rintro e y2 ⟨he,h2⟩
           obtain rfl:=he
           have gS:=gS.below h2 gS.lt
           have b2:=b1.trans (h2.mono b1.size)
           refine hK.out _ _ (.inr ⟨⟨_,b2⟩,rfl⟩) ?_
           clear hK K
           try simp only [Act.put,zA,zB,zC]
           refine qba [15] (by kernel_rfl) fun i hi=>?_
           obtain rfl:i=15:=by simpa using hi
           refine qaa rfl fun K hK=>?_
           go_simp
           obtain ⟨y3,e3,h3,gF,zF⟩:=alF (y2)
           change K _ (World.alloc (y2) (Obj.cells (fgC fg0).toArray 42))
           rw [e3]
           clear e3
           have nF:=b2.size
           have gS:=gS.below h3 gS.lt
           have b3:=b2.trans (h3.mono b2.size)
           refine hK.out _ _ (.inr ⟨⟨_,b3⟩,rfl⟩) ?_
           clear hK K
           try simp only [Act.put,zA,zB,zC]
           refine qba [16] (by kernel_rfl) fun i hi=>?_
           obtain rfl:i=16:=by simpa using hi
           refine qaa rfl fun K hK=>?_
           refine step_all 33 _ _ rfl (wr.drew.heap.size) (stC st0) (stC (ndAt D k).st) rfl gS rfl rfl qoa (qve _) ?_
           intro y4 gS k4
           have ne:y2.heap.size≠wr.drew.heap.size:=by have:=h1.size; have:=h2.size; have:=h3.size; have:=zS.out; have:=zF.out; omega
           have gF:=gF.kept k4 (by simp; exact ne)
           have b4:=b3.trans (k4.to_below b3.size (mem1 nS))
           refine hK.out _ _ (.inr ⟨⟨_,b4⟩,rfl⟩) ?_
           clear hK K
           try simp only [Act.put,zA,zB,zC]
           refine qba [17] (by kernel_rfl) fun i hi=>?_
           obtain rfl:i=17:=by simpa using hi
           refine qaa rfl fun K hK=>?_
           refine step_all 42 _ _ rfl (y2.heap.size) (fgC fg0) (fgC (q7a l (ndAt D k).key)) rfl gF rfl rfl q8b (qbe _) ?_
           intro y5 gF k5
           have gS:=gS.kept k5 (by simp; exact ne.symm)
           have b5:=b4.trans (k5.to_below b4.size (mem1 nF))
           refine hK.out _ _ (.inl (by decide)) ?_
           clear hK K
           try simp only [Act.put,zA,zB,zC]
           refine qma (by kernel_rfl) ?_
           refine NoPanic.normal ?_
           go_wp2_with fail
           go_meet
           exact ⟨_,_,rfl,rfl,gS,gF,b5⟩
          ·skip
           refine qaa rfl fun K hK=>?_
           go_simp
           obtain ⟨y2,e2,h2,gF,zF⟩:=alF (y1)
           change K _ (World.alloc (y1) (Obj.cells (fgC fg0).toArray 42))
           rw [e2]
           clear e2
           have nF:=b1.size
           have gS:=gS.below h2 gS.lt
           have b2:=b1.trans (h2.mono b1.size)
           refine hK.out _ _ (.inr ⟨⟨_,b2⟩,rfl⟩) ?_
           clear hK K
           try simp only [Act.put,zA,zB,zC]
           refine qba [13] (by kernel_rfl) fun i hi=>?_
           obtain rfl:i=13:=by simpa using hi
           refine qaa rfl fun K hK=>?_
           go_simp
           go_at_call 25
           refine (hfr _ b2).mono ?_
           rintro e y3 ⟨he,h3⟩
           obtain rfl:=he
           have gS:=gS.below h3 gS.lt
           have gF:=gF.below h3 gF.lt
           have b3:=b2.trans (h3.mono b2.size)
           refine hK.out _ _ (.inr ⟨⟨_,b3⟩,rfl⟩) ?_
           clear hK K
           try simp only [Act.put,zA,zB,zC]
           refine qba [16] (by kernel_rfl) fun i hi=>?_
           obtain rfl:i=16:=by simpa using hi
           refine qaa rfl fun K hK=>?_
           refine step_all 33 _ _ rfl (wr.drew.heap.size) (stC st0) (stC (ndAt D k).st) rfl gS rfl rfl qoa (qve _) ?_
           intro y4 gS k4
           have ne:y1.heap.size≠wr.drew.heap.size:=by have:=h1.size; have:=h2.size; have:=h3.size; have:=zS.out; have:=zF.out; omega
           have gF:=gF.kept k4 (by simp; exact ne)
           have b4:=b3.trans (k4.to_below b3.size (mem1 nS))
           refine hK.out _ _ (.inr ⟨⟨_,b4⟩,rfl⟩) ?_
           clear hK K
           try simp only [Act.put,zA,zB,zC]
           refine qba [17] (by kernel_rfl) fun i hi=>?_
           obtain rfl:i=17:=by simpa using hi
           refine qaa rfl fun K hK=>?_
           refine step_all 42 _ _ rfl (y1.heap.size) (fgC fg0) (fgC (q7a l (ndAt D k).key)) rfl gF rfl rfl q8b (qbe _) ?_
           intro y5 gF k5
           have gS:=gS.kept k5 (by simp; exact ne.symm)
           have b5:=b4.trans (k5.to_below b4.size (mem1 nF))
           refine hK.out _ _ (.inl (by decide)) ?_
           clear hK K
           try simp only [Act.put,zA,zB,zC]
           refine qma (by kernel_rfl) ?_
           refine NoPanic.normal ?_
           go_wp2_with fail
           go_meet
           exact ⟨_,_,rfl,rfl,gS,gF,b5⟩
         ·skip
          refine qaa rfl fun K hK=>?_
          go_simp
          obtain ⟨y1,e1,h1,gF,zF⟩:=alF (wr.drew)
          change K _ (World.alloc (wr.drew) (Obj.cells (fgC fg0).toArray 42))
          rw [e1]
          clear e1
          have nF:=((Below.refl wr.heap.size wr).drew).size
          have b1:=((Below.refl wr.heap.size wr).drew).trans (h1.mono ((Below.refl wr.heap.size wr).drew).size)
          refine hK.out _ _ (.inr ⟨⟨_,b1⟩,rfl⟩) ?_
          clear hK K
          try simp only [Act.put,zA,zB,zC]
          refine qba [13,14] (by kernel_rfl) fun i hi=>?_
          rcases (by simpa using hi:i=13\/i=14) with rfl | rfl
          ·skip
           refine qaa rfl fun K hK=>?_
           go_simp
           go_at_call 25
           refine (hfr _ b1).mono ?_
           rintro e y2 ⟨he,h2⟩
           obtain rfl:=he
           have gF:=gF.below h2 gF.lt
           have b2:=b1.trans (h2.mono b1.size)
           refine hK.out _ _ (.inr ⟨⟨_,b2⟩,rfl⟩) ?_
           clear hK K
           try simp only [Act.put,zA,zB,zC]
           refine qba [14] (by kernel_rfl) fun i hi=>?_
           obtain rfl:i=14:=by simpa using hi
           refine qaa rfl fun K hK=>?_
           go_simp
           obtain ⟨y3,e3,h3,gS,zS⟩:=alS (y2)
           change K _ (World.alloc (y2) (Obj.cells (stC st0).toArray 33))
           rw [e3]
           clear e3
           have nS:=b2.size
           have gF:=gF.below h3 gF.lt
           have b3:=b2.trans (h3.mono b2.size)
           refine hK.out _ _ (.inr ⟨⟨_,b3⟩,rfl⟩) ?_
           clear hK K
           try simp only [Act.put,zA,zB,zC]
           refine qba [16] (by kernel_rfl) fun i hi=>?_
           obtain rfl:i=16:=by simpa using hi
           refine qaa rfl fun K hK=>?_
           refine step_all 33 _ _ rfl (y2.heap.size) (stC st0) (stC (ndAt D k).st) rfl gS rfl rfl qoa (qve _) ?_
           intro y4 gS k4
           have ne:wr.drew.heap.size≠y2.heap.size:=by have:=h1.size; have:=h2.size; have:=h3.size; have:=zS.out; have:=zF.out; omega
           have gF:=gF.kept k4 (by simp; exact ne)
           have b4:=b3.trans (k4.to_below b3.size (mem1 nS))
           refine hK.out _ _ (.inr ⟨⟨_,b4⟩,rfl⟩) ?_
           clear hK K
           try simp only [Act.put,zA,zB,zC]
           refine qba [17] (by kernel_rfl) fun i hi=>?_
           obtain rfl:i=17:=by simpa using hi
           refine qaa rfl fun K hK=>?_
           refine step_all 42 _ _ rfl (wr.drew.heap.size) (fgC fg0) (fgC (q7a l (ndAt D k).key)) rfl gF rfl rfl q8b (qbe _) ?_
           intro y5 gF k5
           have gS:=gS.kept k5 (by simp; exact ne.symm)
           have b5:=b4.trans (k5.to_below b4.size (mem1 nF))
           refine hK.out _ _ (.inl (by decide)) ?_
           clear hK K
           try simp only [Act.put,zA,zB,zC]
           refine qma (by kernel_rfl) ?_
           refine NoPanic.normal ?_
           go_wp2_with fail
           go_meet
           exact ⟨_,_,rfl,rfl,gS,gF,b5⟩
          ·skip
           refine qaa rfl fun K hK=>?_
           go_simp
           obtain ⟨y2,e2,h2,gS,zS⟩:=alS (y1)
           change K _ (World.alloc (y1) (Obj.cells (stC st0).toArray 33))
           rw [e2]
           clear e2
           have nS:=b1.size
           have gF:=gF.below h2 gF.lt
           have b2:=b1.trans (h2.mono b1.size)
           refine hK.out _ _ (.inr ⟨⟨_,b2⟩,rfl⟩) ?_
           clear hK K
           try simp only [Act.put,zA,zB,zC]
           refine qba [13] (by kernel_rfl) fun i hi=>?_
           obtain rfl:i=13:=by simpa using hi
           refine qaa rfl fun K hK=>?_
           go_simp
           go_at_call 25
           refine (hfr _ b2).mono ?_
           rintro e y3 ⟨he,h3⟩
           obtain rfl:=he
           have gS:=gS.below h3 gS.lt
           have gF:=gF.below h3 gF.lt
           have b3:=b2.trans (h3.mono b2.size)
           refine hK.out _ _ (.inr ⟨⟨_,b3⟩,rfl⟩) ?_
           clear hK K
           try simp only [Act.put,zA,zB,zC]
           refine qba [16] (by kernel_rfl) fun i hi=>?_
           obtain rfl:i=16:=by simpa using hi
           refine qaa rfl fun K hK=>?_
           refine step_all 33 _ _ rfl (y1.heap.size) (stC st0) (stC (ndAt D k).st) rfl gS rfl rfl qoa (qve _) ?_
           intro y4 gS k4
           have ne:wr.drew.heap.size≠y1.heap.size:=by have:=h1.size; have:=h2.size; have:=h3.size; have:=zS.out; have:=zF.out; omega
           have gF:=gF.kept k4 (by simp; exact ne)
           have b4:=b3.trans (k4.to_below b3.size (mem1 nS))
           refine hK.out _ _ (.inr ⟨⟨_,b4⟩,rfl⟩) ?_
           clear hK K
           try simp only [Act.put,zA,zB,zC]
           refine qba [17] (by kernel_rfl) fun i hi=>?_
           obtain rfl:i=17:=by simpa using hi
           refine qaa rfl fun K hK=>?_
           refine step_all 42 _ _ rfl (wr.drew.heap.size) (fgC fg0) (fgC (q7a l (ndAt D k).key)) rfl gF rfl rfl q8b (qbe _) ?_
           intro y5 gF k5
           have gS:=gS.kept k5 (by simp; exact ne.symm)
           have b5:=b4.trans (k5.to_below b4.size (mem1 nF))
           refine hK.out _ _ (.inl (by decide)) ?_
           clear hK K
           try simp only [Act.put,zA,zB,zC]
           refine qma (by kernel_rfl) ?_
           refine NoPanic.normal ?_
           go_wp2_with fail
           go_meet
           exact ⟨_,_,rfl,rfl,gS,gF,b5⟩
        case rest =>
         obtain ⟨PS,PF,rfl,rfl,gS,gF,hbx⟩:=hcut
         have hBC:Below w6.heap.size w6 wc:=hBR.trans (hbx.mono hBR.size)
         have hdown:=HLAW.out
         obtain ⟨fd,⟨fy1,fy2⟩,⟨fh1,fh2⟩,hed,hdep⟩:=HNT.out
         have s22:wc.cell? ⟨PS,22,none⟩=some (.int .i64 (ndAt D k).st.pT):=gS.cell 22
         have s24:wc.cell? ⟨PS,24,none⟩=some (.int .i64 (ndAt D k).st.pB):=gS.cell 24
         have s26:wc.cell? ⟨PS,26,none⟩=some (.int .i64 (ndAt D k).st.bT):=gS.cell 26
         have s28:wc.cell? ⟨PS,28,none⟩=some (.int .i64 (ndAt D k).st.bB):=gS.cell 28
         have f2:wc.cell? ⟨PF,2,none⟩=some (.int .i64 (q7a l (ndAt D k).key).depth):=gF.cell 2
         have f4:wc.cell? ⟨PF,4,none⟩=some (.int .i64 (q7a l (ndAt D k).key).y):=gF.cell 4
         have f6:wc.cell? ⟨PF,6,none⟩=some (.int .i64 (q7a l (ndAt D k).key).h):=gF.cell 6
         have lS:=gS.lt
         have lF:=gF.lt
         dsimp only at hdown
         unfold stAt at hdown
         rw [fd] at f2 hdown
         generalize (q7a l (ndAt D k).key).y=fy at *
         generalize (q7a l (ndAt D k).key).h=fh at *
         generalize (ndAt D k).st.pT=pT at *
         generalize (ndAt D k).st.pB=pB at *
         generalize (ndAt D k).st.bT=bT at *
         generalize (ndAt D k).st.bB=bB at *
         generalize (ndAt D k).depth=dk at *
         obtain ⟨e1,he1⟩:∃ e1,fy+pT=e1:=⟨_,rfl⟩
         obtain ⟨e2,he2⟩:∃ e2,e1+bT=e2:=⟨_,rfl⟩
         obtain ⟨e3,he3⟩:∃ e3,fy+fh=e3:=⟨_,rfl⟩
         obtain ⟨e4,he4⟩:∃ e4,e3 - pB=e4:=⟨_,rfl⟩
         obtain ⟨e5,he5⟩:∃ e5,e4 - bB=e5:=⟨_,rfl⟩
         obtain ⟨e6,he6⟩:∃ e6,dk+1=e6:=⟨_,rfl⟩
         rw [he1,he2,he3,he4,he5,he6] at hdown
         have v1:IntKind.i64.wrap (fy+pT)=e1:=by rw [IntKind.wrap_i64]; omega
         have v2:IntKind.i64.wrap (e1+bT)=e2:=by rw [IntKind.wrap_i64]; omega
         have v3:IntKind.i64.wrap (fy+fh)=e3:=by rw [IntKind.wrap_i64]; omega
         have v4:IntKind.i64.wrap (e3 - pB)=e4:=by rw [IntKind.wrap_i64]; omega
         have v5:IntKind.i64.wrap (e4 - bB)=e5:=by rw [IntKind.wrap_i64]; omega
         have v6:IntKind.i64.wrap (dk+1)=e6:=by rw [IntKind.wrap_i64]; omega
         have x1:wrap64 (fy+pT)=e1:=by rw [<-v1,IntKind.wrap_i64]; unfold wrap64; rfl
         have x2:wrap64 (e1+bT)=e2:=by rw [<-v2,IntKind.wrap_i64]; unfold wrap64; rfl
         have x3:wrap64 (fy+fh)=e3:=by rw [<-v3,IntKind.wrap_i64]; unfold wrap64; rfl
         have x4:wrap64 (e3 - pB)=e4:=by rw [<-v4,IntKind.wrap_i64]; unfold wrap64; rfl
         have x5:wrap64 (e4 - bB)=e5:=by rw [<-v5,IntKind.wrap_i64]; unfold wrap64; rfl
         have x6:wrap64 (dk+1)=e6:=by rw [<-v6,IntKind.wrap_i64]; unfold wrap64; rfl
         have HBC:=Lib.hid hBC
         have HGS:=Lib.hid (And.intro gS gF)
         have HIX:=Lib.hid (Ints.more (hiK.below ((HBRK.out).trans (hbx.mono (HBRK.out).size))) ((HBRK.out).trans (hbx.mono (HBRK.out).size)).size)
         clear fd fy1 fy2 fh1 fh2 hed hdep he1 he2 he3 he4 he5 he6 gS gF hbx HNT HLAW HST q0 q1 hfr hBV
         go_wp2_with fail
         go_loopw [13,14] (DnA l e6 (fun q=>(ndAt D q).key) kids e5 wc) (fun _ i _=>kids.length - (intOf i).toNat)
         case atStart=>exact ⟨0,e2,Nat.zero_le _,rfl,rfl,hdown,Below.refl _ _⟩
         case round =>
          obtain ⟨j,en,hj,rfl,rfl,hdn,hbj⟩:=hrel
          have hBJ:Below w6.heap.size w6 wr:=HBC.out.trans (hbj.mono HBC.out.size)
          have t22:wr.cell? ⟨PS,24,none⟩=some (.int .i64 pB):=(hbj.cell (p:=⟨PS,24,none⟩) lS).trans s24
          have t28:wr.cell? ⟨PS,28,none⟩=some (.int .i64 bB):=(hbj.cell (p:=⟨PS,28,none⟩) lS).trans s28
          have t2:wr.cell? ⟨PF,2,none⟩=some (.int .i64 dk):=(hbj.cell (p:=⟨PF,2,none⟩) lF).trans f2
          have t4:wr.cell? ⟨PF,4,none⟩=some (.int .i64 fy):=(hbj.cell (p:=⟨PF,4,none⟩) lF).trans f4
          have t6:wr.cell? ⟨PF,6,none⟩=some (.int .i64 fh):=(hbj.cell (p:=⟨PF,6,none⟩) lF).trans f6
          by_cases hjl:j < kids.length
          ·have hzj:(j:Int) < (kids.length:Int):=by omega
           obtain ⟨q,hq⟩:∃ q,kids[j]=q:=⟨_,rfl⟩
           have hqm:q ∈ kids:=by rw [<-hq]; exact List.getElem_mem hjl
           have hqn:q < D.length:=HK.out.2 _ hqm
           have hzq:(q:Int) < (D.length:Int):=by omega
           obtain ⟨xd,⟨xy1,xy2⟩,⟨xh1,xh2⟩⟩:=HH.out.1.frag_in HH.out.2 hqn (HKD0.out q hqm)
           rw [List.drop_eq_getElem_cons hjl,hq] at hdn
           unfold qze at hdn
           split at hdn
           case isFalse=>cases hdn
           rename_i hcond
           obtain ⟨hx1,hx2⟩:=hcond
           try dsimp only at hx1 hx2 hdn
           have hfr:=fun (W:World) (hB:Below wr.heap.size wr W)=>HFR.out W (ndAt D q).key (Shp.In.more (Shp.In.below HD6.out.2 (hBJ.trans (hB.mono hBJ.size))) (hBJ.trans (hB.mono hBJ.size)).size) (Nat.le_of_lt HLL.out)
           have hBV:∀ V:BW wr.heap.size wr,Below w6.heap.size w6 V.val:=fun V=>hBJ.trans (V.ok.mono hBJ.size)
           have q0:∀ V:BW wr.heap.size wr,V.val.cell? ⟨w.heap.size,0,none⟩=some (.slice (some ⟨db,do_,none⟩) D.length c):=fun V=>(g6.below (hBV V) g6.lt).cell 0
           have q1:∀ V:BW wr.heap.size wr,V.val.cell? ⟨db,do_+q * 51,none⟩=some (.int .i64 (ndAt D q).key):=fun V=>((hBV V).cell (p:=⟨db,do_+q * 51,none⟩) hdb).trans (by rw [qxb hqn]; exact hdc q hqn 0 (by decide))
           have hiR:=Ints.more (HIX.out.below hbj) hbj.size
           obtain ⟨_,_,e9,_,hrd⟩:=hiR
           cases e9
           obtain ⟨ad,rfl,hadb,hadc⟩:=Reads.val (zs:=intsN kids) hrd (k:=j) (by rw [intsN_len]; exact hjl)
           have q2:∀ V:BW wr.heap.size wr,V.val.cell? (ad.add j)=some (.int .i64 (q:Int)):=fun V=>((V.ok.cell (p:=ad.add j) (by rw [qac]; exact hadb))).trans (by rw [hadc]; simp [intsN,hq])
           have HDN:=Lib.hid (And.intro hdn (And.intro hx1 hx2))
           have HXB:=Lib.hid (And.intro (And.intro xy1 xy2) (And.intro xh1 xh2))
           have HBJ:=Lib.hid (And.intro hBJ hbj)
           clear hdn hx1 hx2 xd xy1 xy2 xh1 xh2 hq hadc hadb hrd
           go_upto_region 24 with fail
           go_cut [15] (fun a wx=>∃ PX,a=.pointer (some ⟨PX,0,none⟩)/\Blk wx PX 42 (fgC (q7a l (ndAt D q).key)).toArray/\Below wr.heap.size wr wx)
           case first =>
            refine wp_region_noPanic ?_
            refine q5d [12] [0,1,2,3,4,5,6,7,8,9] 3 (fun w'=>∃ V:BW (wr.heap.size) wr,w'=V.val) (by kernel_rfl) (by kernel_rfl) (fun c a d v w h=>by cases d <;> exact h) ⟨⟨wr.drew,(Below.refl _ _).drew⟩,rfl⟩ ?_
            simp only [pickD,List.map_cons,List.map_nil,List.getD_cons_zero,List.getD_cons_succ]
            repeat (go_big_quiet_step (fail))
            refine wpQuiet_nil ?_
            refine qba [10,11] (by kernel_rfl) fun i hi=>?_
            rcases (by simpa using hi:i=10\/i=11) with rfl | rfl
            ·skip
             refine qaa rfl fun K hK=>?_
             go_simp
             go_at_call 25
             refine (hfr _ ((Below.refl wr.heap.size wr).drew)).mono ?_
             rintro e y1 ⟨he,h1⟩
             obtain rfl:=he
             have b1:=((Below.refl wr.heap.size wr).drew).trans (h1.mono ((Below.refl wr.heap.size wr).drew).size)
             refine hK.out _ _ (.inr ⟨⟨_,b1⟩,rfl⟩) ?_
             clear hK K
             try simp only [Act.put,zA,zB,zC]
             refine qba [11] (by kernel_rfl) fun i hi=>?_
             obtain rfl:i=11:=by simpa using hi
             refine qaa rfl fun K hK=>?_
             go_simp
             obtain ⟨y2,e2,h2,gX,zX⟩:=alF (y1)
             change K _ (World.alloc (y1) (Obj.cells (fgC fg0).toArray 42))
             rw [e2]
             clear e2
             have nX:=b1.size
             have b2:=b1.trans (h2.mono b1.size)
             refine hK.out _ _ (.inr ⟨⟨_,b2⟩,rfl⟩) ?_
             clear hK K
             try simp only [Act.put,zA,zB,zC]
             refine qba [12] (by kernel_rfl) fun i hi=>?_
             obtain rfl:i=12:=by simpa using hi
             refine qaa rfl fun K hK=>?_
             refine step_all 42 _ _ rfl (y1.heap.size) (fgC fg0) (fgC (q7a l (ndAt D q).key)) rfl gX rfl rfl q8b (qbe _) ?_
             intro y3 gX k3
             have b3:=b2.trans (k3.to_below b2.size (mem1 nX))
             refine hK.out _ _ (.inl (by decide)) ?_
             clear hK K
             try simp only [Act.put,zA,zB,zC]
             refine qma (by kernel_rfl) ?_
             refine NoPanic.normal ?_
             go_wp2_with fail
             go_meet
             exact ⟨_,rfl,gX,b3⟩
            ·skip
             refine qaa rfl fun K hK=>?_
             go_simp
             obtain ⟨y1,e1,h1,gX,zX⟩:=alF (wr.drew)
             change K _ (World.alloc (wr.drew) (Obj.cells (fgC fg0).toArray 42))
             rw [e1]
             clear e1
             have nX:=((Below.refl wr.heap.size wr).drew).size
             have b1:=((Below.refl wr.heap.size wr).drew).trans (h1.mono ((Below.refl wr.heap.size wr).drew).size)
             refine hK.out _ _ (.inr ⟨⟨_,b1⟩,rfl⟩) ?_
             clear hK K
             try simp only [Act.put,zA,zB,zC]
             refine qba [10] (by kernel_rfl) fun i hi=>?_
             obtain rfl:i=10:=by simpa using hi
             refine qaa rfl fun K hK=>?_
             go_simp
             go_at_call 25
             refine (hfr _ b1).mono ?_
             rintro e y2 ⟨he,h2⟩
             obtain rfl:=he
             have gX:=gX.below h2 gX.lt
             have b2:=b1.trans (h2.mono b1.size)
             refine hK.out _ _ (.inr ⟨⟨_,b2⟩,rfl⟩) ?_
             clear hK K
             try simp only [Act.put,zA,zB,zC]
             refine qba [12] (by kernel_rfl) fun i hi=>?_
             obtain rfl:i=12:=by simpa using hi
             refine qaa rfl fun K hK=>?_
             refine step_all 42 _ _ rfl (wr.drew.heap.size) (fgC fg0) (fgC (q7a l (ndAt D q).key)) rfl gX rfl rfl q8b (qbe _) ?_
             intro y3 gX k3
             have b3:=b2.trans (k3.to_below b2.size (mem1 nX))
             refine hK.out _ _ (.inl (by decide)) ?_
             clear hK K
             try simp only [Act.put,zA,zB,zC]
             refine qma (by kernel_rfl) ?_
             refine NoPanic.normal ?_
             go_wp2_with fail
             go_meet
             exact ⟨_,rfl,gX,b3⟩
           case rest =>
            obtain ⟨PX,rfl,gX,hbx⟩:=hcut
            have p2:wc.cell? ⟨PX,2,none⟩=some (.int .i64 (q7a l (ndAt D q).key).depth):=gX.cell 2
            have p4:wc.cell? ⟨PX,4,none⟩=some (.int .i64 (q7a l (ndAt D q).key).y):=gX.cell 4
            have p6:wc.cell? ⟨PX,6,none⟩=some (.int .i64 (q7a l (ndAt D q).key).h):=gX.cell 6
            have y2:wc.cell? ⟨PF,2,none⟩=some (.int .i64 dk):=(hbx.cell (p:=⟨PF,2,none⟩) (Nat.lt_of_lt_of_le lF HBJ.out.2.size)).trans t2
            obtain ⟨hdn,hx1,hx2⟩:=HDN.out
            obtain ⟨⟨xy1,xy2⟩,⟨xh1,xh2⟩⟩:=HXB.out
            generalize (q7a l (ndAt D q).key).depth=xd at *
            generalize (q7a l (ndAt D q).key).y=xy at *
            generalize (q7a l (ndAt D q).key).h=xh at *
            have hx1:=hx1.symm
            have hx2:=hx2.symm
            subst hx1
            subst hx2
            obtain ⟨e7,he7⟩:∃ e7,en+xh=e7:=⟨_,rfl⟩
            rw [he7] at hdn
            have v7:IntKind.i64.wrap (en+xh)=e7:=by rw [IntKind.wrap_i64]; omega
            have x7:wrap64 (en+xh)=e7:=by rw [<-v7,IntKind.wrap_i64]; unfold wrap64; rfl
            have HDX:=Lib.hid hdn
            clear hdn xy1 xy2 xh1 xh2 he7 gX HDN HXB t2 t4 t6 t22 t28 q0 q1 q2 hfr hBV
            go_wp2_with fail
            go_roundw
            case rel=>exact ⟨j+1,e7,hjl,rfl,by go_num,HDX.out,HBJ.out.2.trans (hbx.mono HBJ.out.2.size)⟩
            case measure=>simp [intOf] <;> omega
          ·obtain rfl:j=kids.length:=by omega
           have hzj:¬ (kids.length:Int) < (kids.length:Int):=by omega
           rw [List.drop_length] at hdn
           have hen:en=e5:=by
            unfold qze at hdn
            injection hdn
           clear hdn
           subst hen
           go_wp2_with fail
           go_roundw
           case rel=>exact ⟨k+1,HLT.out,by go_num,hBJ⟩
           case measure=>simp [intOf] <;> omega
   ·obtain rfl:k=D.length:=by omega
    have hzk:¬ (D.length:Int) < (D.length:Int):=by omega
    go_wp2_with fail
    go_ret
    exact ⟨rfl,HB6.out.trans (hbr.mono HB6.out.size)⟩
end Go.Proofs.YtlnekijhbnlclaaGreatDoor
