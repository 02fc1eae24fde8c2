/-
  Walks: package right: Wrong.
-/
import Derived.Test.YtlnekijhbnlclaaGreatDoorIsLay
namespace Go.Proofs.YtlnekijhbnlclaaGreatDoor
open Go.RowKit Go.Shelf
attribute [local go_sem] Oper.semAt_some
set_option linter.unusedSimpArgs false
set_option linter.unusedVariables false
theorem qhg:∀ (k:Nat) (i:Int) (a b:List Fg),a.take k=b.take k->k<=a.length->k<=b.length->qib i a b=qib (i+k) (a.drop k) (b.drop k)
 | 0,i,a,b,_,_,_=>by simp
 | k+1,i,[],b,_,h,_=>by simp at h
 | k+1,i,x :: l,[],_,_,h=>by simp at h
 | k+1,i,x :: l,y :: m,h,h1,h2=>by
  simp only [List.take_succ_cons,List.cons.injEq] at h
  simp only [List.length_cons] at h1 h2
  obtain ⟨rfl,h⟩:=h
  show (if x=x then qib (i+1) l m else i)=_
  rw [if_pos rfl,qhg k (i+1) l m h (by omega) (by omega),List.drop_succ_cons,List.drop_succ_cons]
  congr 1
  push_cast
  omega
theorem qrs {l fr:List Fg} {k:Nat} (ht:l.take k=fr.take k) (h1:k < l.length) (h2:k < fr.length) {f g:Fg} (hf:f=l[k]) (hg:g=fr[k]) (hd:false=decide (g=f)) :
  (Ending.returned (.tuple #[.int .i64 k,.int .i64 0]))=.returned (.tuple #[.int .i64 (qgd (l,0) fr).1,.int .i64 (qgd (l,0) fr).2]):=by
 have e:qib 0 l fr=(k:Int):=by
  rw [qhg k 0 l fr ht (by omega) (by omega),List.drop_eq_getElem_cons h1,List.drop_eq_getElem_cons h2]
  unfold qib
  rw [if_neg (fun h=>of_decide_eq_false hd.symm (by rw [hf,hg]; exact h.symm))]
  simp
 unfold qgd
 rw [if_neg (by simp)]
 rw [e]
theorem qvo {l fr:List Fg} {k:Nat} (ht:l.take k=fr.take k) (h1:k < l.length) (h2:k < fr.length) {f g:Fg} (hf:f=l[k]) (hg:g=fr[k]) (hd:true=decide (g=f)):l.take (k+1)=fr.take (k+1):=by
 rw [List.take_succ_eq_append_getElem h1,List.take_succ_eq_append_getElem h2,ht,<-hf,<-hg,of_decide_eq_true hd.symm]
section
variable {P:Program} {op:Oper} {a:Act} {w:World} {K:Act->World->Prop} {Q:Exit->Act->World->Prop}
theorem q2c (t t':TypeId) (x y:Operand) (ho:op.op=.binOp .neq t x y t') (xs ys:Array Value) (hx:a.eval x=.agg xs) (hy:a.eval y=.agg ys) (hg:P.eqGuardType P.depth t=false) (r:Bool) (hr:(Op.equal t (.agg xs) (.agg ys)).run P w=.ok r w)
  (h:K (a.put op.dst (.bool (!r))) w):op.wp P a w K Q:=by
 have hE:(eqGuard .neq t x y (.agg xs) (.agg ys)).run P w=.ok () w:=by simp [eqGuard,hg]
 have hB:(binOp .neq t (.agg xs) (.agg ys)).run P w=.ok (.bool (!r)) w:=by simp [binOp,hr]
 unfold Oper.wp execOp
 simp only [ho,hx,hy,Sem.run_bind,Sem.run_pure,hE,hB,Result.andThen_ok]
 exact h
end
def WrA (w0:World) (B:Nat) (lv:Value) (l fr:List Fg) (i:Value) (wr:World):Prop :=
 ∃ k:Nat,k<=l.length/\i=.int .i64 k/\k<=fr.length/\l.take k=fr.take k/\Below w0.heap.size w0 wr/\(shFg YT.frag).In wr B lv l/\B<=wr.heap.size
set_option maxRecDepth 100000 in
set_option maxHeartbeats 20000000 in
theorem qts (r:List Fg×Int) (fr:List Fg) (dv fv:Value) (next x:Int) (w:World) (hf:(shFg YT.frag).In w w.heap.size fv fr) (hfl:fr.length<=1000000000) (hrl:r.1.length<=1000000000) (hwr:∀ f ∈ r.1,(fgC f).all wfC=true) (hwf:∀ f ∈ fr,(fgC f).all wfC=true)
  (hlay:∀ W,Below w.heap.size w W->Calls Tryz.prog 14 #[docA dv next,.int .i64 x] W (LaidP r W)) :
  Calls Tryz.prog 21 #[docA dv next,.int .i64 x,fv] w (WroP (qgd r fr).1 (qgd r fr).2 w):=by
 unfold docA at hlay ⊢
 have HF:=Lib.hid hf
 obtain ⟨FA,fc,rfl,hfc,hfR⟩:=hf
 clear hfR
 obtain ⟨l,er⟩:=r
 simp only at hrl hwr
 go_enter Tryz.func21,Tryz.ntmps21
 have hb1:Below w.heap.size w (w.alloc (.cells #[dv,.int .i64 next] 24)):=(Below.refl _ _).alloc (Nat.le_refl _) _
 have hl1:=hlay _ hb1
 unfold LaidP at hl1
 have HW:=Lib.hid (And.intro hwr hwf)
 clear hlay hwr hwf
 by_cases h0:er=0
 case neg =>
  go_wp2_with (go_at_call 14; refine hl1.mono ?_; rintro e w2 ⟨hb2,v,he,ho⟩; obtain rfl:=he)
  go_ret2
  exact ⟨hb1.trans (hb2.mono hb1.size),by unfold qgd; rw [if_pos h0]; rfl⟩
 subst h0
 go_wp2_with (go_at_call 14; refine hl1.mono ?_; rintro e w2 ⟨hb2,v,he,ho⟩; obtain rfl:=he; have hI:=ho.in_; obtain ⟨A,c,rfl,hc,hR⟩:=hI)
 have hB2:Below w.heap.size w w2:=hb1.trans (hb2.mono hb1.size)
 have HIN:=Lib.hid (show (shFg YT.frag).In w2 w2.heap.size (.slice A l.length c) l from ⟨A,c,rfl,hc,hR⟩)
 clear hl1 ho hR
 go_loopw [23] (WrA w w2.heap.size (.slice A l.length c) l fr) (fun i _=>l.length - (intOf i).toNat)
 case atStart=>exact ⟨0,Nat.zero_le _,rfl,Nat.zero_le _,rfl,hB2,HIN.out,Nat.le_refl _⟩
 case round =>
  obtain ⟨k,hk,rfl,hkf,htk,hbr,hin,hsz⟩:=hrel
  have HT:=Lib.hid htk
  clear htk
  rcases Nat.lt_or_ge k l.length with hlt | hge
  ·have hz:(k:Int) < (l.length:Int):=by omega
   obtain ⟨b,o,rfl,hbB,hcell⟩:=Shp.In.at_ hin (by decide) (by omega)
   have hrt:wr.rangeAt b (o+k * 8) (fgC l[k]):=fun j v hv=>by
    have hk8:j < 8:=(List.getElem?_eq_some_iff.1 hv).1
    rw [<-hv,Nat.add_assoc]
    exact hcell k hlt j hk8
   obtain ⟨f0,hf0⟩:∃ f0,f0=l[k]:=⟨_,rfl⟩
   rw [<-hf0] at hrt
   have HF0:=Lib.hid hf0
   have HRT:=Lib.hid hrt
   clear hf0 hrt hcell
   go_upto_region 7 with (first | (refine wpList_load_mid rfl 42 _ rfl b (o+k * 8) rfl (fgC f0) _ HRT.out Tryz.underlying42 rfl q8b ?_) | (refine qxa rfl 42 _ _ rfl wr.heap.size 42 (fgC ⟨0,0,0,0,0,0,0,ByteArray.empty⟩) (fgC f0) rfl (Blk.new wr _ _) rfl rfl q8b (qbe f0) ?_; intro w5 r5 k5 z5; simp only [Act.put]))
   have kr5:Kept [] wr w5:=((Kept.refl [] wr).alloc _).fresh k5 (by simp)
   have HB5:=Lib.hid (show Below w.heap.size w w5 from hbr.trans (kr5.to_below (by have:=hbr.size; omega) (by simp)))
   rcases Nat.lt_or_ge k fr.length with hkl | hkl
   ·have hkz:(k:Int)≠(fr.length:Int):=by omega
    have hkb:((k:Int) == (fr.length:Int))=false:=beq_false_of_ne hkz
    obtain ⟨b2,o2,rfl,hb2B,hcell2⟩:=Shp.In.at_ HF.out (by decide) (by omega)
    have hc2:∀ j,j < 8->w5.drew.cell? ⟨b2,o2+k * 8+j,none⟩=(fgC fr[k])[j]?:=fun j hj=>by
     rw [Nat.add_assoc]
     exact ((HB5.out.drew).cell (p:=⟨b2,o2+(k * 8+j),none⟩) hb2B).trans (hcell2 k hkl j hj)
    have hc5:∀ j,j < 8->w5.drew.cell? ⟨wr.heap.size,j,none⟩=(fgC f0)[j]?:=fun j _=>by
     have h:=r5.drew.cell j
     simpa using h
    have hq1:(fgC f0).all wfC=true:=HW.out.1 f0 (by rw [HF0.out]; exact List.getElem_mem _)
    have hq2:(fgC fr[k]).all wfC=true:=HW.out.2 _ (List.getElem_mem _)
    have heq:=fun W=>qhu hq2 hq1 W
    obtain ⟨g0,hg0⟩:∃ g0,g0=fr[k]:=⟨_,rfl⟩
    rw [<-hg0] at hc2 heq
    have HG0:=Lib.hid (And.intro hg0 (And.intro hq1 hq2))
    clear hg0 hq1 hq2 hcell2
    have p0:w5.drew.cell? ⟨b2,o2+k * 8,none⟩=(fgC g0)[0]?:=hc2 0 (by decide)
    have s0:=hc5 0 (by decide)
    have p1:=hc2 1 (by decide)
    have s1:=hc5 1 (by decide)
    have p2:=hc2 2 (by decide)
    have s2:=hc5 2 (by decide)
    have p3:=hc2 3 (by decide)
    have s3:=hc5 3 (by decide)
    have p4:=hc2 4 (by decide)
    have s4:=hc5 4 (by decide)
    have p5:=hc2 5 (by decide)
    have s5:=hc5 5 (by decide)
    have p6:=hc2 6 (by decide)
    have s6:=hc5 6 (by decide)
    have p7:=hc2 7 (by decide)
    have s7:=hc5 7 (by decide)
    obtain ⟨a1,a2,a3,a4,a5,a6,a7,at_⟩:=f0
    obtain ⟨g1,g2,g3,g4,g5,g6,g7,gt⟩:=g0
    simp only [fgC,List.getElem?_cons_zero,List.getElem?_cons_succ] at p0 p1 p2 p3 p4 p5 p6 p7 s0 s1 s2 s3 s4 s5 s6 s7 heq
    clear hc2 hc5
    obtain ⟨bq,hbq⟩:∃ bq,bq=decide ((⟨g1,g2,g3,g4,g5,g6,g7,gt⟩:Fg)=⟨a1,a2,a3,a4,a5,a6,a7,at_⟩):=⟨_,rfl⟩
    rw [<-hbq] at heq
    have HBQ:=Lib.hid hbq
    clear hbq
    go_cut [39] (fun q wx=>q=.bool (!bq)/\wx=w5.drew)
    case first =>
     refine wp_region_noPanic ?_
     refine q5d [11] [0,1] 10 (fun w'=>∃ V:KW [] w5,w'=V.val) (by kernel_rfl) (by kernel_rfl) (fun c a d v w h=>by cases d <;> exact h) ⟨⟨w5.drew,(Kept.refl _ _).drew⟩,rfl⟩ ?_
     simp only [pickD,List.map_cons,List.map_nil,List.getD_cons_zero,List.getD_cons_succ]
     repeat (go_big_quiet_step (fail))
     refine wpQuiet_nil ?_
     refine qba [2] (by kernel_rfl) fun i hi=>?_
     obtain rfl:i=2:=by simpa using hi
     refine qaa rfl fun K hK=>?_
     go_simp
     refine hK.out _ _ (.inr ⟨⟨_,(Kept.refl _ _).drew⟩,rfl⟩) ?_
     clear hK K
     try simp only [Act.put,zA,zB,zC]
     refine qba [3] (by kernel_rfl) fun i hi=>?_
     obtain rfl:i=3:=by simpa using hi
     refine qaa rfl fun K hK=>?_
     go_simp
     refine hK.out _ _ (.inr ⟨⟨_,(Kept.refl _ _).drew⟩,rfl⟩) ?_
     clear hK K
     try simp only [Act.put,zA,zB,zC]
     refine qba [4] (by kernel_rfl) fun i hi=>?_
     obtain rfl:i=4:=by simpa using hi
     refine qaa rfl fun K hK=>?_
     go_simp
     refine hK.out _ _ (.inr ⟨⟨_,(Kept.refl _ _).drew⟩,rfl⟩) ?_
     clear hK K
     try simp only [Act.put,zA,zB,zC]
     refine qba [5,6,9] (by kernel_rfl) fun i hi=>?_
     rcases (by simpa using hi:i=5\/i=6\/i=9) with rfl | rfl | rfl
     ·skip
      refine qaa rfl fun K hK=>?_
      go_simp
      refine hK.out _ _ (.inr ⟨⟨_,(Kept.refl _ _).drew⟩,rfl⟩) ?_
      clear hK K
      try simp only [Act.put,zA,zB,zC]
      refine qba [6,9] (by kernel_rfl) fun i hi=>?_
      rcases (by simpa using hi:i=6\/i=9) with rfl | rfl
      ·skip
       refine qaa rfl fun K hK=>?_
       go_simp
       refine hK.out _ _ (.inr ⟨⟨_,(Kept.refl _ _).drew⟩,rfl⟩) ?_
       clear hK K
       try simp only [Act.put,zA,zB,zC]
       refine qba [7,9] (by kernel_rfl) fun i hi=>?_
       rcases (by simpa using hi:i=7\/i=9) with rfl | rfl
       ·skip
        refine qaa rfl fun K hK=>?_
        go_simp
        refine hK.out _ _ (.inr ⟨⟨_,(Kept.refl _ _).drew⟩,rfl⟩) ?_
        clear hK K
        try simp only [Act.put,zA,zB,zC]
        refine qba [8,9] (by kernel_rfl) fun i hi=>?_
        rcases (by simpa using hi:i=8\/i=9) with rfl | rfl
        ·skip
         refine qaa rfl fun K hK=>?_
         go_simp
         refine hK.out _ _ (.inr ⟨⟨_,(Kept.refl _ _).drew⟩,rfl⟩) ?_
         clear hK K
         try simp only [Act.put,zA,zB,zC]
         refine qba [9] (by kernel_rfl) fun i hi=>?_
         obtain rfl:i=9:=by simpa using hi
         refine qaa rfl fun K hK=>?_
         go_simp
         refine hK.out _ _ (.inr ⟨⟨_,(Kept.refl _ _).drew⟩,rfl⟩) ?_
         clear hK K
         try simp only [Act.put,zA,zB,zC]
         refine qba [10] (by kernel_rfl) fun i hi=>?_
         obtain rfl:i=10:=by simpa using hi
         refine qaa rfl fun K hK=>?_
         rw [if_pos (by rfl)]
         refine q2c _ _ _ _ rfl _ _ rfl rfl (by kernel_rfl) _ (heq _) ?_
         simp only [Act.put,zA,zB,zC]
         refine hK.out _ _ (.inr ⟨⟨_,(Kept.refl _ _).drew⟩,rfl⟩) ?_
         clear hK K
         try simp only [Act.put,zA,zB,zC]
         refine qba [11] (by kernel_rfl) fun i hi=>?_
         obtain rfl:i=11:=by simpa using hi
         refine qaa rfl fun K hK=>?_
         go_simp
         refine hK.out _ _ (.inl (by decide)) ?_
         clear hK K
         try simp only [Act.put,zA,zB,zC]
         refine qma (by kernel_rfl) ?_
         refine NoPanic.normal ?_
         go_wp2_with fail
         go_meet
         exact ⟨rfl,rfl⟩
        ·skip
         refine qaa rfl fun K hK=>?_
         go_simp
         refine hK.out _ _ (.inr ⟨⟨_,(Kept.refl _ _).drew⟩,rfl⟩) ?_
         clear hK K
         try simp only [Act.put,zA,zB,zC]
         refine qba [8] (by kernel_rfl) fun i hi=>?_
         obtain rfl:i=8:=by simpa using hi
         refine qaa rfl fun K hK=>?_
         go_simp
         refine hK.out _ _ (.inr ⟨⟨_,(Kept.refl _ _).drew⟩,rfl⟩) ?_
         clear hK K
         try simp only [Act.put,zA,zB,zC]
         refine qba [10] (by kernel_rfl) fun i hi=>?_
         obtain rfl:i=10:=by simpa using hi
         refine qaa rfl fun K hK=>?_
         rw [if_pos (by rfl)]
         refine q2c _ _ _ _ rfl _ _ rfl rfl (by kernel_rfl) _ (heq _) ?_
         simp only [Act.put,zA,zB,zC]
         refine hK.out _ _ (.inr ⟨⟨_,(Kept.refl _ _).drew⟩,rfl⟩) ?_
         clear hK K
         try simp only [Act.put,zA,zB,zC]
         refine qba [11] (by kernel_rfl) fun i hi=>?_
         obtain rfl:i=11:=by simpa using hi
         refine qaa rfl fun K hK=>?_
         go_simp
         refine hK.out _ _ (.inl (by decide)) ?_
         clear hK K
         try simp only [Act.put,zA,zB,zC]
         refine qma (by kernel_rfl) ?_
         refine NoPanic.normal ?_
         go_wp2_with fail
         go_meet
         exact ⟨rfl,rfl⟩
       ·skip
        refine qaa rfl fun K hK=>?_
        go_simp
        refine hK.out _ _ (.inr ⟨⟨_,(Kept.refl _ _).drew⟩,rfl⟩) ?_
        clear hK K
        try simp only [Act.put,zA,zB,zC]
        refine qba [7] (by kernel_rfl) fun i hi=>?_
        obtain rfl:i=7:=by simpa using hi
        refine qaa rfl fun K hK=>?_
        go_simp
        refine hK.out _ _ (.inr ⟨⟨_,(Kept.refl _ _).drew⟩,rfl⟩) ?_
        clear hK K
        try simp only [Act.put,zA,zB,zC]
        refine qba [8] (by kernel_rfl) fun i hi=>?_
        obtain rfl:i=8:=by simpa using hi
        refine qaa rfl fun K hK=>?_
        go_simp
        refine hK.out _ _ (.inr ⟨⟨_,(Kept.refl _ _).drew⟩,rfl⟩) ?_
        clear hK K
        try simp only [Act.put,zA,zB,zC]
        refine qba [10] (by kernel_rfl) fun i hi=>?_
        obtain rfl:i=10:=by simpa using hi
        refine qaa rfl fun K hK=>?_
        rw [if_pos (by rfl)]
        refine q2c _ _ _ _ rfl _ _ rfl rfl (by kernel_rfl) _ (heq _) ?_
        simp only [Act.put,zA,zB,zC]
        refine hK.out _ _ (.inr ⟨⟨_,(Kept.refl _ _).drew⟩,rfl⟩) ?_
        clear hK K
        try simp only [Act.put,zA,zB,zC]
        refine qba [11] (by kernel_rfl) fun i hi=>?_
        obtain rfl:i=11:=by simpa using hi
        refine qaa rfl fun K hK=>?_
        go_simp
        refine hK.out _ _ (.inl (by decide)) ?_
        clear hK K
        try simp only [Act.put,zA,zB,zC]
        refine qma (by kernel_rfl) ?_
        refine NoPanic.normal ?_
        go_wp2_with fail
        go_meet
        exact ⟨rfl,rfl⟩
      ·skip
       refine qaa rfl fun K hK=>?_
       go_simp
       refine hK.out _ _ (.inr ⟨⟨_,(Kept.refl _ _).drew⟩,rfl⟩) ?_
       clear hK K
       try simp only [Act.put,zA,zB,zC]
       refine qba [6] (by kernel_rfl) fun i hi=>?_
       obtain rfl:i=6:=by simpa using hi
       refine qaa rfl fun K hK=>?_
       go_simp
       refine hK.out _ _ (.inr ⟨⟨_,(Kept.refl _ _).drew⟩,rfl⟩) ?_
       clear hK K
       try simp only [Act.put,zA,zB,zC]
       refine qba [7] (by kernel_rfl) fun i hi=>?_
       obtain rfl:i=7:=by simpa using hi
       refine qaa rfl fun K hK=>?_
       go_simp
       refine hK.out _ _ (.inr ⟨⟨_,(Kept.refl _ _).drew⟩,rfl⟩) ?_
       clear hK K
       try simp only [Act.put,zA,zB,zC]
       refine qba [8] (by kernel_rfl) fun i hi=>?_
       obtain rfl:i=8:=by simpa using hi
       refine qaa rfl fun K hK=>?_
       go_simp
       refine hK.out _ _ (.inr ⟨⟨_,(Kept.refl _ _).drew⟩,rfl⟩) ?_
       clear hK K
       try simp only [Act.put,zA,zB,zC]
       refine qba [10] (by kernel_rfl) fun i hi=>?_
       obtain rfl:i=10:=by simpa using hi
       refine qaa rfl fun K hK=>?_
       rw [if_pos (by rfl)]
       refine q2c _ _ _ _ rfl _ _ rfl rfl (by kernel_rfl) _ (heq _) ?_
       simp only [Act.put,zA,zB,zC]
       refine hK.out _ _ (.inr ⟨⟨_,(Kept.refl _ _).drew⟩,rfl⟩) ?_
       clear hK K
       try simp only [Act.put,zA,zB,zC]
       refine qba [11] (by kernel_rfl) fun i hi=>?_
       obtain rfl:i=11:=by simpa using hi
       refine qaa rfl fun K hK=>?_
       go_simp
       refine hK.out _ _ (.inl (by decide)) ?_
       clear hK K
       try simp only [Act.put,zA,zB,zC]
       refine qma (by kernel_rfl) ?_
       refine NoPanic.normal ?_
       go_wp2_with fail
       go_meet
       exact ⟨rfl,rfl⟩
     ·skip
      refine qaa rfl fun K hK=>?_
      go_simp
      refine hK.out _ _ (.inr ⟨⟨_,(Kept.refl _ _).drew⟩,rfl⟩) ?_
      clear hK K
      try simp only [Act.put,zA,zB,zC]
      refine qba [5,9] (by kernel_rfl) fun i hi=>?_
      rcases (by simpa using hi:i=5\/i=9) with rfl | rfl
      ·skip
       refine qaa rfl fun K hK=>?_
       go_simp
       refine hK.out _ _ (.inr ⟨⟨_,(Kept.refl _ _).drew⟩,rfl⟩) ?_
       clear hK K
       try simp only [Act.put,zA,zB,zC]
       refine qba [7,9] (by kernel_rfl) fun i hi=>?_
       rcases (by simpa using hi:i=7\/i=9) with rfl | rfl
       ·skip
        refine qaa rfl fun K hK=>?_
        go_simp
        refine hK.out _ _ (.inr ⟨⟨_,(Kept.refl _ _).drew⟩,rfl⟩) ?_
        clear hK K
        try simp only [Act.put,zA,zB,zC]
        refine qba [8,9] (by kernel_rfl) fun i hi=>?_
        rcases (by simpa using hi:i=8\/i=9) with rfl | rfl
        ·skip
         refine qaa rfl fun K hK=>?_
         go_simp
         refine hK.out _ _ (.inr ⟨⟨_,(Kept.refl _ _).drew⟩,rfl⟩) ?_
         clear hK K
         try simp only [Act.put,zA,zB,zC]
         refine qba [9] (by kernel_rfl) fun i hi=>?_
         obtain rfl:i=9:=by simpa using hi
         refine qaa rfl fun K hK=>?_
         go_simp
         refine hK.out _ _ (.inr ⟨⟨_,(Kept.refl _ _).drew⟩,rfl⟩) ?_
         clear hK K
         try simp only [Act.put,zA,zB,zC]
         refine qba [10] (by kernel_rfl) fun i hi=>?_
         obtain rfl:i=10:=by simpa using hi
         refine qaa rfl fun K hK=>?_
         rw [if_pos (by rfl)]
         refine q2c _ _ _ _ rfl _ _ rfl rfl (by kernel_rfl) _ (heq _) ?_
         simp only [Act.put,zA,zB,zC]
         refine hK.out _ _ (.inr ⟨⟨_,(Kept.refl _ _).drew⟩,rfl⟩) ?_
         clear hK K
         try simp only [Act.put,zA,zB,zC]
         refine qba [11] (by kernel_rfl) fun i hi=>?_
         obtain rfl:i=11:=by simpa using hi
         refine qaa rfl fun K hK=>?_
         go_simp
         refine hK.out _ _ (.inl (by decide)) ?_
         clear hK K
         try simp only [Act.put,zA,zB,zC]
         refine qma (by kernel_rfl) ?_
         refine NoPanic.normal ?_
         go_wp2_with fail
         go_meet
         exact ⟨rfl,rfl⟩
        ·skip
         refine qaa rfl fun K hK=>?_
         go_simp
         refine hK.out _ _ (.inr ⟨⟨_,(Kept.refl _ _).drew⟩,rfl⟩) ?_
         clear hK K
         try simp only [Act.put,zA,zB,zC]
         refine qba [8] (by kernel_rfl) fun i hi=>?_
         obtain rfl:i=8:=by simpa using hi
         refine qaa rfl fun K hK=>?_
         go_simp
         refine hK.out _ _ (.inr ⟨⟨_,(Kept.refl _ _).drew⟩,rfl⟩) ?_
         clear hK K
         try simp only [Act.put,zA,zB,zC]
         refine qba [10] (by kernel_rfl) fun i hi=>?_
         obtain rfl:i=10:=by simpa using hi
         refine qaa rfl fun K hK=>?_
         rw [if_pos (by rfl)]
         refine q2c _ _ _ _ rfl _ _ rfl rfl (by kernel_rfl) _ (heq _) ?_
         simp only [Act.put,zA,zB,zC]
         refine hK.out _ _ (.inr ⟨⟨_,(Kept.refl _ _).drew⟩,rfl⟩) ?_
         clear hK K
         try simp only [Act.put,zA,zB,zC]
         refine qba [11] (by kernel_rfl) fun i hi=>?_
         obtain rfl:i=11:=by simpa using hi
         refine qaa rfl fun K hK=>?_
         go_simp
         refine hK.out _ _ (.inl (by decide)) ?_
         clear hK K
         try simp only [Act.put,zA,zB,zC]
         refine qma (by kernel_rfl) ?_
         refine NoPanic.normal ?_
         go_wp2_with fail
         go_meet
         exact ⟨rfl,rfl⟩
       ·skip
        refine qaa rfl fun K hK=>?_
        go_simp
        refine hK.out _ _ (.inr ⟨⟨_,(Kept.refl _ _).drew⟩,rfl⟩) ?_
        clear hK K
        try simp only [Act.put,zA,zB,zC]
        refine qba [7] (by kernel_rfl) fun i hi=>?_
        obtain rfl:i=7:=by simpa using hi
        refine qaa rfl fun K hK=>?_
        go_simp
        refine hK.out _ _ (.inr ⟨⟨_,(Kept.refl _ _).drew⟩,rfl⟩) ?_
        clear hK K
        try simp only [Act.put,zA,zB,zC]
        refine qba [8] (by kernel_rfl) fun i hi=>?_
        obtain rfl:i=8:=by simpa using hi
        refine qaa rfl fun K hK=>?_
        go_simp
        refine hK.out _ _ (.inr ⟨⟨_,(Kept.refl _ _).drew⟩,rfl⟩) ?_
        clear hK K
        try simp only [Act.put,zA,zB,zC]
        refine qba [10] (by kernel_rfl) fun i hi=>?_
        obtain rfl:i=10:=by simpa using hi
        refine qaa rfl fun K hK=>?_
        rw [if_pos (by rfl)]
        refine q2c _ _ _ _ rfl _ _ rfl rfl (by kernel_rfl) _ (heq _) ?_
        simp only [Act.put,zA,zB,zC]
        refine hK.out _ _ (.inr ⟨⟨_,(Kept.refl _ _).drew⟩,rfl⟩) ?_
        clear hK K
        try simp only [Act.put,zA,zB,zC]
        refine qba [11] (by kernel_rfl) fun i hi=>?_
        obtain rfl:i=11:=by simpa using hi
        refine qaa rfl fun K hK=>?_
        go_simp
        refine hK.out _ _ (.inl (by decide)) ?_
        clear hK K
        try simp only [Act.put,zA,zB,zC]
        refine qma (by kernel_rfl) ?_
        refine NoPanic.normal ?_
        go_wp2_with fail
        go_meet
        exact ⟨rfl,rfl⟩
      ·skip
       refine qaa rfl fun K hK=>?_
       go_simp
       refine hK.out _ _ (.inr ⟨⟨_,(Kept.refl _ _).drew⟩,rfl⟩) ?_
       clear hK K
       try simp only [Act.put,zA,zB,zC]
       refine qba [5] (by kernel_rfl) fun i hi=>?_
       obtain rfl:i=5:=by simpa using hi
       refine qaa rfl fun K hK=>?_
       go_simp
       refine hK.out _ _ (.inr ⟨⟨_,(Kept.refl _ _).drew⟩,rfl⟩) ?_
       clear hK K
       try simp only [Act.put,zA,zB,zC]
       refine qba [7] (by kernel_rfl) fun i hi=>?_
       obtain rfl:i=7:=by simpa using hi
       refine qaa rfl fun K hK=>?_
       go_simp
       refine hK.out _ _ (.inr ⟨⟨_,(Kept.refl _ _).drew⟩,rfl⟩) ?_
       clear hK K
       try simp only [Act.put,zA,zB,zC]
       refine qba [8] (by kernel_rfl) fun i hi=>?_
       obtain rfl:i=8:=by simpa using hi
       refine qaa rfl fun K hK=>?_
       go_simp
       refine hK.out _ _ (.inr ⟨⟨_,(Kept.refl _ _).drew⟩,rfl⟩) ?_
       clear hK K
       try simp only [Act.put,zA,zB,zC]
       refine qba [10] (by kernel_rfl) fun i hi=>?_
       obtain rfl:i=10:=by simpa using hi
       refine qaa rfl fun K hK=>?_
       rw [if_pos (by rfl)]
       refine q2c _ _ _ _ rfl _ _ rfl rfl (by kernel_rfl) _ (heq _) ?_
       simp only [Act.put,zA,zB,zC]
       refine hK.out _ _ (.inr ⟨⟨_,(Kept.refl _ _).drew⟩,rfl⟩) ?_
       clear hK K
       try simp only [Act.put,zA,zB,zC]
       refine qba [11] (by kernel_rfl) fun i hi=>?_
       obtain rfl:i=11:=by simpa using hi
       refine qaa rfl fun K hK=>?_
       go_simp
       refine hK.out _ _ (.inl (by decide)) ?_
       clear hK K
       try simp only [Act.put,zA,zB,zC]
       refine qma (by kernel_rfl) ?_
       refine NoPanic.normal ?_
       go_wp2_with fail
       go_meet
       exact ⟨rfl,rfl⟩
     ·skip
      refine qaa rfl fun K hK=>?_
      go_simp
      refine hK.out _ _ (.inr ⟨⟨_,(Kept.refl _ _).drew⟩,rfl⟩) ?_
      clear hK K
      try simp only [Act.put,zA,zB,zC]
      refine qba [5,6] (by kernel_rfl) fun i hi=>?_
      rcases (by simpa using hi:i=5\/i=6) with rfl | rfl
      ·skip
       refine qaa rfl fun K hK=>?_
       go_simp
       refine hK.out _ _ (.inr ⟨⟨_,(Kept.refl _ _).drew⟩,rfl⟩) ?_
       clear hK K
       try simp only [Act.put,zA,zB,zC]
       refine qba [6] (by kernel_rfl) fun i hi=>?_
       obtain rfl:i=6:=by simpa using hi
       refine qaa rfl fun K hK=>?_
       go_simp
       refine hK.out _ _ (.inr ⟨⟨_,(Kept.refl _ _).drew⟩,rfl⟩) ?_
       clear hK K
       try simp only [Act.put,zA,zB,zC]
       refine qba [7] (by kernel_rfl) fun i hi=>?_
       obtain rfl:i=7:=by simpa using hi
       refine qaa rfl fun K hK=>?_
       go_simp
       refine hK.out _ _ (.inr ⟨⟨_,(Kept.refl _ _).drew⟩,rfl⟩) ?_
       clear hK K
       try simp only [Act.put,zA,zB,zC]
       refine qba [8] (by kernel_rfl) fun i hi=>?_
       obtain rfl:i=8:=by simpa using hi
       refine qaa rfl fun K hK=>?_
       go_simp
       refine hK.out _ _ (.inr ⟨⟨_,(Kept.refl _ _).drew⟩,rfl⟩) ?_
       clear hK K
       try simp only [Act.put,zA,zB,zC]
       refine qba [10] (by kernel_rfl) fun i hi=>?_
       obtain rfl:i=10:=by simpa using hi
       refine qaa rfl fun K hK=>?_
       rw [if_pos (by rfl)]
       refine q2c _ _ _ _ rfl _ _ rfl rfl (by kernel_rfl) _ (heq _) ?_
       simp only [Act.put,zA,zB,zC]
       refine hK.out _ _ (.inr ⟨⟨_,(Kept.refl _ _).drew⟩,rfl⟩) ?_
       clear hK K
       try simp only [Act.put,zA,zB,zC]
       refine qba [11] (by kernel_rfl) fun i hi=>?_
       obtain rfl:i=11:=by simpa using hi
       refine qaa rfl fun K hK=>?_
       go_simp
       refine hK.out _ _ (.inl (by decide)) ?_
       clear hK K
       try simp only [Act.put,zA,zB,zC]
       refine qma (by kernel_rfl) ?_
       refine NoPanic.normal ?_
       go_wp2_with fail
       go_meet
       exact ⟨rfl,rfl⟩
      ·skip
       refine qaa rfl fun K hK=>?_
       go_simp
       refine hK.out _ _ (.inr ⟨⟨_,(Kept.refl _ _).drew⟩,rfl⟩) ?_
       clear hK K
       try simp only [Act.put,zA,zB,zC]
       refine qba [5] (by kernel_rfl) fun i hi=>?_
       obtain rfl:i=5:=by simpa using hi
       refine qaa rfl fun K hK=>?_
       go_simp
       refine hK.out _ _ (.inr ⟨⟨_,(Kept.refl _ _).drew⟩,rfl⟩) ?_
       clear hK K
       try simp only [Act.put,zA,zB,zC]
       refine qba [7] (by kernel_rfl) fun i hi=>?_
       obtain rfl:i=7:=by simpa using hi
       refine qaa rfl fun K hK=>?_
       go_simp
       refine hK.out _ _ (.inr ⟨⟨_,(Kept.refl _ _).drew⟩,rfl⟩) ?_
       clear hK K
       try simp only [Act.put,zA,zB,zC]
       refine qba [8] (by kernel_rfl) fun i hi=>?_
       obtain rfl:i=8:=by simpa using hi
       refine qaa rfl fun K hK=>?_
       go_simp
       refine hK.out _ _ (.inr ⟨⟨_,(Kept.refl _ _).drew⟩,rfl⟩) ?_
       clear hK K
       try simp only [Act.put,zA,zB,zC]
       refine qba [10] (by kernel_rfl) fun i hi=>?_
       obtain rfl:i=10:=by simpa using hi
       refine qaa rfl fun K hK=>?_
       rw [if_pos (by rfl)]
       refine q2c _ _ _ _ rfl _ _ rfl rfl (by kernel_rfl) _ (heq _) ?_
       simp only [Act.put,zA,zB,zC]
       refine hK.out _ _ (.inr ⟨⟨_,(Kept.refl _ _).drew⟩,rfl⟩) ?_
       clear hK K
       try simp only [Act.put,zA,zB,zC]
       refine qba [11] (by kernel_rfl) fun i hi=>?_
       obtain rfl:i=11:=by simpa using hi
       refine qaa rfl fun K hK=>?_
       go_simp
       refine hK.out _ _ (.inl (by decide)) ?_
       clear hK K
       try simp only [Act.put,zA,zB,zC]
       refine qma (by kernel_rfl) ?_
       refine NoPanic.normal ?_
       go_wp2_with fail
       go_meet
       exact ⟨rfl,rfl⟩
    case rest =>
     obtain ⟨rfl,rfl⟩:=hcut
     cases bq with
     | false =>
      go_wp2_with fail
      go_ret2
      exact ⟨HB5.out.drew,qrs HT.out hlt hkl HF0.out HG0.out.1 HBQ.out⟩
     | true =>
      go_wp2_with fail
      go_roundw
      case rel=>exact ⟨k+1,hlt,by go_num,hkl,qvo HT.out hlt hkl HF0.out HG0.out.1 HBQ.out,HB5.out.drew,hin.below (kr5.drew.to_below hsz (by simp)),Nat.le_trans hsz kr5.size⟩
      case measure=>simp [intOf] <;> omega
   ·obtain rfl:k=fr.length:=by omega
    have e:qib 0 l fr=(fr.length:Int):=by
     rw [qhg fr.length 0 l fr HT.out (by omega) (Nat.le_refl _),List.drop_length,List.drop_eq_getElem_cons hlt]
     simp [qib]
    have HE:=Lib.hid e
    clear e
    go_quiet (fail)
    go_wp2_with fail
    go_ret2
    exact ⟨qzc HB5.out _,by unfold qgd; rw [if_neg (by simp)]; rw [HE.out]; rfl⟩
  ·obtain rfl:k=l.length:=by omega
   have hz:¬ (l.length:Int) < (l.length:Int):=by omega
   have hW:=qhg l.length 0 l fr HT.out (Nat.le_refl _) hkf
   rw [List.drop_length] at hW
   have HWF:=Lib.hid hW
   clear hW
   by_cases hg:l.length < fr.length
   ·have hgz:(l.length:Int) < (fr.length:Int):=by omega
    go_wp2_with fail
    go_ret2
    refine ⟨hbr,?_⟩
    have e:qib 0 l fr=(l.length:Int):=by
     rw [HWF.out,List.drop_eq_getElem_cons hg]
     simp [qib]
    unfold qgd
    rw [if_neg (by simp)]
    rw [e]
    rfl
   ·have hgz:¬ (l.length:Int) < (fr.length:Int):=by omega
    go_wp2_with fail
    go_ret2
    refine ⟨hbr,?_⟩
    have e:qib 0 l fr=-1:=by
     rw [HWF.out,List.drop_eq_nil_of_le (by omega)]
     rfl
    unfold qgd
    rw [if_neg (by simp)]
    rw [e]
    rfl
end Go.Proofs.YtlnekijhbnlclaaGreatDoor
