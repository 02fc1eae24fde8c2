/-
  Walks: windowpanelaw19.plain.
-/
import Derived.Test.YtlnekijhbnlclaaGreatDoorPlainP
namespace Go.Proofs.YtlnekijhbnlclaaGreatDoor
open Go.RowKit Go.Shelf
attribute [local go_sem] Oper.semAt_some
set_option linter.unusedSimpArgs false
set_option linter.unusedVariables false
theorem q4e:(Tryz.prog.info? 29).map (·.size)=some 2:=by kernel_rfl
theorem Shp.Owns.over2 {α:Type} {S:Shp α} {w:World} {base g n c:Nat} {L:List α} {i:Nat} {y:α} (h:S.Owns w base (.slice (some ⟨g,0,none⟩) n c) (L.set i y)) (hi:i < L.length) (x:α) (j:Nat) (cs:List Value) (hj:j+cs.length<=S.k) (hx:S.enc x=setL (S.enc y) j cs) :
  ∃ C:List Value,Blk w g S.t C.toArray/\(i * S.k+j)+cs.length<=C.length/\∀ w',Blk w' g S.t (setL C (i * S.k+j) cs).toArray->S.Owns w' base (.slice (some ⟨g,0,none⟩) n c) (L.set i x):=by
 obtain ⟨C,h1,h2,h3⟩:=h.over (i:=i) (by rw [List.length_set]; exact hi) x j cs hj (by rw [List.getElem_set_self]; exact hx)
 rw [List.set_set] at h3
 exact ⟨C,h1,h2,h3⟩
theorem qjf:∀ v ∈ ([.int .u8 0,.int .i64 0]:List Value),v.oneCell'=true:=by simp [Value.oneCell']
structure PlnW (p:Nat) (V:Value) (next:Int) (L:List Nd) (w0 wr:World):Prop where
 doc:Blk wr p 24 #[V,.int .i64 next]
 out:Blk wr (p+1) 24 #[.slice none 0 0,.int .i64 0]
 own:shNd.Owns wr (p+2) V L
 bel:Below p w0 wr
def PlnA (p:Nat) (V:Value) (next:Int) (ns:List Nd) (w0:World) (i:Value) (wr:World):Prop:=∃ k:Nat,k<=ns.length/\i=.int .i64 k/\PlnW p V next (plTo ns k) w0 wr
theorem PlnW.kept {p g n c:Nat} {next:Int} {L L':List Nd} {w0 w w':World} (h:PlnW p (.slice (some ⟨g,0,none⟩) n c) next L w0 w) (hk:Kept [g] w w') (ho:shNd.Owns w' (p+2) (.slice (some ⟨g,0,none⟩) n c) L'):PlnW p (.slice (some ⟨g,0,none⟩) n c) next L' w0 w':=by
 have hg:=(h.own.lt g rfl).1
 have hp:p < w.heap.size:=h.doc.lt
 exact ⟨h.doc.kept hk (by simp; omega),h.out.kept hk (by simp; omega),ho,h.bel.trans (hk.to_below (by omega) (by simp; omega))⟩
theorem PlnW.below {p:Nat} {V:Value} {next:Int} {L:List Nd} {w0 w w':World} (h:PlnW p V next L w0 w) (hb:Below w.heap.size w w'):PlnW p V next L w0 w' :=
 ⟨h.doc.below hb h.doc.lt,h.out.below hb h.out.lt,h.own.below hb,h.bel.trans (hb.mono (Nat.le_of_lt h.doc.lt))⟩
theorem qhv {ns:List Nd} {k:Nat} {m:Nd} (hk:k < ns.length) (hd:m.depth=(ndAt ns k).depth) (i:Nat):kidsN ((plTo ns k).set k m) i=kidsN ns i:=by
 rw [q4u (b:=plTo ns k) (fun j=>?_) (by rw [List.length_set]),qsl]
 by_cases e:k=j
 ·subst e
  rw [qxb (by rw [List.length_set,qic]; exact hk),List.getElem_set_self,qjj,hd]
 ·unfold ndAt
  rw [List.getD_eq_getElem?_getD,List.getElem?_set_ne e,List.getD_eq_getElem?_getD]
theorem q2v {ns:List Nd} {k:Nat} {m:Nd} (h:∀ n ∈ ns,(ndC n).all wfC=true) (hm:(ndC m).all wfC=true):∀ n ∈ (plTo ns k).set k m,(ndC n).all wfC=true:=by
 intro n hn
 rcases List.mem_or_eq_of_mem_set hn with hn | rfl
 ·exact q3v h n hn
 ·exact hm
set_option maxRecDepth 100000 in
set_option maxHeartbeats 8000000 in
theorem qvx (ns:List Nd) (dv:Value) (next:Int) (w:World) (h:DocIn w w.heap.size dv ns) (hm:ns.length<=1000) (hwf:∀ n ∈ ns,(ndC n).all wfC=true) :
  Calls Tryz.prog 23 #[docA dv next] w fun e w'=>Below w.heap.size w w'/\∃ v',e=.returned (docA v' next)/\shNd.Owns w' w.heap.size v' (qcc ns):=by
 obtain ⟨W2,hW2⟩:∃ W2,W2=(w.alloc (.cells #[dv,.int .i64 next] 24)).alloc (.cells #[.slice none 0 0,.int .i64 0] 24):=⟨_,rfl⟩
 have hb2:Below w.heap.size w W2:=by rw [hW2]; exact ((Below.refl _ _).alloc (Nat.le_refl _) _).alloc (by simp) _
 have hz2:W2.heap.size=w.heap.size+2:=by rw [hW2]; simp
 have g1:Blk W2 w.heap.size 24 #[dv,.int .i64 next]:=by rw [hW2]; exact (Blk.new _ _ _).alloc _
 have g2:Blk W2 (w.heap.size+1) 24 #[.slice none 0 0,.int .i64 0]:=by
  rw [hW2]
  have:=Blk.new (w.alloc (.cells #[dv,.int .i64 next] 24)) 24 #[.slice none 0 0,.int .i64 0]
  rwa [World.size_alloc] at this
 have hd2:=Shp.In.more (Shp.In.below h hb2) hb2.size
 have hcp:=qmu ns dv next W2 hd2 hm
 have hkd:=fun (V:Value) (L:List Nd) (a:Nat) (W:World)=>qar L V next a W
 unfold docA at hcp hkd ⊢
 have HW2:=Lib.hid hW2
 have HZ2:=Lib.hid hz2
 have HKD:=Lib.hid hkd
 clear hW2 h hd2 hz2 hkd
 go_enter Tryz.func23,Tryz.ntmps23
 go_upto_region 1 with fail
 simp only [<-HW2.out]
 clear HW2
 have c0:W2.cell? ⟨w.heap.size,0,none⟩=some dv:=g1.cell 0
 have c1:W2.cell? ⟨w.heap.size,1,none⟩=some (.int .i64 next):=g1.cell 1
 go_upto_region 2 with (first
  | (go_at_call 15; refine hcp.mono ?_; rintro e w5 ⟨hb5,v5,he,ho5⟩; obtain rfl:=he; obtain ⟨A,n,c,rfl⟩:=ho5.slice_; have g15:=g1.below hb5 g1.lt)
  | (refine qxa rfl 24 _ _ rfl w.heap.size 24 [dv,.int .i64 next] [.slice A n c,.int .i64 next] rfl g15 rfl rfl qxd (by simp [Value.oneCell']) ?_; intro w6 g6 k6 z6; simp only [Act.put]))
 have hplw:PlnW w.heap.size (.slice A n c) next (plTo ns 0) w w6:=by
  have hz:=HZ2.out
  refine ⟨g6,(g2.below hb5 g2.lt).kept k6 (by simp),?_,hb2.trans ((hb5.mono hb2.size).trans (k6.to_below (by have:=hb5.size; omega) (by simp)))⟩
  rw [q2u,<-hz]
  refine ho5.kept k6 fun g e=>?_
  have:=(ho5.lt g e).1
  rw [List.mem_singleton]
  omega
 have hnl:n=ns.length:=by
  obtain ⟨A',c',e,-⟩:=ho5.in_
  injection e with _ e2 _
 subst hnl
 clear g1 g2 hb2 hb5 ho5 c0 c1 g15 g6 k6 z6 hcp
 go_wp2_with fail
 go_loopw [3] (PlnA w.heap.size (.slice A ns.length c) next ns w) (fun i _=>ns.length - (intOf i).toNat)
 case atStart=>exact ⟨0,Nat.zero_le _,rfl,hplw⟩
 case round =>
  obtain ⟨k,hk,rfl,hpl⟩:=hrel
  have r0:wr.cell? ⟨w.heap.size,0,none⟩=some (.slice A ns.length c):=hpl.doc.cell 0
  have r1:wr.cell? ⟨w.heap.size,1,none⟩=some (.int .i64 next):=hpl.doc.cell 1
  by_cases hlt:k < ns.length
  ·have hzk:(k:Int) < (ns.length:Int):=by omega
   obtain ⟨g,hA⟩:=Shp.Owns.addr hpl.own (by rw [qic]; omega)
   obtain rfl:=hA
   have hself:plTo ns k=(plTo ns k).set k (ndAt ns k):=by
    refine List.ext_getElem (by rw [List.length_set]) fun i h1 h2=>?_
    rw [List.getElem_set]
    split
    ·rename_i e
     subst e
     rw [qpe,if_neg (by omega)]
    ·rfl
   have hlk:k < (plTo ns k).length:=by rw [qic]; exact hlt
   have HPL:=Lib.hid hpl
   have HLK:=Lib.hid hlk
   have hm0:(ndC (ndAt ns k)).all wfC=true:=by rw [qxb hlt]; exact hwf _ (List.getElem_mem hlt)
   have HM0:=Lib.hid hm0
   have hown:=hpl.own
   rw [hself] at hown
   obtain ⟨nd,hnd⟩:∃ nd,nd=ndAt ns k:=⟨_,rfl⟩
   rw [<-hnd] at hown
   have HND:=Lib.hid hnd
   have HWF:=Lib.hid hwf
   have hown:=hown.drewN 1
   change shNd.Owns wr.drew _ _ _ at hown
   obtain ⟨C1,B1,l1,O1⟩:=hown.over2 hlk { nd with st:={ nd.st with mT:=(0,0) } } 17 [.int .u8 0,.int .i64 0] (by decide) rfl
   clear hself hlk hm0 hnd hpl hplw hown
   go_upto_region 6 with fail
   refine qna [19] [0,1,2,3,4,5,6,7,8,10,11] [9,12,13,14,15,16,17,18,19] (fun w'=>∃ V:KW [g] wr,w'=V.val) (by kernel_rfl) (by kernel_rfl) (fun c a d v w h=>by cases d <;> exact h) ⟨⟨wr.drew,(Kept.refl _ _).drew⟩,rfl⟩ ?_
   simp only [pickD,List.map_cons,List.map_nil,List.getD_cons_zero,List.getD_cons_succ]
   repeat (go_big_quiet_step (fail))
   refine wpQuiet_nil ?_
   refine qca rfl fun K hK=>?_
   refine qoe rfl 29 _ _ rfl g (k * 51+17) 35 C1 [.int .u8 0,.int .i64 0] rfl B1 rfl l1 q4e qjf ?_
   intro x1 b1 k1 z1
   have q1:Kept [g] wr x1:=((Kept.refl [g] wr).drew).trans k1
   obtain ⟨C2,B2,l2,O2⟩:=(O1 x1 b1).over2 HLK.out { nd with st:={ nd.st with mT:=(0,0),mB:=(0,0) } } 21 [.int .u8 0,.int .i64 0] (by decide) rfl
   refine hK.out _ _ (.inr ⟨⟨_,q1⟩,rfl⟩) ?_
   clear hK K
   try simp only [Act.put,zA,zB,zC]
   refine qca rfl fun K hK=>?_
   go_simp
   refine hK.out _ _ (.inr ⟨⟨_,q1⟩,rfl⟩) ?_
   clear hK K
   try simp only [Act.put,zA,zB,zC]
   refine qca rfl fun K hK=>?_
   refine qoe rfl 29 _ _ rfl g (k * 51+21) 35 C2 [.int .u8 0,.int .i64 0] rfl B2 rfl l2 q4e qjf ?_
   intro x2 b2 k2 z2
   have q2:Kept [g] wr x2:=q1.trans k2
   obtain ⟨C3,B3,l3,O3⟩:=(O2 x2 b2).over2 HLK.out { nd with st:={ nd.st with mT:=(0,0),mB:=(0,0),offX:=0 } } 33 [.int .i64 0] (by decide) rfl
   refine hK.out _ _ (.inr ⟨⟨_,q2⟩,rfl⟩) ?_
   clear hK K
   try simp only [Act.put,zA,zB,zC]
   refine qca rfl fun K hK=>?_
   go_simp
   refine hK.out _ _ (.inr ⟨⟨_,q2⟩,rfl⟩) ?_
   clear hK K
   try simp only [Act.put,zA,zB,zC]
   refine qca rfl fun K hK=>?_
   go_simp
   refine hK.out _ _ (.inr ⟨⟨_,q2⟩,rfl⟩) ?_
   clear hK K
   try simp only [Act.put,zA,zB,zC]
   refine qca rfl fun K hK=>?_
   refine qal rfl 3 _ _ rfl g (k * 51+33) 35 C3 (.int .i64 0) rfl B3 rfl l3 rfl (by rfl) ?_
   intro x3 b3 k3 z3
   have q3:Kept [g] wr x3:=q2.trans k3
   obtain ⟨C4,B4,l4,O4⟩:=(O3 x3 b3).over2 HLK.out { nd with st:={ nd.st with mT:=(0,0),mB:=(0,0),offX:=0,offY:=0 } } 34 [.int .i64 0] (by decide) rfl
   refine hK.out _ _ (.inr ⟨⟨_,q3⟩,rfl⟩) ?_
   clear hK K
   try simp only [Act.put,zA,zB,zC]
   refine qca rfl fun K hK=>?_
   go_simp
   refine hK.out _ _ (.inr ⟨⟨_,q3⟩,rfl⟩) ?_
   clear hK K
   try simp only [Act.put,zA,zB,zC]
   refine qca rfl fun K hK=>?_
   go_simp
   refine hK.out _ _ (.inr ⟨⟨_,q3⟩,rfl⟩) ?_
   clear hK K
   try simp only [Act.put,zA,zB,zC]
   refine qca rfl fun K hK=>?_
   refine qal rfl 3 _ _ rfl g (k * 51+34) 35 C4 (.int .i64 0) rfl B4 rfl l4 rfl (by rfl) ?_
   intro x4 b4 k4 z4
   have q4:Kept [g] wr x4:=q3.trans k4
   obtain ⟨C5,B5,l5,O5⟩:=(O4 x4 b4).over2 HLK.out { nd with st:=plSt nd.st false } 3 [.int .u8 0] (by decide) rfl
   refine hK.out _ _ (.inl (by decide)) ?_
   clear hK K
   refine qla ?_
   go_upto_region 8 with (refine q0m rfl 5 _ _ rfl g (k * 51+3) 35 C5 (.int .u8 0) rfl B5 rfl l5 rfl (by rfl) ?_; intro x5 b5 k5 z5; simp only [Act.put])
   have hpw:=HPL.out.kept (q4.trans k5) (O5 x5 b5)
   clear B1 B2 B3 B4 B5 O1 O2 O3 O4 O5 b1 b2 b3 b4 b5 k1 k2 k3 k4 k5 z1 z2 z3 z4 z5 l1 l2 l3 l4 l5 q1 q2 q3 q4 r0 r1
   have hk0:=qhv (m:={ nd with st:=plSt nd.st false }) hlt (by rw [<-HND.out]) k
   have hkc:=HKD.out _ _ k x5 hpw.own.in_ (by rw [List.length_set,qic]; exact hlt) (by rw [List.length_set,qic]; omega) (q2v HWF.out (q0l false (by rw [HND.out]; exact HM0.out)))
   rw [hk0] at hkc
   have r0:x5.cell? ⟨w.heap.size,0,none⟩=some (.slice (some ⟨g,0,none⟩) ns.length c):=hpw.doc.cell 0
   have r1:x5.cell? ⟨w.heap.size,1,none⟩=some (.int .i64 next):=hpw.doc.cell 1
   clear hk0
   have HLT:=Lib.hid hlt
   cases hkids:kidsN ns k with
   | nil =>
    rw [hkids] at hkc
    have HKI:=Lib.hid (show plTo ns (k+1)=(plTo ns k).set k { nd with st:=plSt nd.st false } by
     rw [<-qvm hlt]
     unfold plNd
     rw [hkids,<-HND.out]
     rfl)
    clear hkids
    go_wp2_with (go_at_call 24; refine hkc.mono ?_; rintro e x6 ⟨v6,he,ho6,hb6⟩; obtain rfl:=he; obtain ⟨A6,c6,rfl⟩:=ho6.form; simp only [intsN,List.map_nil,List.length_nil])
    go_roundw
    case rel=>exact ⟨k+1,HLT.out,by go_num,by rw [HKI.out]; exact hpw.below hb6⟩
    case measure=>simp [intOf] <;> omega
   | cons kx kt =>
    rw [hkids] at hkc
    have HKI:=Lib.hid (show plTo ns (k+1)=(plTo ns k).set k { nd with st:=plSt nd.st true } by
     rw [<-qvm hlt]
     unfold plNd
     rw [hkids,<-HND.out]
     rfl)
    clear hkids
    have zl:(0:Int) < ((kt.length+1:Nat):Int):=by omega
    go_upto_region 9 with (go_at_call 24; refine hkc.mono ?_; rintro e x6 ⟨v6,he,ho6,hb6⟩; obtain rfl:=he; obtain ⟨A6,c6,rfl⟩:=ho6.form; simp only [intsN,List.map_cons,List.length_cons,List.length_map])
    have hpw6:=hpw.below hb6
    obtain ⟨C6,B6,l6,O6⟩:=hpw6.own.over2 HLK.out { nd with st:={ plSt nd.st false with height:=(0,0) } } 11 [.int .u8 0,.int .i64 0] (by decide) rfl
    have HP6:=Lib.hid hpw6
    clear hpw hpw6 hkc r0 r1
    go_wp2_with (first
     | (refine qmd rfl 29 _ _ rfl g (k * 51+11) 35 C6 [.int .u8 0,.int .i64 0] rfl B6 rfl l6 q4e qjf ?_; intro x7 b7 k7 z7; simp only [Act.put]; obtain ⟨C7,B7,l7,O7⟩:=(O6 x7 b7).over2 HLK.out { nd with st:={ plSt nd.st false with height:=(0,0),minH:=(0,0) } } 13 [.int .u8 0,.int .i64 0] (by decide) rfl)
     | (refine qmd rfl 29 _ _ rfl g (k * 51+13) 35 C7 [.int .u8 0,.int .i64 0] rfl B7 rfl l7 q4e qjf ?_; intro x8 b8 k8 z8; simp only [Act.put]; obtain ⟨C8,B8,l8,O8⟩:=(O7 x8 b8).over2 HLK.out { nd with st:=plSt nd.st true } 15 [.int .u8 0,.int .i64 0] (by decide) rfl)
     | (refine qmd rfl 29 _ _ rfl g (k * 51+15) 35 C8 [.int .u8 0,.int .i64 0] rfl B8 rfl l8 q4e qjf ?_; intro x9 b9 k9 z9; simp only [Act.put]))
    go_roundw
    case rel=>exact ⟨k+1,HLT.out,by go_num,by rw [HKI.out]; exact HP6.out.kept ((k7.trans k8).trans k9) (O8 x9 b9)⟩
    case measure=>simp [intOf] <;> omega
  ·obtain rfl:k=ns.length:=by omega
   have hzk:¬ (ns.length:Int) < (ns.length:Int):=by omega
   have g2:=hpl.out
   go_wp2_with (first
    | (refine qxa rfl 24 _ _ rfl (w.heap.size+1) 24 [.slice none 0 0,.int .i64 0] [.slice A ns.length c,.int .i64 next] rfl g2 rfl rfl qxd (by simp [Value.oneCell']) ?_; intro x5 b5 k5 z5; simp only [Act.put]))
   refine bodyPost_ret (results_cell_row rfl _ _ (w.heap.size+1) 24 _ (0,0) _ rfl b5 Tryz.underlying24 rfl qxd) rfl ?_
   have hd:=hpl.doc.lt
   refine ⟨hpl.bel.trans (k5.to_below (by omega) (by simp)),_,rfl,(hpl.own.kept k5 fun g e=>?_).base_le (by omega)⟩
   have:=(hpl.own.lt g e).1
   rw [List.mem_singleton]
   omega
end Go.Proofs.YtlnekijhbnlclaaGreatDoor
