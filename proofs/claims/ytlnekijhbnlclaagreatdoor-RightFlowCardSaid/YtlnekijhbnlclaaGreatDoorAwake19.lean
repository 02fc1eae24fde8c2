/-
  Walks: the chapter's examples of layer 19.
-/
import Derived.Test.YtlnekijhbnlclaaGreatDoorTwoW
import Derived.Test.YtlnekijhbnlclaaGreatDoorLay
import Derived.Test.YtlnekijhbnlclaaGreatDoorBlocksPlain
import Derived.Test.YtlnekijhbnlclaaGreatDoorDocFacts
namespace Go.Proofs.YtlnekijhbnlclaaGreatDoor
open Go.RowKit Go.Shelf
attribute [local go_sem] Oper.semAt_some
set_option linter.unusedSimpArgs false
set_option linter.unusedVariables false
theorem Shp.In.of_pre {α:Type} {S:Shp α} {w:World} {p B c:Nat} {t:TypeId} {L M:List α} (h:Blk w p t (S.row L).toArray) (hB:p < B) (hc:M.length<=c) (hp:∀ (j:Nat) (u:Value),(S.row M)[j]?=some u->(S.row L)[j]?=some u) :
  S.In w B (.slice (some ⟨p,0,none⟩) M.length c) M:=by
 refine ⟨_,c,rfl,hc,S.row_len M,fun _=>⟨_,rfl,hB,fun j u hu=>?_⟩⟩
 have e:(⟨p,0,none⟩:Addr).add j=⟨p,j,none⟩:=by unfold Addr.add; split <;> simp_all
 rw [e,h.cell]
 simpa using hp j u hu
def toFr (f:Fg):Fr:=⟨f.node,f.part,f.depth,f.x,f.y,f.w,f.h,f.text⟩
theorem q3k {w:World} {B:Nat} {v:Value} {L:List Fg} (h:(shFg YT.frag).In w B v L):Frags w B v (L.map toFr):=by
 have h':=h
 obtain ⟨A,c,rfl,hc,_⟩:=h'
 refine ⟨A,c,by rw [List.length_map],by rw [List.length_map]; exact hc,fun h0=>?_⟩
 rw [List.length_map] at h0
 obtain ⟨b,o,rfl,hb,hcell⟩:=Shp.In.at_ h (by decide) h0
 refine ⟨_,rfl,hb,fun k hk=>?_⟩
 rw [List.length_map] at hk
 have e:(⟨b,o,none⟩:Addr).add (k * 8)=⟨b,o+k * 8,none⟩:=by unfold Addr.add; split <;> simp_all
 have hc8:∀ j,j < 8->w.cell? ⟨b,o+k * 8+j,none⟩=(fgC L[k])[j]?:=fun j hj=>by
  rw [Nat.add_assoc]
  exact hcell k hk j hj
 rw [e,List.getElem_map]
 exact ⟨hc8 0 (by decide),hc8 1 (by decide),hc8 2 (by decide),hc8 3 (by decide),hc8 4 (by decide),hc8 5 (by decide),hc8 6 (by decide),hc8 7 (by decide)⟩
def fgV (f:Fg):Value:=.agg (fgC f).toArray
theorem fg3_row:([fgV fgA,fgV fgB,fgV fgD].flatMap fun v=>v.cells.toList)=(shFg YT.frag).row fg3:=by kernel_rfl
theorem qif:∀ f ∈ [fgA,fgB],(fgC f).all wfC=true:=fun f hf=>q1i f (by
 rcases (by simpa using hf:f=_\/f=_) with rfl | rfl <;> simp [fg3])
def fgX:Fg:=⟨2,1,1,1,0,1024,1280,⟨#[97,98]⟩⟩
def odd3:List Fg:=[fgA,fgX,fgD]
theorem qyq:∀ f ∈ odd3,(fgC f).all wfC=true:=by
 intro f hf
 rcases (by simpa [odd3] using hf:f=_\/f=_\/f=_) with rfl | rfl | rfl <;> kernel_rfl
theorem qvw:qib 0 fg3 odd3=1:=by decide
theorem fill3:fillR (fg3.map toFr)=(0,0,1024,2560):=by decide +kernel
theorem fill0:fillR []=(0,0,0,0):=by decide +kernel
theorem hit_1:q2a (hitP (fg3.map toFr) 0 0) (fg3.map toFr).length=1:=by decide +kernel
theorem hit_2:q2a (hitP (fg3.map toFr) 0 1280) (fg3.map toFr).length=2:=by decide +kernel
theorem hit_3:q2a (hitP (fg3.map toFr) 1023 5) (fg3.map toFr).length=1:=by decide +kernel
theorem hit_4:q2a (hitP (fg3.map toFr) 1024 5) (fg3.map toFr).length=-1:=by decide +kernel
theorem hit_5:q2a (hitP (fg3.map toFr) (-1) 0) (fg3.map toFr).length=-1:=by decide +kernel
theorem q3j:qib 0 fg3 [fgA,fgB]=2:=by decide
section
variable {w W V:World} {p:Nat}
theorem q4f (h:Blk W p 42 ((shFg YT.frag).row fg3).toArray) (hb:Below W.heap.size W V):(shFg YT.frag).In V V.heap.size (.slice (some ⟨p,0,none⟩) 3 3) fg3 :=
 Shp.In.of_pre (M:=fg3) (h.below hb h.lt) (Nat.lt_of_lt_of_le h.lt hb.size) (by decide) fun _ _ h=>h
theorem q8e (h:Blk W p 42 ((shFg YT.frag).row fg3).toArray) (hb:Below W.heap.size W V):(shFg YT.frag).In V V.heap.size (.slice (some ⟨p,0,none⟩) 2 3) [fgA,fgB] :=
 Shp.In.of_pre (M:=[fgA,fgB]) (h.below hb h.lt) (Nat.lt_of_lt_of_le h.lt hb.size) (by decide) fun j u hu=>by
  rw [show fg3=[fgA,fgB] ++ [fgD] from rfl,Shp.row_append,List.getElem?_append_left (List.getElem?_eq_some_iff.1 hu).1]
  exact hu
theorem ml_at (h:∃ m,W.cell? ⟨2,0,none⟩=some (.int .i64 m)) (hb:Below W.heap.size W V):∃ m,V.cell? ⟨2,0,none⟩=some (.int .i64 m):=by
 obtain ⟨m,hm⟩:=h
 exact ⟨m,(hb.cell (p:=⟨2,0,none⟩) (World.block_lt_of_cell? W _ hm)).trans hm⟩
end
set_option maxRecDepth 100000 in
set_option maxHeartbeats 8000000 in
theorem q1p (w:World) (hml:∃ m,w.cell? ⟨2,0,none⟩=some (.int .i64 m)) :
  Calls Tryz.prog 20 #[] w fun e w'=>e=.returned (.bool true)/\Below w.heap.size w w':=by
 obtain ⟨W1,hW1⟩:∃ W1,W1=w.alloc (.cells ((shFg YT.frag).row fg3).toArray 42):=⟨_,rfl⟩
 have hb1:Below w.heap.size w W1:=by rw [hW1]; exact (Below.refl _ _).alloc (Nat.le_refl _) _
 have gL:Blk W1 w.heap.size 42 ((shFg YT.frag).row fg3).toArray:=by rw [hW1]; exact Blk.new _ _ _
 have hml1:=ml_at hml hb1
 have HW1:=Lib.hid hW1
 clear hW1 hml
 obtain ⟨p,hp⟩:∃ p,w.heap.size=p:=⟨_,rfl⟩
 go_enter Tryz.func20,Tryz.ntmps20
 go_upto_region 2 with (first
  | (refine qee rfl 42 #[(0,.const (.int .i64 1)),(5,.const (.int .i64 1000)),(6,.const (.int .i64 2560))] rfl (fgV fgA) (by kernel_rfl) ?_)
  | (refine qee rfl 42 #[(0,.const (.int .i64 2)),(1,.const (.int .i64 1)),(2,.const (.int .i64 1)),(5,.const (.int .i64 1024)),(6,.const (.int .i64 1280)),(7,.const (.string ⟨#[97,98]⟩))] rfl (fgV fgB) (by kernel_rfl) ?_)
  | (refine qee rfl 42 #[(0,.const (.int .i64 2)),(1,.const (.int .i64 2)),(2,.const (.int .i64 1)),(4,.const (.int .i64 1280)),(5,.const (.int .i64 1024)),(6,.const (.int .i64 1280)),(7,.const (.string ⟨#[97,98]⟩))] rfl (fgV fgD) (by kernel_rfl) ?_)
  | (refine Great.wpList_buildRows rfl 36 42 _ 8 [fgV fgA,fgV fgB,fgV fgD] rfl (fun i=>i+15) p hp _ rfl Tryz.underlying36 (by kernel_rfl) (by kernel_rfl) (by decide) (by decide) (by decide) (by kernel_rfl) (by intro v hv; rcases (by simpa using hv:v=_\/v=_\/v=_) with rfl | rfl | rfl <;> kernel_rfl) (fun i h=>by match i,h with | 0,_=>rfl | 1,_=>rfl | 2,_=>rfl) ?_; rw [fg3_row,<-HW1.out]))
 clear HW1
 rw [hp] at gL hb1
 go_cut [28] (fun c wx=>c=.bool false/\Below W1.heap.size W1 wx)
 case first =>
  as_aux_lemma =>
   refine wp_region_noPanic ?_
   refine q5d [9] [1] 9 (fun w'=>∃ V:BW (W1.heap.size) W1,w'=V.val) (by kernel_rfl) (by kernel_rfl) (fun c a d v w h=>by cases d <;> exact h) ⟨⟨W1.drew,(Below.refl _ _).drew⟩,rfl⟩ ?_
   simp only [pickD,List.map_cons,List.map_nil,List.getD_cons_zero,List.getD_cons_succ]
   repeat (go_big_quiet_step (fail))
   refine wpQuiet_nil ?_
   refine qba [0] (by kernel_rfl) fun i hi=>?_
   obtain rfl:i=0:=by simpa using hi
   refine qaa rfl fun K hK=>?_
   go_simp
   go_at_call 36
   refine (q0d _).mono ?_
   rintro e w3 ⟨h3,dv3,he,hd3⟩
   obtain rfl:=he
   have b3:Below W1.heap.size W1 w3:=((Below.refl _ _).drew).trans h3
   refine hK.out _ _ (.inr ⟨⟨_,b3⟩,rfl⟩) ?_
   clear hK K
   try simp only [Act.put,zA,zB,zC]
   refine qba [2] (by kernel_rfl) fun i hi=>?_
   obtain rfl:i=2:=by simpa using hi
   refine qaa rfl fun K hK=>?_
   go_simp
   go_at_call 22
   refine (qof _ _ fg3 w3 hd3 (q4f gL b3) (by decide) q1i (ml_at hml1 b3) true (by decide)).mono ?_
   rintro e w4 ⟨h4,he⟩
   obtain rfl:=he
   have b4:Below W1.heap.size W1 w4:=b3.trans (h4.mono b3.size)
   refine hK.out _ _ (.inr ⟨⟨_,b4⟩,rfl⟩) ?_
   clear hK K
   try simp only [Act.put,zA,zB,zC]
   refine qba [3] (by kernel_rfl) fun i hi=>?_
   obtain rfl:i=3:=by simpa using hi
   refine qaa rfl fun K hK=>?_
   go_simp
   refine hK.out _ _ (.inr ⟨⟨_,b4⟩,rfl⟩) ?_
   clear hK K
   try simp only [Act.put,zA,zB,zC]
   refine qba [4] (by kernel_rfl) fun i hi=>?_
   obtain rfl:i=4:=by simpa using hi
   refine qaa rfl fun K hK=>?_
   go_simp
   refine hK.out _ _ (.inr ⟨⟨_,b4⟩,rfl⟩) ?_
   clear hK K
   try simp only [Act.put,zA,zB,zC]
   refine qba [5,6] (by kernel_rfl) fun i hi=>?_
   rcases (by simpa using hi:i=5\/i=6) with rfl | rfl
   ·skip
    refine qaa rfl fun K hK=>?_
    go_simp
    go_at_call 36
    refine (q0d _).mono ?_
    rintro e w5 ⟨h5,dv5,he,hd5⟩
    obtain rfl:=he
    have b5:Below W1.heap.size W1 w5:=b4.trans (h5.mono b4.size)
    refine hK.out _ _ (.inr ⟨⟨_,b5⟩,rfl⟩) ?_
    clear hK K
    try simp only [Act.put,zA,zB,zC]
    refine qba [6] (by kernel_rfl) fun i hi=>?_
    obtain rfl:i=6:=by simpa using hi
    refine qaa rfl fun K hK=>?_
    go_simp
    refine hK.out _ _ (.inr ⟨⟨_,b5⟩,rfl⟩) ?_
    clear hK K
    try simp only [Act.put,zA,zB,zC]
    refine qba [7] (by kernel_rfl) fun i hi=>?_
    obtain rfl:i=7:=by simpa using hi
    refine qaa rfl fun K hK=>?_
    go_simp
    refine hK.out _ _ (.inr ⟨⟨_,b5⟩,rfl⟩) ?_
    clear hK K
    try simp only [Act.put,zA,zB,zC]
    refine qba [8] (by kernel_rfl) fun i hi=>?_
    obtain rfl:i=8:=by simpa using hi
    refine qaa rfl fun K hK=>?_
    go_simp
    go_at_call 22
    refine (qof _ _ [fgA,fgB] w5 hd5 (q8e gL b5) (by decide) qif (ml_at hml1 b5) false (by decide)).mono ?_
    rintro e w6 ⟨h6,he⟩
    obtain rfl:=he
    have b6:Below W1.heap.size W1 w6:=b5.trans (h6.mono b5.size)
    refine hK.out _ _ (.inr ⟨⟨_,b6⟩,rfl⟩) ?_
    clear hK K
    try simp only [Act.put,zA,zB,zC]
    refine qba [9] (by kernel_rfl) fun i hi=>?_
    obtain rfl:i=9:=by simpa using hi
    refine qaa rfl fun K hK=>?_
    go_simp
    refine hK.out _ _ (.inl (by decide)) ?_
    clear hK K
    try simp only [Act.put,zA,zB,zC]
    refine qma (by kernel_rfl) ?_
    refine NoPanic.normal ?_
    go_wp2_with fail
    go_meet
    exact ⟨rfl,b6⟩
   ·skip
    refine qaa rfl fun K hK=>?_
    go_simp
    refine hK.out _ _ (.inr ⟨⟨_,b4⟩,rfl⟩) ?_
    clear hK K
    try simp only [Act.put,zA,zB,zC]
    refine qba [5,7] (by kernel_rfl) fun i hi=>?_
    rcases (by simpa using hi:i=5\/i=7) with rfl | rfl
    ·skip
     refine qaa rfl fun K hK=>?_
     go_simp
     go_at_call 36
     refine (q0d _).mono ?_
     rintro e w5 ⟨h5,dv5,he,hd5⟩
     obtain rfl:=he
     have b5:Below W1.heap.size W1 w5:=b4.trans (h5.mono b4.size)
     refine hK.out _ _ (.inr ⟨⟨_,b5⟩,rfl⟩) ?_
     clear hK K
     try simp only [Act.put,zA,zB,zC]
     refine qba [7] (by kernel_rfl) fun i hi=>?_
     obtain rfl:i=7:=by simpa using hi
     refine qaa rfl fun K hK=>?_
     go_simp
     refine hK.out _ _ (.inr ⟨⟨_,b5⟩,rfl⟩) ?_
     clear hK K
     try simp only [Act.put,zA,zB,zC]
     refine qba [8] (by kernel_rfl) fun i hi=>?_
     obtain rfl:i=8:=by simpa using hi
     refine qaa rfl fun K hK=>?_
     go_simp
     go_at_call 22
     refine (qof _ _ [fgA,fgB] w5 hd5 (q8e gL b5) (by decide) qif (ml_at hml1 b5) false (by decide)).mono ?_
     rintro e w6 ⟨h6,he⟩
     obtain rfl:=he
     have b6:Below W1.heap.size W1 w6:=b5.trans (h6.mono b5.size)
     refine hK.out _ _ (.inr ⟨⟨_,b6⟩,rfl⟩) ?_
     clear hK K
     try simp only [Act.put,zA,zB,zC]
     refine qba [9] (by kernel_rfl) fun i hi=>?_
     obtain rfl:i=9:=by simpa using hi
     refine qaa rfl fun K hK=>?_
     go_simp
     refine hK.out _ _ (.inl (by decide)) ?_
     clear hK K
     try simp only [Act.put,zA,zB,zC]
     refine qma (by kernel_rfl) ?_
     refine NoPanic.normal ?_
     go_wp2_with fail
     go_meet
     exact ⟨rfl,b6⟩
    ·skip
     refine qaa rfl fun K hK=>?_
     go_simp
     refine hK.out _ _ (.inr ⟨⟨_,b4⟩,rfl⟩) ?_
     clear hK K
     try simp only [Act.put,zA,zB,zC]
     refine qba [5] (by kernel_rfl) fun i hi=>?_
     obtain rfl:i=5:=by simpa using hi
     refine qaa rfl fun K hK=>?_
     go_simp
     go_at_call 36
     refine (q0d _).mono ?_
     rintro e w5 ⟨h5,dv5,he,hd5⟩
     obtain rfl:=he
     have b5:Below W1.heap.size W1 w5:=b4.trans (h5.mono b4.size)
     refine hK.out _ _ (.inr ⟨⟨_,b5⟩,rfl⟩) ?_
     clear hK K
     try simp only [Act.put,zA,zB,zC]
     refine qba [8] (by kernel_rfl) fun i hi=>?_
     obtain rfl:i=8:=by simpa using hi
     refine qaa rfl fun K hK=>?_
     go_simp
     go_at_call 22
     refine (qof _ _ [fgA,fgB] w5 hd5 (q8e gL b5) (by decide) qif (ml_at hml1 b5) false (by decide)).mono ?_
     rintro e w6 ⟨h6,he⟩
     obtain rfl:=he
     have b6:Below W1.heap.size W1 w6:=b5.trans (h6.mono b5.size)
     refine hK.out _ _ (.inr ⟨⟨_,b6⟩,rfl⟩) ?_
     clear hK K
     try simp only [Act.put,zA,zB,zC]
     refine qba [9] (by kernel_rfl) fun i hi=>?_
     obtain rfl:i=9:=by simpa using hi
     refine qaa rfl fun K hK=>?_
     go_simp
     refine hK.out _ _ (.inl (by decide)) ?_
     clear hK K
     try simp only [Act.put,zA,zB,zC]
     refine qma (by kernel_rfl) ?_
     refine NoPanic.normal ?_
     go_wp2_with fail
     go_meet
     exact ⟨rfl,b6⟩
 case rest =>
  obtain ⟨rfl,hbc⟩:=hcut
  go_upto_region 4 with fail
  go_cut [2,3] (fun a b wx=>a=.int .i64 2/\b=.int .i64 0/\Below W1.heap.size W1 wx)
  case first =>
   as_aux_lemma =>
    refine wp_region_noPanic ?_
    refine q5d [8] [1] 8 (fun w'=>∃ V:BW (wc.heap.size) wc,w'=V.val) (by kernel_rfl) (by kernel_rfl) (fun c a d v w h=>by cases d <;> exact h) ⟨⟨wc.drew,(Below.refl _ _).drew⟩,rfl⟩ ?_
    simp only [pickD,List.map_cons,List.map_nil,List.getD_cons_zero,List.getD_cons_succ]
    repeat (go_big_quiet_step (fail))
    refine wpQuiet_nil ?_
    refine qba [0,2] (by kernel_rfl) fun i hi=>?_
    rcases (by simpa using hi:i=0\/i=2) with rfl | rfl
    ·skip
     refine qaa rfl fun K hK=>?_
     go_simp
     go_at_call 36
     refine (q0d _).mono ?_
     rintro e w3 ⟨h3,dv3,he,hd3⟩
     obtain rfl:=he
     have b3:Below wc.heap.size wc w3:=((Below.refl _ _).drew).trans h3
     refine hK.out _ _ (.inr ⟨⟨_,b3⟩,rfl⟩) ?_
     clear hK K
     try simp only [Act.put,zA,zB,zC]
     refine qba [2] (by kernel_rfl) fun i hi=>?_
     obtain rfl:i=2:=by simpa using hi
     refine qaa rfl fun K hK=>?_
     go_simp
     refine hK.out _ _ (.inr ⟨⟨_,b3⟩,rfl⟩) ?_
     clear hK K
     try simp only [Act.put,zA,zB,zC]
     refine qba [3] (by kernel_rfl) fun i hi=>?_
     obtain rfl:i=3:=by simpa using hi
     refine qaa rfl fun K hK=>?_
     go_simp
     go_at_call 21
     refine (qwg _ _ [fgA,fgB] w3 hd3 (q8e gL (hbc.trans (b3.mono hbc.size))) (by decide) qif (ml_at hml1 (hbc.trans (b3.mono hbc.size)))).mono ?_
     rintro e w4 ⟨h4,he⟩
     obtain rfl:=he
     rw [q3j]
     have b4:Below wc.heap.size wc w4:=b3.trans (h4.mono b3.size)
     refine hK.out _ _ (.inr ⟨⟨_,b4⟩,rfl⟩) ?_
     clear hK K
     try simp only [Act.put,zA,zB,zC]
     refine qba [4] (by kernel_rfl) fun i hi=>?_
     obtain rfl:i=4:=by simpa using hi
     refine qaa rfl fun K hK=>?_
     go_simp
     refine hK.out _ _ (.inr ⟨⟨_,b4⟩,rfl⟩) ?_
     clear hK K
     try simp only [Act.put,zA,zB,zC]
     refine qba [5,6] (by kernel_rfl) fun i hi=>?_
     rcases (by simpa using hi:i=5\/i=6) with rfl | rfl
     ·skip
      refine qaa rfl fun K hK=>?_
      go_simp
      refine hK.out _ _ (.inr ⟨⟨_,b4⟩,rfl⟩) ?_
      clear hK K
      try simp only [Act.put,zA,zB,zC]
      refine qba [6,7] (by kernel_rfl) fun i hi=>?_
      rcases (by simpa using hi:i=6\/i=7) with rfl | rfl
      ·skip
       refine qaa rfl fun K hK=>?_
       go_simp
       refine hK.out _ _ (.inr ⟨⟨_,b4⟩,rfl⟩) ?_
       clear hK K
       try simp only [Act.put,zA,zB,zC]
       refine qba [7] (by kernel_rfl) fun i hi=>?_
       obtain rfl:i=7:=by simpa using hi
       refine qaa rfl fun K hK=>?_
       go_simp
       refine hK.out _ _ (.inr ⟨⟨_,b4⟩,rfl⟩) ?_
       clear hK K
       try simp only [Act.put,zA,zB,zC]
       refine qba [8] (by kernel_rfl) fun i hi=>?_
       obtain rfl:i=8:=by simpa using hi
       refine qaa rfl fun K hK=>?_
       go_simp
       refine hK.out _ _ (.inl (by decide)) ?_
       clear hK K
       try simp only [Act.put,zA,zB,zC]
       refine qma (by kernel_rfl) ?_
       refine NoPanic.normal ?_
       go_wp2_with fail
       go_meet
       exact ⟨rfl,rfl,hbc.trans (b4.mono hbc.size)⟩
      ·skip
       refine qaa rfl fun K hK=>?_
       go_simp
       refine hK.out _ _ (.inr ⟨⟨_,b4⟩,rfl⟩) ?_
       clear hK K
       try simp only [Act.put,zA,zB,zC]
       refine qba [6] (by kernel_rfl) fun i hi=>?_
       obtain rfl:i=6:=by simpa using hi
       refine qaa rfl fun K hK=>?_
       go_simp
       refine hK.out _ _ (.inr ⟨⟨_,b4⟩,rfl⟩) ?_
       clear hK K
       try simp only [Act.put,zA,zB,zC]
       refine qba [8] (by kernel_rfl) fun i hi=>?_
       obtain rfl:i=8:=by simpa using hi
       refine qaa rfl fun K hK=>?_
       go_simp
       refine hK.out _ _ (.inl (by decide)) ?_
       clear hK K
       try simp only [Act.put,zA,zB,zC]
       refine qma (by kernel_rfl) ?_
       refine NoPanic.normal ?_
       go_wp2_with fail
       go_meet
       exact ⟨rfl,rfl,hbc.trans (b4.mono hbc.size)⟩
     ·skip
      refine qaa rfl fun K hK=>?_
      go_simp
      refine hK.out _ _ (.inr ⟨⟨_,b4⟩,rfl⟩) ?_
      clear hK K
      try simp only [Act.put,zA,zB,zC]
      refine qba [5] (by kernel_rfl) fun i hi=>?_
      obtain rfl:i=5:=by simpa using hi
      refine qaa rfl fun K hK=>?_
      go_simp
      refine hK.out _ _ (.inr ⟨⟨_,b4⟩,rfl⟩) ?_
      clear hK K
      try simp only [Act.put,zA,zB,zC]
      refine qba [7] (by kernel_rfl) fun i hi=>?_
      obtain rfl:i=7:=by simpa using hi
      refine qaa rfl fun K hK=>?_
      go_simp
      refine hK.out _ _ (.inr ⟨⟨_,b4⟩,rfl⟩) ?_
      clear hK K
      try simp only [Act.put,zA,zB,zC]
      refine qba [8] (by kernel_rfl) fun i hi=>?_
      obtain rfl:i=8:=by simpa using hi
      refine qaa rfl fun K hK=>?_
      go_simp
      refine hK.out _ _ (.inl (by decide)) ?_
      clear hK K
      try simp only [Act.put,zA,zB,zC]
      refine qma (by kernel_rfl) ?_
      refine NoPanic.normal ?_
      go_wp2_with fail
      go_meet
      exact ⟨rfl,rfl,hbc.trans (b4.mono hbc.size)⟩
    ·skip
     refine qaa rfl fun K hK=>?_
     go_simp
     refine hK.out _ _ (.inr ⟨⟨_,(Below.refl _ _).drew⟩,rfl⟩) ?_
     clear hK K
     try simp only [Act.put,zA,zB,zC]
     refine qba [0] (by kernel_rfl) fun i hi=>?_
     obtain rfl:i=0:=by simpa using hi
     refine qaa rfl fun K hK=>?_
     go_simp
     go_at_call 36
     refine (q0d _).mono ?_
     rintro e w3 ⟨h3,dv3,he,hd3⟩
     obtain rfl:=he
     have b3:Below wc.heap.size wc w3:=((Below.refl _ _).drew).trans h3
     refine hK.out _ _ (.inr ⟨⟨_,b3⟩,rfl⟩) ?_
     clear hK K
     try simp only [Act.put,zA,zB,zC]
     refine qba [3] (by kernel_rfl) fun i hi=>?_
     obtain rfl:i=3:=by simpa using hi
     refine qaa rfl fun K hK=>?_
     go_simp
     go_at_call 21
     refine (qwg _ _ [fgA,fgB] w3 hd3 (q8e gL (hbc.trans (b3.mono hbc.size))) (by decide) qif (ml_at hml1 (hbc.trans (b3.mono hbc.size)))).mono ?_
     rintro e w4 ⟨h4,he⟩
     obtain rfl:=he
     rw [q3j]
     have b4:Below wc.heap.size wc w4:=b3.trans (h4.mono b3.size)
     refine hK.out _ _ (.inr ⟨⟨_,b4⟩,rfl⟩) ?_
     clear hK K
     try simp only [Act.put,zA,zB,zC]
     refine qba [4] (by kernel_rfl) fun i hi=>?_
     obtain rfl:i=4:=by simpa using hi
     refine qaa rfl fun K hK=>?_
     go_simp
     refine hK.out _ _ (.inr ⟨⟨_,b4⟩,rfl⟩) ?_
     clear hK K
     try simp only [Act.put,zA,zB,zC]
     refine qba [5,6] (by kernel_rfl) fun i hi=>?_
     rcases (by simpa using hi:i=5\/i=6) with rfl | rfl
     ·skip
      refine qaa rfl fun K hK=>?_
      go_simp
      refine hK.out _ _ (.inr ⟨⟨_,b4⟩,rfl⟩) ?_
      clear hK K
      try simp only [Act.put,zA,zB,zC]
      refine qba [6,7] (by kernel_rfl) fun i hi=>?_
      rcases (by simpa using hi:i=6\/i=7) with rfl | rfl
      ·skip
       refine qaa rfl fun K hK=>?_
       go_simp
       refine hK.out _ _ (.inr ⟨⟨_,b4⟩,rfl⟩) ?_
       clear hK K
       try simp only [Act.put,zA,zB,zC]
       refine qba [7] (by kernel_rfl) fun i hi=>?_
       obtain rfl:i=7:=by simpa using hi
       refine qaa rfl fun K hK=>?_
       go_simp
       refine hK.out _ _ (.inr ⟨⟨_,b4⟩,rfl⟩) ?_
       clear hK K
       try simp only [Act.put,zA,zB,zC]
       refine qba [8] (by kernel_rfl) fun i hi=>?_
       obtain rfl:i=8:=by simpa using hi
       refine qaa rfl fun K hK=>?_
       go_simp
       refine hK.out _ _ (.inl (by decide)) ?_
       clear hK K
       try simp only [Act.put,zA,zB,zC]
       refine qma (by kernel_rfl) ?_
       refine NoPanic.normal ?_
       go_wp2_with fail
       go_meet
       exact ⟨rfl,rfl,hbc.trans (b4.mono hbc.size)⟩
      ·skip
       refine qaa rfl fun K hK=>?_
       go_simp
       refine hK.out _ _ (.inr ⟨⟨_,b4⟩,rfl⟩) ?_
       clear hK K
       try simp only [Act.put,zA,zB,zC]
       refine qba [6] (by kernel_rfl) fun i hi=>?_
       obtain rfl:i=6:=by simpa using hi
       refine qaa rfl fun K hK=>?_
       go_simp
       refine hK.out _ _ (.inr ⟨⟨_,b4⟩,rfl⟩) ?_
       clear hK K
       try simp only [Act.put,zA,zB,zC]
       refine qba [8] (by kernel_rfl) fun i hi=>?_
       obtain rfl:i=8:=by simpa using hi
       refine qaa rfl fun K hK=>?_
       go_simp
       refine hK.out _ _ (.inl (by decide)) ?_
       clear hK K
       try simp only [Act.put,zA,zB,zC]
       refine qma (by kernel_rfl) ?_
       refine NoPanic.normal ?_
       go_wp2_with fail
       go_meet
       exact ⟨rfl,rfl,hbc.trans (b4.mono hbc.size)⟩
     ·skip
      refine qaa rfl fun K hK=>?_
      go_simp
      refine hK.out _ _ (.inr ⟨⟨_,b4⟩,rfl⟩) ?_
      clear hK K
      try simp only [Act.put,zA,zB,zC]
      refine qba [5] (by kernel_rfl) fun i hi=>?_
      obtain rfl:i=5:=by simpa using hi
      refine qaa rfl fun K hK=>?_
      go_simp
      refine hK.out _ _ (.inr ⟨⟨_,b4⟩,rfl⟩) ?_
      clear hK K
      try simp only [Act.put,zA,zB,zC]
      refine qba [7] (by kernel_rfl) fun i hi=>?_
      obtain rfl:i=7:=by simpa using hi
      refine qaa rfl fun K hK=>?_
      go_simp
      refine hK.out _ _ (.inr ⟨⟨_,b4⟩,rfl⟩) ?_
      clear hK K
      try simp only [Act.put,zA,zB,zC]
      refine qba [8] (by kernel_rfl) fun i hi=>?_
      obtain rfl:i=8:=by simpa using hi
      refine qaa rfl fun K hK=>?_
      go_simp
      refine hK.out _ _ (.inl (by decide)) ?_
      clear hK K
      try simp only [Act.put,zA,zB,zC]
      refine qma (by kernel_rfl) ?_
      refine NoPanic.normal ?_
      go_wp2_with fail
      go_meet
      exact ⟨rfl,rfl,hbc.trans (b4.mono hbc.size)⟩
  case rest =>
   clear hbc
   obtain ⟨rfl,rfl,hbc⟩:=hcut
   have hO:(shFg YT.frag).Owns (wc.alloc (.cells #[] 42)) wc.heap.size (.slice (some ⟨wc.heap.size,0,none⟩) 0 0) []:=Shp.Owns.built (shFg YT.frag) wc wc.heap.size (Nat.le_refl _) [] (by decide)
   have hIn:=q4f gL (hbc.trans (((Below.refl wc.heap.size wc).alloc (Nat.le_refl _) (.cells #[] 42)).mono hbc.size))
   have hb5:Below wc.heap.size wc (wc.alloc (.cells #[] 42)):=(Below.refl _ _).alloc (Nat.le_refl _) _
   go_upto_region 6 with (at_builtin; refine qhn q5f rfl _ _ rfl rfl hO rfl hIn (by decide) (by rw [World.size_alloc]; omega) ?_; intro v5 w5 ho5 hg5)
   have hB5:Below wc.heap.size wc w5:=hb5.trans (Below.grown_own hg5 (by rw [World.size_alloc]; omega) (fun k e=>by
    have e:wc.heap.size=k:=Option.some.inj e
    omega))
   obtain ⟨g5,c5,rfl⟩:∃ g c,v5=.slice (some ⟨g,0,none⟩) 3 c:=by
    rcases ho5.2 with ⟨_,h0⟩ | ⟨g,c,_,e,_⟩
    ·cases h0
    ·exact ⟨g,c,e⟩
   have hc5:3<=c5:=by
    rcases ho5.2 with ⟨e,-⟩ | ⟨g,c,_,e,-,-,hc,-⟩
    ·cases e
    ·cases e
     exact hc
   obtain ⟨cur5,hbk5,-,hg5w,-⟩:=ho5.blk
   have k11:w5.cell? ⟨g5,11,none⟩=some (.int .i64 0):=ho5.cellr (i:=1) (by decide) (j:=3) (by decide)
   have f5:=hbk5.frozen
   have ho6:=ho5.setc (i:=1) (by decide) (j:=3) (by decide) (x':=fgX) (u:=.int .i64 1) (by rfl)
   have hB6:Below wc.heap.size wc (w5.setCell ⟨g5,11,none⟩ (.int .i64 1)):=hB5.setCell (p:=⟨g5,11,none⟩) hg5w _
   have hbX:=hbc.trans (hB6.mono hbc.size)
   clear hO hIn hb5 hg5 hbk5 ho5
   go_upto_region 7 with fail
   change (shFg YT.frag).Owns (w5.setCell ⟨g5,11,none⟩ (.int .i64 1)) wc.heap.size (.slice (some ⟨g5,0,none⟩) 3 c5) odd3 at ho6
   generalize w5.setCell ⟨g5,11,none⟩ (.int .i64 1)=w6 at *
   clear k11 f5
   have hin6:=ho6.in_
   have f1:=fun v B w h hB=>q3g (fg3.map toFr) v B w h hB (by decide)
   have f2:=fun w=>q3g [] (.slice none 0 0) 0 w ⟨none,0,rfl,Nat.le_refl _,fun h=>absurd h (by decide)⟩ (Nat.zero_le _) (by decide)
   have f3:=fun x y v B w h hB=>qao (fg3.map toFr) x y v B w h hB (by decide)
   simp only [fill3] at f1
   simp only [fill0] at f2
   go_upto_region 8 with (first
    | (go_at_call 36; refine (q0d _).mono ?_; rintro e w7 ⟨h7,dv7,he,hd7⟩; obtain rfl:=he; have hin7:=Shp.In.more (Shp.In.below hin6 h7) h7.size; replace hbX:=hbX.trans (h7.mono hbX.size))
    | (go_at_call 21; refine (qwg _ _ odd3 w7 hd7 hin7 (by decide) qyq (ml_at hml1 hbX)).mono ?_; rintro e w8 ⟨h8,he⟩; obtain rfl:=he; rw [qvw]; replace hbX:=hbX.trans (h8.mono hbX.size)))
   clear hin6 ho6
   go_wp2_with (first
    | (go_at_call 26; (first | with_reducible refine (f1 _ _ _ (q3k (q4f gL hbX)) (Nat.le_refl _)).mono ?_ | with_reducible refine (f2 _).mono ?_); rintro e w9 ⟨he,hb9⟩; obtain rfl:=he; replace hbX:=hbX.trans (hb9.mono hbX.size))
    | (go_at_call 27; refine (f3 _ _ _ _ _ (q3k (q4f gL hbX)) (Nat.le_refl _)).mono ?_; rintro e w9 ⟨he,hb9⟩; simp only [hit_1,hit_2,hit_3,hit_4,hit_5] at he; obtain rfl:=he; replace hbX:=hbX.trans (hb9.mono hbX.size)))
   go_ret
   exact ⟨rfl,by rw [hp]; exact hb1.trans (hbX.mono (by rw [<-hp]; exact hb1.size))⟩
end Go.Proofs.YtlnekijhbnlclaaGreatDoor
