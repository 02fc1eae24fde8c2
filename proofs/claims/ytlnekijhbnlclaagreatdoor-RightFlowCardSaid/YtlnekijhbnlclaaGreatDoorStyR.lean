/-
  Walks: package style: what lengths come to, limits, fonts.
-/
import Derived.Test.YtlnekijhbnlclaaGreatDoorSty6
import Derived.Test.YtlnekijhbnlclaaGreatDoorRunePlain
namespace Go.Proofs.YtlnekijhbnlclaaGreatDoor
open Go.RowKit Go.Shelf
def Res3 (x:Int×Bool×Int):Value:=.tuple #[.int .i64 x.1,.bool x.2.1,.int .i64 x.2.2]
def Num3 (x:Int×Int×Int):Value:=.tuple #[.int .i64 x.1,.int .i64 x.2.1,.int .i64 x.2.2]
set_option maxRecDepth 100000 in
set_option maxHeartbeats 4000000 in
theorem qaf (k:Nat) (n of:Int) (w:World):Calls Tryz.prog 62 #[.agg #[.int .u8 k,.int .i64 n],.int .i64 of] w fun e w'=>e=.returned (Res3 (qsa (k,n) of))/\Below w.heap.size w w':=by
 by_cases h1:k=1
 ·subst h1
  have hf:=qmc n 3 (w.alloc (.cells #[.int .u8 1,.int .i64 n] 29))
  rw [World.size_alloc] at hf
  have hbel:Below w.heap.size w ((w.alloc (.cells #[.int .u8 1,.int .i64 n] 29)).alloc (.cells #[.int .i64 n] 3)):=(qra _ _).alloc (by simp) _
  cases q:fit n with
  | true =>
   have HR:=Lib.hid (show qsa (1,n) of=(n,true,0) by unfold qsa; rw [if_pos rfl,if_pos q])
   rw [q] at hf
   clear q
   go_enter Tryz.func62,Tryz.ntmps62
   go_wp2_with (go_at_call 37; refine hf.mono ?_; rintro e w' ⟨rfl,rfl⟩)
   refine bodyPost_ret (results_tmp3 rfl _ _ _) rfl ?_
   exact ⟨by rw [HR.out]; rfl,hbel⟩
  | false =>
   have HR:=Lib.hid (show qsa (1,n) of=(0,false,10) by unfold qsa; rw [if_pos rfl,if_neg (by rw [q]; exact Bool.false_ne_true)])
   rw [q] at hf
   clear q
   go_enter Tryz.func62,Tryz.ntmps62
   go_wp2_with (go_at_call 37; refine hf.mono ?_; rintro e w' ⟨rfl,rfl⟩)
   refine bodyPost_ret (results_tmp3 rfl _ _ _) rfl ?_
   exact ⟨by rw [HR.out]; rfl,hbel⟩
 ·have z1:((k:Int) == 1)=false:=by simp; omega
  by_cases h2:k=2
  ·subst h2
   clear h1 z1
   obtain ⟨x,hx⟩:∃ x,x=partR n of:=⟨_,rfl⟩
   have HR:=Lib.hid (show qsa (2,n) of=(x.1,decide (x.2=0),x.2) by simp [qsa,hx])
   have hp:=qlp n of
   rw [<-hx] at hp
   obtain ⟨x1,x2⟩:=x
   clear hx
   go_enter Tryz.func62,Tryz.ntmps62
   go_wp2_with (go_at_call 88; refine (hp _).mono ?_; rintro e w' ⟨rfl,hb⟩)
   refine bodyPost_ret (results_tmp3 rfl _ _ _) rfl ?_
   exact ⟨by rw [HR.out,show decide (x2=0)=(x2 == 0) from Bool.eq_iff_iff.2 (by simp)]; rfl,(qra _ _).trans (hb.mono (by simp))⟩
  ·have z2:((k:Int) == 2)=false:=by simp; omega
   have HR:=Lib.hid (show qsa (k,n) of=(0,false,0) by unfold qsa; rw [if_neg h1,if_neg h2])
   clear h1 h2
   go_enter Tryz.func62,Tryz.ntmps62
   go_wp2
   refine bodyPost_ret (results_tmp3 rfl _ _ _) rfl ?_
   exact ⟨by rw [HR.out]; rfl,qra _ _⟩
set_option maxRecDepth 100000 in
set_option maxHeartbeats 4000000 in
theorem qyf (s:St) (l:Ln) (of edges:Int) (w:World):Calls Tryz.prog 116 #[.agg (stC s).toArray,.agg #[.int .u8 l.1,.int .i64 l.2],.int .i64 of,.int .i64 edges] w fun e w'=>e=.returned (Res3 (contR s l of edges))/\Below w.heap.size w w':=by
 obtain ⟨W0,hW0,hbel0,g0,hs0⟩:=qya w 33 (stC s)
 obtain ⟨W,hW,hbel1,g1⟩:∃ W,W=W0.alloc (.cells #[.int .u8 l.1,.int .i64 l.2] 29)/\Below W0.heap.size W0 W/\Blk W W0.heap.size 29 #[.int .u8 l.1,.int .i64 l.2]:=⟨_,rfl,qra _ _,Blk.new _ _ _⟩
 have hbel:=hbel0.trans (hbel1.mono hbel0.size)
 rw [hs0] at g1
 clear hs0
 have a0:=g1.cell 0
 have a1:=g1.cell 1
 have g2:Blk W w.heap.size 33 (stC s).toArray:=g0.below hbel1 g0.lt
 obtain ⟨x,hx⟩:∃ x,x=qsa (l.1,l.2) of:=⟨_,rfl⟩
 have hr:=qaf l.1 l.2 of W
 rw [<-hx] at hr
 have HX:=Lib.hid (show contR s l of edges=(if (x.2.1 && s.whole)=true then (max 0 (w64 (x.1 - edges)),x.2) else x) by rw [hx]; rfl)
 clear hx
 obtain ⟨x1,x2,x3⟩:=x
 unfold Res3 at hr
 go_enter Tryz.func116,Tryz.ntmps116
 go_upto_region 1 with fail
 change Code.wp _ _ _ _ ((w.alloc (.cells (stC s).toArray 33)).alloc _)
 rw [<-hW0]
 change Code.wp _ _ _ _ (W0.alloc (.cells #[.int .u8 l.1,.int .i64 l.2] 29))
 rw [<-hW]
 clear hW hW0 g0 g1
 go_wp2_with fail
 refine hr.mono ?_
 rintro e w1 ⟨rfl,hb1⟩
 have hw1:=hbel.trans (hb1.mono hbel.size)
 have b1:w1.cell? ⟨w.heap.size,1,none⟩=some (.bool s.whole):=(g2.below hb1 g2.lt).cell 1
 clear a0 a1 hr g2
 cases x2 with
 | false =>
  have HQ:=Lib.hid (show contR s l of edges=(x1,false,x3) from HX.out)
  clear HX
  go_wp2_with fail
  refine bodyPost_ret (results_tmp3 rfl _ _ _) rfl ?_
  exact ⟨by rw [HQ.out]; rfl,hw1⟩
 | true =>
  cases hwh:s.whole with
  | false =>
   rw [hwh] at b1
   have HQ:=Lib.hid (show contR s l of edges=(x1,true,x3) by rw [HX.out,hwh]; rfl)
   clear HX hwh
   go_wp2_with fail
   refine bodyPost_ret (results_tmp3 rfl _ _ _) rfl ?_
   exact ⟨by rw [HQ.out]; rfl,hw1⟩
  | true =>
   rw [hwh] at b1
   have HQ:=Lib.hid (show contR s l of edges=(max 0 (w64 (x1 - edges)),true,x3) by rw [HX.out,hwh]; rfl)
   clear HX hwh
   go_wp2_with fail
   all_goals
    refine bodyPost_ret (results_tmp3 rfl _ _ _) rfl ?_
    exact ⟨by rw [HQ.out]; simp only [Res3]; (first | rfl | (congr 1; congr 1; omega)),hw1⟩
set_option maxRecDepth 100000 in
set_option maxHeartbeats 4000000 in
theorem q4i (s:St) (lo hi:Ln) (of edges:Int) (w:World):Calls Tryz.prog 117 #[.agg (stC s).toArray,.agg #[.int .u8 lo.1,.int .i64 lo.2],.agg #[.int .u8 hi.1,.int .i64 hi.2],.int .i64 of,.int .i64 edges] w fun e w'=>e=.returned (Num3 (qyc s lo hi of edges))/\Below w.heap.size w w':=by
 obtain ⟨W0,hW0,hbel0,g0,hs0⟩:=qya w 33 (stC s)
 obtain ⟨W1,hW1,hbel1,g1,hs1⟩:∃ W,W=W0.alloc (.cells #[.int .u8 lo.1,.int .i64 lo.2] 29)/\Below W0.heap.size W0 W/\Blk W W0.heap.size 29 #[.int .u8 lo.1,.int .i64 lo.2]/\W.heap.size=W0.heap.size+1:=⟨_,rfl,qra _ _,Blk.new _ _ _,by simp⟩
 obtain ⟨W,hW,hbel2,g2⟩:∃ W,W=W1.alloc (.cells #[.int .u8 hi.1,.int .i64 hi.2] 29)/\Below W1.heap.size W1 W/\Blk W W1.heap.size 29 #[.int .u8 hi.1,.int .i64 hi.2]:=⟨_,rfl,qra _ _,Blk.new _ _ _⟩
 have hbel:=(hbel0.trans (hbel1.mono hbel0.size)).trans (hbel2.mono (hbel0.trans (hbel1.mono hbel0.size)).size)
 have h0:Blk W w.heap.size 33 (stC s).toArray:=(g0.below hbel1 g0.lt).below hbel2 (g0.below hbel1 g0.lt).lt
 have h1:=g1.below hbel2 g1.lt
 rw [hs0] at h1
 rw [hs1,hs0] at g2
 clear hs0 hs1 g0 g1
 have a0:=h1.cell 0
 have a1:=h1.cell 1
 obtain ⟨x,hx⟩:∃ x,x=contR s lo of edges:=⟨_,rfl⟩
 obtain ⟨y,hy⟩:∃ x,x=contR s hi of edges:=⟨_,rfl⟩
 have hc1:=qyf s lo of edges
 have hc2:=qyf s hi of edges
 rw [<-hx] at hc1
 rw [<-hy] at hc2
 have HX:=Lib.hid (show qyc s lo hi of edges=(if x.2.2≠0 then (0,0,x.2.2) else if y.2.2≠0 then (0,0,y.2.2) else (x.1,if y.2.1=true then y.1 else 1099511627776,0)) by rw [hx,hy]; rfl)
 clear hx hy
 obtain ⟨x1,x2,x3⟩:=x
 obtain ⟨y1,y2,y3⟩:=y
 unfold Res3 at hc1 hc2
 go_enter Tryz.func117,Tryz.ntmps117
 go_upto_region 1 with fail
 change Code.wp _ _ _ _ (((w.alloc (.cells (stC s).toArray 33)).alloc _).alloc _)
 rw [<-hW0]
 change Code.wp _ _ _ _ ((W0.alloc (.cells #[.int .u8 lo.1,.int .i64 lo.2] 29)).alloc _)
 rw [<-hW1]
 change Code.wp _ _ _ _ (W1.alloc (.cells #[.int .u8 hi.1,.int .i64 hi.2] 29))
 rw [<-hW]
 clear hW hW0 hW1
 go_wp2_with (refine qwa rfl 33 _ rfl w.heap.size 0 33 (stC s) (stC s) _ rfl h0 (q8a s) Tryz.underlying33 rfl qoa ?_)
 refine (hc1 _).mono ?_
 rintro e w1 ⟨rfl,hb1⟩
 have hw1:=hbel.trans (hb1.mono hbel.size)
 have h3:=h0.below hb1 h0.lt
 have g3:=g2.below hb1 g2.lt
 have b0:=g3.cell 0
 have b1:=g3.cell 1
 clear a0 a1 hc1 h0 g2 h1
 cases q1:(x3 != 0) with
 | true =>
  have HQ:=Lib.hid (show qyc s lo hi of edges=(0,0,x3) by rw [HX.out]; exact if_pos (by simpa using q1))
  clear HX
  go_wp2_with fail
  refine bodyPost_ret (results_tmp3 rfl _ _ _) rfl ?_
  exact ⟨by rw [HQ.out]; rfl,hw1⟩
 | false =>
  have HX1:=Lib.hid (show qyc s lo hi of edges=(if y3≠0 then (0,0,y3) else (x1,if y2=true then y1 else 1099511627776,0)) by rw [HX.out]; exact if_neg (by simpa using q1))
  clear HX
  go_wp2_with (refine qwa rfl 33 _ rfl w.heap.size 0 33 (stC s) (stC s) _ rfl h3 (q8a s) Tryz.underlying33 rfl qoa ?_)
  refine (hc2 _).mono ?_
  rintro e w2 ⟨rfl,hb2⟩
  have hw2:=hw1.trans (hb2.mono hw1.size)
  clear b0 b1 hc2 q1
  cases q1:(y3 != 0) with
  | true =>
   have HQ:=Lib.hid (show qyc s lo hi of edges=(0,0,y3) by rw [HX1.out]; exact if_pos (by simpa using q1))
   clear HX1
   go_wp2_with fail
   refine bodyPost_ret (results_tmp3 rfl _ _ _) rfl ?_
   exact ⟨by rw [HQ.out]; rfl,hw2⟩
  | false =>
   have HX2:=Lib.hid (show qyc s lo hi of edges=(x1,if y2=true then y1 else 1099511627776,0) by rw [HX1.out]; exact if_neg (by simpa using q1))
   clear HX1
   cases y2 with
   | true =>
    go_wp2_with fail
    refine bodyPost_ret (results_tmp3 rfl _ _ _) rfl ?_
    exact ⟨by rw [HX2.out]; rfl,hw2⟩
   | false =>
    go_wp2_with fail
    refine bodyPost_ret (results_tmp3 rfl _ _ _) rfl ?_
    exact ⟨by rw [HX2.out]; rfl,hw2⟩
set_option maxRecDepth 100000 in
set_option maxHeartbeats 4000000 in
theorem qlu (s:St) (of:Int) (w:World):Calls Tryz.prog 86 #[.agg (stC s).toArray,.int .i64 of] w fun e w'=>e=.returned (Res3 (qdd s of))/\Below w.heap.size w w':=by
 obtain ⟨W,hW,hbel,g1,-⟩:=qya w 33 (stC s)
 have hE:=q1d s
 obtain ⟨x,hx⟩:∃ x,x=qha s:=⟨_,rfl⟩
 rw [<-hx] at hE
 have HX:=Lib.hid hx
 clear hx
 obtain ⟨x1,x2,x3⟩:=x
 go_enter Tryz.func86,Tryz.ntmps86
 go_upto_region 1 with fail
 change Code.wp _ _ _ _ (w.alloc (.cells (stC s).toArray 33))
 rw [<-hW]
 clear hW
 go_wp2_with (refine qwa rfl 33 _ rfl w.heap.size 0 33 (stC s) (stC s) _ rfl g1 (q8a s) Tryz.underlying33 rfl qoa ?_)
 refine (hE _).mono ?_
 rintro e w1 ⟨rfl,hb1⟩
 have g2:=g1.below hb1 g1.lt
 have hw1:=hbel.trans (hb1.mono hbel.size)
 clear hE g1
 have c2:w1.cell? ⟨w.heap.size,2,none⟩=some (.int .u8 s.width.1):=g2.cell 2
 have c3:w1.cell? ⟨w.heap.size,3,none⟩=some (.int .i64 s.width.2):=g2.cell 3
 cases q:stOk s with
 | false =>
  have h3:x3=60:=by have:=HX.out; unfold qha at this; rw [q] at this; injection this with _ this; injection this
  subst h3
  have HQ:=Lib.hid (show qdd s of=(0,false,60) by unfold qdd; rw [q]; rfl)
  go_wp2_with fail
  refine bodyPost_ret (results_tmp3 rfl _ _ _) rfl ?_
  exact ⟨by rw [HQ.out]; rfl,hw1⟩
 | true =>
  have h3:x3=0/\x1=qfc s/\x2=upR s:=by have:=HX.out; unfold qha at this; rw [q] at this; injection this with h1 this; injection this with h2 h3; exact ⟨h3,h1,h2⟩
  obtain ⟨rfl,rfl,rfl⟩:=h3
  have HQ:=Lib.hid (show qdd s of=contR s s.width of (qfc s) by unfold qdd; rw [q]; rfl)
  have hc:=qyf s s.width of (qfc s)
  rw [<-HQ.out] at hc
  obtain ⟨r,hr⟩:∃ r,r=qdd s of:=⟨_,rfl⟩
  rw [<-hr] at hc
  have HR:=Lib.hid hr
  clear hr
  obtain ⟨r1,r2,r3⟩:=r
  unfold Res3 at hc
  clear q HX HQ
  go_wp2_with (refine qwa rfl 33 _ rfl w.heap.size 0 33 (stC s) (stC s) _ rfl g2 (q8a s) Tryz.underlying33 rfl qoa ?_)
  refine (hc _).mono ?_
  rintro e w2 ⟨rfl,hb2⟩
  have hw2:=hw1.trans (hb2.mono hw1.size)
  go_wp2_with fail
  refine bodyPost_ret (results_tmp3 rfl _ _ _) rfl ?_
  exact ⟨by rw [<-HR.out]; rfl,hw2⟩
set_option maxRecDepth 100000 in
set_option maxHeartbeats 4000000 in
theorem qqv (s:St) (of:Int) (w:World):Calls Tryz.prog 87 #[.agg (stC s).toArray,.int .i64 of] w fun e w'=>e=.returned (Num3 (qed s of))/\Below w.heap.size w w':=by
 obtain ⟨W,hW,hbel,g1,-⟩:=qya w 33 (stC s)
 have hE:=q1d s
 obtain ⟨x,hx⟩:∃ x,x=qha s:=⟨_,rfl⟩
 rw [<-hx] at hE
 have HX:=Lib.hid hx
 clear hx
 obtain ⟨x1,x2,x3⟩:=x
 go_enter Tryz.func87,Tryz.ntmps87
 go_upto_region 1 with fail
 change Code.wp _ _ _ _ (w.alloc (.cells (stC s).toArray 33))
 rw [<-hW]
 clear hW
 go_wp2_with (refine qwa rfl 33 _ rfl w.heap.size 0 33 (stC s) (stC s) _ rfl g1 (q8a s) Tryz.underlying33 rfl qoa ?_)
 refine (hE _).mono ?_
 rintro e w1 ⟨rfl,hb1⟩
 have g2:=g1.below hb1 g1.lt
 have hw1:=hbel.trans (hb1.mono hbel.size)
 clear hE g1
 have c4:w1.cell? ⟨w.heap.size,4,none⟩=some (.int .u8 s.minW.1):=g2.cell 4
 have c5:w1.cell? ⟨w.heap.size,5,none⟩=some (.int .i64 s.minW.2):=g2.cell 5
 have c6:w1.cell? ⟨w.heap.size,6,none⟩=some (.int .u8 s.maxW.1):=g2.cell 6
 have c7:w1.cell? ⟨w.heap.size,7,none⟩=some (.int .i64 s.maxW.2):=g2.cell 7
 cases q:stOk s with
 | false =>
  have h3:x3=60:=by have:=HX.out; unfold qha at this; rw [q] at this; injection this with _ this; injection this
  subst h3
  have HQ:=Lib.hid (show qed s of=(0,0,60) by unfold qed; rw [q]; rfl)
  go_wp2_with fail
  refine bodyPost_ret (results_tmp3 rfl _ _ _) rfl ?_
  exact ⟨by rw [HQ.out]; rfl,hw1⟩
 | true =>
  have h3:x3=0/\x1=qfc s/\x2=upR s:=by have:=HX.out; unfold qha at this; rw [q] at this; injection this with h1 this; injection this with h2 h3; exact ⟨h3,h1,h2⟩
  obtain ⟨rfl,rfl,rfl⟩:=h3
  have HQ:=Lib.hid (show qed s of=qyc s s.minW s.maxW of (qfc s) by unfold qed; rw [q]; rfl)
  have hc:=q4i s s.minW s.maxW of (qfc s)
  rw [<-HQ.out] at hc
  obtain ⟨r,hr⟩:∃ r,r=qed s of:=⟨_,rfl⟩
  rw [<-hr] at hc
  have HR:=Lib.hid hr
  clear hr
  obtain ⟨r1,r2,r3⟩:=r
  unfold Num3 at hc
  clear q HX HQ
  go_wp2_with (refine qwa rfl 33 _ rfl w.heap.size 0 33 (stC s) (stC s) _ rfl g2 (q8a s) Tryz.underlying33 rfl qoa ?_)
  refine (hc _).mono ?_
  rintro e w2 ⟨rfl,hb2⟩
  have hw2:=hw1.trans (hb2.mono hw1.size)
  go_wp2_with fail
  refine bodyPost_ret (results_tmp3 rfl _ _ _) rfl ?_
  exact ⟨by rw [<-HR.out]; rfl,hw2⟩
set_option maxRecDepth 100000 in
set_option maxHeartbeats 4000000 in
theorem qgl (s:St) (w:World):Calls Tryz.prog 131 #[.agg (stC s).toArray] w fun e w'=>e=.returned (Res3 (qtb s))/\Below w.heap.size w w':=by
 obtain ⟨W,hW,hbel,g1,-⟩:=qya w 33 (stC s)
 have hE:=q1d s
 obtain ⟨x,hx⟩:∃ x,x=qha s:=⟨_,rfl⟩
 rw [<-hx] at hE
 have HX:=Lib.hid hx
 clear hx
 obtain ⟨x1,x2,x3⟩:=x
 go_enter Tryz.func131,Tryz.ntmps131
 go_upto_region 1 with fail
 change Code.wp _ _ _ _ (w.alloc (.cells (stC s).toArray 33))
 rw [<-hW]
 clear hW
 go_wp2_with (refine qwa rfl 33 _ rfl w.heap.size 0 33 (stC s) (stC s) _ rfl g1 (q8a s) Tryz.underlying33 rfl qoa ?_)
 refine (hE _).mono ?_
 rintro e w1 ⟨rfl,hb1⟩
 have g2:=g1.below hb1 g1.lt
 have hw1:=hbel.trans (hb1.mono hbel.size)
 clear hE g1
 have c8:w1.cell? ⟨w.heap.size,8,none⟩=some (.int .u8 s.height.1):=g2.cell 8
 have c9:w1.cell? ⟨w.heap.size,9,none⟩=some (.int .i64 s.height.2):=g2.cell 9
 cases q:stOk s with
 | false =>
  have h3:x3=60:=by have:=HX.out; unfold qha at this; rw [q] at this; injection this with _ this; injection this
  subst h3
  have HQ:=Lib.hid (show qtb s=(0,false,60) by unfold qtb; rw [q]; rfl)
  go_wp2_with fail
  refine bodyPost_ret (results_tmp3 rfl _ _ _) rfl ?_
  exact ⟨by rw [HQ.out]; rfl,hw1⟩
 | true =>
  have h3:x3=0/\x1=qfc s/\x2=upR s:=by have:=HX.out; unfold qha at this; rw [q] at this; injection this with h1 this; injection this with h2 h3; exact ⟨h3,h1,h2⟩
  obtain ⟨rfl,rfl,rfl⟩:=h3
  have HQ:=Lib.hid (show qtb s=contR s s.height 0 (upR s) by unfold qtb; rw [q]; rfl)
  have hc:=qyf s s.height 0 (upR s)
  rw [<-HQ.out] at hc
  obtain ⟨r,hr⟩:∃ r,r=qtb s:=⟨_,rfl⟩
  rw [<-hr] at hc
  have HR:=Lib.hid hr
  clear hr
  obtain ⟨r1,r2,r3⟩:=r
  unfold Res3 at hc
  clear q HX HQ
  go_wp2_with (refine qwa rfl 33 _ rfl w.heap.size 0 33 (stC s) (stC s) _ rfl g2 (q8a s) Tryz.underlying33 rfl qoa ?_)
  refine (hc _).mono ?_
  rintro e w2 ⟨rfl,hb2⟩
  have hw2:=hw1.trans (hb2.mono hw1.size)
  go_wp2_with fail
  refine bodyPost_ret (results_tmp3 rfl _ _ _) rfl ?_
  exact ⟨by rw [<-HR.out]; rfl,hw2⟩
set_option maxRecDepth 100000 in
set_option maxHeartbeats 4000000 in
theorem qzj (s:St) (w:World):Calls Tryz.prog 103 #[.agg (stC s).toArray] w fun e w'=>e=.returned (Num3 (qfb s))/\Below w.heap.size w w':=by
 obtain ⟨W,hW,hbel,g1,-⟩:=qya w 33 (stC s)
 have hE:=q1d s
 obtain ⟨x,hx⟩:∃ x,x=qha s:=⟨_,rfl⟩
 rw [<-hx] at hE
 have HX:=Lib.hid hx
 clear hx
 obtain ⟨x1,x2,x3⟩:=x
 go_enter Tryz.func103,Tryz.ntmps103
 go_upto_region 1 with fail
 change Code.wp _ _ _ _ (w.alloc (.cells (stC s).toArray 33))
 rw [<-hW]
 clear hW
 go_wp2_with (refine qwa rfl 33 _ rfl w.heap.size 0 33 (stC s) (stC s) _ rfl g1 (q8a s) Tryz.underlying33 rfl qoa ?_)
 refine (hE _).mono ?_
 rintro e w1 ⟨rfl,hb1⟩
 have g2:=g1.below hb1 g1.lt
 have hw1:=hbel.trans (hb1.mono hbel.size)
 clear hE g1
 have c10:w1.cell? ⟨w.heap.size,10,none⟩=some (.int .u8 s.minH.1):=g2.cell 10
 have c11:w1.cell? ⟨w.heap.size,11,none⟩=some (.int .i64 s.minH.2):=g2.cell 11
 have c12:w1.cell? ⟨w.heap.size,12,none⟩=some (.int .u8 s.maxH.1):=g2.cell 12
 have c13:w1.cell? ⟨w.heap.size,13,none⟩=some (.int .i64 s.maxH.2):=g2.cell 13
 cases q:stOk s with
 | false =>
  have h3:x3=60:=by have:=HX.out; unfold qha at this; rw [q] at this; injection this with _ this; injection this
  subst h3
  have HQ:=Lib.hid (show qfb s=(0,0,60) by unfold qfb; rw [q]; rfl)
  go_wp2_with fail
  refine bodyPost_ret (results_tmp3 rfl _ _ _) rfl ?_
  exact ⟨by rw [HQ.out]; rfl,hw1⟩
 | true =>
  have h3:x3=0/\x1=qfc s/\x2=upR s:=by have:=HX.out; unfold qha at this; rw [q] at this; injection this with h1 this; injection this with h2 h3; exact ⟨h3,h1,h2⟩
  obtain ⟨rfl,rfl,rfl⟩:=h3
  have HQ:=Lib.hid (show qfb s=qyc s s.minH s.maxH 0 (upR s) by unfold qfb; rw [q]; rfl)
  have hc:=q4i s s.minH s.maxH 0 (upR s)
  rw [<-HQ.out] at hc
  obtain ⟨r,hr⟩:∃ r,r=qfb s:=⟨_,rfl⟩
  rw [<-hr] at hc
  have HR:=Lib.hid hr
  clear hr
  obtain ⟨r1,r2,r3⟩:=r
  unfold Num3 at hc
  clear q HX HQ
  go_wp2_with (refine qwa rfl 33 _ rfl w.heap.size 0 33 (stC s) (stC s) _ rfl g2 (q8a s) Tryz.underlying33 rfl qoa ?_)
  refine (hc _).mono ?_
  rintro e w2 ⟨rfl,hb2⟩
  have hw2:=hw1.trans (hb2.mono hw1.size)
  go_wp2_with fail
  refine bodyPost_ret (results_tmp3 rfl _ _ _) rfl ?_
  exact ⟨by rw [<-HR.out]; rfl,hw2⟩
set_option maxRecDepth 100000 in
set_option maxHeartbeats 4000000 in
theorem qot (s:St) (around:Int) (w:World):Calls Tryz.prog 66 #[.agg (stC s).toArray,.int .i64 around] w fun e w'=>e=.returned (.int .i64 (fontR s around))/\Below w.heap.size w w':=by
 obtain ⟨W,hW,hbel,g1,-⟩:=qya w 33 (stC s)
 have c32:W.cell? ⟨w.heap.size,32,none⟩=some (.int .i64 s.font):=g1.cell 32
 obtain ⟨f,hf⟩:∃ f,f=s.font:=⟨_,rfl⟩
 rw [<-hf] at c32
 have HF:=Lib.hid (show fontR s around=if f=0 then around else f by rw [hf]; rfl)
 clear hf
 cases q:(f == 0) with
 | true =>
  have HQ:=Lib.hid (show fontR s around=around by rw [HF.out]; exact if_pos (by simpa using q))
  go_enter Tryz.func66,Tryz.ntmps66
  go_upto_region 1 with fail
  change Code.wp _ _ _ _ (w.alloc (.cells (stC s).toArray 33))
  rw [<-hW]
  clear hW g1
  go_wp2_with fail
  go_ret
  exact ⟨by rw [HQ.out]; rfl,hbel⟩
 | false =>
  have HQ:=Lib.hid (show fontR s around=f by rw [HF.out]; exact if_neg (by simpa using q))
  go_enter Tryz.func66,Tryz.ntmps66
  go_upto_region 1 with fail
  change Code.wp _ _ _ _ (w.alloc (.cells (stC s).toArray 33))
  rw [<-hW]
  clear hW g1
  go_wp2_with fail
  go_ret
  exact ⟨by rw [HQ.out]; rfl,hbel⟩
end Go.Proofs.YtlnekijhbnlclaaGreatDoor
