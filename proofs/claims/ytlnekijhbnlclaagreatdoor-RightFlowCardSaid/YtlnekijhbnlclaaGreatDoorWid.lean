/-
  Walks: package width.
-/
import Derived.Test.YtlnekijhbnlclaaGreatDoorStyR
import Derived.Test.YtlnekijhbnlclaaGreatDoorFlowPlain
namespace Go.Proofs.YtlnekijhbnlclaaGreatDoor
open Go.RowKit Go.Shelf
theorem q0c {P:Program} (w:World) (ts:Array TypeId) (t:TypeId) (a b:Int):(Builtin.max_ ts t #[.int .i64 a,.int .i64 b]).run P w=.ok (.int .i64 (max a b)) w:=by
 simp [Builtin.max_,Builtin.max2]
 split <;> omega
theorem qtk {P:Program} (w:World) (ts:Array TypeId) (t:TypeId) (a b:Int):(Builtin.min_ ts t #[.int .i64 a,.int .i64 b]).run P w=.ok (.int .i64 (min a b)) w:=by
 simp [Builtin.min_,Builtin.min2]
 split <;> omega
theorem qqs (a b c:Int) (t:TypeId) (w:World) :
  Calls Tryz.prog 37 #[.slice (some ⟨w.heap.size,0,none⟩) 3 3] (w.alloc (.cells #[.int .i64 a,.int .i64 b,.int .i64 c] t)) fun e w'=>e=.returned (.bool ([a,b,c].all fit))/\w.alloc (.cells #[.int .i64 a,.int .i64 b,.int .i64 c] t)=w' :=
 qhc [a,b,c] _ _ _ (Ints.built w [a,b,c] t) (by simp)
theorem qfs (a b c d x y:Int) (t:TypeId) (w:World) :
  Calls Tryz.prog 37 #[.slice (some ⟨w.heap.size,0,none⟩) 6 6] (w.alloc (.cells #[.int .i64 a,.int .i64 b,.int .i64 c,.int .i64 d,.int .i64 x,.int .i64 y] t)) fun e w'=>e=.returned (.bool ([a,b,c,d,x,y].all fit))/\w.alloc (.cells #[.int .i64 a,.int .i64 b,.int .i64 c,.int .i64 d,.int .i64 x,.int .i64 y] t)=w' :=
 qhc [a,b,c,d,x,y] _ _ _ (Ints.built w [a,b,c,d,x,y] t) (by simp)
def akV (a:Ak):Value:=.agg #[.bool a.is,.int .i64 a.width,.int .i64 a.least,.int .i64 a.most,.int .i64 a.left,.int .i64 a.right,.bool a.autoL,.bool a.autoR,.int .i64 a.edges]
set_option maxRecDepth 100000 in
set_option maxHeartbeats 4000000 in
theorem qov (of:Int) (a:Ak) (w:World):Calls Tryz.prog 64 #[.int .i64 of,akV a] w fun e w'=>e=.returned (.int .i64 (qyb of a))/\Below w.heap.size w w':=by
 obtain ⟨is,wd,le,mo,lf,rt,al,ar,ed⟩:=a
 obtain ⟨r,hr⟩:∃ r,r=qyb of ⟨is,wd,le,mo,lf,rt,al,ar,ed⟩:=⟨_,rfl⟩
 rw [<-hr]
 unfold akV
 have h6:of < 0\/(¬ of < 0/\le < 0)\/(¬ of < 0/\¬ le < 0/\mo < 0)\/(¬ of < 0/\¬ le < 0/\¬ mo < 0/\ed < 0)\/(¬ of < 0/\¬ le < 0/\¬ mo < 0/\¬ ed < 0):=by omega
 rcases h6 with g1 | ⟨g1,g2⟩ | ⟨g1,g2,g3⟩ | ⟨g1,g2,g3,g4⟩ | ⟨g1,g2,g3,g4⟩
 iterate 4
  ·have HR:=Lib.hid (show r=2 by rw [hr]; unfold qyb; rw [if_pos]; simp only; omega)
   clear hr
   go_enter Tryz.func64,Tryz.ntmps64
   go_wp2
   go_ret
   exact ⟨by rw [HR.out]; rfl,qra _ _⟩
 have hf6:=qfs of le mo lf rt ed 3 (w.alloc (.cells #[.bool is,.int .i64 wd,.int .i64 le,.int .i64 mo,.int .i64 lf,.int .i64 rt,.bool al,.bool ar,.int .i64 ed] 76))
 rw [World.size_alloc] at hf6
 cases is with
 | false =>
  cases q:[of,le,mo,lf,rt,ed].all fit with
  | false =>
   have HR:=Lib.hid (show r=10 by rw [hr]; unfold qyb; rw [if_neg (by simp; omega),if_pos]; left; rw [q]; exact Bool.false_ne_true)
   rw [q] at hf6
   clear hr q
   go_enter Tryz.func64,Tryz.ntmps64
   go_wp2_with (go_at_call 37; refine hf6.mono ?_; rintro e w' ⟨rfl,rfl⟩)
   go_ret
   exact ⟨by rw [HR.out]; rfl,(qra _ _).alloc (by simp) _⟩
  | true =>
   have HR:=Lib.hid (show r=0 by rw [hr]; unfold qyb; rw [if_neg (by simp; omega),if_neg]; simp only [q]; simp)
   rw [q] at hf6
   clear hr q
   go_enter Tryz.func64,Tryz.ntmps64
   go_wp2_with (go_at_call 37; refine hf6.mono ?_; rintro e w' ⟨rfl,rfl⟩)
   go_ret
   exact ⟨by rw [HR.out]; rfl,(qra _ _).alloc (by simp) _⟩
 | true =>
  by_cases g5:wd < 0
  ·have HR:=Lib.hid (show r=2 by rw [hr]; unfold qyb; rw [if_pos]; simp; omega)
   clear hr hf6
   go_enter Tryz.func64,Tryz.ntmps64
   go_wp2
   go_ret
   exact ⟨by rw [HR.out]; rfl,qra _ _⟩
  ·cases q:[of,le,mo,lf,rt,ed].all fit with
   | false =>
    have HR:=Lib.hid (show r=10 by rw [hr]; unfold qyb; rw [if_neg (by simp; omega),if_pos]; left; rw [q]; exact Bool.false_ne_true)
    rw [q] at hf6
    clear hr q
    go_enter Tryz.func64,Tryz.ntmps64
    go_wp2_with (go_at_call 37; refine hf6.mono ?_; rintro e w' ⟨rfl,rfl⟩)
    go_ret
    exact ⟨by rw [HR.out]; rfl,(qra _ _).alloc (by simp) _⟩
   | true =>
    have hf1:=qmc wd 3 ((w.alloc (.cells #[.bool true,.int .i64 wd,.int .i64 le,.int .i64 mo,.int .i64 lf,.int .i64 rt,.bool al,.bool ar,.int .i64 ed] 76)).alloc (.cells #[.int .i64 of,.int .i64 le,.int .i64 mo,.int .i64 lf,.int .i64 rt,.int .i64 ed] 3))
    rw [World.size_alloc,World.size_alloc] at hf1
    rw [q] at hf6
    cases q2:fit wd with
    | false =>
     have HR:=Lib.hid (show r=10 by rw [hr]; unfold qyb; rw [if_neg (by simp; omega),if_pos]; right; simp only [q2]; simp)
     rw [q2] at hf1
     clear hr q q2
     go_enter Tryz.func64,Tryz.ntmps64
     go_wp2_with (go_at_call 37; first | (with_reducible refine hf6.mono ?_) | (with_reducible refine hf1.mono ?_); rintro e w' ⟨rfl,rfl⟩)
     go_ret
     exact ⟨by rw [HR.out]; rfl,((qra _ _).alloc (by simp) _).alloc (by simp; omega) _⟩
    | true =>
     have HR:=Lib.hid (show r=0 by rw [hr]; unfold qyb; rw [if_neg (by simp; omega),if_neg]; simp only [q,q2]; simp)
     rw [q2] at hf1
     clear hr q q2
     go_enter Tryz.func64,Tryz.ntmps64
     go_wp2_with (go_at_call 37; first | (with_reducible refine hf6.mono ?_) | (with_reducible refine hf1.mono ?_); rintro e w' ⟨rfl,rfl⟩)
     go_ret
     exact ⟨by rw [HR.out]; rfl,((qra _ _).alloc (by simp) _).alloc (by simp; omega) _⟩
theorem qlr {x y L R:Int} (c:Int) (t:TypeId) (w:World) (h1:x=L) (h2:y=R) :
  Calls Tryz.prog 37 #[.slice (some ⟨w.heap.size,0,none⟩) 3 3] (w.alloc (.cells #[.int .i64 x,.int .i64 c,.int .i64 y] t)) fun e w'=>e=.returned (.bool ([L,c,R].all fit))/\Below w.heap.size w w':=by
 subst h1 h2
 exact (qqs x c y t w).mono fun e w' ⟨h1,h2⟩=>⟨h1,by rw [<-h2]; exact qra _ _⟩
theorem qgw {n lo hi:Int} (h1:0<=lo/\lo<=1099511627776) (h2:0<=hi/\hi<=1099511627776):0<=q7b n lo hi/\q7b n lo hi<=1099511627776:=by
 unfold q7b; omega
theorem qxt {of:Int} {a:Ak} (h:qyb of a=0):0<=of/\of<=1099511627776/\0<=a.least/\a.least<=1099511627776/\0<=a.most/\a.most<=1099511627776/\0<=a.edges/\a.edges<=1099511627776/\-1099511627776<=a.left/\a.left<=1099511627776/\-1099511627776<=a.right/\a.right<=1099511627776/\(a.is=true->0<=a.width/\a.width<=1099511627776):=by
 unfold qyb at h
 by_cases h1:of < 0\/a.least < 0\/a.most < 0\/a.edges < 0\/(a.is=true/\a.width < 0)
 ·rw [if_pos h1] at h; omega
 ·rw [if_neg h1] at h
  by_cases h2:¬ ([of,a.least,a.most,a.left,a.right,a.edges].all fit=true)\/(a.is=true/\¬ (fit a.width=true))
  ·rw [if_pos h2] at h; omega
  ·have h3:[of,a.least,a.most,a.left,a.right,a.edges].all fit=true:=by
    apply Classical.byContradiction; intro h3; exact h2 (.inl h3)
   have h4:a.is=true->fit a.width=true:=fun hi=>by
    apply Classical.byContradiction; intro h3; exact h2 (.inr ⟨hi,h3⟩)
   simp only [List.all_cons,List.all_nil,Bool.and_true,Bool.and_eq_true,qpc] at h3
   refine ⟨by omega,by omega,by omega,by omega,by omega,by omega,by omega,by omega,by omega,by omega,by omega,by omega,fun hi=>?_⟩
   have h5:=(qpc _).1 (h4 hi)
   have h6:¬ (a.is=true/\a.width < 0):=fun h=>h1 (.inr (.inr (.inr (.inr h))))
   have:¬ a.width < 0:=fun h=>h6 ⟨hi,h⟩
   omega
def Res4 (x:Int×Int×Int×Int):Value:=.tuple #[.int .i64 x.1,.int .i64 x.2.1,.int .i64 x.2.2.1,.int .i64 x.2.2.2]
set_option maxRecDepth 100000 in
set_option maxHeartbeats 8000000 in
theorem qtn (of:Int) (a:Ak) (w:World):Calls Tryz.prog 50 #[.int .i64 of,akV a] w fun e w'=>e=.returned (Res4 (qia of a))/\Below w.heap.size w w':=by
 obtain ⟨is,wd,le,mo,lf,rt,al,ar,ed⟩:=a
 obtain ⟨r,hr⟩:∃ r,r=qia of ⟨is,wd,le,mo,lf,rt,al,ar,ed⟩:=⟨_,rfl⟩
 rw [<-hr]
 obtain ⟨W,hW,hbel,g1⟩:∃ W,W=w.alloc (.cells #[.bool is,.int .i64 wd,.int .i64 le,.int .i64 mo,.int .i64 lf,.int .i64 rt,.bool al,.bool ar,.int .i64 ed] 76)/\Below w.heap.size w W/\Blk W w.heap.size 76 #[.bool is,.int .i64 wd,.int .i64 le,.int .i64 mo,.int .i64 lf,.int .i64 rt,.bool al,.bool ar,.int .i64 ed]:=⟨_,rfl,qra _ _,Blk.new _ _ _⟩
 have ha:=qov of ⟨is,wd,le,mo,lf,rt,al,ar,ed⟩
 unfold akV at ha ⊢
 simp only at ha
 obtain ⟨q,hq⟩:∃ q,q=qyb of ⟨is,wd,le,mo,lf,rt,al,ar,ed⟩:=⟨_,rfl⟩
 rw [<-hq] at ha
 have a0:=g1.cell 0
 have a1:=g1.cell 1
 have a2:=g1.cell 2
 have a3:=g1.cell 3
 have a4:=g1.cell 4
 have a5:=g1.cell 5
 have a6:=g1.cell 6
 have a7:=g1.cell 7
 have a8:=g1.cell 8
 cases z:(q != 0) with
 | true =>
  have z':q≠0:=by simpa using z
  have HR:=Lib.hid (show r=(0,0,0,q) by rw [hr]; unfold qia; rw [if_pos (by rw [<-hq]; exact z'),<-hq])
  clear hr hq z' g1
  go_enter Tryz.func50,Tryz.ntmps50
  go_upto_region 1 with fail
  change Code.wp _ _ _ _ (w.alloc _)
  rw [<-hW]
  clear hW
  go_wp2_with fail
  refine (ha _).mono ?_
  rintro e w1 ⟨rfl,hb1⟩
  go_wp2_with fail
  refine bodyPost_ret (qqc rfl _ _ _) rfl ?_
  exact ⟨by rw [HR.out]; rfl,hbel.trans (hb1.mono hbel.size)⟩
 | false =>
  have z':q=0:=by simpa using z
  subst z'
  obtain ⟨p1,p2,p3,p4,p5,p6,p7,p8,p9,p10,p11,p12,p13⟩:=qxt hq.symm
  simp only at p3 p4 p5 p6 p7 p8 p9 p10 p11 p12 p13
  obtain ⟨l,hl⟩:∃ l,l=if al=true then 0 else lf:=⟨_,rfl⟩
  obtain ⟨m,hm⟩:∃ m,m=if ar=true then 0 else rt:=⟨_,rfl⟩
  obtain ⟨n0,hn0⟩:∃ n,n=if is=true then wd else max 0 (of - l - m - ed):=⟨_,rfl⟩
  obtain ⟨c,hc⟩:∃ c,c=q7b n0 le mo:=⟨_,rfl⟩
  obtain ⟨fr,hfr⟩:∃ f,f=of - l - ed - c - m:=⟨_,rfl⟩
  obtain ⟨hc1,hc2⟩:=qgw (n:=n0) ⟨p3,p4⟩ ⟨p5,p6⟩
  rw [<-hc] at hc1 hc2
  have hlb:-1099511627776<=l/\l<=1099511627776:=by rw [hl]; split <;> omega
  have hmb:-1099511627776<=m/\m<=1099511627776:=by rw [hm]; split <;> omega
  have hW1:q9f of ⟨is,wd,le,mo,lf,rt,al,ar,ed⟩=c:=by rw [hc,hn0,hl,hm]; rfl
  have hF1:qad of ⟨is,wd,le,mo,lf,rt,al,ar,ed⟩=fr:=by unfold qad; rw [hW1,hfr,hl,hm]
  obtain ⟨L,hL⟩:∃ L,L=q7f of ⟨is,wd,le,mo,lf,rt,al,ar,ed⟩:=⟨_,rfl⟩
  obtain ⟨R,hR⟩:∃ R,R=qdg of ⟨is,wd,le,mo,lf,rt,al,ar,ed⟩:=⟨_,rfl⟩
  have HS:=Lib.hid (show r=if [L,c,R].all fit=true then (L,c,R,0) else (0,0,0,10) by rw [hr]; unfold qia; rw [if_neg (by rw [<-hq]; decide),hW1,<-hL,<-hR])
  have HL:=Lib.hid (show L=if 0<=fr/\al=true then (if ar=true then fr.tdiv 2 else fr) else l by rw [hL]; unfold q7f; rw [hF1,hl])
  have HR:=Lib.hid (show R=if 0<=fr/\al=true then (if ar=true then fr - fr.tdiv 2 else 0)+m else m+fr by rw [hR]; unfold qdg; rw [hF1,hm])
  have hcl:=fun W=>qzl n0 le mo W
  rw [<-hc] at hcl
  have HN:=Lib.hid hn0
  have HLd:=Lib.hid hl
  have HMd:=Lib.hid hm
  have HF:=Lib.hid hfr
  have hfb:-6597069766656<=fr/\fr<=6597069766656:=by rw [HF.out]; omega
  have hdb:-6597069766656<=fr.tdiv 2/\fr.tdiv 2<=6597069766656:=by
   rcases Int.le_total 0 fr with h | h
   ·rw [Int.tdiv_eq_ediv_of_nonneg h]; omega
   ·have h1:(-fr).tdiv 2=-(fr.tdiv 2):=Int.neg_tdiv ..
    rw [Int.tdiv_eq_ediv_of_nonneg (show 0<=-fr by omega)] at h1
    omega
  clear hr hq hW1 hF1 hL hR hc hn0 hfr hl hm z
  go_enter Tryz.func50,Tryz.ntmps50
  go_upto_region 1 with fail
  change Code.wp _ _ _ _ (w.alloc _)
  rw [<-hW]
  clear hW
  go_wp2_with fail
  refine (ha _).mono ?_
  rintro e w1 ⟨rfl,hb1⟩
  have hw1:=hbel.trans (hb1.mono hbel.size)
  have g2:=g1.below hb1 g1.lt
  clear a0 a1 a2 a3 a4 a5 a6 a7 a8 ha g1 hb1
  have a4:=g2.cell 4
  have a5:=g2.cell 5
  go_wp2_with fail
  go_quiet (fail)
  have hw2:Below w.heap.size w (w1.drewN nq):=qzc hw1 nq
  have g3:Blk (w1.drewN nq) w.heap.size 76 #[.bool is,.int .i64 wd,.int .i64 le,.int .i64 mo,.int .i64 lf,.int .i64 rt,.bool al,.bool ar,.int .i64 ed]:=g2
  clear a4 a5 g2 hw1
  generalize w1.drewN nq=w2 at *
  cases al <;> cases ar <;> cases is <;> by_cases hfs:0<=fr
  all_goals
   have e1:=HLd.out
   have e2:=HMd.out
   have e3:=HN.out
   have e4:=HF.out
   have e5:=HL.out
   have e6:=HR.out
   simp only [Bool.false_eq_true,if_false,if_true,and_false,and_true,hfs] at e1 e2 e3 e5 e6
   rw [e1,e2] at e4
   try rw [e1] at e5
   rw [e2] at e6
   try rw [e1,e2] at e3
   try simp only [Int.sub_zero] at e3
   try simp only [Int.sub_zero] at e4
   try simp only [Int.add_zero,Int.zero_add] at e6
   have a0:=g3.cell 0
   have a1:=g3.cell 1
   have a2:=g3.cell 2
   have a3:=g3.cell 3
   have a6:=g3.cell 6
   have a7:=g3.cell 7
   have a8:=g3.cell 8
   have hX:=e4.symm
   have E5:=Lib.hid e5
   have E6:=Lib.hid e6
   clear HLd HMd HN HF HL HR e1 e2 e4 e5 e6 g3 l m hlb hmb
   first
    | (have hmx:∀ (W:World) (ts:Array TypeId) (t:TypeId),(Builtin.max_ ts t #[.int .i64 0,.int .i64 _]).run Tryz.prog W=.ok (.int .i64 n0) W:=fun W ts t=>(q0c W ts t _ _).trans (by rw [e3]); clear e3)
    | (obtain rfl:=e3)
   go_wp2_with (go_at_call 65; refine (hcl _).mono ?_; rintro e w' ⟨rfl,rfl⟩)
   refine (qlr (L:=L) (R:=R) c _ _ (by first | exact E5.out.symm | (have:=E5.out; omega)) (by first | exact E6.out.symm | (have:=E6.out; omega))).mono ?_
   rintro e w5 ⟨rfl,hb5⟩
   have hw5:=hw2.trans (hb5.mono hw2.size)
   clear hcl hX a0 a1 a2 a3 a6 a7 a8
   cases q:[L,c,R].all fit
   ·have HQ:=Lib.hid (show r=(0,0,0,10) by rw [HS.out,q]; rfl)
    clear q
    go_wp2_with fail
    refine bodyPost_ret (qqc rfl _ _ _) rfl ?_
    exact ⟨by rw [HQ.out]; rfl,hw5⟩
   ·have HQ:=Lib.hid (show r=(L,c,R,0) by rw [HS.out,q]; rfl)
    clear q
    go_wp2_with fail
    refine bodyPost_ret (qqc rfl _ _ _) rfl ?_
    exact ⟨by rw [HQ.out,E5.out,E6.out]; rfl,hw5⟩
end Go.Proofs.YtlnekijhbnlclaaGreatDoor
