/-
  Walks: package style: which styles may be.
-/
import Derived.Test.YtlnekijhbnlclaaGreatDoorFlowPlain
import Derived.Test.YtlnekijhbnlclaaGreatDoorRunePlain
import Derived.Shelf.Abstract
import Derived.Deep.QuietTactic
import Derived.BigQuiet
namespace Go.Proofs.YtlnekijhbnlclaaGreatDoor
open Go.RowKit Go.Shelf
theorem qra (w:World) (o:Obj):Below w.heap.size w (w.alloc o):=(Below.refl _ _).alloc (Nat.le_refl _) o
theorem qya (w:World) (t:TypeId) (L:List Value):∃ W,W=w.alloc (.cells L.toArray t)/\Below w.heap.size w W/\Blk W w.heap.size t L.toArray/\W.heap.size=w.heap.size+1 :=
 ⟨_,rfl,qra _ _,Blk.new _ _ _,by simp⟩
theorem qqd (n a b:Int) (w:World):Calls Tryz.prog 80 #[.int .i64 n,.int .i64 a,.int .i64 b] w fun e w'=>e=.returned (.bool (qga n a b))/\w'=w:=by
 by_cases h1:a<=n
 ·by_cases h2:n<=b
  ·have H:=Lib.hid (show qga n a b=true by simp [qga,h1,h2])
   go_enter Tryz.func80,Tryz.ntmps80
   go_wp2
   go_ret
   exact ⟨by rw [H.out]; rfl,rfl⟩
  ·have H:=Lib.hid (show qga n a b=false by simp [qga,h2])
   go_enter Tryz.func80,Tryz.ntmps80
   go_wp2
   go_ret
   exact ⟨by rw [H.out]; rfl,rfl⟩
 ·have H:=Lib.hid (show qga n a b=false by simp [qga,h1])
  go_enter Tryz.func80,Tryz.ntmps80
  go_wp2
  go_ret
  exact ⟨by rw [H.out]; rfl,rfl⟩
theorem qfe (k:Nat) (n least:Int) (w:World):Calls Tryz.prog 77 #[.agg #[.int .u8 k,.int .i64 n],.int .i64 least] w fun e w'=>e=.returned (.bool (qqa (k,n) least))/\Below w.heap.size w w':=by
 by_cases h0:k=0
 ·by_cases h1:n=0
  ·have H:=Lib.hid (show qqa (k,n) least=true by simp [qqa,h0,h1])
   subst h0 h1
   go_enter Tryz.func77,Tryz.ntmps77
   go_wp2
   go_ret
   exact ⟨by rw [H.out]; rfl,qra _ _⟩
  ·have H:=Lib.hid (show qqa (k,n) least=false by simp [qqa,h0,h1])
   subst h0
   have h1z:(n == 0)=false:=by simpa using h1
   go_enter Tryz.func77,Tryz.ntmps77
   go_wp2
   go_ret
   exact ⟨by rw [H.out]; rfl,qra _ _⟩
 ·by_cases h1:k=1
  ·have H:=Lib.hid (show qqa (k,n) least=qga n least 274877906944 by simp [qqa,h1])
   subst h1
   clear h0
   go_enter Tryz.func77,Tryz.ntmps77
   go_wp2_with (go_at_call 80; refine (qqd _ _ _ _).mono ?_; rintro e w' ⟨rfl,rfl⟩)
   go_ret
   exact ⟨by rw [H.out]; rfl,qra _ _⟩
  ·have z0:((k:Int) == 0)=false:=by simp; omega
   have z1:((k:Int) == 1)=false:=by simp; omega
   by_cases h2:k=2
   ·have H:=Lib.hid (show qqa (k,n) least=qga n 0 100000 by simp [qqa,h2])
    subst h2
    clear h0 h1 z0 z1
    go_enter Tryz.func77,Tryz.ntmps77
    go_wp2_with (go_at_call 80; refine (qqd _ _ _ _).mono ?_; rintro e w' ⟨rfl,rfl⟩)
    go_ret
    exact ⟨by rw [H.out]; rfl,qra _ _⟩
   ·have H:=Lib.hid (show qqa (k,n) least=false by simp [qqa,h0,h1,h2])
    have z2:((k:Int) == 2)=false:=by simp; omega
    clear h0 h1 h2
    go_enter Tryz.func77,Tryz.ntmps77
    go_wp2
    go_ret
    exact ⟨by rw [H.out]; rfl,qra _ _⟩
def qqe (s:St):Bool:=decide (s.display<=2) && decide (s.ws<=2) && decide (s.valign<=2)
def qse (s:St):Bool:=decide (s.dir<=3) && decide (s.lines<=2) && decide (s.justify<=4)
def qxe (s:St):Bool:=decide (s.align<=2) || decide (s.align=5)
def q0e (s:St):Bool:=qqa s.width 0 && qqa s.minW 0 && qqa s.maxW 0 && qqa s.basis 0
def qld (s:St):Bool:=tallR s.height && tallR s.minH && tallR s.maxH
def qrc (s:St):Bool:=sideR s.mT s.pT s.bT && sideR s.mR s.pR s.bR && sideR s.mB s.pB s.bB && sideR s.mL s.pL s.bL
def qge (s:St):Bool:=qga s.gap 0 274877906944 && qga s.lineGap 0 274877906944 && qga s.offX (-274877906944) 274877906944 && qga s.offY (-274877906944) 274877906944
def q9d (s:St):Bool:=qga s.font 0 1000 && qga s.order (-1000) 1000
def qwe (s:St):Bool:=qga s.grow 0 1000 && qga s.shrink 0 1000
theorem qzq (s:St):stOk s=(qqe s && qse s && qxe s && q0e s && qld s && qrc s && qge s && q9d s && qwe s):=rfl
def qnc (b:Bool) (w:World) (e:Ending) (w':World):Prop:=e=.returned (.bool b)/\Below w.heap.size w w'
set_option maxRecDepth 100000 in
set_option maxHeartbeats 4000000 in
theorem qzw (s:St) (w:World):Calls Tryz.prog 73 #[.agg (stC s).toArray] w (qnc (qqe s) w):=by
 obtain ⟨W,hW,hbel,g1,-⟩:=qya w 33 (stC s)
 have c0:W.cell? ⟨w.heap.size,0,none⟩=some (.int .u8 s.display):=g1.cell 0
 have c33:W.cell? ⟨w.heap.size,33,none⟩=some (.int .u8 s.ws):=g1.cell 33
 have c35:W.cell? ⟨w.heap.size,35,none⟩=some (.int .u8 s.valign):=g1.cell 35
 obtain ⟨r,hr⟩:∃ r,r=qqe s:=⟨_,rfl⟩
 rw [<-hr]
 unfold qqe at hr
 generalize s.display=a at c0 hr
 generalize s.ws=b at c33 hr
 generalize s.valign=c at c35 hr
 by_cases h1:(a:Int)<=2 <;> by_cases h2:(b:Int)<=2 <;> by_cases h3:(c:Int)<=2
 all_goals
  have HR:=Lib.hid hr
  clear hr
  go_enter Tryz.func73,Tryz.ntmps73
  go_upto_region 1 with fail
  change Code.wp _ _ _ _ (w.alloc (.cells (stC s).toArray 33))
  rw [<-hW]
  clear hW g1
  go_wp2_with fail
  go_ret
  first
   | exact ⟨by rw [show r=true by (rw [HR.out]; simp; omega)]; rfl,hbel⟩
   | exact ⟨by rw [show r=false by (rw [HR.out]; simp only [Bool.and_eq_false_iff,decide_eq_false_iff_not]; omega)]; rfl,hbel⟩
set_option maxRecDepth 100000 in
set_option maxHeartbeats 4000000 in
theorem qkv (s:St) (w:World):Calls Tryz.prog 74 #[.agg (stC s).toArray] w (qnc (qse s) w):=by
 obtain ⟨W,hW,hbel,g1,-⟩:=qya w 33 (stC s)
 have c36:W.cell? ⟨w.heap.size,36,none⟩=some (.int .u8 s.dir):=g1.cell 36
 have c34:W.cell? ⟨w.heap.size,34,none⟩=some (.int .u8 s.lines):=g1.cell 34
 have c37:W.cell? ⟨w.heap.size,37,none⟩=some (.int .u8 s.justify):=g1.cell 37
 obtain ⟨r,hr⟩:∃ r,r=qse s:=⟨_,rfl⟩
 rw [<-hr]
 unfold qse at hr
 generalize s.dir=a at c36 hr
 generalize s.lines=b at c34 hr
 generalize s.justify=c at c37 hr
 by_cases h1:(a:Int)<=3 <;> by_cases h2:(b:Int)<=2 <;> by_cases h3:(c:Int)<=4
 all_goals
  have HR:=Lib.hid hr
  clear hr
  go_enter Tryz.func74,Tryz.ntmps74
  go_upto_region 1 with fail
  change Code.wp _ _ _ _ (w.alloc (.cells (stC s).toArray 33))
  rw [<-hW]
  clear hW g1
  go_wp2_with fail
  go_ret
  first
   | exact ⟨by rw [show r=true by (rw [HR.out]; simp; omega)]; rfl,hbel⟩
   | exact ⟨by rw [show r=false by (rw [HR.out]; simp only [Bool.and_eq_false_iff,decide_eq_false_iff_not]; omega)]; rfl,hbel⟩
set_option maxRecDepth 100000 in
set_option maxHeartbeats 4000000 in
theorem qzv (s:St) (w:World):Calls Tryz.prog 75 #[.agg (stC s).toArray] w (qnc (qxe s) w):=by
 obtain ⟨W,hW,hbel,g1,-⟩:=qya w 33 (stC s)
 have c39:W.cell? ⟨w.heap.size,39,none⟩=some (.int .u8 s.align):=g1.cell 39
 obtain ⟨r,hr⟩:∃ r,r=qxe s:=⟨_,rfl⟩
 rw [<-hr]
 unfold qxe at hr
 generalize s.align=a at c39 hr
 have h3:(a:Int)<=2\/(¬ (a:Int)<=2/\((a:Int) == 5)=true)\/(¬ (a:Int)<=2/\((a:Int) == 5)=false):=by
  by_cases h1:(a:Int)<=2
  ·exact .inl h1
  ·cases h:((a:Int) == 5) with
   | true=>exact .inr (.inl ⟨h1,rfl⟩)
   | false=>exact .inr (.inr ⟨h1,rfl⟩)
 rcases h3 with h1 | ⟨h1,h2⟩ | ⟨h1,h2⟩
 all_goals
  have HR:=Lib.hid hr
  clear hr
  go_enter Tryz.func75,Tryz.ntmps75
  go_upto_region 1 with fail
  change Code.wp _ _ _ _ (w.alloc (.cells (stC s).toArray 33))
  rw [<-hW]
  clear hW g1
  go_wp2_with fail
  go_ret
  first
   | exact ⟨by rw [show r=true by (rw [HR.out]; simp at *; omega)]; rfl,hbel⟩
   | exact ⟨by rw [show r=false by (rw [HR.out]; simp only [Bool.or_eq_false_iff,decide_eq_false_iff_not]; simp at *; omega)]; rfl,hbel⟩
set_option maxRecDepth 100000 in
set_option maxHeartbeats 4000000 in
theorem qqu (s:St) (w:World):Calls Tryz.prog 81 #[.agg (stC s).toArray] w (qnc (qge s) w):=by
 obtain ⟨W,hW,hbel,g1,-⟩:=qya w 33 (stC s)
 have c40:W.cell? ⟨w.heap.size,40,none⟩=some (.int .i64 s.gap):=g1.cell 40
 have c41:W.cell? ⟨w.heap.size,41,none⟩=some (.int .i64 s.lineGap):=g1.cell 41
 have c30:W.cell? ⟨w.heap.size,30,none⟩=some (.int .i64 s.offX):=g1.cell 30
 have c31:W.cell? ⟨w.heap.size,31,none⟩=some (.int .i64 s.offY):=g1.cell 31
 obtain ⟨r,hr⟩:∃ r,r=qge s:=⟨_,rfl⟩
 rw [<-hr]
 unfold qge at hr
 generalize s.gap=a at c40 hr
 generalize s.lineGap=b at c41 hr
 generalize s.offX=c at c30 hr
 generalize s.offY=d at c31 hr
 cases q0:qga a 0 274877906944 <;> cases q1:qga b 0 274877906944 <;> cases q2:qga c (-274877906944) 274877906944 <;> cases q3:qga d (-274877906944) 274877906944
 all_goals
  simp only [q0,q1,q2,q3] at hr
  have HR:=Lib.hid hr
  clear hr
  go_enter Tryz.func81,Tryz.ntmps81
  go_upto_region 1 with fail
  change Code.wp _ _ _ _ (w.alloc (.cells (stC s).toArray 33))
  rw [<-hW]
  clear hW g1
  go_wp2_with (go_at_call 80; refine (qqd _ _ _ _).mono ?_; rintro e w' ⟨rfl,rfl⟩)
  go_ret
  first
   | exact ⟨by rw [show r=true by (rw [HR.out]; rfl)]; rfl,hbel⟩
   | exact ⟨by rw [show r=false by (rw [HR.out]; rfl)]; rfl,hbel⟩
set_option maxRecDepth 100000 in
set_option maxHeartbeats 4000000 in
theorem q9s (s:St) (w:World):Calls Tryz.prog 82 #[.agg (stC s).toArray] w (qnc (q9d s) w):=by
 obtain ⟨W,hW,hbel,g1,-⟩:=qya w 33 (stC s)
 have c32:W.cell? ⟨w.heap.size,32,none⟩=some (.int .i64 s.font):=g1.cell 32
 have c46:W.cell? ⟨w.heap.size,46,none⟩=some (.int .i64 s.order):=g1.cell 46
 obtain ⟨r,hr⟩:∃ r,r=q9d s:=⟨_,rfl⟩
 rw [<-hr]
 unfold q9d at hr
 generalize s.font=a at c32 hr
 generalize s.order=b at c46 hr
 cases q0:qga a 0 1000 <;> cases q1:qga b (-1000) 1000
 all_goals
  simp only [q0,q1] at hr
  have HR:=Lib.hid hr
  clear hr
  go_enter Tryz.func82,Tryz.ntmps82
  go_upto_region 1 with fail
  change Code.wp _ _ _ _ (w.alloc (.cells (stC s).toArray 33))
  rw [<-hW]
  clear hW g1
  go_wp2_with (go_at_call 80; refine (qqd _ _ _ _).mono ?_; rintro e w' ⟨rfl,rfl⟩)
  go_ret
  first
   | exact ⟨by rw [show r=true by (rw [HR.out]; rfl)]; rfl,hbel⟩
   | exact ⟨by rw [show r=false by (rw [HR.out]; rfl)]; rfl,hbel⟩
set_option maxRecDepth 100000 in
set_option maxHeartbeats 4000000 in
theorem qmx (s:St) (w:World):Calls Tryz.prog 83 #[.agg (stC s).toArray] w (qnc (qwe s) w):=by
 obtain ⟨W,hW,hbel,g1,-⟩:=qya w 33 (stC s)
 have c42:W.cell? ⟨w.heap.size,42,none⟩=some (.int .i64 s.grow):=g1.cell 42
 have c43:W.cell? ⟨w.heap.size,43,none⟩=some (.int .i64 s.shrink):=g1.cell 43
 obtain ⟨r,hr⟩:∃ r,r=qwe s:=⟨_,rfl⟩
 rw [<-hr]
 unfold qwe at hr
 generalize s.grow=a at c42 hr
 generalize s.shrink=b at c43 hr
 cases q0:qga a 0 1000 <;> cases q1:qga b 0 1000
 all_goals
  simp only [q0,q1] at hr
  have HR:=Lib.hid hr
  clear hr
  go_enter Tryz.func83,Tryz.ntmps83
  go_upto_region 1 with fail
  change Code.wp _ _ _ _ (w.alloc (.cells (stC s).toArray 33))
  rw [<-hW]
  clear hW g1
  go_wp2_with (go_at_call 80; refine (qqd _ _ _ _).mono ?_; rintro e w' ⟨rfl,rfl⟩)
  go_ret
  first
   | exact ⟨by rw [show r=true by (rw [HR.out]; rfl)]; rfl,hbel⟩
   | exact ⟨by rw [show r=false by (rw [HR.out]; rfl)]; rfl,hbel⟩
set_option maxRecDepth 100000 in
set_option maxHeartbeats 4000000 in
theorem q6q (s:St) (w:World):Calls Tryz.prog 76 #[.agg (stC s).toArray] w (qnc (q0e s) w):=by
 obtain ⟨W,hW,hbel,g1,-⟩:=qya w 33 (stC s)
 have HR:=Lib.hid (show q0e s=(qqa (s.width.1,s.width.2) 0 && qqa (s.minW.1,s.minW.2) 0 && qqa (s.maxW.1,s.maxW.2) 0 && qqa (s.basis.1,s.basis.2) 0) from rfl)
 have L:∀ V,Below W.heap.size W V->V.cell? ⟨w.heap.size,2,none⟩=some (.int .u8 s.width.1)/\V.cell? ⟨w.heap.size,3,none⟩=some (.int .i64 s.width.2)/\V.cell? ⟨w.heap.size,4,none⟩=some (.int .u8 s.minW.1)/\V.cell? ⟨w.heap.size,5,none⟩=some (.int .i64 s.minW.2) /\
   V.cell? ⟨w.heap.size,6,none⟩=some (.int .u8 s.maxW.1)/\V.cell? ⟨w.heap.size,7,none⟩=some (.int .i64 s.maxW.2)/\V.cell? ⟨w.heap.size,44,none⟩=some (.int .u8 s.basis.1)/\V.cell? ⟨w.heap.size,45,none⟩=some (.int .i64 s.basis.2):=fun V hV=>by
  have h:=g1.below hV g1.lt
  exact ⟨h.cell 2,h.cell 3,h.cell 4,h.cell 5,h.cell 6,h.cell 7,h.cell 44,h.cell 45⟩
 go_enter Tryz.func76,Tryz.ntmps76
 go_upto_region 1 with fail
 change Code.wp _ _ _ _ (w.alloc (.cells (stC s).toArray 33))
 rw [<-hW]
 clear hW g1
 obtain ⟨a2,a3,_,_,_,_,_,_⟩:=L W (Below.refl _ _)
 go_wp2_with fail
 refine (qfe _ _ _ _).mono ?_
 rintro e w1 ⟨rfl,hb1⟩
 clear a2 a3
 obtain ⟨_,_,a4,a5,_,_,_,_⟩:=L w1 hb1
 have hw1:=hbel.trans (hb1.mono hbel.size)
 cases q1:qqa (s.width.1,s.width.2) 0 with
 | false =>
  rw [q1] at HR
  go_wp2_with fail
  go_ret
  exact ⟨by rw [HR.out]; rfl,hw1⟩
 | true =>
  rw [q1] at HR
  go_wp2_with fail
  refine (qfe _ _ _ _).mono ?_
  rintro e w2 ⟨rfl,hb2⟩
  clear a4 a5 q1
  have hb2:=hb1.trans (hb2.mono hb1.size)
  obtain ⟨_,_,_,_,a6,a7,_,_⟩:=L w2 hb2
  have hw2:=hbel.trans (hb2.mono hbel.size)
  cases q1:qqa (s.minW.1,s.minW.2) 0 with
  | false =>
   rw [q1] at HR
   go_wp2_with fail
   go_ret
   exact ⟨by rw [HR.out]; rfl,hw2⟩
  | true =>
   rw [q1] at HR
   go_wp2_with fail
   refine (qfe _ _ _ _).mono ?_
   rintro e w3 ⟨rfl,hb3⟩
   clear a6 a7 q1
   have hb3:=hb2.trans (hb3.mono hb2.size)
   obtain ⟨_,_,_,_,_,_,a8,a9⟩:=L w3 hb3
   have hw3:=hbel.trans (hb3.mono hbel.size)
   cases q1:qqa (s.maxW.1,s.maxW.2) 0 with
   | false =>
    rw [q1] at HR
    go_wp2_with fail
    go_ret
    exact ⟨by rw [HR.out]; rfl,hw3⟩
   | true =>
    rw [q1] at HR
    go_wp2_with fail
    refine (qfe _ _ _ _).mono ?_
    rintro e w4 ⟨rfl,hb4⟩
    have hw4:=hw3.trans (hb4.mono hw3.size)
    go_wp2_with fail
    go_ret
    exact ⟨by rw [HR.out]; rfl,hw4⟩
def q2i (s:St) (k:Nat):Ln:=if k=0 then s.height else if k=1 then s.minH else s.maxH
def R5A (s:St) (W0:World) (i:Value) (wr:World):Prop:=∃ k:Nat,k<=3/\i=.int .i64 k/\(∀ j,j < k->tallR (q2i s j)=true)/\Below W0.heap.size W0 wr
set_option maxRecDepth 100000 in
set_option maxHeartbeats 4000000 in
theorem qht (s:St) (w:World):Calls Tryz.prog 78 #[.agg (stC s).toArray] w (qnc (qld s) w):=by
 obtain ⟨W,hW,hbel,g1,-⟩:=qya w 33 (stC s)
 have c8:W.cell? ⟨w.heap.size,8,none⟩=some (.int .u8 s.height.1):=g1.cell 8
 have c9:W.cell? ⟨w.heap.size,9,none⟩=some (.int .i64 s.height.2):=g1.cell 9
 have c10:W.cell? ⟨w.heap.size,10,none⟩=some (.int .u8 s.minH.1):=g1.cell 10
 have c11:W.cell? ⟨w.heap.size,11,none⟩=some (.int .i64 s.minH.2):=g1.cell 11
 have c12:W.cell? ⟨w.heap.size,12,none⟩=some (.int .u8 s.maxH.1):=g1.cell 12
 have c13:W.cell? ⟨w.heap.size,13,none⟩=some (.int .i64 s.maxH.2):=g1.cell 13
 go_enter Tryz.func78,Tryz.ntmps78
 go_upto_region 1 with fail
 change Code.wp _ _ _ _ (w.alloc (.cells (stC s).toArray 33))
 rw [<-hW]
 clear hW g1
 go_wp2_with fail
 obtain ⟨W1,hW1⟩:∃ W1,W1=W.alloc (.cells #[.int .u8 s.height.1,.int .i64 s.height.2,.int .u8 s.minH.1,.int .i64 s.minH.2,.int .u8 s.maxH.1,.int .i64 s.maxH.2] 29):=⟨_,rfl⟩
 have g2:Blk W1 W.heap.size 29 #[.int .u8 s.height.1,.int .i64 s.height.2,.int .u8 s.minH.1,.int .i64 s.minH.2,.int .u8 s.maxH.1,.int .i64 s.maxH.2]:=by rw [hW1]; exact Blk.new _ _ _
 have hb1:Below w.heap.size w W1:=by rw [hW1]; exact hbel.alloc hbel.size _
 rw [<-hW1]
 clear hW1 c8 c9 c10 c11 c12 c13
 go_loopw [13] (R5A s W1) (fun i _=>3 - (intOf i).toNat)
 case atStart=>exact ⟨0,by omega,rfl,fun j hj=>by omega,Below.refl _ _⟩
 case round =>
  obtain ⟨k,hk,rfl,hall,hbr⟩:=hrel
  have g3:=g2.below hbr g2.lt
  have hAll:=Lib.hid hall
  clear hall
  by_cases h3:k=3
  ·subst h3
   have HR:=Lib.hid (show qld s=true by
    unfold qld
    have h0:=hAll.out 0 (by omega)
    have h1:=hAll.out 1 (by omega)
    have h2:=hAll.out 2 (by omega)
    simp only [q2i] at h0 h1 h2
    simp_all)
   clear hAll
   go_wp2_with fail
   go_ret
   exact ⟨by rw [HR.out]; rfl,hb1.trans (hbr.mono hb1.size)⟩
  ·have hklt:((k:Nat):Int) < 3:=by omega
   obtain ⟨kd,n,hkn⟩:∃ kd n,q2i s k=(kd,n):=⟨_,_,rfl⟩
   have hc:wr.cell? ⟨W.heap.size,k * 2,none⟩=some (.int .u8 kd)/\wr.cell? ⟨W.heap.size,k * 2+1,none⟩=some (.int .i64 n):=by
    have hk3:k=0\/k=1\/k=2:=by omega
    rcases hk3 with rfl | rfl | rfl
    ·have e:s.height=(kd,n):=hkn
     exact ⟨(g3.cell 0).trans (by rw [e]; rfl),(g3.cell 1).trans (by rw [e]; rfl)⟩
    ·have e:s.minH=(kd,n):=hkn
     exact ⟨(g3.cell 2).trans (by rw [e]; rfl),(g3.cell 3).trans (by rw [e]; rfl)⟩
    ·have e:s.maxH=(kd,n):=hkn
     exact ⟨(g3.cell 4).trans (by rw [e]; rfl),(g3.cell 5).trans (by rw [e]; rfl)⟩
   obtain ⟨d0,d1⟩:=hc
   have HBad:=Lib.hid (show tallR (kd,n)=false->qld s=false from fun hf=>by
    unfold qld
    have hk3:k=0\/k=1\/k=2:=by omega
    rcases hk3 with rfl | rfl | rfl
    ·rw [show s.height=(kd,n) from hkn,hf]; rfl
    ·rw [show s.minH=(kd,n) from hkn,hf]; simp
    ·rw [show s.maxH=(kd,n) from hkn,hf]; simp)
   have HT:=Lib.hid (show tallR (kd,n)=(!decide (kd=2) && qqa (kd,n) 0) from rfl)
   have HKN:=Lib.hid hkn
   have hkr:k<=2:=by omega
   clear hkn g3 h3 hk
   cases q0:((kd:Int) == 2) with
   | true =>
    have h2:kd=2:=by simp at q0; omega
    have HQ:=Lib.hid (HBad.out (by rw [HT.out,decide_eq_true h2]; rfl))
    clear h2
    go_wp2_with fail
    go_ret
    exact ⟨by rw [HQ.out]; rfl,(hb1.trans (hbr.mono hb1.size)).alloc (hb1.trans (hbr.mono hb1.size)).size _⟩
   | false =>
    have h2:¬ kd=2:=by simp at q0; omega
    have HN:=Lib.hid (show tallR (kd,n)=qqa (kd,n) 0 from HT.out.trans (by rw [decide_eq_false h2]; rfl))
    clear h2
    go_wp2_with fail
    refine (qfe _ _ _ _).mono ?_
    rintro e w1 ⟨rfl,hb2⟩
    have hb3:Below wr.heap.size wr w1:=(qra _ _).trans (hb2.mono (by simp))
    clear hb2
    cases q1:qqa (kd,n) 0 with
    | false =>
     have HQ:=Lib.hid (HBad.out (HN.out.trans q1))
     go_wp2_with fail
     go_ret
     exact ⟨by rw [HQ.out]; rfl,hb1.trans ((hbr.trans (hb3.mono hbr.size)).mono hb1.size)⟩
    | true =>
     go_wp2_with fail
     go_roundw
     case rel=>exact ⟨k+1,by omega,by go_num,fun j hj=>by
      by_cases hjk:j=k
      ·subst hjk; rw [HKN.out]; exact HN.out.trans q1
      ·exact hAll.out j (by omega),hbr.trans (hb3.mono hbr.size)⟩
     case measure=>simp [intOf]; omega
def q5a (s:St) (k:Nat):Ln×Int×Int:=if k=0 then (s.mT,s.pT,s.bT) else if k=1 then (s.mR,s.pR,s.bR) else if k=2 then (s.mB,s.pB,s.bB) else (s.mL,s.pL,s.bL)
theorem qis {V:World} {g:Nat} {s:St} (h:Blk V g 33 (stC s).toArray) {k:Nat} (hk:k < 4) :
  V.cell? ⟨g,14+k * 2,none⟩=some (.int .u8 (q5a s k).1.1)/\V.cell? ⟨g,14+k * 2+1,none⟩=some (.int .i64 (q5a s k).1.2)/\V.cell? ⟨g,22+k,none⟩=some (.int .i64 (q5a s k).2.1)/\V.cell? ⟨g,26+k,none⟩=some (.int .i64 (q5a s k).2.2):=by
 have hk4:k=0\/k=1\/k=2\/k=3:=by omega
 rcases hk4 with rfl | rfl | rfl | rfl
 ·exact ⟨h.cell 14,h.cell 15,h.cell 22,h.cell 26⟩
 ·exact ⟨h.cell 16,h.cell 17,h.cell 23,h.cell 27⟩
 ·exact ⟨h.cell 18,h.cell 19,h.cell 24,h.cell 28⟩
 ·exact ⟨h.cell 20,h.cell 21,h.cell 25,h.cell 29⟩
def R6A (s:St) (W0:World) (i:Value) (wr:World):Prop:=∃ k:Nat,k<=4/\i=.int .i64 k/\(∀ j,j < k->sideR (q5a s j).1 (q5a s j).2.1 (q5a s j).2.2=true)/\Below W0.heap.size W0 wr
set_option maxRecDepth 100000 in
set_option maxHeartbeats 4000000 in
theorem q0u (s:St) (w:World):Calls Tryz.prog 79 #[.agg (stC s).toArray] w (qnc (qrc s) w):=by
 obtain ⟨W,hW,hbel,g1,-⟩:=qya w 33 (stC s)
 go_enter Tryz.func79,Tryz.ntmps79
 go_upto_region 1 with fail
 change Code.wp _ _ _ _ (w.alloc (.cells (stC s).toArray 33))
 rw [<-hW]
 clear hW
 go_wp2_with fail
 go_loopw [4] (R6A s W) (fun i _=>4 - (intOf i).toNat)
 case atStart=>exact ⟨0,by omega,rfl,fun j hj=>by omega,Below.refl _ _⟩
 case round =>
  obtain ⟨k,hk,rfl,hall,hbr⟩:=hrel
  have hAll:=Lib.hid hall
  clear hall
  by_cases h4:k=4
  ·subst h4
   have HR:=Lib.hid (show qrc s=true by
    have h0:=hAll.out 0 (by omega)
    have h1:=hAll.out 1 (by omega)
    have h2:=hAll.out 2 (by omega)
    have h3:=hAll.out 3 (by omega)
    simp only [q5a] at h0 h1 h2 h3
    unfold qrc
    simp_all)
   clear hAll
   go_wp2_with fail
   go_ret
   exact ⟨by rw [HR.out]; rfl,hbel.trans (hbr.mono hbel.size)⟩
  ·have hk4:k < 4:=by omega
   have hklt:((k:Nat):Int) < 4:=by omega
   have L:∀ V,Below wr.heap.size wr V->V.cell? ⟨w.heap.size,14+k * 2,none⟩=some (.int .u8 (q5a s k).1.1)/\V.cell? ⟨w.heap.size,14+k * 2+1,none⟩=some (.int .i64 (q5a s k).1.2)/\V.cell? ⟨w.heap.size,22+k,none⟩=some (.int .i64 (q5a s k).2.1)/\V.cell? ⟨w.heap.size,26+k,none⟩=some (.int .i64 (q5a s k).2.2):=fun V hV=>by
    have g2:=g1.below hbr g1.lt
    exact qis (g2.below hV g2.lt) hk4
   have HBad:=Lib.hid (show sideR (q5a s k).1 (q5a s k).2.1 (q5a s k).2.2=false->qrc s=false from fun hf=>by
    unfold qrc
    have hk3:k=0\/k=1\/k=2\/k=3:=by omega
    rcases hk3 with rfl | rfl | rfl | rfl
    ·simp only [q5a] at hf; simp_all
    ·simp only [q5a] at hf; simp_all
    ·simp only [q5a] at hf; simp_all
    ·simp only [q5a] at hf; simp_all)
   obtain ⟨x,hx⟩:∃ x,x=q5a s k:=⟨_,rfl⟩
   rw [<-hx] at L HBad
   obtain ⟨⟨kd,n⟩,p,b⟩:=x
   have HX:=Lib.hid hx
   have HT:=Lib.hid (show sideR (kd,n) p b=(qqa (kd,n) (-274877906944) && qga p 0 274877906944 && qga b 0 274877906944) from rfl)
   clear hx h4 hk
   have hww:=hbel.trans (hbr.mono hbel.size)
   obtain ⟨d0,d1,_,_⟩:=L wr (Below.refl _ _)
   go_wp2_with fail
   refine (qfe _ _ _ _).mono ?_
   rintro e w1 ⟨rfl,hb1⟩
   clear d0 d1
   obtain ⟨_,_,d2,d3⟩:=L w1 hb1
   have hw1:=hww.trans (hb1.mono hww.size)
   cases q0:qqa (kd,n) (-274877906944) with
   | false =>
    have HQ:=Lib.hid (HBad.out (by rw [HT.out,q0]; rfl))
    go_wp2_with fail
    go_ret
    exact ⟨by rw [HQ.out]; rfl,hw1⟩
   | true =>
    have HT2:=Lib.hid (show sideR (kd,n) p b=(qga p 0 274877906944 && qga b 0 274877906944) by rw [HT.out,q0]; rfl)
    clear HT
    cases q1:qga p 0 274877906944 with
    | false =>
     have HQ:=Lib.hid (HBad.out (by rw [HT2.out,q1]; rfl))
     go_wp2_with (go_at_call 80; refine (qqd _ _ _ _).mono ?_; rintro e w' ⟨rfl,rfl⟩)
     go_ret
     exact ⟨by rw [HQ.out]; rfl,hw1⟩
    | true =>
     cases q2:qga b 0 274877906944 with
     | false =>
      have HQ:=Lib.hid (HBad.out (by rw [HT2.out,q1,q2]; rfl))
      go_wp2_with (go_at_call 80; refine (qqd _ _ _ _).mono ?_; rintro e w' ⟨rfl,rfl⟩)
      go_ret
      exact ⟨by rw [HQ.out]; rfl,hw1⟩
     | true =>
      have HQ:=Lib.hid (show sideR (kd,n) p b=true by rw [HT2.out,q1,q2]; rfl)
      go_wp2_with (go_at_call 80; refine (qqd _ _ _ _).mono ?_; rintro e w' ⟨rfl,rfl⟩)
      go_roundw
      case rel=>exact ⟨k+1,by omega,by go_num,fun j hj=>by
       by_cases hjk:j=k
       ·subst hjk; rw [<-HX.out]; exact HQ.out
       ·exact hAll.out j (by omega),hbr.trans (hb1.mono hbr.size)⟩
      case measure=>simp [intOf]; omega
def ruleF (k:Nat):FuncId:=match k with
 | 0=>73
 | 1=>74
 | 2=>75
 | 3=>76
 | 4=>78
 | 5=>79
 | 6=>81
 | 7=>82
 | _=>83
def ruleB (s:St) (k:Nat):Bool:=match k with
 | 0=>qqe s
 | 1=>qse s
 | 2=>qxe s
 | 3=>q0e s
 | 4=>qld s
 | 5=>qrc s
 | 6=>qge s
 | 7=>q9d s
 | _=>qwe s
theorem nine {k:Nat} (hk:k < 9):k=0\/k=1\/k=2\/k=3\/k=4\/k=5\/k=6\/k=7\/k=8:=by omega
theorem q9p {k:Nat} (hk:k < 9):∀ args w,(callFunc (ruleF k) args).run Tryz.prog w=.ok (.enter (ruleF k) args) w:=by
 rcases nine hk with rfl | rfl | rfl | rfl | rfl | rfl | rfl | rfl | rfl
 ·exact enters_of Tryz.func73 (by kernel_rfl) rfl
 ·exact enters_of Tryz.func74 (by kernel_rfl) rfl
 ·exact enters_of Tryz.func75 (by kernel_rfl) rfl
 ·exact enters_of Tryz.func76 (by kernel_rfl) rfl
 ·exact enters_of Tryz.func78 (by kernel_rfl) rfl
 ·exact enters_of Tryz.func79 (by kernel_rfl) rfl
 ·exact enters_of Tryz.func81 (by kernel_rfl) rfl
 ·exact enters_of Tryz.func82 (by kernel_rfl) rfl
 ·exact enters_of Tryz.func83 (by kernel_rfl) rfl
theorem qwq (s:St) {k:Nat} (hk:k < 9) (w:World):Calls Tryz.prog (ruleF k) #[.agg (stC s).toArray] w (qnc (ruleB s k) w):=by
 rcases nine hk with rfl | rfl | rfl | rfl | rfl | rfl | rfl | rfl | rfl
 ·exact qzw s w
 ·exact qkv s w
 ·exact qzv s w
 ·exact q6q s w
 ·exact qht s w
 ·exact q0u s w
 ·exact qqu s w
 ·exact q9s s w
 ·exact qmx s w
def qsi:Array Value:=#[.func (.func 73) #[] #[],.func (.func 74) #[] #[],.func (.func 75) #[] #[],.func (.func 76) #[] #[],.func (.func 78) #[] #[],.func (.func 79) #[] #[],.func (.func 81) #[] #[],.func (.func 82) #[] #[],.func (.func 83) #[] #[]]
theorem q9v {k:Nat} (hk:k < 9):qsi[k]?=some (.func (.func (ruleF k)) #[] #[]):=by
 rcases nine hk with rfl | rfl | rfl | rfl | rfl | rfl | rfl | rfl | rfl <;> rfl
theorem qrr (w:World):Calls Tryz.prog 58 #[] w fun e w'=>e=.returned (.slice (some ⟨w.heap.size,0,none⟩) 9 9)/\w'=w.alloc (.cells qsi 63):=by
 go_enter Tryz.func58,Tryz.ntmps58
 go_wp2
 go_ret
 exact ⟨rfl,rfl⟩
theorem qah (s:St):stOk s=true↔∀ j,j < 9->ruleB s j=true:=by
 rw [qzq]
 constructor
 ·intro h j hj
  simp only [Bool.and_eq_true] at h
  rcases nine hj with rfl | rfl | rfl | rfl | rfl | rfl | rfl | rfl | rfl <;> simp [ruleB,h]
 ·intro h
  have h0:qqe s=true:=h 0 (by omega)
  have h1:qse s=true:=h 1 (by omega)
  have h2:qxe s=true:=h 2 (by omega)
  have h3:q0e s=true:=h 3 (by omega)
  have h4:qld s=true:=h 4 (by omega)
  have h5:qrc s=true:=h 5 (by omega)
  have h6:qge s=true:=h 6 (by omega)
  have h7:q9d s=true:=h 7 (by omega)
  have h8:qwe s=true:=h 8 (by omega)
  rw [h0,h1,h2,h3,h4,h5,h6,h7,h8]
  rfl
theorem q8a (s:St):∀ j v,(stC s)[j]?=some v->(stC s)[0+j]?=some v:=fun j v h=>by rwa [Nat.zero_add]
def MayA (s:St) (W0:World) (i:Value) (wr:World):Prop:=∃ k:Nat,k<=9/\i=.int .i64 k/\(∀ j,j < k->ruleB s j=true)/\Below W0.heap.size W0 wr
set_option maxRecDepth 100000 in
set_option maxHeartbeats 4000000 in
theorem q0n (s:St) (w:World):Calls Tryz.prog 45 #[.agg (stC s).toArray] w (qnc (stOk s) w):=by
 obtain ⟨W,hW,hbel,g1,-⟩:=qya w 33 (stC s)
 go_enter Tryz.func45,Tryz.ntmps45
 go_upto_region 1 with fail
 change Code.wp _ _ _ _ (w.alloc (.cells (stC s).toArray 33))
 rw [<-hW]
 clear hW
 go_wp2_with fail
 refine (qrr _).mono ?_
 rintro e W1 ⟨rfl,hW1⟩
 have g2:Blk W1 W.heap.size 63 qsi:=by rw [hW1]; exact Blk.new _ _ _
 have hb1:Below W.heap.size W W1:=by rw [hW1]; exact qra _ _
 clear hW1
 go_wp2_with fail
 go_loopw [7] (MayA s W1) (fun i _=>9 - (intOf i).toNat)
 case atStart=>exact ⟨0,by omega,rfl,fun j hj=>by omega,Below.refl _ _⟩
 case round =>
  obtain ⟨k,hk,rfl,hall,hbr⟩:=hrel
  have hAll:=Lib.hid hall
  clear hall
  have hbw:Below W.heap.size W wr:=hb1.trans (hbr.mono hb1.size)
  have hww:=hbel.trans (hbw.mono hbel.size)
  by_cases h9:k=9
  ·subst h9
   have HR:=Lib.hid ((qah s).2 hAll.out)
   clear hAll
   go_wp2_with fail
   go_ret
   exact ⟨by rw [HR.out]; rfl,hww⟩
  ·have hk9:k < 9:=by omega
   have hklt:((k:Nat):Int) < 9:=by omega
   have c0:wr.cell? ⟨W.heap.size,k,none⟩=some (.func (.func (ruleF k)) #[] #[]):=((g2.below hbr g2.lt).cell k).trans (q9v hk9)
   have g3:Blk wr w.heap.size 33 (stC s).toArray:=g1.below hbw g1.lt
   have eg:=q9p hk9
   have hc:=qwq s hk9
   cases q:ruleB s k with
   | false =>
    have HQ:=Lib.hid (show stOk s=false by
     cases h:stOk s with
     | false=>rfl
     | true=>have:=(qah s).1 h k hk9; rw [q] at this; cases this)
    rw [q] at hc
    clear q
    go_wp2_with (refine qwa rfl 33 _ rfl w.heap.size 0 33 (stC s) (stC s) _ rfl g3 (q8a s) Tryz.underlying33 rfl qoa ?_)
    refine (hc _).mono ?_
    rintro e w1 ⟨rfl,hb2⟩
    go_wp2_with fail
    go_ret
    exact ⟨by rw [HQ.out]; rfl,hww.trans (hb2.mono hww.size)⟩
   | true =>
    have HQ:=Lib.hid q
    rw [q] at hc
    clear q
    go_wp2_with (refine qwa rfl 33 _ rfl w.heap.size 0 33 (stC s) (stC s) _ rfl g3 (q8a s) Tryz.underlying33 rfl qoa ?_)
    refine (hc _).mono ?_
    rintro e w1 ⟨rfl,hb2⟩
    go_wp2_with fail
    go_roundw
    case rel=>exact ⟨k+1,by omega,by go_num,fun j hj=>by
     by_cases hjk:j=k
     ·subst hjk; exact HQ.out
     ·exact hAll.out j (by omega),hbr.trans (hb2.mono hbr.size)⟩
    case measure=>simp [intOf]; omega
set_option maxRecDepth 100000 in
set_option maxHeartbeats 4000000 in
theorem q9t (s:St) (w:World):Calls Tryz.prog 89 #[.agg (stC s).toArray,.int .i64 3,.int .i64 1] w fun e w'=>e=.returned (.int .i64 (w64 (w64 (w64 (s.pL+s.bL)+s.pR)+s.bR)))/\Below w.heap.size w w':=by
 obtain ⟨W,hW,hbel,g1,-⟩:=qya w 33 (stC s)
 have c25:W.cell? ⟨w.heap.size,25,none⟩=some (.int .i64 s.pL):=g1.cell 25
 have c29:W.cell? ⟨w.heap.size,29,none⟩=some (.int .i64 s.bL):=g1.cell 29
 have c23:W.cell? ⟨w.heap.size,23,none⟩=some (.int .i64 s.pR):=g1.cell 23
 have c27:W.cell? ⟨w.heap.size,27,none⟩=some (.int .i64 s.bR):=g1.cell 27
 go_enter Tryz.func89,Tryz.ntmps89
 go_upto_region 1 with fail
 change Code.wp _ _ _ _ (w.alloc (.cells (stC s).toArray 33))
 rw [<-hW]
 clear hW g1
 go_wp2_with fail
 go_quiet (fail)
 go_wp2_with fail
 go_ret
 exact ⟨rfl,qzc hbel _⟩
set_option maxRecDepth 100000 in
set_option maxHeartbeats 4000000 in
theorem qcs (s:St) (w:World):Calls Tryz.prog 89 #[.agg (stC s).toArray,.int .i64 0,.int .i64 2] w fun e w'=>e=.returned (.int .i64 (w64 (w64 (w64 (s.pT+s.bT)+s.pB)+s.bB)))/\Below w.heap.size w w':=by
 obtain ⟨W,hW,hbel,g1,-⟩:=qya w 33 (stC s)
 have c22:W.cell? ⟨w.heap.size,22,none⟩=some (.int .i64 s.pT):=g1.cell 22
 have c26:W.cell? ⟨w.heap.size,26,none⟩=some (.int .i64 s.bT):=g1.cell 26
 have c24:W.cell? ⟨w.heap.size,24,none⟩=some (.int .i64 s.pB):=g1.cell 24
 have c28:W.cell? ⟨w.heap.size,28,none⟩=some (.int .i64 s.bB):=g1.cell 28
 go_enter Tryz.func89,Tryz.ntmps89
 go_upto_region 1 with fail
 change Code.wp _ _ _ _ (w.alloc (.cells (stC s).toArray 33))
 rw [<-hW]
 clear hW g1
 go_wp2_with fail
 go_quiet (fail)
 go_wp2_with fail
 go_ret
 exact ⟨rfl,qzc hbel _⟩
theorem qbg {m:Ln} {p b:Int} (h:sideR m p b=true):0<=p/\p<=274877906944/\0<=b/\b<=274877906944:=by
 simp only [sideR,qga,Bool.and_eq_true,decide_eq_true_eq] at h
 omega
theorem qko {s:St} (h:stOk s=true):(0<=s.pT/\s.pT<=274877906944/\0<=s.bT/\s.bT<=274877906944)/\(0<=s.pR/\s.pR<=274877906944/\0<=s.bR/\s.bR<=274877906944)/\(0<=s.pB/\s.pB<=274877906944/\0<=s.bB/\s.bB<=274877906944)/\(0<=s.pL/\s.pL<=274877906944/\0<=s.bL/\s.bL<=274877906944):=by
 have h6:qrc s=true:=(qah s).1 h 5 (by omega)
 simp only [qrc,Bool.and_eq_true] at h6
 exact ⟨qbg h6.1.1.1,qbg h6.1.1.2,qbg h6.1.2,qbg h6.2⟩
set_option maxRecDepth 100000 in
set_option maxHeartbeats 4000000 in
theorem q1d (s:St) (w:World):Calls Tryz.prog 63 #[.agg (stC s).toArray] w fun e w'=>e=.returned (.tuple #[.int .i64 (qha s).1,.int .i64 (qha s).2.1,.int .i64 (qha s).2.2])/\Below w.heap.size w w':=by
 obtain ⟨W,hW,hbel,g1,-⟩:=qya w 33 (stC s)
 go_enter Tryz.func63,Tryz.ntmps63
 go_upto_region 1 with fail
 change Code.wp _ _ _ _ (w.alloc (.cells (stC s).toArray 33))
 rw [<-hW]
 clear hW
 go_wp2_with (refine qwa rfl 33 _ rfl w.heap.size 0 33 (stC s) (stC s) _ rfl g1 (q8a s) Tryz.underlying33 rfl qoa ?_)
 refine (q0n s W).mono ?_
 rintro e w1 ⟨rfl,hb1⟩
 have hw1:=hbel.trans (hb1.mono hbel.size)
 have g2:=g1.below hb1 g1.lt
 cases q:stOk s with
 | false =>
  have HE:=Lib.hid (show qha s=(0,0,60) by unfold qha; rw [q]; rfl)
  go_wp2_with fail
  refine bodyPost_ret (results_tmp3 rfl _ _ _) rfl ?_
  exact ⟨by rw [HE.out]; rfl,hw1⟩
 | true =>
  have hbd:=qko q
  have HE:=Lib.hid (show qha s=(w64 (w64 (w64 (s.pL+s.bL)+s.pR)+s.bR),w64 (w64 (w64 (s.pT+s.bT)+s.pB)+s.bB),0) by
   unfold qha
   rw [q,if_pos rfl]
   unfold qfc upR w64 wrap64
   congr 1
   ·omega
   ·congr 1
    omega)
  clear hbd q
  have H1:=q9t s
  have H2:=qcs s
  go_wp2_with fail
  refine qeb w1.heap.size (by kernel_rfl) (by kernel_rfl) ?_
  repeat (first | (refine q8f rfl 33 _ rfl w.heap.size 0 (stC s) _ rfl (fun _ ⟨W,e⟩=>e ▸ qwl (g2.below W.ok g2.lt)) Tryz.underlying33 rfl qoa ?_; simp only [Act.put,zA,zB,zC]) | (go_big_quiet_step (first | (go_at_call 89; first | (with_reducible exact qdn (Nat.le_refl _) H1 _) | (with_reducible exact qdn (Nat.le_refl _) H2 _)))))
  refine wpQuiet_nil ?_
  intro w3 hw'
  obtain ⟨⟨wq,hQ⟩,rfl⟩:=hw'
  go_wp2_with fail
  refine bodyPost_ret (results_tmp3 rfl _ _ _) rfl ?_
  exact ⟨by rw [HE.out]; rfl,hw1.trans (hQ.mono hw1.size)⟩
end Go.Proofs.YtlnekijhbnlclaaGreatDoor
