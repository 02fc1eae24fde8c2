/-
  Walks: the law RightHit.
-/
import Derived.Test.YtlnekijhbnlclaaGreatDoorAwake19
import Derived.Test.YtlnekijhbnlclaaGreatDoorHit
import Derived.Test.YtlnekijhbnlclaaGreatDoorFlowPlain
namespace Go.Proofs.YtlnekijhbnlclaaGreatDoor
open Go.RowKit
def HlA (fs:List Fr) (w0:World) (i:Value) (wr:World):Prop:=∃ k:Nat,k<=fs.length/\i=.int .i64 k/\(∀ j (hj:j < fs.length),j < k->smF fs[j])/\Below w0.heap.size w0 wr
def HmA (fs:List Fr) (w0:World) (i:Value) (wr:World):Prop:=∃ k:Nat,k<=fs.length/\i=.int .i64 k/\Below w0.heap.size w0 wr
set_option maxRecDepth 100000 in
set_option maxHeartbeats 8000000 in
theorem qkt (fs:List Fr) (x y:Int) (v:Value) (w:World) (h:Frags w w.heap.size v fs) (hml:∃ m,w.cell? ⟨2,0,none⟩=some (.int .i64 m)) :
  qmi 9 #[v,.int .i64 x,.int .i64 y] w:=by
 unfold qmi
 have haw:=q1p w hml
 have h':=h
 obtain ⟨A,c,rfl,_,_⟩:=h'
 by_cases hm:300 < fs.length
 ·have hm':(300:Int) < (fs.length:Int):=by omega
  go_enter Tryz.func9,Tryz.ntmps9
  go_wp2_with fail
  refine haw.mono ?_
  rintro e w1 ⟨rfl,hb1⟩
  go_wp2_with fail
  go_ret
  exact ⟨rfl,hb1⟩
 ·have hm':¬ (300:Int) < (fs.length:Int):=by omega
  go_enter Tryz.func9,Tryz.ntmps9
  go_wp2_with fail
  refine haw.mono ?_
  rintro e w1 ⟨rfl,hb1⟩
  clear haw hml
  have h1:=h.below hb1
  have h1s:=hb1.size
  have hf:=h.below hb1
  obtain ⟨_,_,e0,_,hf⟩:=hf
  cases e0
  go_wp2_with fail
  go_loopw [7] (HlA fs w) (fun i _=>fs.length - (intOf i).toNat)
  case atStart=>exact ⟨0,Nat.zero_le _,rfl,(fun j hj h0=>absurd h0 (by omega)),hb1⟩
  case round =>
   obtain ⟨k,hk,rfl,hsm,hbr⟩:=hrel
   have hbs:=hbr.size
   have HSM:=Lib.hid hsm
   clear hsm
   by_cases hlt:k < fs.length
   ·obtain ⟨ad,rfl,hbk,hat⟩:=hf (by omega)
    have hat0:=hat
    have h2:=h.below hbr
    obtain ⟨_,_,e0,_,hf2⟩:=h2
    cases e0
    obtain ⟨ad',e1,_,hat2⟩:=hf2 (by omega)
    cases e1
    obtain ⟨k0,k1,k2,k3,k4,k5,k6,k7⟩:=hat2 k hlt
    clear hat hat0 hat2 hf hf2
    have HS:=Lib.hid (show smF fs[k]->∀ j (hj:j < fs.length),j < k+1->smF fs[j] from fun h0 j hj hjk=>by
     by_cases e:j=k
     ·subst e; exact h0
     ·exact HSM.out j hj (by omega))
    generalize fs[k]=f at *
    obtain ⟨n,p,d,fx,fy,fw,fh,s⟩:=f
    simp only at k0 k1 k2 k3 k4 k5 k6 k7
    have hbA:Below w.heap.size w (wr.alloc (.cells #[.int .i64 n,.int .i64 p,.int .i64 d,.int .i64 fx,.int .i64 fy,.int .i64 fw,.int .i64 fh,.string s] 42)):=hbr.alloc hbs _
    have h9:fx < -274877906944\/(¬ fx < -274877906944/\274877906944 < fx)\/(¬ fx < -274877906944/\¬ 274877906944 < fx/\fy < -274877906944)\/(¬ fx < -274877906944/\¬ 274877906944 < fx/\¬ fy < -274877906944/\274877906944 < fy) \/
      (¬ fx < -274877906944/\¬ 274877906944 < fx/\¬ fy < -274877906944/\¬ 274877906944 < fy/\fw < 0)\/(¬ fx < -274877906944/\¬ 274877906944 < fx/\¬ fy < -274877906944/\¬ 274877906944 < fy/\¬ fw < 0/\274877906944 < fw) \/
      (¬ fx < -274877906944/\¬ 274877906944 < fx/\¬ fy < -274877906944/\¬ 274877906944 < fy/\¬ fw < 0/\¬ 274877906944 < fw/\fh < 0)\/(¬ fx < -274877906944/\¬ 274877906944 < fx/\¬ fy < -274877906944/\¬ 274877906944 < fy/\¬ fw < 0/\¬ 274877906944 < fw/\¬ fh < 0/\274877906944 < fh) \/
      (¬ fx < -274877906944/\¬ 274877906944 < fx/\¬ fy < -274877906944/\¬ 274877906944 < fy/\¬ fw < 0/\¬ 274877906944 < fw/\¬ fh < 0/\¬ 274877906944 < fh):=by
     by_cases g1:fx < -274877906944
     ·exact .inl g1
     by_cases g2:274877906944 < fx
     ·exact .inr (.inl ⟨g1,g2⟩)
     by_cases g3:fy < -274877906944
     ·exact .inr (.inr (.inl ⟨g1,g2,g3⟩))
     by_cases g4:274877906944 < fy
     ·exact .inr (.inr (.inr (.inl ⟨g1,g2,g3,g4⟩)))
     by_cases g5:fw < 0
     ·exact .inr (.inr (.inr (.inr (.inl ⟨g1,g2,g3,g4,g5⟩))))
     by_cases g6:274877906944 < fw
     ·exact .inr (.inr (.inr (.inr (.inr (.inl ⟨g1,g2,g3,g4,g5,g6⟩)))))
     by_cases g7:fh < 0
     ·exact .inr (.inr (.inr (.inr (.inr (.inr (.inl ⟨g1,g2,g3,g4,g5,g6,g7⟩))))))
     by_cases g8:274877906944 < fh
     ·exact .inr (.inr (.inr (.inr (.inr (.inr (.inr (.inl ⟨g1,g2,g3,g4,g5,g6,g7,g8⟩)))))))
     exact .inr (.inr (.inr (.inr (.inr (.inr (.inr (.inr ⟨g1,g2,g3,g4,g5,g6,g7,g8⟩)))))))
    rcases h9 with g1 | ⟨g1,g2⟩ | ⟨g1,g2,g3⟩ | ⟨g1,g2,g3,g4⟩ | ⟨g1,g2,g3,g4,g5⟩ | ⟨g1,g2,g3,g4,g5,g6⟩ | ⟨g1,g2,g3,g4,g5,g6,g7⟩ | ⟨g1,g2,g3,g4,g5,g6,g7,g8⟩ | ⟨g1,g2,g3,g4,g5,g6,g7,g8⟩
    iterate 8
     ·go_wp2_with fail
      go_ret
      exact ⟨rfl,hbA⟩
    ·go_wp2_with fail
     go_roundw
     case rel=>exact ⟨k+1,hlt,by go_num,HS.out (by unfold smF; dsimp only; omega),hbA⟩
     case measure=>simp [intOf] <;> omega
   ·obtain rfl:k=fs.length:=by omega
    have hall:∀ f ∈ fs,smF f:=fun f hfm=>by
     obtain ⟨j,hj,rfl⟩:=List.getElem_of_mem hfm
     exact HSM.out j hj hj
    have hF:=qes hall
    have hH:=qqw (x:=x) (y:=y) hall hF
    have f1:=fun v B w h hB=>q3g fs v B w h hB (by omega)
    have f3:=fun v B w h hB=>qao fs x y v B w h hB (by omega)
    generalize q2a (hitP fs x y) fs.length=r at *
    generalize (fillR fs).1=a1 at *
    generalize (fillR fs).2.1=a2 at *
    generalize (fillR fs).2.2.1=a3 at *
    generalize (fillR fs).2.2.2=a4 at *
    have h2:=h.below hbr
    obtain ⟨⟨ab1,ab2⟩,⟨ab3,ab4⟩⟩:=hF.ab
    obtain ⟨⟨cd1,cd2⟩,⟨cd3,cd4⟩⟩:=hF.cd
    have r1:¬ r < -1:=by have:=hH.low; omega
    have r2:¬ (fs.length:Int)<=r:=by have:=hH.high; omega
    have r3:¬ a3 < 0:=by omega
    have r4:¬ a4 < 0:=by omega
    have HH:=Lib.hid (And.intro hall (And.intro hF hH))
    have HB:=Lib.hid (And.intro (And.intro ab1 ab2) (And.intro (And.intro ab3 ab4) (And.intro (And.intro cd1 cd2) (And.intro cd3 cd4))))
    clear hall hF hH ab1 ab2 ab3 ab4 cd1 cd2 cd3 cd4 hf h1
    go_wp2_with fail
    refine (f1 _ _ wr h2 hbs).mono ?_
    rintro e w2 ⟨rfl,hb2⟩
    have hs2:=hb2.size
    have hB2:Below w.heap.size w w2:=hbr.trans (hb2.mono hbs)
    have h3:=h.below hB2
    go_wp2_with fail
    refine (f3 _ _ w2 h3 hB2.size).mono ?_
    rintro e w3 ⟨rfl,hb3⟩
    have hB3:Below w.heap.size w w3:=hB2.trans (hb3.mono hB2.size)
    clear f1 f3 h2 h3 hb2 hb3 hs2
    go_wp2_with fail
    go_loopw [14] (HmA fs w) (fun i _=>fs.length - (intOf i).toNat)
    case atStart=>exact ⟨0,Nat.zero_le _,rfl,hB3⟩
    case round =>
     obtain ⟨k,hk,rfl,hbr2⟩:=hrel
     have hbs2:=hbr2.size
     obtain ⟨ra,hra⟩:∃ ra,a1+a3=ra:=⟨_,rfl⟩
     obtain ⟨rb,hrb⟩:∃ rb,a2+a4=rb:=⟨_,rfl⟩
     have wa:IntKind.i64.wrap (a1+a3)=ra:=by have:=HB.out; rw [IntKind.wrap_i64]; omega
     have wb:IntKind.i64.wrap (a2+a4)=rb:=by have:=HB.out; rw [IntKind.wrap_i64]; omega
     have wa':wrap64 (a1+a3)=ra:=by rw [<-wa,IntKind.wrap_i64]; unfold wrap64; rfl
     have wb':wrap64 (a2+a4)=rb:=by rw [<-wb,IntKind.wrap_i64]; unfold wrap64; rfl
     have HRA:=Lib.hid (And.intro hra hrb)
     clear hra hrb
     by_cases hlt:k < fs.length
     ·have h4:=h.below hbr2
      obtain ⟨_,_,e0,_,hf4⟩:=h4
      cases e0
      obtain ⟨ad,rfl,_,hat⟩:=hf4 (by omega)
      obtain ⟨k0,k1,k2,k3,k4,k5,k6,k7⟩:=hat k hlt
      clear hat hf4
      have hin:=HH.out.2.1.in_ fs[k] (List.getElem_mem hlt)
      have hsmk:=HH.out.1 fs[k] (List.getElem_mem hlt)
      have his:=HH.out.2.2.is k hlt
      have hpast:=HH.out.2.2.past k hlt
      generalize fs[k]=f at *
      obtain ⟨n,p,d,fx,fy,fw,fh,s⟩:=f
      have hwr:=qak hsmk
      have hcv:=qrj hsmk x y
      obtain ⟨cv,hcv'⟩:∃ cv,cov ⟨n,p,d,fx,fy,fw,fh,s⟩ x y=cv:=⟨_,rfl⟩
      rw [hcv'] at hcv his hpast
      clear hcv' hsmk
      dsimp only at k0 k1 k2 k3 k4 k5 k6 k7 hin hwr hcv
      obtain ⟨r0,hr0⟩:∃ r0,fx+fw=r0:=⟨_,rfl⟩
      obtain ⟨b0,hb0⟩:∃ b0,fy+fh=b0:=⟨_,rfl⟩
      rw [hr0,hb0] at hwr hcv hin
      rw [HRA.out.1,HRA.out.2] at hin
      obtain ⟨w1',w2'⟩:=hwr
      have hw1:IntKind.i64.wrap (fx+fw)=r0:=by rw [hr0]; exact w1'
      have hw2:IntKind.i64.wrap (fy+fh)=b0:=by rw [hb0]; exact w2'
      have hw3:wrap64 (fx+fw)=r0:=by rw [<-hw1,IntKind.wrap_i64]; unfold wrap64; rfl
      have hw4:wrap64 (fy+fh)=b0:=by rw [<-hw2,IntKind.wrap_i64]; unfold wrap64; rfl
      clear hr0 hb0 w1' w2'
      have hbA:Below w.heap.size w (wr.alloc (.cells #[.int .i64 n,.int .i64 p,.int .i64 d,.int .i64 fx,.int .i64 fy,.int .i64 fw,.int .i64 fh,.string s] 42)):=hbr2.alloc hbs2 _
      have HIN:=Lib.hid hin
      have HIS:=Lib.hid (And.intro his hpast)
      have HCV:=Lib.hid hcv
      clear hin his hpast hcv
      go_upto_region 19 with fail
      go_cut [16] (fun q wx=>q=.bool cv/\wx=wr.alloc (.cells #[.int .i64 n,.int .i64 p,.int .i64 d,.int .i64 fx,.int .i64 fy,.int .i64 fw,.int .i64 fh,.string s] 42))
      case first =>
       cases cv with
       | true =>
        obtain ⟨g1,g2,g3,g4⟩:=HCV.out.1 rfl
        go_wp2_with fail
        go_meet
        exact ⟨rfl,rfl⟩
       | false =>
        have hn:¬ fx<=x\/(fx<=x/\¬ fy<=y)\/(fx<=x/\fy<=y/\¬ x < r0)\/(fx<=x/\fy<=y/\x < r0/\¬ y < b0):=by
         have:¬ (fx<=x/\x < r0/\fy<=y/\y < b0):=fun h=>by cases HCV.out.2 h
         omega
        rcases hn with g1 | ⟨g1,g2⟩ | ⟨g1,g2,g3⟩ | ⟨g1,g2,g3,g4⟩
        all_goals
         go_wp2_with fail
         go_meet
         exact ⟨rfl,rfl⟩
      case rest =>
       obtain ⟨rfl,rfl⟩:=hcut
       go_upto_region 20 with fail
       go_cut [149] (fun q wx=>q=.bool false/\wx=wr.alloc (.cells #[.int .i64 n,.int .i64 p,.int .i64 d,.int .i64 fx,.int .i64 fy,.int .i64 fw,.int .i64 fh,.string s] 42))
       case first =>
        rcases Int.lt_trichotomy (k:Int) r with g | g | g
        ·have z1:((k:Int) == r)=false:=beq_false_of_ne (by omega)
         have z2:¬ r < (k:Int):=by omega
         go_wp2_with fail
         go_meet
         exact ⟨rfl,rfl⟩
        ·have z1:((k:Int) == r)=true:=by rw [beq_iff_eq]; exact g
         have z2:¬ r < (k:Int):=by omega
         obtain rfl:=HIS.out.1 g
         clear g
         go_wp2_with fail
         go_meet
         exact ⟨rfl,rfl⟩
        ·have z1:((k:Int) == r)=false:=beq_false_of_ne (by omega)
         obtain rfl:=HIS.out.2 g
         go_wp2_with fail
         go_meet
         exact ⟨rfl,rfl⟩
       case rest =>
        obtain ⟨rfl,rfl⟩:=hcut
        by_cases g1:0 < fw
        ·by_cases g2:0 < fh
         ·obtain ⟨q1,q2,q3,q4⟩:=HIN.out g1 g2
          have z1:¬ fx < a1:=by omega
          have z2:¬ fy < a2:=by omega
          have z3:¬ ra < r0:=by omega
          have z4:¬ rb < b0:=by omega
          clear q1 q2 q3 q4
          go_wp2_with fail
          go_roundw
          case rel=>exact ⟨k+1,hlt,by go_num,hbA⟩
          case measure=>simp [intOf] <;> omega
         ·go_wp2_with fail
          go_roundw
          case rel=>exact ⟨k+1,hlt,by go_num,hbA⟩
          case measure=>simp [intOf] <;> omega
        ·go_wp2_with fail
         go_roundw
         case rel=>exact ⟨k+1,hlt,by go_num,hbA⟩
         case measure=>simp [intOf] <;> omega
     ·obtain rfl:k=fs.length:=by omega
      have hin:=HH.out.2.2.in_
      by_cases r0:r < 0
      ·clear hin
       go_wp2_with fail
       go_ret
       exact ⟨rfl,hbr2⟩
      ·obtain ⟨q1,q2,q3,q4⟩:=hin (by omega)
       rw [HRA.out.1] at q2
       rw [HRA.out.2] at q4
       clear hin
       go_wp2_with fail
       go_ret
       exact ⟨rfl,hbr2⟩
end Go.Proofs.YtlnekijhbnlclaaGreatDoor
