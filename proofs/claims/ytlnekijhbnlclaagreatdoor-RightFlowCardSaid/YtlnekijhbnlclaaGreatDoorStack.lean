/-
  Walks: package block: check; Stack.
-/
import Derived.Test.YtlnekijhbnlclaaGreatDoorBlock
import Derived.Test.YtlnekijhbnlclaaGreatDoorRunePlain
set_option linter.unusedSimpArgs false
set_option linter.unusedVariables false
namespace Go.Proofs.YtlnekijhbnlclaaGreatDoor
open Go.RowKit Go.Shelf
def KidAt (W:World) (P:Addr) (k:Kd):Prop :=
 W.cell? P=some (.int .i64 k.top.1)/\W.cell? ⟨P.block,P.off+1,none⟩=some (.int .i64 k.top.2)/\W.cell? ⟨P.block,P.off+2,none⟩=some (.int .i64 k.bottom.1) /\
 W.cell? ⟨P.block,P.off+3,none⟩=some (.int .i64 k.bottom.2)/\W.cell? ⟨P.block,P.off+4,none⟩=some (.int .i64 k.height)/\W.cell? ⟨P.block,P.off+5,none⟩=some (.bool k.through)
def Kids (W:World) (B:Nat) (v:Value) (l:List Kd):Prop :=
 ∃ A c,v=.slice A l.length c/\l.length<=c/\(0 < l.length->∃ ad,A=some ad/\ad.block < B/\∀ k (hk:k < l.length),KidAt W (ad.add (k * 6)) l[k])
theorem KidAt.below {W W':World} {P:Addr} {B:Nat} {x:Kd} (h:KidAt W P x) (hb:Below B W W') (ha:P.block < B):KidAt W' P x:=by
 have e0:W'.cell? P=W.cell? P:=hb.cell ha
 have e:∀ j,W'.cell? ⟨P.block,j,none⟩=W.cell? ⟨P.block,j,none⟩:=fun j=>hb.cell (p:=⟨P.block,j,none⟩) ha
 unfold KidAt at h ⊢
 simp only [e,e0]
 exact h
theorem Kids.below {W W':World} {B:Nat} {v:Value} {l:List Kd} (h:Kids W B v l) (hb:Below B W W'):Kids W' B v l:=by
 obtain ⟨A,c,e,hc,hf⟩:=h
 refine ⟨A,c,e,hc,fun h0=>?_⟩
 obtain ⟨ad,e1,hk,hh⟩:=hf h0
 exact ⟨ad,e1,hk,fun k hk'=>(hh k hk').below hb (by rw [qac]; exact hk)⟩
def AsK (l:List Kd) (w0:World) (f i:Value) (wr:World):Prop :=
 ∃ (k:Nat) (n:Int),k<=l.length/\i=.int .i64 k/\f=.int .i64 n/\n=(if (l.take k).all fitK=true then 0 else 10)/\(l.take k).any badK=false/\Below w0.heap.size w0 wr
set_option maxRecDepth 100000 in
set_option maxHeartbeats 40000000 in
theorem qpv (l:List Kd) (v:Value) (B:Nat) (w:World) (h:Kids w B v l) (hB:B<=w.heap.size) (h1:l.length<=2048) :
  Calls Tryz.prog 143 #[v] w fun e w'=>e=.returned (.int .i64 (qlb l))/\Below w.heap.size w w':=by
 obtain ⟨A,c,rfl,hc,hf⟩:=h
 have HC:=Lib.hid (show qlb l=if l.any badK=true then 2 else if l.all fitK=true then 0 else 10 by unfold qlb; rw [if_neg (by omega)])
 have h1z:¬ (2048:Int) < (l.length:Int):=by omega
 go_enter Tryz.func143,Tryz.ntmps143
 go_wp2_with fail
 go_loopw [3,11] (AsK l w) (fun _ i _=>l.length - (intOf i).toNat)
 case atStart=>exact ⟨0,0,by omega,rfl,rfl,rfl,rfl,Below.refl _ _⟩
 case round =>
  obtain ⟨k,n,hk,rfl,rfl,hn,hbad,hbr⟩:=hrel
  have HN:=Lib.hid hn
  have hbs:=hbr.size
  clear hn
  by_cases hlt:k < l.length
  ·obtain ⟨ad,rfl,hbk,hat⟩:=hf (by omega)
   obtain ⟨k0,k1,k2,k3,k4,k5⟩:=(hat k hlt).below hbr (by rw [qac]; omega)
   have HT:=Lib.hid (show (l.take (k+1)).all fitK=((l.take k).all fitK && fitK l[k]) by rw [List.take_succ_eq_append_getElem hlt,List.all_append,List.all_cons,List.all_nil,Bool.and_true])
   have HB:=Lib.hid (show (l.take (k+1)).any badK=((l.take k).any badK || badK l[k]) by rw [List.take_succ_eq_append_getElem hlt,List.any_append,List.any_cons,List.any_nil,Bool.or_false])
   have HM:=Lib.hid (show badK l[k]=true->l.any badK=true from fun hb=>List.any_eq_true.2 ⟨l[k],List.getElem_mem hlt,hb⟩)
   generalize l[k]=x at *
   clear hat hf
   obtain ⟨⟨t1,t2⟩,⟨b1,b2⟩,hh,th⟩:=x
   have fo1:=fun W=>q2l (t1,t2) W
   have fo2:=fun W=>q2l (b1,b2) W
   have fm1:=fun W=>qkl (t1,t2) W
   have fm2:=fun W=>qkl (b1,b2) W
   have ff:=fun t W=>qmc hh t W
   obtain ⟨o1,ho1⟩:∃ b,oddM (t1,t2)=b:=⟨_,rfl⟩
   obtain ⟨o2,ho2⟩:∃ b,oddM (b1,b2)=b:=⟨_,rfl⟩
   obtain ⟨m1,hm1⟩:∃ b,mayM (t1,t2)=b:=⟨_,rfl⟩
   obtain ⟨m2,hm2⟩:∃ b,mayM (b1,b2)=b:=⟨_,rfl⟩
   obtain ⟨f0,hf0⟩:∃ b,fit hh=b:=⟨_,rfl⟩
   have HBI:=Lib.hid (show badK ⟨(t1,t2),(b1,b2),hh,th⟩=(decide (hh < 0) || (th && decide (0 < hh)) || o1 || o2) by rw [badK,ho1,ho2])
   have HFI:=Lib.hid (show fitK ⟨(t1,t2),(b1,b2),hh,th⟩=(f0 && m1 && m2) by rw [fitK,hf0,hm1,hm2])
   have HBAD:=Lib.hid hbad
   rw [ho1] at fo1
   rw [ho2] at fo2
   rw [hm1] at fm1
   rw [hm2] at fm2
   rw [hf0] at ff
   unfold mgV at fo1 fo2 fm1 fm2
   clear hbad ho1 ho2 hm1 hm2 hf0
   simp only at k0 k1 k2 k3 k4 k5
   have hkn:=Blk.new wr 171 #[.int .i64 t1,.int .i64 t2,.int .i64 b1,.int .i64 b2,.int .i64 hh,.bool th]
   have hbc:=hbr.alloc hbs (.cells #[.int .i64 t1,.int .i64 t2,.int .i64 b1,.int .i64 b2,.int .i64 hh,.bool th] 171)
   by_cases hm:badK ⟨(t1,t2),(b1,b2),hh,th⟩=true
   ·have HR:=Lib.hid (show qlb l=2 by rw [HC.out,if_pos (HM.out hm)])
    rw [HBI.out] at hm
    have hm2:(hh < 0)\/(¬ hh < 0/\0 < hh/\th=true)\/(¬ hh < 0/\¬ 0 < hh/\th=true/\o1=true)\/(¬ hh < 0/\th=false/\o1=true)\/(¬ hh < 0/\¬ 0 < hh/\th=true/\o1=false/\o2=true)\/(¬ hh < 0/\th=false/\o1=false/\o2=true):=by
     revert hm
     cases th <;> cases o1 <;> cases o2 <;> simp <;> omega
    clear hm
    rcases hm2 with g1 | ⟨g1,g2,rfl⟩ | ⟨g1,g2,rfl,rfl⟩ | ⟨g1,rfl,rfl⟩ | ⟨g1,g2,rfl,rfl,rfl⟩ | ⟨g1,rfl,rfl,rfl⟩
    all_goals
     go_wp2_with (first | (go_at_call 166; (first | with_reducible refine (fo1 _).mono ?_ | with_reducible refine (fo2 _).mono ?_); rintro e wx ⟨rfl,hb7⟩; have hkn:=hkn.below hb7 hkn.lt; have hbc:=hbc.trans (hb7.mono hbc.size); have d0:wx.cell? ⟨wr.heap.size,0,none⟩=some (.int .i64 t1):=hkn.cell 0; have d1:wx.cell? ⟨wr.heap.size,1,none⟩=some (.int .i64 t2):=hkn.cell 1; have d2:wx.cell? ⟨wr.heap.size,2,none⟩=some (.int .i64 b1):=hkn.cell 2; have d3:wx.cell? ⟨wr.heap.size,3,none⟩=some (.int .i64 b2):=hkn.cell 3; have d4:wx.cell? ⟨wr.heap.size,4,none⟩=some (.int .i64 hh):=hkn.cell 4; have d5:wx.cell? ⟨wr.heap.size,5,none⟩=some (.bool _):=hkn.cell 5) | (go_at_call 167; (first | with_reducible refine (fm1 _).mono ?_ | with_reducible refine (fm2 _).mono ?_); rintro e wx ⟨rfl,hb7⟩; have hkn:=hkn.below hb7 hkn.lt; have hbc:=hbc.trans (hb7.mono hbc.size); have d0:wx.cell? ⟨wr.heap.size,0,none⟩=some (.int .i64 t1):=hkn.cell 0; have d1:wx.cell? ⟨wr.heap.size,1,none⟩=some (.int .i64 t2):=hkn.cell 1; have d2:wx.cell? ⟨wr.heap.size,2,none⟩=some (.int .i64 b1):=hkn.cell 2; have d3:wx.cell? ⟨wr.heap.size,3,none⟩=some (.int .i64 b2):=hkn.cell 3; have d4:wx.cell? ⟨wr.heap.size,4,none⟩=some (.int .i64 hh):=hkn.cell 4; have d5:wx.cell? ⟨wr.heap.size,5,none⟩=some (.bool _):=hkn.cell 5) | (go_at_call 37; refine (ff _ _).mono ?_; rintro e wx ⟨rfl,hwx⟩; have hkn:=hwx ▸ hkn.alloc (.cells #[.int .i64 hh] 3); have hbc:=hwx ▸ hbc.alloc hbc.size (.cells #[.int .i64 hh] 3); clear hwx; have d0:wx.cell? ⟨wr.heap.size,0,none⟩=some (.int .i64 t1):=hkn.cell 0; have d1:wx.cell? ⟨wr.heap.size,1,none⟩=some (.int .i64 t2):=hkn.cell 1; have d2:wx.cell? ⟨wr.heap.size,2,none⟩=some (.int .i64 b1):=hkn.cell 2; have d3:wx.cell? ⟨wr.heap.size,3,none⟩=some (.int .i64 b2):=hkn.cell 3; have d4:wx.cell? ⟨wr.heap.size,4,none⟩=some (.int .i64 hh):=hkn.cell 4; have d5:wx.cell? ⟨wr.heap.size,5,none⟩=some (.bool _):=hkn.cell 5))
     go_ret
     exact ⟨by rw [HR.out]; rfl,hbc⟩
   ·have HNB:=Lib.hid (show badK ⟨(t1,t2),(b1,b2),hh,th⟩=false from Bool.eq_false_iff.2 hm)
    rw [HBI.out] at hm
    clear HM
    have hm2:(¬ hh < 0/\¬ 0 < hh/\th=true/\o1=false/\o2=false)\/(¬ hh < 0/\th=false/\o1=false/\o2=false):=by
     revert hm
     cases th <;> cases o1 <;> cases o2 <;> simp <;> omega
    have hm3:f0=false\/(f0=true/\m1=false)\/(f0=true/\m1=true/\m2=false)\/(f0=true/\m1=true/\m2=true):=by
     cases f0 <;> cases m1 <;> cases m2 <;> simp
    clear hm
    rcases hm2 with ⟨g1,g2,rfl,rfl,rfl⟩ | ⟨g1,rfl,rfl,rfl⟩
    all_goals rcases hm3 with rfl | ⟨rfl,rfl⟩ | ⟨rfl,rfl,rfl⟩ | ⟨rfl,rfl,rfl⟩
    all_goals
     go_wp2_with (first | (go_at_call 166; (first | with_reducible refine (fo1 _).mono ?_ | with_reducible refine (fo2 _).mono ?_); rintro e wx ⟨rfl,hb7⟩; have hkn:=hkn.below hb7 hkn.lt; have hbc:=hbc.trans (hb7.mono hbc.size); have d0:wx.cell? ⟨wr.heap.size,0,none⟩=some (.int .i64 t1):=hkn.cell 0; have d1:wx.cell? ⟨wr.heap.size,1,none⟩=some (.int .i64 t2):=hkn.cell 1; have d2:wx.cell? ⟨wr.heap.size,2,none⟩=some (.int .i64 b1):=hkn.cell 2; have d3:wx.cell? ⟨wr.heap.size,3,none⟩=some (.int .i64 b2):=hkn.cell 3; have d4:wx.cell? ⟨wr.heap.size,4,none⟩=some (.int .i64 hh):=hkn.cell 4; have d5:wx.cell? ⟨wr.heap.size,5,none⟩=some (.bool _):=hkn.cell 5) | (go_at_call 167; (first | with_reducible refine (fm1 _).mono ?_ | with_reducible refine (fm2 _).mono ?_); rintro e wx ⟨rfl,hb7⟩; have hkn:=hkn.below hb7 hkn.lt; have hbc:=hbc.trans (hb7.mono hbc.size); have d0:wx.cell? ⟨wr.heap.size,0,none⟩=some (.int .i64 t1):=hkn.cell 0; have d1:wx.cell? ⟨wr.heap.size,1,none⟩=some (.int .i64 t2):=hkn.cell 1; have d2:wx.cell? ⟨wr.heap.size,2,none⟩=some (.int .i64 b1):=hkn.cell 2; have d3:wx.cell? ⟨wr.heap.size,3,none⟩=some (.int .i64 b2):=hkn.cell 3; have d4:wx.cell? ⟨wr.heap.size,4,none⟩=some (.int .i64 hh):=hkn.cell 4; have d5:wx.cell? ⟨wr.heap.size,5,none⟩=some (.bool _):=hkn.cell 5) | (go_at_call 37; refine (ff _ _).mono ?_; rintro e wx ⟨rfl,hwx⟩; have hkn:=hwx ▸ hkn.alloc (.cells #[.int .i64 hh] 3); have hbc:=hwx ▸ hbc.alloc hbc.size (.cells #[.int .i64 hh] 3); clear hwx; have d0:wx.cell? ⟨wr.heap.size,0,none⟩=some (.int .i64 t1):=hkn.cell 0; have d1:wx.cell? ⟨wr.heap.size,1,none⟩=some (.int .i64 t2):=hkn.cell 1; have d2:wx.cell? ⟨wr.heap.size,2,none⟩=some (.int .i64 b1):=hkn.cell 2; have d3:wx.cell? ⟨wr.heap.size,3,none⟩=some (.int .i64 b2):=hkn.cell 3; have d4:wx.cell? ⟨wr.heap.size,4,none⟩=some (.int .i64 hh):=hkn.cell 4; have d5:wx.cell? ⟨wr.heap.size,5,none⟩=some (.bool _):=hkn.cell 5))
     refine ⟨⟨k+1,_,hlt,by go_num,rfl,?_,by rw [HB.out,HBAD.out,HNB.out]; rfl,hbc⟩,?_⟩
     ·rw [HT.out,HFI.out]
      simp [HN.out]
     ·simp [intOf]
      omega
  ·obtain rfl:k=l.length:=by omega
   have hbad':l.any badK=false:=by rwa [List.take_of_length_le (Nat.le_refl _)] at hbad
   have ht:l.take l.length=l:=List.take_of_length_le (Nat.le_refl _)
   have HR:=Lib.hid (show qlb l=n by rw [HC.out,if_neg (by simp [hbad']),HN.out,ht])
   clear hbad hbad' ht
   go_wp2_with fail
   go_ret
   exact ⟨by rw [HR.out]; rfl,hbr⟩
set_option maxRecDepth 100000 in
set_option maxHeartbeats 4000000 in
theorem qru (l:List Kd) (v:Value) (B:Nat) (w:World) (h:Kids w B v l) (hB:B<=w.heap.size) :
  Calls Tryz.prog 143 #[v] w fun e w'=>e=.returned (.int .i64 (qlb l))/\Below w.heap.size w w':=by
 by_cases h1:2048 < l.length
 ·have HC:=Lib.hid (show qlb l=2 by unfold qlb; rw [if_pos h1])
  obtain ⟨A,c,rfl,hc,hf⟩:=h
  clear hf
  have z1:(2048:Int) < (l.length:Int):=by omega
  go_enter Tryz.func143,Tryz.ntmps143
  go_wp2_with fail
  go_ret
  exact ⟨by rw [HC.out]; rfl,Below.refl _ _⟩
 ·exact qpv l v B w h hB (by omega)
end Go.Proofs.YtlnekijhbnlclaaGreatDoor
