/-
  Walks: package margin.
-/
import Derived.Test.YtlnekijhbnlclaaGreatDoorWid
import Derived.Test.YtlnekijhbnlclaaGreatDoorRunePlain
import Derived.Test.YtlnekijhbnlclaaGreatDoorFlowPlain
import Derived.Test.YtlnekijhbnlclaaGreatDoorRangeK
namespace Go.Proofs.YtlnekijhbnlclaaGreatDoor
open Go.RowKit Go.Shelf
def mgC (m:Mg):List Value:=[.int .i64 m.1,.int .i64 m.2]
def mgV (m:Mg):Value:=.agg #[.int .i64 m.1,.int .i64 m.2]
theorem qag:(Tryz.prog.info? 85).map (·.size)=some 2:=by kernel_rfl
set_option maxRecDepth 100000 in
set_option maxHeartbeats 4000000 in
theorem q1s (n:Int) (w:World):Calls Tryz.prog 112 #[.int .i64 n] w fun e w'=>e=.returned (mgV (oneM n))/\Below w.heap.size w w':=by
 have h1:=fun W ts t=>q0c (P:=Tryz.prog) W ts t n 0
 have h2:=fun W ts t=>qtk (P:=Tryz.prog) W ts t n 0
 go_enter Tryz.func112,Tryz.ntmps112
 go_wp2
 refine bodyPost_ret (results_cell_row rfl _ _ w.heap.size 85 #[.int .i64 (max n 0),.int .i64 (min n 0)] (0,0) _ rfl (Blk.new w _ _) Tryz.underlying85 rfl qag) rfl ?_
 exact ⟨rfl,qra _ _⟩
set_option maxRecDepth 100000 in
set_option maxHeartbeats 4000000 in
theorem q2t (m x:Mg) (w:World):Calls Tryz.prog 142 #[mgV m,mgV x] w fun e w'=>e=.returned (mgV (withM m x))/\Below w.heap.size w w':=by
 obtain ⟨a,b⟩:=m
 obtain ⟨c,d⟩:=x
 unfold mgV
 have h1:=fun W ts t=>q0c (P:=Tryz.prog) W ts t a c
 have h2:=fun W ts t=>qtk (P:=Tryz.prog) W ts t b d
 have b0:=Blk.new ((w.alloc (.cells #[.int .i64 a,.int .i64 b] 85)).alloc (.cells #[.int .i64 c,.int .i64 d] 85)) 85 #[.int .i64 (max a c),.int .i64 (min b d)]
 rw [World.size_alloc,World.size_alloc] at b0
 have hb:=(((Below.refl w.heap.size w).alloc (Nat.le_refl _) (.cells #[.int .i64 a,.int .i64 b] 85)).alloc (by simp) (.cells #[.int .i64 c,.int .i64 d] 85)).alloc (by simp; omega) (.cells #[.int .i64 (max a c),.int .i64 (min b d)] 85)
 go_enter Tryz.func142,Tryz.ntmps142
 go_wp2
 refine bodyPost_ret (results_cell_row rfl _ _ (w.heap.size+1+1) 85 #[.int .i64 (max a c),.int .i64 (min b d)] (0,0) _ rfl b0 Tryz.underlying85 rfl qag) rfl ?_
 exact ⟨rfl,hb⟩
theorem q1h (m:Mg) (w:World):Calls Tryz.prog 168 #[mgV m] w fun e w'=>e=.returned (.int .i64 (valM m))/\Below w.heap.size w w':=by
 obtain ⟨a,b⟩:=m
 unfold mgV
 go_enter Tryz.func168,Tryz.ntmps168
 go_wp2
 go_ret
 exact ⟨rfl,qra _ _⟩
theorem qkl (m:Mg) (w:World):Calls Tryz.prog 167 #[mgV m] w fun e w'=>e=.returned (.bool (mayM m))/\Below w.heap.size w w':=by
 obtain ⟨a,b⟩:=m
 have HM:=Lib.hid (show mayM (a,b)=(decide (0<=a) && decide (a<=1099511627776) && decide (b<=0) && decide (-1099511627776<=b)) from rfl)
 unfold mgV
 have h5:¬ 0<=a\/(0<=a/\¬ a<=1099511627776)\/(0<=a/\a<=1099511627776/\¬ b<=0)\/(0<=a/\a<=1099511627776/\b<=0/\¬ -1099511627776<=b)\/(0<=a/\a<=1099511627776/\b<=0/\-1099511627776<=b):=by omega
 rcases h5 with g1 | ⟨g1,g2⟩ | ⟨g1,g2,g3⟩ | ⟨g1,g2,g3,g4⟩ | ⟨g1,g2,g3,g4⟩
 all_goals
  go_enter Tryz.func167,Tryz.ntmps167
  go_wp2
  go_ret
  exact ⟨by rw [HM.out]; simp [*] <;> (intros; omega),qra _ _⟩
theorem q2l (m:Mg) (w:World):Calls Tryz.prog 166 #[mgV m] w fun e w'=>e=.returned (.bool (oddM m))/\Below w.heap.size w w':=by
 obtain ⟨a,b⟩:=m
 have HM:=Lib.hid (show oddM (a,b)=(decide (a < 0) || decide (0 < b)) from rfl)
 unfold mgV
 have h5:a < 0\/(¬ a < 0/\0 < b)\/(¬ a < 0/\¬ 0 < b):=by omega
 rcases h5 with g1 | ⟨g1,g2⟩ | ⟨g1,g2⟩
 all_goals
  go_enter Tryz.func166,Tryz.ntmps166
  go_wp2
  go_ret
  exact ⟨by rw [HM.out]; simp [*] <;> (intros; omega),qra _ _⟩
def JoinA (m x:Mg) (g:Nat) (w0:World) (i:Value) (wr:World):Prop :=
 ∃ k:Nat,k<=2/\i=.int .i64 k/\Blk wr (w0.heap.size+1) 85 (mgC (if k=0 then (0,0) else if k=1 then m else withM m x)).toArray/\Blk wr w0.heap.size 85 (mgC (0,0)).toArray /\
  Blk wr g 85 (mgC m ++ mgC x).toArray/\Below w0.heap.size w0 wr
set_option maxRecDepth 100000 in
set_option maxHeartbeats 4000000 in
theorem qsw (m x:Mg) (g:Nat) (w:World) (hg:Blk w g 85 (mgC m ++ mgC x).toArray) :
  Calls Tryz.prog 141 #[.func (.func 142) #[] #[],.slice (some ⟨g,0,none⟩) 2 2] w fun e w'=>e=.returned (mgV (withM m x))/\Below w.heap.size w w':=by
 obtain ⟨W,hW,hbel,b0,b1,bg⟩:∃ W,W=(w.alloc (.cells #[.int .i64 0,.int .i64 0] 85)).alloc (.cells #[.int .i64 0,.int .i64 0] 85)/\Below w.heap.size w W/\Blk W w.heap.size 85 (mgC (0,0)).toArray/\Blk W (w.heap.size+1) 85 (mgC (0,0)).toArray/\Blk W g 85 (mgC m ++ mgC x).toArray:=by
  refine ⟨_,rfl,(qra _ _).alloc (by simp) _,(Blk.new _ _ _).alloc _,?_,(hg.alloc _).alloc _⟩
  have:=Blk.new (w.alloc (.cells #[.int .i64 0,.int .i64 0] 85)) 85 #[.int .i64 0,.int .i64 0]
  rwa [World.size_alloc] at this
 have hgl:=hg.lt
 have hwi:∀ V,Calls Tryz.prog 142 #[.agg #[.int .i64 m.1,.int .i64 m.2],.agg #[.int .i64 x.1,.int .i64 x.2]] V fun e w'=>e=.returned (.agg #[.int .i64 (withM m x).1,.int .i64 (withM m x).2])/\Below V.heap.size V w':=fun V=>q2t m x V
 go_enter Tryz.func141,Tryz.ntmps141
 go_upto_region 2 with fail
 change Code.wp _ _ _ _ ((w.alloc _).alloc _)
 rw [<-hW]
 clear hW
 go_wp2_with fail
 go_loopw [10,6,7] (fun i _ _ wr=>JoinA m x g w i wr) (fun i _ _ _=>2 - (intOf i).toNat)
 case atStart=>exact ⟨0,by omega,rfl,b1,b0,bg,hbel⟩
 case round =>
  clear b0 b1 bg hbel
  obtain ⟨k,hk,rfl,b1,b0,bg,hbel⟩:=hrel
  have hs:=hbel.size
  have f1:=b1.frozen
  have f0:=b0.frozen
  have hlt1:=b1.lt
  by_cases h2:k=2
  ·subst h2
   have c0:wr.cell? ⟨w.heap.size+1,0,none⟩=some (.int .i64 (withM m x).1):=b1.cell 0
   have c1:wr.cell? ⟨w.heap.size+1,1,none⟩=some (.int .i64 (withM m x).2):=b1.cell 1
   have d0:wr.cell? ⟨w.heap.size,0,none⟩=some (.int .i64 0):=b0.cell 0
   have d1:wr.cell? ⟨w.heap.size,1,none⟩=some (.int .i64 0):=b0.cell 1
   go_wp2_with fail
   refine bodyPost_ret (results_cell_row rfl _ _ w.heap.size 85 #[.int .i64 (withM m x).1,.int .i64 (withM m x).2] (0,0) _ rfl ((b0.set_ 0 _).set_ 1 _) Tryz.underlying85 rfl qag) rfl ?_
   exact ⟨rfl,(hbel.setCell (p:=⟨w.heap.size,0,none⟩) (Nat.le_refl _) _).setCell (p:=⟨w.heap.size,1,none⟩) (Nat.le_refl _) _⟩
  ·by_cases h1:k=1
   ·subst h1
    have e0:wr.cell? ⟨g,2,none⟩=some (.int .i64 x.1):=bg.cell 2
    have e1:wr.cell? ⟨g,3,none⟩=some (.int .i64 x.2):=bg.cell 3
    have c0:wr.cell? ⟨w.heap.size+1,0,none⟩=some (.int .i64 m.1):=b1.cell 0
    have c1:wr.cell? ⟨w.heap.size+1,1,none⟩=some (.int .i64 m.2):=b1.cell 1
    go_wp2_with fail
    refine (hwi _).mono ?_
    rintro e w1 ⟨rfl,hb1⟩
    have hb2:Below wr.heap.size wr w1:=(qra _ _).trans (hb1.mono (by simp))
    have b1:=b1.below hb2 b1.lt
    have b0:=b0.below hb2 b0.lt
    have bg:=bg.below hb2 bg.lt
    have f1:=b1.frozen
    have c0:w1.cell? ⟨w.heap.size+1,0,none⟩=some (.int .i64 m.1):=b1.cell 0
    have c1:w1.cell? ⟨w.heap.size+1,1,none⟩=some (.int .i64 m.2):=b1.cell 1
    clear e0 e1 hb1
    go_wp2_with fail
    go_roundw
    case rel=>exact ⟨2,by omega,rfl,by simpa [mgC] using (b1.set_ 0 (.int .i64 (withM m x).1)).set_ 1 (.int .i64 (withM m x).2),(b0.far (by simp) _).far (by simp) _,(bg.far (by show g≠w.heap.size+1; omega) _).far (by show g≠w.heap.size+1; omega) _,((hbel.trans (hb2.mono hbel.size)).setCell (p:=⟨w.heap.size+1,0,none⟩) (by show _<=_+_; omega) _).setCell (p:=⟨w.heap.size+1,1,none⟩) (by show _<=_+_; omega) _⟩
    case measure=>simp [intOf]
   ·have h0:k=0:=by omega
    subst h0
    have e0:wr.cell? ⟨g,0,none⟩=some (.int .i64 m.1):=bg.cell 0
    have e1:wr.cell? ⟨g,1,none⟩=some (.int .i64 m.2):=bg.cell 1
    have c0:wr.cell? ⟨w.heap.size+1,0,none⟩=some (.int .i64 0):=b1.cell 0
    have c1:wr.cell? ⟨w.heap.size+1,1,none⟩=some (.int .i64 0):=b1.cell 1
    go_wp2_with fail
    go_roundw
    case rel =>
     have hn:wr.heap.size≠w.heap.size+1:=by omega
     have B1:=(b1.set_ 0 (.int .i64 m.1)).set_ 1 (.int .i64 m.2)
     have B0:=(b0.far (p:=⟨w.heap.size+1,0,none⟩) (by simp) (.int .i64 m.1)).far (p:=⟨w.heap.size+1,1,none⟩) (by simp) (.int .i64 m.2)
     have BG:=(bg.far (p:=⟨w.heap.size+1,0,none⟩) (by show g≠w.heap.size+1; omega) (.int .i64 m.1)).far (p:=⟨w.heap.size+1,1,none⟩) (by show g≠w.heap.size+1; omega) (.int .i64 m.2)
     exact ⟨1,by omega,rfl,B1.alloc _,B0.alloc _,BG.alloc _,((hbel.setCell (p:=⟨w.heap.size+1,0,none⟩) (by show _<=_+_; omega) _).setCell (p:=⟨w.heap.size+1,1,none⟩) (by show _<=_+_; omega) _).alloc (by simp [World.setCell]; omega) _⟩
    case measure=>simp [intOf]
set_option maxRecDepth 100000 in
set_option maxHeartbeats 4000000 in
theorem qgf (m x:Mg) (g:Nat) (w:World) (hg:Blk w g 85 (mgC m ++ mgC x).toArray) :
  Calls Tryz.prog 111 #[.slice (some ⟨g,0,none⟩) 2 2] w fun e w'=>e=.returned (.agg #[.int .i64 (withM m x).1,.int .i64 (withM m x).2])/\Below w.heap.size w w':=by
 have hf:=qsw m x g (w.alloc (.cells #[.int .i64 0,.int .i64 0] 85)) (hg.alloc _)
 unfold mgV at hf
 have b0:=Blk.new w 85 #[.int .i64 0,.int .i64 0]
 go_enter Tryz.func111,Tryz.ntmps111
 go_wp2_with fail
 refine hf.mono ?_
 rintro e w1 ⟨rfl,hb1⟩
 have b1:=b0.below hb1 b0.lt
 have c0:=b1.cell 0
 have c1:=b1.cell 1
 have f1:=b1.frozen
 have hb2:Below w.heap.size w w1:=(qra _ _).trans (hb1.mono (by simp))
 clear hf b0 hb1
 go_wp2_with fail
 refine bodyPost_ret (results_cell_row rfl _ _ w.heap.size 85 #[.int .i64 (withM m x).1,.int .i64 (withM m x).2] (0,0) _ rfl ((b1.set_ 0 _).set_ 1 _) Tryz.underlying85 rfl qag) rfl ?_
 exact ⟨rfl,(hb2.setCell (p:=⟨w.heap.size,0,none⟩) (Nat.le_refl _) _).setCell (p:=⟨w.heap.size,1,none⟩) (Nat.le_refl _) _⟩
end Go.Proofs.YtlnekijhbnlclaaGreatDoor
namespace Go.Proofs.YtlnekijhbnlclaaGreatDoor
open Go.RowKit Go.Shelf
def ImAt (W:World) (P:Addr) (x:Im):Prop :=
 W.cell? P=some (.int .u8 x.1)/\W.cell? ⟨P.block,P.off+1,none⟩=some (.int .i64 x.2)
def Ims (W:World) (B:Nat) (v:Value) (l:List Im):Prop :=
 ∃ A c,v=.slice A l.length c/\l.length<=c/\(0 < l.length->∃ ad,A=some ad/\ad.block < B/\∀ k (hk:k < l.length),ImAt W (ad.add (k * 2)) l[k])
theorem ImAt.below {W W':World} {P:Addr} {B:Nat} {x:Im} (h:ImAt W P x) (hb:Below B W W') (ha:P.block < B):ImAt W' P x:=by
 have e0:W'.cell? P=W.cell? P:=hb.cell ha
 have e:∀ j,W'.cell? ⟨P.block,j,none⟩=W.cell? ⟨P.block,j,none⟩:=fun j=>hb.cell (p:=⟨P.block,j,none⟩) ha
 unfold ImAt at h ⊢
 simp only [e,e0]
 exact h
theorem Ims.below {W W':World} {B:Nat} {v:Value} {l:List Im} (h:Ims W B v l) (hb:Below B W W'):Ims W' B v l:=by
 obtain ⟨A,c,e,hc,hf⟩:=h
 refine ⟨A,c,e,hc,fun h0=>?_⟩
 obtain ⟨ad,e1,hk,hh⟩:=hf h0
 exact ⟨ad,e1,hk,fun k hk'=>(hh k hk').below hb (by rw [qac]; exact hk)⟩
set_option linter.unusedSimpArgs false
set_option linter.unusedVariables false
set_option maxRecDepth 100000 in
set_option maxHeartbeats 4000000 in
theorem quf (l:List Im) (at_ kind:Nat) (v:Value) (B g:Nat) (w:World) (hg:Blk w g 244 #[v,.int .i64 at_]) (h:Ims w B v l) (hB:B<=w.heap.size) :
  Calls Tryz.prog 181 #[.pointer (some ⟨g,0,none⟩),.int .u8 kind] w fun e w'=>e=.returned (.bool (isK l kind at_))/\Below w.heap.size w w':=by
 obtain ⟨A,c,rfl,hc,hf⟩:=h
 have c0:∀ V:BW w.heap.size w,V.val.cell? ⟨g,0,none⟩=some (.slice A l.length c):=fun V=>(hg.below V.ok hg.lt).cell 0
 have c1:∀ V:BW w.heap.size w,V.val.cell? ⟨g,1,none⟩=some (.int .i64 at_):=fun V=>(hg.below V.ok hg.lt).cell 1
 by_cases hlt:at_ < l.length
 ·obtain ⟨ad,rfl,hbk,hat⟩:=hf (by omega)
  have h0:=hat at_ hlt
  have k0:∀ V:BW w.heap.size w,V.val.cell? (ad.add (at_ * 2))=some (.int .u8 (l[at_]).1):=fun V=>(h0.below V.ok (by rw [qac]; omega)).1
  have HI:=Lib.hid (show isK l kind at_=decide ((l[at_]).1=kind) by unfold isK; rw [List.getElem?_eq_getElem hlt])
  generalize l[at_]=x at *
  obtain ⟨xk,xw⟩:=x
  simp only at k0
  clear hat hf h0
  have hz:(at_:Int) < (l.length:Int):=by omega
  by_cases hk:xk=kind
  ·subst hk
   go_enter Tryz.func181,Tryz.ntmps181
   go_wp2_with fail
   refine qeb w.heap.size (by kernel_rfl) (by kernel_rfl) ?_
   repeat (go_big_quiet_step (fail))
   refine wpQuiet_nil ?_
   intro w3 hw'
   obtain ⟨⟨wq,hQ⟩,rfl⟩:=hw'
   go_wp2_with fail
   go_ret
   exact ⟨by rw [HI.out]; simp,hQ⟩
  ·have hkz:¬ (xk:Int)=(kind:Int):=fun h=>hk (Int.ofNat_inj.1 h)
   go_enter Tryz.func181,Tryz.ntmps181
   go_wp2_with fail
   refine qeb w.heap.size (by kernel_rfl) (by kernel_rfl) ?_
   repeat (go_big_quiet_step (fail))
   refine wpQuiet_nil ?_
   intro w3 hw'
   obtain ⟨⟨wq,hQ⟩,rfl⟩:=hw'
   go_wp2_with fail
   go_ret
   exact ⟨by rw [HI.out]; simp [hk,hkz],hQ⟩
 ·have HI:=Lib.hid (show isK l kind at_=false by unfold isK; rw [List.getElem?_eq_none (by omega)])
  have hz:¬ (at_:Int) < (l.length:Int):=by omega
  clear hf
  go_enter Tryz.func181,Tryz.ntmps181
  go_wp2_with fail
  refine qeb w.heap.size (by kernel_rfl) (by kernel_rfl) ?_
  repeat (go_big_quiet_step (fail))
  refine wpQuiet_nil ?_
  intro w3 hw'
  obtain ⟨⟨wq,hQ⟩,rfl⟩:=hw'
  go_wp2_with fail
  go_ret
  exact ⟨by rw [HI.out]; rfl,hQ⟩
theorem qtv (w:World):Calls Tryz.prog 178 #[] w fun e w'=>e=.returned (.bool true)/\w'=w:=by
 go_enter Tryz.func178,Tryz.ntmps178
 go_wp2_with fail
 go_ret
 exact ⟨rfl,rfl⟩
theorem q8o (w:World):Calls Tryz.prog 182 #[] w fun e w'=>e=.returned (.bool false)/\w'=w:=by
 go_enter Tryz.func182,Tryz.ntmps182
 go_wp2_with fail
 go_ret
 exact ⟨rfl,rfl⟩
theorem qtd {l:List Im} {kind a:Nat} (h:isK l kind a=true):a < l.length:=by
 unfold isK at h
 rcases Nat.lt_or_ge a l.length with h1 | h1
 ·exact h1
 ·rw [List.getElem?_eq_none h1] at h
  simp at h
theorem quu {l:List Im} {kind a:Nat} (h:isK l kind a=true):passK l kind a=passK l kind (a+1):=by
 have h1:=qtd h
 unfold isK at h
 rw [List.getElem?_eq_getElem h1] at h
 unfold passK
 rw [List.drop_eq_getElem_cons h1,List.takeWhile_cons,if_pos h,List.length_cons]
 omega
theorem qxp {l:List Im} {kind a:Nat} (h:isK l kind a=false):passK l kind a=a:=by
 unfold passK
 rcases Nat.lt_or_ge a l.length with h1 | h1
 ·unfold isK at h
  rw [List.getElem?_eq_getElem h1] at h
  rw [List.drop_eq_getElem_cons h1,List.takeWhile_cons,if_neg (by simp_all)]
  simp
 ·rw [List.drop_eq_nil_of_le h1]
  simp
def qdm (v:Value) (n g:Nat) (w:World) (e:Ending) (w':World):Prop :=
 e=.returned (.tuple #[])/\Kept [g] w w'/\Blk w' g 244 #[v,.int .i64 n]
def Pas (l:List Im) (kind n g:Nat) (v:Value) (w0 wr:World):Prop :=
 ∃ j:Nat,passK l kind j=n/\j<=l.length/\Kept [g] w0 wr/\Blk wr g 244 #[v,.int .i64 j]
set_option maxRecDepth 100000 in
set_option maxHeartbeats 4000000 in
theorem q3d (l:List Im) (at_ kind:Nat) (v:Value) (B g:Nat) (w:World) (hg:Blk w g 244 #[v,.int .i64 at_]) (h:Ims w B v l) (hB:B<=g) (ha:at_<=l.length) (hm:l.length < 1000000) :
  Calls Tryz.prog 176 #[.pointer (some ⟨g,0,none⟩),.int .u8 kind,.func (.func 178) #[] #[]] w (qdm v (passK l kind at_) g w):=by
 have al:=fun W=>qtv W
 go_enter Tryz.func176,Tryz.ntmps176
 go_wp2_with fail
 go_loopw [] (Pas l kind (passK l kind at_) g v w) (fun wr=>l.length - (intOf ((wr.cell? ⟨g,1,none⟩).getD undef)).toNat)
 case atStart=>exact ⟨at_,rfl,ha,Kept.refl _ _,hg⟩
 case round =>
  obtain ⟨j,hj,hjl,hb,hG⟩:=hrel
  have hI:=h.below ((hb.to_below (B:=g) (Nat.le_of_lt hg.lt) (by simp)).mono hB)
  have hw1:=hb.size
  have f1:=hG.frozen
  have hisj:=quf l j kind v B g _ hG hI (by have:=hG.lt; omega)
  cases hk:isK l kind j with
  | true =>
   rw [hk] at hisj
   have hjlt:=qtd hk
   rw [quu hk] at hj
   go_wp2_with (first | (go_at_call 181; refine hisj.mono ?_; rintro e w1 ⟨rfl,hb1⟩; have hG1:=hG.below hb1 hG.lt; have f2:=hG1.frozen; have d1:w1.cell? ⟨g,1,none⟩=some (.int .i64 j):=hG1.cell 1) | (go_at_call 178; refine (al _).mono ?_; rintro e w2 ⟨rfl,rfl⟩))
   have hb3:Kept [g] w w1:=hb.trans (Kept.of_below hb1)
   have hG3:=hG1.set_ 1 (.int .i64 ((j:Int)+1))
   simp only [zA,zB,zC] at hG3
   have q0:wr.cell? ⟨g,1,none⟩=some (.int .i64 j):=hG.cell 1
   have q1:(w1.setCell ⟨g,1,none⟩ (.int .i64 ((j:Int)+1))).cell? ⟨g,1,none⟩=some (.int .i64 ((j:Int)+1)):=hG3.cell 1
   refine ⟨⟨j+1,hj,hjlt,hb3.setCell (p:=⟨g,1,none⟩) (by simp) _,hG3⟩,?_⟩
   rw [q0,q1]
   simp [intOf]
   omega
  | false =>
   rw [hk] at hisj
   rw [qxp hk] at hj
   go_wp2_with (go_at_call 181; refine hisj.mono ?_; rintro e w1 ⟨rfl,hb1⟩)
   subst hj
   exact ⟨rfl,_,results_none rfl _ _ _,rfl,hb.trans (Kept.of_below hb1),hG.below hb1 hG.lt⟩
set_option maxRecDepth 100000 in
set_option maxHeartbeats 4000000 in
theorem qug (l:List Im) (at_ kind:Nat) (v:Value) (B g:Nat) (w:World) (hg:Blk w g 244 #[v,.int .i64 at_]) (h:Ims w B v l) (hB:B<=g) (hm:l.length < 1000000) :
  Calls Tryz.prog 176 #[.pointer (some ⟨g,0,none⟩),.int .u8 kind,.func (.func 182) #[] #[]] w (qdm v (pass1 l kind at_) g w):=by
 have al:=fun W=>q8o W
 go_enter Tryz.func176,Tryz.ntmps176
 go_wp2_with fail
 go_loopw [] (fun wr=>wr=w) (fun _=>0)
 case atStart=>rfl
 case round =>
  subst hrel
  have f1:=hg.frozen
  have hisj:=quf l at_ kind v B g _ hg h (by have:=hg.lt; omega)
  cases hk:isK l kind at_ with
  | true =>
   rw [hk] at hisj
   have hjlt:=qtd hk
   have hp:pass1 l kind at_=at_+1:=by unfold pass1; rw [if_pos hk]
   go_wp2_with (first | (go_at_call 181; refine hisj.mono ?_; rintro e w1 ⟨rfl,hb1⟩; have hG1:=hg.below hb1 hg.lt; have f2:=hG1.frozen; have d1:w1.cell? ⟨g,1,none⟩=some (.int .i64 at_):=hG1.cell 1) | (go_at_call 182; refine (al _).mono ?_; rintro e w2 ⟨rfl,rfl⟩))
   have hG3:=hG1.set_ 1 (.int .i64 ((at_:Int)+1))
   simp only [zA,zB,zC] at hG3
   rw [hp]
   exact ⟨rfl,_,results_none rfl _ _ _,rfl,(Kept.of_below hb1).setCell (p:=⟨g,1,none⟩) (by simp) _,hG3⟩
  | false =>
   rw [hk] at hisj
   have hp:pass1 l kind at_=at_:=by unfold pass1; rw [if_neg (by rw [hk]; decide)]
   go_wp2_with (go_at_call 181; refine hisj.mono ?_; rintro e w1 ⟨rfl,hb1⟩)
   rw [hp]
   exact ⟨rfl,_,results_none rfl _ _ _,rfl,Kept.of_below hb1,hg.below hb1 hg.lt⟩
theorem qje (l:List Im) (kind a:Nat):a<=passK l kind a:=by unfold passK; omega
theorem qrd {l:List Im} {kind a:Nat} (h:a<=l.length):passK l kind a<=l.length:=by
 unfold passK
 have:=(List.takeWhile_prefix (p:=fun x:Im=>decide (x.1=kind)) (l:=l.drop a)).length_le
 rw [List.length_drop] at this
 omega
set_option maxRecDepth 100000 in
set_option maxHeartbeats 4000000 in
theorem q3p (l:List Im) (at_:Nat) (v:Value) (B g:Nat) (w:World) (hg:Blk w g 244 #[v,.int .i64 at_]) (h:Ims w B v l) (hB:B<=g) (ha:at_<=l.length) (hm:l.length < 1000000) :
  Calls Tryz.prog 179 #[.pointer (some ⟨g,0,none⟩)] w fun e w'=>e=.returned (.bool (decide (at_ < qva l at_)))/\Kept [g] w w'/\Blk w' g 244 #[v,.int .i64 (qva l at_)]:=by
 have e1:w.cell? ⟨g,1,none⟩=some (.int .i64 at_):=hg.cell 1
 have hlt:=hg.lt
 have his:=quf l at_ 3 v B g _ hg h (by omega)
 cases hk:isK l 3 at_ with
 | true =>
  have hE:=Lib.hid (show qva l at_=at_+1 by unfold qva; rw [if_pos hk])
  have hP:pass1 l 3 at_=at_+1:=by unfold pass1; rw [if_pos hk]
  rw [hk] at his
  have hps:=fun (w1:World) (hb1:Below w.heap.size w w1)=>qug l at_ 3 v B g w1 (hg.below hb1 hlt) (h.below (hb1.mono (by omega))) hB hm
  rw [hP] at hps
  have hz:(at_:Int) < (at_:Int)+1:=by omega
  go_enter Tryz.func179,Tryz.ntmps179
  go_wp2_with (first | (go_at_call 181; refine his.mono ?_; rintro e w1 ⟨rfl,hb1⟩) | (go_at_call 176; refine (hps _ hb1).mono ?_; rintro e w2 ⟨rfl,hb2,hg2⟩; have d1:w2.cell? ⟨g,1,none⟩=some (.int .i64 ((at_:Int)+1)):=hg2.cell 1))
  go_ret
  exact ⟨by rw [hE.out]; simp,(Kept.of_below hb1).trans hb2,by rw [hE.out]; exact hg2⟩
 | false =>
  have hE:=Lib.hid (show qva l at_=passK l 0 at_ by unfold qva; rw [if_neg (by rw [hk]; decide)])
  rw [hk] at his
  have hps:=fun (w1:World) (hb1:Below w.heap.size w w1)=>q3d l at_ 0 v B g w1 (hg.below hb1 hlt) (h.below (hb1.mono (by omega))) hB ha hm
  obtain ⟨n,hn⟩:∃ n,passK l 0 at_=n:=⟨_,rfl⟩
  rw [hn] at hps
  have hE:=Lib.hid (hE.out.trans hn)
  clear hn
  by_cases hz0:at_ < n
  ·have hz:(at_:Int) < (n:Int):=by omega
   go_enter Tryz.func179,Tryz.ntmps179
   go_wp2_with (first | (go_at_call 181; refine his.mono ?_; rintro e w1 ⟨rfl,hb1⟩) | (go_at_call 176; refine (hps _ hb1).mono ?_; rintro e w2 ⟨rfl,hb2,hg2⟩; have d1:w2.cell? ⟨g,1,none⟩=some (.int .i64 n):=hg2.cell 1))
   go_ret
   exact ⟨by rw [hE.out]; simp [hz0],(Kept.of_below hb1).trans hb2,by rw [hE.out]; exact hg2⟩
  ·have hz:¬ (at_:Int) < (n:Int):=by omega
   go_enter Tryz.func179,Tryz.ntmps179
   go_wp2_with (first | (go_at_call 181; refine his.mono ?_; rintro e w1 ⟨rfl,hb1⟩) | (go_at_call 176; refine (hps _ hb1).mono ?_; rintro e w2 ⟨rfl,hb2,hg2⟩; have d1:w2.cell? ⟨g,1,none⟩=some (.int .i64 n):=hg2.cell 1))
   go_ret
   exact ⟨by rw [hE.out]; simp [hz0],(Kept.of_below hb1).trans hb2,by rw [hE.out]; exact hg2⟩
def Wds (l:List Im) (a m:Nat) (w0:World) (n i:Value) (wr:World):Prop :=
 ∃ k:Nat,i=.int .i64 k/\n=.int .i64 (sumW l a (a+k))/\k<=m/\Below w0.heap.size w0 wr
set_option maxRecDepth 100000 in
set_option maxHeartbeats 4000000 in
theorem qzm (l:List Im) (at_:Int) (a b:Nat) (v:Value) (B g:Nat) (w:World) (hg:Blk w g 244 #[v,.int .i64 at_]) (h:Ims w B v l) (hB:B<=w.heap.size) (hab:a<=b) (hb:b<=l.length) (hm:l.length < 1000000) :
  Calls Tryz.prog 180 #[.pointer (some ⟨g,0,none⟩),.int .i64 a,.int .i64 b] w fun e w'=>e=.returned (.int .i64 (sumW l a b))/\Below w.heap.size w w':=by
 obtain ⟨A,c,rfl,hc,hf⟩:=h
 have e0:w.cell? ⟨g,0,none⟩=some (.slice A l.length c):=hg.cell 0
 have z1:(a:Int)<=(b:Int):=by omega
 have z2:(b:Int)<=(l.length:Int):=by omega
 have z3:(b:Int)<=(c:Int):=by omega
 go_enter Tryz.func180,Tryz.ntmps180
 go_wp2_with fail
 case inr =>
  go_loopw [7,18] (Wds l a (b - a) w) (fun _ i _=>(b - a) - (intOf i).toNat)
  case atStart=>exact ⟨0,rfl,by simp [sumW],by omega,Below.refl _ _⟩
  case round =>
   obtain ⟨k,rfl,rfl,hk,hbr⟩:=hrel
   have hbs:=hbr.size
   by_cases hlt:k < b - a
   ·obtain ⟨ad,rfl,hbk,hat⟩:=hf (by omega)
    obtain ⟨k0,k1⟩:=(hat (a+k) (by omega)).below hbr (by rw [qac]; omega)
    have HS:=Lib.hid (show sumW l a (a+(k+1))=w64 (sumW l a (a+k)+(l[a+k]'(by omega)).2) by
     unfold sumW
     rw [show a+(k+1) - a=k+1 by omega,show a+k - a=k by omega,List.take_succ_eq_append_getElem (by rw [List.length_drop]; omega),List.foldl_append,List.foldl_cons,List.foldl_nil,List.getElem_drop])
    generalize l[a+k]'(by omega)=x at *
    obtain ⟨xk,xw⟩:=x
    simp only at k0 k1
    have hadd:ad.add ((a+k) * 2)=(ad.add (a * 2)).add (k * 2):=by rw [Go.Addr.add_add,show (a+k) * 2=a * 2+k * 2 by omega]
    clear hat hf
    rw [hadd] at k0 k1
    go_wp2_with fail
    exact ⟨⟨k+1,by go_num,by rw [HS.out],hlt,hbr.alloc hbs _⟩,by simp [intOf]; omega⟩
   ·obtain rfl:k=b - a:=by omega
    rw [show a+(b - a)=b by omega]
    clear hf
    go_wp2_with fail
    go_ret
    exact ⟨rfl,hbr⟩
 case inl =>
  go_loopw [7,18] (Wds l a (b - a) w) (fun _ i _=>(b - a) - (intOf i).toNat)
  case atStart=>exact ⟨0,rfl,by simp [sumW],by omega,Below.refl _ _⟩
  case round =>
   obtain ⟨k,rfl,rfl,hk,hbr⟩:=hrel
   have hbs:=hbr.size
   by_cases hlt:k < b - a
   ·omega
   ·obtain rfl:k=b - a:=by omega
    rw [show a+(b - a)=b by omega]
    clear hf
    go_wp2_with fail
    go_ret
    exact ⟨rfl,hbr⟩
end Go.Proofs.YtlnekijhbnlclaaGreatDoor
namespace Go.Proofs.YtlnekijhbnlclaaGreatDoor
open Go.RowKit Go.Shelf
def LnAt3 (W:World) (P:Addr) (x:Nat×Nat×Int):Prop :=
 W.cell? P=some (.int .i64 x.1)/\W.cell? ⟨P.block,P.off+1,none⟩=some (.int .i64 x.2.1)/\W.cell? ⟨P.block,P.off+2,none⟩=some (.int .i64 x.2.2)
def Lns (W:World) (B:Nat) (v:Value) (l:List (Nat×Nat×Int)):Prop :=
 ∃ A c,v=.slice A l.length c/\l.length<=c/\(0 < l.length->∃ ad,A=some ad/\ad.block < B/\∀ k (hk:k < l.length),LnAt3 W (ad.add (k * 3)) l[k])
theorem LnAt3.below {W W':World} {P:Addr} {B:Nat} {x:Nat×Nat×Int} (h:LnAt3 W P x) (hb:Below B W W') (ha:P.block < B):LnAt3 W' P x:=by
 have e0:W'.cell? P=W.cell? P:=hb.cell ha
 have e:∀ j,W'.cell? ⟨P.block,j,none⟩=W.cell? ⟨P.block,j,none⟩:=fun j=>hb.cell (p:=⟨P.block,j,none⟩) ha
 unfold LnAt3 at h ⊢
 simp only [e,e0]
 exact h
theorem Lns.below {W W':World} {B:Nat} {v:Value} {l:List (Nat×Nat×Int)} (h:Lns W B v l) (hb:Below B W W'):Lns W' B v l:=by
 obtain ⟨A,c,e,hc,hf⟩:=h
 refine ⟨A,c,e,hc,fun h0=>?_⟩
 obtain ⟨ad,e1,hk,hh⟩:=hf h0
 exact ⟨ad,e1,hk,fun k hk'=>(hh k hk').below hb (by rw [qac]; exact hk)⟩
end Go.Proofs.YtlnekijhbnlclaaGreatDoor
namespace Go.Proofs.YtlnekijhbnlclaaGreatDoor
open Go.RowKit Go.Shelf
attribute [local go_sem] Oper.semAt_some
def kdP (ns:List Nd) (a i:Nat):Bool:=decide ((ndAt ns i).depth - 1=(ndAt ns a).depth)
def kdL (ns:List Nd) (a:Nat) (pre:List Nat):List Int:=(pre.filter (kdP ns a)).map fun i=>Int.ofNat i
theorem Owns.is {ws:List Nat} {n:Nat} {A B:World} {base:Nat} {v:Value} {L:List Int} (h:Owns A base v L) (hk:IS ws n A B) (hw:∀ g,v.ownBlock=some g->g ∉ ws):Owns B base v L:=by
 obtain ⟨h1,h2⟩:=h
 refine ⟨h1,?_⟩
 rcases h2 with h2 | ⟨g,cap,cur,e,hg,hb,r⟩
 ·exact .inl h2
 ·exact .inr ⟨g,cap,cur,e,hg,hk.block g _ (hw g (by rw [e]; rfl)) hb (.inl rfl),r⟩
theorem Owns.keptW {gs:List Nat} {A B:World} {base:Nat} {v:Value} {L:List Int} (h:Owns A base v L) (hk:Kept gs A B) (hw:∀ g,v.ownBlock=some g->g ∉ gs):Owns B base v L:=by
 obtain ⟨h1,h2⟩:=h
 refine ⟨h1,?_⟩
 rcases h2 with h2 | ⟨g,cap,cur,e,hg,hb,r⟩
 ·exact .inl h2
 ·exact .inr ⟨g,cap,cur,e,hg,(hk.block g (Array.getElem?_eq_some_iff.1 hb).1 (hw g (by rw [e]; rfl))).trans hb,r⟩
theorem qvt {F:Fence} {n:Nat} {ops:Array Oper} {rest:List Oper} {o:Oper} {a:Act} {Q:Exit->Act->World->Prop} (w:World) (m:Int) (hgd:o.guard=none) (s x:Operand)
  (ho:o.op=.call { callee:=.builtin .append,args:=#[s,x],argTypes:=#[47,47] })
  (base:Nat) (v:Value) (zs:List Int) (hs:a.eval s=v) (hown:Owns w base v zs)
  (hx:a.eval x=.slice (some ⟨w.heap.size,0,none⟩) 1 1)
  (h47:zs.length < 17592186044416) (hbase:base<=w.heap.size)
  (h:∀ v' w',Owns w' base v' (zs ++ [m])->(w.alloc (.cells #[.int .i64 m] 3)).grownBy w' v.ownBlock->(v'.ownBlock=v.ownBlock\/v'.ownBlock=some (w.alloc (.cells #[.int .i64 m] 3)).heap.size)->wpListIn F n Tryz.prog ops Q rest (a.put o.dst v') w') :
  wpListIn F n Tryz.prog ops Q (o :: rest) a (w.alloc (.cells #[.int .i64 m] 3)):=by
 obtain ⟨i0,hi0,hz0,hz1,hz2⟩:=info_parts Tryz.infoInt
 obtain ⟨A,c,e1,hc,hr⟩:=Ints.built w [m] 3
 have e2:a.eval x=.slice A [m].length c:=hx.trans e1
 refine qyi hgd s x _ ho base 3 i0 _ 1 8 Tryz.underlying47 hi0 hz0 hz1 hz2 rfl (by omega) v _ _ hs (hown.alloc _) _ A _ c _ e2 hr (qym [m]) (by simp only [maxLen,List.length_cons,List.length_nil]; omega) (by simp only [List.length_cons,List.length_nil]; omega) (by simp; omega) ?_
 intro v' w' h1 h2 h3
 exact h v' w' (by simpa [Owns] using h1) h2 h3
theorem q7j {w:World} {base:Nat} {v:Value} {zs:List Int} (h:Owns w base v zs):∃ A n c,v=.slice A n c:=by
 obtain ⟨A,c,e⟩:=h.form
 exact ⟨A,_,c,e⟩
def KdI (s bl n0 B:Nat) (dv:Value) (next:Int) (ns:List Nd) (a:Nat) (w:World) (wr:List Nat) (pre:List Nat) (W:World):Prop :=
 ∃ v,wr=bl :: v.ownBlock.toList/\Boxed W bl 47 v/\Owns W n0 v (kdL ns a pre)/\Below s w W/\BelowW W (s+1) s B dv next ns a/\n0<=W.heap.size
def KdA (s bl n0:Nat) (ns:List Nd) (x:Nat) (a':Act) (W:World):Prop :=
 ∃ Bx,Blk W Bx 35 (ndC (ndAt ns x)).toArray/\n0<=Bx/\∃ u0 u1 u4 u8 u9 u10 u11 u12 u13 u14 u15 u16 u17 u18 u19 u20 u21 u22 u23 u24 u25 u26 u27 u28 u29 u30 u31:Value,a'={ tmps:=#[u0,u1,.pointer (some ⟨s,0,none⟩),.pointer (some ⟨s+1,0,none⟩),u4,.pointer (some ⟨bl,0,none⟩),.int .i64 x,.pointer (some ⟨Bx,0,none⟩),u8,u9,u10,u11,u12,u13,u14,u15,u16,u17,u18,u19,u20,u21,u22,u23,u24,u25,u26,u27,u28,u29,u30,u31],defers:=[] }
theorem qjt {ns:List Nd} {a i:Nat} {pre:List Nat} (h:kdP ns a i=true):kdL ns a (pre ++ [i])=kdL ns a pre ++ [(i:Int)]:=by
 unfold kdL
 rw [List.filter_append,List.map_append,List.filter_cons,if_pos h]
 rfl
theorem qfv {ns:List Nd} {a i:Nat} {pre:List Nat} (h:kdP ns a i=false):kdL ns a (pre ++ [i])=kdL ns a pre:=by
 unfold kdL
 rw [List.filter_append,List.map_append,List.filter_cons,if_neg (by rw [h]; decide)]
 simp
theorem quo (ns:List Nd) (a:Nat) (pre:List Nat):(kdL ns a pre).length<=pre.length:=by
 unfold kdL
 rw [List.length_map]
 exact List.length_filter_le _ _
set_option linter.unusedSimpArgs false
set_option linter.unusedVariables false
set_option maxRecDepth 100000 in
set_option maxHeartbeats 4000000 in
theorem q3o (ns:List Nd) (dv:Value) (next:Int) (a B:Nat) (w:World) (h:DocIn w B dv ns) (hB:B<=w.heap.size) (ha:a < ns.length) (hm:ns.length < 1000000) (hd:∀ i,0<=(ndAt ns i).depth/\(ndAt ns i).depth < 16) :
  Calls Tryz.prog 59 #[docA dv next,.int .i64 a] w fun e w'=>∃ v,e=.returned v/\Owns w' w.heap.size v ((kidsN ns a).map fun i=>Int.ofNat i)/\Below w.heap.size w w':=by
 have his:=fun W (hW:DocIn W B dv ns)=>q1r ns dv next a B W hW
 rw [decide_eq_true (show (0:Int)<=(a:Int) by omega),decide_eq_true (show (a:Int) < (ns.length:Int) by omega),Bool.and_self] at his
 have hbc:=fun W=>qgq dv next a W
 refine callsIn_wide.1 (qef (n:=6) Tryz.func59 rfl ?_)
 simp only [Tryz.ntmps59,docA,List.size_toArray,List.length_cons,List.length_nil,Nat.reduceAdd,Nat.reduceSub,Array.replicate_succ,Array.replicate_zero,List.push_toArray,List.append_toArray,List.nil_append,List.cons_append]
 repeat (refine qea ?_)
 refine qda (n:=6) (wpIn_wide.2 ?_)
 go_wp2_with fail
 repeat (refine qea ?_)
 refine qda (n:=6) (wpIn_wide.2 ?_)
 have hB2:Below w.heap.size w ((w.alloc (.cells #[dv,.int .i64 next] 24)).alloc (.cells #[.int .i64 a] 3)):=((Below.refl _ _).alloc (Nat.le_refl _) _).alloc (by simp) _
 have hs2:((w.alloc (.cells #[dv,.int .i64 next] 24)).alloc (.cells #[.int .i64 a] 3)).heap.size=w.heap.size+2:=by simp
 have b0:=(Blk.new w 24 #[dv,.int .i64 next]).alloc (.cells #[.int .i64 a] 3)
 have b1:=Blk.new (w.alloc (.cells #[dv,.int .i64 next] 24)) 3 #[.int .i64 a]
 rw [World.size_alloc] at b1
 generalize (w.alloc (.cells #[dv,.int .i64 next] 24)).alloc (.cells #[.int .i64 a] 3)=w1 at *
 have e0:w1.cell? ⟨w.heap.size,0,none⟩=some dv:=b0.cell 0
 have e1:w1.cell? ⟨w.heap.size,1,none⟩=some (.int .i64 next):=b0.cell 1
 have e2:w1.cell? ⟨w.heap.size+1,0,none⟩=some (.int .i64 a):=b1.cell 0
 go_wp2_with fail
 have hD1:=h.below (hB2.mono hB)
 refine (his w1 hD1).mono ?_
 rintro e w2 ⟨rfl,hb2⟩
 go_wp2_with fail
 repeat (refine qea ?_)
 refine qda (n:=6) (wpIn_wide.2 ?_)
 go_wp2_with fail
 repeat (refine qea ?_)
 refine qda (n:=6) (wpIn_wide.2 ?_)
 go_wp2_with fail
 repeat (refine qea ?_)
 refine qda (n:=6) (wpIn_wide.2 ?_)
 have k2:Kept [] w1 w2:=Kept.of_below hb2
 have hs3:w.heap.size+2<=w2.heap.size:=by have:=hb2.size; omega
 have c0:=(b0.kept k2 (by simp)).alloc (.cells #[.slice none 0 0] 47)
 have c1:=(b1.kept k2 (by simp)).alloc (.cells #[.slice none 0 0] 47)
 have c2:=Boxed.new w2 47 (.slice none 0 0)
 have hB3:Below w.heap.size w (w2.alloc (.cells #[.slice none 0 0] 47)):=(hB2.trans (hb2.mono (by omega))).alloc (by omega) _
 have hs4:(w2.alloc (.cells #[.slice none 0 0] 47)).heap.size=w2.heap.size+1:=by simp
 generalize w2.alloc (.cells #[.slice none 0 0] 47)=w3 at *
 generalize hbl:w2.heap.size=bl at *
 have e0:w3.cell? ⟨w.heap.size,0,none⟩=some dv:=c0.cell 0
 have e1:w3.cell? ⟨w.heap.size,1,none⟩=some (.int .i64 next):=c0.cell 1
 have e2:w3.cell? ⟨w.heap.size+1,0,none⟩=some (.int .i64 a):=c1.cell 0
 go_wp2_with fail
 refine (hbc w3).mono ?_
 rintro e w4 ⟨rfl,rfl⟩
 have hB5:Below w.heap.size w ((w3.alloc (.cells #[dv,.int .i64 next] 24)).alloc (.cells #[.int .i64 a] 3)):=(hB3.alloc (by omega) _).alloc (by simp; omega) _
 have d0:=(Blk.new w3 24 #[dv,.int .i64 next]).alloc (.cells #[.int .i64 a] 3)
 have d1:=Blk.new (w3.alloc (.cells #[dv,.int .i64 next] 24)) 3 #[.int .i64 a]
 have hs5:((w3.alloc (.cells #[dv,.int .i64 next] 24)).alloc (.cells #[.int .i64 a] 3)).heap.size=bl+3:=by simp; omega
 have b0':=(c0.alloc (.cells #[dv,.int .i64 next] 24)).alloc (.cells #[.int .i64 a] 3)
 have b1':=(c1.alloc (.cells #[dv,.int .i64 next] 24)).alloc (.cells #[.int .i64 a] 3)
 have c2':=(c2.alloc (.cells #[dv,.int .i64 next] 24)).alloc (.cells #[.int .i64 a] 3)
 rw [World.size_alloc] at d1
 generalize (w3.alloc (.cells #[dv,.int .i64 next] 24)).alloc (.cells #[.int .i64 a] 3)=w5 at *
 rw [hs4] at d0 d1
 simp only [hs4]
 have hD5:=h.below (hB5.mono hB)
 clear e0 e1 e2 c0 c1 c2 hB3 hb2 b0 b1 hD1 hB2 his hbc k2
 go_wp2_with fail
 refine qwd ?_
 refine qdh (f:=59) ⟨_,Tryz.func59⟩ (n:=5) (gf:=115) (lb:=#[.pointer (some ⟨bl+1+1,0,none⟩),.pointer (some ⟨bl+1,0,none⟩)]) rfl (enters_of Tryz.func115 (by kernel_rfl) rfl)
  (qdr ns dv next a (bl+1+1) (bl+1) B w5 ⟨d0,d1,hD5⟩ ha (by omega) hm) (Below.refl _ _) (fun _=>rfl) [bl] ?hwr (KdI w.heap.size bl (bl+3) B dv next ns a w) (fun _ _=>False) (fun _ _=>False)
  ?hI (fun _ _ _ h _=>h) (fun _ _ _ h _=>h) (by simp) ?h0 (KdA w.heap.size bl (bl+3) ns) ?hAx ?assign ?body ?done (fun _ _ _ _ h _=>h.elim) (fun _ _ _ _ h _=>h.elim)
 case hwr =>
  intro g hg
  rw [List.mem_singleton.1 hg]
  refine ⟨by omega,?_⟩
  unfold q7e
  omega
 case hI =>
  rintro wr pre A' B' ⟨v,h1,h2,h3,h4,h5,h6⟩ hi
  have hb:=hi.below (s:=bl+3) (by omega) h6 (by simp)
  refine ⟨v,h1,?_,h3.is hi (by simp),h4.trans (hb.mono (by omega)),⟨h5.doc.below hb (by omega),h5.at_.below hb (by omega),h5.nodes.below (hb.mono (by omega))⟩,Nat.le_trans h6 hi.size⟩
  exact (hb.block bl (by omega)).trans h2
 case h0=>exact ⟨.slice none 0 0,rfl,c2',Owns.nil _ _,hB5,⟨b0',b1',hD5⟩,by omega⟩
 case hAx =>
  rintro x a' A' B' ⟨Bx,h1,h2,h3⟩ hi
  exact ⟨Bx,h1.is hi (by simp),h2,h3⟩
 case assign =>
  rintro l wr pre x W K ⟨v,h1,h2,h3,h4,h5,h6⟩ hK
  gi_wp2_with (refine qrx rfl 35 _ _ rfl W.heap.size 35 _ (ndC (ndAt ns x)) rfl (Blk.new W _ _) rfl rfl qza (qec _) ?_; intro w6 g6 k6 z6)
  exact hK _ _ (((Kept.refl [] W).alloc _).fresh k6 (by simp)) ⟨W.heap.size,g6,h6,_,_,_,_,_,_,_,_,_,_,_,_,_,_,_,_,_,_,_,_,_,_,_,_,_,_,_,rfl⟩
 case body =>
  rintro l wr pre x a' W hl hlp hwl ⟨v,rfl,h2,h3,h4,h5,h6⟩ ⟨Bx,hbx,hn0,u0,u1,u4,u8,u9,u10,u11,u12,u13,u14,u15,u16,u17,u18,u19,u20,u21,u22,u23,u24,u25,u26,u27,u28,u29,u30,u31,rfl⟩ hpre
  have e0:∀ V:BW W.heap.size W,V.val.cell? ⟨Bx,1,none⟩=some (.int .i64 (ndAt ns x).depth):=fun V=>(hbx.below V.ok hbx.lt).cell 1
  have e1:∀ V:BW W.heap.size W,V.val.cell? ⟨w.heap.size,0,none⟩=some dv:=fun V=>(h5.doc.below V.ok h5.doc.lt).cell 0
  have e2:∀ V:BW W.heap.size W,V.val.cell? ⟨w.heap.size+1,0,none⟩=some (.int .i64 a):=fun V=>(h5.at_.below V.ok h5.at_.lt).cell 0
  obtain ⟨A,c,rfl,hc,hr⟩:=h5.nodes
  obtain ⟨b,o,rfl,hb,hcell⟩:=Shp.In.at_ (S:=shNd) (⟨A,c,rfl,hc,hr⟩:shNd.In W B (.slice A ns.length c) ns) (by decide) (by omega)
  have e3:∀ V:BW W.heap.size W,V.val.cell? ⟨b,o+a * 51+1,none⟩=some (.int .i64 (ndAt ns a).depth):=fun V=>(V.ok.cell (p:=⟨b,o+a * 51+1,none⟩) (by show b < _; omega)).trans (by rw [qxb ha,Nat.add_assoc]; exact hcell a ha 1 (by decide))
  have hkd:kdP ns a x=decide ((ndAt ns x).depth - 1=(ndAt ns a).depth):=rfl
  have hd1:=hd x
  have hd2:=hd a
  have hpl:pre.length<=ns.length:=by
   have h1:=hpre.length_le
   have h2:(qcb ns a).length<=ns.length:=by
    unfold qcb
    refine Nat.le_trans (List.takeWhile_sublist _).length_le ?_
    rw [List.length_drop,List.length_range]
    omega
   rw [List.length_append] at h1
   omega
  have hll:=quo ns a pre
  have hkl:=Lib.hid (qjt (ns:=ns) (a:=a) (i:=x) (pre:=pre))
  have hkn:=Lib.hid (qfv (ns:=ns) (a:=a) (i:=x) (pre:=pre))
  generalize (ndAt ns x).depth=dx at *
  generalize (ndAt ns a).depth=da at *
  by_cases hz:dx - 1=da
  ·have hzb:(dx - 1 == da)=true:=by simpa using hz
   rw [decide_eq_true hz] at hkd
   have hkl:=Lib.hid (hkl.out hkd)
   clear hz hkd hkn
   gi_wp2
   refine qai [9] [0,1,2,3,4,5,6,7,8] [9] (fun w'=>∃ V:BW (W.heap.size) W,w'=V.val) (by kernel_rfl) (by kernel_rfl) (by rintro ⟨_,_,h⟩; exact h) (fun c a d v w h=>by cases d <;> exact h) ⟨⟨W.drew,(Below.refl _ _).drew⟩,rfl⟩ ?_
   simp only [pickD,List.map_cons,List.map_nil,List.getD_cons_zero,List.getD_cons_succ]
   repeat (go_big_quiet_step (fail))
   refine wpQuiet_nil ?_
   refine qca rfl fun K hK=>?_
   go_simp
   refine hK.out _ _ (.inl (by decide)) ?_
   clear hK K
   refine qla ?_
   have kd:Kept [] W W.drew:=(Kept.refl [] W).drew
   have h2':Boxed W.drew bl 47 v:=h2
   have h3':Owns W.drew (bl+3) v (kdL ns a pre):=h3
   have hsd:W.drew.heap.size=W.heap.size:=rfl
   have HSD:=Lib.hid hsd
   have h6':bl+3<=W.drew.heap.size:=h6
   clear hsd
   generalize W.drew=W0 at *
   have c0:=h2'.cell
   have c1:=h2'.frozen
   gi_wp2_with (refine qvt _ (x:Int) rfl _ _ rfl (bl+3) v (kdL ns a pre) rfl h3' rfl (by omega) h6' ?_; intro v' w1 hown' hgrow hloc; obtain ⟨A1,n1,c1',rfl⟩:=q7j hown'; have h2b:=(h2'.alloc (.cells #[.int .i64 x] 3)).kept hgrow (fun e=>by have:=(h3'.lt bl e.symm).1; omega); have c2:=h2b.cell; have c3:=h2b.frozen)
   obtain ⟨r1,r2⟩:=qji (u:=.slice A1 n1 c1') hgrow hloc (fun k hk=>(hown'.lt k hk).2) h2'.lt
   have hkw:Kept (bl :: v.ownBlock.toList) W (w1.setCell ⟨bl,0,none⟩ (.slice A1 n1 c1')):=(kd.more (by simp)).trans r1
   have hwl:∀ g ∈ bl :: v.ownBlock.toList,bl<=g:=fun g hg=>by
    rcases List.mem_cons.1 hg with rfl | hg
    ·exact Nat.le_refl _
    ·have:=(h3.lt g (by simpa using hg)).1
     omega
   have hb2:=hkw.to_below (B:=bl) (Nat.le_of_lt h2.lt) hwl
   refine ⟨bl :: (Value.slice A1 n1 c1').ownBlock.toList,⟨_,rfl,h2b.set _,?_,h4.trans (hb2.mono (by omega)),⟨h5.doc.below hb2 (by omega),h5.at_.below hb2 (by omega),h5.nodes.below (hb2.mono (by omega))⟩,Nat.le_trans h6 hkw.size⟩,hkw,fun g hg=>?_⟩
   ·rw [hkl.out]
    exact hown'.keptW ((Kept.refl [bl] w1).setCell (p:=⟨bl,0,none⟩) (by simp) _) fun g hg=>by
     have:=(hown'.lt g hg).1
     simp
     omega
   ·obtain ⟨q1,q2⟩:=r2 g hg
    exact ⟨q1.imp id fun h=>by rw [<-HSD.out]; exact h,q2⟩
  ·have hzb:(dx - 1 == da)=false:=by simpa using hz
   rw [decide_eq_false hz] at hkd
   have hkn:=Lib.hid (hkn.out hkd)
   clear hz hkd hkl
   gi_wp2
   refine qai [9] [0,1,2,3,4,5,6,7,8] [9] (fun w'=>∃ V:BW (W.heap.size) W,w'=V.val) (by kernel_rfl) (by kernel_rfl) (by rintro ⟨_,_,h⟩; exact h) (fun c a d v w h=>by cases d <;> exact h) ⟨⟨W.drew,(Below.refl _ _).drew⟩,rfl⟩ ?_
   simp only [pickD,List.map_cons,List.map_nil,List.getD_cons_zero,List.getD_cons_succ]
   repeat (go_big_quiet_step (fail))
   refine wpQuiet_nil ?_
   refine qca rfl fun K hK=>?_
   go_simp
   refine hK.out _ _ (.inl (by decide)) ?_
   clear hK K
   refine qla ?_
   gi_wp2
   refine ⟨_,⟨v,rfl,h2,by rw [hkn.out]; exact h3,h4.drew,⟨h5.doc.drew,h5.at_.drew,h5.nodes⟩,h6⟩,(Kept.refl _ W).drew,fun g hg=>⟨.inl hg,(hwl g hg).1⟩⟩
 case done =>
  rintro D wr W hD ⟨v,rfl,h2,h3,h4,h5,h6⟩ hK
  refine qda (n:=6) ?_
  have c0:=h2.cell
  gi_wp2
  refine ⟨by simp,.inl ⟨_,_,rfl,run_takeDeferred hK,?_⟩⟩
  refine ⟨_,results_tmp rfl _ _ _,v,rfl,?_,h4.trans (belowK_b (w:=w) (Nat.le_refl _) W D _ _ (by omega) hK rfl rfl)⟩
  exact Owns.base_le (ownsRow_putObj h3 _ hK rfl) (by omega)
end Go.Proofs.YtlnekijhbnlclaaGreatDoor
