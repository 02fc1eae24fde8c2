/-
  Laws: cells of an own row's element are written over; walks: windowpaneref05.Copy, windowpanelaw19.frag.
-/
import Derived.Test.YtlnekijhbnlclaaGreatDoorTwoW
import Derived.Test.YtlnekijhbnlclaaGreatDoorBlocksLaw
namespace Go.Proofs.YtlnekijhbnlclaaGreatDoor
open Go.RowKit Go.Shelf
attribute [local go_sem] Oper.semAt_some
set_option linter.unusedSimpArgs false
set_option linter.unusedVariables false
theorem qli:∀ (r A B:List Value) (j:Nat),j+r.length<=A.length->setL (A ++ B) j r=setL A j r ++ B
 | [],_,_,_,_=>rfl
 | v :: r,A,B,j,h=>by
  simp only [List.length_cons] at h
  rw [setL,setL,List.set_append_left _ _ (by omega),qli r (A.set j v) B (j+1) (by rw [List.length_set]; omega)]
theorem qvn:∀ (r A B:List Value) (j:Nat),setL (A ++ B) (A.length+j) r=A ++ setL B j r
 | [],_,_,_=>rfl
 | v :: r,A,B,j=>by
  rw [setL,setL,List.set_append_right _ _ (by omega),Nat.add_sub_cancel_left,Nat.add_assoc,qvn r A (B.set j v) (j+1)]
section
variable {α:Type} {S:Shp α}
theorem Shp.row_setL:∀ {L:List α} {i:Nat} (_:i < L.length) (x:α) (j:Nat) (cs:List Value),j+cs.length<=S.k->S.enc x=setL (S.enc L[i]) j cs->setL (S.row L) (i * S.k+j) cs=S.row (L.set i x)
 | y :: L,0,_,x,j,cs,hj,h=>by
  have h':S.enc x=setL (S.enc y) j cs:=h
  rw [S.row_cons,zB,S.row_cons,h',Nat.zero_mul,Nat.zero_add,qli _ _ _ _ (by rw [S.len]; exact hj)]
 | y :: L,i+1,hi,x,j,cs,hj,h=>by
  have ih:=Shp.row_setL (L:=L) (i:=i) (by simpa using hi) x j cs hj (by simpa using h)
  rw [S.row_cons,zC,S.row_cons,<-ih,<-qvn,S.len]
  congr 1
  rw [Nat.add_mul]
  omega
theorem Shp.Owns.over {w:World} {base g n c:Nat} {L:List α} (h:S.Owns w base (.slice (some ⟨g,0,none⟩) n c) L) {i:Nat} (hi:i < L.length) (x:α) (j:Nat) (cs:List Value) (hj:j+cs.length<=S.k) (hx:S.enc x=setL (S.enc L[i]) j cs) :
  ∃ C:List Value,Blk w g S.t C.toArray/\(i * S.k+j)+cs.length<=C.length/\∀ w',Blk w' g S.t (setL C (i * S.k+j) cs).toArray->S.Owns w' base (.slice (some ⟨g,0,none⟩) n c) (L.set i x):=by
 rcases h.2 with ⟨e,_⟩ | ⟨g',cap',cur,e,hg,hb,hc,hm,hs,ht⟩
 ·cases e
 ·injection e with e1 e2 e3
  injection e1 with e1
  injection e1 with e1
  subst e1 e2 e3
  have hik:(i+1) * S.k<=L.length * S.k:=Nat.mul_le_mul_right _ hi
  rw [Nat.add_mul] at hik
  have hcl:cur.toList.length=c * S.k:=by simpa using hs
  have hlc:L.length * S.k<=c * S.k:=Nat.mul_le_mul_right _ hc
  have hsp:cur.toList=S.row L ++ cur.toList.drop (L.length * S.k):=by rw [<-ht,List.take_append_drop]
  refine ⟨cur.toList,hb,by omega,fun w' hb'=>⟨by rw [S.row_len],.inr ⟨g,c,(setL cur.toList (i * S.k+j) cs).toArray,by rw [List.length_set],hg,hb',by rw [List.length_set]; exact hc,hm,by simp [qam,hcl],?_⟩⟩⟩
  have hle:i * S.k+j+cs.length<=(S.row L).length:=by rw [S.row_len]; omega
  rw [List.length_set,hsp,qli _ _ _ _ hle,Shp.row_setL hi x j cs hj hx]
  show ((S.row (L.set i x) ++ _).toArray.toList).take _=_
  rw [List.take_left']
  rw [S.row_len,List.length_set]
end
theorem qbu:∃ bytes,shNd.Ok Tryz.prog 22 bytes:=by
 have h:(Tryz.prog.info? 35).map (fun i=>(i.zero,i.size,decide (i.bytes<=10000)))=some (some (.agg (ndC nd0).toArray),51,true):=by kernel_rfl
 cases hi:Tryz.prog.info? 35 with
 | none=>rw [hi] at h; cases h
 | some i =>
  rw [hi] at h
  injection h with h
  injection h with h1 h2
  injection h2 with h2 h3
  exact ⟨i.bytes,Tryz.underlying22,⟨i,_,hi,h1,h2,rfl,rfl⟩,by decide,of_decide_eq_true h3⟩
set_option maxRecDepth 100000 in
set_option maxHeartbeats 4000000 in
theorem qmu (ns:List Nd) (dv:Value) (next:Int) (w:World) (h:DocIn w w.heap.size dv ns) (hm:ns.length<=1000) :
  Calls Tryz.prog 15 #[docA dv next] w fun e w'=>Below w.heap.size w w'/\∃ v',e=.returned (docA v' next)/\shNd.Owns w' w.heap.size v' ns:=by
 unfold docA
 obtain ⟨bytes,hok⟩:=qbu
 obtain ⟨W2,hW2⟩:∃ W2,W2=(w.alloc (.cells #[dv,.int .i64 next] 24)).alloc (.cells #[.slice none 0 0,.int .i64 0] 24):=⟨_,rfl⟩
 have hb2:Below w.heap.size w W2:=by rw [hW2]; exact ((Below.refl _ _).alloc (Nat.le_refl _) _).alloc (by simp) _
 have g1:Blk W2 w.heap.size 24 #[dv,.int .i64 next]:=by rw [hW2]; exact (Blk.new _ _ _).alloc _
 have g2:Blk W2 (w.heap.size+1) 24 #[.slice none 0 0,.int .i64 0]:=by
  rw [hW2]
  have:=Blk.new (w.alloc (.cells #[dv,.int .i64 next] 24)) 24 #[.slice none 0 0,.int .i64 0]
  rwa [World.size_alloc] at this
 have hd2:=Shp.In.more (Shp.In.below h hb2) hb2.size
 have HW2:=Lib.hid hW2
 clear hW2 h
 have hd2':=hd2
 obtain ⟨A,cc,rfl,-,-⟩:=hd2'
 go_enter Tryz.func15,Tryz.ntmps15
 go_upto_region 1 with fail
 simp only [<-HW2.out]
 clear HW2
 have c0:W2.cell? ⟨w.heap.size,0,none⟩=some (.slice A ns.length cc):=g1.cell 0
 go_upto_region 3 with (at_builtin; refine qhn hok rfl _ _ rfl rfl (Shp.Owns.nil W2 W2.heap.size) rfl hd2 (by simp; omega) (Nat.le_refl _) ?_; intro v5 w5 ho5 hg5)
 rw [List.nil_append] at ho5
 have hb5:Below W2.heap.size W2 w5:=Below.grown_own hg5 (Nat.le_refl _) (fun k e=>by cases e)
 have c1:w5.cell? ⟨w.heap.size,1,none⟩=some (.int .i64 next):=(hb5.cell (p:=⟨w.heap.size,1,none⟩) g1.lt).trans (g1.cell 1)
 have g5:=g2.below hb5 g2.lt
 have hlt:=g2.lt
 obtain ⟨A5,n5,c5,rfl⟩:=ho5.slice_
 clear c0
 go_wp2_with (first
  | (refine qxa rfl 24 _ _ rfl (w.heap.size+1) 24 [.slice none 0 0,.int .i64 0] [.slice A5 n5 c5,.int .i64 next] rfl g5 rfl rfl qxd (by simp [Value.oneCell']) ?_; intro w6 g6 k6 z6; simp only [Act.put]))
 refine bodyPost_ret (results_cell_row rfl _ _ (w.heap.size+1) 24 _ (0,0) _ rfl g6 Tryz.underlying24 rfl qxd) rfl ?_
 have hk:Below w.heap.size w5 w6:=k6.to_below (by have:=hb2.size; have:=hb5.size; omega) (by simp)
 refine ⟨hb2.trans ((hb5.mono hb2.size).trans hk),_,rfl,(ho5.kept k6 fun g e=>?_).base_le hb2.size⟩
 have:=(ho5.lt g e).1
 rw [List.mem_singleton]
 omega
def FrB (l:List Fg) (key:Int) (w0:World) (i:Value) (wr:World):Prop:=∃ k:Nat,k<=l.length/\i=.int .i64 k/\q7a l key=q7a (l.drop k) key/\wr=w0
theorem qmp (f:Fg) (l:List Fg) (key:Int):q7a (f :: l) key=if (decide (f.node=key) && isBox f)=true then f else q7a l key:=by
 unfold q7a
 rw [List.find?_cons]
 cases (decide (f.node=key) && isBox f) <;> rfl
set_option maxRecDepth 100000 in
set_option maxHeartbeats 4000000 in
theorem qyx (l:List Fg) (v:Value) (key:Int) (w:World) (h:(shFg YT.frag).In w w.heap.size v l) (hm:l.length<=4000000000) :
  Calls Tryz.prog 25 #[v,.int .i64 key] w fun e w'=>e=.returned (.agg (fgC (q7a l key)).toArray)/\Below w.heap.size w w':=by
 have h':=h
 obtain ⟨A,c,rfl,-,-⟩:=h'
 obtain ⟨W1,hW1⟩:∃ W1,W1=w.alloc (.cells #[.int .i64 0,.int .i64 0,.int .i64 0,.int .i64 0,.int .i64 0,.int .i64 0,.int .i64 0,.string ⟨#[]⟩] 42):=⟨_,rfl⟩
 have hb1:Below w.heap.size w W1:=by rw [hW1]; exact (Below.refl _ _).alloc (Nat.le_refl _) _
 have g1:Blk W1 w.heap.size 42 (fgC fg0).toArray:=by rw [hW1]; exact Blk.new _ _ _
 have hin:=Shp.In.below h hb1
 have HW1:=Lib.hid hW1
 clear hW1 h
 go_enter Tryz.func25,Tryz.ntmps25
 go_upto_region 1 with fail
 simp only [<-HW1.out]
 clear HW1
 go_wp2_with fail
 go_loopw [5] (FrB l key W1) (fun i _=>l.length - (intOf i).toNat)
 case atStart=>exact ⟨0,Nat.zero_le _,rfl,rfl,rfl⟩
 case round =>
  obtain ⟨k,hk,rfl,hfr,rfl⟩:=hrel
  by_cases hlt:k < l.length
  ·have hzk:(k:Int) < (l.length:Int):=by omega
   obtain ⟨b,o,e,hbB,hc⟩:=Shp.In.at_ hin (by decide) (by omega)
   cases e
   rw [List.drop_eq_getElem_cons hlt,qmp] at hfr
   have hrt:wr.rangeAt b (o+k * 8) (fgC l[k]):=fun j v hv=>by
    have hk8:j < 8:=(List.getElem?_eq_some_iff.1 hv).1
    rw [<-hv,Nat.add_assoc]
    exact hc k hlt j hk8
   have k0:wr.cell? ⟨b,o+k * 8,none⟩=some (.int .i64 l[k].node):=hc k hlt 0 (by decide)
   have k1:wr.cell? ⟨b,o+k * 8+1,none⟩=some (.int .i64 l[k].part):=by rw [Nat.add_assoc]; exact hc k hlt 1 (by decide)
   generalize l[k]=f at *
   clear hc
   have HRT:=Lib.hid hrt
   clear hrt
   by_cases h1:f.node=key
   ·have z1:(f.node == key)=true:=by rw [beq_iff_eq]; exact h1
    by_cases h2:f.part=0
    ·have z2:(f.part == 0)=true:=by rw [beq_iff_eq]; exact h2
     rw [if_pos (by simp [h1,h2,isBox])] at hfr
     have HF:=Lib.hid hfr
     clear hfr h1 h2
     generalize f.node=fn at *
     generalize f.part=fp at *
     go_wp2_with (first | (refine wpList_load_mid rfl 42 _ rfl b (o+k * 8) rfl (fgC f) _ HRT.out Tryz.underlying42 rfl q8b ?_) | (refine qxa rfl 42 _ _ rfl w.heap.size 42 (fgC fg0) (fgC f) rfl g1 rfl rfl q8b (qbe f) ?_; intro w5 r5 k5 z5; simp only [Act.put]))
     refine bodyPost_ret (results_cell_row rfl _ _ w.heap.size 42 _ (0,0) _ rfl r5 Tryz.underlying42 rfl q8b) rfl ?_
     exact ⟨by rw [HF.out],hb1.trans (k5.to_below hb1.size (by simp))⟩
    ·have z2:(f.part == 0)=false:=beq_false_of_ne h2
     rw [if_neg (by simp [h2,isBox])] at hfr
     have HF:=Lib.hid hfr
     clear hfr h1 h2 HRT
     generalize f.node=fn at *
     generalize f.part=fp at *
     go_wp2_with fail
     go_roundw
     case rel=>exact ⟨k+1,hlt,by go_num,HF.out,rfl⟩
     case measure=>simp [intOf] <;> omega
   ·have z1:(f.node == key)=false:=beq_false_of_ne h1
    rw [if_neg (by simp [h1])] at hfr
    have HF:=Lib.hid hfr
    clear hfr h1 HRT
    generalize f.node=fn at *
    generalize f.part=fp at *
    go_wp2_with fail
    go_roundw
    case rel=>exact ⟨k+1,hlt,by go_num,HF.out,rfl⟩
    case measure=>simp [intOf] <;> omega
  ·obtain rfl:k=l.length:=by omega
   rw [List.drop_length] at hfr
   have HF:=Lib.hid hfr
   clear hfr
   go_wp2_with (first | (refine qxa rfl 42 _ _ rfl w.heap.size 42 (fgC fg0) (fgC fg0) rfl g1 rfl rfl q8b (qbe fg0) ?_; intro w5 r5 k5 z5; simp only [Act.put]))
   refine bodyPost_ret (results_cell_row rfl _ _ w.heap.size 42 _ (0,0) _ rfl r5 Tryz.underlying42 rfl q8b) rfl ?_
   exact ⟨by rw [HF.out]; rfl,hb1.trans (k5.to_below hb1.size (by simp))⟩
end Go.Proofs.YtlnekijhbnlclaaGreatDoor
