/-
  Walks: windowpaneref05: less, End, Kids, Copy; windowpanelaw05: Great.
-/
import Derived.Test.YtlnekijhbnlclaaGreatDoorKids
import Derived.Test.YtlnekijhbnlclaaGreatDoorMMay
import Derived.Test.YtlnekijhbnlclaaGreatDoorBlocksPlain
namespace Go.Proofs.YtlnekijhbnlclaaGreatDoor
open Go.RowKit Go.Shelf
attribute [local go_sem] Oper.semAt_some
set_option linter.unusedSimpArgs false
set_option linter.unusedVariables false
theorem qoh {w:World} {B:Nat} {dv:Value} {ns:List Nd} (h:DocIn w B dv ns) (hn:0 < ns.length) :
  ∃ b o c,dv=.slice (some ⟨b,o,none⟩) ns.length c/\b < B/\∀ i (hi:i < ns.length) j,j < 51->w.cell? ⟨b,o+i * 51+j,none⟩=(ndC ns[i])[j]?:=by
 have h':=h
 obtain ⟨A,c,rfl,_,_⟩:=h'
 obtain ⟨b,o,rfl,hb,hc⟩:=Shp.In.at_ h (by decide) hn
 refine ⟨b,o,c,rfl,hb,fun i hi j hj=>?_⟩
 rw [Nat.add_assoc]
 exact hc i hi j hj
theorem qls (n:Nd):(ndC n)[0]?=some (.int .i64 n.key)/\(ndC n)[1]?=some (.int .i64 n.depth)/\(ndC n)[2]?=some (.int .u8 n.kind)/\(ndC n)[50]?=some (.string n.text):=⟨rfl,rfl,rfl,rfl⟩
def q7c:Int->List Nd->Bool
 | _,[]=>false
 | z,n :: r=>if z < (n.text.size:Int) then true else q7c (z - n.text.size) r
def qni (ns:List Nd):Bool:=if 320 < ns.length then true else q7c 5000 ns
theorem q8p (z:Int) (n:Nd) (r:List Nd):q7c z (n :: r)=if z < (n.text.size:Int) then true else q7c (z - n.text.size) r:=rfl
theorem qgr:∀ (ns:List Nd) (z:Int),q7c z ns=false->∀ n ∈ ns,(n.text.size:Int)<=z
 | [],_,_,n,hn=>by cases hn
 | m :: r,z,h,n,hn=>by
  unfold q7c at h
  split at h
  ·cases h
  ·rcases List.mem_cons.1 hn with rfl | hn
   ·omega
   ·have:=qgr r _ h n hn
    omega
def GrA (ns:List Nd) (w0:World) (left i:Value) (wr:World):Prop:=∃ (k:Nat) (z:Int),k<=ns.length/\i=.int .i64 k/\left=.int .i64 z/\(0<=z/\z<=5000)/\q7c z (ns.drop k)=q7c 5000 ns/\wr=w0
set_option maxRecDepth 100000 in
set_option maxHeartbeats 4000000 in
theorem qxx (ns:List Nd) (dv:Value) (next:Int) (w:World) (h:DocIn w w.heap.size dv ns) :
  Calls Tryz.prog 12 #[docA dv next] w fun e w'=>e=.returned (.bool (qni ns))/\Below w.heap.size w w':=by
 unfold docA
 have hb1:Below w.heap.size w (w.alloc (.cells #[dv,.int .i64 next] 24)):=(Below.refl _ _).alloc (Nat.le_refl _) _
 have h1:DocIn (w.alloc (.cells #[dv,.int .i64 next] 24)) w.heap.size dv ns:=Shp.In.below h hb1
 have h':=h1
 obtain ⟨A,c,rfl,_,_⟩:=h'
 obtain ⟨W1,hW1⟩:∃ W1,W1=w.alloc (.cells #[.slice A ns.length c,.int .i64 next] 24):=⟨_,rfl⟩
 have g1:Blk W1 w.heap.size 24 #[.slice A ns.length c,.int .i64 next]:=by rw [hW1]; exact Blk.new _ _ _
 rw [<-hW1] at hb1 h1
 have HW1:=Lib.hid hW1
 clear hW1 h
 have c0:W1.cell? ⟨w.heap.size,0,none⟩=some (.slice A ns.length c):=g1.cell 0
 go_enter Tryz.func12,Tryz.ntmps12
 go_upto_region 1 with fail
 simp only [<-HW1.out]
 clear HW1
 by_cases h320:320 < ns.length
 ·have z1:(320:Int) < (ns.length:Int):=by omega
  have HR:=Lib.hid (show qni ns=true from if_pos h320)
  clear h320
  go_wp2_with fail
  go_ret
  exact ⟨by rw [HR.out]; rfl,hb1⟩
 ·have z1:¬ (320:Int) < (ns.length:Int):=by omega
  have HR:=Lib.hid (show qni ns=q7c 5000 ns from if_neg h320)
  go_wp2_with fail
  go_loopw [3,4] (GrA ns W1) (fun _ i _=>ns.length - (intOf i).toNat)
  case atStart=>exact ⟨0,5000,Nat.zero_le _,rfl,rfl,by omega,rfl,rfl⟩
  case round =>
   obtain ⟨k,z,hk,rfl,rfl,⟨hz0,hz1⟩,hg,rfl⟩:=hrel
   by_cases hlt:k < ns.length
   ·have hzk:(k:Int) < (ns.length:Int):=by omega
    obtain ⟨b,o,c',e,hbB,hc⟩:=qoh h1 (by omega)
    cases e
    have hcell:=hc k hlt 50 (by decide)
    rw [(qls _).2.2.2] at hcell
    rw [List.drop_eq_getElem_cons hlt,q8p] at hg
    clear hc
    obtain ⟨t,ht⟩:∃ t,t=ns[k].text:=⟨_,rfl⟩
    rw [<-ht] at hcell hg
    clear ht
    by_cases hs:z < (t.size:Int)
    ·rw [if_pos hs] at hg
     have HG:=Lib.hid hg
     clear hg
     go_wp2_with fail
     go_ret
     exact ⟨by rw [HR.out,<-HG.out]; rfl,hb1⟩
    ·rw [if_neg hs] at hg
     have HG:=Lib.hid hg
     have hw:IntKind.i64.wrap (z - (t.size:Int))=z - (t.size:Int):=by rw [IntKind.wrap_i64]; omega
     clear hg
     go_wp2_with fail
     go_roundw
     case rel=>exact ⟨k+1,z - (t.size:Int),hlt,by go_num,by go_num,by omega,HG.out,rfl⟩
     case measure=>simp [intOf] <;> omega
   ·obtain rfl:k=ns.length:=by omega
    rw [List.drop_length] at hg
    have HG:=Lib.hid hg
    clear hg
    go_wp2_with fail
    go_ret
    exact ⟨by rw [HR.out,<-HG.out]; rfl,hb1⟩
set_option maxRecDepth 100000 in
theorem qro (a b:Int) (w:World):Calls Tryz.prog 35 #[.int .i64 a,.int .i64 b] w fun e w'=>e=.returned (.bool (decide (a < b) && decide (IntKind.i64.wrap (a+1)=b)))/\w'=w:=by
 by_cases h:a < b
 ·obtain ⟨s,hs⟩:∃ s,IntKind.i64.wrap (a+1)=s:=⟨_,rfl⟩
  have hs':wrap64 (a+1)=s:=by rw [<-hs,IntKind.wrap_i64]; unfold wrap64; rfl
  rw [hs]
  obtain ⟨q,hq⟩:∃ q,(s == b)=q:=⟨_,rfl⟩
  have HQ:=Lib.hid (show decide (s=b)=q by rw [<-hq]; rfl)
  cases q with
  | true =>
   go_enter Tryz.func35,Tryz.ntmps35
   go_wp2_with fail
   go_ret
   exact ⟨by rw [HQ.out]; simp [h],rfl⟩
  | false =>
   go_enter Tryz.func35,Tryz.ntmps35
   go_wp2_with fail
   go_ret
   exact ⟨by rw [HQ.out]; simp [h],rfl⟩
 ·go_enter Tryz.func35,Tryz.ntmps35
  go_wp2_with fail
  go_ret
  exact ⟨by rw [decide_eq_false (show ¬ a < b by omega)]; rfl,rfl⟩
theorem qxn {ns:List Nd} {a k:Nat} (ha:a < ns.length) (h1:a < k) (h2:k<=ns.length) (h3:∀ x,a < x->x < k->(ndAt ns a).depth < (ndAt ns x).depth) (h4:k < ns.length->¬ (ndAt ns a).depth < (ndAt ns k).depth):k=eN ns a:=by
 obtain ⟨e1,_,e3,e4⟩:=q4b ha
 have e5:a+1<=eN ns a:=by unfold eN; omega
 rcases Nat.lt_trichotomy k (eN ns a) with h | h | h
 ·exact absurd (e3 k h1 h) (h4 (by omega))
 ·exact h
 ·exact absurd (h3 (eN ns a) (by omega) h) (e4 (by omega))
def EnA (ns:List Nd) (a:Nat) (w0:World) (i:Value) (wr:World):Prop:=∃ k:Nat,a < k/\k<=ns.length/\i=.int .i64 k/\(∀ x,a < x->x < k->(ndAt ns a).depth < (ndAt ns x).depth)/\Below w0.heap.size w0 wr
set_option maxRecDepth 100000 in
set_option maxHeartbeats 4000000 in
theorem qbv (ns:List Nd) (dv:Value) (next:Int) (a:Nat) (w:World) (h:DocIn w w.heap.size dv ns) (ha:a < ns.length) (hm:ns.length<=1000000) :
  Calls Tryz.prog 16 #[docA dv next,.int .i64 a] w fun e w'=>e=.returned (.int .i64 (eN ns a))/\Below w.heap.size w w':=by
 unfold docA
 obtain ⟨W1,hW1⟩:∃ W1,W1=w.alloc (.cells #[dv,.int .i64 next] 24):=⟨_,rfl⟩
 have hb1:Below w.heap.size w W1:=by rw [hW1]; exact (Below.refl _ _).alloc (Nat.le_refl _) _
 have g1:Blk W1 w.heap.size 24 #[dv,.int .i64 next]:=by rw [hW1]; exact Blk.new _ _ _
 obtain ⟨b,o,c,rfl,hbB,hc⟩:=qoh (Shp.In.below h hb1) (by omega)
 have HW1:=Lib.hid hW1
 clear hW1 h
 go_enter Tryz.func16,Tryz.ntmps16
 go_upto_region 1 with fail
 simp only [<-HW1.out]
 clear HW1
 have c0:W1.cell? ⟨w.heap.size,0,none⟩=some (.slice (some ⟨b,o,none⟩) ns.length c):=g1.cell 0
 have z1:¬ (a:Int) < 0:=by omega
 have z2:¬ (ns.length:Int)<=(a:Int):=by omega
 have z3:IntKind.i64.wrap ((a:Int)+1)=(a:Int)+1:=by rw [IntKind.wrap_i64]; omega
 go_wp2_with fail
 go_loopw [5] (EnA ns a W1) (fun i _=>ns.length - (intOf i).toNat)
 case atStart=>exact ⟨a+1,by omega,by omega,by go_num,fun x h1 h2=>absurd h1 (by omega),Below.refl _ _⟩
 case round =>
  obtain ⟨k,hak,hk,rfl,hd,hbr⟩:=hrel
  have HD:=Lib.hid hd
  clear hd
  have r0:wr.cell? ⟨w.heap.size,0,none⟩=some (.slice (some ⟨b,o,none⟩) ns.length c):=(hbr.cell (p:=⟨w.heap.size,0,none⟩) g1.lt).trans c0
  have hbW:b < W1.heap.size:=Nat.lt_of_lt_of_le hbB hb1.size
  have rc:∀ i (hi:i < ns.length),wr.cell? ⟨b,o+i * 51+1,none⟩=some (.int .i64 ns[i].depth):=fun i hi=>(hbr.cell (p:=⟨b,o+i * 51+1,none⟩) hbW).trans (hc i hi 1 (by decide))
  have ra:=rc a ha
  have hda:(ndAt ns a).depth=ns[a].depth:=by unfold ndAt; rw [List.getD_eq_getElem?_getD,List.getElem?_eq_getElem ha]; rfl
  by_cases hlt:k < ns.length
  ·have hzk:(k:Int) < (ns.length:Int):=by omega
   have rk:=rc k hlt
   have hdk:(ndAt ns k).depth=ns[k].depth:=by unfold ndAt; rw [List.getD_eq_getElem?_getD,List.getElem?_eq_getElem hlt]; rfl
   by_cases hdd:ns[a].depth < ns[k].depth
   ·have HS:=Lib.hid (show ∀ x,a < x->x < k+1->(ndAt ns a).depth < (ndAt ns x).depth from fun x h1 h2=>by
     by_cases e:x=k
     ·subst e; rw [hda,hdk]; exact hdd
     ·exact HD.out x h1 (by omega))
    generalize ns[a].depth=da at *
    generalize ns[k].depth=dk at *
    clear rc hda hdk
    go_wp2_with fail
    go_quiet (fail)
    go_wp2_with fail
    go_roundw
    case rel=>exact ⟨k+1,by omega,hlt,by go_num,HS.out,qzc hbr _⟩
    case measure=>simp [intOf] <;> omega
   ·have HS:=Lib.hid (qxn ha hak hk HD.out fun _=>by rw [hda,hdk]; exact hdd)
    generalize ns[a].depth=da at *
    generalize ns[k].depth=dk at *
    clear rc hda hdk
    go_wp2_with fail
    go_quiet (fail)
    go_wp2_with fail
    go_ret
    exact ⟨by rw [<-HS.out]; rfl,hb1.trans ((qzc hbr _).mono hb1.size)⟩
  ·have HS:=Lib.hid (qxn ha hak hk HD.out fun h=>absurd h hlt)
   have hzk:¬ (k:Int) < (ns.length:Int):=by omega
   clear rc hda ra
   go_wp2_with fail
   go_quiet (fail)
   go_wp2_with fail
   go_ret
   exact ⟨by rw [<-HS.out]; rfl,hb1.trans ((qzc hbr _).mono hb1.size)⟩
theorem qdw {x y:Int} (hx:(Lit.int .i64 x).wf=true) (hy:(Lit.int .i64 y).wf=true):(decide (x < y) && decide (IntKind.i64.wrap (x+1)=y))=decide (y - 1=x):=by
 simp [Lit.wf,IntKind.min,IntKind.max,IntKind.signed,IntKind.bits] at hx hy
 by_cases h:x < y
 ·rw [IntKind.wrap_i64,decide_eq_true h,Bool.true_and]
  congr 1
  apply propext
  omega
 ·rw [decide_eq_false h,Bool.false_and,decide_eq_false (by omega)]
def kdTo (ns:List Nd) (a k:Nat):List Nat:=(List.range' (a+1) (k - (a+1))).filter fun i=>decide ((ndAt ns i).depth - 1=(ndAt ns a).depth)
theorem qgs {ns:List Nd} {a:Nat} (ha:a < ns.length):kdTo ns a (eN ns a)=kidsN ns a:=by
 unfold kdTo kidsN
 rw [(q4b ha).2.1]
theorem q2q {ns:List Nd} {a k:Nat} (h:a < k):kdTo ns a (k+1)=kdTo ns a k ++ (if decide ((ndAt ns k).depth - 1=(ndAt ns a).depth)=true then [k] else []):=by
 unfold kdTo
 rw [show k+1 - (a+1)=(k - (a+1))+1 by omega,List.range'_1_concat,List.filter_append,show a+1+(k - (a+1))=k by omega]
 congr 1
 rw [List.filter_cons]
 rfl
theorem qlv (ns:List Nd) (a k:Nat):(kdTo ns a k).length<=k:=by
 unfold kdTo
 refine Nat.le_trans (List.length_filter_le _ _) ?_
 rw [List.length_range']
 omega
def intsN (l:List Nat):List Int:=l.map fun i=>Int.ofNat i
def KdB (ns:List Nd) (a:Nat) (w0:World) (l i:Value) (wr:World):Prop:=∃ k:Nat,a < k/\k<=eN ns a/\i=.int .i64 k/\Owns wr w0.heap.size l (intsN (kdTo ns a k))/\Below w0.heap.size w0 wr
set_option maxRecDepth 100000 in
set_option maxHeartbeats 4000000 in
theorem qar (ns:List Nd) (dv:Value) (next:Int) (a:Nat) (w:World) (h:DocIn w w.heap.size dv ns) (ha:a < ns.length) (hm:ns.length<=1000000) (hwf:∀ n ∈ ns,(ndC n).all wfC=true) :
  Calls Tryz.prog 24 #[docA dv next,.int .i64 a] w fun e w'=>∃ v,e=.returned v/\Owns w' w.heap.size v (intsN (kidsN ns a))/\Below w.heap.size w w':=by
 have he:=fun W hW=>qbv ns dv next a W hW ha hm
 have hwd:∀ i (hi:i < ns.length),(Lit.int .i64 ns[i].depth).wf=true:=fun i hi=>by
  have:=hwf _ (List.getElem_mem hi)
  unfold ndC at this
  simp only [List.all_append,List.all_cons,Bool.and_eq_true] at this
  exact this.1.2.1
 unfold docA at he ⊢
 have H:=Lib.hid h
 obtain ⟨W1,hW1⟩:∃ W1,W1=w.alloc (.cells #[dv,.int .i64 next] 24):=⟨_,rfl⟩
 have hb1:Below w.heap.size w W1:=by rw [hW1]; exact (Below.refl _ _).alloc (Nat.le_refl _) _
 have g1:Blk W1 w.heap.size 24 #[dv,.int .i64 next]:=by rw [hW1]; exact Blk.new _ _ _
 obtain ⟨b,o,c,rfl,hbB,hc⟩:=qoh (Shp.In.below h hb1) (by omega)
 have HW1:=Lib.hid hW1
 clear hW1 h
 obtain ⟨e1,_,_,_⟩:=q4b ha
 have e2:a+1<=eN ns a:=by unfold eN; omega
 have z3:IntKind.i64.wrap ((a:Int)+1)=(a:Int)+1:=by rw [IntKind.wrap_i64]; omega
 go_enter Tryz.func24,Tryz.ntmps24
 go_upto_region 1 with fail
 simp only [<-HW1.out]
 clear HW1
 have c0:W1.cell? ⟨w.heap.size,0,none⟩=some (.slice (some ⟨b,o,none⟩) ns.length c):=g1.cell 0
 have c1:W1.cell? ⟨w.heap.size,1,none⟩=some (.int .i64 next):=g1.cell 1
 go_wp2_with fail
 go_loopw [5,6] (KdB ns a W1) (fun _ i _=>ns.length - (intOf i).toNat)
 case atStart=>exact ⟨a+1,by omega,e2,by go_num,by rw [show kdTo ns a (a+1)=[] by unfold kdTo; simp]; exact Owns.nil _ _,Below.refl _ _⟩
 case round =>
  obtain ⟨k,hak,hk,rfl,how,hbr⟩:=hrel
  have hB:=hb1.trans (hbr.mono hb1.size)
  have r0:wr.cell? ⟨w.heap.size,0,none⟩=some (.slice (some ⟨b,o,none⟩) ns.length c):=(hbr.cell (p:=⟨w.heap.size,0,none⟩) g1.lt).trans c0
  have r1:wr.cell? ⟨w.heap.size,1,none⟩=some (.int .i64 next):=(hbr.cell (p:=⟨w.heap.size,1,none⟩) g1.lt).trans c1
  have her:=he wr (Shp.In.more (Shp.In.below H.out hB) hB.size)
  have hlen:=qlv ns a k
  by_cases hlt:k < eN ns a
  ·have hkl:k < ns.length:=by omega
   have hzk:(k:Int) < ((eN ns a:Nat):Int):=by omega
   have hzl:(k:Int) < (ns.length:Int):=by omega
   have hza:(a:Int) < (ns.length:Int):=by omega
   obtain ⟨q,hq⟩:∃ q,(decide (ns[a].depth < ns[k].depth) && decide (IntKind.i64.wrap (ns[a].depth+1)=ns[k].depth))=q:=⟨_,rfl⟩
   have hqd:decide ((ndAt ns k).depth - 1=(ndAt ns a).depth)=q:=by
    rw [<-hq,qdw (hwd a ha) (hwd k hkl),qxb ha,qxb hkl]
   have HQ:=Lib.hid (q2q (ns:=ns) hak)
   rw [hqd] at HQ
   have hless:=qro ns[a].depth ns[k].depth
   rw [hq] at hless
   have HK:=Lib.hid hkl
   go_wp2_with (go_at_call 16; refine her.mono ?_; rintro e w2 ⟨rfl,hb2⟩)
   have hbr2:Below W1.heap.size W1 w2:=hbr.trans (hb2.mono hbr.size)
   have how2:=how.below hb2
   have hbW:b < W1.heap.size:=Nat.lt_of_lt_of_le hbB hb1.size
   have q0:∀ V:BW w2.heap.size w2,V.val.cell? ⟨w.heap.size,0,none⟩=some (.slice (some ⟨b,o,none⟩) ns.length c):=fun V=>((hbr2.trans (V.ok.mono hbr2.size)).cell (p:=⟨w.heap.size,0,none⟩) g1.lt).trans c0
   have qa:∀ V:BW w2.heap.size w2,V.val.cell? ⟨b,o+a * 51+1,none⟩=some (.int .i64 ns[a].depth):=fun V=>((hbr2.trans (V.ok.mono hbr2.size)).cell (p:=⟨b,o+a * 51+1,none⟩) hbW).trans (hc a ha 1 (by decide))
   have qk:∀ V:BW w2.heap.size w2,V.val.cell? ⟨b,o+k * 51+1,none⟩=some (.int .i64 ns[k].depth):=fun V=>((hbr2.trans (V.ok.mono hbr2.size)).cell (p:=⟨b,o+k * 51+1,none⟩) hbW).trans (hc k hkl 1 (by decide))
   generalize ns[a].depth=da at *
   generalize ns[k].depth=dk at *
   clear hq hqd r0 r1 her how hb2 hbr
   refine qna [12] [0,1,2,3,4,5,6,7,8,9,10,11] [12] (fun w'=>∃ V:BW (w2.heap.size) w2,w'=V.val) (by kernel_rfl) (by kernel_rfl) (fun c a d v w h=>by cases d <;> exact h) ⟨⟨w2.drew,(Below.refl _ _).drew⟩,rfl⟩ ?_
   simp only [pickD,List.map_cons,List.map_nil,List.getD_cons_zero,List.getD_cons_succ]
   repeat (go_big_quiet_step (fail))
   refine wpQuiet_nil ?_
   refine qca rfl fun K hK=>?_
   go_simp
   go_at_call 35
   refine (hless _).mono ?_
   rintro e w7 ⟨rfl,rfl⟩
   refine hK.out _ _ (.inl (by decide)) ?_
   clear hK K
   refine qla ?_
   clear q0 qa qk hless
   have how3:=how2.drewN 1
   have hbr3:Below W1.heap.size W1 w2.drew:=hbr2.drew
   have hsz3:W1.heap.size<=w2.drew.heap.size:=hbr3.size
   change Owns w2.drew W1.heap.size _ _ at how3
   generalize w2.drew=w3 at *
   clear how2 hbr2
   cases q with
   | true =>
    go_wp2_with (at_builtin; refine qnx _ (k:Int) rfl _ _ rfl W1.heap.size _ _ rfl how3 rfl (by unfold intsN; rw [List.length_map]; omega) hsz3 ?_; intro v5 w5 ho5 hb5)
    go_roundw
    case rel=>exact ⟨k+1,by omega,hlt,by go_num,by rw [HQ.out,if_pos rfl]; unfold intsN at *; rw [List.map_append]; exact ho5,hbr3.trans hb5⟩
    case measure=>simp [intOf] <;> omega
   | false =>
    go_wp2_with fail
    go_roundw
    case rel=>exact ⟨k+1,by omega,hlt,by go_num,by rw [HQ.out,if_neg (by decide),List.append_nil]; exact how3,hbr3⟩
    case measure=>simp [intOf] <;> omega
  ·obtain rfl:k=eN ns a:=by omega
   have hzk:¬ ((eN ns a:Nat):Int) < ((eN ns a:Nat):Int):=by omega
   go_wp2_with (go_at_call 16; refine her.mono ?_; rintro e w2 ⟨rfl,hb2⟩)
   go_ret
   have how2:=(how.below hb2).base_le hb1.size
   rw [qgs ha] at how2
   exact ⟨_,rfl,how2,hB.trans (hb2.mono hB.size)⟩
end Go.Proofs.YtlnekijhbnlclaaGreatDoor
