/-
  A document as an argument: what a walk is told of it (written by gen_argdoc.py).
-/
import Derived.Test.YtlnekijhbnlclaaGreatDoorOpens
import Derived.Test.YtlnekijhbnlclaaGreatDoorFlowPlain
import Derived.Test.YtlnekijhbnlclaaGreatDoorRangeK
import Derived.Deep.Slices
namespace Go.Proofs.YtlnekijhbnlclaaGreatDoor
open Go.ChangeShapes Go.WideShapes Go.ChangeAt Go.RowKit
def ndSh:List TypeId:=[3,3,5,5,4,5,3,5,3,5,3,5,3,5,3,5,3,5,3,5,3,5,3,5,3,3,3,3,3,3,3,3,3,3,3,3,5,5,5,5,5,4,5,3,3,3,3,5,3,3,9]
theorem qxw:lsh Tryz.prog 12 35=some ndSh:=by kernel_rfl
theorem qmv:Tryz.prog.cellsOf 35=51:=by kernel_rfl
theorem qxj {α:Type} {p:Nat->α->Prop}:∀ {n:Nat},(∀ i,i < n->∃ x,p i x)->∃ L:List α,L.length=n/\∀ i (h:i < L.length),p i L[i]
 | 0,_=>⟨[],rfl,fun i h=>absurd h (by simp)⟩
 | n+1,h=>by
  obtain ⟨L,hl,hp⟩:=qxj (n:=n) fun i hi=>h i (by omega)
  obtain ⟨x,hx⟩:=h n (by omega)
  refine ⟨L ++ [x],by simp [hl],fun i hi=>?_⟩
  rcases Nat.lt_or_ge i L.length with h1 | h1
  ·rw [List.getElem_append_left h1]
   exact hp i h1
  ·have:i=n:=by simp at hi; omega
   subst this
   rw [List.getElem_append_right h1]
   simpa using hx
set_option maxRecDepth 100000 in
set_option maxHeartbeats 4000000 in
theorem qix {H:Type} {enc:TypeId×Value->H} {W:World} {p:List MemPlace} {fuel:Nat} {L:List Value} {x:DataW H×List MemPlace} (hL:L.length=51)
  (hf:DataW.trod enc Tryz.prog W 0 (fun _=>true) true fuel 35 L=some x) (hp:∀ z ∈ x.2,z ∈ p):∃ n:Nd,ndC n=L/\(ndC n).all wfC=true/\n.text.size<=maxLen:=by
 have ho:=qbh 12 _ _ qxw fuel L _ hf hp hL
 clear hf hL
 unfold ndSh at ho
 obtain ⟨c0,L,rfl,h0,ho⟩:=Opens.cons ho
 obtain ⟨c1,L,rfl,h1,ho⟩:=Opens.cons ho
 obtain ⟨c2,L,rfl,h2,ho⟩:=Opens.cons ho
 obtain ⟨c3,L,rfl,h3,ho⟩:=Opens.cons ho
 obtain ⟨c4,L,rfl,h4,ho⟩:=Opens.cons ho
 obtain ⟨c5,L,rfl,h5,ho⟩:=Opens.cons ho
 obtain ⟨c6,L,rfl,h6,ho⟩:=Opens.cons ho
 obtain ⟨c7,L,rfl,h7,ho⟩:=Opens.cons ho
 obtain ⟨c8,L,rfl,h8,ho⟩:=Opens.cons ho
 obtain ⟨c9,L,rfl,h9,ho⟩:=Opens.cons ho
 obtain ⟨c10,L,rfl,h10,ho⟩:=Opens.cons ho
 obtain ⟨c11,L,rfl,h11,ho⟩:=Opens.cons ho
 obtain ⟨c12,L,rfl,h12,ho⟩:=Opens.cons ho
 obtain ⟨c13,L,rfl,h13,ho⟩:=Opens.cons ho
 obtain ⟨c14,L,rfl,h14,ho⟩:=Opens.cons ho
 obtain ⟨c15,L,rfl,h15,ho⟩:=Opens.cons ho
 obtain ⟨c16,L,rfl,h16,ho⟩:=Opens.cons ho
 obtain ⟨c17,L,rfl,h17,ho⟩:=Opens.cons ho
 obtain ⟨c18,L,rfl,h18,ho⟩:=Opens.cons ho
 obtain ⟨c19,L,rfl,h19,ho⟩:=Opens.cons ho
 obtain ⟨c20,L,rfl,h20,ho⟩:=Opens.cons ho
 obtain ⟨c21,L,rfl,h21,ho⟩:=Opens.cons ho
 obtain ⟨c22,L,rfl,h22,ho⟩:=Opens.cons ho
 obtain ⟨c23,L,rfl,h23,ho⟩:=Opens.cons ho
 obtain ⟨c24,L,rfl,h24,ho⟩:=Opens.cons ho
 obtain ⟨c25,L,rfl,h25,ho⟩:=Opens.cons ho
 obtain ⟨c26,L,rfl,h26,ho⟩:=Opens.cons ho
 obtain ⟨c27,L,rfl,h27,ho⟩:=Opens.cons ho
 obtain ⟨c28,L,rfl,h28,ho⟩:=Opens.cons ho
 obtain ⟨c29,L,rfl,h29,ho⟩:=Opens.cons ho
 obtain ⟨c30,L,rfl,h30,ho⟩:=Opens.cons ho
 obtain ⟨c31,L,rfl,h31,ho⟩:=Opens.cons ho
 obtain ⟨c32,L,rfl,h32,ho⟩:=Opens.cons ho
 obtain ⟨c33,L,rfl,h33,ho⟩:=Opens.cons ho
 obtain ⟨c34,L,rfl,h34,ho⟩:=Opens.cons ho
 obtain ⟨c35,L,rfl,h35,ho⟩:=Opens.cons ho
 obtain ⟨c36,L,rfl,h36,ho⟩:=Opens.cons ho
 obtain ⟨c37,L,rfl,h37,ho⟩:=Opens.cons ho
 obtain ⟨c38,L,rfl,h38,ho⟩:=Opens.cons ho
 obtain ⟨c39,L,rfl,h39,ho⟩:=Opens.cons ho
 obtain ⟨c40,L,rfl,h40,ho⟩:=Opens.cons ho
 obtain ⟨c41,L,rfl,h41,ho⟩:=Opens.cons ho
 obtain ⟨c42,L,rfl,h42,ho⟩:=Opens.cons ho
 obtain ⟨c43,L,rfl,h43,ho⟩:=Opens.cons ho
 obtain ⟨c44,L,rfl,h44,ho⟩:=Opens.cons ho
 obtain ⟨c45,L,rfl,h45,ho⟩:=Opens.cons ho
 obtain ⟨c46,L,rfl,h46,ho⟩:=Opens.cons ho
 obtain ⟨c47,L,rfl,h47,ho⟩:=Opens.cons ho
 obtain ⟨c48,L,rfl,h48,ho⟩:=Opens.cons ho
 obtain ⟨c49,L,rfl,h49,ho⟩:=Opens.cons ho
 obtain ⟨c50,L,rfl,h50,ho⟩:=Opens.cons ho
 obtain rfl:=Opens.nil ho
 clear ho
 obtain ⟨x0,rfl,w0⟩:=qta h0
 obtain ⟨x1,rfl,w1⟩:=qta h1
 obtain ⟨x2,rfl,w2⟩:=ra_u8 h2
 obtain ⟨x3,rfl,w3⟩:=ra_u8 h3
 obtain ⟨x4,rfl⟩:=qyk h4
 obtain ⟨x5,rfl,w5⟩:=ra_u8 h5
 obtain ⟨x6,rfl,w6⟩:=qta h6
 obtain ⟨x7,rfl,w7⟩:=ra_u8 h7
 obtain ⟨x8,rfl,w8⟩:=qta h8
 obtain ⟨x9,rfl,w9⟩:=ra_u8 h9
 obtain ⟨x10,rfl,w10⟩:=qta h10
 obtain ⟨x11,rfl,w11⟩:=ra_u8 h11
 obtain ⟨x12,rfl,w12⟩:=qta h12
 obtain ⟨x13,rfl,w13⟩:=ra_u8 h13
 obtain ⟨x14,rfl,w14⟩:=qta h14
 obtain ⟨x15,rfl,w15⟩:=ra_u8 h15
 obtain ⟨x16,rfl,w16⟩:=qta h16
 obtain ⟨x17,rfl,w17⟩:=ra_u8 h17
 obtain ⟨x18,rfl,w18⟩:=qta h18
 obtain ⟨x19,rfl,w19⟩:=ra_u8 h19
 obtain ⟨x20,rfl,w20⟩:=qta h20
 obtain ⟨x21,rfl,w21⟩:=ra_u8 h21
 obtain ⟨x22,rfl,w22⟩:=qta h22
 obtain ⟨x23,rfl,w23⟩:=ra_u8 h23
 obtain ⟨x24,rfl,w24⟩:=qta h24
 obtain ⟨x25,rfl,w25⟩:=qta h25
 obtain ⟨x26,rfl,w26⟩:=qta h26
 obtain ⟨x27,rfl,w27⟩:=qta h27
 obtain ⟨x28,rfl,w28⟩:=qta h28
 obtain ⟨x29,rfl,w29⟩:=qta h29
 obtain ⟨x30,rfl,w30⟩:=qta h30
 obtain ⟨x31,rfl,w31⟩:=qta h31
 obtain ⟨x32,rfl,w32⟩:=qta h32
 obtain ⟨x33,rfl,w33⟩:=qta h33
 obtain ⟨x34,rfl,w34⟩:=qta h34
 obtain ⟨x35,rfl,w35⟩:=qta h35
 obtain ⟨x36,rfl,w36⟩:=ra_u8 h36
 obtain ⟨x37,rfl,w37⟩:=ra_u8 h37
 obtain ⟨x38,rfl,w38⟩:=ra_u8 h38
 obtain ⟨x39,rfl,w39⟩:=ra_u8 h39
 obtain ⟨x40,rfl,w40⟩:=ra_u8 h40
 obtain ⟨x41,rfl⟩:=qyk h41
 obtain ⟨x42,rfl,w42⟩:=ra_u8 h42
 obtain ⟨x43,rfl,w43⟩:=qta h43
 obtain ⟨x44,rfl,w44⟩:=qta h44
 obtain ⟨x45,rfl,w45⟩:=qta h45
 obtain ⟨x46,rfl,w46⟩:=qta h46
 obtain ⟨x47,rfl,w47⟩:=ra_u8 h47
 obtain ⟨x48,rfl,w48⟩:=qta h48
 obtain ⟨x49,rfl,w49⟩:=qta h49
 obtain ⟨x50,rfl,w50⟩:=q6s h50
 refine ⟨⟨x0,x1,x2,⟨x3,x4,(x5,x6),(x7,x8),(x9,x10),(x11,x12),(x13,x14),(x15,x16),(x17,x18),(x19,x20),(x21,x22),(x23,x24),x25,x26,x27,x28,x29,x30,x31,x32,x33,x34,x35,x36,x37,x38,x39,x40,x41,x42,x43,x44,x45,x46,(x47,x48),x49⟩,x50⟩,rfl,?_,w50⟩
 have w50':decide (x50.size<=maxLen)=true:=decide_eq_true w50
 simp only [ndC,stC,List.cons_append,List.nil_append,List.all_cons,List.all_nil,wfC,w0,w1,w2,w3,w5,w6,w7,w8,w9,w10,w11,w12,w13,w14,w15,w16,w17,w18,w19,w20,w21,w22,w23,w24,w25,w26,w27,w28,w29,w30,w31,w32,w33,w34,w35,w36,w37,w38,w39,w40,w42,w43,w44,w45,w46,w47,w48,w49,w50',Bool.and_self]
set_option maxRecDepth 100000 in
set_option maxHeartbeats 4000000 in
theorem q0p {W:World} {B:Nat} {ad:Addr} (hb:ad.block < B) (ns:List Nd) (h:∀ i (hi:i < ns.length) j,j < 51->W.cell? ((ad.add (i * 51)).add j)=(ndC ns[i])[j]?):Reads W B 51 (some ad) ns.length (shNd.row ns):=by
 refine ⟨shNd.row_len ns,fun _=>⟨ad,rfl,hb,fun j u hu=>?_⟩⟩
 have hj:j < ns.length * 51:=by
  have:=(List.getElem?_eq_some_iff.1 hu).1
  rw [Shp.row_len] at this
  exact this
 have h1:j / 51 < ns.length:=by omega
 have h2:=Shp.row_at (S:=shNd) h1 (j % 51) (show j % 51 < 51 by omega)
 have e:j / 51 * shNd.k+j % 51=j:=by show j / 51 * 51+j % 51=j; omega
 rw [e,hu] at h2
 have h3:=h (j / 51) h1 (j % 51) (by omega)
 rw [qfo,show j / 51 * 51+j % 51=j by omega] at h3
 rw [h3]
 exact h2.symm
set_option maxRecDepth 100000 in
set_option maxHeartbeats 4000000 in
theorem qsx {H:Type} {enc:TypeId×Value->H} {W:World} {base:Nat} {v:Value} {d:DataW H} {p:List MemPlace} {f0 f1:Field} (hu:Tryz.prog.underlying 24=some (.struct #[f0,f1]))
  (hf0:f0.offset=0/\f0.type=22) (hf1:f1.offset=1/\f1.type=3)
  (hv:Value.okWide Tryz.prog W .any base 24 v) (ht:DataW.Trod enc Tryz.prog W 0 (fun _=>true) true 24 v d p) (hlt:∀ x ∈ p,x.block < W.heap.size) :
  ∃ (dv:Value) (next:Int) (ns:List Nd),v=docA dv next/\DocIn W W.heap.size dv ns/\(∀ n ∈ ns,(ndC n).all wfC=true)/\(Lit.int .i64 next).wf=true:=by
 obtain ⟨cs,rfl,hsz⟩:=okWide_struct hu hv
 obtain ⟨fuel,hf⟩:=ht
 obtain ⟨L⟩:=cs
 have h2:Tryz.prog.cellsOf 24=2:=by kernel_rfl
 rw [h2] at hsz
 have hL:L.length=2:=hsz
 match L,hL with
 | [c0,c1],_ =>
  obtain ⟨xs,m,rfl,hx0,_,hxl,hall⟩:=DataW.trod_struct hu hf
  cases hx0
  match xs,hxl with
  | [y0,y1],_ =>
   have g0:DataW.trod enc Tryz.prog W 0 (fun _=>true) true m f0.type (([c0,c1].drop f0.offset).take (Tryz.prog.cellsOf f0.type))=[y0,y1][0]?:=hall 0 f0 rfl
   have g1:DataW.trod enc Tryz.prog W 0 (fun _=>true) true m f1.type (([c0,c1].drop f1.offset).take (Tryz.prog.cellsOf f1.type))=[y0,y1][1]?:=hall 1 f1 rfl
   have k0:Tryz.prog.cellsOf 22=1:=by kernel_rfl
   have k1:Tryz.prog.cellsOf 3=1:=by kernel_rfl
   rw [hf0.1,hf0.2,k0] at g0
   rw [hf1.1,hf1.2,k1] at g1
   simp only [List.drop_zero,List.take_succ_cons,List.take_zero,List.drop_succ_cons,List.getElem?_cons_zero,List.getElem?_cons_succ] at g0 g1
   obtain ⟨next,e1,_,w1⟩:=DataW.trod_int Tryz.underlying3 g1
   injection e1 with e1
   subst e1
   have hp0:∀ z ∈ y0.2,z.block < W.heap.size:=fun z hz=>hlt z (List.mem_flatMap.2 ⟨y0,by simp,hz⟩)
   rcases Go.Deep.open_slice Tryz.underlying22 g0 with ⟨hcs,hx⟩ | ⟨a,len,cap,m,n,D,Pl,hcs,hb,hl,hm,hmm,hx,hi⟩
   ·injection hcs with hcs
    subst hcs
    exact ⟨_,next,[],rfl,Shp.In.nil _ _ _ _,(fun n hn=>by cases hn),w1⟩
   ·injection hcs with hcs
    subst hcs
    simp only [if_true] at hmm
    rw [qmv] at hi hx
    obtain ⟨ns,hnl,hns⟩:=qxj (p:=fun i (f:Nd)=>(∀ j,j < 51->W.cell? ((a.add (i * 51)).add j)=(ndC f)[j]?)/\(ndC f).all wfC=true) (n:=len) fun i h=>by
     obtain ⟨cs,h1,h2⟩:=hi i (by omega)
     obtain ⟨_,hcl,hcc⟩:=World.cells?_some h1
     obtain ⟨f,hf1,hf2,_⟩:=qix (p:=(Pl i)) hcl h2 (fun z hz=>hz)
     refine ⟨f,fun j hj=>?_,hf2⟩
     rw [hf1]
     exact (hcc j hj)
    subst hnl
    refine ⟨_,next,ns,rfl,⟨some a,cap,rfl,hl,?_⟩,fun n hn=>?_,w1⟩
    ·by_cases h0:0 < ns.length
     ·refine q0p ?_ ns fun i hi'=>(hns i hi').1
      have hs:a.spot=none:=by
       have h9:=(hns 0 h0).1 0 (by decide)
       have h10:(ndC ns[0])[0]?=some (.int .i64 ns[0].key):=rfl
       rw [h10] at h9
       have:=World.cell?_spot h9
       simpa [Addr.add] using this
      obtain ⟨b,off,spot⟩:=a
      simp at hs
      subst hs
      refine hp0 (.cell b off) ?_
      rw [hx]
      exact List.mem_append_left _ (MemPlace.mem_row.2 ⟨0,by omega,by simp⟩)
     ·rw [show ns.length=0 by omega,List.eq_nil_of_length_eq_zero (show ns.length=0 by omega)]
      exact ⟨by simp [Shp.row],fun h=>absurd h (by omega)⟩
    ·obtain ⟨i,hi',rfl⟩:=List.getElem_of_mem hn
     exact (hns i hi').2
end Go.Proofs.YtlnekijhbnlclaaGreatDoor
