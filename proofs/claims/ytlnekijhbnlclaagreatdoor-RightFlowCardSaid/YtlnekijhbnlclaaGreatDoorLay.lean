/-
  What a box's content leaves in memory: parts, kids of a stack; what laying out, a run answer.
-/
import Derived.Test.YtlnekijhbnlclaaGreatDoorMMay
import Derived.Test.YtlnekijhbnlclaaGreatDoorStacks
import Derived.Test.YtlnekijhbnlclaaGreatDoorCutPg
namespace Go.Proofs.YtlnekijhbnlclaaGreatDoor
open Go.RowKit Go.Shelf
def okT (n:Nat):Nat->BT->Prop
 | 0,_=>False
 | d+1,b=>b.at_ < n/\∀ k ∈ b.kids,okT n d k
theorem q3h {n d:Nat} {b:BT} (h:okT n d b) (x y:Int):okT n d (b.put x y):=by
 cases d with
 | zero=>exact h
 | succ d=>exact h
theorem q6l {n d:Nat} {b:BT} (h:okT n d b) (t:List Fg):okT n d (b.told t):=by
 cases d with
 | zero=>exact h
 | succ d=>exact h
theorem qju {n d:Nat} {b:BT} (h:okT n d b) (y:Int):okT n d (downB y b):=by
 cases d with
 | zero=>exact h
 | succ d=>exact h
def tlC (t:Tl):List Value:=[.int .i64 t.top.1,.int .i64 t.top.2,.int .i64 t.bottom.1,.int .i64 t.bottom.2,.bool t.through]
theorem qij (t:Tl):∀ v ∈ tlC t,v.oneCell'=true:=by
 intro v hv
 unfold tlC at hv
 simp only [List.mem_cons,List.not_mem_nil,or_false] at hv
 (repeat' (rcases hv with rfl | hv)) <;> first | rfl | (subst hv; rfl)
theorem q0g:(Tryz.prog.info? 87).map (·.size)=some 5:=by kernel_rfl
def LayP (n:Nat) (r:Option (BT×Tl)) (d:Nat) (w:World) (e:Ending) (w':World):Prop:=Below w.heap.size w w'/\(match r with
 | some x=>∃ p fp,e=.returned (.tuple #[.pointer (some ⟨p,0,none⟩),.agg (tlC x.2).toArray])/\BoxAt YT w' w.heap.size d x.1 p fp/\okT n d x.1
 | none=>e=.panicked overC)
def RunP (n:Nat) (r:Option (List BT×Int×Bool)) (d:Nat) (w:World) (e:Ending) (w':World):Prop:=Below w.heap.size w w'/\(match r with
 | some x=>∃ v ps fks,e=.returned (.tuple #[v,.int .i64 x.2.1,.bool x.2.2])/\(shPt YT.ptr).Owns w' w.heap.size v ps/\BoxesAt YT w' w.heap.size d x.1 ps fks/\(∀ g,v.ownBlock=some g->g ∉ fks.flatten)/\∀ b ∈ x.1,okT n d b
 | none=>e=.panicked overC)
def WiP (n:Nat) (r:Option Pie) (d:Nat) (w:World) (e:Ending) (w':World):Prop:=Below w.heap.size w w'/\(match r with
 | some x=>∃ b p fp,x.box=some b/\e=.returned (.agg (piC ⟨x,some p⟩).toArray)/\BoxAt YT w' w.heap.size d b p fp/\okT n d b
 | none=>e=.panicked overC)
theorem qow (k:Kd):∀ v ∈ kdC k,v.oneCell'=true:=by
 intro v hv
 unfold kdC at hv
 simp only [List.mem_cons,List.not_mem_nil,or_false] at hv
 (repeat' (rcases hv with rfl | hv)) <;> first | rfl | (subst hv; rfl)
def shKd:Shp Kd:=⟨171,6,kdC,fun _=>rfl,qow⟩
theorem qwf:shKd.Ok Tryz.prog 163 48:=by
 refine ⟨Tryz.underlying163,?_,by decide,by decide⟩
 have h:(Tryz.prog.info? 171).map (fun i=>(i.zero,i.size,i.bytes))=some (some (.agg #[.int .i64 0,.int .i64 0,.int .i64 0,.int .i64 0,.int .i64 0,.bool false]),6,48):=by kernel_rfl
 cases hi:Tryz.prog.info? 171 with
 | none=>rw [hi] at h; cases h
 | some i =>
  rw [hi] at h
  injection h with h
  injection h with h1 h2
  injection h2 with h2 h3
  exact ⟨i,_,hi,h1,h2,h3,rfl⟩
theorem q3r {W:World} {B:Nat} {v:Value} {l:List Kd} (h:shKd.In W B v l):Kids W B v l:=by
 obtain ⟨A,c,rfl,hc,hr⟩:=h
 refine ⟨A,c,rfl,hc,fun h0=>?_⟩
 obtain ⟨b,o,rfl,hb,hcell⟩:=Shp.In.at_ (S:=shKd) (⟨A,c,rfl,hc,hr⟩:shKd.In W B (.slice A l.length c) l) (by decide) h0
 refine ⟨_,rfl,hb,fun k hk=>?_⟩
 have ea:(⟨b,o,none⟩:Addr).add (k * 6)=⟨b,o+k * 6,none⟩:=by unfold Addr.add; split <;> simp_all
 rw [ea]
 have hc:=fun j (hj:j < 6)=>hcell k hk j hj
 exact ⟨hc 0 (by decide),hc 1 (by decide),hc 2 (by decide),hc 3 (by decide),hc 4 (by decide),hc 5 (by decide)⟩
def shBs:Shp Sl:=⟨91,1,fun x=>[slV x],fun _=>rfl,fun x u hu=>by rw [List.mem_singleton.1 hu]; rfl⟩
theorem qzg:shBs.Ok Tryz.prog 164 24:=by
 refine ⟨Tryz.underlying164,?_,by decide,by decide⟩
 have h:(Tryz.prog.info? 91).map (fun i=>(i.zero,i.size,i.bytes))=some (some (.slice none 0 0),1,24):=by kernel_rfl
 cases hi:Tryz.prog.info? 91 with
 | none=>rw [hi] at h; cases h
 | some i =>
  rw [hi] at h
  injection h with h
  injection h with h1 h2
  injection h2 with h2 h3
  exact ⟨i,_,hi,h1,h2,h3,rfl⟩
theorem qfn:(shPt YT.ptr).Ok Tryz.prog 91 8:=by
 refine ⟨Tryz.underlying91,?_,by decide,by decide⟩
 have h:(Tryz.prog.info? 83).map (fun i=>(i.zero,i.size,i.bytes))=some (some (.pointer none),1,8):=by kernel_rfl
 cases hi:Tryz.prog.info? 83 with
 | none=>exact absurd h (by rw [hi]; simp)
 | some i =>
  rw [hi] at h
  injection h with h
  injection h with h1 h2
  injection h2 with h2 h3
  exact ⟨i,_,hi,h1,h2,h3,rfl⟩
section
variable {Y:Tys} {w w':World} {base n d:Nat}
theorem BoxesAt.base_le {bs:List BT} {ps:List Nat} {fks:List (List Nat)} (h:BoxesAt Y w n d bs ps fks) (hb:base<=n):BoxesAt Y w base d bs ps fks :=
 ⟨h.lenP,h.lenF,fun i hi p f hp hf=>(h.box i hi p f hp hf).base_le hb,h.nodup⟩
theorem BoxesAt.append {bs bs2:List BT} {ps ps2:List Nat} {fks fks2:List (List Nat)} (h:BoxesAt Y w base d bs ps fks) (h2:BoxesAt Y w n d bs2 ps2 fks2) (hb:base<=n) (hl:∀ g ∈ fks.flatten,g < n):BoxesAt Y w base d (bs ++ bs2) (ps ++ ps2) (fks ++ fks2):=by
 have e1:=h.lenP
 have e2:=h.lenF
 refine ⟨by simp [e1,h2.lenP],by simp [e2,h2.lenF],fun i hi p f hp hf=>?_,?_⟩
 ·rcases Nat.lt_or_ge i bs.length with hlt | hge
  ·rw [List.getElem?_append_left (by omega)] at hp hf
   rw [List.getElem_append_left hlt]
   exact h.box i hlt p f hp hf
  ·rw [List.getElem?_append_right (by omega)] at hp hf
   rw [List.getElem_append_right hge]
   rw [e1] at hp
   rw [e2] at hf
   exact (h2.box (i - bs.length) (by simp at hi; omega) p f hp hf).base_le hb
 ·rw [List.flatten_append,List.nodup_append]
  refine ⟨h.nodup,h2.nodup,fun a ha b hb' e=>?_⟩
  have:=hl a ha
  have:=(h2.mem_lt b hb').1
  omega
end
structure PartsAt (W:World) (base d:Nat) (bss:List (List BT)) (vs:List Sl) (pss:List (List Nat)) (fks:List (List Nat)):Prop where
 lenV:vs.length=bss.length
 lenP:pss.length=bss.length
 row:∀ i (h:i < vs.length) (h2:i < pss.length),(shPt YT.ptr).Owns W base (slV vs[i]) pss[i]
 lens:∀ i (h:i < pss.length) (h2:i < bss.length),pss[i].length=bss[i].length
 boxes:BoxesAt YT W base d bss.flatten pss.flatten fks
 apart:∀ i (h:i < vs.length) g,(slV vs[i]).ownBlock=some g->g ∉ fks.flatten
section
variable {W W':World} {base n d:Nat} {bss:List (List BT)} {vs:List Sl} {pss fks:List (List Nat)}
theorem PartsAt.nil (W:World) (base d:Nat):PartsAt W base d [] [] [] []:=⟨rfl,rfl,fun i h=>absurd h (by simp),fun i h=>absurd h (by simp),BoxesAt.nil d,fun i h=>absurd h (by simp)⟩
theorem PartsAt.chg {T:List TypeId} {b:Nat} (h:PartsAt W base d bss vs pss fks) (hk:Chg b T W W') (h1:YT.box ∉ T) (h2:YT.ptr ∉ T) (h3:YT.frag ∉ T):PartsAt W' base d bss vs pss fks :=
 ⟨h.lenV,h.lenP,fun i hi hi2=>hk.owns (h.row i hi hi2) h2,h.lens,hk.boxes h.boxes h1 h2 h3,h.apart⟩
theorem PartsAt.lt (h:PartsAt W base d bss vs pss fks):(∀ g ∈ fks.flatten,g < W.heap.size)/\∀ i (hi:i < vs.length) g,(slV vs[i]).ownBlock=some g->g < W.heap.size :=
 ⟨fun g hg=>(h.boxes.mem_lt g hg).2,fun i hi g hg=>((h.row i hi (by rw [h.lenP,<-h.lenV]; exact hi)).lt g hg).2⟩
theorem PartsAt.snoc (h:PartsAt W base d bss vs pss fks) (hb:base<=n) (hl:∀ g ∈ fks.flatten,g < n) (hv:∀ i (hi:i < vs.length) g,(slV vs[i]).ownBlock=some g->g < n)
  {bs:List BT} {v:Sl} {ps:List Nat} {fks2:List (List Nat)} (h1:(shPt YT.ptr).Owns W n (slV v) ps) (h2:BoxesAt YT W n d bs ps fks2) (h3:∀ g,(slV v).ownBlock=some g->g ∉ fks2.flatten) :
  PartsAt W base d (bss ++ [bs]) (vs ++ [v]) (pss ++ [ps]) (fks ++ fks2):=by
 have e1:=h.lenV
 have e2:=h.lenP
 refine ⟨by simp [e1],by simp [e2],fun i hi hi2=>?_,fun i hi hi2=>?_,?_,fun i hi g hg=>?_⟩
 ·rcases Nat.lt_or_ge i vs.length with hlt | hge
  ·rw [List.getElem_append_left hlt,List.getElem_append_left (by omega)]
   exact h.row i hlt (by omega)
  ·obtain rfl:i=vs.length:=by simp at hi; omega
   rw [List.getElem_append_right (Nat.le_refl _),List.getElem_append_right (by omega)]
   simpa using h1.base_le hb
 ·rcases Nat.lt_or_ge i pss.length with hlt | hge
  ·rw [List.getElem_append_left hlt,List.getElem_append_left (by omega)]
   exact h.lens i hlt (by omega)
  ·obtain rfl:i=pss.length:=by simp at hi; omega
   rw [List.getElem_append_right (Nat.le_refl _),List.getElem_append_right (by omega)]
   simpa using h2.lenP
 ·simp only [List.flatten_append,List.flatten_cons,List.flatten_nil,List.append_nil]
  exact h.boxes.append h2 hb hl
 ·rw [List.flatten_append,List.mem_append]
  rcases Nat.lt_or_ge i vs.length with hlt | hge
  ·rw [List.getElem_append_left hlt] at hg
   rintro (hm | hm)
   ·exact h.apart i hlt g hg hm
   ·have:=hv i hlt g hg
    have:=(h2.mem_lt g hm).1
    omega
  ·obtain rfl:i=vs.length:=by simp at hi; omega
   rw [List.getElem_append_right (Nat.le_refl _)] at hg
   simp only [Nat.sub_self,List.getElem_cons_zero] at hg
   rintro (hm | hm)
   ·have:=hl g hm
    have:=(h1.lt g hg).1
    omega
   ·exact h3 g hg hm
end
def TxB (ns:List Nd) (G:Nat->Option BT) (c:Nat):Prop:=∀ k b,G k=some b->(ndAt ns k).kind≠0->b.text.length<=c/\∀ t ∈ b.text,t.text.size<=200 * c
def OkG (n d:Nat) (G:Nat->Option BT):Prop:=∀ k b,G k=some b->okT n d b
end Go.Proofs.YtlnekijhbnlclaaGreatDoor
namespace Go.Proofs.YtlnekijhbnlclaaGreatDoor
open Go.RowKit Go.Shelf
section
variable {α:Type} {S:Shp α} {w:World} {base g n c:Nat} {L:List α}
theorem Shp.Owns.blk (h:S.Owns w base (.slice (some ⟨g,0,none⟩) n c) L):∃ cur,Blk w g S.t cur/\n=L.length/\base<=g/\cur.toList.take (L.length * S.k)=S.row L:=by
 rcases h.2 with ⟨e,_⟩ | ⟨g',cap',cur,e,hg,hb,hc,hm,hs,ht⟩
 ·cases e
 ·injection e with e1 e2 e3
  injection e1 with e1
  injection e1 with e1
  subst e1
  exact ⟨cur,hb,e2,hg,ht⟩
theorem Shp.Owns.cellr (h:S.Owns w base (.slice (some ⟨g,0,none⟩) n c) L) {i:Nat} (hi:i < L.length) {j:Nat} (hj:j < S.k):w.cell? ⟨g,i * S.k+j,none⟩=(S.enc L[i])[j]?:=by
 obtain ⟨cur,hb,rfl,hg,ht⟩:=h.blk
 rw [hb.cell,<-S.row_at hi j hj,<-ht,List.getElem?_take_of_lt,Array.getElem?_toList]
 have:(i+1) * S.k<=L.length * S.k:=Nat.mul_le_mul_right _ hi
 rw [Nat.add_mul] at this
 omega
theorem Shp.Owns.setc (h:S.Owns w base (.slice (some ⟨g,0,none⟩) n c) L) {i:Nat} (hi:i < L.length) {j:Nat} (hj:j < S.k) {x':α} {u:Value} (hx:S.enc x'=(S.enc L[i]).set j u) :
  S.Owns (w.setCell ⟨g,i * S.k+j,none⟩ u) base (.slice (some ⟨g,0,none⟩) n c) (L.set i x'):=by
 rcases h.2 with ⟨e,_⟩ | ⟨g',cap',cur,e,hg,hb,hc,hm,hs,ht⟩
 ·cases e
 ·injection e with e1 e2 e3
  injection e1 with e1
  injection e1 with e1
  subst e1 e2 e3
  refine ⟨by rw [S.row_len],.inr ⟨g,c,cur.setIfInBounds (i * S.k+j) u,by rw [List.length_set],hg,Blk.set_ (cs:=cur) hb _ _,by rw [List.length_set]; exact hc,hm,by simpa using hs,?_⟩⟩
  rw [List.length_set,<-S.row_set hi x' j hj u hx,Array.toList_setIfInBounds,List.take_set,ht]
end
theorem TxB.upd {ns:List Nd} {G:Nat->Option BT} {c k:Nat} {b':BT} (h:TxB ns G c) (h1:b'.text.length<=c+1) (h2:∀ t ∈ b'.text,t.text.size<=200 * (c+1)):TxB ns (updF G k b') (c+1):=by
 intro q b hq hk
 unfold updF at hq
 split at hq
 ·cases hq; exact ⟨h1,h2⟩
 ·have:=h q b hq hk
  exact ⟨by omega,fun t ht=>by have:=this.2 t ht; omega⟩
theorem TxB.more {ns:List Nd} {G:Nat->Option BT} {c c':Nat} (h:TxB ns G c) (hc:c<=c'):TxB ns G c':=fun q b hq hk=>by
 have:=h q b hq hk
 exact ⟨by omega,fun t ht=>by have:=this.2 t ht; omega⟩
theorem OkG.upd {n d:Nat} {G:Nat->Option BT} {k:Nat} {b':BT} (h:OkG n d G) (h1:okT n d b'):OkG n d (updF G k b'):=by
 intro q b hq
 unfold updF at hq
 split at hq
 ·cases hq; exact h1
 ·exact h q b hq
theorem qck (T:List Fg) (f:Fg) (w:Int) (s:ByteArray):qsc (T ++ [f]) w s=T ++ [{ f with w:=w64 (f.w+w),text:=f.text ++ s }]:=by
 unfold qsc
 simp
theorem qsf {α:Type} (f:Nat->Option α) (k:Nat) (x y:α):updF (updF f k x) k y=updF f k y:=by
 funext j
 unfold updF
 split <;> rfl
theorem q2m (b:BT) (t t':List Fg):(b.told t).told t'=b.told t':=rfl
end Go.Proofs.YtlnekijhbnlclaaGreatDoor
namespace Go.Proofs.YtlnekijhbnlclaaGreatDoor
open Go.RowKit Go.Shelf
set_option linter.unusedSimpArgs false
set_option linter.unusedVariables false
theorem qrm {P:Program} {fn:Func} {p b:Tmp} {ty:TypeId} (h:fn.results=#[.tmp b,.cell p ty]) (tmps:Array Value) (w:World) (g:Nat) (t:TypeId) (cs:Array Value) (fr:Nat×Nat) (d:TypeDesc)
  (hp:tmps.getD p undef=.pointer (some ⟨g,0,none⟩)) (hg:w.heap[g]?=some (.cells cs t fr))
  (hu:P.underlying ty=some d) (hd:(match d with | .struct _ | .array _ _=>true | _=>false)=true) (hi:(P.info? ty).map (·.size)=some cs.size) :
  (results fn tmps).run P w=.ok (.tuple #[tmps.getD b undef,.agg cs]) w:=by
 have hp':tmps[p]?.getD undef=.pointer (some ⟨g,0,none⟩):=by simpa using hp
 simp [results,h,hp',asAddr,run_loadVar_row w g t ty cs fr d hg hu hd hi]
set_option maxRecDepth 100000 in
set_option maxHeartbeats 8000000 in
theorem qkp (lay:Lay) (d g B:Nat) (ns:List Nd) (next:Int) (i:Nat) (font x by_:Int) (apart:Bool) (w:World) (h:PgW w g B ns next) (hi:i < ns.length) (hdis:(stAt ns i).display≠2)
  (hf:∀ W,PgW W g B ns next->Calls Tryz.prog 69 #[.pointer (some ⟨g,0,none⟩),.int .i64 i,.int .i64 (fontR (stAt ns i) font),.int .i64 x,.int .i64 by_,.bool apart] W (LayP ns.length (flowL ns lay i (fontR (stAt ns i) font) x by_ apart) d W)) :
  Calls Tryz.prog 52 #[.pointer (some ⟨g,0,none⟩),.int .i64 i,.int .i64 font,.int .i64 x,.int .i64 by_,.bool apart] w (LayP ns.length (flowL ns lay i (fontR (stAt ns i) font) x by_ apart) d w):=by
 have hs:=fun W (hW:PgW W g B ns next)=>qce g B ns next i W hW.pg hi
 have hfo:=fun W=>qot (stAt ns i) font W
 generalize flowL ns lay i (fontR (stAt ns i) font) x by_ apart=r at *
 obtain ⟨fo,hfoe⟩:∃ fo,fontR (stAt ns i) font=fo:=⟨_,rfl⟩
 rw [hfoe] at hf hfo
 clear hfoe
 generalize stAt ns i=s at *
 have H:=Lib.hid h
 clear h
 have hBw:=H.out.lt
 go_enter Tryz.func52,Tryz.ntmps52
 go_upto_region 1 with fail
 change Code.wp _ _ _ _ (w.alloc (.cells (tlC tl0).toArray 87))
 have t0:=Blk.new w 87 (tlC tl0).toArray
 have hb0:Below w.heap.size w (w.alloc (.cells (tlC tl0).toArray 87)):=(Below.refl _ _).alloc (Nat.le_refl _) _
 obtain ⟨q0,hq0⟩:∃ q0,w.heap.size=q0:=⟨_,rfl⟩
 rw [hq0] at t0 ⊢
 have HQ0:=Lib.hid hq0
 clear hq0
 generalize w.alloc (.cells (tlC tl0).toArray 87)=w0 at *
 have hs0:=hs w0 (H.out.below (hb0.mono hBw))
 go_upto_region 2 with (first | (go_at_call 60; refine hs0.mono ?_; rintro e w1 ⟨rfl,hb1⟩) | (refine qxa rfl 33 _ _ rfl w1.heap.size 33 (stC st0) (stC s) rfl (Blk.new w1 _ _) rfl rfl qoa (qve _) ?_; intro w3 r3 r4 r5; simp only [Act.put]))
 have k13:Kept [] w1 w3:=((Kept.refl [] w1).alloc _).fresh r4 (by simp)
 have hB3:Below w0.heap.size w0 w3:=hb1.trans (k13.to_below hb1.size (by simp))
 have t3:=t0.below hB3 t0.lt
 clear r4 r5 hb1 hs0 hs k13 t0
 obtain ⟨q,hq⟩:∃ q,w1.heap.size=q:=⟨_,rfl⟩
 rw [hq] at r3 ⊢
 clear hq
 go_upto_region 3 with (first | (refine qwa rfl 33 _ rfl q 0 33 (stC s) (stC s) _ rfl r3 (fun j v hv=>by rw [Nat.zero_add]; exact hv) Tryz.underlying33 rfl qoa ?_) | (go_at_call 66; refine (hfo _).mono ?_; rintro e w4 ⟨rfl,hb4⟩))
 have c0:w4.cell? ⟨q,0,none⟩=some (.int .u8 s.display):=(r3.below hb4 r3.lt).cell 0
 have t4:=t3.below hb4 t3.lt
 have hB4:Below w0.heap.size w0 w4:=hB3.trans (hb4.mono hB3.size)
 clear r3 hb4 t3 hB3 hfo
 generalize s.display=dp at *
 have hdn:¬ (dp:Int)=2:=by omega
 have hdb:((dp:Int) == 2)=false:=beq_false_of_ne hdn
 have hBB:Below w.heap.size w w4:=hb0.trans (hB4.mono hb0.size)
 have hf4:=hf w4 (H.out.below (hBB.mono hBw))
 have HB:=Lib.hid hBB
 clear hf hBB hB4 hb0
 cases r with
 | none =>
  go_wp2_with (go_at_call 69; refine hf4.mono ?_; rintro e w5 ⟨hb5,he⟩; obtain rfl:=he)
  exact ⟨rfl,HB.out.trans (hb5.mono HB.out.size),rfl⟩
 | some y =>
  obtain ⟨b,t⟩:=y
  go_wp2_with (first
   | (go_at_call 69; refine hf4.mono ?_; rintro e w5 ⟨hb5,p5,fp5,rfl,hbx5,hok5⟩; have t5:=t4.below hb5 t4.lt)
   | (refine qxa rfl 87 _ _ rfl q0 87 (tlC tl0) (tlC t) rfl t5 rfl rfl q0g (qij _) ?_; intro w6 r6 k6 z6; simp only [Act.put]))
  refine bodyPost_ret (qrm rfl _ _ q0 87 (tlC t).toArray (0,0) _ rfl r6 Tryz.underlying87 rfl q0g) rfl ?_
  have hq0w:w.heap.size<=q0:=Nat.le_of_eq HQ0.out
  have hB5:Below w.heap.size w w5:=HB.out.trans (hb5.mono HB.out.size)
  have hq5:q0 < w4.heap.size:=t4.lt
  refine ⟨hB5.trans (k6.to_below hB5.size (by simp; omega)),p5,fp5,rfl,?_,hok5⟩
  refine (hbx5.kept k6 fun q' hq' hm=>?_).base_le HB.out.size
  have:=(hbx5.mem_lt q' hq').1
  rw [List.mem_singleton.1 hm] at this
  omega
end Go.Proofs.YtlnekijhbnlclaaGreatDoor
