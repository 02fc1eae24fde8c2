/-
  Walks: right.Wrong and right.IsLayout at the chapter's document, in the width 1000.
-/
import Derived.Test.YtlnekijhbnlclaaGreatDoorWrong
import Derived.Test.YtlnekijhbnlclaaGreatDoorLayB
import Derived.Test.YtlnekijhbnlclaaGreatDoorBlocksPlain
import Derived.Great.CaseRows
namespace Go.Proofs.YtlnekijhbnlclaaGreatDoor
open Go.RowKit Go.Shelf
def fgA:Fg:=⟨1,0,0,0,0,1000,2560,ByteArray.empty⟩
def fgB:Fg:=⟨2,1,1,0,0,1024,1280,⟨#[97,98]⟩⟩
def fgD:Fg:=⟨2,2,1,0,1280,1024,1280,⟨#[97,98]⟩⟩
def fg3:List Fg:=[fgA,fgB,fgD]
theorem qos (flex:Lay->Lay):qrb twoN flex 1000=some fg3:=by kernel_rfl
theorem qbs (flex:List Nd->Lay->Lay):qob twoN flex 3 1000=(fg3,0):=by kernel_rfl
theorem qst (flex:Lay->Lay) (f:Fm) (b:BT×Tl) (hf:q3a twoN 0 1000=some f) (hb:layOf twoN flex (twoN.length+1) 0 16 (qia 1000 f.ak).2.1 (-1) true=some b) :
  (allL twoN (twoN.length+1) (b.1.put (qia 1000 f.ak).1 f.top) 0 0).length < 4000000000:=by
 have h:=qos flex
 unfold qrb at h
 obtain ⟨f',h1,h⟩:=obk h
 obtain ⟨_,_,h⟩:=obk h
 obtain ⟨b',h3,h⟩:=obk h
 rw [hf] at h1
 cases h1
 rw [hb] at h3
 cases h3
 dsimp only at h
 split at h
 ·injection h with h
  rw [h]
  decide
 ·cases h
theorem qhx:∀ n ∈ twoN,(ndC n).all wfC=true:=by
 intro n hn
 rcases (by simpa [twoN] using hn:n=_\/n=_) with rfl | rfl <;> kernel_rfl
theorem q1i:∀ f ∈ fg3,(fgC f).all wfC=true:=by
 intro f hf
 rcases (by simpa [fg3] using hf:f=_\/f=_\/f=_) with rfl | rfl | rfl <;> kernel_rfl
theorem qwi (i:Nat):ndAt twoN i=⟨1,0,0,st0,ByteArray.empty⟩\/ndAt twoN i=⟨2,1,1,st0,⟨#[97,98,32,97,98]⟩⟩\/ndAt twoN i=nd0:=by
 match i with
 | 0=>exact .inl rfl
 | 1=>exact .inr (.inl rfl)
 | i+2=>exact .inr (.inr rfl)
theorem qcv (dv:Value) (w:World) (h:DocIn w w.heap.size dv twoN) (hml:∃ m,w.cell? ⟨2,0,none⟩=some (.int .i64 m)) :
  Calls Tryz.prog 14 #[docA dv 3,.int .i64 1000] w (LaidP (fg3,0) w):=by
 have hdis:∀ i,(stAt twoN i).display=0:=fun i=>by
  unfold stAt
  rcases qwi i with e | e | e <;> rw [e] <;> rfl
 have htx:∀ k,(ndAt twoN k).text.size<=200:=fun i=>by
  rcases qwi i with e | e | e <;> rw [e] <;> decide
 rw [<-qbs fun _ l=>l]
 refine qil (fun _ l=>l) twoN dv 3 1000 w h (by decide) (by decide) (fun i=>?_) htx qhx (fun n hn=>?_) hml (qst _) fun g B W n hW=>?_
 ·rcases qwi i with e | e | e <;> rw [e] <;> decide
 ·rcases (by simpa [twoN] using hn:n=_\/n=_) with rfl | rfl <;> decide
 ·exact qfh _ g B twoN 3 hdis (by decide) htx (twoN.length+1) 0 16 n (-1) true W (by decide) (by decide) hW
theorem qwg (dv fv:Value) (fr:List Fg) (w:World) (h:DocIn w w.heap.size dv twoN) (hf:(shFg YT.frag).In w w.heap.size fv fr) (hfl:fr.length<=3) (hwf:∀ f ∈ fr,(fgC f).all wfC=true)
  (hml:∃ m,w.cell? ⟨2,0,none⟩=some (.int .i64 m)) :
  Calls Tryz.prog 21 #[docA dv 3,.int .i64 1000,fv] w (WroP (qib 0 fg3 fr) 0 w):=by
 have:=qts (fg3,0) fr dv fv 3 1000 w hf (by omega) (by decide) q1i hwf fun W hW=>qcv dv W (Shp.In.more (Shp.In.below h hW) hW.size) (by
  obtain ⟨m,hm⟩:=hml
  exact ⟨m,(hW.cell (p:=⟨2,0,none⟩) (World.block_lt_of_cell? w _ hm)).trans hm⟩)
 exact this
theorem qof (dv fv:Value) (fr:List Fg) (w:World) (h:DocIn w w.heap.size dv twoN) (hf:(shFg YT.frag).In w w.heap.size fv fr) (hfl:fr.length<=3) (hwf:∀ f ∈ fr,(fgC f).all wfC=true)
  (hml:∃ m,w.cell? ⟨2,0,none⟩=some (.int .i64 m)) (b:Bool) (hb:decide (qib 0 fg3 fr < 0)=b) :
  Calls Tryz.prog 22 #[docA dv 3,.int .i64 1000,fv] w fun e w'=>Below w.heap.size w w'/\e=.returned (.bool b):=by
 have:=q9o dv fv 3 1000 (qib 0 fg3 fr) 0 w fun W hW=>qwg dv fv fr W (Shp.In.more (Shp.In.below h hW) hW.size) (Shp.In.more (Shp.In.below hf hW) hW.size) hfl hwf (by
  obtain ⟨m,hm⟩:=hml
  exact ⟨m,(hW.cell (p:=⟨2,0,none⟩) (World.block_lt_of_cell? w _ hm)).trans hm⟩)
 refine this.mono ?_
 rintro e w' ⟨h1,rfl⟩
 exact ⟨h1,by rw [<-hb]; simp⟩
end Go.Proofs.YtlnekijhbnlclaaGreatDoor
namespace Go.Proofs.YtlnekijhbnlclaaGreatDoor
open Go.RowKit Go.Shelf
attribute [local go_sem] Oper.semAt_some
set_option linter.unusedSimpArgs false
set_option linter.unusedVariables false
def ndA:Nd:=⟨1,0,0,st0,ByteArray.empty⟩
def ndB:Nd:=⟨2,1,1,st0,⟨#[97,98,32,97,98]⟩⟩
theorem two_row:([ndV ndA,ndV ndB].flatMap fun v=>v.cells.toList)=shNd.row twoN:=by kernel_rfl
theorem qxd:(Tryz.prog.info? 24).map (·.size)=some 2:=by kernel_rfl
set_option maxRecDepth 100000 in
set_option maxHeartbeats 4000000 in
theorem q0d (w:World):Calls Tryz.prog 36 #[] w fun e w'=>Below w.heap.size w w'/\∃ dv,e=.returned (docA dv 3)/\DocIn w' w'.heap.size dv twoN:=by
 unfold docA
 go_enter Tryz.func36,Tryz.ntmps36
 go_upto_region 1 with fail
 obtain ⟨W1,hW1⟩:∃ W1,W1=w.alloc (.cells #[.slice none 0 0,.int .i64 0] 24):=⟨_,rfl⟩
 have hb1:Below w.heap.size w W1:=by rw [hW1]; exact (Below.refl _ _).alloc (Nat.le_refl _) _
 have g1:Blk W1 w.heap.size 24 #[.slice none 0 0,.int .i64 0]:=by rw [hW1]; exact Blk.new _ _ _
 simp only [<-hW1]
 clear hW1
 obtain ⟨W2,hW2⟩:∃ W2,W2=W1.alloc (.cells (shNd.row twoN).toArray 35):=⟨_,rfl⟩
 have hb2:Below W1.heap.size W1 W2:=by rw [hW2]; exact (Below.refl _ _).alloc (Nat.le_refl _) _
 have g2:=g1.below hb2 g1.lt
 have hd2:shNd.Owns W2 W1.heap.size (.slice (some ⟨W1.heap.size,0,none⟩) 2 2) twoN:=by
  rw [hW2]
  exact Shp.Owns.built shNd W1 W1.heap.size (Nat.le_refl _) twoN (by decide)
 have hlt:=g1.lt
 have HW2:=Lib.hid hW2
 clear hW2
 go_wp2_with (first
  | (refine qee rfl 35 #[(0,.const (.int .i64 1))] rfl (ndV ndA) (by kernel_rfl) ?_)
  | (refine qee rfl 35 #[(0,.const (.int .i64 2)),(1,.const (.int .i64 1)),(2,.const (.int .u8 1)),(4,.const (.string ⟨#[97,98,32,97,98]⟩))] rfl (ndV ndB) (by kernel_rfl) ?_)
  | (refine Great.wpList_buildRows rfl 22 35 _ 51 [ndV ndA,ndV ndB] rfl (fun i=>i+1) W1.heap.size rfl _ rfl Tryz.underlying22 (by kernel_rfl) (by kernel_rfl) (by decide) (by decide) (by decide) (by kernel_rfl) (by intro v hv; rcases (by simpa using hv:v=_\/v=_) with rfl | rfl <;> kernel_rfl) (fun i h=>by match i,h with | 0,_=>rfl | 1,_=>rfl) ?_; rw [two_row,<-HW2.out])
  | (refine qxa rfl 24 _ _ rfl w.heap.size 24 [.slice none 0 0,.int .i64 0] [.slice (some ⟨W1.heap.size,0,none⟩) 2 2,.int .i64 3] rfl g2 rfl rfl qxd (by simp [Value.oneCell']) ?_; intro w3 g3 k3 z3; simp only [Act.put]))
 refine bodyPost_ret (results_cell_row rfl _ _ w.heap.size 24 _ (0,0) _ rfl g3 Tryz.underlying24 rfl qxd) rfl ?_
 have hk:Below w.heap.size W2 w3:=k3.to_below (by have:=hb1.size; have:=hb2.size; omega) (by simp)
 refine ⟨hb1.trans ((hb2.mono hb1.size).trans hk),_,rfl,(hd2.kept k3 fun g e=>?_).in_⟩
 have e:W1.heap.size=g:=Option.some.inj e
 rw [List.mem_singleton]
 omega
end Go.Proofs.YtlnekijhbnlclaaGreatDoor
