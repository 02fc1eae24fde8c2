/-
  Walks: package layout: Layout, of documents of blocks alone, every one.
-/
import Derived.Test.YtlnekijhbnlclaaGreatDoorIsLay
import Derived.Test.YtlnekijhbnlclaaGreatDoorLayB
import Derived.Test.YtlnekijhbnlclaaGreatDoorBlocksLen
namespace Go.Proofs.YtlnekijhbnlclaaGreatDoor
open Go.RowKit Go.Shelf
attribute [local go_sem] Oper.semAt_some
set_option linter.unusedSimpArgs false
set_option linter.unusedVariables false
set_option maxRecDepth 100000 in
set_option maxHeartbeats 4000000 in
theorem q3q (flex:List Nd->Lay->Lay) (ns:List Nd) (dv:Value) (next x:Int) (w:World) (h:DocIn w w.heap.size dv ns)
  (hw:∀ n ∈ ns,(ndC n).all wfC=true) (ht9:∀ n ∈ ns,n.text.size<=140737488355328) (hmm:qgb ns next=false) :
  Calls Tryz.prog 14 #[docA dv next,.int .i64 x] w (LaidP (qob ns flex next x) w):=by
 have H:=Lib.hid h
 have hmay:=fun W hB=>qel ns dv next w.heap.size W hB
 have hl0:qob ns flex next x=([],50):=by unfold qob; rw [if_pos hmm]
 have HL:=Lib.hid hl0
 clear hl0
 unfold docA at hmay ⊢
 clear h
 go_enter Tryz.func14,Tryz.ntmps14
 go_wp2_with fail
 obtain ⟨W1,hW1⟩:∃ W1,W1=w.alloc (.cells #[dv,.int .i64 next] 24):=⟨_,rfl⟩
 have hb1:Below w.heap.size w W1:=by rw [hW1]; exact (Below.refl _ _).alloc (Nat.le_refl _) _
 simp only [<-hW1]
 clear hW1
 have hdoc1:=Shp.In.below H.out hb1
 have hm1:=hmay W1 hdoc1 hb1.size hw ht9
 rw [hmm] at hm1
 clear hmm hmay
 refine hm1.mono ?_
 rintro e w2 ⟨rfl,hb2⟩
 have hB2:Below w.heap.size w w2:=hb1.trans (hb2.mono hb1.size)
 clear hm1 hb1
 go_wp2_with fail
 go_ret2
 exact ⟨hB2,.slice none 0 0,by rw [HL.out]; rfl,by rw [HL.out]; exact Shp.Owns.nil _ _⟩
theorem qux (flex:List Nd->Lay->Lay) (ns:List Nd) (dv:Value) (next x:Int) (w:World) (h:DocIn w w.heap.size dv ns)
  (hw:∀ n ∈ ns,(ndC n).all wfC=true) (ht9:∀ n ∈ ns,n.text.size<=140737488355328)
  (hml:∃ m,w.cell? ⟨2,0,none⟩=some (.int .i64 m)) (hB:qgb ns next=true->Blocks ns next) :
  Calls Tryz.prog 14 #[docA dv next,.int .i64 x] w (LaidP (qob ns flex next x) w):=by
 cases hm:qgb ns next with
 | false=>exact q3q flex ns dv next x w h hw ht9 hm
 | true =>
  have H:=hB hm
  have ok:=H.ok
  have hout:∀ i,¬ i < ns.length->ndAt ns i=nd0:=fun i hi=>by
   unfold ndAt
   rw [List.getD_eq_getElem?_getD,List.getElem?_eq_none (by omega)]
   rfl
  have hd:∀ i,0<=(ndAt ns i).depth/\(ndAt ns i).depth < 16:=fun i=>by
   by_cases hi:i < ns.length
   ·exact (ok.at_ hi).depth
   ·rw [hout i hi]; decide
  have htx:∀ k,(ndAt ns k).text.size<=200:=fun i=>by
   by_cases hi:i < ns.length
   ·rcases (ok.at_ hi).kind with e | e
    ·rw [(ok.at_ hi).box e]; decide
    ·exact ((ok.at_ hi).text e).2
   ·rw [hout i hi]; decide
  have h1:=ok.some_
  refine qil flex ns dv next x w h ok.few (by omega) hd htx hw ht9 hml (fun f b _ hb=>Blocks.len H (flex ns) ok.few (by omega) ok.root hb _ _) fun g B W n hW=>?_
  exact qfh (flex ns) g B ns next H.disp ok.few htx (ns.length+1) 0 16 n (-1) true W (by omega) (by omega) hW
end Go.Proofs.YtlnekijhbnlclaaGreatDoor
