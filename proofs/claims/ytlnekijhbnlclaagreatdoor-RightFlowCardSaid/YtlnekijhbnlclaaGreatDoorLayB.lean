/-
  Walks: package layout: lay, over documents that have neither flexible boxes nor boxes in runs.
-/
import Derived.Test.YtlnekijhbnlclaaGreatDoorFlow
namespace Go.Proofs.YtlnekijhbnlclaaGreatDoor
open Go.RowKit Go.Shelf
theorem q0o {ns:List Nd} {l:List Nat} {i:Nat} (h:l.Sublist (kidsN ns i)):l.Nodup/\l.length<=ns.length:=by
 refine ⟨List.Pairwise.sublist h ?_,Nat.le_trans h.length_le (qpi ns i)⟩
 unfold kidsN
 refine List.Pairwise.filter _ ?_
 unfold qcb
 refine List.Pairwise.sublist (List.takeWhile_sublist _) ?_
 rw [qcg]
 exact List.nodup_range'
theorem qfh (flex:Lay->Lay) (g B:Nat) (ns:List Nd) (next:Int) (hdis:∀ i,(stAt ns i).display=0) (hns:ns.length<=300) (htx:∀ k,(ndAt ns k).text.size<=200) :
  ∀ (f i:Nat) (font x by_:Int) (apart:Bool) (w:World),i < ns.length->ns.length < f+i->PgW w g B ns next ->
   Calls Tryz.prog 52 #[.pointer (some ⟨g,0,none⟩),.int .i64 i,.int .i64 font,.int .i64 x,.int .i64 by_,.bool apart] w (LayP ns.length (layOf ns flex f i font x by_ apart) f w)
 | 0,i,_,_,_,_,_,hi,hf,_=>absurd hf (by omega)
 | f+1,i,font,x,by_,apart,w,hi,hf,hp=>by
  have ih:=qfh flex g B ns next hdis hns htx f
  have hd:(stAt ns i).display≠2:=by rw [hdis i]; decide
  have he:layOf ns flex (f+1) i font x by_ apart=flowL ns (layOf ns flex f) i (fontR (stAt ns i) font) x by_ apart:=by
   rw [layOf]
   dsimp only
   rw [if_neg hd]
  rw [he]
  have hkl:∀ k ∈ kidsN ns i,i < k/\k < ns.length:=fun k hk=>q1n hk
  refine qkp (layOf ns flex f) (f+1) g B ns next i font x by_ apart w hp hi hd fun W hW=>?_
  refine qhr (layOf ns flex f) f g B ns next i _ x by_ apart W hW hi hns htx (by omega) (fun k hk=>(hkl k hk).2) (fun k hk _ W2 n hW2=>ih k _ n (-1) false W2 (hkl k hk).2 (by have:=(hkl k hk).1; omega) hW2) ?_
  intro l' v W2 hsub hin hW2 hrow
  obtain ⟨h1,h2⟩:=q0o hsub
  refine qsp (layOf ns flex f) f g B ns next l' v i _ x W2 hW2 hrow hi (fun k hk=>(hkl k (hsub.subset hk)).2) h1 (fun k _=>htx k) (by omega) (by omega) (by omega) fun k hk hk0=>?_
  have:=hin k hk
  unfold qfa at this
  rw [hk0,show (ndAt ns k).st.display=0 from hdis k] at this
  simp at this
end Go.Proofs.YtlnekijhbnlclaaGreatDoor
