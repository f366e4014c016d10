/- Walks and plain facts. Texts merged: LexB, LexT, LexL, Cells, RqI, RqN, RqO, RqP, RqQ. Condition: none beyond what each says. -/
import Derived.Lib.IndexLaws
import Derived.Lib.Bytealg
import Derived.Test.YteailgjiifdgcaaGreatDoorRequestParsesAll9
set_option linter.unusedVariables false
set_option linter.unusedSimpArgs false
set_option maxRecDepth 10000
set_option maxHeartbeats 4000000
namespace Go.Proofs.YteailgjiifdgcaaGreatDoor
section
open Go.RowKit
open LexM (Bs Wd Ln St)
theorem ends_len (s:St) (m:Nat) (h:s.words.length≤m):(LexM.ends s).words.length≤m+1:=by
 unfold LexM.ends
 dsimp only
 split <;> (try simp) <;> omega
theorem zok {w0 w:World} {x:Nat} {s:St} {wv sv ov:Value} {rv:List Value} (h:zbm w0 x s wv sv ov rv w) {m:Nat} (hm:m≤1000000) (hs:Small s m) (hw:(LexM.ends s).words≠[]) :
  Calls Tryz.prog 127 #[lexp x] w (zg6 w0 x (LexM.breaks s)):=by
 have HE:=Lib.hid (zhx h hm hs)
 have hso:=hs.out
 have hsl:=hs.line
 have hlen:=ends_len s m hs.words
 have hpos:=List.length_pos_iff.2 hw
 obtain⟨Hh,Hs,Hw⟩:=hd3 h hs hw;clear h hs hw
 go_enter Tryz.func127,Tryz.ntmps127
 go_wp2_with fail
 refine HE.out.mono ?_
 rintro e w1 ⟨rfl,wv1,sv1,ov1,rv1,h1⟩
 have hB:=h1.bel.size
 have hnx:=zah h1.out h1.cells (by decide)
 obtain⟨sa,sc,rfl⟩:=zai h1.words
 have c0:=za4 h1.cells 0
 have c5:=za4 h1.cells 5
 have c6:=za4 h1.cells 6
 simp only[zav,LexM.ends,List.getElem?_toArray,List.getElem?_cons_succ,List.getElem?_cons_zero] at c0 c5 c6
 obtain⟨ws,hws⟩ : ∃ ws,ws=(LexM.ends s).words:=⟨_,rfl⟩
 have c5':w1.cell? ⟨x,5,none⟩=some (.slice sa ws.length sc):=by rw[hws];exact c5
 rw[← hws] at hpos hlen
 have a6:∀ o:Obj,(w1.alloc o).cell? ⟨x,6,none⟩=some ov1:=fun o=>((Frm.refl _ w1).alloc o).keep c6
 have hwd:(w1.drew).ownsRow w0.heap.size 62 2 ov1 s.out.length (zd3 s.out rv1):=h1.out
 have hBd:w0.heap.size≤w1.drew.heap.size:=hB
 obtain⟨H1,Hwd,Hnx,Hws⟩:=hd4 h1 hwd hnx hws;clear h1 hwd hnx hws
 clear c5
 go_wp2_with fail
 go_region_law (refine zc6 zis (w:=w1.drew) rfl (.tmp 14) (.tmp 24) rfl w0.heap.size ov1 s.out.length (zd3 s.out rv1) rfl Hwd.out 1 (by decide) #[.int .i64 s.line,.slice sa ws.length sc] rfl rfl (by simp[Value.oneCell']) (by omega) (by unfold maxLen;omega) hBd ?_;intro g8 c8 w8 hown8 hg8 hm8;have hc8:=zbc H1.out.cells ((Frm.drew (Frm.refl _ w1)).grown hg8 (S:=fun k=>ov1.ownBlock=some k) (fun k hk=>.inr hk)) Hnx.out;have d6:=za4 hc8 6;have e6:=za8 hc8 6;simp only[zav,LexM.ends,List.getElem?_toArray,List.getElem?_cons_succ,List.getElem?_cons_zero] at d6)
 all_goals
  have d0:=za4 hc8 0
  have d1:=za4 hc8 1
  have d3:=za4 hc8 3
  have d5:=za4 hc8 5
  have e0:=za8 hc8 0
  have e1:=za8 hc8 1
  have e3:=za8 hc8 3
  have e5:=za8 hc8 5
  simp only[zav,LexM.ends,List.getElem?_toArray,List.getElem?_cons_succ,List.getElem?_cons_zero] at d0 d1 d3 d5
  have hcells:=hc8
  have hl1 : -9223372036854775808≤s.line+1∧s.line+1≤9223372036854775807:=by omega
  obtain⟨Hown8,Hg8,Hcells⟩:=hd3 hown8 hg8 hcells;clear hown8 hg8 hcells
  clear hm8 hc8 c0 c5' c6 a6
  go_wp2_with fail
  go_end0
  have hS:LexM.breaks s = { (LexM.ends s) with out:=s.out ++ [(s.line,(LexM.ends s).words)],words:=[],off:=false,line:=s.line+1,col:=0 }:=by
   unfold LexM.breaks
   rw[if_neg Hw.out]
  refine zkw (H1.out.pushLine (s':=LexM.breaks s) (by have:=Hown8.out;rw[Hws.out] at this;exact this) (zh3 Hg8.out) ?_ ?_ ?_ ?_ ?_) rfl
  ·exact za9 (za9 (za9 (za9 (za9 (Frm.refl _ w8) 6 _) 5 _) 3 _) 0 _) 1 _
  ·rw[hS]
   have k0:=heap_setCell_same _ x 6 _ _ (.slice (some ⟨g8,0,none⟩) (s.out.length+1) c8) Hcells.out
   have k1:=heap_setCell_same _ x 5 _ _ (.slice none 0 0) k0
   have k2:=heap_setCell_same _ x 3 _ _ (.bool false) k1
   have k3:=heap_setCell_same _ x 0 _ _ (.int .i64 (s.line+1)) k2
   have k4:=heap_setCell_same _ x 1 _ _ (.int .i64 0) k3
   rw[k4]
   rfl
  ·rw[hS]
  ·rw[hS]
  rw[hS];rfl
theorem zol {w0 w:World} {x:Nat} {s:St} {wv sv ov:Value} {rv:List Value} (h:zbm w0 x s wv sv ov rv w) {m:Nat} (hm:m≤1000000) (hs:Small s m) (hw:(LexM.ends s).words = []) :
  Calls Tryz.prog 127 #[lexp x] w (zg6 w0 x (LexM.breaks s)):=by
 have HE:=Lib.hid (zhx h hm hs)
 have hsl:=hs.line
 obtain⟨Hh,Hs,Hw⟩:=hd3 h hs hw;clear h hs hw
 go_enter Tryz.func127,Tryz.ntmps127
 go_wp2_with fail
 refine HE.out.mono ?_
 rintro e w1 ⟨rfl,wv1,sv1,ov1,rv1,h1⟩
 obtain⟨sa,sc,rfl⟩:=zai h1.words
 have hcells:=h1.cells
 rw[Hw.out] at hcells
 have d0:=za4 hcells 0
 have d1:=za4 hcells 1
 have d3:=za4 hcells 3
 have d5:=za4 hcells 5
 have e0:=za8 hcells 0
 have e1:=za8 hcells 1
 have e3:=za8 hcells 3
 have e5:=za8 hcells 5
 simp only[zav,LexM.ends,List.getElem?_toArray,List.getElem?_cons_succ,List.getElem?_cons_zero,List.length_nil] at d0 d1 d3 d5
 have hl1 : -9223372036854775808≤s.line+1∧s.line+1≤9223372036854775807:=by omega
 obtain⟨H1,Hcells⟩:=hd2 h1 hcells;clear h1 hcells
 go_wp2_with fail
 go_end0
 have hS:LexM.breaks s = { (LexM.ends s) with out:=s.out,words:=[],off:=false,line:=s.line+1,col:=0 }:=by
  unfold LexM.breaks
  rw[if_pos Hw.out]
 refine zkw (H1.out.to (s':=LexM.breaks s) (wv':=wv1) (sv':=.slice none 0 0) ?_ ?_ (.inl ⟨rfl,?_⟩) (.inr ⟨rfl,?_⟩) ?_) rfl
 ·exact za9 (za9 (za9 (za9 (Frm.refl _ w1) 5 _) 3 _) 0 _) 1 _
 ·rw[hS]
  have k1:=heap_setCell_same _ x 5 _ _ (.slice none 0 0) Hcells.out
  have k2:=heap_setCell_same _ x 3 _ _ (.bool false) k1
  have k3:=heap_setCell_same _ x 0 _ _ (.int .i64 (s.line+1)) k2
  have k4:=heap_setCell_same _ x 1 _ _ (.int .i64 0) k3
  rw[k4]
  rfl
 ·rw[hS]
 ·rw[hS]
 rw[hS];rfl
theorem zjy {w0 w:World} {x:Nat} {s:St} {wv sv ov:Value} {rv:List Value} (h:zbm w0 x s wv sv ov rv w) {m:Nat} (hm:m≤1000000) (hs:Small s m) :
  Calls Tryz.prog 127 #[lexp x] w (zg6 w0 x (LexM.breaks s)):=by
 by_cases hw:(LexM.ends s).words = []
 ·exact zol h hm hs hw
 exact zok h hm hs hw
end

section
open Go.RowKit
open LexM (Bs Wd Ln St)
def zlc (w0:World) (x:Nat) (s:St) (v:Value) (e:Ending) (w':World):Prop:=e = .returned v∧∃ wv sv ov rv,zbm w0 x s wv sv ov rv w'
theorem zd0 {w0 w:World} {x:Nat} {s s':St} {wv sv ov v v':Value} {rv:List Value} (h:zbm w0 x s' wv sv ov rv w) (e:s'=s) (hv:v'=v):zlc w0 x s v (.returned v') w:=⟨by rw[hv],wv,sv,ov,rv,e ▸ h⟩
theorem zbm.scal {w0 w:World} {x:Nat} {s:St} {wv sv ov:Value} {rv:List Value} (h:zbm w0 x s wv sv ov rv w) (i:Nat) (u:Value) (s':St) (hc:((zav s wv sv ov).setIfInBounds i u)=zav s' wv sv ov) (h1:s'.word=s.word) (h2:s'.words=s.words) (h3:s'.out=s.out) :
  zbm w0 x s' wv sv ov rv (w.setCell ⟨x,i,none⟩ u):=by
 refine h.to (Frm.setCell (S:=fun k=>k=x) (Frm.refl _ _) (p:=⟨x,i,none⟩) (.inr rfl) _) ?_ (.inl ⟨rfl,h1⟩) (.inl ⟨rfl,h2⟩) h3
 rw[heap_setCell_same w x i _ _ u h.cells,hc]
theorem zrn {w0 w:World} {x:Nat} {s:St} {wv sv ov:Value} {rv:List Value} (h:zbm w0 x s wv sv ov rv w) (hf:¬ 0 < s.frm) :
  Calls Tryz.prog 177 #[lexp x] w (zlc w0 x { s with frm:=s.col } (.bool (LexM.mayBegin s))):=by
 obtain⟨sa,sc,rfl⟩:=zai h.words
 obtain⟨oa,oc,rfl⟩:=zai h.out
 have d1:=za4 h.cells 1
 have d2:=za4 h.cells 2
 have d5:=za4 h.cells 5
 have d6:=za4 h.cells 6
 have e2:=za8 h.cells 2
 simp only[zav,List.getElem?_toArray,List.getElem?_cons_succ,List.getElem?_cons_zero] at d1 d2 d5 d6
 have hL:=h.scal 2 (.int .i64 s.col) { s with frm:=s.col } rfl rfl rfl rfl
 obtain⟨Hh,HL⟩:=hd2 h hL;clear h hL
 by_cases h1:s.words.length < 40
 ·by_cases h2:0 < s.words.length
  ·have hb:LexM.mayBegin s=true:=by unfold LexM.mayBegin;simp[h1,h2]
   have Hb:=hd hb;clear hb
   go_enter Tryz.func177,Tryz.ntmps177
   go_wp2_with fail
   go_ret
   exact zd0 HL.out rfl (by rw[Hb.out];rfl)
  by_cases h3:s.out.length < 2000
  ·have hb:LexM.mayBegin s=true:=by unfold LexM.mayBegin;simp[h1,h3]
   have Hb:=hd hb;clear hb
   go_enter Tryz.func177,Tryz.ntmps177
   go_wp2_with fail
   go_ret
   exact zd0 HL.out rfl (by rw[Hb.out];exact congrArg Value.bool (decide_eq_true (by omega)))
  have hb:LexM.mayBegin s=false:=by unfold LexM.mayBegin;simp[h2,h3]
  have Hb:=hd hb;clear hb
  go_enter Tryz.func177,Tryz.ntmps177
  go_wp2_with fail
  go_ret
  exact zd0 HL.out rfl (by rw[Hb.out];exact congrArg Value.bool (decide_eq_false (by omega)))
 have hb:LexM.mayBegin s=false:=by unfold LexM.mayBegin;simp[h1]
 have Hb:=hd hb;clear hb
 go_enter Tryz.func177,Tryz.ntmps177
 go_wp2_with fail
 go_ret
 exact zd0 HL.out rfl (by rw[Hb.out];rfl)
theorem begins_on {w0 w:World} {x:Nat} {s:St} {wv sv ov:Value} {rv:List Value} (h:zbm w0 x s wv sv ov rv w) (hf:0 < s.frm) :
  Calls Tryz.prog 177 #[lexp x] w (zlc w0 x s (.bool true)):=by
 have d2:=za4 h.cells 2
 simp only[zav,List.getElem?_toArray,List.getElem?_cons_succ,List.getElem?_cons_zero] at d2
 have Hh:=hd h;clear h
 go_enter Tryz.func177,Tryz.ntmps177
 go_wp2_with fail
 go_ret
 exact zd0 Hh.out rfl rfl
theorem zkd {s:St} {m:Nat} (h:Small s m):Small (LexM.onward s) (m+1):=by
 obtain⟨a,b,c,d,e,f,g⟩:=h
 refine⟨?_,?_,?_,?_,?_,?_,g⟩ <;> simp only[LexM.onward] <;> omega
theorem zbm.on {w0 w:World} {x:Nat} {s:St} {wv sv ov:Value} {rv:List Value} (h:zbm w0 x s wv sv ov rv w):zbm w0 x (LexM.onward s) wv sv ov rv (w.setCell ⟨x,1,none⟩ (.int .i64 (s.col+1))) :=
 h.scal 1 (.int .i64 (s.col+1)) (LexM.onward s) rfl rfl rfl rfl
def zfk (w0:World) (x:Nat) (s:St) (c:UInt8):Ending→World→Prop:=zlc w0 x (LexM.takes s c).1 (.int .i64 (LexM.takes s c).2)
theorem takes_any {w0 w:World} {x:Nat} {s:St} {wv sv ov:Value} {rv:List Value} (h:zbm w0 x s wv sv ov rv w) {m:Nat} (hm:m < 1000000) (hs:Small s m) (c:UInt8) :
  Calls Tryz.prog 126 #[lexp x,.int .u8 c.toNat] w (zfk w0 x s c):=by
 have hcol:=hs.col
 have hcl:c.toNat < 256:=c.toNat_lt
 have d1:=za4 h.cells 1
 have e1:=za8 h.cells 1
 have h2:=h.on
 have hs2:=zkd hs
 obtain⟨n,hn⟩ : ∃ n,n=c.toNat:=⟨_,rfl⟩
 rw[← hn] at hcl ⊢
 simp only[zav,List.getElem?_toArray,List.getElem?_cons_succ,List.getElem?_cons_zero] at d1
 obtain⟨Hh,H2,Hs,Hs2,Hn⟩:=hd5 h h2 hs hs2 hn;clear h h2 hs hs2 hn
 by_cases h10:n=10
 ·have ht:LexM.takes s c=(LexM.breaks (LexM.onward s),0):=by unfold LexM.takes;rw[if_pos (by rw[← Hn.out];exact h10)]
  have b10:((n:Int) == 10)=true:=by rw[beq_iff_eq];omega
  have HB:=Lib.hid (zjy H2.out (by omega) Hs2.out)
  unfold zfk
  rw[ht]
  obtain⟨Ht,H10⟩:=hd2 ht h10;clear ht h10
  go_enter Tryz.func126,Tryz.ntmps126
  go_wp2_with fail
  refine HB.out.mono ?_
  rintro e w1 ⟨rfl,wv1,sv1,ov1,rv1,h1⟩
  have H1:=hd h1;clear h1
  go_wp2_with fail
  go_ret
  exact zd0 H1.out rfl rfl
 have c10:¬ c.toNat=10:=by rw[← Hn.out];exact h10
 have b10:((n:Int) == 10)=false:=by rw[beq_eq_false_iff_ne];omega
 by_cases hA:n < 32∨126 < n
 ·have ht:LexM.takes s c=(LexM.onward s,3):=by unfold LexM.takes;rw[if_neg c10,if_pos (by rw[← Hn.out];exact hA)]
  unfold zfk
  rw[ht]
  clear ht h10 c10
  by_cases h32:n < 32
  ·clear hA
   go_enter Tryz.func126,Tryz.ntmps126
   go_wp2_with fail
   go_ret
   exact zd0 H2.out rfl rfl
  have h126:126 < n:=by omega
  clear hA
  go_enter Tryz.func126,Tryz.ntmps126
  go_wp2_with fail
  go_ret
  exact zd0 H2.out rfl rfl
 have hlo:32≤n:=by omega
 have hhi:n≤126:=by omega
 have cA:¬ (c.toNat < 32∨126 < c.toNat):=by rw[← Hn.out];exact hA
 have d3:=za4 Hh.out.cells 3
 simp only[zav,List.getElem?_toArray,List.getElem?_cons_succ,List.getElem?_cons_zero] at d3
 obtain⟨off,hoff⟩ : ∃ off,off=s.off:=⟨_,rfl⟩
 rw[← hoff] at d3
 clear hA h10
 cases off
 ·have coff:¬ s.off=true:=by rw[← hoff];simp
  clear hoff
  by_cases h35:n=35
  ·have ht:LexM.takes s c=({ LexM.ends (LexM.onward s) with off:=true },0):=by unfold LexM.takes;rw[if_neg c10,if_neg cA,if_neg coff,if_pos (by rw[← Hn.out];exact h35)]
   have b35:((n:Int) == 35)=true:=by rw[beq_iff_eq];omega
   have HE:=Lib.hid (zhx H2.out (by omega) Hs2.out)
   unfold zfk
   rw[ht]
   clear ht c10 cA coff h35
   go_enter Tryz.func126,Tryz.ntmps126
   go_wp2_with fail
   refine HE.out.mono ?_
   rintro e w1 ⟨rfl,wv1,sv1,ov1,rv1,h1⟩
   have e3:=za4 h1.cells 3
   have f3:=za8 h1.cells 3
   simp only[zav,List.getElem?_toArray,List.getElem?_cons_succ,List.getElem?_cons_zero] at e3
   have hX:=h1.scal 3 (.bool true) { LexM.ends (LexM.onward s) with off:=true } rfl rfl rfl rfl
   obtain⟨H1,HX⟩:=hd2 h1 hX;clear h1 hX
   go_wp2_with fail
   go_ret
   exact zd0 HX.out rfl rfl
  have c35:¬ c.toNat=35:=by rw[← Hn.out];exact h35
  have b35:((n:Int) == 35)=false:=by rw[beq_eq_false_iff_ne];omega
  by_cases h32:n=32
  ·have ht:LexM.takes s c=(LexM.ends (LexM.onward s),0):=by unfold LexM.takes;rw[if_neg c10,if_neg cA,if_neg coff,if_neg c35,if_pos (by rw[← Hn.out];exact h32)]
   have b32:((n:Int) == 32)=true:=by rw[beq_iff_eq];omega
   have HE:=Lib.hid (zhx H2.out (by omega) Hs2.out)
   unfold zfk
   rw[ht]
   clear ht c10 cA coff h35 c35 h32
   go_enter Tryz.func126,Tryz.ntmps126
   go_wp2_with fail
   refine HE.out.mono ?_
   rintro e w1 ⟨rfl,wv1,sv1,ov1,rv1,h1⟩
   have H1:=hd h1;clear h1
   go_wp2_with fail
   go_ret
   exact zd0 H1.out rfl rfl
  have c32:¬ c.toNat=32:=by rw[← Hn.out];exact h32
  have b32:((n:Int) == 32)=false:=by rw[beq_eq_false_iff_ne];omega
  by_cases hfr:0 < s.frm
  ·have ht:LexM.takes s c=({ LexM.onward s with word:=s.word ++ [c] },0):=by unfold LexM.takes;rw[if_neg c10,if_neg cA,if_neg coff,if_neg c35,if_neg c32,if_pos hfr]
   have HE:=Lib.hid (begins_on H2.out (show 0 < (LexM.onward s).frm from hfr))
   have Ht:=hd ht;clear ht
   clear c10 cA coff h35 c35 h32 c32 hfr
   go_enter Tryz.func126,Tryz.ntmps126
   go_wp2_with fail
   refine HE.out.mono ?_
   rintro e w1 ⟨rfl,wv1,sv1,ov1,rv1,h1⟩
   have e4:=za4 h1.cells 4
   simp only[zav,List.getElem?_toArray,List.getElem?_cons_succ,List.getElem?_cons_zero] at e4
   have hB1:=h1.bel.size
   have hx1:=zah h1.word h1.cells (by decide)
   have how:=h1.word
   have hwl:s.word.length≤m:=Hs.out.word
   obtain⟨H1,Hx1,How⟩:=hd3 h1 hx1 how;clear h1 hx1 how
   go_wp2_with (at_builtin;refine zar zmp (w:=w1) rfl (.tmp 16) (.tmp 18) rfl w0.heap.size wv1 s.word.length (zhg s.word) rfl How.out 1 (by decide) #[.int .u8 n] rfl rfl (by simp[Value.oneCell']) (by omega) (by unfold maxLen;omega) hB1 ?_)
   intro g8 c8 w8 hown8 hg8 hm8
   have hc8:=zbc H1.out.cells ((Frm.refl _ w1).grown hg8 (S:=fun k=>wv1.ownBlock=some k) (fun k hk=>.inr hk)) Hx1.out
   have k4:=za4 hc8 4
   have f4:=za8 hc8 4
   simp only[zav,List.getElem?_toArray,List.getElem?_cons_succ,List.getElem?_cons_zero] at k4
   have hP:=H1.out.pushByte c (by rw[← Hn.out];exact hown8) hg8
   have HP:=hd hP;clear hP
   clear hown8 hg8 hm8 hc8
   go_wp2_with fail
   go_ret
   exact zd0 HP.out (by rw[Ht.out];rfl) (by rw[Ht.out];rfl)
  have HE:=Lib.hid (zrn H2.out (show ¬ 0 < (LexM.onward s).frm from hfr))
  by_cases hmb:LexM.mayBegin s=true
  ·have ht:LexM.takes s c=({ LexM.onward s with frm:=s.col+1,word:=s.word ++ [c] },0):=by unfold LexM.takes;rw[if_neg c10,if_neg cA,if_neg coff,if_neg c35,if_neg c32,if_neg hfr,if_pos hmb]
   have hmb2:LexM.mayBegin (LexM.onward s)=true:=hmb
   rw[hmb2] at HE
   have Ht:=hd ht;clear ht
   clear c10 cA coff h35 c35 h32 c32 hfr hmb hmb2
   go_enter Tryz.func126,Tryz.ntmps126
   go_wp2_with fail
   refine HE.out.mono ?_
   rintro e w1 ⟨rfl,wv1,sv1,ov1,rv1,h1⟩
   have e4:=za4 h1.cells 4
   simp only[zav,List.getElem?_toArray,List.getElem?_cons_succ,List.getElem?_cons_zero] at e4
   have hB1:=h1.bel.size
   have hx1:=zah h1.word h1.cells (by decide)
   have how:=h1.word
   have hwl:s.word.length≤m:=Hs.out.word
   obtain⟨H1,Hx1,How⟩:=hd3 h1 hx1 how;clear h1 hx1 how
   go_wp2_with (at_builtin;refine zar zmp (w:=w1) rfl (.tmp 16) (.tmp 18) rfl w0.heap.size wv1 s.word.length (zhg s.word) rfl How.out 1 (by decide) #[.int .u8 n] rfl rfl (by simp[Value.oneCell']) (by omega) (by unfold maxLen;omega) hB1 ?_)
   intro g8 c8 w8 hown8 hg8 hm8
   have hc8:=zbc H1.out.cells ((Frm.refl _ w1).grown hg8 (S:=fun k=>wv1.ownBlock=some k) (fun k hk=>.inr hk)) Hx1.out
   have k4:=za4 hc8 4
   have f4:=za8 hc8 4
   simp only[zav,List.getElem?_toArray,List.getElem?_cons_succ,List.getElem?_cons_zero] at k4
   have hP:=H1.out.pushByte c (by rw[← Hn.out];exact hown8) hg8
   have HP:=hd hP;clear hP
   clear hown8 hg8 hm8 hc8
   go_wp2_with fail
   go_ret
   exact zd0 HP.out (by rw[Ht.out];rfl) (by rw[Ht.out];rfl)
  have ht:LexM.takes s c=({ LexM.onward s with frm:=s.col+1 },4):=by unfold LexM.takes;rw[if_neg c10,if_neg cA,if_neg coff,if_neg c35,if_neg c32,if_neg hfr,if_neg hmb]
  have hmb2:LexM.mayBegin (LexM.onward s)=false:=(by simpa using hmb:LexM.mayBegin s=false)
  rw[hmb2] at HE
  have Ht:=hd ht;clear ht
  clear c10 cA coff h35 c35 h32 c32 hfr hmb hmb2
  go_enter Tryz.func126,Tryz.ntmps126
  go_wp2_with fail
  refine HE.out.mono ?_
  rintro e w1 ⟨rfl,wv1,sv1,ov1,rv1,h1⟩
  have H1:=hd h1;clear h1
  go_wp2_with fail
  go_ret
  exact zd0 H1.out (by rw[Ht.out];rfl) (by rw[Ht.out];rfl)
 have coff:s.off=true:=hoff.symm
 have ht:LexM.takes s c=(LexM.onward s,0):=by unfold LexM.takes;rw[if_neg c10,if_neg cA,if_pos coff]
 unfold zfk
 rw[ht]
 clear ht c10 cA coff hoff
 go_enter Tryz.func126,Tryz.ntmps126
 go_wp2_with fail
 go_ret
 exact zd0 H2.out rfl rfl
end

section
open Go.RowKit
open LexM (Bs Wd Ln St)
theorem zoy:Small LexM.st0 0:=⟨by decide,by decide,by decide,by decide,by decide,by decide,by decide⟩
theorem zjv {s:St} {m:Nat} (h:Small s m):Small (LexM.ends s) (m+1):=by
 obtain⟨a,b,c,d,e,f,g⟩:=h
 refine⟨?_,?_,?_,?_,?_,?_,?_⟩ <;> unfold LexM.ends <;> dsimp only
 ·omega
 ·omega
 ·omega
 ·simp
 ·split <;> (try simp) <;> omega
 ·omega
 intro h;exact absurd h (by decide)
theorem zmz {s:St} {m:Nat} (h:Small s m):Small (LexM.breaks s) (m+1):=by
 obtain⟨a,b,c,d,e,f,g⟩:=h
 refine⟨?_,?_,?_,?_,?_,?_,?_⟩ <;> unfold LexM.breaks LexM.ends <;> dsimp only
 ·omega
 ·omega
 ·omega
 ·simp
 ·simp
 ·(repeat' split) <;> (try simp) <;> omega
 intro h;exact absurd h (by decide)
theorem Small.mono {s:St} {m k:Nat} (h:Small s m) (hk:m≤k):Small s k:=by
 obtain⟨a,b,c,d,e,f,g⟩:=h
 exact⟨by omega,by omega,by omega,by omega,by omega,by omega,g⟩
theorem zi2 {s:St} {m:Nat} (h:Small s m) (c:UInt8) (h0:(LexM.takes s c).2=0):Small (LexM.takes s c).1 (m+2):=by
 have h1:=zkd h
 unfold LexM.takes at h0 ⊢
 split
 ·exact zmz h1
 rename_i c10
 rw[if_neg c10] at h0
 split
 ·rename_i cA;rw[if_pos cA] at h0;cases h0
 rename_i cA
 rw[if_neg cA] at h0
 split
 ·exact h1.mono (by omega)
 rename_i co
 rw[if_neg co] at h0
 split
 ·obtain⟨a,b,c,d,e,f,g⟩:=zjv h1
  exact⟨a,b,c,d,e,f,g⟩
 rename_i c35
 rw[if_neg c35] at h0
 split
 ·exact zjv h1
 rename_i c32
 rw[if_neg c32] at h0
 have hw:=h.word
 have hc:=h.col
 obtain⟨a,b,c,d,e,f,g⟩:=h1
 split
 ·exact⟨by dsimp only;omega,by dsimp only;omega,by dsimp only;omega,by simp;omega,by dsimp only;omega,by dsimp only;omega,fun _=>by simp⟩
 rename_i cf
 rw[if_neg cf] at h0
 split
 ·refine⟨by dsimp only;omega,by dsimp only;omega,by dsimp only;omega,by simp;omega,by dsimp only;omega,by dsimp only;omega,fun _=>by simp⟩
 rename_i cm
 rw[if_neg cm] at h0
 cases h0
theorem zlw (t:Bs):∀ (s:St) (m:Nat),Small s m→(LexM.run s t).2=0→Small (LexM.run s t).1 (m+2 * t.length):=by
 induction t with
 | nil=>intro s m h _;exact h
 | cons c r ih =>
  intro s m h h0
  by_cases hz:(LexM.takes s c).2=0
  ·rw[LexM.run_ok hz] at h0 ⊢
   have:=ih _ _ (zi2 h c hz) h0
   rw[List.length_cons]
   exact this.mono (by omega)
  rw[LexM.run_bad hz] at h0;exact absurd h0 hz
theorem znj (t:Bs) (c:UInt8) (s:St) (h:(LexM.run s t).2=0):LexM.run s (t ++ [c])=if (LexM.takes (LexM.run s t).1 c).2=0 then ((LexM.takes (LexM.run s t).1 c).1,0) else LexM.takes (LexM.run s t).1 c:=by
 rw[LexM.run_append,if_pos h]
 by_cases hz:(LexM.takes (LexM.run s t).1 c).2=0
 ·rw[LexM.run_ok hz,if_pos hz];rfl
 rw[LexM.run_bad hz,if_neg hz]
theorem run_stop (t r:Bs) (s:St) (h:(LexM.run s t).2≠0):LexM.run s (t ++ r)=LexM.run s t:=by rw[LexM.run_append,if_neg h]
def WdOk (m:Nat) (x:Wd):Prop:=0≤x.1∧x.1≤m∧x.2.length≤m
def LnOk (m:Nat) (x:Ln):Prop:=0≤x.1∧x.1≤m+1∧∀ wd∈x.2,WdOk m wd
structure Fine (s:St) (m:Nat):Prop where
 words:∀ wd∈s.words,WdOk m wd
 out:∀ ln∈s.out,LnOk m ln
theorem WdOk.mono {m k:Nat} {x:Wd} (h:WdOk m x) (hk:m≤k):WdOk k x:=by obtain⟨a,b,c⟩:=h;exact⟨a,by omega,by omega⟩
theorem LnOk.mono {m k:Nat} {x:Ln} (h:LnOk m x) (hk:m≤k):LnOk k x:=by obtain⟨a,b,c⟩:=h;exact⟨a,by omega,fun wd hw=>(c wd hw).mono hk⟩
theorem Fine.mono {s:St} {m k:Nat} (h:Fine s m) (hk:m≤k):Fine s k:=⟨fun wd hw=>(h.words wd hw).mono hk,fun ln hl=>(h.out ln hl).mono hk⟩
theorem zmm {s:St} {m:Nat} (hs:Small s m) (h:Fine s m):Fine (LexM.ends s) m:=by
 refine⟨?_,h.out⟩
 unfold LexM.ends
 dsimp only
 split
 ·intro wd hw
  rcases List.mem_append.1 hw with hw | hw
  ·exact h.words wd hw
  simp at hw
  subst hw
  exact⟨hs.frm.1,hs.frm.2,hs.word⟩
 exact h.words
theorem zg3 {s:St} {m:Nat} (hs:Small s m) (h:Fine s m):Fine (LexM.breaks s) m:=by
 have h1:=zmm hs h
 unfold LexM.breaks
 refine⟨by simp,?_⟩
 dsimp only
 split
 ·exact h.out
 intro ln hl
 rcases List.mem_append.1 hl with hl | hl
 ·exact h.out ln hl
 simp at hl
 subst hl
 exact⟨hs.line.1,hs.line.2,h1.words⟩
theorem zqc {s:St} {m:Nat} (hs:Small s m) (h:Fine s m) (c:UInt8):Fine (LexM.takes s c).1 (m+2):=by
 have h1:=zkd hs
 have h2:Fine (LexM.onward s) (m+1):=⟨(h.mono (Nat.le_succ m)).words,(h.mono (Nat.le_succ m)).out⟩
 have h3:=(zmm h1 h2).mono (Nat.le_succ _)
 have h4:=h2.mono (Nat.le_succ (m+1))
 unfold LexM.takes
 split
 ·exact (zg3 h1 h2).mono (Nat.le_succ _)
 split
 ·exact h4
 split
 ·exact h4
 split
 ·exact⟨h3.words,h3.out⟩
 split
 ·exact h3
 split
 ·exact⟨h4.words,h4.out⟩
 split
 ·exact⟨h4.words,h4.out⟩
 exact⟨h4.words,h4.out⟩
theorem zp3 (t:Bs):∀ (s:St) (m:Nat),Small s m→Fine s m→(LexM.run s t).2=0→Fine (LexM.run s t).1 (m+2 * t.length):=by
 induction t with
 | nil=>intro s m _ h _;exact h
 | cons c r ih =>
  intro s m hs h h0
  by_cases hz:(LexM.takes s c).2=0
  ·rw[LexM.run_ok hz] at h0 ⊢
   have:=ih _ _ (zi2 hs c hz) (zqc hs h c) h0
   rw[List.length_cons]
   exact this.mono (by omega)
  rw[LexM.run_bad hz] at h0;exact absurd h0 hz
theorem zk5 {n:Int} (h0:0≤n) (h1:n≤9223372036854775807):(Lit.int .i64 n).wf=true:=by
 simp[Lit.wf,IntKind.min,IntKind.max,IntKind.signed,IntKind.bits]
 omega
theorem rword {w:World} {m:Nat} (hm:m≤10000000) {x:Wd} (h:WdOk m x):RWd w (zb4 x) x:=by
 obtain⟨a,b,c⟩:=h
 exact⟨rfl,zk5 a (by omega),by unfold maxLen;omega⟩
theorem zbm.reads {w0 w w':World} {x:Nat} {s:St} {wv sv ov:Value} {rv:List Value} (h:zbm w0 x s wv sv ov rv w) (hfr:Frm (fun k=>k < w0.heap.size) w w') {m:Nat} (hm:m≤10000000) (hf:Fine s m):RLns w' [ov] s.out:=by
 have hz:(zd3 s.out rv)=(s.out.zip rv).flatMap fun x=>[.int .i64 x.1.1,x.2]:=rfl
 have hlen:(s.out.zip rv).length=s.out.length:=by simp[h.rlen]
 have h1:=hfr.owns h.out (fun k hk e=>by have:=(h.out.lt k hk).1;omega)
 rw[hz] at h1
 have h2:zde 2 (fun w cs (y:Ln × Value)=>RLn w cs y.1) w' [ov] (s.out.zip rv):=by
  refine zd6 (B:=w0.heap.size) (e:=62) (fun x:Ln × Value=>[.int .i64 x.1.1,x.2]) _ (fun _ _=>rfl) ?_ (by rw[hlen];exact h1)
  intro y hy
  obtain⟨i,hi,rfl⟩:=List.mem_iff_getElem.1 hy
  have hi1:i < s.out.length:=by omega
  have hi2:i < rv.length:=by rw[h.rlen];exact hi1
  rw[List.getElem_zip]
  obtain⟨r0,_⟩:=h.rows i s.out[i] rv[i] (List.getElem?_eq_getElem hi1) (List.getElem?_eq_getElem hi2)
  have r1:=hfr.owns r0 (fun k hk e=>by have:=(r0.lt k hk).1;omega)
  obtain⟨a,b,c⟩:=hf.out _ (List.getElem_mem hi1)
  refine⟨rv[i],rfl,zd6 zb4 RWd (fun _ _=>rfl) (fun wd hw=>rword hm (c wd hw)) r1,zk5 (n:=s.out[i].1) a (by omega)⟩
 obtain⟨a,cap,hv,g1,g2,g3⟩:=h2
 rw[hlen] at hv g1
 refine⟨a,cap,hv,g1,g2,fun i ln hi=>?_⟩
 have hi1:=(List.getElem?_eq_some_iff.1 hi).1
 have hi2:i < rv.length:=by rw[h.rlen];exact hi1
 have hzi:(s.out.zip rv)[i]? = some (ln,rv[i]):=by
  rw[List.getElem?_zip_eq_some]
  exact⟨hi,List.getElem?_eq_getElem hi2⟩
 exact g3 i _ hzi
def zgu (w:World) (r:LexM.Res) (e:Ending) (w':World):Prop:=∃ v,e = .returned (.tuple #[v,.agg #[.int .i64 r.at1,.int .i64 r.at2],.int .i64 r.e])∧RLns w' [v] r.lines∧Below w.heap.size w w'
theorem zkx (s:ByteArray) (hs:s.size≤140737488351232) (w:World) (h:65536 < s.size):Calls Tryz.prog 70 #[.string s] w (zgu w (LexM.lines s.data.toList)):=by
 have hr:LexM.lines s.data.toList=⟨[],0,0,4⟩:=by unfold LexM.lines;rw[if_pos];rw[Array.length_toList];exact h
 rw[hr]
 clear hr
 go_enter Tryz.func70,Tryz.ntmps70
 go_wp2_with fail
 refine bodyPost_ret (v:=.tuple #[.slice none 0 0,.agg #[.int .i64 0,.int .i64 0],.int .i64 4]) (by simp[results,Tryz.results70,go_sem]) rfl ⟨_,rfl,⟨none,0,rfl,Nat.le_refl _,Nat.zero_le _,fun i x hi=>by simp at hi⟩,?_⟩
 exact (Below.refl _ _).alloc (Nat.le_refl _) _
theorem zbm.start (w1:World):zbm w1 w1.heap.size LexM.st0 (.slice none 0 0) (.slice none 0 0) (.slice none 0 0) [] (w1.alloc (.cells (zav LexM.st0 (.slice none 0 0) (.slice none 0 0) (.slice none 0 0)) 182)) :=
 ⟨heap_alloc_new w1 _,World.ownsRow_nil _ _ _ _,World.ownsRow_nil _ _ _ _,World.ownsRow_nil _ _ _ _,rfl,fun i ln v hi=>by simp[LexM.st0] at hi,(Below.refl _ _).alloc (Nat.le_refl _) _,Nat.le_refl _⟩
def zop (w1:World) (x:Nat) (t:Bs) (k:Nat) (w:World):Prop:=(LexM.run LexM.st0 (t.take k)).2=0∧∃ wv sv ov rv,zbm w1 x (LexM.run LexM.st0 (t.take k)).1 wv sv ov rv w
theorem byte_at (s:ByteArray) (k:Nat) (h:k < s.size):s.data.toList.take (k+1)=s.data.toList.take k ++ [s[k]]:=by
 rw[List.take_add_one,List.getElem?_eq_getElem (by rw[Array.length_toList];exact h)]
 rfl
theorem zjb (s:ByteArray) (w:World) (h:s.size≤65536):Calls Tryz.prog 70 #[.string s] w (zgu w (LexM.lines s.data.toList)):=by
 have hlen:s.data.toList.length=s.size:=by rw[Array.length_toList];rfl
 have hr:LexM.lines s.data.toList=LexM.close (LexM.run LexM.st0 s.data.toList):=by unfold LexM.lines;rw[if_neg];omega
 rw[hr]
 clear hr
 obtain⟨t,ht⟩ : ∃ t,t=s.data.toList:=⟨_,rfl⟩
 rw[← ht] at hlen ⊢
 have h0:=zbm.start (w.alloc (.cells #[.int .i64 0,.int .i64 0] 40))
 simp only[World.size_alloc] at h0
 have hg0:zop (w.alloc (.cells #[.int .i64 0,.int .i64 0] 40)) (w.heap.size+1) t 0 ((w.alloc (.cells #[.int .i64 0,.int .i64 0] 40)).alloc (.cells (zav LexM.st0 (.slice none 0 0) (.slice none 0 0) (.slice none 0 0)) 182)):=⟨rfl,_,_,_,_,h0⟩
 obtain⟨Ht,Hlen,Hg0⟩:=hd3 ht hlen hg0;clear ht hlen hg0
 clear h0
 go_enter Tryz.func70,Tryz.ntmps70
 go_wp2_with fail
 obtain⟨w2,hw2⟩ : ∃ w2,w2=((w.alloc (.cells #[.int .i64 0,.int .i64 0] 40)).alloc (.cells (zav LexM.st0 (.slice none 0 0) (.slice none 0 0) (.slice none 0 0)) 182)):=⟨_,rfl⟩
 rw[← hw2] at Hg0
 have hw3:=hw2
 simp only[zav,LexM.st0] at hw3
 rw[← hw3]
 clear hw2 hw3
 go_loopw [16] (fun i wr=>∃ k:Nat,k≤s.size∧i = .int .i64 k∧zop (w.alloc (.cells #[.int .i64 0,.int .i64 0] 40)) (w.heap.size+1) t k wr) (fun i _=>s.size - (intOf i).toNat)
 case atStart=>exact⟨0,Nat.zero_le _,rfl,Hg0.out⟩
 case round =>
  obtain⟨k,hk,rfl,hg⟩:=hrel
  obtain⟨hz,wv,sv,ov,rv,hL⟩:=hg
  have hS:=zlw (t.take k) LexM.st0 0 zoy hz
  have htl:(t.take k).length≤k:=List.length_take_le _ _
  obtain⟨st,hst⟩ : ∃ st,st=(LexM.run LexM.st0 (t.take k)).1:=⟨_,rfl⟩
  rw[← hst] at hL hS
  by_cases hlt:k < s.size
  ·have hsn:=byte_at s k hlt
   obtain⟨Hz,HL,HS,Hst,Hsn⟩:=hd5 hz hL hS hst hsn;clear hz hL hS hst hsn
   go_wp2_with fail
   refine (takes_any HL.out (by omega) HS.out s[k]).mono ?_
   rintro e w3 ⟨rfl,wv3,sv3,ov3,rv3,h3⟩
   obtain⟨er,her⟩ : ∃ er,er=(LexM.takes st s[k]).2:=⟨_,rfl⟩
   have htk:LexM.run LexM.st0 (t.take (k+1))=if (LexM.takes st s[k]).2=0 then ((LexM.takes st s[k]).1,0) else LexM.takes st s[k]:=by
    rw[Ht.out,Hsn.out,← Ht.out,znj _ _ _ Hz.out,← Hst.out]
   rw[← her] at htk ⊢
   by_cases he:er=0
   ·have hb:(er != 0)=false:=by rw[he];rfl
    rw[if_pos he] at htk
    have hg:zop (w.alloc (.cells #[.int .i64 0,.int .i64 0] 40)) (w.heap.size+1) t (k+1) w3:=⟨by rw[htk],wv3,sv3,ov3,rv3,by rw[htk];exact h3⟩
    obtain⟨Hg,Htk,Her,He⟩:=hd4 hg htk her he;clear hg htk her he
    clear h3
    go_wp2_with fail
    go_roundw
    case rel=>exact⟨k+1,by omega,by go_num,Hg.out⟩
    case measure=>simp[intOf];omega
   have hb:(er != 0)=true:=by rw[bne_iff_ne];exact he
   rw[if_neg he] at htk
   have hsplit:t=t.take (k+1) ++ t.drop (k+1):=(List.take_append_drop _ _).symm
   have hrun:LexM.run LexM.st0 t=LexM.takes st s[k]:=by
    rw[hsplit,run_stop _ _ _ (by rw[htk];rw[← her];exact he),htk]
   have hcl:LexM.close (LexM.run LexM.st0 t)=⟨[],(LexM.takes st s[k]).1.line,(LexM.takes st s[k]).1.col,er⟩:=by
    rw[hrun];unfold LexM.close;rw[← her,if_neg he]
   have x0:=za4 h3.cells 0
   have x1:=za4 h3.cells 1
   simp only[zav,List.getElem?_toArray,List.getElem?_cons_succ,List.getElem?_cons_zero] at x0 x1
   obtain⟨l3,hl3⟩ : ∃ l3,l3=(LexM.takes st s[k]).1.line:=⟨_,rfl⟩
   obtain⟨c3,hc3⟩ : ∃ c3,c3=(LexM.takes st s[k]).1.col:=⟨_,rfl⟩
   rw[← hl3] at x0 hcl
   rw[← hc3] at x1 hcl
   have hblk:w3.heap[w.heap.size]? = some (.cells #[.int .i64 0,.int .i64 0] 40 (0,0)):=by
    rw[h3.bel.block _ (by simp)];exact heap_alloc_new w _
   have z0:=za4 hblk 0
   have z1:=za4 hblk 1
   have y0:=za8 hblk 0
   have y1:=za8 hblk 1
   simp only[List.getElem?_toArray,List.getElem?_cons_succ,List.getElem?_cons_zero] at z0 z1
   have hbel:=h3.bel
   obtain⟨Hbel,Htk,Her,He,Hrun,Hcl,Hsplit,Hl3,Hc3,H3⟩:=hd10 hbel htk her he hrun hcl hsplit hl3 hc3 h3;clear hbel htk her he hrun hcl hsplit hl3 hc3 h3
   clear hblk
   go_wp2_with fail
   go_region
   all_goals
    go_wp2_with fail
    refine bodyPost_ret (v:=.tuple #[.slice none 0 0,.agg #[.int .i64 l3,.int .i64 c3],.int .i64 er]) (by simp[results,Tryz.results70,go_sem,z0,z1]) rfl ?_
    rw[Hcl.out]
    refine⟨_,rfl,⟨none,0,rfl,Nat.le_refl _,Nat.zero_le _,fun i x hi=>by simp at hi⟩,?_⟩
    exact ((((Below.refl _ _).alloc (Nat.le_refl _) _).trans (Hbel.out.mono (by simp))).setCell (Nat.le_refl _) _).setCell (Nat.le_refl _) _ |>.drew
  obtain rfl:k=s.size:=by omega
  have htake:t.take s.size=t:=List.take_of_length_le (by have:=Hlen.out;omega)
  have hF:=zp3 (t.take s.size) LexM.st0 0 zoy ⟨by simp[LexM.st0],by simp[LexM.st0]⟩ hz
  rw[← hst] at hF
  have hcl:LexM.close (LexM.run LexM.st0 t)=⟨(LexM.breaks st).out,0,0,0⟩:=by
   rw[htake] at hz hst
   unfold LexM.close;rw[if_pos hz,← hst]
  have hF2:=zg3 hS hF
  obtain⟨Hz,HL,HS,Hst,Htake,Hcl,HF,HF2⟩:=hd8 hz hL hS hst htake hcl hF hF2;clear hz hL hS hst htake hcl hF hF2
  go_wp2_with fail
  refine (zjy HL.out (by omega) HS.out).mono ?_
  rintro e w3 ⟨rfl,wv3,sv3,ov3,rv3,h3⟩
  have x6:=za4 h3.cells 6
  simp only[zav,List.getElem?_toArray,List.getElem?_cons_succ,List.getElem?_cons_zero] at x6
  have hblk:w3.heap[w.heap.size]? = some (.cells #[.int .i64 0,.int .i64 0] 40 (0,0)):=by
   rw[h3.bel.block _ (by simp)];exact heap_alloc_new w _
  have z0:=za4 hblk 0
  have z1:=za4 hblk 1
  have y0:=za8 hblk 0
  have y1:=za8 hblk 1
  simp only[List.getElem?_toArray,List.getElem?_cons_succ,List.getElem?_cons_zero] at z0 z1
  have hRd:=h3.reads (w':=(w3.setCell ⟨w.heap.size,0,none⟩ (.int .i64 0)).setCell ⟨w.heap.size,1,none⟩ (.int .i64 0)) (Frm.setCell (Frm.setCell (Frm.refl _ _) (p:=⟨w.heap.size,0,none⟩) (.inr (by simp)) _) (p:=⟨w.heap.size,1,none⟩) (.inr (by simp)) _) (by omega) HF2.out
  have hbel:=h3.bel
  obtain⟨Hbel,HRd,H3⟩:=hd3 hbel hRd h3;clear hbel hRd h3
  clear hblk
  go_wp2_with fail
  refine bodyPost_ret (v:=.tuple #[ov3,.agg #[.int .i64 0,.int .i64 0],.int .i64 0]) (by simp[results,Tryz.results70,go_sem,z0,z1]) rfl ?_
  rw[Hcl.out]
  refine⟨_,rfl,?_,?_⟩
  ·exact HRd.out
  exact (((((Below.refl _ _).alloc (Nat.le_refl _) _).trans (Hbel.out.mono (by simp))).setCell (Nat.le_refl _) _).setCell (Nat.le_refl _) _)
theorem zmb (s:ByteArray) (hs:s.size≤140737488351232) (w:World):Calls Tryz.prog 70 #[.string s] w (zgu w (LexM.lines s.data.toList)):=by
 by_cases h:65536 < s.size
 ·exact zkx s hs w h
 exact zjb s w (by omega)
end

section
open Go.RowKit
theorem flat_get' {k:Nat}:∀ {css:List (List Value)},(∀ cs∈css,cs.length=k)→∀ (i:Nat) (h:i < css.length) (j:Nat),j < k→css.flatten[i * k+j]? = css[i][j]?
 | [],_,i,h,_,_=>by simp at h
 | c :: css,hk,0,_,j,hj=>by
  rw[List.flatten_cons,Nat.zero_mul,Nat.zero_add,List.getElem?_append_left (by rw[hk c (by simp)];exact hj)];rfl
 | c :: css,hk,i+1,h,j,hj=>by
  have hc:=hk c (by simp)
  rw[List.flatten_cons,List.getElem?_append_right (by rw[hc,Nat.succ_mul];omega),hc,show (i+1) * k+j - k=i * k+j by rw[Nat.succ_mul];omega]
  rw[flat_get' (fun x hx=>hk x (by simp[hx])) i (by simpa using h) j hj];rfl
theorem zfp {α:Type} {sz:Nat} {R:Rd α} {w:World} {B:Nat} {e:TypeId} {v:Value} {css:List (List Value)} {l:List α} (hsz:0 < sz) (hlen:css.length=l.length) (hk:∀ cs∈css,cs.length=sz) (h:w.ownsRow B e sz v l.length css.flatten) (hr:∀ (i:Nat) cs x,css[i]? = some cs→l[i]? = some x→R w cs x):zde sz R w [v] l:=by
 obtain⟨a,cap,rfl,h1,h2,h3⟩:=Sl.of_owns h
 refine⟨a,cap,rfl,h1,h2,fun i x hi=>?_⟩
 have hil:=(List.getElem?_eq_some_iff.1 hi).1
 have hic:i < css.length:=by omega
 have hcl:=hk _ (List.getElem_mem hic)
 have hc:∀ c,c < sz→∀ u,css[i][c]? = some u→∃ b off,a=some ⟨b,off,none⟩∧w.cell? ⟨b,off+(i * sz+c),none⟩=some u:=fun c hc u hu=>h3 (i * sz+c) u (by rw[flat_get' hk i hic c hc];exact hu)
 obtain⟨b,off,ha,_⟩:=hc 0 hsz (css[i][0]'(by omega)) (List.getElem?_eq_getElem (by omega))
 refine⟨b,off,css[i],ha,hcl,fun j u hu=>?_,hr i _ x (List.getElem?_eq_getElem hic) hi⟩
 have hj:=(List.getElem?_eq_some_iff.1 hu).1
 obtain⟨b',off',ha',h5⟩:=hc j (by omega) u hu
 rw[ha] at ha'
 cases ha'
 rw[Nat.add_assoc];exact h5
end

section
open Go.Shelf Go.RowKit Go.Lib VerN VarM
open LexM (Wd Ln zgv)
attribute [local go_sem ↓] Go.wp_at_zero Go.wp_at_succ
abbrev Rt:=Spc3 × Int
def RRootT (W:World) (cs:List Value) (x:Rt):Prop:=∃ v1 v2,cs = [.string x.1.1,v1,v2,.int .i64 x.2]∧zdk W v1 x.1.2.1∧zbj W v2 x.1.2.2
def RRoot:Rd Rt:=fun W cs x=>∃ v1 v2,cs = [.string x.1.1,v1,v2,.int .i64 x.2]∧RSps W [v1] x.1.2.1∧zhl W [v2] x.1.2.2
theorem ze5:ziz RRoot:=fun w w' cs x h hb=>by
 obtain⟨v1,v2,e,h1,h2⟩:=h
 exact⟨v1,v2,e,zaf zc7 _ _ _ _ h1 hb,zaf zd8 _ _ _ _ h2 hb⟩
abbrev zj1:Rd (List Rt):=zde 4 RRoot
structure RqSt (w:World) (g:Nat) (rs:List Rt) (css:List (List Value)) (v:Value) (W:World):Prop where
 box:W.heap[g]? = some (.cells #[v] 38 (0,0))
 row:W.ownsRow w.heap.size 101 4 v rs.length css.flatten
 len:css.length=rs.length
 els:∀ (i:Nat) cs x,css[i]? = some cs→rs[i]? = some x→RRootT W cs x
 bel:Below w.heap.size w W
theorem RqSt.to {w W W':World} {g:Nat} {rs:List Rt} {css:List (List Value)} {v:Value} (h:RqSt w g rs css v W) (hb:Below W.heap.size W W'):RqSt w g rs css v W' :=
 ⟨za0 hb h.box,zae h.row hb,h.len,fun i cs x h1 h2=>by
  obtain⟨v1,v2,e,k1,k2⟩:=h.els i cs x h1 h2
  exact⟨v1,v2,e,zap k1 hb,zaz k2 hb⟩,h.bel.trans (hb.mono h.bel.size)⟩
theorem RqSt.reads {w W:World} {g:Nat} {rs:List Rt} {css:List (List Value)} {v:Value} (h:RqSt w g rs css v W):zj1 W [v] rs:=by
 refine zfp (by decide) h.len (fun cs hcs=>?_) h.row (fun i cs x h1 h2=>?_)
 ·obtain⟨i,hi,e⟩:=List.getElem_of_mem hcs
  obtain⟨v1,v2,e2,_⟩:=h.els i cs (rs[i]'(by rw[← h.len];exact hi)) (by rw[← e];exact List.getElem?_eq_getElem hi) (List.getElem?_eq_getElem (by rw[← h.len];exact hi))
  rw[e2];rfl
 obtain⟨v1,v2,e,k1,k2⟩:=h.els i cs x h1 h2
 exact⟨v1,v2,e,k1.1,k2.1⟩
theorem RqSt.other {w W W':World} {g:Nat} {rs:List Rt} {css:List (List Value)} {v:Value} {T:Nat→Prop} (h:RqSt w g rs css v W) (hF:Frm T W W') (hT:No2 W T) (hO:∀ k,T k→v.ownBlock≠some k):zj1 W' [v] rs:=by
 refine zfp (by decide) h.len (fun cs hcs=>?_) (hF.owns h.row (fun k hk kT=>hO k kT hk)) (fun i cs x h1 h2=>?_)
 ·obtain⟨i,hi,e⟩:=List.getElem_of_mem hcs
  obtain⟨v1,v2,e2,_⟩:=h.els i cs (rs[i]'(by rw[← h.len];exact hi)) (by rw[← e];exact List.getElem?_eq_getElem hi) (List.getElem?_eq_getElem (by rw[← h.len];exact hi))
  rw[e2];rfl
 obtain⟨v1,v2,e,k1,k2⟩:=h.els i cs x h1 h2
 exact⟨v1,v2,e,(zaq k1 hF hT).1,(zat k2 hF hT).1⟩
theorem RqSt.push {w W w9:World} {g:Nat} {rs:List Rt} {css:List (List Value)} {v v9 v1 v2:Value} {x:Rt} (h:RqSt w g rs css v W) (hg:w.heap.size≤g) (h1:zdk W v1 x.1.2.1) (h2:zbj W v2 x.1.2.2)
  (ho:w9.ownsRow w.heap.size 101 4 v9 (rs.length+1) (css.flatten ++ [.string x.1.1,v1,v2,.int .i64 x.2])) (hgr:W.grownBy w9 v.ownBlock) :
  RqSt w g (rs ++ [x]) (css ++ [[.string x.1.1,v1,v2,.int .i64 x.2]]) v9 (w9.setCell ⟨g,0,none⟩ v9)∧w9.heap[g]? = some (.cells #[v] 38 (0,0)):=by
 have f1:Frm (fun k=>v.ownBlock=some k) W w9:=zdz hgr
 have hvg:=zah h.row h.box (by decide)
 have hb9:=zbc h.box f1 hvg
 have hv9g:=zah ho hb9 (by decide)
 have f2:Frm (fun k=>k=g) w9 (w9.setCell ⟨g,0,none⟩ v9):=za9 (Frm.refl _ _) 0 _
 have fT:Frm (fun k=>v.ownBlock=some k∨k=g) W (w9.setCell ⟨g,0,none⟩ v9):=(f1.mono (fun _ _ h=>.inl h)).trans f2 (fun _ _ h=>.inr h)
 have hT:No2 W (fun k=>v.ownBlock=some k∨k=g):=by
  rintro k (hk | rfl)
  ·obtain⟨cs,hc⟩:=zdh h.row k hk
   exact zau hc (by decide) (by decide)
  exact zau h.box (by decide) (by decide)
 refine⟨⟨heap_setCell_same w9 g 0 _ _ v9 hb9,?_,by simp[h.len],fun i cs y e1 e2=>?_,?_⟩,hb9⟩
 ·rw[List.length_append,List.flatten_append]
  have:=f2.owns ho (fun k hk e=>hv9g (by rw[hk,e]))
  simpa using this
 ·by_cases hi:i < css.length
  ·rw[List.getElem?_append_left hi] at e1
   rw[List.getElem?_append_left (by rw[← h.len];exact hi)] at e2
   obtain⟨u1,u2,e,k1,k2⟩:=h.els i cs y e1 e2
   exact⟨u1,u2,e,zaq k1 fT hT,zat k2 fT hT⟩
  have hlt:=(List.getElem?_eq_some_iff.1 e1).1
  have e:i=css.length:=by simp at hlt;omega
  rw[List.getElem?_append_right (by omega),e,Nat.sub_self] at e1
  rw[List.getElem?_append_right (by rw[← h.len];omega),e,h.len,Nat.sub_self] at e2
  simp at e1 e2
  subst e1 e2
  exact⟨v1,v2,rfl,zaq h1 fT hT,zat h2 fT hT⟩
 exact h.bel.trans (fT.below h.bel.size (by
  rintro k (hk | rfl)
  ·exact (h.row.lt k hk).1
  exact hg))
theorem lns_at {w:World} {a:Option Addr} {n c:Nat} {ls:List Ln} (h:RLns w [.slice a n c] ls):n=ls.length∧n≤9223372036854775807∧∀ i x,ls[i]? = some x→∃ b off a2 n2 c2,a=some ⟨b,off,none⟩∧w.cell? ⟨b,off+i * 2,none⟩=some (.int .i64 x.1)∧w.cell? ⟨b,off+i * 2+1,none⟩=some (.slice a2 n2 c2)∧RWds w [.slice a2 n2 c2] x.2:=by
 obtain⟨a',cap,hv,hcap,hmax,hel⟩:=h
 simp only[List.cons.injEq,and_true,Value.slice.injEq] at hv
 obtain⟨rfl,hn,_⟩:=hv
 unfold maxLen at hmax
 refine⟨hn,by omega,fun i x hi=>?_⟩
 obtain⟨b,off,ecs,h1,h2,h3,v,h4,h5,_⟩:=hel i x hi
 obtain⟨a2,c2,rfl⟩:=wds_shape h5
 subst h4
 exact⟨b,off,a2,_,c2,h1,by simpa using h3 0 _ rfl,by simpa using h3 1 _ rfl,h5⟩
theorem zfv {P:Program} {fn:Func} {p q u:Tmp} {ty tz t1 t2:TypeId} (h:fn.results=#[.cell p ty,.cell q tz,.tmp u]) {tmps:Array Value} {w:World} {g k:Nat} {cs ds:Array Value} {d1 d2:TypeDesc} {x:Value}
  (hp:tmps.getD p undef = .pointer (some ⟨g,0,none⟩)) (hq:tmps.getD q undef = .pointer (some ⟨k,0,none⟩)) (hx:tmps.getD u undef=x) (hg:w.heap[g]? = some (.cells cs t1 (0,0))) (hk:w.heap[k]? = some (.cells ds t2 (0,0)))
  (hu:P.underlying ty=some d1) (hd:(match d1 with | .struct _ | .array _ _=>true | _=>false)=true) (hi:(P.info? ty).map (·.size)=some cs.size)
  (hu2:P.underlying tz=some d2) (hd2:(match d2 with | .struct _ | .array _ _=>true | _=>false)=true) (hi2:(P.info? tz).map (·.size)=some ds.size) :
  (results fn tmps).run P w = .ok (.tuple #[.agg cs,.agg ds,x]) w:=by
 have hl:=run_loadVar_row w g t1 ty cs (0,0) d1 hg hu hd hi
 have hl2:=run_loadVar_row w k t2 tz ds (0,0) d2 hk hu2 hd2 hi2
 have hp':tmps[p]?.getD undef = .pointer (some ⟨g,0,none⟩):=by simpa using hp
 have hq':tmps[q]?.getD undef = .pointer (some ⟨k,0,none⟩):=by simpa using hq
 have hx':tmps[u]?.getD undef=x:=by simpa using hx
 simp only[results,h]
 simp[Sem.run_bind,Result.andThen,asAddr,hp',hq',hx',hl,hl2]
def zon (w:World) (r:zq6) (e:Ending) (w':World):Prop:=∃ v,e = .returned (.tuple #[.agg #[v],.agg #[.int .i64 r.at1,.int .i64 r.at2],.int .i64 r.e])∧zj1 w' [v] r.roots∧Below w.heap.size w w'
theorem zmo:Elem Tryz.prog 36 101 (.agg #[.string ⟨#[]⟩,.slice none 0 0,.slice none 0 0,.int .i64 0]) 4 72:=⟨Tryz.underlying36,by kernel_rfl,rfl,by decide⟩
theorem zp8 {l:Ln} {r:List Ln} {out:List Rt} {s:Spc3} {c:Int} (h:zdt l=(some s,c)):zh1 (l :: r) out=zh1 r (out ++ [(s,l.1)]):=by
 show (match zdt l with | (some s,_)=>zh1 r (out ++ [(s,l.1)]) | (none,c)=>⟨[],l.1,c,2⟩)=_
 rw[h]
theorem zp9 {l:Ln} {r:List Ln} {out:List Rt} {c:Int} (h:zdt l=(none,c)):zh1 (l :: r) out=⟨[],l.1,c,2⟩:=by
 show (match zdt l with | (some s,_)=>zh1 r (out ++ [(s,l.1)]) | (none,c)=>⟨[],l.1,c,2⟩)=_
 rw[h]
abbrev WhBox (k:Nat) (x y:Int) (W:World):Prop:=W.heap[k]? = some (.cells #[.int .i64 x,.int .i64 y] 40 (0,0))
abbrev zrq (k:Nat) (v:Value) (W:World):Prop:=W.heap[k]? = some (.cells #[v] 38 (0,0))
theorem zga {k:Nat} {x y:Int} {W:World} (h:WhBox k x y W):W.cell? ⟨k,0,none⟩=some (.int .i64 x)∧W.cell? ⟨k,1,none⟩=some (.int .i64 y)∧W.frozen? ⟨k,0,none⟩=false∧W.frozen? ⟨k,1,none⟩=false:=⟨za4 h 0,za4 h 1,za8 h 0,za8 h 1⟩
theorem zc5 {k:Nat} {v:Value} {W:World} (h:zrq k v W):W.cell? ⟨k,0,none⟩=some v∧W.frozen? ⟨k,0,none⟩=false:=⟨za4 h 0,za8 h 0⟩
theorem zm4 (t:ByteArray) (ht:t.size≤140737488351232) {w:World} (hD:zbi w):Calls Tryz.prog 28 #[.string t] w (zon w (zid t.data.toList)):=by
 have hgood:=LexM.doc_good7 t.data.toList
 have hL:=fun (W:World)=>zmb t (by omega) W
 rw[LexM.lines_eq] at hL
 obtain⟨R,hR⟩ : ∃ R,R=LexM.docLines t.data.toList:=⟨_,rfl⟩
 have hreq:zid t.data.toList=if R.e=0 then zh1 R.lines [] else ⟨[],R.at1,R.at2,R.e⟩:=by unfold zid;rw[hR]
 rw[← hR] at hL hgood
 have hlen:t.data.toList.length=t.size:=Txt.len t
 obtain⟨g,hg⟩ : ∃ g,g=w.heap.size:=⟨_,rfl⟩
 obtain⟨W1,hW1⟩ : ∃ W,W=(w.alloc (.cells #[.slice none 0 0] 38)).alloc (.cells #[.int .i64 0,.int .i64 0] 40):=⟨_,rfl⟩
 have hb1:Below w.heap.size w W1:=by rw[hW1];exact (za2 _ _).alloc (by simp) _
 have p0:zrq g (.slice none 0 0) W1:=by rw[hW1,hg];exact za0 (za2 _ _) (za6 rfl)
 have p1:WhBox (g+1) 0 0 W1:=by rw[hW1,hg];exact za6 (by simp)
 have hs1:W1.heap.size=g+2:=by rw[hW1,hg];simp
 have hwg:w.heap.size≤g:=Nat.le_of_eq hg.symm
 have hL1:=hL W1
 unfold zgu at hL1
 obtain⟨a1,ha1⟩ : ∃ z,z=R.at1:=⟨_,rfl⟩
 obtain⟨a2,ha2⟩ : ∃ z,z=R.at2:=⟨_,rfl⟩
 obtain⟨er,her⟩ : ∃ z,z=R.e:=⟨_,rfl⟩
 obtain⟨ls,hls⟩ : ∃ z,z=R.lines:=⟨_,rfl⟩
 rw[← ha1,← ha2,← her,← hls] at hL1 hreq
 rw[← hls] at hgood
 clear hL
 obtain⟨HD,Hgood,Hreq,HL1,Hb1,Hp0,Hp1,HR,Hlen,Ha1,Ha2,Her,Hls⟩:=hd13 hD hgood hreq hL1 hb1 p0 p1 hR hlen ha1 ha2 her hls;clear hD hgood hreq hL1 hb1 p0 p1 hR hlen ha1 ha2 her hls
 go_enter Tryz.func28,Tryz.ntmps28
 go_upto_region 1 with (fail)
 rw[← hW1,← hg]
 clear hW1 hg
 go_wp2_with fail
 refine HL1.out.mono ?_
 rintro e w2 ⟨v,rfl,hln,hb2⟩
 obtain⟨ad,cp,rfl⟩ : ∃ a c,v = .slice a ls.length c:=by
  obtain⟨a,cap,hv,_⟩:=hln
  simp only[List.cons.injEq,and_true] at hv
  exact⟨a,cap,hv⟩
 obtain⟨n,hn⟩ : ∃ n,n=ls.length:=⟨_,rfl⟩
 rw[← hn] at hln ⊢
 obtain⟨w3,hw3⟩ : ∃ W,W=w2.alloc (.cells #[.int .i64 a1,.int .i64 a2] 40):=⟨_,rfl⟩
 have hb23:Below w2.heap.size w2 w3:=by rw[hw3];exact za2 _ _
 have hb13:=hb2.trans (hb23.mono hb2.size)
 have hb3:=Hb1.out.trans (hb13.mono Hb1.out.size)
 have hs2:g+2≤w2.heap.size:=by have:=hb2.size;omega
 have p6:WhBox w2.heap.size a1 a2 w3:=by rw[hw3];exact heap_alloc_new _ _
 have p0':=za0 hb13 Hp0.out
 have p1':=za0 hb13 Hp1.out
 have hln3:=zlk _ _ _ _ hln hb23
 have hs3:w3.heap.size=w2.heap.size+1:=by rw[hw3];simp
 obtain⟨x0,x1,_,_⟩:=zga p6
 obtain⟨_,f0⟩:=zc5 p0'
 obtain⟨_,_,f1,f2⟩:=zga p1'
 by_cases he:er=0
 ·have k1:(er != 0)=false:=by rw[he];rfl
  have hq:=Hreq.out
  rw[if_pos he] at hq
  obtain⟨q,hqq⟩ : ∃ q,q=w3.heap.size:=⟨_,rfl⟩
  obtain⟨w4,hw4⟩ : ∃ W,W=w3.alloc (.cells #[.slice none 0 0] 38):=⟨_,rfl⟩
  have hI0:RqSt w3 q [] [] (.slice none 0 0) w4:=⟨by rw[hw4,hqq];exact heap_alloc_new _ _,World.ownsRow_nil _ _ _ _,rfl,(fun i cs x h=>by simp at h),by rw[hw4];exact za2 _ _⟩
  have hn1:n≤70001:=by have:=Hgood.out.2;omega
  have hlow:w3.heap.size≤q:=Nat.le_of_eq hqq.symm
  clear x0 x1 f0 f1 f2
  obtain⟨Hln,Hb2,Hb23,Hb13,Hb3,Hp6,Hp0',Hp1',Hln3,Hn,Hq,He,HI0,Hs3⟩:=hd14 hln hb2 hb23 hb13 hb3 p6 p0' p1' hln3 hn hq he hI0 hs3;clear hln hb2 hb23 hb13 hb3 p6 p0' p1' hln3 hn hq he hI0 hs3
  go_upto_region 2 with (fail)
  rw[← hw3]
  clear hw3
  go_upto_region 5 with (fail)
  rw[← hw4,← hqq]
  clear hw4 hqq
  go_wp2_with fail
  go_loopw [26] (fun v wr=>∃ (k:Nat) (rs:List Rt) (css:List (List Value)) (u:Value),k≤n∧v = .int .i64 k∧RqSt w3 q rs css u wr∧rs.length=k∧zid t.data.toList=zh1 (ls.drop k) rs) (fun v _=>n - (RowKit.intOf v).toNat)
  case atStart=>exact⟨0,[],[],_,Nat.zero_le _,rfl,HI0.out,rfl,by rw[List.drop_zero];exact Hq.out⟩
  case round =>
   obtain⟨wo,hwo⟩ : ∃ W,W=wr:=⟨_,rfl⟩
   rw[← hwo] at hrel ⊢
   clear hwo wr
   obtain⟨k,rs,css,u,hk,rfl,hI,hrk,hgo⟩:=hrel
   by_cases hlt:k < n
   ·have hkl:k < ls.length:=by have:=Hn.out;omega
    obtain⟨x,hx⟩ : ∃ x,x=ls[k]:=⟨_,rfl⟩
    obtain⟨-,-,hat⟩:=lns_at Hln3.out
    obtain⟨b,off,a2',n2,c2,rfl,c0,c1,hwd⟩:=hat k x (by rw[hx];exact List.getElem?_eq_getElem hkl)
    clear hat
    have d0:=cell_later hI.bel c0
    have d1:=cell_later hI.bel c1
    obtain⟨ln,hln0⟩ : ∃ z,z=x.1:=⟨_,rfl⟩
    rw[← hln0] at d0
    have hgx0:=Hgood.out.1 x (by rw[hx];exact List.getElem_mem hkl)
    have hgx:zgv 70000 x:=hgx0
    have hdr:ls.drop k=x :: ls.drop (k+1):=by rw[hx];exact List.drop_eq_getElem_cons hkl
    rw[hdr] at hgo
    obtain⟨w5,hw5⟩ : ∃ W,W=wo.alloc (.cells #[.int .i64 ln,.slice a2' n2 c2] 62):=⟨_,rfl⟩
    have hb5:Below wo.heap.size wo w5:=by rw[hw5];exact za2 _ _
    have hb35:=hI.bel.trans (hb5.mono hI.bel.size)
    obtain⟨lb,hlb⟩ : ∃ z,z=wo.heap.size:=⟨_,rfl⟩
    have p10:w5.heap[lb]? = some (.cells #[.int .i64 ln,.slice a2' n2 c2] 62 (0,0)):=by rw[hw5,hlb];exact heap_alloc_new _ _
    have y0:=za4 p10 0
    have y1:=za4 p10 1
    simp only[List.getElem?_toArray,List.getElem?_cons_zero,List.getElem?_cons_succ] at y0 y1
    have hO:=zj8 (zaf zbg _ _ _ _ hwd hb35) (HD.out.below (Hb3.out.trans (hb35.mono Hb3.out.size))) hgx
    rw[← hln0] at hO
    have hlg:g+2 < lb:=by have:=hI.bel.size;have:=Hs3.out;omega
    obtain⟨au,cu,rfl⟩:=zai hI.row
    have k5:(0:Int)≤(k:Int):=by omega
    have k6:(k:Int) < (n:Int):=by omega
    rw[hrk] at hI
    clear c0 c1
    obtain⟨HI,Hrk,Hgo,Hx,Hwd,Hln0,Hgx0,Hgx,Hdr,Hb5,Hb35,Hp10,HO⟩:=hd13 hI hrk hgo hx hwd hln0 hgx0 hgx hdr hb5 hb35 p10 hO;clear hI hrk hgo hx hwd hln0 hgx0 hgx hdr hb5 hb35 p10 hO
    go_upto_region 8 with (fail)
    rw[← hw5,← hlb]
    clear hw5 hlb
    go_wp2_with fail
    refine HO.out.mono ?_
    rintro e w6 ⟨⟨s,col,b1,n1,c1,b2,n2',c2',hw,rfl,hv1,hv2⟩ | ⟨col,hw,hcol,rfl⟩,hb6⟩
    ·rw[← Hln0.out]
     obtain⟨w7,hw7⟩ : ∃ W,W=w6.alloc (.cells #[.string s.1,.slice b1 n1 c1,.slice b2 n2' c2',.int .i64 ln] 101):=⟨_,rfl⟩
     have hb67:Below w6.heap.size w6 w7:=by rw[hw7];exact za2 _ _
     have hb57:=hb6.trans (hb67.mono hb6.size)
     have hb47:=Hb5.out.trans (hb57.mono Hb5.out.size)
     have hI7:=HI.out.to hb47
     obtain⟨tb,htb⟩ : ∃ z,z=w6.heap.size:=⟨_,rfl⟩
     have p11:zj0 tb (.string s.1) (.slice b1 n1 c1) (.slice b2 n2' c2') (.int .i64 ln) w7:=by rw[hw7,htb];exact heap_alloc_new _ _
     obtain⟨⟨u0,u1,u2,u3⟩,_,_,_,_⟩:=zc9 p11
     obtain⟨qc,_⟩:=zc5 hI7.box
     have hv1':=zap hv1 hb67
     have hv2':=zaz hv2 hb67
     have hrow7:=hI7.row
     rw[Hrk.out] at hrow7
     have hbz:w3.heap.size≤w7.heap.size:=hI7.bel.size
     obtain⟨N,hN⟩ : ∃ N,N=css.flatten:=⟨_,rfl⟩
     rw[← hN] at hrow7
     obtain⟨Hw,Hv1,Hv2,Hb6,Hb67,Hb57,Hb47,HI7,Hp11,Hv1',Hv2',Hrow7,HN⟩:=hd13 hw hv1 hv2 hb6 hb67 hb57 hb47 hI7 p11 hv1' hv2' hrow7 hN;clear hw hv1 hv2 hb6 hb67 hb57 hb47 hI7 p11 hv1' hv2' hrow7 hN
     go_upto_region 9 with (fail)
     rw[← hw7,← htb]
     clear hw7 htb
     go_wp2_with (at_builtin;(refine zaw zmo rfl (.tmp 43) (.tmp 45) rfl w3.heap.size (.slice au k cu) k N rfl Hrow7.out 1 #[.string s.1,.slice b1 n1 c1,.slice b2 n2' c2',.int .i64 ln] rfl rfl (by simp[Value.oneCell']) (by omega) (by unfold maxLen;omega) hbz ?_;intro v9 w9 hown9 hg9 hm9;obtain⟨a9,c9,rfl⟩:=zai hown9;have hpu:=HI7.out.push hlow (x:=(s,ln)) Hv1'.out Hv2'.out (by rw[Hrk.out,← HN.out];exact hown9) hg9;obtain⟨qc9,qf9⟩:=zc5 hpu.2;have Hpu:=hd hpu;clear hown9 hg9 hm9 hpu))
     go_roundw
     case rel =>
      refine⟨k+1,rs ++ [(s,ln)],_,_,by omega,by go_num,Hpu.out.1,by rw[List.length_append,Hrk.out];rfl,?_⟩
      rw[Hgo.out,zp8 Hw.out,← Hln0.out]
     case measure=>simp[RowKit.intOf];omega
    have hne:(col != 0)=true:=by simpa using hcol
    obtain⟨w7,hw7⟩ : ∃ W,W=w6.alloc (.cells #[.string ⟨#[]⟩,.slice none 0 0,.slice none 0 0,.int .i64 0] 101):=⟨_,rfl⟩
    have hb67:Below w6.heap.size w6 w7:=by rw[hw7];exact za2 _ _
    have hb57:=hb6.trans (hb67.mono hb6.size)
    have hb47:=Hb5.out.trans (hb57.mono Hb5.out.size)
    have hI7:=HI.out.to hb47
    have z10:=za0 hb57 Hp10.out
    have z0:=za0 hI7.bel Hp0'.out
    have z1:=za0 hI7.bel Hp1'.out
    have hb37:=Hb3.out.trans (hI7.bel.mono Hb3.out.size)
    have t0:=za4 z10 0
    simp only[List.getElem?_toArray,List.getElem?_cons_zero,List.getElem?_cons_succ] at t0
    obtain⟨_,f0⟩:=zc5 z0
    obtain⟨_,_,f1,f2⟩:=zga z1
    have hne1:¬ lb=g:=by omega
    have hne2:¬ lb=g+1:=by omega
    obtain⟨Hw,Hcol,Hb6,Hb67,Hb57,Hb47,HI7,Hz10,Hz0,Hz1,Hb37⟩:=hd11 hw hcol hb6 hb67 hb57 hb47 hI7 z10 z0 z1 hb37;clear hw hcol hb6 hb67 hb57 hb47 hI7 z10 z0 z1 hb37
    go_upto_region 9 with (fail)
    rw[← hw7]
    clear hw7
    go_wp2_with fail
    go_region
    go_wp2_with fail
    have x0:=za3 (b:=g+1) (i:=1) (u:=.int .i64 col) (za3 (b:=g+1) (i:=0) (u:=.int .i64 ln) (heap_setCell_same w7 g 0 _ _ (.slice none 0 0) Hz0.out) (by omega)) (by omega)
    have x1:=heap_setCell_same _ (g+1) 1 _ _ (.int .i64 col) (heap_setCell_same _ (g+1) 0 _ _ (.int .i64 ln) (za3 (b:=g) (i:=0) (u:=.slice none 0 0) Hz1.out (by omega)))
    refine bodyPost_ret (zfv (g:=g) (k:=g+1) rfl rfl rfl rfl x0 x1 Tryz.underlying38 rfl (by kernel_rfl) Tryz.underlying40 rfl (by kernel_rfl)) rfl ?_
    rw[Hgo.out,zp9 Hw.out,← Hln0.out]
    exact⟨_,rfl,⟨none,0,rfl,Nat.le_refl _,Nat.zero_le _,fun i x hi=>by simp at hi⟩,Below.drew (((Hb37.out.setCell (p:=⟨g,0,none⟩) hwg _).setCell (p:=⟨g+1,0,none⟩) (by show w.heap.size≤g+1;omega) _).setCell (p:=⟨g+1,1,none⟩) (by show w.heap.size≤g+1;omega) _)⟩
   obtain rfl:k=n:=by omega
   have hd:ls.drop k = []:=List.drop_eq_nil_of_le (Nat.le_of_eq Hn.out.symm)
   rw[hd] at hgo
   have z0:=za0 hI.bel Hp0'.out
   have z1:=za0 hI.bel Hp1'.out
   obtain⟨qc,_⟩:=zc5 hI.box
   obtain⟨_,f0⟩:=zc5 z0
   obtain⟨_,_,f1,f2⟩:=zga z1
   obtain⟨au,cu,rfl⟩:=zai hI.row
   have hb3o:=Hb3.out.trans (hI.bel.mono Hb3.out.size)
   rw[hrk] at hI qc
   obtain⟨HI,Hrk,Hgo,Hz0,Hz1,Hb3o,Hd⟩:=hd7 hI hrk hgo z0 z1 hb3o hd;clear hI hrk hgo z0 z1 hb3o hd
   go_wp2_with fail
   have x0:=za3 (b:=g+1) (i:=1) (u:=.int .i64 0) (za3 (b:=g+1) (i:=0) (u:=.int .i64 0) (heap_setCell_same wo g 0 _ _ (.slice au k cu) Hz0.out) (by omega)) (by omega)
   have x1:=heap_setCell_same _ (g+1) 1 _ _ (.int .i64 0) (heap_setCell_same _ (g+1) 0 _ _ (.int .i64 0) (za3 (b:=g) (i:=0) (u:=.slice au k cu) Hz1.out (by omega)))
   have hT:Frm (fun z=>z=g∨z=g+1) wo (((wo.setCell ⟨g,0,none⟩ (.slice au k cu)).setCell ⟨g+1,0,none⟩ (.int .i64 0)).setCell ⟨g+1,1,none⟩ (.int .i64 0)) :=
    (((Frm.refl _ wo).setCell (p:=⟨g,0,none⟩) (.inr (.inl rfl)) _).setCell (p:=⟨g+1,0,none⟩) (.inr (.inr rfl)) _).setCell (p:=⟨g+1,1,none⟩) (.inr (.inr rfl)) _
   have hno:No2 wo (fun z=>z=g∨z=g+1):=by
    rintro z (rfl | rfl)
    ·exact zau Hz0.out (by decide) (by decide)
    exact zau Hz1.out (by decide) (by decide)
   have hap:∀ z,(z=g∨z=g+1)→(Value.slice au k cu).ownBlock≠some z:=by
    rintro z (rfl | rfl)
    ·exact zah HI.out.row Hz0.out (by decide)
    exact zah HI.out.row Hz1.out (by decide)
   refine bodyPost_ret (zfv (g:=g) (k:=g+1) rfl rfl rfl rfl x0 x1 Tryz.underlying38 rfl (by kernel_rfl) Tryz.underlying40 rfl (by kernel_rfl)) rfl ?_
   rw[Hgo.out]
   exact⟨_,rfl,HI.out.other hT hno hap,((Hb3o.out.setCell (p:=⟨g,0,none⟩) hwg _).setCell (p:=⟨g+1,0,none⟩) (by show w.heap.size≤g+1;omega) _).setCell (p:=⟨g+1,1,none⟩) (by show w.heap.size≤g+1;omega) _⟩
 have k1:(er != 0)=true:=by simpa using he
 have hq:=Hreq.out
 rw[if_neg he] at hq
 obtain⟨Hln,Hb2,Hb23,Hb13,Hb3,Hp6,Hp0',Hp1',Hln3,Hn,Hq,He⟩:=hd12 hln hb2 hb23 hb13 hb3 p6 p0' p1' hln3 hn hq he;clear hln hb2 hb23 hb13 hb3 p6 p0' p1' hln3 hn hq he
 go_upto_region 2 with (fail)
 rw[← hw3]
 clear hw3
 go_wp2_with fail
 go_region
 go_wp2_with fail
 have x0:=za3 (b:=g+1) (i:=1) (u:=.int .i64 a2) (za3 (b:=g+1) (i:=0) (u:=.int .i64 a1) (heap_setCell_same w3 g 0 _ _ (.slice none 0 0) Hp0'.out) (by omega)) (by omega)
 have x1:=heap_setCell_same _ (g+1) 1 _ _ (.int .i64 a2) (heap_setCell_same _ (g+1) 0 _ _ (.int .i64 a1) (za3 (b:=g) (i:=0) (u:=.slice none 0 0) Hp1'.out (by omega)))
 refine bodyPost_ret (zfv (g:=g) (k:=g+1) rfl rfl rfl rfl x0 x1 Tryz.underlying38 rfl (by kernel_rfl) Tryz.underlying40 rfl (by kernel_rfl)) rfl ?_
 rw[Hq.out]
 exact⟨_,rfl,⟨none,0,rfl,Nat.le_refl _,Nat.zero_le _,fun i x hi=>by simp at hi⟩,Below.drew (((Hb3.out.setCell (p:=⟨g,0,none⟩) hwg _).setCell (p:=⟨g+1,0,none⟩) (by show w.heap.size≤g+1;omega) _).setCell (p:=⟨g+1,1,none⟩) (by show w.heap.size≤g+1;omega) _)⟩
end

section
open Go.Shelf Go.RowKit Go.Lib VerN VarM
open LexM (Wd)
attribute [local go_sem ↓] Go.wp_at_zero Go.wp_at_succ
abbrev pv (a:Option Addr) (n c i:Nat) (fin bad:Int):Value:=.agg #[.slice a n c,.int .i64 i,.int .i64 fin,.int .i64 bad]
abbrev PBox (k:Nat) (a:Option Addr) (n c i:Nat) (fin bad:Int) (W:World):Prop:=W.heap[k]? = some (.cells #[.slice a n c,.int .i64 i,.int .i64 fin,.int .i64 bad] 113 (0,0))
theorem zac {k:Nat} {a:Option Addr} {n c i:Nat} {fin bad:Int} {W:World} (h:PBox k a n c i fin bad W):(W.cell? ⟨k,0,none⟩=some (.slice a n c)∧W.cell? ⟨k,1,none⟩=some (.int .i64 i)∧W.cell? ⟨k,2,none⟩=some (.int .i64 fin)∧W.cell? ⟨k,3,none⟩=some (.int .i64 bad))∧W.frozen? ⟨k,0,none⟩=false∧W.frozen? ⟨k,1,none⟩=false∧W.frozen? ⟨k,2,none⟩=false∧W.frozen? ⟨k,3,none⟩=false :=
 ⟨⟨za4 h 0,za4 h 1,za4 h 2,za4 h 3⟩,za8 h 0,za8 h 1,za8 h 2,za8 h 3⟩
theorem zii (w:World) (a:Option Addr) (n c i:Nat) (fin bad:Int):Calls Tryz.prog 184 #[pv a n c i fin bad] w fun e w'=>e = .returned (.bool (decide (i < n)))∧Below w.heap.size w w':=by
 have k1:decide ((i:Int) < (n:Int))=decide (i < n):=decide_eq_decide.2 (by omega)
 go_enter Tryz.func184,Tryz.ntmps184
 go_wp2_with fail
 go_ret
 exact⟨rfl,za2 _ _⟩
theorem zm5 {w:World} {a:Option Addr} {n c:Nat} {ws:List Wd} (hw:RWds w [.slice a n c] ws) (i:Nat) (fin bad:Int):Calls Tryz.prog 134 #[pv a n c i fin bad] w fun e w'=>e = .returned (.string (zbw ws i))∧Below w.heap.size w w':=by
 obtain⟨hn,hz,hat⟩:=zen hw
 obtain⟨g,hg⟩ : ∃ g,g=w.heap.size:=⟨_,rfl⟩
 obtain⟨W1,hW1⟩ : ∃ W,W=w.alloc (.cells #[.slice a n c,.int .i64 i,.int .i64 fin,.int .i64 bad] 113):=⟨_,rfl⟩
 have hb1:Below w.heap.size w W1:=by rw[hW1];exact za2 _ _
 have p0:PBox g a n c i fin bad W1:=by rw[hW1,hg];exact heap_alloc_new _ _
 obtain⟨⟨c0,c1,c2,c3⟩,_⟩:=zac p0
 have hM:=zii W1 a n c i fin bad
 by_cases hi:i < n
 ·have hi2:i < ws.length:=by omega
  obtain⟨b,off,rfl,_,d1,_⟩:=hat i _ (List.getElem?_eq_getElem hi2)
  rw[zex hi2]
  obtain⟨s,hs⟩ : ∃ s:ByteArray,s=⟨ws[i].2.toArray⟩:=⟨_,rfl⟩
  rw[← hs] at d1 ⊢
  rw[decide_eq_true hi] at hM
  have k5:(0:Int)≤(i:Int):=by omega
  have k6:(i:Int) < (n:Int):=by omega
  clear hs hat
  obtain⟨HM,Hw,Hn,Hb1,Hp0⟩:=hd5 hM hw hn hb1 p0;clear hM hw hn hb1 p0
  go_enter Tryz.func134,Tryz.ntmps134
  go_upto_region 1 with (fail)
  rw[← hW1,← hg]
  clear hW1 hg
  go_wp2_with fail
  refine HM.out.mono ?_
  rintro e w2 ⟨rfl,hb2⟩
  obtain⟨⟨e0,e1,_,_⟩,_⟩:=zac (za0 hb2 Hp0.out)
  have hb3:=Hb1.out.trans (hb2.mono Hb1.out.size)
  have f1:=cell_later hb3 d1
  obtain⟨Hb2,Hb3⟩:=hd2 hb2 hb3;clear hb2 hb3
  go_wp2_with fail
  go_ret
  exact⟨rfl,Hb3.out⟩
 rw[zd9 (by omega)]
 rw[decide_eq_false hi] at hM
 clear hat
 obtain⟨HM,Hw,Hn,Hb1,Hp0⟩:=hd5 hM hw hn hb1 p0;clear hM hw hn hb1 p0
 go_enter Tryz.func134,Tryz.ntmps134
 go_upto_region 1 with (fail)
 rw[← hW1,← hg]
 clear hW1 hg
 go_wp2_with fail
 refine HM.out.mono ?_
 rintro e w2 ⟨rfl,hb2⟩
 have hb3:=Hb1.out.trans (hb2.mono Hb1.out.size)
 obtain⟨Hb2,Hb3⟩:=hd2 hb2 hb3;clear hb2 hb3
 go_wp2_with fail
 go_ret
 exact⟨rfl,Hb3.out⟩
theorem pFail_any {w:World} {a:Option Addr} {n c:Nat} {ws:List Wd} (hw:RWds w [.slice a n c] ws) (i:Nat) (fin:Int):Calls Tryz.prog 141 #[pv a n c i fin 0] w fun e w'=>e = .returned (pv a n c i fin (zb2 ws fin i))∧Below w.heap.size w w':=by
 obtain⟨hn,hz,hat⟩:=zen hw
 obtain⟨g,hg⟩ : ∃ g,g=w.heap.size:=⟨_,rfl⟩
 obtain⟨W1,hW1⟩ : ∃ W,W=(w.alloc (.cells #[.slice a n c,.int .i64 i,.int .i64 fin,.int .i64 0] 113)).alloc (.cells #[.slice none 0 0,.int .i64 0,.int .i64 0,.int .i64 0] 113):=⟨_,rfl⟩
 have hb1:Below w.heap.size w W1:=by rw[hW1];exact (za2 _ _).alloc (by simp) _
 have p0:PBox g a n c i fin 0 W1:=by rw[hW1,hg];exact za0 (za2 _ _) (za6 rfl)
 have p1:PBox (g+1) none 0 0 0 0 0 W1:=by rw[hW1,hg];exact za6 (by simp)
 have hwg:w.heap.size≤g:=Nat.le_of_eq hg.symm
 obtain⟨⟨c0,c1,c2,c3⟩,_,_,_,q3⟩:=zac p0
 obtain⟨W2,hW2⟩ : ∃ W,W=W1.setCell ⟨g,3,none⟩ (.int .i64 fin):=⟨_,rfl⟩
 have p2:PBox g a n c i fin fin W2:=by rw[hW2];exact heap_setCell_same W1 g 3 _ _ _ p0
 have p3:PBox (g+1) none 0 0 0 0 0 W2:=by rw[hW2];exact za3 p1 (by omega)
 have hb2:Below w.heap.size w W2:=by rw[hW2];exact hb1.setCell (p:=⟨g,3,none⟩) hwg _
 obtain⟨⟨d0,d1,d2,d3⟩,_⟩:=zac p2
 have hM:=zii W2 a n c i fin fin
 have fin_:∀ (W:World) (x:Int),PBox g a n c i fin x W→PBox (g+1) none 0 0 0 0 0 W→Below w.heap.size w W→PBox (g+1) a n c i fin x ((((W.setCell ⟨g+1,0,none⟩ (.slice a n c)).setCell ⟨g+1,1,none⟩ (.int .i64 i)).setCell ⟨g+1,2,none⟩ (.int .i64 fin)).setCell ⟨g+1,3,none⟩ (.int .i64 x))∧Below w.heap.size w ((((W.setCell ⟨g+1,0,none⟩ (.slice a n c)).setCell ⟨g+1,1,none⟩ (.int .i64 i)).setCell ⟨g+1,2,none⟩ (.int .i64 fin)).setCell ⟨g+1,3,none⟩ (.int .i64 x)):=fun W x _ h1 hb=>by
  have k0:=heap_setCell_same W (g+1) 0 _ _ (.slice a n c) h1
  have k1:=heap_setCell_same _ (g+1) 1 _ _ (.int .i64 (i:Int)) k0
  have k2:=heap_setCell_same _ (g+1) 2 _ _ (.int .i64 fin) k1
  have k3:=heap_setCell_same _ (g+1) 3 _ _ (.int .i64 x) k2
  exact⟨k3,(((hb.setCell (p:=⟨g+1,0,none⟩) (by show w.heap.size≤g+1;omega) _).setCell (p:=⟨g+1,1,none⟩) (by show w.heap.size≤g+1;omega) _).setCell (p:=⟨g+1,2,none⟩) (by show w.heap.size≤g+1;omega) _).setCell (p:=⟨g+1,3,none⟩) (by show w.heap.size≤g+1;omega) _⟩
 by_cases hi:i < n
 ·have hi2:i < ws.length:=by omega
  obtain⟨b,off,rfl,e0,_,_⟩:=hat i _ (List.getElem?_eq_getElem hi2)
  rw[zl7 hi2]
  obtain⟨s,hs⟩ : ∃ s,s=ws[i].1:=⟨_,rfl⟩
  rw[← hs] at e0 ⊢
  rw[decide_eq_true hi] at hM
  have k5:(0:Int)≤(i:Int):=by omega
  have k6:(i:Int) < (n:Int):=by omega
  clear hs hat
  obtain⟨HM,Hw,Hn,Hb1,Hp0,Hp1,Hp2,Hp3,Hb2,Hfin_⟩:=hd10 hM hw hn hb1 p0 p1 p2 p3 hb2 fin_;clear hM hw hn hb1 p0 p1 p2 p3 hb2 fin_
  go_enter Tryz.func141,Tryz.ntmps141
  go_upto_region 1 with (fail)
  rw[← hW1,← hg]
  clear hW1 hg
  go_upto_region 4 with (fail)
  rw[← hW2]
  clear hW2 c0 c1 c2 c3 q3
  go_wp2_with fail
  refine HM.out.mono ?_
  rintro e w2 ⟨rfl,hb3⟩
  have x0:=za0 hb3 Hp2.out
  have x1:=za0 hb3 Hp3.out
  obtain⟨⟨r0,r1,r2,r3⟩,_,_,_,z3⟩:=zac x0
  obtain⟨_,f0,f1,f2,f3⟩:=zac x1
  have hb4:=Hb2.out.trans (hb3.mono Hb2.out.size)
  have e1:=cell_later hb4 e0
  obtain⟨Hb3,Hb4,Hx0,Hx1⟩:=hd4 hb3 hb4 x0 x1;clear hb3 hb4 x0 x1
  go_wp2_with fail
  have hf:=Hfin_.out _ s (heap_setCell_same w2 g 3 _ _ (.int .i64 s) Hx0.out) (za3 (b:=g) (i:=3) (u:=.int .i64 s) Hx1.out (by omega)) (Hb4.out.setCell (p:=⟨g,3,none⟩) hwg _)
  exact bodyPost_ret (results_cell_row rfl _ _ _ _ _ _ _ rfl hf.1 Tryz.underlying113 rfl (by kernel_rfl)) rfl ⟨rfl,hf.2⟩
 rw[zpw (by omega)]
 rw[decide_eq_false hi] at hM
 clear hat
 obtain⟨HM,Hw,Hn,Hb1,Hp0,Hp1,Hp2,Hp3,Hb2,Hfin_⟩:=hd10 hM hw hn hb1 p0 p1 p2 p3 hb2 fin_;clear hM hw hn hb1 p0 p1 p2 p3 hb2 fin_
 go_enter Tryz.func141,Tryz.ntmps141
 go_upto_region 1 with (fail)
 rw[← hW1,← hg]
 clear hW1 hg
 go_upto_region 4 with (fail)
 rw[← hW2]
 clear hW2 c0 c1 c2 c3 q3
 go_wp2_with fail
 refine HM.out.mono ?_
 rintro e w2 ⟨rfl,hb3⟩
 have x0:=za0 hb3 Hp2.out
 have x1:=za0 hb3 Hp3.out
 obtain⟨⟨r0,r1,r2,r3⟩,_,_,_,z3⟩:=zac x0
 obtain⟨_,f0,f1,f2,f3⟩:=zac x1
 have hb4:=Hb2.out.trans (hb3.mono Hb2.out.size)
 obtain⟨Hb3,Hb4,Hx0,Hx1⟩:=hd4 hb3 hb4 x0 x1;clear hb3 hb4 x0 x1
 go_wp2_with fail
 have hf:=Hfin_.out _ fin Hx0.out Hx1.out Hb4.out
 exact bodyPost_ret (results_cell_row rfl _ _ _ _ _ _ _ rfl hf.1 Tryz.underlying113 rfl (by kernel_rfl)) rfl ⟨rfl,hf.2⟩
end

section
open Go.Shelf Go.RowKit Go.Lib VerN VarM
open LexM (Wd)
attribute [local go_sem ↓] Go.wp_at_zero Go.wp_at_succ
theorem zgo (l:List UInt8) (c:UInt8):indexByte l c = -1∨∃ k:Nat,indexByte l c=k:=by
 have h:=indexByte_ge l c
 by_cases h1:indexByte l c < 0
 ·exact .inl (by omega)
 exact .inr ⟨(indexByte l c).toNat,by omega⟩
theorem idx_is {l:List UInt8} {c:UInt8} {k:Nat} (h:l[k]? = some c) (hn:∀ j,j < k→l[j]?≠some c):indexByte l c=k:=by
 rcases zgo l c with e | ⟨o,e⟩
 ·exact absurd h (indexByte_none e k)
 obtain⟨h1,h2⟩:=indexByte_some e
 rw[e]
 rcases Nat.lt_trichotomy o k with hk | hk | hk
 ·exact absurd h1 (hn o hk)
 ·rw[hk]
 exact absurd h (h2 k hk)
theorem idx_no {l:List UInt8} {c:UInt8} (h:∀ j,j < l.length→l[j]?≠some c):indexByte l c = -1:=by
 rcases zgo l c with e | ⟨o,e⟩
 ·exact e
 obtain⟨h1,_⟩:=indexByte_some e
 exact absurd h1 (h o (List.getElem?_eq_some_iff.1 h1).1)
theorem cutB_no {s:ByteArray} {c:UInt8} (h:indexByte s.data.toList c = -1):hasB c s=false∧(cutB c s).1=s∧(cutB c s).2.2=false:=by
 have e:cut s.data.toList [c]=(s.data.toList,[],false):=by
  unfold cut
  rw[index_one,h,if_neg (by omega)]
 refine⟨by unfold hasB;rw[h];rfl,?_,?_⟩
 ·unfold cutB
  rw[e]
 unfold cutB
 rw[e]
theorem zpt {s:ByteArray} {c:UInt8} {k:Nat} (h:indexByte s.data.toList c=k):hasB c s=true∧cutB c s=(s.extract 0 k,s.extract (k+1) s.size,true)∧k+1≤s.size:=by
 obtain⟨h1,_⟩:=indexByte_some h
 have hk:=(List.getElem?_eq_some_iff.1 h1).1
 rw[Txt.len] at hk
 have e:cut s.data.toList [c]=(s.data.toList.take k,s.data.toList.drop (k+1),true):=by
  unfold cut
  rw[index_one,h,if_pos (by omega)]
  rfl
 refine⟨by unfold hasB;rw[h];exact decide_eq_true (by omega),?_,hk⟩
 unfold cutB
 rw[e]
 refine Prod.ext (Txt.ext ?_) (Prod.ext (Txt.ext ?_) rfl)
 ·rw[Lib.extract_data]
  simp
 show s.data.toList.drop (k+1)=(s.extract (k+1) s.size).data.toList
 rw[Lib.extract_data,List.take_of_length_le (by rw[List.length_drop,Txt.len];exact Nat.le_refl _)]
theorem zq2 (s:ByteArray) (hs:s.size≤70000) (c:UInt8) (w:World):Calls Tryz.prog 136 #[.string s,.int .u8 c.toNat] w fun e w'=>e = .returned (.int .i64 (indexByte s.data.toList c))∧w'=w:=by
 obtain⟨l,hl⟩ : ∃ l,l=s.data.toList:=⟨_,rfl⟩
 have hln:l.length=s.size:=by rw[hl];exact Txt.len s
 obtain⟨r,hr⟩ : ∃ r,r=indexByte l c:=⟨_,rfl⟩
 rw[← hl,← hr]
 obtain⟨Hl,Hr,Hln⟩:=hd3 hl hr hln;clear hl hr hln
 go_enter Tryz.func136,Tryz.ntmps136
 go_wp2_with fail
 go_loopw [5] (fun v wr=>∃ k:Nat,k≤s.size∧v = .int .i64 k∧(∀ j,j < k→l[j]?≠some c)∧wr=w) (fun v _=>s.size - (RowKit.intOf v).toNat)
 case atStart=>exact⟨0,Nat.zero_le _,rfl,fun j h=>by omega,rfl⟩
 case round =>
  obtain⟨k,hk,rfl,hno,rfl⟩:=hrel
  by_cases hlt:k < s.size
  ·have hkl:k < l.length:=by rw[Hln.out];exact hlt
   have hbs:s[k]'hlt=l[k]:=by have:=Hl.out;subst this;rfl
   have k5:(0:Int)≤(k:Int):=by omega
   have k6:(k:Int) < (s.size:Int):=by omega
   by_cases hc:l[k]=c
   ·have hf:r=k:=by rw[Hr.out];exact idx_is (by rw[List.getElem?_eq_getElem hkl,hc]) hno
    have k7:(((s[k]'hlt).toNat:Int) == (c.toNat:Int))=true:=by rw[hbs,hc];simp
    obtain⟨Hno,Hf,Hbs,Hc⟩:=hd4 hno hf hbs hc;clear hno hf hbs hc
    go_wp2_with fail
    go_ret
    exact⟨by rw[Hf.out];rfl,rfl⟩
   have k7:(((s[k]'hlt).toNat:Int) == (c.toNat:Int))=false:=by
    rw[hbs,beq_eq_false_iff_ne]
    intro e
    exact hc (UInt8.toNat_inj.1 (by omega))
   have hnx:∀ j,j < k+1→l[j]?≠some c:=fun j hj=>by
    by_cases e:j=k
    ·subst e;rw[List.getElem?_eq_getElem hkl];intro h;exact hc (Option.some.inj h)
    exact hno j (by omega)
   obtain⟨Hno,Hnx,Hbs,Hc⟩:=hd4 hno hnx hbs hc;clear hno hnx hbs hc
   go_wp2_with fail
   go_roundw
   case rel=>exact⟨k+1,by omega,by go_num,Hnx.out,by first | rfl | trivial⟩
   case measure=>simp[RowKit.intOf];omega
  obtain rfl:k=s.size:=by omega
  have hf:r = -1:=by rw[Hr.out];exact idx_no (by rw[Hln.out];exact hno)
  obtain⟨Hno,Hf⟩:=hd2 hno hf;clear hno hf
  go_wp2_with fail
  go_ret
  exact⟨by rw[Hf.out];rfl,rfl⟩
theorem all06_any (w:World):Calls Tryz.prog 135 #[] w fun e w'=>e = .returned (.slice (some ⟨w.heap.size,0,none⟩) 1 1)∧w'=w.alloc (.cells #[.string ⟨#[]⟩,.string ⟨#[]⟩] 34):=by
 go_enter Tryz.func135,Tryz.ntmps135
 go_wp2_with fail
 go_ret
 exact⟨rfl,rfl⟩
theorem zjp {w W:World} {g:Nat} {a:Option Addr} {n c i:Nat} {fin x:Int} (hwg:w.heap.size≤g) (h1:PBox (g+1) none 0 0 0 0 0 W) (hb:Below w.heap.size w W):PBox (g+1) a n c i fin x ((((W.setCell ⟨g+1,0,none⟩ (.slice a n c)).setCell ⟨g+1,1,none⟩ (.int .i64 i)).setCell ⟨g+1,2,none⟩ (.int .i64 fin)).setCell ⟨g+1,3,none⟩ (.int .i64 x))∧Below w.heap.size w ((((W.setCell ⟨g+1,0,none⟩ (.slice a n c)).setCell ⟨g+1,1,none⟩ (.int .i64 i)).setCell ⟨g+1,2,none⟩ (.int .i64 fin)).setCell ⟨g+1,3,none⟩ (.int .i64 x)):=by
 have k0:=heap_setCell_same W (g+1) 0 _ _ (.slice a n c) h1
 have k1:=heap_setCell_same _ (g+1) 1 _ _ (.int .i64 (i:Int)) k0
 have k2:=heap_setCell_same _ (g+1) 2 _ _ (.int .i64 fin) k1
 have k3:=heap_setCell_same _ (g+1) 3 _ _ (.int .i64 x) k2
 exact⟨k3,(((hb.setCell (p:=⟨g+1,0,none⟩) (by show w.heap.size≤g+1;omega) _).setCell (p:=⟨g+1,1,none⟩) (by show w.heap.size≤g+1;omega) _).setCell (p:=⟨g+1,2,none⟩) (by show w.heap.size≤g+1;omega) _).setCell (p:=⟨g+1,3,none⟩) (by show w.heap.size≤g+1;omega) _⟩
theorem zm6 {w:World} {a:Option Addr} {n c:Nat} {ws:List Wd} (hw:RWds w [.slice a n c] ws) (hn1:n≤1000) (i:Nat) (fin:Int) (b:Bool):Calls Tryz.prog 138 #[pv a n c i fin 0,.bool b] w fun e w'=>((b=true∧i < n∧e = .returned (pv a n c (i+1) fin 0))∨((b=false∨n≤i)∧e = .returned (pv a n c i fin (zb2 ws fin i))))∧Below w.heap.size w w':=by
 obtain⟨g,hg⟩ : ∃ g,g=w.heap.size:=⟨_,rfl⟩
 obtain⟨W1,hW1⟩ : ∃ W,W=(w.alloc (.cells #[.slice a n c,.int .i64 i,.int .i64 fin,.int .i64 0] 113)).alloc (.cells #[.slice none 0 0,.int .i64 0,.int .i64 0,.int .i64 0] 113):=⟨_,rfl⟩
 have hb1:Below w.heap.size w W1:=by rw[hW1];exact (za2 _ _).alloc (by simp) _
 have p0:PBox g a n c i fin 0 W1:=by rw[hW1,hg];exact za0 (za2 _ _) (za6 rfl)
 have p1:PBox (g+1) none 0 0 0 0 0 W1:=by rw[hW1,hg];exact za6 (by simp)
 have hwg:w.heap.size≤g:=Nat.le_of_eq hg.symm
 obtain⟨⟨c0,c1,c2,c3⟩,_⟩:=zac p0
 have hM:=zii W1 a n c i fin 0
 have hF:=fun (W:World) (k:Below W1.heap.size W1 W)=>pFail_any (zaf zbg _ _ _ _ hw (hb1.trans (k.mono hb1.size))) i fin
 obtain⟨col,hcl⟩ : ∃ z,z=zb2 ws fin i:=⟨_,rfl⟩
 rw[← hcl] at hF ⊢
 cases b with
 | false =>
  obtain⟨HM,HF,Hw,Hb1,Hp0,Hp1,Hcl⟩:=hd7 hM hF hw hb1 p0 p1 hcl;clear hM hF hw hb1 p0 p1 hcl
  go_enter Tryz.func138,Tryz.ntmps138
  go_upto_region 1 with (fail)
  rw[← hW1,← hg]
  clear hW1 hg
  go_wp2_with fail
  refine (HF.out _ (Below.refl _ _)).mono ?_
  rintro e w2 ⟨rfl,hb2⟩
  have x1:=za0 hb2 Hp1.out
  obtain⟨_,f0,f1,f2,f3⟩:=zac x1
  have hb4:=Hb1.out.trans (hb2.mono Hb1.out.size)
  obtain⟨Hb2,Hb4,Hx1⟩:=hd3 hb2 hb4 x1;clear hb2 hb4 x1
  go_wp2_with fail
  have hf:=zjp (a:=a) (n:=n) (c:=c) (i:=i) (fin:=fin) (x:=col) hwg Hx1.out Hb4.out
  exact bodyPost_ret (results_cell_row rfl _ _ _ _ _ _ _ rfl hf.1 Tryz.underlying113 rfl (by kernel_rfl)) rfl ⟨.inr ⟨.inl (by first | rfl | trivial),rfl⟩,hf.2⟩
 | true =>
  by_cases hi:i < n
  ·rw[decide_eq_true hi] at hM
   obtain⟨HM,HF,Hw,Hb1,Hp0,Hp1,Hcl⟩:=hd7 hM hF hw hb1 p0 p1 hcl;clear hM hF hw hb1 p0 p1 hcl
   go_enter Tryz.func138,Tryz.ntmps138
   go_upto_region 1 with (fail)
   rw[← hW1,← hg]
   clear hW1 hg
   go_wp2_with fail
   refine HM.out.mono ?_
   rintro e w2 ⟨rfl,hb2⟩
   have x0:=za0 hb2 Hp0.out
   have x1:=za0 hb2 Hp1.out
   obtain⟨⟨r0,r1,r2,r3⟩,_,q1,_,_⟩:=zac x0
   obtain⟨_,f0,f1,f2,f3⟩:=zac x1
   have hb4:=Hb1.out.trans (hb2.mono Hb1.out.size)
   obtain⟨Hb2,Hb4,Hx0,Hx1⟩:=hd4 hb2 hb4 x0 x1;clear hb2 hb4 x0 x1
   go_wp2_with fail
   have hf:=zjp (a:=a) (n:=n) (c:=c) (i:=i+1) (fin:=fin) (x:=0) hwg (za3 (b:=g) (i:=1) (u:=.int .i64 ((i:Int)+1)) Hx1.out (by omega)) (Hb4.out.setCell (p:=⟨g,1,none⟩) hwg _)
   exact bodyPost_ret (results_cell_row rfl _ _ _ _ _ _ _ rfl hf.1 Tryz.underlying113 rfl (by kernel_rfl)) rfl ⟨.inl ⟨by first | rfl | trivial,hi,rfl⟩,hf.2⟩
  rw[decide_eq_false hi] at hM
  obtain⟨HM,HF,Hw,Hb1,Hp0,Hp1,Hcl⟩:=hd7 hM hF hw hb1 p0 p1 hcl;clear hM hF hw hb1 p0 p1 hcl
  go_enter Tryz.func138,Tryz.ntmps138
  go_upto_region 1 with (fail)
  rw[← hW1,← hg]
  clear hW1 hg
  go_wp2_with fail
  refine HM.out.mono ?_
  rintro e w2 ⟨rfl,hb2⟩
  obtain⟨⟨r0,r1,r2,r3⟩,_⟩:=zac (za0 hb2 Hp0.out)
  have Hb2:=hd hb2;clear hb2
  go_wp2_with fail
  refine (HF.out _ Hb2.out).mono ?_
  rintro e w3 ⟨rfl,hb3⟩
  have hb13:=Hb2.out.trans (hb3.mono Hb2.out.size)
  have x1:=za0 hb13 Hp1.out
  obtain⟨_,f0,f1,f2,f3⟩:=zac x1
  have hb4:=Hb1.out.trans (hb13.mono Hb1.out.size)
  obtain⟨Hb3,Hb13,Hb4,Hx1⟩:=hd4 hb3 hb13 hb4 x1;clear hb3 hb13 hb4 x1
  go_wp2_with fail
  have hf:=zjp (a:=a) (n:=n) (c:=c) (i:=i) (fin:=fin) (x:=col) hwg Hx1.out Hb4.out
  exact bodyPost_ret (results_cell_row rfl _ _ _ _ _ _ _ rfl hf.1 Tryz.underlying113 rfl (by kernel_rfl)) rfl ⟨.inr ⟨.inr (by omega),rfl⟩,hf.2⟩
end

section
open Go.Shelf Go.RowKit Go.Lib VerN VarM
open LexM (Wd)
attribute [local go_sem ↓] Go.wp_at_zero Go.wp_at_succ
def Sets06 (a:Option Addr) (n c:Nat) (fin:Int) (ws:List Wd) (i:Nat) (w:World) (e:Ending) (w':World):Prop :=
 ∃ b m d i' bad,e = .returned (.tuple #[.slice b m d,pv a n c i' fin bad])∧((∃ l,zbf ws i []=(some l,i')∧bad=0∧zbj w' (.slice b m d) l)∨(∃ j,zbf ws i []=(none,j)∧bad=zb2 ws fin j))∧Below w.heap.size w w'
structure St6 (w:World) (g:Nat) (a:Option Addr) (n c:Nat) (fin:Int) (ws:List Wd) (i k:Nat) (out:List Setg) (bad:Int) (v:Value) (W:World):Prop where
 box:PBox g a n c (i+k) fin bad W
 box1:PBox (g+1) none 0 0 0 0 0 W
 row:W.ownsRow (g+2) 109 2 v out.length (out.flatMap setCells)
 bel:Below w.heap.size w W
 sz:∀ x∈out,x.1.size≤70000∧x.2.size≤70000
 st:(bad=0∧out.length=k∧zbf ws i []=zbf ws (i+k) out)∨(bad≠0∧∃ j,zbf ws i []=(none,j)∧bad=zb2 ws fin j)
def mOf (g n:Nat) (W:World):Nat:=(match W.cell? ⟨g,1,none⟩ with | some u=>n - (RowKit.intOf u).toNat | none=>0) * 2+(match W.cell? ⟨g,3,none⟩ with | some u=>if RowKit.intOf u=0 then 1 else 0 | none=>0)
theorem zil {g n i:Nat} {a:Option Addr} {m c:Nat} {fin bad:Int} {W:World} (h:PBox g a m c i fin bad W):mOf g n W=(n - i) * 2+if bad=0 then 1 else 0:=by
 obtain⟨⟨_,c1,_,c3⟩,_⟩:=zac h
 unfold mOf
 rw[c1,c3]
 by_cases hb:bad=0 <;> simp[RowKit.intOf,hb]
theorem zh0 {P:Program} {fn:Func} {p u:Tmp} {ty t:TypeId} (h:fn.results=#[.tmp u,.cell p ty]) {tmps:Array Value} {w:World} {g:Nat} {cs:Array Value} {d:TypeDesc} {x:Value}
  (hx:tmps.getD u undef=x) (hp:tmps.getD p undef = .pointer (some ⟨g,0,none⟩)) (hg:w.heap[g]? = some (.cells cs t (0,0)))
  (hu:P.underlying ty=some d) (hd:(match d with | .struct _ | .array _ _=>true | _=>false)=true) (hi:(P.info? ty).map (·.size)=some cs.size) :
  (results fn tmps).run P w = .ok (.tuple #[x,.agg cs]) w:=by
 have hl:=run_loadVar_row w g t ty cs (0,0) d hg hu hd hi
 have hp':tmps[p]?.getD undef = .pointer (some ⟨g,0,none⟩):=by simpa using hp
 have hx':tmps[u]?.getD undef=x:=by simpa using hx
 simp only[results,h]
 simp[Sem.run_bind,Result.andThen,asAddr,hp',hx',hl]
theorem St6.to {w W W':World} {g:Nat} {a:Option Addr} {n c:Nat} {fin:Int} {ws:List Wd} {i k:Nat} {out:List Setg} {bad:Int} {v:Value} (h:St6 w g a n c fin ws i k out bad v W) (hb:Below W.heap.size W W'):St6 w g a n c fin ws i k out bad v W' :=
 ⟨za0 hb h.box,za0 hb h.box1,zae h.row hb,h.bel.trans (hb.mono h.bel.size),h.sz,h.st⟩
theorem St6.reads {w W:World} {g:Nat} {a:Option Addr} {n c:Nat} {fin:Int} {ws:List Wd} {i k:Nat} {out:List Setg} {bad:Int} {v:Value} (h:St6 w g a n c fin ws i k out bad v W):zbj W v out :=
 ⟨zfe (B:=g+2) (fun x hx=>by have:=h.sz x hx;unfold maxLen;omega) h.row,fun _=>zgb h.row⟩
theorem St6.push {w W w8:World} {g:Nat} {a:Option Addr} {n c:Nat} {fin:Int} {ws:List Wd} {i k:Nat} {out:List Setg} {bad:Int} {v v8:Value} (h:St6 w g a n c fin ws i k out bad v W) (hwg:w.heap.size≤g) {x:Setg} (hx:x.1.size≤70000∧x.2.size≤70000) (hg:W.grownBy w8 v.ownBlock)
  (ho:w8.ownsRow (g+2) 109 2 v8 (out.length+1) (out.flatMap setCells ++ [.string x.1,.string x.2])) :
  PBox g a n c (i+k) fin bad w8∧PBox (g+1) none 0 0 0 0 0 w8∧Below w.heap.size w w8∧zbj w8 v8 (out ++ [x])∧(∀ y∈out ++ [x],y.1.size≤70000∧y.2.size≤70000)∧w8.ownsRow (g+2) 109 2 v8 (out ++ [x]).length ((out ++ [x]).flatMap setCells):=by
 have f1:Frm (fun k=>v.ownBlock=some k) W w8:=zdz hg
 have hsz:∀ y∈out ++ [x],y.1.size≤70000∧y.2.size≤70000:=fun y hy=>by
  rcases List.mem_append.1 hy with hy | hy
  ·exact h.sz y hy
  rw[List.mem_singleton] at hy;rw[hy];exact hx
 have ho2:w8.ownsRow (g+2) 109 2 v8 (out ++ [x]).length ((out ++ [x]).flatMap setCells):=by
  rw[List.length_append,zi7]
  exact ho
 exact⟨zbc h.box f1 (zah h.row h.box (by decide)),zbc h.box1 f1 (zah h.row h.box1 (by decide)),h.bel.trans (f1.below h.bel.size (fun k hk=>by have:=(h.row.lt k hk).1;omega)),
  ⟨zfe (B:=g+2) (fun y hy=>by have:=hsz y hy;unfold maxLen;omega) ho2,fun _=>zgb ho2⟩,hsz,ho2⟩
theorem pset {W:World} {g:Nat} {a a':Option Addr} {n n' c c' i i':Nat} {fin fin' x x':Int} (h:PBox g a n c i fin x W):PBox g a' n' c' i' fin' x' ((((W.setCell ⟨g,0,none⟩ (.slice a' n' c')).setCell ⟨g,1,none⟩ (.int .i64 i')).setCell ⟨g,2,none⟩ (.int .i64 fin')).setCell ⟨g,3,none⟩ (.int .i64 x')):=by
 have k0:=heap_setCell_same W g 0 _ _ (.slice a' n' c') h
 have k1:=heap_setCell_same _ g 1 _ _ (.int .i64 (i':Int)) k0
 have k2:=heap_setCell_same _ g 2 _ _ (.int .i64 fin') k1
 have k3:=heap_setCell_same _ g 3 _ _ (.int .i64 x') k2
 exact k3
theorem St6.back {w W:World} {g:Nat} {a:Option Addr} {n c m:Nat} {fin:Int} {ws:List Wd} {i k:Nat} {out:List Setg} {bad:Int} {v:Value} (hwg:w.heap.size≤g) (h0:PBox g a n c m fin 0 W) (h1:PBox (g+1) none 0 0 0 0 0 W) (hb:Below w.heap.size w W) (hsz:∀ y∈out,y.1.size≤70000∧y.2.size≤70000) (ho:W.ownsRow (g+2) 109 2 v out.length (out.flatMap setCells))
  (hst:(bad=0∧out.length=k∧zbf ws i []=zbf ws (i+k) out)∨(bad≠0∧∃ j,zbf ws i []=(none,j)∧bad=zb2 ws fin j)) {p:Nat} (hp:p=i+k) :
  St6 w g a n c fin ws i k out bad v ((((W.setCell ⟨g,0,none⟩ (.slice a n c)).setCell ⟨g,1,none⟩ (.int .i64 p)).setCell ⟨g,2,none⟩ (.int .i64 fin)).setCell ⟨g,3,none⟩ (.int .i64 bad)):=by
 subst hp
 have hg2:g < g+2:=by omega
 exact⟨pset h0,za3 (za3 (za3 (za3 h1 (by omega)) (by omega)) (by omega)) (by omega),zcq (zcq (zcq (zcq ho hg2 0 _) hg2 1 _) hg2 2 _) hg2 3 _,
  (((hb.setCell (p:=⟨g,0,none⟩) hwg _).setCell (p:=⟨g,1,none⟩) hwg _).setCell (p:=⟨g,2,none⟩) hwg _).setCell (p:=⟨g,3,none⟩) hwg _,hsz,hst⟩
theorem lit_sets {w:World} {B:Nat} (h:B≤w.heap.size):(w.alloc (.cells #[] 109)).ownsRow B 109 2 (.slice (some ⟨w.heap.size,0,none⟩) 0 0) 0 []:=World.ownsRow_lit (base:=B) (e:=109) (size:=2) w #[] 0 h (by decide) rfl
theorem zj7 {w:World} {a:Option Addr} {n c:Nat} {ws:List Wd} (hw:RWds w [.slice a n c] ws) (hn1:n≤1000) (hz:∀ x∈ws,x.2.length≤70000) {fin:Int} (hcol:∀ j,zb2 ws fin j≠0) (i:Nat):Calls Tryz.prog 140 #[pv a n c i fin 0] w (Sets06 a n c fin ws i w):=by
 have hn:=(zen hw).1
 obtain⟨g,hg⟩ : ∃ g,g=w.heap.size:=⟨_,rfl⟩
 obtain⟨W0,hW0⟩ : ∃ W,W=(w.alloc (.cells #[.slice a n c,.int .i64 i,.int .i64 fin,.int .i64 0] 113)).alloc (.cells #[.slice none 0 0,.int .i64 0,.int .i64 0,.int .i64 0] 113):=⟨_,rfl⟩
 have hb0:Below w.heap.size w W0:=by rw[hW0];exact (za2 _ _).alloc (by simp) _
 have hs0:W0.heap.size=g+2:=by rw[hW0,hg];simp
 have hI0:St6 w g a n c fin ws i 0 [] 0 (.slice (some ⟨g+2,0,none⟩) 0 0) (W0.alloc (.cells #[] 109)):=by
  refine⟨za0 (za2 _ _) ?_,za0 (za2 _ _) ?_,?_,hb0.alloc hb0.size _,(fun x hx=>by simp at hx),.inl ⟨rfl,rfl,rfl⟩⟩
  ·rw[hW0,hg];exact za0 (za2 _ _) (za6 rfl)
  ·rw[hW0,hg];exact za6 (by simp)
  have:=lit_sets (B:=g+2) (Nat.le_of_eq hs0.symm)
  rw[hs0] at this
  exact this
 have hwg:w.heap.size≤g:=Nat.le_of_eq hg.symm
 have hpk:∀ i,(zbw ws i).size≤70000:=fun i=>by
  by_cases h:i < ws.length
  ·rw[zex h]
   show (ws[i].2.toArray).size≤_
   rw[List.size_toArray]
   exact hz _ (List.getElem_mem h)
  rw[zd9 (by omega)]
  decide
 obtain⟨Hw,Hz,Hcol,Hn,Hb0,HI0,Hpk⟩:=hd7 hw hz hcol hn hb0 hI0 hpk;clear hw hz hcol hn hb0 hI0 hpk
 go_enter Tryz.func140,Tryz.ntmps140
 go_upto_region 1 with (fail)
 rw[← hW0,← hg]
 clear hW0 hg
 go_wp2_with fail
 go_loopw [4] (fun v wr=>∃ (k:Nat) (out:List Setg) (bad:Int),St6 w g a n c fin ws i k out bad v wr) (fun _ wr=>mOf g n wr)
 case atStart=>first | exact⟨0,[],0,HI0.out⟩ | (rw[hs0];exact⟨0,[],0,HI0.out⟩)
 case round =>
  obtain⟨wo,hwo⟩ : ∃ W,W=wr:=⟨_,rfl⟩
  rw[← hwo] at hrel ⊢
  clear hwo wr
  obtain⟨k,out,bad,hI⟩:=hrel
  obtain⟨ao,co,rfl⟩:=zai hI.row
  obtain⟨ol,hol⟩ : ∃ z,z=out.length:=⟨_,rfl⟩
  have hme:=zil (n:=n) hI.box
  obtain⟨⟨c0,c1,c2,c3⟩,fz0,fz1,fz2,fz3⟩:=zac hI.box
  obtain⟨_,f0,f1,f2,f3⟩:=zac hI.box1
  obtain⟨m,hm⟩ : ∃ m,m=i+k:=⟨_,rfl⟩
  rw[← hm] at c1
  by_cases hbad:bad=0
  ·subst hbad
   obtain⟨hlk,hsame⟩ : out.length=k∧zbf ws i []=zbf ws (i+k) out:=by
    rcases hI.st with⟨_,h1,h2⟩ | ⟨h,_⟩
    ·exact⟨h1,h2⟩
    exact absurd rfl h
   rw[← hol] at hlk
   obtain⟨s,hs⟩ : ∃ s,s=zbw ws m:=⟨_,rfl⟩
   have hW:=zm5 (zaf zbg _ _ _ _ Hw.out hI.bel) m fin 0
   rw[← hs] at hW
   have hsz:s.size≤70000:=by rw[hs];exact Hpk.out _
   obtain⟨ix,hix⟩ : ∃ z,z=indexByte s.data.toList 61:=⟨_,rfl⟩
   have hA:=fun (W:World)=>zq2 s hsz 61 W
   rw[← hix,show ((61:UInt8).toNat:Int)=61 from rfl] at hA
   rw[← hol]
   clear fz0 fz1 fz2 fz3
   have hI':=hI
   rw[← hol] at hI'
   obtain⟨HI,HI',Hme,Hol,Hm,Hlk,Hsame,Hs,HW,HA⟩:=hd10 hI hI' hme hol hm hlk hsame hs hW hA;clear hI hI' hme hol hm hlk hsame hs hW hA
   go_wp2_with fail
   refine HW.out.mono ?_
   rintro e w2 ⟨rfl,hb2⟩
   have hI2:=HI'.out.to hb2
   obtain⟨⟨d0,d1,d2,d3⟩,gz0,gz1,gz2,gz3⟩:=zac hI2.box
   obtain⟨_,f0,f1,f2,f3⟩:=zac hI2.box1
   rw[← Hm.out] at d1
   obtain⟨HI2,Hb2⟩:=hd2 hI2 hb2;clear hI2 hb2
   go_wp2_with fail
   refine (HA.out _).mono ?_
   rintro e w3 ⟨rfl,hw3⟩
   subst hw3
   rcases zgo s.data.toList 61 with hneg | ⟨kk,hkk⟩
   ·obtain rfl:ix = -1:=by rw[hix,hneg]
    obtain⟨hno,_,_⟩:=cutB_no hneg
    obtain⟨Hno,Hneg,Hix⟩:=hd3 hno hneg hix;clear hno hneg hix
    go_wp2_with fail
    go_region
    go_wp2_with fail
    have hp:=zjp (a:=a) (n:=n) (c:=c) (i:=m) (fin:=fin) (x:=0) hwg HI2.out.box1 HI2.out.bel
    have hT:Frm (fun z=>z=g+1) w3 ((((w3.setCell ⟨g+1,0,none⟩ (.slice a n c)).setCell ⟨g+1,1,none⟩ (.int .i64 (m:Int))).setCell ⟨g+1,2,none⟩ (.int .i64 fin)).setCell ⟨g+1,3,none⟩ (.int .i64 0)).drew:=(za9 (za9 (za9 (za9 (Frm.refl _ _) 0 _) 1 _) 2 _) 3 _).drew
    have hno2:No2 w3 (fun z=>z=g+1):=by
     rintro z rfl
     exact zau HI2.out.box1 (by decide) (by decide)
    refine bodyPost_ret (zh0 rfl rfl rfl hp.1 Tryz.underlying113 rfl (by kernel_rfl)) rfl ?_
    refine⟨_,_,_,m,0,rfl,.inl ⟨out,?_,rfl,zat HI2.out.reads hT hno2⟩,Below.drew hp.2⟩
    rw[Hsame.out,← Hm.out]
    exact zjj (by rw[← Hs.out];exact Hno.out)
   obtain rfl:ix=kk:=by rw[hix,hkk]
   obtain⟨hyes,hcut,hks⟩:=zpt hkk
   obtain⟨nm,hnm⟩ : ∃ z,z=s.extract 0 kk:=⟨_,rfl⟩
   obtain⟨vl,hvl⟩ : ∃ z,z=s.extract (kk+1) s.size:=⟨_,rfl⟩
   have hsg:zkg s=(nm,vl):=by unfold zkg;rw[hcut,hnm,hvl]
   have hsgz:nm.size≤70000∧vl.size≤70000:=by
    have:=zgq 61 s
    rw[hcut,← hnm,← hvl] at this
    have e1:nm.size≤s.size∧vl.size≤s.size:=this
    omega
   have k5:(0:Int)≤(kk:Int):=by omega
   have k6:(kk:Int)≤(s.size:Int):=by omega
   have k7:(kk:Int)+1≤(s.size:Int):=by omega
   have kn:decide ((kk:Int) < 0)=false:=decide_eq_false (by omega)
   obtain⟨k2,hk2⟩ : ∃ z,z=kk+1:=⟨_,rfl⟩
   have k11:IntKind.i64.wrap ((kk:Int)+1)=(k2:Int):=by rw[hk2];exact IntWalk.i64_in _ (by omega)
   have k12:(0:Int)≤(k2:Int):=by omega
   have k13:(k2:Int)≤(s.size:Int):=by omega
   have hlt:m < n:=by rw[Hn.out];exact zpn (by rw[← Hs.out];exact hyes)
   have hrow3:=HI2.out.row
   have hol1:ol≤1000:=by have:=Hlk.out;have:=Hm.out;omega
   rw[← Hol.out] at hrow3
   have hbz:g+2≤w3.heap.size:=by have:=(Array.getElem?_eq_some_iff.1 HI2.out.box1).1;omega
   obtain⟨N,hN⟩ : ∃ N,N=out.flatMap setCells:=⟨_,rfl⟩
   rw[← hN] at hrow3
   have hwd:(w3.drew).ownsRow (g+2) 109 2 (.slice ao ol co) ol N:=hrow3
   have hBd:g+2≤w3.drew.heap.size:=hbz
   rw[← hk2] at hvl
   obtain⟨Hyes,Hcut,Hkk,Hix,Hnm,Hvl,Hsg,Hsgz,Hrow3,HN,Hwd,Hk2⟩:=hd12 hyes hcut hkk hix hnm hvl hsg hsgz hrow3 hN hwd hk2;clear hyes hcut hkk hix hnm hvl hsg hsgz hrow3 hN hwd hk2
   go_wp2_with fail
   go_region_law (refine zc6 zpp (w:=w3.drew) rfl (.tmp 19) (.tmp 28) rfl (g+2) (.slice ao ol co) ol N rfl Hwd.out 1 (by decide) #[.string (s.extract 0 kk),.string (s.extract k2 s.size)] rfl rfl (by simp[Value.oneCell']) (by omega) (by unfold maxLen;omega) hBd ?_;intro g8 c8 w8 hown8 hg8 hm8)
   have hpu:=HI2.out.push hwg (x:=(nm,vl)) Hsgz.out (zh3 hg8) (by rw[← Hol.out,← HN.out,Hnm.out,Hvl.out];exact hown8)
   obtain⟨u0,u1,u2',u3,u4',u5'⟩:=hpu
   rw[← Hm.out] at u0
   obtain⟨⟨c0',c1',c2',c3'⟩,_⟩:=zac u0
   have hbd:Below w8.heap.size w8 w8.drew:=Below.drew (Below.refl _ _)
   have hWi:=fun (W:World) (k:Below w8.heap.size w8 W)=>zq8 (zaz u3 k).1
   obtain⟨b,hb⟩ : ∃ b,b=ze4 (out ++ [(nm,vl)]):=⟨_,rfl⟩
   rw[← hb] at hWi
   have hNx:=fun (W:World) (k:Below w8.heap.size w8 W)=>zm6 (zaf zbg _ _ _ _ Hw.out (u2'.trans (k.mono u2'.size))) hn1 m fin b
   obtain⟨colm,hcm⟩ : ∃ z,z=zb2 ws fin m:=⟨_,rfl⟩
   rw[← hcm] at hNx
   have hSS:∀ W,Below w8.heap.size w8 W→W.cell? ⟨g,0,none⟩=some (.slice a n c)∧W.cell? ⟨g,1,none⟩=some (.int .i64 m)∧W.cell? ⟨g,2,none⟩=some (.int .i64 fin)∧W.cell? ⟨g,3,none⟩=some (.int .i64 0):=fun W k=>(zac (za0 k u0)).1
   clear hown8 hg8 hm8 c0' c1' c2' c3'
   obtain⟨Hu0,Hu1,Hu2',Hu3,Hu4',Hu5',HWi,Hb,HNx,HSS,Hcm⟩:=hd11 u0 u1 u2' u3 u4' u5' hWi hb hNx hSS hcm;clear u0 u1 u2' u3 u4' u5' hWi hb hNx hSS hcm
   go_upto_region 8 with (fail)
   refine wp_region_held_drew (S:=fun _=>True) (by kernel_rfl) trivial (fun hHeld=>?_)
   refine wpAnyH_take (i:=1) (v:=?_) rfl (by kernel_rfl) (by kernel_rfl) (by kernel_rfl) (fun _ _ _ h=>h) (Or.inl ⟨by kernel_rfl,?_⟩) (by assumption) ?_
   rotate_left
   ·(intro w hSw;go_simp;try with_reducible rfl)
   try simp only[Act.put,lA,lB,lC]
   refine wpAnyH_ready (rs:=[0,2]) (by kernel_rfl) (by simp) ?_
   refine AllReadyH.cons rfl (fun K hK=>?_) (AllReadyH.cons rfl (fun K hK=>?_) AllReadyH.nil)
   ·obtain⟨c0',c1',c2',c3'⟩:=HSS.out _ hbd
    go_simp
    refine hK.out _ _ trivial (fun hHeld=>?_)
    clear hK K c0' c1' c2' c3'
    try simp only[Act.put,lA,lB,lC]
    refine wpAnyH_ready (rs:=[2]) (by kernel_rfl) (by simp) ?_
    refine AllReadyH.cons rfl (fun K hK=>?_) AllReadyH.nil
    go_simp
    refine (HWi.out _ hbd).mono ?_
    rintro e wy ⟨rfl,q,rfl⟩
    have hby:=zak hbd q
    generalize w8.drew.drewN q=wy at hby ⊢
    have Hby:=hd hby;clear hby
    go_wp2_with fail
    refine hK.out _ _ trivial (fun hHeld=>?_)
    clear hK K
    try simp only[Act.put,lA,lB,lC]
    refine wpAnyH_ready (rs:=[3]) (by kernel_rfl) (by simp) ?_
    refine AllReadyH.cons rfl (fun K hK=>?_) AllReadyH.nil
    go_simp
    refine (HNx.out _ Hby.out).mono ?_
    rintro e wz ⟨⟨hbt,_,rfl⟩ | ⟨hbf,rfl⟩,hbz⟩
    ·have hb8z:=Hby.out.trans (hbz.mono Hby.out.size)
     have z0:=za0 hb8z Hu0.out
     have z1:=za0 hb8z Hu1.out
     obtain⟨_,fy0,fy1,fy2,fy3⟩:=zac z0
     have hback:=St6.back (k:=k+1) (p:=m+1) (bad:=0) (i:=i) hwg z0 z1 (Hu2'.out.trans (hb8z.mono Hu2'.out.size)) Hu4'.out (zae Hu5'.out hb8z) (.inl ⟨rfl,by rw[List.length_append,← Hol.out,Hlk.out];rfl,by rw[Hsame.out,zi8 (by rw[← Hm.out,← Hs.out];exact Hyes.out) (by rw[← Hm.out,← Hs.out,Hsg.out,← Hb.out];exact hbt),← Hm.out,← Hs.out,Hsg.out,Hm.out];rfl⟩) (by rw[Hm.out];rfl)
     obtain⟨Hbz,Hb8z,Hz0,Hz1,Hback,Hbt⟩:=hd6 hbz hb8z z0 z1 hback hbt;clear hbz hb8z z0 z1 hback hbt
     go_wp2_with fail
     refine hK.out _ _ trivial (fun hHeld=>?_)
     clear hK K
     try simp only[Act.put,lA,lB,lC]
     refine wpAnyH_ready (rs:=[4]) (by kernel_rfl) (by simp) ?_
     refine AllReadyH.cons rfl (fun K hK=>?_) AllReadyH.nil
     go_simp
     refine hK.out _ _ trivial (fun hHeld=>?_)
     clear hK K
     try simp only[Act.put,lA,lB,lC]
     refine wpAnyH_done (by kernel_rfl) ?_ _
     go_simp
     go_wp2_with fail
     go_roundw
     case rel=>exact⟨k+1,_,_,Hback.out⟩
     case measure =>
      refine Nat.lt_of_le_of_lt (Nat.le_of_eq (zil (n:=n) Hback.out.box)) ?_
      rw[Hme.out]
      simp
      have:=Hm.out
      omega
    have hb8z:=Hby.out.trans (hbz.mono Hby.out.size)
    have z0:=za0 hb8z Hu0.out
    have z1:=za0 hb8z Hu1.out
    obtain⟨_,fy0,fy1,fy2,fy3⟩:=zac z0
    have hbf':b=false:=by rcases hbf with h | h;exact h;omega
    have hcn:colm≠0:=by rw[Hcm.out];exact Hcol.out m
    have hback:=St6.back (k:=k) (p:=m) (bad:=colm) (i:=i) hwg z0 z1 (Hu2'.out.trans (hb8z.mono Hu2'.out.size)) Hu4'.out (zae Hu5'.out hb8z) (.inr ⟨hcn,m,by rw[Hsame.out,← Hm.out];exact zi9 (by rw[← Hs.out];exact Hyes.out) (by rw[← Hs.out,Hsg.out,← Hb.out];exact hbf'),Hcm.out⟩) Hm.out
    obtain⟨Hbz,Hb8z,Hz0,Hz1,Hback,Hbf,Hbf',Hcn⟩:=hd8 hbz hb8z z0 z1 hback hbf hbf' hcn;clear hbz hb8z z0 z1 hback hbf hbf' hcn
    go_wp2_with fail
    refine hK.out _ _ trivial (fun hHeld=>?_)
    clear hK K
    try simp only[Act.put,lA,lB,lC]
    refine wpAnyH_ready (rs:=[4]) (by kernel_rfl) (by simp) ?_
    refine AllReadyH.cons rfl (fun K hK=>?_) AllReadyH.nil
    go_simp
    refine hK.out _ _ trivial (fun hHeld=>?_)
    clear hK K
    try simp only[Act.put,lA,lB,lC]
    refine wpAnyH_done (by kernel_rfl) ?_ _
    go_simp
    go_wp2_with fail
    go_roundw
    case rel=>exact⟨k,_,_,Hback.out⟩
    case measure =>
     rw[zil (n:=n) Hback.out.box,Hme.out,if_neg Hcn.out]
     simp
   go_simp
   refine (HWi.out _ hbd).mono ?_
   rintro e wy ⟨rfl,q,rfl⟩
   have hby:=zak hbd q
   generalize w8.drew.drewN q=wy at hby ⊢
   have Hby:=hd hby;clear hby
   go_wp2_with fail
   refine hK.out _ _ trivial (fun hHeld=>?_)
   clear hK K
   try simp only[Act.put,lA,lB,lC]
   obtain⟨c0',c1',c2',c3'⟩:=HSS.out _ Hby.out
   refine wpAnyH_ready (rs:=[0]) (by kernel_rfl) (by simp) ?_
   refine AllReadyH.cons rfl (fun K hK=>?_) AllReadyH.nil
   go_simp
   refine hK.out _ _ trivial (fun hHeld=>?_)
   clear hK K c0' c1' c2' c3'
   try simp only[Act.put,lA,lB,lC]
   refine wpAnyH_ready (rs:=[3]) (by kernel_rfl) (by simp) ?_
   refine AllReadyH.cons rfl (fun K hK=>?_) AllReadyH.nil
   go_simp
   refine (HNx.out _ Hby.out).mono ?_
   rintro e wz ⟨⟨hbt,_,rfl⟩ | ⟨hbf,rfl⟩,hbz⟩
   ·have hb8z:=Hby.out.trans (hbz.mono Hby.out.size)
    have z0:=za0 hb8z Hu0.out
    have z1:=za0 hb8z Hu1.out
    obtain⟨_,fy0,fy1,fy2,fy3⟩:=zac z0
    have hback:=St6.back (k:=k+1) (p:=m+1) (bad:=0) (i:=i) hwg z0 z1 (Hu2'.out.trans (hb8z.mono Hu2'.out.size)) Hu4'.out (zae Hu5'.out hb8z) (.inl ⟨rfl,by rw[List.length_append,← Hol.out,Hlk.out];rfl,by rw[Hsame.out,zi8 (by rw[← Hm.out,← Hs.out];exact Hyes.out) (by rw[← Hm.out,← Hs.out,Hsg.out,← Hb.out];exact hbt),← Hm.out,← Hs.out,Hsg.out,Hm.out];rfl⟩) (by rw[Hm.out];rfl)
    obtain⟨Hbz,Hb8z,Hz0,Hz1,Hback,Hbt⟩:=hd6 hbz hb8z z0 z1 hback hbt;clear hbz hb8z z0 z1 hback hbt
    go_wp2_with fail
    refine hK.out _ _ trivial (fun hHeld=>?_)
    clear hK K
    try simp only[Act.put,lA,lB,lC]
    refine wpAnyH_ready (rs:=[4]) (by kernel_rfl) (by simp) ?_
    refine AllReadyH.cons rfl (fun K hK=>?_) AllReadyH.nil
    go_simp
    refine hK.out _ _ trivial (fun hHeld=>?_)
    clear hK K
    try simp only[Act.put,lA,lB,lC]
    refine wpAnyH_done (by kernel_rfl) ?_ _
    go_simp
    go_wp2_with fail
    go_roundw
    case rel=>exact⟨k+1,_,_,Hback.out⟩
    case measure =>
     refine Nat.lt_of_le_of_lt (Nat.le_of_eq (zil (n:=n) Hback.out.box)) ?_
     rw[Hme.out]
     simp
     have:=Hm.out
     omega
   have hb8z:=Hby.out.trans (hbz.mono Hby.out.size)
   have z0:=za0 hb8z Hu0.out
   have z1:=za0 hb8z Hu1.out
   obtain⟨_,fy0,fy1,fy2,fy3⟩:=zac z0
   have hbf':b=false:=by rcases hbf with h | h;exact h;omega
   have hcn:colm≠0:=by rw[Hcm.out];exact Hcol.out m
   have hback:=St6.back (k:=k) (p:=m) (bad:=colm) (i:=i) hwg z0 z1 (Hu2'.out.trans (hb8z.mono Hu2'.out.size)) Hu4'.out (zae Hu5'.out hb8z) (.inr ⟨hcn,m,by rw[Hsame.out,← Hm.out];exact zi9 (by rw[← Hs.out];exact Hyes.out) (by rw[← Hs.out,Hsg.out,← Hb.out];exact hbf'),Hcm.out⟩) Hm.out
   obtain⟨Hbz,Hb8z,Hz0,Hz1,Hback,Hbf,Hbf',Hcn⟩:=hd8 hbz hb8z z0 z1 hback hbf hbf' hcn;clear hbz hb8z z0 z1 hback hbf hbf' hcn
   go_wp2_with fail
   refine hK.out _ _ trivial (fun hHeld=>?_)
   clear hK K
   try simp only[Act.put,lA,lB,lC]
   refine wpAnyH_ready (rs:=[4]) (by kernel_rfl) (by simp) ?_
   refine AllReadyH.cons rfl (fun K hK=>?_) AllReadyH.nil
   go_simp
   refine hK.out _ _ trivial (fun hHeld=>?_)
   clear hK K
   try simp only[Act.put,lA,lB,lC]
   refine wpAnyH_done (by kernel_rfl) ?_ _
   go_simp
   go_wp2_with fail
   go_roundw
   case rel=>exact⟨k,_,_,Hback.out⟩
   case measure =>
    rw[zil (n:=n) Hback.out.box,Hme.out,if_neg Hcn.out]
    simp
  have kb:(bad == 0)=false:=by simpa using hbad
  rcases hI.st with⟨h,_⟩ | ⟨_,j,hj,hjc⟩
  ·exact absurd h hbad
  rw[← hol]
  obtain⟨HI,Hme,Hol,Hm,Hj,Hjc,Hbad⟩:=hd7 hI hme hol hm hj hjc hbad;clear hI hme hol hm hj hjc hbad
  go_wp2_with fail
  go_region
  go_wp2_with fail
  have hp:=zjp (a:=a) (n:=n) (c:=c) (i:=m) (fin:=fin) (x:=bad) hwg HI.out.box1 HI.out.bel
  refine bodyPost_ret (zh0 rfl rfl rfl hp.1 Tryz.underlying113 rfl (by kernel_rfl)) rfl ?_
  exact⟨_,_,_,m,bad,rfl,.inr ⟨j,Hj.out,Hjc.out⟩,Below.drew hp.2⟩
end

section
open Go.Shelf Go.RowKit Go.Lib VerN VarM
open LexM (Wd)
attribute [local go_sem ↓] Go.wp_at_zero Go.wp_at_succ
theorem zj6 (w:World) (a:Option Addr) (n c i:Nat) (fin bad:Int) (hb:bad≠0):Calls Tryz.prog 140 #[pv a n c i fin bad] w fun e w'=>(∃ b m d,e = .returned (.tuple #[.slice b m d,pv a n c i fin bad]))∧Below w.heap.size w w':=by
 obtain⟨g,hg⟩ : ∃ g,g=w.heap.size:=⟨_,rfl⟩
 obtain⟨W0,hW0⟩ : ∃ W,W=(w.alloc (.cells #[.slice a n c,.int .i64 i,.int .i64 fin,.int .i64 bad] 113)).alloc (.cells #[.slice none 0 0,.int .i64 0,.int .i64 0,.int .i64 0] 113):=⟨_,rfl⟩
 have hb0:Below w.heap.size w W0:=by rw[hW0];exact (za2 _ _).alloc (by simp) _
 have hs0:W0.heap.size=g+2:=by rw[hW0,hg];simp
 have p0:PBox g a n c i fin bad W0:=by rw[hW0,hg];exact za0 (za2 _ _) (za6 rfl)
 have p1:PBox (g+1) none 0 0 0 0 0 W0:=by rw[hW0,hg];exact za6 (by simp)
 have hwg:w.heap.size≤g:=Nat.le_of_eq hg.symm
 obtain⟨W1,hW1⟩ : ∃ W,W=W0.alloc (.cells #[] 109):=⟨_,rfl⟩
 have hb01:Below W0.heap.size W0 W1:=by rw[hW1];exact za2 _ _
 have q0:=za0 hb01 p0
 have q1:=za0 hb01 p1
 have hb1:=hb0.trans (hb01.mono hb0.size)
 have kb:(bad == 0)=false:=by simpa using hb
 obtain⟨⟨c0,c1,c2,c3⟩,_⟩:=zac q0
 obtain⟨_,f0,f1,f2,f3⟩:=zac q1
 obtain⟨Hb,Hb0,Hp0,Hp1,Hb01,Hq0,Hq1,Hb1⟩:=hd8 hb hb0 p0 p1 hb01 q0 q1 hb1;clear hb hb0 p0 p1 hb01 q0 q1 hb1
 go_enter Tryz.func140,Tryz.ntmps140
 go_upto_region 1 with (fail)
 rw[← hW0,← hg]
 clear hW0 hg
 go_wp2_with fail
 go_loopw [4] (fun v wr=>wr=W1∧v = .slice (some ⟨g+2,0,none⟩) 0 0) (fun _ _=>0)
 case atStart=>rw[hW1,← hs0];exact⟨rfl,rfl⟩
 case round =>
  clear hW1
  obtain⟨rfl,rfl⟩:=hrel
  go_wp2_with fail
  go_region
  go_wp2_with fail
  have hp:=zjp (a:=a) (n:=n) (c:=c) (i:=i) (fin:=fin) (x:=bad) hwg Hq1.out Hb1.out
  refine bodyPost_ret (zh0 rfl rfl rfl hp.1 Tryz.underlying113 rfl (by kernel_rfl)) rfl ?_
  exact⟨⟨_,_,_,rfl⟩,Below.drew hp.2⟩
end
end Go.Proofs.YteailgjiifdgcaaGreatDoor
