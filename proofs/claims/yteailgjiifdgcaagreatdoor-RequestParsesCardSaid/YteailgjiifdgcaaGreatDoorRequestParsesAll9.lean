/- Walks and plain facts. Texts merged: RqX, LexK, RqA, RqC, SpsV, RqB, RqD, RqE, RqF, RqG, RqH, LexW. Condition: none beyond what each says. -/
import Derived.Recover
import Derived.Laws.Pointers
import Derived.Laws.BytesArg
import Derived.Test.YteailgjiifdgcaaGreatDoorRequestParsesAll8
set_option linter.unusedVariables false
set_option linter.unusedSimpArgs false
set_option maxRecDepth 10000
set_option maxHeartbeats 4000000
namespace Go.Proofs.YteailgjiifdgcaaGreatDoor
section
open Go.Lib VerN VarM
open LexM (Wd Ln)
def fx8T:ByteArray:=⟨#[114,111,111,116,32,97,64,49,58,32,120,61,111,110]⟩
def fx8L:Ln:=(1,[(1,[114,111,111,116]),(6,[97,64,49,58]),(11,[120,61,111,110])])
theorem fx8_doc:LexM.docLines fx8T.data.toList=⟨[fx8L],0,0,0⟩:=by kernel_rfl
def zmj:ByteArray:=⟨#[49,58]⟩
def fx8Sp:Tp:=⟨(⟨#[49]⟩,⟨#[]⟩),by decide⟩
theorem fx8_rd:rdSp zmj = [(⟨#[49]⟩,⟨#[]⟩)]:=by decide +kernel
theorem fx8_rdV:rdV zmj = [(⟨#[49]⟩,⟨#[]⟩)]:=by
 unfold rdV
 rw[if_neg (by decide)]
 exact fx8_rd
theorem fx8_rd3:Rd3 zmj:=by
 refine .inr ⟨by decide +kernel,fun l hl=>?_⟩
 rw[fx8_rd] at hl
 have e:l = [fx8Sp]:=by
  match l,hl with
  | [x],hl =>
   have h1:x.1=(⟨#[49]⟩,⟨#[]⟩):=by simpa [tB] using hl
   rw[show x=fx8Sp from Subtype.ext h1]
  | [],hl=>simp[tB] at hl
  | _ :: _ :: _,hl=>simp[tB] at hl
 rw[e]
 decide +kernel
open Classical in
theorem fx8_set:zfl zmj=true:=by
 unfold zfl
 refine decide_eq_true ⟨fx8_rd3,?_⟩
 rw[fx8_rdV]
 exact⟨by simp,by simp⟩
theorem fx8_req:∃ s,zid fx8T.data.toList=⟨[(s,1)],0,0,0⟩∧s.1=⟨#[97]⟩:=by
 have hn:ze2 ⟨#[97,64,49,58]⟩=true:=by
  unfold ze2
  rw[show (cutB 64 (⟨#[97,64,49,58]⟩ : ByteArray))=(⟨#[97]⟩,zmj,true) from by kernel_rfl,fx8_set]
  kernel_rfl
 have h1:zbw (fx8L.2.drop 1) 0=⟨#[97,64,49,58]⟩:=by kernel_rfl
 have h2:zbf (fx8L.2.drop 1) 1 []=(some [(⟨#[120]⟩,⟨#[111,110]⟩)],2):=by kernel_rfl
 have h3:zbb (fx8L.2.drop 1) 0=(some (⟨#[97]⟩,zeo ⟨#[97,64,49,58]⟩,[(⟨#[120]⟩,⟨#[111,110]⟩)]),2):=by
  unfold zbb
  rw[h1,if_pos hn,h2]
  rfl
 have h4:zdt fx8L=(some (⟨#[97]⟩,zeo ⟨#[97,64,49,58]⟩,[(⟨#[120]⟩,⟨#[111,110]⟩)]),0):=by
  unfold zdt
  rw[if_pos (by kernel_rfl),h3]
  rfl
 refine⟨(⟨#[97]⟩,zeo ⟨#[97,64,49,58]⟩,[(⟨#[120]⟩,⟨#[111,110]⟩)]),?_,rfl⟩
 unfold zid
 rw[fx8_doc]
 show zh1 [fx8L] []=_
 unfold zh1
 rw[h4]
 rfl
end

section
open Go.RowKit
open LexM (Bs Wd Ln St)
abbrev bv (s:Bs):Value:=.string ⟨s.toArray⟩
def zb4 (x:Wd):List Value:=[.int .i64 x.1,bv x.2]
def zhg (s:Bs):List Value:=s.map fun c=>.int .u8 c.toNat
def zd3 (out:List Ln) (rv:List Value):List Value:=(out.zip rv).flatMap fun x=>[.int .i64 x.1.1,x.2]
theorem zmp:Elem Tryz.prog 142 5 (.int .u8 0) 1 1:=⟨Tryz.underlying142,by kernel_rfl,rfl,by decide⟩
theorem zf2:Elem Tryz.prog 60 64 (.agg #[.int .i64 0,.string ⟨#[]⟩]) 2 24:=⟨Tryz.underlying60,by kernel_rfl,rfl,by decide⟩
theorem zis:Elem Tryz.prog 56 62 (.agg #[.int .i64 0,.slice none 0 0]) 2 32:=⟨Tryz.underlying56,by kernel_rfl,rfl,by decide⟩
def zav (s:St) (wv sv ov:Value):Array Value:=#[.int .i64 s.line,.int .i64 s.col,.int .i64 s.frm,.bool s.off,wv,sv,ov]
structure zbm (w0:World) (x:Nat) (s:St) (wv sv ov:Value) (rv:List Value) (w:World):Prop where
 cells:w.heap[x]? = some (.cells (zav s wv sv ov) 182 (0,0))
 word:w.ownsRow w0.heap.size 5 1 wv s.word.length (zhg s.word)
 words:w.ownsRow w0.heap.size 64 2 sv s.words.length (s.words.flatMap zb4)
 out:w.ownsRow w0.heap.size 62 2 ov s.out.length (zd3 s.out rv)
 rlen:rv.length=s.out.length
 rows:∀ (i:Nat) (ln:Ln) (v:Value),s.out[i]? = some ln→rv[i]? = some v→w.ownsRow w0.heap.size 64 2 v ln.2.length (ln.2.flatMap zb4)∧∀ k,v.ownBlock=some k→sv.ownBlock≠some k
 bel:Below w0.heap.size w0 w
 xB:w0.heap.size≤x
theorem zbm.xs {w0 w:World} {x:Nat} {s:St} {wv sv ov:Value} {rv:List Value} (h:zbm w0 x s wv sv ov rv w):x < w.heap.size:=(Array.getElem?_eq_some_iff.1 h.cells).1
theorem zbm.to {w0 w w':World} {x:Nat} {s s':St} {wv sv ov wv' sv':Value} {rv:List Value} (h:zbm w0 x s wv sv ov rv w) (hf:Frm (fun k=>k=x) w w')
  (hc:w'.heap[x]? = some (.cells (zav s' wv' sv' ov) 182 (0,0)))
  (h1:(wv'=wv∧s'.word=s.word)∨(wv' = .slice none 0 0∧s'.word = [])) (h2:(sv'=sv∧s'.words=s.words)∨(sv' = .slice none 0 0∧s'.words = [])) (h3:s'.out=s.out):zbm w0 x s' wv' sv' ov rv w':=by
 have hxw:=zah h.word h.cells (by decide)
 have hxs:=zah h.words h.cells (by decide)
 have hxo:=zah h.out h.cells (by decide)
 refine⟨hc,?_,?_,?_,by rw[h3];exact h.rlen,?_,h.bel.trans (hf.below h.bel.size (fun k hk=>by rw[hk];exact h.xB)),h.xB⟩
 ·rcases h1 with⟨rfl,e⟩ | ⟨rfl,e⟩
  ·rw[e];exact hf.owns h.word (fun k hk e=>hxw (by rw[hk,e]))
  rw[e];exact World.ownsRow_nil _ _ _ _
 ·rcases h2 with⟨rfl,e⟩ | ⟨rfl,e⟩
  ·rw[e];exact hf.owns h.words (fun k hk e=>hxs (by rw[hk,e]))
  rw[e];exact World.ownsRow_nil _ _ _ _
 ·rw[h3];exact hf.owns h.out (fun k hk e=>hxo (by rw[hk,e]))
 intro i ln v hi hv
 rw[h3] at hi
 obtain⟨r1,r2⟩:=h.rows i ln v hi hv
 have hxv:=zah r1 h.cells (by decide)
 refine⟨hf.owns r1 (fun k hk e=>hxv (by rw[hk,e])),fun k hk=>?_⟩
 rcases h2 with⟨rfl,e⟩ | ⟨rfl,e⟩
 ·exact r2 k hk
 simp[Value.ownBlock]
theorem zbm.keep {w0 w w':World} {x:Nat} {s:St} {wv sv ov:Value} {rv:List Value} (h:zbm w0 x s wv sv ov rv w) (hf:Frm (fun _=>False) w w'):zbm w0 x s wv sv ov rv w' :=
 h.to (hf.mono (fun _ _ h=>h.elim)) (zbc h.cells hf (fun h=>h)) (.inl ⟨rfl,rfl⟩) (.inl ⟨rfl,rfl⟩) rfl
theorem zbm.pushByte {w0 w w3:World} {x:Nat} {s:St} {wv sv ov:Value} {rv:List Value} (h:zbm w0 x s wv sv ov rv w) (c:UInt8) {wv':Value}
  (hown:w3.ownsRow w0.heap.size 5 1 wv' (s.word.length+1) (zhg s.word ++ [.int .u8 c.toNat])) (hg:w.grownBy w3 wv.ownBlock) :
  zbm w0 x { s with word:=s.word ++ [c] } wv' sv ov rv (w3.setCell ⟨x,4,none⟩ wv'):=by
 have hxw:=zah h.word h.cells (by decide)
 have f1:Frm (fun k=>wv.ownBlock=some k) w w3:=(Frm.refl _ w).grown hg (fun k hk=>.inr hk)
 have hc3:=zbc h.cells f1 hxw
 have f2:Frm (fun k=>k=x) w3 (w3.setCell ⟨x,4,none⟩ wv'):=Frm.setCell (S:=fun k=>k=x) (Frm.refl _ _) (p:=⟨x,4,none⟩) (.inr rfl) _
 have hx3:=zah hown hc3 (by decide)
 refine⟨?_,?_,?_,?_,h.rlen,?_,?_,h.xB⟩
 ·rw[heap_setCell_same w3 x 4 _ _ wv' hc3];rfl
 ·simp only[List.length_append,List.length_singleton,zhg,List.map_append]
  exact f2.owns hown (fun k hk e=>hx3 (by rw[hk,e]))
 ·have:=f1.owns h.words (fun k hk e=>zca h.words h.word (by decide) k hk e)
  have hxs:=zah this hc3 (by decide)
  exact f2.owns this (fun k hk e=>hxs (by rw[hk,e]))
 ·have:=f1.owns h.out (fun k hk e=>zca h.out h.word (by decide) k hk e)
  have hxs:=zah this hc3 (by decide)
  exact f2.owns this (fun k hk e=>hxs (by rw[hk,e]))
 ·intro i ln v hi hv
  obtain⟨r1,r2⟩:=h.rows i ln v hi hv
  have:=f1.owns r1 (fun k hk e=>zca r1 h.word (by decide) k hk e)
  have hxs:=zah this hc3 (by decide)
  exact⟨f2.owns this (fun k hk e=>hxs (by rw[hk,e])),r2⟩
 have b1:Below w0.heap.size w w3:=f1.below h.bel.size (fun k hk=>(h.word.lt k hk).1)
 exact (h.bel.trans b1).trans (f2.below (by have:=h.bel.size;have:=f1.size;omega) (fun k hk=>by rw[hk];exact h.xB))
theorem zbm.pushWord {w0 w w3:World} {x:Nat} {s:St} {wv sv ov:Value} {rv:List Value} (h:zbm w0 x s wv sv ov rv w) (a:Wd) {sv':Value}
  (hown:w3.ownsRow w0.heap.size 64 2 sv' (s.words.length+1) (s.words.flatMap zb4 ++ zb4 a)) (hg:w.grownBy w3 sv.ownBlock) (hm:zn6 w sv sv') :
  zbm w0 x { s with words:=s.words ++ [a] } wv sv' ov rv (w3.setCell ⟨x,5,none⟩ sv'):=by
 have hxw:=zah h.words h.cells (by decide)
 have f1:Frm (fun k=>sv.ownBlock=some k) w w3:=(Frm.refl _ w).grown hg (fun k hk=>.inr hk)
 have hc3:=zbc h.cells f1 hxw
 have f2:Frm (fun k=>k=x) w3 (w3.setCell ⟨x,5,none⟩ sv'):=Frm.setCell (S:=fun k=>k=x) (Frm.refl _ _) (p:=⟨x,5,none⟩) (.inr rfl) _
 have hx3:=zah hown hc3 (by decide)
 refine⟨?_,?_,?_,?_,h.rlen,?_,?_,h.xB⟩
 ·rw[heap_setCell_same w3 x 5 _ _ sv' hc3];rfl
 ·have:=f1.owns h.word (fun k hk e=>zca h.word h.words (by decide) k hk e)
  have hxs:=zah this hc3 (by decide)
  exact f2.owns this (fun k hk e=>hxs (by rw[hk,e]))
 ·simp only[List.length_append,List.length_singleton,List.flatMap_append,List.flatMap_cons,List.flatMap_nil,List.append_nil]
  exact f2.owns hown (fun k hk e=>hx3 (by rw[hk,e]))
 ·have:=f1.owns h.out (fun k hk e=>zca h.out h.words (by decide) k hk e)
  have hxs:=zah this hc3 (by decide)
  exact f2.owns this (fun k hk e=>hxs (by rw[hk,e]))
 ·intro i ln v hi hv
  obtain⟨r1,r2⟩:=h.rows i ln v hi hv
  have:=f1.owns r1 (fun k hk e=>r2 k hk e)
  have hxs:=zah this hc3 (by decide)
  refine⟨f2.owns this (fun k hk e=>hxs (by rw[hk,e])),fun k hk e=>?_⟩
  rcases hm k e with e | e
  ·exact r2 k hk e
  have:=(r1.lt k hk).2;omega
 have b1:Below w0.heap.size w w3:=f1.below h.bel.size (fun k hk=>(h.words.lt k hk).1)
 exact (h.bel.trans b1).trans (f2.below (by have:=h.bel.size;have:=f1.size;omega) (fun k hk=>by rw[hk];exact h.xB))
theorem zhb {out:List Ln} {rv:List Value} (h:rv.length=out.length) (ln:Ln) (v:Value):zd3 (out ++ [ln]) (rv ++ [v])=zd3 out rv ++ [.int .i64 ln.1,v]:=by
 unfold zd3
 rw[List.zip_append h.symm]
 simp
theorem zbm.pushLine {w0 w w3 w':World} {x:Nat} {s s':St} {wv sv ov:Value} {rv:List Value} (h:zbm w0 x s wv sv ov rv w) {ov':Value}
  (hown:w3.ownsRow w0.heap.size 62 2 ov' (s.out.length+1) (zd3 s.out rv ++ [.int .i64 s.line,sv])) (hg:w.grownBy w3 ov.ownBlock) (hf:Frm (fun k=>k=x) w3 w')
  (hc:w'.heap[x]? = some (.cells (zav s' wv (.slice none 0 0) ov') 182 (0,0))) (h1:s'.word=s.word) (h2:s'.words = []) (h3:s'.out=s.out ++ [(s.line,s.words)]) :
  zbm w0 x s' wv (.slice none 0 0) ov' (rv ++ [sv]) w':=by
 have hxw:=zah h.out h.cells (by decide)
 have f1:Frm (fun k=>ov.ownBlock=some k) w w3:=(Frm.refl _ w).grown hg (fun k hk=>.inr hk)
 have hc3:=zbc h.cells f1 hxw
 have hx3:=zah hown hc3 (by decide)
 refine⟨hc,?_,?_,?_,by rw[h3];simp[h.rlen],?_,?_,h.xB⟩
 ·rw[h1]
  have:=f1.owns h.word (fun k hk e=>zca h.word h.out (by decide) k hk e)
  have hxs:=zah this hc3 (by decide)
  exact hf.owns this (fun k hk e=>hxs (by rw[hk,e]))
 ·rw[h2];exact World.ownsRow_nil _ _ _ _
 ·rw[h3,zhb h.rlen,List.length_append]
  exact hf.owns hown (fun k hk e=>hx3 (by rw[hk,e]))
 ·intro i ln v hi hv
  refine⟨?_,by simp[Value.ownBlock]⟩
  rw[h3] at hi
  by_cases hlt:i < s.out.length
  ·rw[List.getElem?_append_left hlt] at hi
   rw[List.getElem?_append_left (by rw[h.rlen];exact hlt)] at hv
   obtain⟨r1,r2⟩:=h.rows i ln v hi hv
   have:=f1.owns r1 (fun k hk e=>zca r1 h.out (by decide) k hk e)
   have hxs:=zah this hc3 (by decide)
   exact hf.owns this (fun k hk e=>hxs (by rw[hk,e]))
  have hil:=(List.getElem?_eq_some_iff.1 hi).1
  simp at hil
  obtain rfl:i=s.out.length:=by omega
  have hh:=h.rlen
  rw[List.getElem?_append_right (Nat.le_refl _)] at hi
  rw[← hh,List.getElem?_append_right (Nat.le_refl _)] at hv
  simp at hi hv
  subst hi;subst hv
  have:=f1.owns h.words (fun k hk e=>zca h.words h.out (by decide) k hk e)
  have hxs:=zah this hc3 (by decide)
  exact hf.owns this (fun k hk e=>hxs (by rw[hk,e]))
 have b1:Below w0.heap.size w w3:=f1.below h.bel.size (fun k hk=>(h.out.lt k hk).1)
 exact (h.bel.trans b1).trans (hf.below (by have:=h.bel.size;have:=f1.size;omega) (fun k hk=>by rw[hk];exact h.xB))
structure Small (s:St) (m:Nat):Prop where
 col:0≤s.col∧s.col≤m
 line:0≤s.line∧s.line≤m+1
 frm:0≤s.frm∧s.frm≤m
 word:s.word.length≤m
 words:s.words.length≤m
 out:s.out.length≤m
 begun:0 < s.frm→s.word≠[]
def RWd:Rd Wd:=fun _ cs x=>cs=zb4 x∧(Lit.int .i64 x.1).wf=true∧x.2.length≤maxLen
def RLn:Rd Ln:=fun w cs x=>∃ v,cs = [.int .i64 x.1,v]∧zde 2 RWd w [v] x.2∧(Lit.int .i64 x.1).wf=true
abbrev RLns:Rd (List Ln):=zde 2 RLn
theorem zbg:ziz RWd:=fun _ _ _ _ h _=>h
theorem stays_ln:ziz RLn:=fun _ _ _ _ ⟨v,h1,h2,h3⟩ hb=>⟨v,h1,zaf zbg _ _ _ _ h2 hb,h3⟩
theorem zlk:ziz RLns:=zaf stays_ln
theorem zd6 {α:Type} {w:World} {B:Nat} {e:TypeId} {sz:Nat} {v:Value} {l:List α} (f:α→List Value) (R:Rd α) (hsz:∀ x∈l,(f x).length=sz) (hR:∀ x∈l,R w (f x) x) (h:w.ownsRow B e sz v l.length (l.flatMap f)):zde sz R w [v] l:=by
 have hget:∀ (i:Nat) x,l[i]? = some x→∀ j u,(f x)[j]? = some u→(l.flatMap f)[i * sz+j]? = some u:=by
  clear h hR
  induction l with
  | nil=>intro i x hi;simp at hi
  | cons a l ih =>
   intro i x hi j u hu
   rw[List.flatMap_cons]
   have ha:=hsz a (by simp)
   have hj:j < sz:=by
    have hx:=hsz x (List.mem_of_getElem? hi)
    have:=(List.getElem?_eq_some_iff.1 hu).1
    omega
   match i,hi with
   | 0,hi =>
    simp at hi
    subst hi
    rw[List.getElem?_append_left (by omega)]
    simpa using hu
   | i+1,hi =>
    have hge:sz≤(i+1) * sz+j:=by rw[Nat.succ_mul];omega
    rw[List.getElem?_append_right (by omega),ha,show (i+1) * sz+j - sz=i * sz+j by rw[Nat.succ_mul];omega]
    exact ih (fun y hy=>hsz y (by simp[hy])) i x (by simpa using hi) j u hu
 rcases h.2 with⟨rfl,h0⟩ | ⟨g,cap,cur,rfl,hg,hh,hn,hm,hs,ht⟩
 ·exact⟨none,0,by rw[h0],by omega,Nat.zero_le _,fun i x hi=>by have:=(List.getElem?_eq_some_iff.1 hi).1;omega⟩
 refine⟨some ⟨g,0,none⟩,cap,rfl,hn,hm,fun i x hi=>⟨g,0,f x,rfl,hsz x (List.mem_of_getElem? hi),fun j u hu=>?_,hR x (List.mem_of_getElem? hi)⟩⟩
 have:=h.cells (g:=g) rfl (i * sz+j) u (hget i x hi j u hu)
 rw[Addr.add_lit] at this
 simpa [Nat.add_assoc] using this
end

section
open Go.RowKit Go.Shelf
open LexM (Wd)
attribute [local go_sem ↓] Go.wp_at_zero Go.wp_at_succ
abbrev RBox (r:Nat) (v:Value) (i:Nat) (fin:Int) (W:World):Prop:=W.heap[r]? = some (.cells #[v,.int .i64 i,.int .i64 fin] 137 (0,0))
abbrev rp (r:Nat):Value:=.pointer (some ⟨r,0,none⟩)
abbrev RWds:Rd (List Wd):=zde 2 RWd
theorem zct {r:Nat} {v:Value} {i:Nat} {fin:Int} {W:World} (h:RBox r v i fin W):W.cell? ⟨r,0,none⟩=some v∧W.cell? ⟨r,1,none⟩=some (.int .i64 i)∧W.cell? ⟨r,2,none⟩=some (.int .i64 fin)∧W.frozen? ⟨r,1,none⟩=false :=
 ⟨za4 h 0,za4 h 1,za4 h 2,za8 h 1⟩
theorem wds_shape {w:World} {v:Value} {ws:List Wd} (h:RWds w [v] ws):∃ a c,v = .slice a ws.length c:=by
 obtain⟨a,cap,hv,_⟩:=h
 simp only[List.cons.injEq,and_true] at hv
 exact⟨a,cap,hv⟩
theorem zen {w:World} {a:Option Addr} {n c:Nat} {ws:List Wd} (h:RWds w [.slice a n c] ws):n=ws.length∧n≤9223372036854775807∧∀ i x,ws[i]? = some x→∃ b off,a=some ⟨b,off,none⟩∧w.cell? ⟨b,off+i * 2,none⟩=some (.int .i64 x.1)∧w.cell? ⟨b,off+i * 2+1,none⟩=some (.string ⟨x.2.toArray⟩)∧x.2.length≤9223372036854775807:=by
 obtain⟨a',cap,hv,hcap,hmax,hel⟩:=h
 simp only[List.cons.injEq,and_true,Value.slice.injEq] at hv
 obtain⟨rfl,hn,_⟩:=hv
 unfold maxLen at hmax
 refine⟨hn,by omega,fun i x hi=>?_⟩
 obtain⟨b,off,ecs,h1,h2,h3,h4,_,h5⟩:=hel i x hi
 subst h4
 unfold maxLen at h5
 exact⟨b,off,h1,by simpa [zb4] using h3 0 _ rfl,by simpa [zb4] using h3 1 _ rfl,by omega⟩
theorem zkr {w:World} {r:Nat} {a:Option Addr} {n c i:Nat} {fin:Int} (h:RBox r (.slice a n c) i fin w):Calls Tryz.prog 159 #[rp r] w fun e w'=>e = .returned (.bool (decide (i < n)))∧∃ q,w'=w.drewN q:=by
 obtain⟨c0,c1,_,_⟩:=zct h
 have k1:decide ((i:Int) < (n:Int))=decide (i < n):=decide_eq_decide.2 (by omega)
 have Hh:=hd h;clear h
 go_enter Tryz.func159,Tryz.ntmps159
 go_wp2_with fail
 go_quiet (fail)
 go_wp2_with fail
 go_ret
 exact⟨rfl,_,rfl⟩
abbrev zi1 (c:Int):Ending:=.panicked [{ v:=.iface 206 (.agg #[.int .i64 c]),recovered:=false }]
theorem peek_any {w:World} {r:Nat} {a:Option Addr} {n c i:Nat} {fin:Int} {ws:List Wd} (h:RBox r (.slice a n c) i fin w) (hw:RWds w [.slice a n c] ws):Calls Tryz.prog 151 #[rp r] w fun e w'=>e = .returned (.string (zbw ws i))∧∃ q,w'=w.drewN q:=by
 obtain⟨c0,c1,_,_⟩:=zct h
 have hM:=zkr h
 obtain⟨hn,hz,hat⟩:=zen hw
 by_cases hi:i < n
 ·have hi2:i < ws.length:=by omega
  obtain⟨b,off,rfl,_,d1,_⟩:=hat i _ (List.getElem?_eq_getElem hi2)
  rw[zex hi2]
  obtain⟨s,hs⟩ : ∃ s:ByteArray,s=⟨ws[i].2.toArray⟩:=⟨_,rfl⟩
  rw[← hs] at d1 ⊢
  rw[decide_eq_true hi] at hM
  have k5:(0:Int)≤(i:Int):=by omega
  have k6:(i:Int) < (n:Int):=by omega
  clear hs hat
  obtain⟨Hh,HM,Hw,Hn⟩:=hd4 h hM hw hn;clear h hM hw hn
  go_enter Tryz.func151,Tryz.ntmps151
  go_wp2_with fail
  refine HM.out.mono ?_
  rintro e w1 ⟨rfl,q,rfl⟩
  go_wp2_with fail
  go_quiet (fail)
  go_wp2_with fail
  go_ret
  exact⟨rfl,_,World.drewN_drewN _ _ _⟩
 rw[zd9 (by omega)]
 rw[decide_eq_false hi] at hM
 clear hat
 obtain⟨Hh,HM,Hw,Hn⟩:=hd4 h hM hw hn;clear h hM hw hn
 go_enter Tryz.func151,Tryz.ntmps151
 go_wp2_with fail
 refine HM.out.mono ?_
 rintro e w1 ⟨rfl,q,rfl⟩
 go_wp2_with fail
 go_ret
 exact⟨rfl,_,rfl⟩
theorem throw_any {w:World} {r:Nat} {a:Option Addr} {n c i:Nat} {fin:Int} {ws:List Wd} (h:RBox r (.slice a n c) i fin w) (hw:RWds w [.slice a n c] ws):Calls Tryz.prog 157 #[rp r] w fun e w'=>e=zi1 (zb2 ws fin i)∧∃ q,w'=w.drewN q:=by
 obtain⟨c0,c1,c2,_⟩:=zct h
 have hM:=zkr h
 obtain⟨hn,hz,hat⟩:=zen hw
 by_cases hi:i < n
 ·have hi2:i < ws.length:=by omega
  obtain⟨b,off,rfl,d0,_,_⟩:=hat i _ (List.getElem?_eq_getElem hi2)
  rw[zl7 hi2]
  obtain⟨s,hs⟩ : ∃ s,s=ws[i].1:=⟨_,rfl⟩
  rw[← hs] at d0 ⊢
  rw[decide_eq_true hi] at hM
  have k5:(0:Int)≤(i:Int):=by omega
  have k6:(i:Int) < (n:Int):=by omega
  clear hs hat
  obtain⟨Hh,HM,Hw,Hn⟩:=hd4 h hM hw hn;clear h hM hw hn
  go_enter Tryz.func157,Tryz.ntmps157
  go_wp2_with fail
  refine HM.out.mono ?_
  rintro e w1 ⟨rfl,q,rfl⟩
  go_wp2_with fail
  refine wp_region_held_drew (S:=fun w'=>w'.cell? ⟨r,0,none⟩=some (.slice (some ⟨b,off,none⟩) n c)∧w'.cell? ⟨r,1,none⟩=some (.int .i64 i)∧w'.cell? ⟨b,off+i * 2,none⟩=some (.int .i64 s)) (by kernel_rfl) (by exact⟨c0,c1,d0⟩) (fun hHeld=>?_)
  refine wpAnyH_take (i:=0) (v:=?_) rfl (by kernel_rfl) (by kernel_rfl) (by kernel_rfl) (fun _ _ _ h=>h) (Or.inl ⟨by kernel_rfl,?_⟩) (by assumption) ?_
  rotate_left
  ·(intro w hSw;(try dsimp only at hSw);(try obtain⟨e0,e1,e2⟩:=hSw);go_simp;try with_reducible rfl)
  try simp only[Act.put,lA,lB,lC]
  refine wpAnyH_take (i:=1) (v:=?_) rfl (by kernel_rfl) (by kernel_rfl) (by kernel_rfl) (fun _ _ _ h=>h) (Or.inl ⟨by kernel_rfl,?_⟩) (by assumption) ?_
  rotate_left
  ·(intro w hSw;(try dsimp only at hSw);(try obtain⟨e0,e1,e2⟩:=hSw);go_simp;try with_reducible rfl)
  try simp only[Act.put,lA,lB,lC]
  refine wpAnyH_take (i:=2) (v:=?_) rfl (by kernel_rfl) (by kernel_rfl) (by kernel_rfl) (fun _ _ _ h=>h) (Or.inl ⟨by kernel_rfl,?_⟩) (by assumption) ?_
  rotate_left
  ·(intro w hSw;(try dsimp only at hSw);(try obtain⟨e0,e1,e2⟩:=hSw);go_simp;try with_reducible rfl)
  try simp only[Act.put,lA,lB,lC]
  refine wpAnyH_take (i:=3) (v:=?_) rfl (by kernel_rfl) (by kernel_rfl) (by kernel_rfl) (fun _ _ _ h=>h) (Or.inl ⟨by kernel_rfl,?_⟩) (by assumption) ?_
  rotate_left
  ·(intro w hSw;(try dsimp only at hSw);(try obtain⟨e0,e1,e2⟩:=hSw);go_simp;try with_reducible rfl)
  try simp only[Act.put,lA,lB,lC]
  refine wpAnyH_take (i:=4) (v:=?_) rfl (by kernel_rfl) (by kernel_rfl) (by kernel_rfl) (fun _ _ _ h=>h) (Or.inl ⟨by kernel_rfl,?_⟩) (by assumption) ?_
  rotate_left
  ·(intro w hSw;(try dsimp only at hSw);(try obtain⟨e0,e1,e2⟩:=hSw);go_simp;try with_reducible rfl)
  try simp only[Act.put,lA,lB,lC]
  refine wpAnyH_take (i:=5) (v:=?_) rfl (by kernel_rfl) (by kernel_rfl) (by kernel_rfl) (fun _ _ _ h=>h) (Or.inl ⟨by kernel_rfl,?_⟩) (by assumption) ?_
  rotate_left
  ·(intro w hSw;(try dsimp only at hSw);(try obtain⟨e0,e1,e2⟩:=hSw);go_simp;try with_reducible rfl)
  try simp only[Act.put,lA,lB,lC]
  refine wpAnyH_take (i:=6) (v:=?_) rfl (by kernel_rfl) (by kernel_rfl) (by kernel_rfl) (fun _ _ _ h=>h) (Or.inl ⟨by kernel_rfl,?_⟩) (by assumption) ?_
  rotate_left
  ·(intro w hSw;(try dsimp only at hSw);(try obtain⟨e0,e1,e2⟩:=hSw);go_simp;try with_reducible rfl)
  try simp only[Act.put,lA,lB,lC]
  refine wpAnyH_take (i:=7) (v:=?_) rfl (by kernel_rfl) (by kernel_rfl) (by kernel_rfl) (fun _ _ _ h=>h) (Or.inl ⟨by kernel_rfl,?_⟩) (by assumption) ?_
  rotate_left
  ·(intro w hSw;(try dsimp only at hSw);(try obtain⟨e0,e1,e2⟩:=hSw);go_simp;try with_reducible rfl)
  try simp only[Act.put,lA,lB,lC]
  refine wpAnyH_take (i:=8) (v:=?_) rfl (by kernel_rfl) (by kernel_rfl) (by kernel_rfl) (fun _ _ _ h=>h) (Or.inl ⟨by kernel_rfl,?_⟩) (by assumption) ?_
  rotate_left
  ·(intro w hSw;(try dsimp only at hSw);(try obtain⟨e0,e1,e2⟩:=hSw);go_simp;try with_reducible rfl)
  try simp only[Act.put,lA,lB,lC]
  refine wpAnyH_take (i:=9) (v:=?_) rfl (by kernel_rfl) (by kernel_rfl) (by kernel_rfl) (fun _ _ _ h=>h) (Or.inl ⟨by kernel_rfl,?_⟩) (by assumption) ?_
  rotate_left
  ·(intro w hSw;(try dsimp only at hSw);(try obtain⟨e0,e1,e2⟩:=hSw);go_simp;try with_reducible rfl)
  try simp only[Act.put,lA,lB,lC]
  refine wpAnyH_take (i:=10) (v:=?_) rfl (by kernel_rfl) (by kernel_rfl) (by kernel_rfl) (fun _ _ _ h=>h) (Or.inl ⟨by kernel_rfl,?_⟩) (by assumption) ?_
  rotate_left
  ·(intro w hSw;(try dsimp only at hSw);(try obtain⟨e0,e1,e2⟩:=hSw);go_simp;try with_reducible rfl)
  try simp only[Act.put,lA,lB,lC]
  refine wpAnyH_take (i:=11) (v:=?_) rfl (by kernel_rfl) (by kernel_rfl) (by kernel_rfl) (fun _ _ _ h=>h) (Or.inl ⟨by kernel_rfl,?_⟩) (by assumption) ?_
  rotate_left
  ·(intro w hSw;(try dsimp only at hSw);(try obtain⟨e0,e1,e2⟩:=hSw);go_simp;try with_reducible rfl)
  try simp only[Act.put,lA,lB,lC]
  refine wpAnyH_take (i:=12) (v:=?_) rfl (by kernel_rfl) (by kernel_rfl) (by kernel_rfl) (fun _ _ _ h=>h) (Or.inl ⟨by kernel_rfl,?_⟩) (by assumption) ?_
  rotate_left
  ·(intro w hSw;(try dsimp only at hSw);(try obtain⟨e0,e1,e2⟩:=hSw);go_simp;try with_reducible rfl)
  try simp only[Act.put,lA,lB,lC]
  refine wpAnyH_ready (rs:=[13]) (by kernel_rfl) (by simp) ?_
  refine AllReadyH.cons rfl (fun K hK=>?_) AllReadyH.nil
  go_simp
  exact⟨rfl,rfl,_,rfl⟩
 rw[zpw (by omega)]
 rw[decide_eq_false hi] at hM
 clear hat
 obtain⟨Hh,HM,Hw,Hn⟩:=hd4 h hM hw hn;clear h hM hw hn
 go_enter Tryz.func157,Tryz.ntmps157
 go_wp2_with fail
 refine HM.out.mono ?_
 rintro e w1 ⟨rfl,q,rfl⟩
 go_wp2_with fail
 exact⟨rfl,rfl,_,rfl⟩
theorem zk6 (w:World) (r:Nat):Calls Tryz.prog 158 #[rp r,.bool true] w fun e w'=>e = .returned (.tuple #[])∧w'=w:=by
 go_enter Tryz.func158,Tryz.ntmps158
 go_wp2_with fail
 go_end0
 exact⟨rfl,rfl⟩
theorem want_no {w:World} {r:Nat} {a:Option Addr} {n c i:Nat} {fin:Int} {ws:List Wd} (h:RBox r (.slice a n c) i fin w) (hw:RWds w [.slice a n c] ws):Calls Tryz.prog 158 #[rp r,.bool false] w fun e w'=>e=zi1 (zb2 ws fin i)∧∃ q,w'=w.drewN q:=by
 have hT:=throw_any h hw
 obtain⟨HT,Hh,Hw⟩:=hd3 hT h hw;clear hT h hw
 go_enter Tryz.func158,Tryz.ntmps158
 go_wp2_with fail
 refine HT.out.mono ?_
 rintro e w1 ⟨rfl,q,rfl⟩
 go_wp2_with fail
 exact⟨rfl,rfl,_,rfl⟩
end

section
open Go.Shelf Go.RowKit Go.Lib VerN
open LexM (Wd)
attribute [local go_sem ↓] Go.wp_at_zero Go.wp_at_succ
structure RdC (w0:World) (r:Nat) (a:Option Addr) (n c:Nat) (fin:Int) (ws:List Wd):Prop where
 words:RWds w0 [.slice a n c] ws
 doors:zbi w0
 low:w0.heap.size≤r
 n1000:n≤1000
 sz:∀ x∈ws,x.2.length≤70000
structure RdS (w0:World) (r:Nat) (a:Option Addr) (n c:Nat) (fin:Int) (i:Nat) (W:World):Prop where
 box:RBox r (.slice a n c) i fin W
 bel:Below w0.heap.size w0 W
section
variable {w0 W W' : World} {r : Nat} {a : Option Addr} {n c : Nat} {fin : Int} {ws : List Wd} {i : Nat}
theorem RdC.len (C:RdC w0 r a n c fin ws):n=ws.length:=(zen C.words).1
theorem RdC.wds (C:RdC w0 r a n c fin ws) (S:RdS w0 r a n c fin i W):RWds W [.slice a n c] ws:=zaf zbg _ _ _ _ C.words S.bel
theorem RdS.to (S:RdS w0 r a n c fin i W) (h:Below W.heap.size W W'):RdS w0 r a n c fin i W':=⟨za0 h S.box,S.bel.trans (h.mono S.bel.size)⟩
theorem RdS.drewN (S:RdS w0 r a n c fin i W) (q:Nat):RdS w0 r a n c fin i (W.drewN q):=S.to (zak (Below.refl _ _) q)
theorem RdC.dr (C:RdC w0 r a n c fin ws) (S:RdS w0 r a n c fin i W):zbi W:=C.doors.below S.bel
theorem RdC.peek (C:RdC w0 r a n c fin ws) (S:RdS w0 r a n c fin i W):Calls Tryz.prog 151 #[rp r] W fun e w'=>e = .returned (.string (zbw ws i))∧∃ q,w'=W.drewN q:=peek_any S.box (C.wds S)
theorem RdC.more (_:RdC w0 r a n c fin ws) (S:RdS w0 r a n c fin i W):Calls Tryz.prog 159 #[rp r] W fun e w'=>e = .returned (.bool (decide (i < n)))∧∃ q,w'=W.drewN q:=zkr S.box
theorem RdC.want (C:RdC w0 r a n c fin ws) (S:RdS w0 r a n c fin i W):Calls Tryz.prog 158 #[rp r,.bool false] W fun e w'=>e=zi1 (zb2 ws fin i)∧∃ q,w'=W.drewN q:=want_no S.box (C.wds S)
theorem RdC.peek_size (C:RdC w0 r a n c fin ws) (i:Nat):(zbw ws i).size≤70000:=by
 by_cases h:i < ws.length
 ·rw[zex h]
  show (ws[i].2.toArray).size≤_
  rw[List.size_toArray]
  exact C.sz _ (List.getElem_mem h)
 rw[zd9 (by omega)]
 decide
theorem RdS.on (S:RdS w0 r a n c fin i W) (hlow:w0.heap.size≤r):RdS w0 r a n c fin (i+1) (W.setCell ⟨r,1,none⟩ (.int .i64 ((i:Int)+1))) :=
 ⟨heap_setCell_same _ r 1 _ _ _ S.box,S.bel.setCell (p:=⟨r,1,none⟩) hlow _⟩
end
theorem zgq (c:UInt8) (s:ByteArray):(cutB c s).1.size≤s.size∧(cutB c s).2.1.size≤s.size:=by
 have e:∀ l:List UInt8,(⟨l.toArray⟩ : ByteArray).size=l.length:=fun l=>rfl
 have h1:(cut s.data.toList [c]).1.length≤s.size∧(cut s.data.toList [c]).2.1.length≤s.size:=by
  rw[← Txt.len]
  unfold cut
  split
  ·exact⟨by simp;omega,by simp⟩
  exact⟨by simp,by simp⟩
 unfold cutB
 exact⟨by rw[e];exact h1.1,by rw[e];exact h1.2⟩
def atOf (r:Nat) (W:World):Nat:=match W.cell? ⟨r,1,none⟩ with
 | some u=>(RowKit.intOf u).toNat
 | none=>0
theorem zq1 {r:Nat} {v:Value} {i:Nat} {fin:Int} {W:World} (h:RBox r v i fin W):atOf r W=i:=by
 unfold atOf
 rw[(zct h).2.1]
 simp[RowKit.intOf]
theorem zi7 (out:List Setg) (x:Setg):(out ++ [x]).flatMap setCells=out.flatMap setCells ++ [.string x.1,.string x.2]:=by simp[setCells]
def SetsPost (r:Nat) (a:Option Addr) (n c:Nat) (fin:Int) (ws:List Wd) (i:Nat) (w:World) (e:Ending) (w':World):Prop :=
 ((∃ l j v,zbf ws i []=(some l,j)∧e = .returned v∧zbj w' v l∧RBox r (.slice a n c) j fin w')∨(∃ j,zbf ws i []=(none,j)∧e=zi1 (zb2 ws fin j)))∧Frm (fun k=>k=r) w w'
structure StI (w0:World) (r:Nat) (a:Option Addr) (n c:Nat) (fin:Int) (ws:List Wd) (i:Nat) (w:World) (k:Nat) (out:List Setg) (v:Value) (W:World):Prop where
 st:RdS w0 r a n c fin (i+k) W
 row:W.ownsRow w.heap.size 109 2 v k (out.flatMap setCells)
 len:out.length=k
 same:zbf ws i []=zbf ws (i+k) out
 frm:Frm (fun x=>x=r) w W
 sz:∀ x∈out,x.1.size≤70000∧x.2.size≤70000
 k1000:k≤1000
theorem StI.reads {w0:World} {r:Nat} {a:Option Addr} {n c:Nat} {fin:Int} {ws:List Wd} {i:Nat} {w:World} {k:Nat} {out:List Setg} {v:Value} {W:World} (h:StI w0 r a n c fin ws i w k out v W):zbj W v out :=
 ⟨zfe (B:=w.heap.size) (fun x hx=>by have:=h.sz x hx;unfold maxLen;omega) (by rw[h.len];exact h.row),fun _=>zgb h.row⟩
theorem StI.to {w0:World} {r:Nat} {a:Option Addr} {n c:Nat} {fin:Int} {ws:List Wd} {i:Nat} {w:World} {k:Nat} {out:List Setg} {v:Value} {W W':World} (h:StI w0 r a n c fin ws i w k out v W) (hb:Below W.heap.size W W'):StI w0 r a n c fin ws i w k out v W' :=
 ⟨h.st.to hb,zae h.row hb,h.len,h.same,h.frm.trans (Frm.of_below (S:=fun _=>False) hb) (fun _ _ h=>h.elim),h.sz,h.k1000⟩
theorem StI.push {w0:World} {r:Nat} {a:Option Addr} {n c:Nat} {fin:Int} {ws:List Wd} {i:Nat} {w:World} {k:Nat} {out:List Setg} {v v9:Value} {W w9:World} (h:StI w0 r a n c fin ws i w k out v W) (hlow:w0.heap.size≤r) (hrw:r < w.heap.size) {x:Setg} (hx:x.1.size≤70000∧x.2.size≤70000)
  (hg:W.grownBy w9 v.ownBlock) (ho:w9.ownsRow w.heap.size 109 2 v9 (k+1) (out.flatMap setCells ++ [.string x.1,.string x.2])) :
  RdS w0 r a n c fin (i+k) w9∧Frm (fun x=>x=r) w w9∧zhl w9 [v9] (out ++ [x])∧(∀ y∈out ++ [x],y.1.size≤70000∧y.2.size≤70000):=by
 have hne:∀ j,v.ownBlock=some j→w.heap.size≤j:=fun j e=>(h.row.lt j e).1
 have hrW:r < W.heap.size:=(Array.getElem?_eq_some_iff.1 h.st.box).1
 have hsz:∀ y∈out ++ [x],y.1.size≤70000∧y.2.size≤70000:=fun y hy=>by
  rcases List.mem_append.1 hy with hy | hy
  ·exact h.sz y hy
  rw[List.mem_singleton] at hy;rw[hy];exact hx
 refine⟨⟨(hg.block r hrW (fun e=>by have:=hne r e.symm;omega)).trans h.st.box,zbt h.st.bel h.row (by omega) hg h.st.bel.size⟩,h.frm.grown hg (fun j e=>.inl (hne j e)),?_,hsz⟩
 refine zfe (B:=w.heap.size) (fun y hy=>by have:=hsz y hy;unfold maxLen;omega) ?_
 rw[List.length_append,h.len,zi7]
 exact ho
theorem StI.next {w0:World} {r:Nat} {a:Option Addr} {n c:Nat} {fin:Int} {ws:List Wd} {i:Nat} {w:World} {k:Nat} {out:List Setg} {v9:Value} {w10:World} (hS:RdS w0 r a n c fin (i+k) w10) (hF:Frm (fun x=>x=r) w w10) {x:Setg} (hsz:∀ y∈out ++ [x],y.1.size≤70000∧y.2.size≤70000) (hlen:out.length=k) (hlow:w0.heap.size≤r) (hrw:r < w.heap.size) (hk:k+1≤1000)
  (ho:w10.ownsRow w.heap.size 109 2 v9 (k+1) (out.flatMap setCells ++ [.string x.1,.string x.2])) (hs:zbf ws i []=zbf ws (i+k+1) (out ++ [x])) :
  StI w0 r a n c fin ws i w (k+1) (out ++ [x]) v9 (w10.setCell ⟨r,1,none⟩ (.int .i64 (((i+k:Nat):Int)+1))) :=
 ⟨hS.on hlow,by rw[zi7];exact zcq ho hrw 1 _,by rw[List.length_append,hlen];rfl,hs,za9 hF 1 _,hsz,hk⟩
theorem zh9 {w0 w:World} {r:Nat} {a:Option Addr} {n c:Nat} {fin:Int} {ws:List Wd} {i:Nat} (C:RdC w0 r a n c fin ws) (S:RdS w0 r a n c fin i w):Calls Tryz.prog 183 #[rp r] w (SetsPost r a n c fin ws i w):=by
 have hrw:r < w.heap.size:=(Array.getElem?_eq_some_iff.1 S.box).1
 have hst:StI w0 r a n c fin ws i w 0 [] (.slice none 0 0) w:=⟨S,World.ownsRow_nil _ _ _ _,rfl,rfl,Frm.refl _ _,(fun x hx=>by simp at hx),Nat.zero_le _⟩
 have hn1:=C.n1000
 obtain⟨HC,HS,Hst⟩:=hd3 C S hst;clear C S hst
 go_enter Tryz.func183,Tryz.ntmps183
 go_wp2_with fail
 go_loopw [3] (fun v wr=>∃ (k:Nat) (out:List Setg),StI w0 r a n c fin ws i w k out v wr) (fun _ wr=>n - atOf r wr)
 case atStart=>exact⟨0,[],Hst.out⟩
 case round =>
  obtain⟨k,out,hI⟩:=hrel
  obtain⟨a1,c1,rfl⟩:=zai hI.row
  have hP:=HC.out.peek hI.st
  have hmeas:atOf r wr=i+k:=zq1 hI.st.box
  obtain⟨s,hs⟩ : ∃ s,s=zbw ws (i+k):=⟨_,rfl⟩
  have hsz:s.size≤70000:=by rw[hs];exact HC.out.peek_size _
  rw[← hs] at hP
  have hCo:=fun (W:World)=>Tryz.strings_Contains_one s 61 W
  obtain⟨hb,hhb⟩ : ∃ b,b=hasB 61 s:=⟨_,rfl⟩
  rw[show decide (0≤indexByte s.data.toList 61)=hb from hhb.symm] at hCo
  obtain⟨wo,hwo⟩ : ∃ W,W=wr:=⟨_,rfl⟩
  rw[← hwo] at hI hP hmeas ⊢
  clear hwo wr
  obtain⟨HI,HP,HCo,Hs,Hhb,Hmeas⟩:=hd6 hI hP hCo hs hhb hmeas;clear hI hP hCo hs hhb hmeas
  go_wp2_with fail
  refine HP.out.mono ?_
  rintro e w1 ⟨rfl,q1,rfl⟩
  have hI1:=HI.out.to (zak (Below.refl _ _) q1)
  generalize wo.drewN q1=W1 at hI1 ⊢
  have HI1:=hd hI1;clear hI1
  go_wp2_with fail
  refine (HCo.out _).mono ?_
  rintro e w1 ⟨rfl,rfl⟩
  cases hb with
  | false =>
   go_wp2_with fail
   go_ret
   exact⟨.inl ⟨out,i+k,_,by rw[HI1.out.same];exact zjj (by rw[← Hs.out];exact Hhb.out.symm),rfl,HI1.out.reads,HI1.out.st.box⟩,HI1.out.frm⟩
  | true =>
   have hP2:=HC.out.peek HI1.out.st
   rw[← Hs.out] at hP2
   have HP2:=hd hP2;clear hP2
   go_wp2_with fail
   refine HP2.out.mono ?_
   rintro e w1 ⟨rfl,q2,rfl⟩
   have hI2:=HI1.out.to (zak (Below.refl _ _) q2)
   generalize w1.drewN q2=W2 at hI2 ⊢
   obtain⟨mx,hmx⟩:=(HC.out.dr hI2.st).max
   have hCut:=Tryz.strings_Cut s ⟨#[61]⟩ mx W2 (by omega) hmx
   clear hmx
   obtain⟨nm,hnm⟩ : ∃ x:ByteArray,x=⟨(cut s.data.toList [61]).1.toArray⟩:=⟨_,rfl⟩
   obtain⟨vl,hvl⟩ : ∃ x:ByteArray,x=⟨(cut s.data.toList [61]).2.1.toArray⟩:=⟨_,rfl⟩
   obtain⟨fl,hfl⟩ : ∃ x:Bool,x=(cut s.data.toList [61]).2.2:=⟨_,rfl⟩
   simp only[← hnm,← hvl,← hfl] at hCut
   have hsg:zkg s=(nm,vl):=by unfold zkg cutB;rw[hnm,hvl]
   have hsgz:nm.size≤70000∧vl.size≤70000:=by
    have:=zgq 61 s
    have e1:nm=(cutB 61 s).1:=hnm
    have e2:vl=(cutB 61 s).2.1:=hvl
    rw[e1,e2]
    omega
   have hlt:i+k < n:=by rw[HC.out.len];exact zpn (by rw[← Hs.out];exact Hhb.out.symm)
   obtain⟨HCut,HI2,Hnm,Hvl,Hfl,Hsg,Hsgz⟩:=hd7 hCut hI2 hnm hvl hfl hsg hsgz;clear hCut hI2 hnm hvl hfl hsg hsgz
   go_wp2_with fail
   refine HCut.out.mono ?_
   rintro e w1 ⟨rfl,q3,rfl⟩
   have hI3:=HI2.out.to (zak (Below.refl _ _) q3)
   generalize W2.drewN q3=W3 at hI3 ⊢
   have hrow3:=hI3.row
   have hbW3:w.heap.size≤W3.heap.size:=hI3.frm.size
   have hk1:=hI3.k1000
   obtain⟨N,hN⟩ : ∃ N,N=out.flatMap setCells:=⟨_,rfl⟩
   rw[← hN] at hrow3
   obtain⟨HI3,Hrow3,HN⟩:=hd3 hI3 hrow3 hN;clear hI3 hrow3 hN
   go_wp2_with (at_builtin;(refine zaw zpp rfl (.tmp 18) (.tmp 22) rfl w.heap.size (.slice a1 k c1) k N rfl Hrow3.out 1 #[.string nm,.string vl] rfl rfl (by simp[Value.oneCell']) (by omega) (by unfold maxLen;omega) hbW3 ?_;intro v9 w9 hown9 hg9 hm9;obtain⟨a9,c9,rfl⟩:=zai hown9;obtain⟨Hown9,Hg9⟩:=hd2 hown9 hg9;clear hown9 hg9 hm9))
   have ho9:=Hown9.out
   rw[HN.out] at ho9
   obtain⟨hS9,hF9,hR9,hZ9⟩:=HI3.out.push HC.out.low hrw (x:=(nm,vl)) Hsgz.out Hg9.out ho9
   have hW:=zqa hR9
   obtain⟨b,hb⟩ : ∃ b,b=ze4 (out ++ [(nm,vl)]):=⟨_,rfl⟩
   rw[← hb] at hW
   obtain⟨Ho9,HS9,HF9,HR9,HZ9,HW,Hb⟩:=hd7 ho9 hS9 hF9 hR9 hZ9 hW hb;clear ho9 hS9 hF9 hR9 hZ9 hW hb
   refine HW.out.mono ?_
   rintro e w10 ⟨rfl,hb10⟩
   have hS10:=HS9.out.to hb10
   have hF10:=HF9.out.trans (Frm.of_below (S:=fun _=>False) hb10) (fun _ _ h=>h.elim)
   have ho10:=zae Ho9.out hb10
   cases b with
   | false =>
    have hWn:=HC.out.want hS10
    obtain⟨HS10,HF10,Ho10,HWn,Hb10⟩:=hd5 hS10 hF10 ho10 hWn hb10;clear hS10 hF10 ho10 hWn hb10
    go_wp2_with fail
    refine HWn.out.mono ?_
    rintro e w11 ⟨rfl,q4,rfl⟩
    go_wp2_with fail
    refine⟨rfl,.inr ⟨i+k,?_,rfl⟩,HF10.out.drewN q4⟩
    rw[HI3.out.same]
    exact zi9 (by rw[← Hs.out];exact Hhb.out.symm) (by rw[← Hs.out,Hsg.out];exact Hb.out.symm)
   | true =>
    obtain⟨m,hm⟩ : ∃ m,m=i+k:=⟨_,rfl⟩
    have hsm:zbf ws i []=zbf ws (i+k+1) (out ++ [(nm,vl)]):=by
     rw[HI3.out.same,zi8 (by rw[← Hs.out];exact Hhb.out.symm) (by rw[← Hs.out,Hsg.out];exact Hb.out.symm),← Hs.out,Hsg.out]
    have hnx:=StI.next hS10 hF10 HZ9.out HI3.out.len HC.out.low hrw (by omega) ho10 hsm
    rw[← hm] at hS10 hnx hlt
    obtain⟨_,c1',_,c3'⟩:=zct hS10.box
    have hme:=Hmeas.out
    rw[← hm] at hme
    obtain⟨HS10,HF10,Ho10,Hb10,Hm,Hsm,Hnx⟩:=hd7 hS10 hF10 ho10 hb10 hm hsm hnx;clear hS10 hF10 ho10 hb10 hm hsm hnx
    go_wp2_with fail
    refine (zk6 w10 r).mono ?_
    rintro e w11 ⟨rfl,hw11⟩
    subst hw11
    go_wp2_with fail
    go_roundw
    case rel=>exact⟨k+1,_,Hnx.out⟩
    case measure =>
     rw[zq1 (i:=m+1) (fin:=fin) (v:=.slice a n c) ?_,hme]
     ·omega
     have:=Hnx.out.st.box
     rw[show i+(k+1)=m+1 by rw[Hm.out];rfl] at this
     exact this
end

section
open Go.RowKit Go.Shelf Go.Lib VerN
theorem zkb (s t a b:ByteArray) (W:World):(binOp .neq 34 (.agg #[.string s,.string t]) (.agg #[.string a,.string b])).run Tryz.prog W = .ok (.bool (!(decide (s=a) && decide (t=b)))) W:=by
 have u9:=Tryz.underlying9
 have hS:Tryz.prog.underlying 34=some (.struct (Tryz.prog.fieldsOf 34)):=by kernel_rfl
 have hp:Tryz.prog.stoodInHeld 34=false:=by kernel_rfl
 rw[run_neq_struct,show (10000:Nat)=9999+1 from rfl,run_equalIn_agg W 9999 34 _ _ hS hp]
 simp only[Program.fieldsOf,Tryz.underlying34]
 go_simp
 have e1:=Txt.eq_dec s a
 have e2:=Txt.eq_dec t b
 by_cases h1:s=a <;> by_cases h2:t=b <;> simp[h1,h2] at e1 e2 ⊢ <;> simp_all
theorem zlv {w:World} {v u:Value} {l m:List BSp} (h:RSps w [v] l) (hm:RSps w [u] m):Calls Tryz.prog 18 #[v,u] w fun e w'=>e = .returned (.bool (decide (l=m)))∧∃ q,w'=w.drewN q:=by
 obtain⟨a,cap,rfl,hz,g⟩:=zfd h
 obtain⟨a2,cap2,rfl,hz2,g2⟩:=zfd hm
 obtain⟨n,hn⟩ : ∃ n,n=l.length:=⟨_,rfl⟩
 obtain⟨n2,hn2⟩ : ∃ n,n=m.length:=⟨_,rfl⟩
 obtain⟨r,hr⟩ : ∃ r,r=decide (l=m):=⟨_,rfl⟩
 have q1:=fun s t a b=>zkb s t a b
 rw[← hr]
 rw[← hn] at hz h ⊢
 rw[← hn2] at hz2 hm ⊢
 obtain⟨Hh,Hm,Hg,Hg2,Hn,Hn2,Hr,Hq1⟩:=hd8 h hm g g2 hn hn2 hr q1;clear h hm g g2 hn hn2 hr q1
 go_enter Tryz.func18,Tryz.ntmps18
 by_cases hne:n=n2
 case neg =>
  have k1:((n:Int) != (n2:Int))=true:=by simp;omega
  have hf:r=false:=by rw[Hr.out,decide_eq_false_iff_not];intro e;exact hne (by rw[Hn.out,Hn2.out,e])
  obtain⟨Hf,Hne⟩:=hd2 hf hne;clear hf hne
  go_wp2_with fail
  go_ret
  exact⟨zad Hf.out.symm,0,rfl⟩
 have k1:((n:Int) != (n2:Int))=false:=by simp;omega
 have Hne:=hd hne;clear hne
 go_wp2_with fail
 clear k1
 go_loopw [13] (fun i wr=>∃ k:Nat,k≤n∧i = .int .i64 k∧(∀ j (h1:j < l.length) (h2:j < m.length),j < k→l[j]=m[j])∧∃ q,wr=w.drewN q) (fun i _=>n - (RowKit.intOf i).toNat)
 case atStart=>exact⟨0,Nat.zero_le _,rfl,fun _ _ _ h=>by omega,0,rfl⟩
 case round =>
  obtain⟨k,hk,rfl,hno,q,rfl⟩:=hrel
  by_cases hlt:k < n
  ·have hkl:k < l.length:=by have:=Hn.out;omega
   have hkm:k < m.length:=by have:=Hn2.out;have:=Hne.out;omega
   obtain⟨b,off,rfl,d0,d1,_,_⟩:=Hg.out k _ (List.getElem?_eq_getElem hkl)
   obtain⟨b2,off2,rfl,f0,f1,_,_⟩:=Hg2.out k _ (List.getElem?_eq_getElem hkm)
   have hnx:l[k]=m[k]→∀ j (h1:j < l.length) (h2:j < m.length),j < k+1→l[j]=m[j]:=fun h j h1 h2 hjk=>by
    by_cases e:j=k
    ·subst e;exact h
    exact hno j h1 h2 (by omega)
   have hbd:l[k]≠m[k]→l≠m:=fun h e=>h (by subst e;rfl)
   obtain⟨x,hx⟩ : ∃ x,x=l[k]:=⟨_,rfl⟩
   obtain⟨y,hy⟩ : ∃ x,x=m[k]:=⟨_,rfl⟩
   rw[← hx] at d0 d1 hnx hbd
   rw[← hy] at f0 f1 hnx hbd
   have q2:=Hq1.out x.1 x.2 y.1 y.2
   have hxy:(decide (x.1=y.1) && decide (x.2=y.2))=decide (x=y):=by
    rw[Bool.eq_iff_iff]
    simp[Prod.ext_iff]
   rw[hxy] at q2
   obtain⟨s,hs⟩ : ∃ s,s=x.1:=⟨_,rfl⟩
   obtain⟨t,ht⟩ : ∃ s,s=x.2:=⟨_,rfl⟩
   obtain⟨s',hs'⟩ : ∃ s,s=y.1:=⟨_,rfl⟩
   obtain⟨t',ht'⟩ : ∃ s,s=y.2:=⟨_,rfl⟩
   rw[← hs,← ht,← hs',← ht'] at q2
   rw[← hs] at d0
   rw[← ht] at d1
   rw[← hs'] at f0
   rw[← ht'] at f1
   have k5:(0:Int)≤(k:Int):=by omega
   have k6:(k:Int) < (n:Int):=by omega
   have k7:(k:Int) < (n2:Int):=by have:=Hne.out;omega
   clear hxy
   by_cases e:x=y
   ·have hq:=hnx e
    rw[decide_eq_true e] at q2
    simp only[Bool.not_true] at q2
    clear e
    obtain⟨Hno,Hnx,Hbd,Hx,Hy,Hs,Ht,Hs',Ht',Hq⟩:=hd10 hno hnx hbd hx hy hs ht hs' ht' hq;clear hno hnx hbd hx hy hs ht hs' ht' hq
    go_wp2_with fail
    go_region
    go_wp2_with fail
    go_roundw
    case rel=>exact⟨k+1,by omega,by go_num,Hq.out,_,rfl⟩
    case measure=>simp[RowKit.intOf];omega
   have hf:r=false:=by rw[Hr.out,decide_eq_false_iff_not];exact hbd e
   rw[decide_eq_false e] at q2
   simp only[Bool.not_false] at q2
   clear e
   obtain⟨Hno,Hnx,Hbd,Hx,Hy,Hs,Ht,Hs',Ht',Hf⟩:=hd10 hno hnx hbd hx hy hs ht hs' ht' hf;clear hno hnx hbd hx hy hs ht hs' ht' hf
   go_wp2_with fail
   go_region
   go_wp2_with fail
   go_ret
   exact⟨zad Hf.out.symm,_,rfl⟩
  obtain rfl:n=k:=by omega
  have hf:r=true:=by
   rw[Hr.out,decide_eq_true_eq]
   exact List.ext_getElem (by rw[← Hn.out,← Hn2.out,Hne.out]) (fun j h1 h2=>hno j h1 h2 (by have:=Hn.out;omega))
  obtain⟨Hno,Hf⟩:=hd2 hno hf;clear hno hf
  go_wp2_with fail
  go_ret
  exact⟨zad Hf.out.symm,_,rfl⟩
end

section
open Go.Shelf Go.RowKit Go.Lib VerN
attribute [local go_sem ↓] Go.wp_at_zero Go.wp_at_succ
theorem zow (w:World):RSps w [.slice none 0 0] []:=⟨_,0,rfl,Nat.zero_le _,Nat.zero_le _,fun i x hi=>by simp at hi⟩
theorem rdPost_to {t:ByteArray} {w w':World} {e:Ending} (h:RdPost t w e w'):zf7 t w e w':=by
 obtain⟨h,hb⟩:=h
 refine⟨?_,hb⟩
 rcases h with⟨v,rfl,⟨h0,rfl⟩ | ⟨h0,h1,h2,h3⟩⟩ | ⟨rfl,h0,h1⟩
 ·exact .inl ⟨_,rfl,.inl h0,by unfold rdV;rw[if_pos h0];exact zox (zow _)⟩
 ·refine .inl ⟨_,rfl,.inr ⟨h1,h2⟩,?_⟩
  unfold rdV
  rw[if_neg h0]
  obtain⟨l,hl⟩:=rd_ok t h1
  rw[← hl] at h3 ⊢
  exact⟨zdn (fun x hx=>by have:=zev l x hx;unfold maxLen;omega) h3,fun _=>zgb h3⟩
 refine .inr ⟨_,rfl,?_,zow _⟩
 rintro (h | ⟨k1,k2⟩)
 ·exact h0 h
 rcases h1 with⟨p,hp,hk⟩ | h1
 ·rw[k1 p hp] at hk;cases hk
 obtain⟨l,hl⟩:=rd_ok t k1
 exact h1 l hl (k2 l hl)
theorem spsRd_any (t:ByteArray) (ht:t.size≤70000) {w:World} (hD:zbi w):Calls Tryz.prog 16 #[.string t] w (zf7 t w):=(znd t ht hD).mono fun _ _ h=>rdPost_to h
def zl9 (t:ByteArray) (w:World) (e:Ending) (w':World):Prop :=
 ∃ a n c,e = .returned (.tuple #[.slice a n c,.bool (zfl t)])∧(zfl t=true→zdk w' (.slice a n c) (rdV t))∧Below w.heap.size w w'
open Classical in
theorem zlq {t:ByteArray} (h:Rd3 t) {x:BSp} {r:List BSp} (hr:rdV t=x :: r) (hx:(decide (x.1=⟨#[]⟩) && decide (x.2=⟨#[]⟩))=false):zfl t=true:=by
 unfold zfl
 rw[decide_eq_true_eq]
 refine⟨h,by rw[hr];simp,by rw[hr];rintro e;simp at e;rw[e] at hx;simp at hx⟩
open Classical in
theorem zlr {t:ByteArray} {x:BSp} {r:List BSp} (hr:rdV t=x :: r) (hx:(decide (x.1=⟨#[]⟩) && decide (x.2=⟨#[]⟩))=true):zfl t=false:=by
 unfold zfl
 rw[decide_eq_false_iff_not]
 rintro⟨_,_,h⟩
 rw[hr] at h
 simp only[Bool.and_eq_true,decide_eq_true_eq] at hx
 exact h (by rw[List.head?_cons];exact congrArg some (Prod.ext hx.1 hx.2))
open Classical in
theorem zls {t:ByteArray} (hr:rdV t = []):zfl t=false:=by
 unfold zfl
 rw[decide_eq_false_iff_not]
 rintro⟨_,h,_⟩
 exact h hr
open Classical in
theorem zp2 {t:ByteArray} (h:¬ Rd3 t):zfl t=false:=by
 unfold zfl
 rw[decide_eq_false_iff_not]
 exact fun k=>h k.1
theorem zl8 (x:ByteArray):(x.toList == (⟨#[]⟩ : ByteArray).toList)=decide (x=⟨#[]⟩):=Txt.eq_dec _ _
theorem zou:(⟨#[]⟩ : ByteArray).toList = []:=by rw[Lib.toList_data]
theorem set_any (t:ByteArray) (ht:t.size≤70000) {w:World} (hD:zbi w):Calls Tryz.prog 182 #[.string t] w (zl9 t w):=by
 have hR:=spsRd_any t ht hD
 obtain⟨HR,HD⟩:=hd2 hR hD;clear hR hD
 go_enter Tryz.func182,Tryz.ntmps182
 go_wp2_with fail
 refine HR.out.mono ?_
 rintro e w1 ⟨⟨v,rfl,hr,hv⟩ | ⟨v,rfl,hr,hv⟩,hb⟩
 ·obtain⟨a,c,rfl⟩:=zc8 hv.1
  have hat:=zh7 hv.1
  obtain⟨n,hn⟩ : ∃ n,n=(rdV t).length:=⟨_,rfl⟩
  rw[← hn] at hv ⊢
  match hL:rdV t with
  | [] =>
   have hf:=zls hL
   rw[hL] at hn
   obtain rfl:n=0:=hn
   clear hat hL
   obtain⟨Hr,Hv,Hf,Hb⟩:=hd4 hr hv hf hb;clear hr hv hf hb
   go_wp2_with fail
   go_quiet (fail)
   go_wp2_with fail
   go_ret2
   exact⟨_,_,_,by rw[Hf.out];rfl,(fun k=>by rw[Hf.out] at k;cases k),zak Hb.out _⟩
  | x :: rr =>
   obtain⟨b,off,rfl,c0,c1⟩:=hat 0 x (by rw[hL];rfl)
   simp only[Nat.zero_mul,Nat.add_zero] at c0 c1
   have hn1:0 < n:=by rw[hn,hL];simp
   have k1:decide ((0:Int) < (n:Int))=true:=decide_eq_true (by omega)
   have k2:((n:Int) == 0)=false:=by rw[beq_eq_false_iff_ne];omega
   have q1:=fun (W:World)=>zkb x.1 x.2 ⟨#[]⟩ ⟨#[]⟩ W
   obtain⟨y,hy⟩ : ∃ y,y=x.1:=⟨_,rfl⟩
   obtain⟨z,hz⟩ : ∃ y,y=x.2:=⟨_,rfl⟩
   have hyes:=zlq hr hL
   have hone:=zlr hL
   rw[← hy,← hz] at hyes hone q1
   rw[← hy] at c0
   rw[← hz] at c1
   have x1:=zl8 y
   have x2:=zl8 z
   rw[zou] at x1 x2
   have k5:(0:Int) < (n:Int):=by omega
   obtain⟨p1,hp1⟩ : ∃ p,p=decide (y=⟨#[]⟩):=⟨_,rfl⟩
   obtain⟨p2,hp2⟩ : ∃ p,p=decide (z=⟨#[]⟩):=⟨_,rfl⟩
   rw[← hp1] at x1
   rw[← hp2] at x2
   rw[← hp1,← hp2] at hyes hone q1
   clear hat
   cases p1 with
   | false =>
    have hf:=hyes rfl
    obtain⟨Hr,Hv,Hf,Hb,HL,Hn,Hy,Hz,Hyes,Hone,Hp1,Hp2⟩:=hd12 hr hv hf hb hL hn hy hz hyes hone hp1 hp2;clear hr hv hf hb hL hn hy hz hyes hone hp1 hp2
    go_wp2_with fail
    go_quiet (fail)
    go_wp2_with fail
    go_ret2
    exact⟨_,_,_,by rw[Hf.out];rfl,(fun _=>zap Hv.out (zak (Below.refl _ _) _)),zak Hb.out _⟩
   | true =>
    cases p2 with
    | false =>
     have hf:=hyes rfl
     obtain⟨Hr,Hv,Hf,Hb,HL,Hn,Hy,Hz,Hyes,Hone,Hp1,Hp2⟩:=hd12 hr hv hf hb hL hn hy hz hyes hone hp1 hp2;clear hr hv hf hb hL hn hy hz hyes hone hp1 hp2
     go_wp2_with fail
     go_quiet (fail)
     go_wp2_with fail
     go_ret2
     exact⟨_,_,_,by rw[Hf.out];rfl,(fun _=>zap Hv.out (zak (Below.refl _ _) _)),zak Hb.out _⟩
    | true =>
     have hf:=hone rfl
     obtain⟨Hr,Hv,Hf,Hb,HL,Hn,Hy,Hz,Hyes,Hone,Hp1,Hp2⟩:=hd12 hr hv hf hb hL hn hy hz hyes hone hp1 hp2;clear hr hv hf hb hL hn hy hz hyes hone hp1 hp2
     go_wp2_with fail
     go_quiet (fail)
     go_wp2_with fail
     go_ret2
     exact⟨_,_,_,by rw[Hf.out];rfl,(fun k=>by rw[Hf.out] at k;cases k),zak Hb.out _⟩
 have hf:=zp2 hr
 obtain⟨a,c,rfl⟩:=zc8 hv
 obtain⟨Hr,Hv,Hf,Hb⟩:=hd4 hr hv hf hb;clear hr hv hf hb
 go_wp2_with fail
 go_quiet (fail)
 go_wp2_with fail
 go_ret2
 exact⟨_,_,_,by rw[Hf.out];rfl,(fun k=>by rw[Hf.out] at k;cases k),zak Hb.out _⟩
theorem zqp (t:ByteArray) (ht:t.size≤70000) {w:World}:Calls Tryz.prog 137 #[.string t] w (zl9 t w):=by
 have hR:=zlz t ht w
 have HR:=hd hR;clear hR
 go_enter Tryz.func137,Tryz.ntmps137
 go_wp2_with fail
 refine HR.out.mono ?_
 rintro e w1 ⟨⟨v,rfl,hr,hv⟩ | ⟨v,rfl,hr,hv⟩,hb⟩
 ·obtain⟨a,c,rfl⟩:=zc8 hv.1
  have hat:=zh7 hv.1
  obtain⟨n,hn⟩ : ∃ n,n=(rdV t).length:=⟨_,rfl⟩
  rw[← hn] at hv ⊢
  match hL:rdV t with
  | [] =>
   have hf:=zls hL
   rw[hL] at hn
   obtain rfl:n=0:=hn
   clear hat hL
   obtain⟨Hr,Hv,Hf,Hb⟩:=hd4 hr hv hf hb;clear hr hv hf hb
   go_wp2_with fail
   go_wp2_with fail
   go_ret2
   exact⟨_,_,_,by rw[Hf.out];rfl,(fun k=>by rw[Hf.out] at k;cases k),Hb.out⟩
  | x :: rr =>
   obtain⟨b,off,rfl,c0,c1⟩:=hat 0 x (by rw[hL];rfl)
   simp only[Nat.zero_mul,Nat.add_zero] at c0 c1
   have hn1:0 < n:=by rw[hn,hL];simp
   have k1:decide ((0:Int) < (n:Int))=true:=decide_eq_true (by omega)
   have k2:((n:Int) == 0)=false:=by rw[beq_eq_false_iff_ne];omega
   have q1:=fun (W:World)=>zkb x.1 x.2 ⟨#[]⟩ ⟨#[]⟩ W
   obtain⟨y,hy⟩ : ∃ y,y=x.1:=⟨_,rfl⟩
   obtain⟨z,hz⟩ : ∃ y,y=x.2:=⟨_,rfl⟩
   have hyes:=zlq hr hL
   have hone:=zlr hL
   rw[← hy,← hz] at hyes hone q1
   rw[← hy] at c0
   rw[← hz] at c1
   have x1:=zl8 y
   have x2:=zl8 z
   rw[zou] at x1 x2
   have k5:(0:Int) < (n:Int):=by omega
   obtain⟨p1,hp1⟩ : ∃ p,p=decide (y=⟨#[]⟩):=⟨_,rfl⟩
   obtain⟨p2,hp2⟩ : ∃ p,p=decide (z=⟨#[]⟩):=⟨_,rfl⟩
   rw[← hp1] at x1
   rw[← hp2] at x2
   rw[← hp1,← hp2] at hyes hone q1
   clear hat
   cases p1 with
   | false =>
    have hf:=hyes rfl
    obtain⟨Hr,Hv,Hf,Hb,HL,Hn,Hy,Hz,Hyes,Hone,Hp1,Hp2⟩:=hd12 hr hv hf hb hL hn hy hz hyes hone hp1 hp2;clear hr hv hf hb hL hn hy hz hyes hone hp1 hp2
    go_wp2_with fail
    go_wp2_with fail
    go_ret2
    exact⟨_,_,_,by rw[Hf.out];rfl,(fun _=>Hv.out),Hb.out⟩
   | true =>
    cases p2 with
    | false =>
     have hf:=hyes rfl
     obtain⟨Hr,Hv,Hf,Hb,HL,Hn,Hy,Hz,Hyes,Hone,Hp1,Hp2⟩:=hd12 hr hv hf hb hL hn hy hz hyes hone hp1 hp2;clear hr hv hf hb hL hn hy hz hyes hone hp1 hp2
     go_wp2_with fail
     go_wp2_with fail
     go_ret2
     exact⟨_,_,_,by rw[Hf.out];rfl,(fun _=>Hv.out),Hb.out⟩
    | true =>
     have hf:=hone rfl
     obtain⟨Hr,Hv,Hf,Hb,HL,Hn,Hy,Hz,Hyes,Hone,Hp1,Hp2⟩:=hd12 hr hv hf hb hL hn hy hz hyes hone hp1 hp2;clear hr hv hf hb hL hn hy hz hyes hone hp1 hp2
     go_wp2_with fail
     go_wp2_with fail
     go_ret2
     exact⟨_,_,_,by rw[Hf.out];rfl,(fun k=>by rw[Hf.out] at k;cases k),Hb.out⟩
 have hf:=zp2 hr
 obtain⟨a,c,rfl⟩:=zc8 hv
 obtain⟨Hr,Hv,Hf,Hb⟩:=hd4 hr hv hf hb;clear hr hv hf hb
 go_wp2_with fail
 go_wp2_with fail
 go_ret2
 exact⟨_,_,_,by rw[Hf.out];rfl,(fun k=>by rw[Hf.out] at k;cases k),Hb.out⟩
end

section
open Go.Shelf Go.RowKit Go.Lib VerN VarM
open LexM (Wd)
attribute [local go_sem ↓] Go.wp_at_zero Go.wp_at_succ
def WishPost (r:Nat) (a:Option Addr) (n c:Nat) (fin:Int) (ws:List Wd) (i:Nat) (w:World) (e:Ending) (w':World):Prop :=
 ((∃ s j v1 v2,zbb ws i=(some s,j)∧e = .returned (.agg #[.string s.1,v1,v2])∧zdk w' v1 s.2.1∧zbj w' v2 s.2.2∧RBox r (.slice a n c) j fin w')∨(∃ j,zbb ws i=(none,j)∧e=zi1 (zb2 ws fin j)))∧Frm (fun k=>k=r) w w'
abbrev zan (k:Nat) (x y z:Value) (W:World):Prop:=W.heap[k]? = some (.cells #[x,y,z] 51 (0,0))
theorem zag {k:Nat} {x y z:Value} {W:World} (h:zan k x y z W):W.cell? ⟨k,0,none⟩=some x∧W.cell? ⟨k,1,none⟩=some y∧W.cell? ⟨k,2,none⟩=some z∧W.frozen? ⟨k,0,none⟩=false∧W.frozen? ⟨k,1,none⟩=false∧W.frozen? ⟨k,2,none⟩=false :=
 ⟨za4 h 0,za4 h 1,za4 h 2,za8 h 0,za8 h 1,za8 h 2⟩
theorem zas {S:Nat→Prop} {W W':World} (hF:Frm S W W') {k:Nat} {o:Obj} (h:W.heap[k]? = some o) (hS:¬ S k):W'.heap[k]? = some o:=zbc h hF hS
theorem zhm {W:World} {r g g1:Nat} {v:Value} {i:Nat} {fin:Int} {x0 x1:Value} {a0 a1 b0 b1:Option Addr} {n0 n1 m0 m1 c0 c1 d0 d1:Nat} (h:RBox r v i fin W) (h0:zan g x0 (.slice a0 n0 c0) (.slice b0 m0 d0) W) (h1:zan g1 x1 (.slice a1 n1 c1) (.slice b1 m1 d1) W):No2 W (fun k=>k=r∨k=g∨k=g1):=by
 rintro k (rfl | rfl | rfl)
 ·exact zau h (by decide) (by decide)
 ·exact zau h0 (by decide) (by decide)
 exact zau h1 (by decide) (by decide)
theorem zoq {W7 W8:World} {r g g1:Nat} {v:Value} {i:Nat} {fin:Int} {x y z p q s u:Value} (h0:zan g x y z W7) (h:RBox r v i fin W7) (hr:r≠g) (hr1:r≠g1) (hg:g≠g1) (hW:W8=(((W7.setCell ⟨g1,2,none⟩ u).setCell ⟨g,0,none⟩ p).setCell ⟨g,1,none⟩ q).setCell ⟨g,2,none⟩ s):zan g p q s W8∧RBox r v i fin W8:=by
 rw[hW]
 refine⟨?_,za3 (za3 (za3 (za3 h hr1) hr) hr) hr⟩
 have k0:=heap_setCell_same _ g 0 _ _ p (za3 (b:=g1) (i:=2) (u:=u) h0 hg)
 have k1:=heap_setCell_same _ g 1 _ _ q k0
 have k2:=heap_setCell_same _ g 2 _ _ s k1
 exact k2
structure WsI (w0:World) (r:Nat) (a:Option Addr) (n c:Nat) (fin:Int) (i:Nat) (w:World) (W:World):Prop where
 st:RdS w0 r a n c fin i W
 frm:Frm (fun k=>k=r) w W
 g0:zan w.heap.size (.string ⟨#[]⟩) (.slice none 0 0) (.slice none 0 0) W
theorem WsI.to {w0:World} {r:Nat} {a:Option Addr} {n c:Nat} {fin:Int} {i:Nat} {w W W':World} (h:WsI w0 r a n c fin i w W) (hb:Below W.heap.size W W'):WsI w0 r a n c fin i w W' :=
 ⟨h.st.to hb,h.frm.trans (Frm.of_below (S:=fun _=>False) hb) (fun _ _ h=>h.elim),za0 hb h.g0⟩
structure WsJ (w0:World) (r:Nat) (a:Option Addr) (n c:Nat) (fin:Int) (i:Nat) (w:World) (g g1:Nat) (nm:ByteArray) (va:Option Addr) (vn vc:Nat) (L:List BSp) (W:World):Prop where
 st:RdS w0 r a n c fin i W
 frm:Frm (fun k=>k=r) w W
 g0:zan g (.string ⟨#[]⟩) (.slice none 0 0) (.slice none 0 0) W
 g1:zan g1 (.string nm) (.slice va vn vc) (.slice none 0 0) W
 rd:zdk W (.slice va vn vc) L
theorem zn3 (W:World):zdk (W.alloc (.cells #[.string ⟨#[]⟩,.string ⟨#[]⟩] 34)) (.slice (some ⟨W.heap.size,0,none⟩) 1 1) allV:=by
 refine⟨?_,fun _ k hk=>by cases hk;exact⟨_,_,heap_alloc_new W _⟩⟩
 refine⟨_,1,rfl,Nat.le_refl _,by unfold maxLen;omega,fun i x hi=>?_⟩
 have h:=heap_alloc_new W (.cells #[.string ⟨#[]⟩,.string ⟨#[]⟩] 34)
 match i,hi with
 | 0,hi =>
  simp[allV] at hi
  subst hi
  refine⟨W.heap.size,0,[.string ⟨#[]⟩,.string ⟨#[]⟩],rfl,rfl,fun j u hu=>?_,rfl,Nat.zero_le _,Nat.zero_le _⟩
  rw[Nat.zero_mul,Nat.add_zero,Nat.zero_add]
  match j,hu with
  | 0,hu=>simp at hu;subst hu;exact za4 h 0
  | 1,hu=>simp at hu;subst hu;exact za4 h 1
 | i+1,hi=>simp[allV] at hi
theorem zg9 {ws:List Wd} {i:Nat} (h:ze2 (zbw ws i)=false):zbb ws i=(none,i):=by
 unfold zbb
 rw[if_neg (by rw[h];simp)]
theorem zi0 {ws:List Wd} {i:Nat} {s nm:ByteArray} {L:List BSp} (h:ze2 (zbw ws i)=true) (hs:s=zbw ws i) (hnm:nm=(cutB 64 s).1) (hL:L=zeo s):(∀ l j,zbf ws (i+1) []=(some l,j)→zbb ws i=(some (nm,L,l),j))∧(∀ j,zbf ws (i+1) []=(none,j)→zbb ws i=(none,j)):=by
 subst hs hnm hL
 constructor
 ·intro l j e
  unfold zbb
  rw[if_pos h,e]
  rfl
 intro j e
 unfold zbb
 rw[if_pos h,e]
 rfl
theorem wish_any {w0 w:World} {r:Nat} {a:Option Addr} {n c:Nat} {fin:Int} {ws:List Wd} {i:Nat} (C:RdC w0 r a n c fin ws) (S:RdS w0 r a n c fin i w) (hi:i≤1000):Calls Tryz.prog 132 #[rp r] w (WishPost r a n c fin ws i w):=by
 have hrw:r < w.heap.size:=(Array.getElem?_eq_some_iff.1 S.box).1
 have hn1:=C.n1000
 obtain⟨s,hs⟩ : ∃ s,s=zbw ws i:=⟨_,rfl⟩
 have hsz:s.size≤70000:=by rw[hs];exact C.peek_size _
 have hI0:WsI w0 r a n c fin i w (w.alloc (.cells #[.string ⟨#[]⟩,.slice none 0 0,.slice none 0 0] 51)):=⟨S.to (za2 w _),(Frm.refl _ _).alloc _,heap_alloc_new _ _⟩
 have hP:=C.peek hI0.st
 rw[← hs] at hP
 obtain⟨nm,hnm⟩ : ∃ x:ByteArray,x=⟨(cut s.data.toList [64]).1.toArray⟩:=⟨_,rfl⟩
 obtain⟨tl,htl⟩ : ∃ x:ByteArray,x=⟨(cut s.data.toList [64]).2.1.toArray⟩:=⟨_,rfl⟩
 obtain⟨fl,hfl⟩ : ∃ x:Bool,x=(cut s.data.toList [64]).2.2:=⟨_,rfl⟩
 have hsgz:nm.size≤70000∧tl.size≤70000:=by
  have:=zgq 64 s
  have e1:nm=(cutB 64 s).1:=hnm
  have e2:tl=(cutB 64 s).2.1:=htl
  rw[e1,e2]
  omega
 have hnm2:nm=(cutB 64 s).1:=hnm
 have hNm:=fun (W:World)=>zkq nm (by omega) W
 obtain⟨nk,hnk⟩ : ∃ b,b=zbu nm.data.toList:=⟨_,rfl⟩
 rw[← hnk] at hNm
 have hnb:ze2 (zbw ws i)=(nk && (!fl || zfl tl)):=by
  rw[← hs]
  unfold ze2
  rw[hnk,hfl,htl,hnm]
  rfl
 have hsb:zeo s=if fl=true then rdV tl else allV:=by
  unfold zeo
  rw[hfl,htl]
  rfl
 obtain⟨HC,HS,HI0,HP,Hs,Hsgz,Hnm2,Hnk,Hnb,Hsb⟩:=hd10 C S hI0 hP hs hsgz hnm2 hnk hnb hsb;clear C S hI0 hP hs hsgz hnm2 hnk hnb hsb
 go_enter Tryz.func132,Tryz.ntmps132
 go_wp2_with fail
 refine HP.out.mono ?_
 rintro e w1 ⟨rfl,q1,rfl⟩
 have hI1:=HI0.out.to (zak (Below.refl _ _) q1)
 generalize (w.alloc (.cells #[.string ⟨#[]⟩,.slice none 0 0,.slice none 0 0] 51)).drewN q1=w2 at hI1 ⊢
 obtain⟨mx,hmx⟩:=(HC.out.dr hI1.st).max
 have hCut:=Tryz.strings_Cut s ⟨#[64]⟩ mx w2 (by omega) hmx
 clear hmx
 simp only[← hnm,← htl,← hfl] at hCut
 obtain⟨HCut,HI1,Hnm,Htl,Hfl⟩:=hd5 hCut hI1 hnm htl hfl;clear hCut hI1 hnm htl hfl
 go_wp2_with fail
 refine HCut.out.mono ?_
 rintro e w3 ⟨rfl,q2,rfl⟩
 have hI2:=HI1.out.to (zak (Below.refl _ _) q2)
 generalize w2.drewN q2=w3 at hI2 ⊢
 have HI2:=hd hI2;clear hI2
 go_upto_region 3 with (fail)
 obtain⟨g,hg⟩ : ∃ k,k=w.heap.size:=⟨_,rfl⟩
 obtain⟨g1,hg1⟩ : ∃ k,k=w3.heap.size+1:=⟨_,rfl⟩
 obtain⟨va,hva⟩ : ∃ k:Option Addr,k=some ⟨w3.heap.size,0,none⟩:=⟨_,rfl⟩
 obtain⟨w4,hw4⟩ : ∃ W,W=((w3.alloc (.cells #[.string ⟨#[]⟩,.string ⟨#[]⟩] 34)).alloc (.cells #[.string nm,.slice va 1 1,.slice none 0 0] 51)):=⟨_,rfl⟩
 have hb34:Below w3.heap.size w3 w4:=by rw[hw4];exact (za2 _ _).alloc (by simp) _
 have hJ:WsJ w0 r a n c fin i w g g1 nm va 1 1 allV w4:=by
  refine⟨HI2.out.st.to hb34,?_,?_,?_,?_⟩
  ·exact HI2.out.frm.trans (Frm.of_below (S:=fun _=>False) hb34) (fun _ _ h=>h.elim)
  ·rw[hg];exact za0 hb34 HI2.out.g0
  ·rw[hw4,hg1];exact za6 (by simp)
  rw[hw4,hva];exact zap (zn3 w3) (za2 _ _)
 have hrg:r < g:=by rw[hg];exact hrw
 have hgg:g < g1:=by rw[hg1,hg];have:=HI2.out.frm.size;omega
 have hwg:w.heap.size≤g:=Nat.le_of_eq hg.symm
 rw[← hva,← hw4,← hg,← hg1]
 clear hva hw4 hg hg1 hb34
 have HJ:=hd hJ;clear hJ
 cases fl with
 | false =>
  cases nk with
  | false =>
   have hNo:=zg9 (ws:=ws) (i:=i) (by rw[Hnb.out];rfl)
   have hIs:=HJ.out.st
   have hIf:=HJ.out.frm
   obtain⟨HIs,HIf⟩:=hd2 hIs hIf;clear hIs hIf
   have hWn:=HC.out.want HIs.out
   obtain⟨HWn,HNo⟩:=hd2 hWn hNo;clear hWn hNo
   go_wp2_with fail
   refine (hNm _).mono ?_
   rintro e wN ⟨rfl,hwN⟩
   subst hwN
   go_wp2_with fail
   refine HWn.out.mono ?_
   rintro e w6 ⟨rfl,q5,rfl⟩
   go_wp2_with fail
   exact⟨rfl,.inr ⟨i,HNo.out,rfl⟩,HIf.out.drewN q5⟩
  | true =>
   have hYe:=zi0 (L:=allV) (by rw[Hnb.out];rfl) Hs.out Hnm2.out (by rw[Hsb.out];rfl)
   have HI:=HJ
   have hSt:=zh9 HC.out (HI.out.st.on HC.out.low)
   obtain⟨_,c1',_,c3'⟩:=zct HI.out.st.box
   obtain⟨HSt,HYe⟩:=hd2 hSt hYe;clear hSt hYe
   go_wp2_with fail
   refine (hNm _).mono ?_
   rintro e wN ⟨rfl,hwN⟩
   subst hwN
   go_wp2_with fail
   refine (zk6 _ r).mono ?_
   rintro e w6 ⟨rfl,hw6⟩
   subst hw6
   go_wp2_with fail
   refine HSt.out.mono ?_
   rintro e w7 ⟨⟨l,j,v,hse,rfl,hv,hbx⟩ | ⟨j,hse,rfl⟩,hfr⟩
   ·obtain⟨a3,c3,rfl⟩:=zgy hv.1
    have hfw:=(za9 HI.out.frm 1 (.int .i64 ((i:Int)+1))).trans hfr (fun _ _ h=>h)
    obtain⟨z,hz⟩ : ∃ n,n=l.length:=⟨_,rfl⟩
    rw[← hz] at hv ⊢
    have hk0:zan g (.string ⟨#[]⟩) (.slice none 0 0) (.slice none 0 0) w7:=zas hfr (za3 (b:=r) (i:=1) HI.out.g0 (by omega)) (by omega)
    have hk1:zan g1 (.string nm) (.slice va 1 1) (.slice none 0 0) w7:=zas hfr (za3 (b:=r) (i:=1) HI.out.g1 (by omega)) (by omega)
    obtain⟨_,_,_,f00,f01,f02⟩:=zag hk0
    obtain⟨x10,x11,_,f10,f11,f12⟩:=zag hk1
    have hvv:=HI.out.rd
    obtain⟨Hse,Hv,Hbx,Hfr,Hfw,Hk0,Hk1,Hvv,Hz⟩:=hd9 hse hv hbx hfr hfw hk0 hk1 hvv hz;clear hse hv hbx hfr hfw hk0 hk1 hvv hz
    go_wp2_with fail
    obtain⟨W8,hW8⟩ : ∃ W,W=(((w7.setCell ⟨g1,2,none⟩ (.slice a3 z c3)).setCell ⟨g,0,none⟩ (.string nm)).setCell ⟨g,1,none⟩ (.slice va 1 1)).setCell ⟨g,2,none⟩ (.slice a3 z c3):=⟨_,rfl⟩
    rw[← hW8]
    have hfin:=zoq (g1:=g1) Hk0.out (i:=j) Hbx.out (by omega) (by omega) (by omega) hW8
    have hF8:Frm (fun k=>k=r) w W8:=by rw[hW8];exact (((Hfw.out.setCell (p:=⟨g1,2,none⟩) (.inl (show w.heap.size≤g1 by omega)) _).setCell (p:=⟨g,0,none⟩) (.inl hwg) _).setCell (p:=⟨g,1,none⟩) (.inl hwg) _).setCell (p:=⟨g,2,none⟩) (.inl hwg) _
    have hT8:Frm (fun k=>k=r∨k=g∨k=g1) w7 W8:=by
     rw[hW8]
     exact ((((Frm.refl _ w7).setCell (p:=⟨g1,2,none⟩) (.inr (.inr (.inr rfl))) _).setCell (p:=⟨g,0,none⟩) (.inr (.inr (.inl rfl))) _).setCell (p:=⟨g,1,none⟩) (.inr (.inr (.inl rfl))) _).setCell (p:=⟨g,2,none⟩) (.inr (.inr (.inl rfl))) _
    refine bodyPost_ret (results_cell_row rfl _ _ _ _ _ _ _ rfl hfin.1 Tryz.underlying51 rfl (by kernel_rfl)) rfl ?_
    refine⟨.inl ⟨(nm,allV,l),j,.slice va 1 1,.slice a3 z c3,HYe.out.1 _ _ Hse.out,rfl,?_,?_,hfin.2⟩,hF8⟩
    ·have h7:Frm (fun k=>k=r∨k=g∨k=g1) w6 w7:=(Frm.setCell (S:=fun k=>k=r∨k=g∨k=g1) (Frm.refl _ w6) (p:=⟨r,1,none⟩) (.inr (.inl rfl)) _).trans (T:=fun k=>k=r) Hfr.out (fun _ _ h=>.inl h)
     exact zaq Hvv.out (h7.trans hT8 (fun _ _ h=>h)) (zhm HI.out.st.box HI.out.g0 HI.out.g1)
    exact zat Hv.out hT8 (zhm Hbx.out Hk0.out Hk1.out)
   have hfw:=(za9 HI.out.frm 1 (.int .i64 ((i:Int)+1))).trans hfr (fun _ _ h=>h)
   obtain⟨Hse,Hfr,Hfw⟩:=hd3 hse hfr hfw;clear hse hfr hfw
   go_wp2_with fail
   exact⟨rfl,.inr ⟨j,HYe.out.2 _ Hse.out,rfl⟩,Hfw.out⟩
 | true =>
  have hSet:=set_any tl (by have:=Hsgz.out;omega) (HC.out.dr HJ.out.st)
  obtain⟨ok,hok⟩ : ∃ b,b=zfl tl:=⟨_,rfl⟩
  unfold zl9 at hSet
  rw[← hok] at hSet
  obtain⟨HSet,Hok⟩:=hd2 hSet hok;clear hSet hok
  go_wp2_with fail
  refine HSet.out.mono ?_
  rintro e w5 ⟨a2,n2,c2,rfl,hrd,hb5⟩
  have hg15:=za0 hb5 HJ.out.g1
  have hg05:=za0 hb5 HJ.out.g0
  obtain⟨_,_,_,_,fz1,_⟩:=zag hg15
  have hst5:=HJ.out.st.to hb5
  have hfr5:=HJ.out.frm.trans (Frm.of_below (S:=fun _=>False) hb5) (fun _ _ h=>h.elim)
  obtain⟨w6,hw6⟩ : ∃ W,W=w5.setCell ⟨g1,1,none⟩ (.slice a2 n2 c2):=⟨_,rfl⟩
  have hIs:RdS w0 r a n c fin i w6:=by rw[hw6];exact⟨za3 hst5.box (by omega),hst5.bel.setCell (p:=⟨g1,1,none⟩) (by have:=HC.out.low;show w0.heap.size≤g1;omega) _⟩
  have hIf:Frm (fun k=>k=r) w w6:=by rw[hw6];exact hfr5.setCell (p:=⟨g1,1,none⟩) (.inl (by show w.heap.size≤g1;omega)) _
  have hJ6:ok=true→WsJ w0 r a n c fin i w g g1 nm a2 n2 c2 (rdV tl) w6:=fun k=>by
   refine⟨hIs,hIf,?_,?_,?_⟩
   ·rw[hw6];exact za3 hg05 (by omega)
   ·rw[hw6];exact heap_setCell_same _ g1 1 _ _ _ hg15
   rw[hw6]
   exact zaq (hrd k) (Frm.setCell (S:=fun k=>k=g1) (Frm.refl _ _) (p:=⟨g1,1,none⟩) (.inr rfl) _) (fun k hk=>by rw[show k=g1 from hk];exact zau hg15 (by decide) (by decide))
  obtain⟨Hrd,Hb5,Hg15,Hg05,Hst5,Hfr5,HIs,HIf,HJ6⟩:=hd9 hrd hb5 hg15 hg05 hst5 hfr5 hIs hIf hJ6;clear hrd hb5 hg15 hg05 hst5 hfr5 hIs hIf hJ6
  cases nk with
  | false =>
   have hNo:=zg9 (ws:=ws) (i:=i) (by rw[Hnb.out];rfl)
   go_upto_region 6 with (fail)
   rw[← hw6]
   clear hw6
   have hWn:=HC.out.want HIs.out
   obtain⟨HWn,HNo⟩:=hd2 hWn hNo;clear hWn hNo
   go_wp2_with fail
   refine (hNm _).mono ?_
   rintro e wN ⟨rfl,hwN⟩
   subst hwN
   go_wp2_with fail
   refine HWn.out.mono ?_
   rintro e w6 ⟨rfl,q5,rfl⟩
   go_wp2_with fail
   exact⟨rfl,.inr ⟨i,HNo.out,rfl⟩,HIf.out.drewN q5⟩
  | true =>
   cases ok with
   | false =>
    have hNo:=zg9 (ws:=ws) (i:=i) (by rw[Hnb.out,← Hok.out];rfl)
    go_upto_region 6 with (fail)
    rw[← hw6]
    clear hw6
    have hWn:=HC.out.want HIs.out
    obtain⟨HWn,HNo⟩:=hd2 hWn hNo;clear hWn hNo
    go_wp2_with fail
    refine (hNm _).mono ?_
    rintro e wN ⟨rfl,hwN⟩
    subst hwN
    go_wp2_with fail
    refine HWn.out.mono ?_
    rintro e w6 ⟨rfl,q5,rfl⟩
    go_wp2_with fail
    exact⟨rfl,.inr ⟨i,HNo.out,rfl⟩,HIf.out.drewN q5⟩
   | true =>
    have hYe:=zi0 (L:=rdV tl) (by rw[Hnb.out,← Hok.out];rfl) Hs.out Hnm2.out (by rw[Hsb.out];rfl)
    have HI:=Lib.hid (HJ6.out rfl)
    go_upto_region 6 with (fail)
    rw[← hw6]
    clear hw6
    have hSt:=zh9 HC.out (HI.out.st.on HC.out.low)
    obtain⟨_,c1',_,c3'⟩:=zct HI.out.st.box
    obtain⟨HSt,HYe⟩:=hd2 hSt hYe;clear hSt hYe
    go_wp2_with fail
    refine (hNm _).mono ?_
    rintro e wN ⟨rfl,hwN⟩
    subst hwN
    go_wp2_with fail
    refine (zk6 _ r).mono ?_
    rintro e w6 ⟨rfl,hw6⟩
    subst hw6
    go_wp2_with fail
    refine HSt.out.mono ?_
    rintro e w7 ⟨⟨l,j,v,hse,rfl,hv,hbx⟩ | ⟨j,hse,rfl⟩,hfr⟩
    ·obtain⟨a3,c3,rfl⟩:=zgy hv.1
     have hfw:=(za9 HI.out.frm 1 (.int .i64 ((i:Int)+1))).trans hfr (fun _ _ h=>h)
     obtain⟨z,hz⟩ : ∃ n,n=l.length:=⟨_,rfl⟩
     rw[← hz] at hv ⊢
     have hk0:zan g (.string ⟨#[]⟩) (.slice none 0 0) (.slice none 0 0) w7:=zas hfr (za3 (b:=r) (i:=1) HI.out.g0 (by omega)) (by omega)
     have hk1:zan g1 (.string nm) (.slice a2 n2 c2) (.slice none 0 0) w7:=zas hfr (za3 (b:=r) (i:=1) HI.out.g1 (by omega)) (by omega)
     obtain⟨_,_,_,f00,f01,f02⟩:=zag hk0
     obtain⟨x10,x11,_,f10,f11,f12⟩:=zag hk1
     have hvv:=HI.out.rd
     obtain⟨Hse,Hv,Hbx,Hfr,Hfw,Hk0,Hk1,Hvv,Hz⟩:=hd9 hse hv hbx hfr hfw hk0 hk1 hvv hz;clear hse hv hbx hfr hfw hk0 hk1 hvv hz
     go_wp2_with fail
     obtain⟨W8,hW8⟩ : ∃ W,W=(((w7.setCell ⟨g1,2,none⟩ (.slice a3 z c3)).setCell ⟨g,0,none⟩ (.string nm)).setCell ⟨g,1,none⟩ (.slice a2 n2 c2)).setCell ⟨g,2,none⟩ (.slice a3 z c3):=⟨_,rfl⟩
     rw[← hW8]
     have hfin:=zoq (g1:=g1) Hk0.out (i:=j) Hbx.out (by omega) (by omega) (by omega) hW8
     have hF8:Frm (fun k=>k=r) w W8:=by rw[hW8];exact (((Hfw.out.setCell (p:=⟨g1,2,none⟩) (.inl (show w.heap.size≤g1 by omega)) _).setCell (p:=⟨g,0,none⟩) (.inl hwg) _).setCell (p:=⟨g,1,none⟩) (.inl hwg) _).setCell (p:=⟨g,2,none⟩) (.inl hwg) _
     have hT8:Frm (fun k=>k=r∨k=g∨k=g1) w7 W8:=by
      rw[hW8]
      exact ((((Frm.refl _ w7).setCell (p:=⟨g1,2,none⟩) (.inr (.inr (.inr rfl))) _).setCell (p:=⟨g,0,none⟩) (.inr (.inr (.inl rfl))) _).setCell (p:=⟨g,1,none⟩) (.inr (.inr (.inl rfl))) _).setCell (p:=⟨g,2,none⟩) (.inr (.inr (.inl rfl))) _
     refine bodyPost_ret (results_cell_row rfl _ _ _ _ _ _ _ rfl hfin.1 Tryz.underlying51 rfl (by kernel_rfl)) rfl ?_
     refine⟨.inl ⟨(nm,rdV tl,l),j,.slice a2 n2 c2,.slice a3 z c3,HYe.out.1 _ _ Hse.out,rfl,?_,?_,hfin.2⟩,hF8⟩
     ·have h7:Frm (fun k=>k=r∨k=g∨k=g1) w6 w7:=(Frm.setCell (S:=fun k=>k=r∨k=g∨k=g1) (Frm.refl _ w6) (p:=⟨r,1,none⟩) (.inr (.inl rfl)) _).trans (T:=fun k=>k=r) Hfr.out (fun _ _ h=>.inl h)
      exact zaq Hvv.out (h7.trans hT8 (fun _ _ h=>h)) (zhm HI.out.st.box HI.out.g0 HI.out.g1)
     exact zat Hv.out hT8 (zhm Hbx.out Hk0.out Hk1.out)
    have hfw:=(za9 HI.out.frm 1 (.int .i64 ((i:Int)+1))).trans hfr (fun _ _ h=>h)
    obtain⟨Hse,Hfr,Hfw⟩:=hd3 hse hfr hfw;clear hse hfr hfw
    go_wp2_with fail
    exact⟨rfl,.inr ⟨j,HYe.out.2 _ Hse.out,rfl⟩,Hfw.out⟩
end

section
open Go.Shelf Go.RowKit Go.Lib VerN VarM
open LexM (Wd)
attribute [local go_sem ↓] Go.wp_at_zero Go.wp_at_succ
abbrev thrownV (c:Int):Value:=.iface 206 (.agg #[.int .i64 c])
theorem zhi (v:Value) (w:World):(Instr.typeAssert (.iface 206 v) 20 206 true).run Tryz.prog w = .ok (.tuple #[v,.bool true]) w:=by
 have u:=Tryz.underlying206
 unfold Instr.typeAssert
 simp[Sem.run_bind,Sem.run_pure,u,go_sem]
theorem zrl (g:Nat) (w:World):CallsD Tryz.prog 150 #[.pointer (some ⟨g,0,none⟩)] .returning w fun e u' w'=>e = .returned (.tuple #[])∧u' = .returning∧w'=w:=by
 refine callsD_of_wpS Tryz.func150 rfl fun c₀ cs hu=>?_
 apply wpS_seq
 apply wpS_region
 simp[wpOpsS,go_sem,recoverD,hu,Tryz.ntmps150,Exit.thenS]
 have Hu:=hd hu;clear hu
 simp only[Array.replicate_succ,Array.replicate_zero,List.push_toArray,List.append_toArray,List.nil_append,List.cons_append,lA,lB,lC]
 refine wpS_of_wp ?_
 generalize hQ:(fun (e:Exit) (a':Act) (w':World)=>_)=Q
 have HQ:=hd hQ;clear hQ
 go_wp2_with fail
 rw[← HQ.out]
 cases c₀
 have hu:=Hu.out
 simp_all [bodyPostS,results,Tryz.results150]
theorem zoi (g:Nat) (c x:Int) (w:World) (hg:w.heap[g]? = some (.cells #[.int .i64 x] 3 (0,0))) :
  CallsD Tryz.prog 150 #[.pointer (some ⟨g,0,none⟩)] (.panicking [{ v:=thrownV c,recovered:=false }]) w fun e u' w' =>
   e = .returned (.tuple #[])∧u' = .panicking [{ v:=thrownV c,recovered:=true }]∧w'=(w.alloc (.cells #[.int .i64 c] 206)).setCell ⟨g,0,none⟩ (.int .i64 c):=by
 refine callsD_of_wpS Tryz.func150 rfl fun c₀ cs hu=>?_
 apply wpS_seq
 apply wpS_region
 simp[wpOpsS,go_sem,recoverD,hu,Tryz.ntmps150,Exit.thenS]
 have ra:=zhi (.agg #[.int .i64 c])
 have q0:=za4 hg 0
 have q1:=za8 hg 0
 have q2:=za0 (za2 w (.cells #[.int .i64 c] 206)) hg
 have q3:=za4 q2 0
 have q4:=za8 q2 0
 have Hu:=hd hu;clear hu
 simp only[Array.replicate_succ,Array.replicate_zero,List.push_toArray,List.append_toArray,List.nil_append,List.cons_append,lA,lB,lC]
 refine wpS_of_wp ?_
 generalize hQ:(fun (e:Exit) (a':Act) (w':World)=>_)=Q
 have HQ:=hd hQ;clear hQ
 go_wp2_with fail
 rw[← HQ.out]
 cases c₀
 have hu:=Hu.out
 clear ra q0 q1 q2 q3 q4 hg
 simp_all [bodyPostS,results,Tryz.results150]
theorem zrk {w:World} {f:FuncId} {caps:Array Value} (eg:∀ args w,(callFunc f args).run Tryz.prog w = .ok (.enter f args) w) {A:World→Prop} {B:Int→World→Prop}
  (h:Calls Tryz.prog f caps (w.alloc (.cells #[.int .i64 0] 3)) fun e w'=>((e = .returned (.tuple #[])∧A w')∨∃ c,e=zi1 c∧B c w')∧w'.heap[w.heap.size]? = some (.cells #[.int .i64 0] 3 (0,0))) :
  Calls Tryz.prog 91 #[.func (.func f) #[] caps] w fun e w'=>(∃ w1,A w1∧e = .returned (.int .i64 0)∧w'=w1.setCell ⟨w.heap.size,0,none⟩ (.int .i64 0))∨(∃ c w1,B c w1∧e = .returned (.int .i64 c)∧w'=(w1.alloc (.cells #[.int .i64 c] 206)).setCell ⟨w.heap.size,0,none⟩ (.int .i64 c)):=by
 have hmf:∀ (fn:Fn) (first cap:Array Value) (w:World),(Instr.makeFunc fn first cap).run Tryz.prog w = .ok (.func fn first cap) w:=fun _ _ _ _=>rfl
 have Hh:=hd h;clear h
 go_enter_defers Tryz.func91,Tryz.ntmps91
 go_wp2_with fail
 refine Hh.out.mono ?_
 rintro e w1 ⟨⟨rfl,hA⟩ | ⟨c,rfl,hB⟩,hbx⟩
 ·have q0:=za4 hbx 0
  have q1:=za8 hbx 0
  simp only[List.getElem?_toArray,List.getElem?_cons_zero] at q0
  obtain⟨HA,Hbx⟩:=hd2 hA hbx;clear hA hbx
  go_wp2_with fail
  refine leaves_cons (f:=150) (args:=#[.pointer (some ⟨w.heap.size,0,none⟩)]) (by simp) (by simp[go_sem]) ?_
  refine (zrl _ _).mono ?_
  rintro e u' w'' ⟨rfl,rfl,rfl⟩
  have q2:=za4 (heap_setCell_same w1 w.heap.size 0 _ _ (.int .i64 0) Hbx.out) 0
  have q2:(w1.setCell ⟨w.heap.size,0,none⟩ (.int .i64 0)).cell? ⟨w.heap.size,0,none⟩=some (.int .i64 0):=q2
  simp[Leaves,settle,results,Tryz.results91,go_sem,q2]
  exact .inl ⟨_,HA.out,rfl⟩
 have HB:=hd hB;clear hB
 go_wp2_with fail
 refine leaves_cons (f:=150) (args:=#[.pointer (some ⟨w.heap.size,0,none⟩)]) (by simp) (by simp[go_sem]) ?_
 refine (zoi _ c 0 _ hbx).mono ?_
 rintro e u' w'' ⟨rfl,rfl,rfl⟩
 have q2:=za4 (heap_setCell_same _ w.heap.size 0 _ _ (.int .i64 c) (za0 (za2 w1 (.cells #[.int .i64 c] 206)) hbx)) 0
 have q2:((w1.alloc (.cells #[.int .i64 c] 206)).setCell ⟨w.heap.size,0,none⟩ (.int .i64 c)).cell? ⟨w.heap.size,0,none⟩=some (.int .i64 c):=q2
 simp[Leaves,settle,results,Tryz.results91,go_sem,q2]
 exact .inr ⟨_,_,HB.out,rfl,rfl⟩
end

section
open Go.Shelf Go.RowKit Go.Lib VerN VarM
open LexM (Wd)
attribute [local go_sem ↓] Go.wp_at_zero Go.wp_at_succ
def TakenA (r sb:Nat) (a:Option Addr) (n c:Nat) (fin:Int) (ws:List Wd) (w w':World):Prop :=
 ∃ s j b1 n1 c1 b2 n2 c2,zbb ws 0=(some s,j)∧zan sb (.string s.1) (.slice b1 n1 c1) (.slice b2 n2 c2) w'∧zdk w' (.slice b1 n1 c1) s.2.1∧zbj w' (.slice b2 n2 c2) s.2.2∧RBox r (.slice a n c) j fin w'∧Frm (fun k=>k=r∨k=sb) w w'
def TakenB (r sb:Nat) (fin:Int) (ws:List Wd) (w:World) (col:Int) (w':World):Prop :=
 ∃ j,zbb ws 0=(none,j)∧col=zb2 ws fin j∧Frm (fun k=>k=r∨k=sb) w w'
abbrev fWish:Value:=.func (.func 132) #[] #[]
theorem one1_any {w0 w:World} {r tb rb sb cb:Nat} {a:Option Addr} {n c:Nat} {fin:Int} {ws:List Wd} (C:RdC w0 r a n c fin ws) (S:RdS w0 r a n c fin 0 w)
  (ht:w.heap[tb]? = some (.cells #[fWish] 187 (0,0))) (hr:w.heap[rb]? = some (.cells #[rp r] 135 (0,0))) (hs:zan sb (.string ⟨#[]⟩) (.slice none 0 0) (.slice none 0 0) w)
  (hc:w.heap[cb]? = some (.cells #[.int .i64 0] 3 (0,0))) (n1:cb≠r) (n2:cb≠sb) (n3:r≠sb) :
  Calls Tryz.prog 180 #[.pointer (some ⟨tb,0,none⟩),.pointer (some ⟨rb,0,none⟩),.pointer (some ⟨sb,0,none⟩)] w fun e w'=>((e = .returned (.tuple #[])∧TakenA r sb a n c fin ws w w')∨∃ col,e=zi1 col∧TakenB r sb fin ws w col w')∧w'.heap[cb]? = some (.cells #[.int .i64 0] 3 (0,0)):=by
 have t0:=za4 ht 0
 have r0:=za4 hr 0
 simp only[List.getElem?_toArray,List.getElem?_cons_zero] at t0 r0
 have hW:=wish_any C S (by omega)
 obtain⟨HC,HS,Ht,Hr,Hs,Hc,HW⟩:=hd7 C S ht hr hs hc hW;clear C S ht hr hs hc hW
 go_enter Tryz.func180,Tryz.ntmps180
 go_wp2_with fail
 refine HW.out.mono ?_
 rintro e w1 ⟨⟨s,j,v1,v2,hw,rfl,hv1,hv2,hbx⟩ | ⟨j,hw,rfl⟩,hfr⟩
 ·obtain⟨b1,c1,rfl⟩:=zc8 hv1.1
  obtain⟨b2,c2,rfl⟩:=zgy hv2.1
  obtain⟨z1,hz1⟩ : ∃ z,z=s.2.1.length:=⟨_,rfl⟩
  obtain⟨z2,hz2⟩ : ∃ z,z=s.2.2.length:=⟨_,rfl⟩
  rw[← hz1] at hv1 ⊢
  rw[← hz2] at hv2 ⊢
  have hs1:=zas hfr Hs.out (by omega)
  have hc1:=zas hfr Hc.out n1
  obtain⟨_,_,_,f0,f1,f2⟩:=zag hs1
  obtain⟨Hw,Hv1,Hv2,Hbx,Hfr,Hs1,Hc1,Hz1,Hz2⟩:=hd9 hw hv1 hv2 hbx hfr hs1 hc1 hz1 hz2;clear hw hv1 hv2 hbx hfr hs1 hc1 hz1 hz2
  go_wp2_with fail
  go_end0
  obtain⟨W8,hW8⟩ : ∃ W,W=((w1.setCell ⟨sb,0,none⟩ (.string s.1)).setCell ⟨sb,1,none⟩ (.slice b1 z1 c1)).setCell ⟨sb,2,none⟩ (.slice b2 z2 c2):=⟨_,rfl⟩
  rw[← hW8]
  have hT8:Frm (fun k=>k=r∨k=sb) w1 W8:=by
   rw[hW8]
   exact (((Frm.refl _ w1).setCell (p:=⟨sb,0,none⟩) (.inr (.inr rfl)) _).setCell (p:=⟨sb,1,none⟩) (.inr (.inr rfl)) _).setCell (p:=⟨sb,2,none⟩) (.inr (.inr rfl)) _
  have k0:=heap_setCell_same _ sb 0 _ _ (.string s.1) Hs1.out
  have k1:=heap_setCell_same _ sb 1 _ _ (.slice b1 z1 c1) k0
  have k2:=heap_setCell_same _ sb 2 _ _ (.slice b2 z2 c2) k1
  have hno:No2 w1 (fun k=>k=r∨k=sb):=by
   rintro k (rfl | rfl)
   ·exact zau Hbx.out (by decide) (by decide)
   exact zau Hs1.out (by decide) (by decide)
  have hcb:W8.heap[cb]? = some (.cells #[.int .i64 0] 3 (0,0)):=zas hT8 Hc1.out (by rintro (h | h);exact n1 h;exact n2 h)
  refine⟨.inl ⟨rfl,s,j,b1,z1,c1,b2,z2,c2,Hw.out,by rw[hW8];exact k2,zaq Hv1.out hT8 hno,zat Hv2.out hT8 hno,?_,?_⟩,hcb⟩
  ·rw[hW8];exact za3 (za3 (za3 Hbx.out n3) n3) n3
  exact Frm.trans (T:=fun k=>k=r∨k=sb) (Hfr.out.mono (fun _ _ h=>.inl h)) hT8 (fun _ _ h=>h)
 have hc1:=zas hfr Hc.out n1
 obtain⟨Hw,Hfr,Hc1⟩:=hd3 hw hfr hc1;clear hw hfr hc1
 go_wp2_with fail
 exact⟨rfl,.inr ⟨_,rfl,j,Hw.out,rfl,Hfr.out.mono (fun _ _ h=>.inl h)⟩,Hc1.out⟩
theorem zcs {P:Program} {fn:Func} {p u v:Tmp} {ty t:TypeId} (h:fn.results=#[.cell p ty,.tmp u,.tmp v]) {tmps:Array Value} {w:World} {g:Nat} {cs:Array Value} {d:TypeDesc} {x y:Value}
  (hp:tmps.getD p undef = .pointer (some ⟨g,0,none⟩)) (hx:tmps.getD u undef=x) (hy:tmps.getD v undef=y) (hg:w.heap[g]? = some (.cells cs t (0,0)))
  (hu:P.underlying ty=some d) (hd:(match d with | .struct _ | .array _ _=>true | _=>false)=true) (hi:(P.info? ty).map (·.size)=some cs.size) :
  (results fn tmps).run P w = .ok (.tuple #[.agg cs,x,y]) w:=by
 have hl:=run_loadVar_row w g t ty cs (0,0) d hg hu hd hi
 have hp':tmps[p]?.getD undef = .pointer (some ⟨g,0,none⟩):=by simpa using hp
 have hx':tmps[u]?.getD undef=x:=by simpa using hx
 have hy':tmps[v]?.getD undef=y:=by simpa using hy
 simp only[results,h]
 simp[Sem.run_bind,Result.andThen,asAddr,hp',hx',hy',hl]
def zh6 (fin:Int) (ws:List Wd) (w:World) (e:Ending) (w':World):Prop :=
 ((∃ s j b1 n1 c1 b2 n2 c2,zbb ws 0=(some s,j)∧e = .returned (.tuple #[.agg #[.string s.1,.slice b1 n1 c1,.slice b2 n2 c2],.int .i64 j,.int .i64 0])∧zdk w' (.slice b1 n1 c1) s.2.1∧zbj w' (.slice b2 n2 c2) s.2.2) ∨
  (∃ j,zbb ws 0=(none,j)∧e = .returned (.tuple #[.agg #[.string ⟨#[]⟩,.slice none 0 0,.slice none 0 0],.int .i64 0,.int .i64 (zb2 ws fin j)])))∧Below w.heap.size w w'
theorem zki {w:World} {a:Option Addr} {n c:Nat} {fin:Int} {ws:List Wd} (hws:RWds w [.slice a n c] ws) (hD:zbi w) (hn:n≤1000) (hz:∀ x∈ws,x.2.length≤70000) (hcol:∀ j,zb2 ws fin j≠0):Calls Tryz.prog 130 #[.slice a n c,.int .i64 fin,fWish] w (zh6 fin ws w):=by
 obtain⟨h,hh⟩ : ∃ h,h=w.heap.size:=⟨_,rfl⟩
 obtain⟨W5,hW5⟩ : ∃ W,W=(((((w.alloc (.cells #[fWish] 187)).alloc (.cells #[.string ⟨#[]⟩,.slice none 0 0,.slice none 0 0] 51)).alloc (.cells #[.slice a n c,.int .i64 0,.int .i64 fin] 137)).alloc (.cells #[rp (h+1+1)] 135)).alloc (.cells #[.string ⟨#[]⟩,.slice none 0 0,.slice none 0 0] 51)):=⟨_,rfl⟩
 have hs5:W5.heap.size=h+5:=by rw[hW5,hh];simp
 have k1:∀ {w':World} {o:Obj} {k:Nat} {o':Obj},w'.heap[k]? = some o→(w'.alloc o').heap[k]? = some o:=fun h=>za0 (za2 _ _) h
 have hb5:Below w.heap.size w W5:=by rw[hW5];exact ((((Below.refl _ w).alloc (Nat.le_refl _) _).alloc (by simp) _).alloc (by simp;omega) _).alloc (by simp;omega) _ |>.alloc (by simp;omega) _
 have q0:W5.heap[h]? = some (.cells #[fWish] 187 (0,0)):=by rw[hW5,hh];exact k1 (k1 (k1 (k1 (za6 rfl))))
 have q1:zan (h+1) (.string ⟨#[]⟩) (.slice none 0 0) (.slice none 0 0) W5:=by rw[hW5,hh];exact k1 (k1 (k1 (za6 (by simp))))
 have q2:RBox (h+1+1) (.slice a n c) 0 fin W5:=by rw[hW5,hh];exact k1 (k1 (za6 (by simp)))
 have q3:W5.heap[h+1+1+1]? = some (.cells #[rp (h+1+1)] 135 (0,0)):=by rw[hW5,hh];exact k1 (za6 (by simp))
 have q4:zan (h+1+1+1+1) (.string ⟨#[]⟩) (.slice none 0 0) (.slice none 0 0) W5:=by rw[hW5,hh];exact za6 (by simp)
 have hC:RdC w (h+1+1) a n c fin ws:=⟨hws,hD,by omega,hn,hz⟩
 have hS:RdS w (h+1+1) a n c fin 0 (W5.alloc (.cells #[.int .i64 0] 3)):=⟨k1 q2,hb5.alloc hb5.size _⟩
 have hO:=one1_any (tb:=h) (rb:=h+1+1+1) (sb:=h+1+1+1+1) (cb:=W5.heap.size) hC hS (k1 q0) (k1 q3) (k1 q4) (heap_alloc_new W5 _) (by omega) (by omega) (by omega)
 have hCa:=zrk (enters_of Tryz.func180 (by kernel_rfl) rfl) (caps:=#[.pointer (some ⟨h,0,none⟩),.pointer (some ⟨h+1+1+1,0,none⟩),.pointer (some ⟨h+1+1+1+1,0,none⟩)]) hO
 have q1':=k1 (o':=.cells #[.int .i64 0] 3) q1
 have q3':=k1 (o':=.cells #[.int .i64 0] 3) q3
 clear q0 q1 q2 q3 q4 hO k1
 have hb6:Below w.heap.size w (W5.alloc (.cells #[.int .i64 0] 3)):=hb5.alloc hb5.size _
 obtain⟨Hws,HD,Hz,Hcol,Hb5,HC,HS,HCa,Hq1',Hq3',Hb6⟩:=hd11 hws hD hz hcol hb5 hC hS hCa q1' q3' hb6;clear hws hD hz hcol hb5 hC hS hCa q1' q3' hb6
 go_enter Tryz.func130,Tryz.ntmps130
 go_upto_region 3 with (fail)
 rw[← hh,← hW5]
 clear hW5
 have hle:w.heap.size≤h:=Nat.le_of_eq hh.symm
 clear hh
 go_wp2_with fail
 refine HCa.out.mono ?_
 rintro e w2 (⟨w1,⟨s,j,b1,n1,c1,b2,n2,c2,hw,hsb,hv1,hv2,hbx,hfr⟩,rfl,rfl⟩ | ⟨col,w1,⟨j,hw,hcl,hfr⟩,rfl,rfl⟩)
 ·have hz6:=hfr.size
  simp only[World.size_alloc] at hz6
  have hcb:w1.heap[W5.heap.size]? = some (.cells #[.int .i64 0] 3 (0,0)):=zas hfr (heap_alloc_new W5 _) (by omega)
  have hq1:=zas hfr Hq1'.out (by omega)
  have hq3:=zas hfr Hq3'.out (by omega)
  obtain⟨W2,hW2⟩ : ∃ W,W=w1.setCell ⟨W5.heap.size,0,none⟩ (.int .i64 0):=⟨_,rfl⟩
  rw[← hW2]
  have x1:zan (h+1) (.string ⟨#[]⟩) (.slice none 0 0) (.slice none 0 0) W2:=by rw[hW2];exact za3 hq1 (by omega)
  have x3:W2.heap[h+1+1+1]? = some (.cells #[rp (h+1+1)] 135 (0,0)):=by rw[hW2];exact za3 hq3 (by omega)
  have x2:RBox (h+1+1) (.slice a n c) j fin W2:=by rw[hW2];exact za3 hbx (by omega)
  have x4:zan (h+1+1+1+1) (.string s.1) (.slice b1 n1 c1) (.slice b2 n2 c2) W2:=by rw[hW2];exact za3 hsb (by omega)
  have y3:=za4 x3 0
  simp only[List.getElem?_toArray,List.getElem?_cons_zero] at y3
  obtain⟨_,y2,_,_⟩:=zct x2
  obtain⟨z0,z1,z2,_,_,_⟩:=zag x4
  obtain⟨_,_,_,f0,f1,f2⟩:=zag x1
  obtain⟨Hw,Hsb,Hv1,Hv2,Hbx,Hfr,Hcb,Hq1,Hq3,Hx1,Hx2,Hx3,Hx4,HW2,Hz6⟩:=hd15 hw hsb hv1 hv2 hbx hfr hcb hq1 hq3 x1 x2 x3 x4 hW2 hz6;clear hw hsb hv1 hv2 hbx hfr hcb hq1 hq3 x1 x2 x3 x4 hW2 hz6
  go_wp2_with fail
  go_region
  go_wp2_with fail
  obtain⟨W8,hW8⟩ : ∃ W,W=(((W2.setCell ⟨h+1,0,none⟩ (.string s.1)).setCell ⟨h+1,1,none⟩ (.slice b1 n1 c1)).setCell ⟨h+1,2,none⟩ (.slice b2 n2 c2)).drew:=⟨_,rfl⟩
  rw[← hW8]
  have hT8:Frm (fun k=>k=W5.heap.size∨k=h+1) w1 W8:=by
   rw[hW8,HW2.out]
   exact (((((Frm.refl _ w1).setCell (p:=⟨W5.heap.size,0,none⟩) (.inr (.inl rfl)) _).setCell (p:=⟨h+1,0,none⟩) (.inr (.inr rfl)) _).setCell (p:=⟨h+1,1,none⟩) (.inr (.inr rfl)) _).setCell (p:=⟨h+1,2,none⟩) (.inr (.inr rfl)) _).drew
  have k0:=heap_setCell_same _ (h+1) 0 _ _ (.string s.1) Hx1.out
  have k1:=heap_setCell_same _ (h+1) 1 _ _ (.slice b1 n1 c1) k0
  have k2:=heap_setCell_same _ (h+1) 2 _ _ (.slice b2 n2 c2) k1
  have k3:W8.heap[h+1]? = some (.cells #[.string s.1,.slice b1 n1 c1,.slice b2 n2 c2] 51 (0,0)):=by rw[hW8];exact k2
  have hno:No2 w1 (fun k=>k=W5.heap.size∨k=h+1):=by
   rintro k (rfl | rfl)
   ·exact zau Hcb.out (by decide) (by decide)
   exact zau Hq1.out (by decide) (by decide)
  have hb8:Below w.heap.size w W8:=by
   have b1:Below h (W5.alloc (.cells #[.int .i64 0] 3)) w1:=Hfr.out.below (by simp;omega) (by rintro k (rfl | rfl) <;> omega)
   have b2:Below h w1 W8:=hT8.below (by have:=Hz6.out;omega) (by rintro k (rfl | rfl) <;> omega)
   exact Hb6.out.trans ((b1.trans b2).mono hle)
  refine bodyPost_ret (zcs rfl rfl rfl rfl k3 Tryz.underlying51 rfl (by kernel_rfl)) rfl ?_
  exact⟨.inl ⟨s,j,b1,n1,c1,b2,n2,c2,Hw.out,rfl,zaq Hv1.out hT8 hno,zat Hv2.out hT8 hno⟩,hb8⟩
 have hz6:=hfr.size
 simp only[World.size_alloc] at hz6
 have hne:(col != 0)=true:=by rw[hcl];simpa using Hcol.out j
 have hq1:=zas hfr Hq1'.out (by omega)
 obtain⟨W2,hW2⟩ : ∃ W,W=(w1.alloc (.cells #[.int .i64 col] 206)).setCell ⟨W5.heap.size,0,none⟩ (.int .i64 col):=⟨_,rfl⟩
 rw[← hW2]
 have x1:zan (h+1) (.string ⟨#[]⟩) (.slice none 0 0) (.slice none 0 0) W2:=by rw[hW2];exact za3 (za0 (za2 _ _) hq1) (by omega)
 obtain⟨_,_,_,f0,f1,f2⟩:=zag x1
 have hb2:Below w.heap.size w W2:=by
  have b1:Below h (W5.alloc (.cells #[.int .i64 0] 3)) w1:=hfr.below (by simp;omega) (by rintro k (rfl | rfl) <;> omega)
  have b2:Below h w1 W2:=by rw[hW2];exact ((za2 _ _).mono (by omega)).setCell (p:=⟨W5.heap.size,0,none⟩) (by show h≤W5.heap.size;omega) _
  exact Hb6.out.trans ((b1.trans b2).mono hle)
 obtain⟨Hw,Hcl,Hfr,Hq1,Hx1,HW2,Hz6,Hb2⟩:=hd8 hw hcl hfr hq1 x1 hW2 hz6 hb2;clear hw hcl hfr hq1 x1 hW2 hz6 hb2
 go_wp2_with fail
 have k0:=heap_setCell_same _ (h+1) 0 _ _ (.string ⟨#[]⟩) Hx1.out
 have k1:=heap_setCell_same _ (h+1) 1 _ _ (.slice none 0 0) k0
 have k2:=heap_setCell_same _ (h+1) 2 _ _ (.slice none 0 0) k1
 have hb8:=((Hb2.out.setCell (p:=⟨h+1,0,none⟩) (by show w.heap.size≤h+1;omega) (.string ⟨#[]⟩)).setCell (p:=⟨h+1,1,none⟩) (by show w.heap.size≤h+1;omega) (.slice none 0 0)).setCell (p:=⟨h+1,2,none⟩) (by show w.heap.size≤h+1;omega) (.slice none 0 0)
 refine bodyPost_ret (zcs rfl rfl rfl rfl k2 Tryz.underlying51 rfl (by kernel_rfl)) rfl ?_
 refine⟨.inr ⟨j,Hw.out,by rw[← Hcl.out];rfl⟩,hb8⟩
theorem zja {w:World} {a:Option Addr} {n c:Nat} {fin:Int} {ws:List Wd} (hws:RWds w [.slice a n c] ws) (hD:zbi w) (hn:n≤1000) (hz:∀ x∈ws,x.2.length≤70000) (hcol:∀ j,zb2 ws fin j≠0):Calls Tryz.prog 76 #[.slice a n c,.int .i64 fin] w (zh6 fin ws w):=by
 obtain⟨g,hg⟩ : ∃ g,g=w.heap.size:=⟨_,rfl⟩
 obtain⟨W1,hW1⟩ : ∃ W,W=w.alloc (.cells #[.string ⟨#[]⟩,.slice none 0 0,.slice none 0 0] 51):=⟨_,rfl⟩
 have hb1:Below w.heap.size w W1:=by rw[hW1];exact za2 _ _
 have hbx:zan g (.string ⟨#[]⟩) (.slice none 0 0) (.slice none 0 0) W1:=by rw[hW1,hg];exact heap_alloc_new _ _
 have hO:=zki (zaf zbg _ _ _ _ hws hb1) (hD.below hb1) hn hz hcol
 have hle:w.heap.size≤g:=Nat.le_of_eq hg.symm
 obtain⟨Hws,HD,Hz,Hcol,HO,Hb1,Hbx⟩:=hd7 hws hD hz hcol hO hb1 hbx;clear hws hD hz hcol hO hb1 hbx
 go_enter Tryz.func76,Tryz.ntmps76
 go_upto_region 1 with (fail)
 rw[← hW1,← hg]
 clear hW1 hg
 go_wp2_with fail
 refine HO.out.mono ?_
 rintro e w2 ⟨⟨s,j,b1,n1,c1,b2,n2,c2,hw,rfl,hv1,hv2⟩ | ⟨j,hw,rfl⟩,hb⟩
 ·have x1:=za0 hb Hbx.out
  have hb2:=Hb1.out.trans (hb.mono Hb1.out.size)
  obtain⟨_,_,_,f0,f1,f2⟩:=zag x1
  obtain⟨Hw,Hv1,Hv2,Hb,Hx1,Hb2⟩:=hd6 hw hv1 hv2 hb x1 hb2;clear hw hv1 hv2 hb x1 hb2
  go_wp2_with fail
  have k0:=heap_setCell_same _ g 0 _ _ (.string s.1) Hx1.out
  have k1:=heap_setCell_same _ g 1 _ _ (.slice b1 n1 c1) k0
  have k2:=heap_setCell_same _ g 2 _ _ (.slice b2 n2 c2) k1
  have hT:Frm (fun k=>k=g) w2 (((w2.setCell ⟨g,0,none⟩ (.string s.1)).setCell ⟨g,1,none⟩ (.slice b1 n1 c1)).setCell ⟨g,2,none⟩ (.slice b2 n2 c2)):=za9 (za9 (za9 (Frm.refl _ _) 0 _) 1 _) 2 _
  have hno:No2 w2 (fun k=>k=g):=by
   rintro k rfl
   exact zau Hx1.out (by decide) (by decide)
  have hb8:=((Hb2.out.setCell (p:=⟨g,0,none⟩) hle (.string s.1)).setCell (p:=⟨g,1,none⟩) hle (.slice b1 n1 c1)).setCell (p:=⟨g,2,none⟩) hle (.slice b2 n2 c2)
  refine bodyPost_ret (zcs rfl rfl rfl rfl k2 Tryz.underlying51 rfl (by kernel_rfl)) rfl ?_
  exact⟨.inl ⟨s,j,b1,n1,c1,b2,n2,c2,Hw.out,rfl,zaq Hv1.out hT hno,zat Hv2.out hT hno⟩,hb8⟩
 have x1:=za0 hb Hbx.out
 have hb2:=Hb1.out.trans (hb.mono Hb1.out.size)
 obtain⟨_,_,_,f0,f1,f2⟩:=zag x1
 obtain⟨col,hcl⟩ : ∃ x,x=zb2 ws fin j:=⟨_,rfl⟩
 rw[← hcl]
 obtain⟨Hw,Hcl,Hb,Hx1,Hb2⟩:=hd5 hw hcl hb x1 hb2;clear hw hcl hb x1 hb2
 go_wp2_with fail
 have k0:=heap_setCell_same _ g 0 _ _ (.string ⟨#[]⟩) Hx1.out
 have k1:=heap_setCell_same _ g 1 _ _ (.slice none 0 0) k0
 have k2:=heap_setCell_same _ g 2 _ _ (.slice none 0 0) k1
 have hb8:=((Hb2.out.setCell (p:=⟨g,0,none⟩) hle (.string ⟨#[]⟩)).setCell (p:=⟨g,1,none⟩) hle (.slice none 0 0)).setCell (p:=⟨g,2,none⟩) hle (.slice none 0 0)
 refine bodyPost_ret (zcs rfl rfl rfl rfl k2 Tryz.underlying51 rfl (by kernel_rfl)) rfl ?_
 exact⟨.inr ⟨j,Hw.out,by rw[← Hcl.out];rfl⟩,hb8⟩
end

namespace LexM
def zn8 (N:Nat) (x:Wd):Prop:=1≤x.1∧x.1≤(N:Int)∧x.2≠[]∧x.2.length≤N
def zgv (N:Nat) (l:Ln):Prop:=1≤l.1∧l.2≠[]∧l.2.length≤40∧∀ x∈l.2,zn8 N x
theorem zn8.mono {N M:Nat} (h:N≤M) {x:Wd} (g:zn8 N x):zn8 M x:=⟨g.1,by have:=g.2.1;omega,g.2.2.1,Nat.le_trans g.2.2.2 h⟩
theorem rerr_room {t:Bs} {room:Bool} {s:RS} {i:Nat} {c:UInt8} (h:rerr t room s i c=0) (hk:rskip t s i c=false):s.out.length≠40:=by
 intro e
 unfold rerr at h
 rw[hk] at h
 split at h
 ·cases h
 simp[e] at h
theorem zp6 {t:Bs} {room:Bool}:∀ (r:Bs) (s:RS) (i:Nat),t.drop i=r→s.out.length≤40→(∀ x∈s.out,zn8 t.length x)→(∀ x∈(rgo t room s i r).1,zn8 t.length x)∧(rgo t room s i r).1.length≤40
 | [],s,i,_,hl,h=>⟨h,hl⟩
 | c :: r,s,i,hd,hl,h=>by
  obtain⟨hg,hd2,hi⟩:=zf0 hd
  unfold rgo
  by_cases he:rerr t room s i c=0
  ·rw[if_pos he]
   refine zp6 r _ (i+1) hd2 ?_ ?_
   ·unfold rnext
    dsimp only
    split
    ·exact hl
    rename_i hk
    have:=rerr_room he (by simpa using hk)
    rw[List.length_append,List.length_singleton]
    omega
   intro x hx
   unfold rnext at hx
   dsimp only at hx
   split at hx
   ·exact h x hx
   rename_i hk
   rcases List.mem_append.1 hx with hx | hx
   ·exact h x hx
   rw[List.mem_singleton] at hx
   subst hx
   have hp:part c=true:=by
    unfold rskip at hk
    simp only[Bool.or_eq_true,not_or,Bool.not_eq_true',Bool.not_eq_false] at hk
    exact hk.1.2
   refine⟨by show (1:Int)≤(i:Int)+1;omega,by show (i:Int)+1≤(t.length:Int);omega,?_,?_⟩
   ·show wordAt t i≠[]
    rw[zlf hd hp]
    simp
   show (wordAt t i).length≤t.length
   unfold wordAt
   refine Nat.le_trans (List.takeWhile_sublist _).length_le ?_
   rw[List.length_drop]
   omega
  rw[if_neg he]
  exact⟨h,hl⟩
theorem zjm (t:Bs) (room:Bool):(∀ x∈(rline t room).1,zn8 t.length x)∧(rline t room).1.length≤40:=zp6 t _ 0 rfl (Nat.zero_le _) (fun x hx=>by simp at hx)
theorem zk0 {N:Nat} {out:List Ln} {n:Int} {ws:List Wd} (h:∀ l∈out,zgv N l) (hn:1≤n) (h40:ws.length≤40) (hw:∀ x∈ws,zn8 N x):∀ l∈addLn out n ws,zgv N l:=by
 unfold addLn
 split
 ·exact h
 rename_i h0
 intro l hl
 rcases List.mem_append.1 hl with hl | hl
 ·exact h l hl
 rw[List.mem_singleton] at hl
 subst hl
 exact⟨hn,h0,h40,hw⟩
theorem zn5 (out:List Ln) (n:Int) (ws:List Wd):(addLn out n ws).length≤out.length+1:=by
 unfold addLn
 split <;> simp
theorem zfu {N:Nat}:∀ (r:Bs) (n:Int) (cur:Bs) (out:List Ln),1≤n→cur.length+r.length≤N→(∀ l∈out,zgv N l)→(∀ l∈(rlines n cur out r).lines,zgv N l)∧(rlines n cur out r).lines.length≤out.length+r.length+1
 | [],n,cur,out,hn,hN,h=>by
  have hg:=zjm cur (decide (out.length < 2000))
  simp only[List.length_nil] at hN
  unfold rlines
  dsimp only
  split
  ·exact⟨zk0 h hn hg.2 (fun x hx=>(hg.1 x hx).mono (by omega)),by have:=zn5 out n (rline cur (decide (out.length < 2000))).1;simp;omega⟩
  exact⟨fun l hl=>by simp at hl,by simp⟩
 | c :: r,n,cur,out,hn,hN,h=>by
  have hg:=zjm cur (decide (out.length < 2000))
  simp only[List.length_cons] at hN ⊢
  unfold rlines
  split
  ·dsimp only
   split
   ·have:=zfu r (n+1) [] (addLn out n (rline cur (decide (out.length < 2000))).1) (by omega) (by simp;omega) (zk0 h hn hg.2 (fun x hx=>(hg.1 x hx).mono (by omega)))
    have h2:=zn5 out n (rline cur (decide (out.length < 2000))).1
    exact⟨this.1,by omega⟩
   exact⟨fun l hl=>by simp at hl,by simp⟩
  have:=zfu r n (cur ++ [c]) out hn (by simp;omega) h
  exact⟨this.1,by omega⟩
theorem doc_good (t:Bs):(∀ l∈(docLines t).lines,zgv t.length l)∧(docLines t).lines.length≤t.length+1:=by
 unfold docLines
 split
 ·exact⟨fun l hl=>by simp at hl,by simp⟩
 have:=zfu (N:=t.length) t 1 [] [] (by omega) (by simp) (fun l hl=>by simp at hl)
 simpa using this
theorem doc_good7 (t:Bs):(∀ l∈(docLines t).lines,zgv 70000 l)∧(docLines t).lines.length≤70001:=by
 by_cases h:65536 < t.length
 ·unfold docLines
  rw[if_pos h]
  exact⟨fun l hl=>by simp at hl,by simp⟩
 have h1:=doc_good t
 exact⟨fun l hl=>by obtain⟨k1,k2,k3,k4⟩:=h1.1 l hl;exact⟨k1,k2,k3,fun x hx=>(k4 x hx).mono (by omega)⟩,by omega⟩
end LexM

section
open Go.Shelf Go.RowKit Go.Lib VerN VarM
open LexM (Wd Ln zgv)
attribute [local go_sem ↓] Go.wp_at_zero Go.wp_at_succ
abbrev zeroRoot:Value:=.agg #[.string ⟨#[]⟩,.slice none 0 0,.slice none 0 0,.int .i64 0]
abbrev zj0 (k:Nat) (x y z u:Value) (W:World):Prop:=W.heap[k]? = some (.cells #[x,y,z,u] 101 (0,0))
theorem zc9 {k:Nat} {x y z u:Value} {W:World} (h:zj0 k x y z u W):(W.cell? ⟨k,0,none⟩=some x∧W.cell? ⟨k,1,none⟩=some y∧W.cell? ⟨k,2,none⟩=some z∧W.cell? ⟨k,3,none⟩=some u)∧W.frozen? ⟨k,0,none⟩=false∧W.frozen? ⟨k,1,none⟩=false∧W.frozen? ⟨k,2,none⟩=false∧W.frozen? ⟨k,3,none⟩=false :=
 ⟨⟨za4 h 0,za4 h 1,za4 h 2,za4 h 3⟩,za8 h 0,za8 h 1,za8 h 2,za8 h 3⟩
theorem zb1 {P:Program} {fn:Func} {p u:Tmp} {ty t:TypeId} (h:fn.results=#[.cell p ty,.tmp u]) {tmps:Array Value} {w:World} {g:Nat} {cs:Array Value} {d:TypeDesc} {x:Value}
  (hp:tmps.getD p undef = .pointer (some ⟨g,0,none⟩)) (hx:tmps.getD u undef=x) (hg:w.heap[g]? = some (.cells cs t (0,0)))
  (hu:P.underlying ty=some d) (hd:(match d with | .struct _ | .array _ _=>true | _=>false)=true) (hi:(P.info? ty).map (·.size)=some cs.size) :
  (results fn tmps).run P w = .ok (.tuple #[.agg cs,x]) w:=by
 have hl:=run_loadVar_row w g t ty cs (0,0) d hg hu hd hi
 have hp':tmps[p]?.getD undef = .pointer (some ⟨g,0,none⟩):=by simpa using hp
 have hx':tmps[u]?.getD undef=x:=by simpa using hx
 simp only[results,h]
 simp[Sem.run_bind,Result.andThen,asAddr,hp',hx',hl]
theorem zos {w:World} {b off n c:Nat} {ws:List Wd} (h:RWds w [.slice (some ⟨b,off,none⟩) n c] ws):RWds w [.slice (some ⟨b,off+2,none⟩) (n - 1) (c - 1)] (ws.drop 1):=by
 obtain⟨a',cap,hv,hcap,hmax,hel⟩:=h
 simp only[List.cons.injEq,and_true,Value.slice.injEq] at hv
 obtain⟨rfl,hn,rfl⟩:=hv
 refine⟨_,c - 1,by rw[List.length_drop,hn],by rw[List.length_drop];omega,by omega,fun i x hi=>?_⟩
 rw[List.getElem?_drop] at hi
 obtain⟨b',off',ecs,h1,h2,h3,h4⟩:=hel (1+i) x hi
 injection h1 with h1
 injection h1 with e1 e2
 subst e1 e2
 refine⟨b,off+2,ecs,rfl,h2,fun j u hu=>?_,h4⟩
 have:=h3 j u hu
 rw[show off+(1+i) * 2+j=off+2+i * 2+j by omega] at this
 exact this
def zq5 (l:Ln) (w:World) (e:Ending) (w':World):Prop :=
 ((∃ s col b1 n1 c1 b2 n2 c2,zdt l=(some s,col)∧e = .returned (.tuple #[.agg #[.string s.1,.slice b1 n1 c1,.slice b2 n2 c2,.int .i64 l.1],.int .i64 0])∧zdk w' (.slice b1 n1 c1) s.2.1∧zbj w' (.slice b2 n2 c2) s.2.2) ∨
  (∃ col,zdt l=(none,col)∧col≠0∧e = .returned (.tuple #[zeroRoot,.int .i64 col])))∧Below w.heap.size w w'
theorem zme {ws:List Wd} {n:Nat} (hn:n=ws.length) (h0:0 < n):∃ x,ws[n - 1]? = some x∧ws.getLast? = some x:=by
 subst hn
 have h:ws.length - 1 < ws.length:=by omega
 exact⟨ws[ws.length - 1],List.getElem?_eq_getElem h,by rw[List.getLast?_eq_getElem?,List.getElem?_eq_getElem h]⟩
theorem zj8 {w:World} {a:Option Addr} {n c:Nat} {l:Ln} (hws:RWds w [.slice a n c] l.2) (hD:zbi w) (hl:zgv 70000 l):Calls Tryz.prog 71 #[.agg #[.int .i64 l.1,.slice a n c]] w (zq5 l w):=by
 obtain⟨ln,ws⟩:=l
 obtain⟨hl1,hne,h40,hgood⟩:=hl
 simp only at hws hl1 hne h40 hgood ⊢
 obtain⟨hn,hz,hat⟩:=zen hws
 have hn0:0 < n:=by
  rw[hn]
  cases ws with
  | nil=>exact absurd rfl hne
  | cons x r=>simp
 obtain⟨x,hx,hx2⟩:=zme hn hn0
 obtain⟨b,off,rfl,d0,d1,_⟩:=hat (n - 1) x hx
 obtain⟨y,hy⟩ : ∃ y,ws[0]? = some y:=⟨ws[0],List.getElem?_eq_getElem _⟩
 obtain⟨_,_,e,f0,f1,_⟩:=hat 0 y hy
 injection e with e
 injection e with e1 e2
 subst e1 e2
 simp only[Nat.zero_mul,Nat.add_zero] at f0 f1
 have hgx:=hgood x (List.mem_of_getElem? hx)
 have hgy:=hgood y (List.mem_of_getElem? hy)
 obtain⟨xc,hxc⟩ : ∃ z,z=x.1:=⟨_,rfl⟩
 obtain⟨xt,hxt⟩ : ∃ z:ByteArray,z=⟨x.2.toArray⟩:=⟨_,rfl⟩
 obtain⟨yc,hyc⟩ : ∃ z,z=y.1:=⟨_,rfl⟩
 obtain⟨yt,hyt⟩ : ∃ z:ByteArray,z=⟨y.2.toArray⟩:=⟨_,rfl⟩
 rw[← hxc] at d0
 rw[← hxt] at d1
 rw[← hyc] at f0
 rw[← hyt] at f1
 have hxc1:1≤xc∧xc≤70000:=by rw[hxc];exact⟨hgx.1,hgx.2.1⟩
 have hyc1:1≤yc∧yc≤70000:=by rw[hyc];exact⟨hgy.1,hgy.2.1⟩
 have hxz:xt.size≤70000:=by rw[hxt];show x.2.toArray.size≤_;rw[List.size_toArray];exact hgx.2.2.2
 have hpk:zbw ws 0=yt:=by unfold zbw;rw[hy,hyt]
 have hcl0:zb2 ws (zd4 (ln,ws)) 0=yc:=by unfold zb2;rw[hy,hyc]
 have hfin:zd4 (ln,ws)=xc+xt.size:=by unfold zd4;simp only[hx2];rw[hxc,hxt];show x.1+(x.2.length:Int)=x.1+((x.2.toArray.size:Nat):Int);rw[List.size_toArray]
 have hcol:∀ j,zb2 (ws.drop 1) (zd4 (ln,ws)) j≠0:=fun j=>by
  unfold zb2
  cases hj:(ws.drop 1)[j]? with
  | none=>simp only;omega
  | some z =>
   simp only
   have:=(hgood z (List.mem_of_mem_drop (List.mem_of_getElem? hj))).1
   omega
 have hrest:=fun (W:World) (k:Below w.heap.size w W) (ad:Option Addr) (nn cp:Nat) (h:RWds W [.slice ad nn cp] (ws.drop 1)) (hnn:nn≤1000)=>zja (w:=W) (fin:=zd4 (ln,ws)) h (hD.below k) hnn (fun z hz=>(hgood z (List.mem_of_mem_drop hz)).2.2.2) hcol
 rw[hfin] at hrest hcol
 have heq:=Txt.eq_dec yt zlx
 have k1:((n:Int) - 1)=((n - 1:Nat):Int):=by omega
 have k2:(0:Int)≤((n - 1:Nat):Int):=by omega
 have k3:((n - 1:Nat):Int) < (n:Int):=by omega
 have k4:(0:Int) < (n:Int):=by omega
 have hbw:b < w.heap.size:=World.block_lt_of_cell? w _ d0
 obtain⟨g,hg⟩ : ∃ g,g=w.heap.size:=⟨_,rfl⟩
 obtain⟨W2,hW2⟩ : ∃ W,W=(w.alloc (.cells #[.int .i64 ln,.slice (some ⟨b,off,none⟩) n c] 62)).alloc (.cells #[.string ⟨#[]⟩,.slice none 0 0,.slice none 0 0,.int .i64 0] 101):=⟨_,rfl⟩
 have hb2:Below w.heap.size w W2:=by rw[hW2];exact (za2 _ _).alloc (by simp) _
 have p0:W2.heap[g]? = some (.cells #[.int .i64 ln,.slice (some ⟨b,off,none⟩) n c] 62 (0,0)):=by rw[hW2,hg];exact za0 (za2 _ _) (za6 rfl)
 have p1:zj0 (g+1) (.string ⟨#[]⟩) (.slice none 0 0) (.slice none 0 0) (.int .i64 0) W2:=by rw[hW2,hg];exact za6 (by simp)
 have hs2:W2.heap.size=g+2:=by rw[hW2,hg];simp
 replace d0:=cell_later hb2 d0
 replace d1:=cell_later hb2 d1
 have l0:=za4 p0 0
 have l1:=za4 p0 1
 simp only[List.getElem?_toArray,List.getElem?_cons_zero,List.getElem?_cons_succ] at l0 l1
 have hwg:w.heap.size≤g:=Nat.le_of_eq hg.symm
 have hne1:¬ b=g+1:=by omega
 have hne2:¬ g+1=b:=by omega
 obtain⟨m,hm⟩ : ∃ m,m=n - 1:=⟨_,rfl⟩
 rw[← hm] at d0 d1 k1 k2 k3
 obtain⟨W3,hW3⟩ : ∃ W,W=W2.alloc (.cells #[.int .i64 xc,.string xt] 64):=⟨_,rfl⟩
 have hb23:Below W2.heap.size W2 W3:=by rw[hW3];exact za2 _ _
 have hb3:=hb2.trans (hb23.mono hb2.size)
 have r0:=za0 hb23 p0
 have r1:=za0 hb23 p1
 have r2:W3.heap[g+2]? = some (.cells #[.int .i64 xc,.string xt] 64 (0,0)):=by rw[hW3,← hs2];exact heap_alloc_new _ _
 have hs3:W3.heap.size=g+3:=by rw[hW3];simp[hs2]
 have f0:=cell_later hb3 f0
 have f1:=cell_later hb3 f1
 have m0:=za4 r0 0
 have m1:=za4 r0 1
 simp only[List.getElem?_toArray,List.getElem?_cons_zero,List.getElem?_cons_succ] at m0 m1
 obtain⟨_,z0,z1,z2,z3⟩:=zc9 r1
 obtain⟨Hws,HD,Hat,Hne,Hgood,Hx,Hx2,Hy,Hgx,Hgy,Hxc,Hxt,Hyc,Hyt,Hpk,Hcl0⟩:=hd16 hws hD hat hne hgood hx hx2 hy hgx hgy hxc hxt hyc hyt hpk hcl0;obtain⟨Hfin,Hrest,Hcol,Hn,Hl1,Hb2,Hp0,Hp1,Hm,Hb23,Hb3,Hr0,Hr1,Hr2,Hs3⟩:=hd15 hfin hrest hcol hn hl1 hb2 p0 p1 hm hb23 hb3 r0 r1 r2 hs3;clear hws hD hat hne hgood hx hx2 hy hgx hgy hxc hxt hyc hyt hpk hcl0 hfin hrest hcol hn hl1 hb2 p0 p1 hm hb23 hb3 r0 r1 r2 hs3
 have hrt:zlx.toList = [114,111,111,116]:=by rw[Lib.toList_data];rfl
 rw[hrt] at heq
 clear hrt
 have hcap:n≤c:=by
  obtain⟨_,_,hv,hc,_⟩:=Hws.out
  simp only[List.cons.injEq,and_true,Value.slice.injEq] at hv
  omega
 by_cases hroot:yt=zlx
 ·have k5:(yt.toList == [114,111,111,116])=true:=by rw[heq,decide_eq_true hroot]
  clear heq
  by_cases hc1:c=1
  ·subst hc1
   have hrd:RWds w [.slice (some ⟨b,off,none⟩) 0 0] (ws.drop 1):=by
    have e:ws.drop 1 = []:=List.drop_eq_nil_of_le (by rw[← Hn.out];omega)
    rw[e]
    exact⟨_,0,rfl,Nat.le_refl _,Nat.zero_le _,fun i x hi=>by simp at hi⟩
   have hR:=Hrest.out W3 Hb3.out _ _ _ (zaf zbg _ _ _ _ hrd Hb3.out) (by omega)
   have Hrd:=hd hrd;clear hrd
   obtain⟨Hroot,HR⟩:=hd2 hroot hR;clear hroot hR
   go_enter Tryz.func71,Tryz.ntmps71
   go_upto_region 1 with (fail)
   rw[← hW2,← hg]
   clear hW2 hg
   go_upto_region 2 with (fail)
   rw[← hW3]
   clear hW3 hs2 l0 l1 d0 d1
   have q2:=za4 Hr2.out 0
   have q3:=za4 Hr2.out 1
   simp only[List.getElem?_toArray,List.getElem?_cons_zero,List.getElem?_cons_succ] at q2 q3
   go_wp2_with fail
   refine HR.out.mono ?_
   rintro e w4 ⟨⟨s,j,b1,n1,c1,b2,n2,c2,hw,rfl,hv1,hv2⟩ | ⟨j,hw,rfl⟩,hb4⟩
   ·obtain⟨w5,hw5⟩ : ∃ W,W=w4.alloc (.cells #[.string s.1,.slice b1 n1 c1,.slice b2 n2 c2] 51):=⟨_,rfl⟩
    have hb45:Below w4.heap.size w4 w5:=by rw[hw5];exact za2 _ _
    have hb35:=hb4.trans (hb45.mono hb4.size)
    have hb5:=Hb3.out.trans (hb35.mono Hb3.out.size)
    have y1:=za0 hb35 Hr1.out
    have y0:=za0 hb35 Hr0.out
    have y4:zan w4.heap.size (.string s.1) (.slice b1 n1 c1) (.slice b2 n2 c2) w5:=by rw[hw5];exact heap_alloc_new _ _
    obtain⟨u0,u1,u2,_,_,_⟩:=zag y4
    have t0:=za4 y0 0
    simp only[List.getElem?_toArray,List.getElem?_cons_zero,List.getElem?_cons_succ] at t0
    obtain⟨_,z0,z1,z2,z3⟩:=zc9 y1
    have hv1':=zap hv1 hb45
    have hv2':=zaz hv2 hb45
    have hbg:(b=w4.heap.size)=False:=by rw[eq_iff_iff,iff_false];have:=hb4.size;have:=Hs3.out;omega
    have hj:¬ j < n - 1:=by omega
    have k6:decide ((j:Int) < 0)=false:=decide_eq_false (by omega)
    obtain⟨Hw,Hv1,Hv2,Hb4,Hb45,Hb35,Hb5,Hy0,Hy1,Hy4,Hv1',Hv2',Hj⟩:=hd13 hw hv1 hv2 hb4 hb45 hb35 hb5 y0 y1 y4 hv1' hv2' hj;clear hw hv1 hv2 hb4 hb45 hb35 hb5 y0 y1 y4 hv1' hv2' hj
    go_upto_region 6 with (fail)
    rw[← hw5]
    clear hw5
    go_wp2_with fail
    have x0:=heap_setCell_same _ (g+1) 0 _ _ (.string s.1) Hy1.out
    have x1:=heap_setCell_same _ (g+1) 1 _ _ (.slice b1 n1 c1) x0
    have x2:=heap_setCell_same _ (g+1) 2 _ _ (.slice b2 n2 c2) x1
    have x3:=heap_setCell_same _ (g+1) 3 _ _ (.int .i64 ln) x2
    have hb8:=(((Hb5.out.setCell (p:=⟨g+1,0,none⟩) (by show w.heap.size≤g+1;omega) (.string s.1)).setCell (p:=⟨g+1,1,none⟩) (by show w.heap.size≤g+1;omega) (.slice b1 n1 c1)).setCell (p:=⟨g+1,2,none⟩) (by show w.heap.size≤g+1;omega) (.slice b2 n2 c2)).setCell (p:=⟨g+1,3,none⟩) (by show w.heap.size≤g+1;omega) (.int .i64 ln)
    have hT:Frm (fun k=>k=g+1) w5 ((((w5.setCell ⟨g+1,0,none⟩ (.string s.1)).setCell ⟨g+1,1,none⟩ (.slice b1 n1 c1)).setCell ⟨g+1,2,none⟩ (.slice b2 n2 c2)).setCell ⟨g+1,3,none⟩ (.int .i64 ln)):=za9 (za9 (za9 (za9 (Frm.refl _ _) 0 _) 1 _) 2 _) 3 _
    have hno:No2 w5 (fun k=>k=g+1):=by
     rintro k rfl
     exact zau Hy1.out (by decide) (by decide)
    refine bodyPost_ret (zb1 (g:=g+1) rfl rfl rfl x3 Tryz.underlying101 rfl (by kernel_rfl)) rfl ?_
    refine⟨.inl ⟨s,0,b1,n1,c1,b2,n2,c2,?_,rfl,zaq Hv1'.out hT hno,zat Hv2'.out hT hno⟩,hb8⟩
    unfold zdt
    rw[if_pos (by rw[Hpk.out];exact Hroot.out),Hw.out]
    simp only
    rw[if_neg (by rw[← Hn.out];exact Hj.out)]
   obtain⟨w5,hw5⟩ : ∃ W,W=w4.alloc (.cells #[.string ⟨#[]⟩,.slice none 0 0,.slice none 0 0] 51):=⟨_,rfl⟩
   have hb45:Below w4.heap.size w4 w5:=by rw[hw5];exact za2 _ _
   have hb35:=hb4.trans (hb45.mono hb4.size)
   have hb5:=Hb3.out.trans (hb35.mono Hb3.out.size)
   have y1:=za0 hb35 Hr1.out
   obtain⟨_,z0,z1,z2,z3⟩:=zc9 y1
   obtain⟨cc,hcc⟩ : ∃ z,z=zb2 (ws.drop 1) (xc+xt.size) j:=⟨_,rfl⟩
   rw[← hcc]
   have hcn:cc≠0:=by rw[hcc];exact Hcol.out j
   have k6:(cc != 0)=true:=by simpa using hcn
   obtain⟨Hw,Hb4,Hb45,Hb35,Hb5,Hy1,Hcc,Hcn⟩:=hd8 hw hb4 hb45 hb35 hb5 y1 hcc hcn;clear hw hb4 hb45 hb35 hb5 y1 hcc hcn
   go_upto_region 6 with (fail)
   rw[← hw5]
   clear hw5
   go_wp2_with fail
   have x0:=heap_setCell_same _ (g+1) 0 _ _ (.string ⟨#[]⟩) Hy1.out
   have x1:=heap_setCell_same _ (g+1) 1 _ _ (.slice none 0 0) x0
   have x2:=heap_setCell_same _ (g+1) 2 _ _ (.slice none 0 0) x1
   have x3:=heap_setCell_same _ (g+1) 3 _ _ (.int .i64 0) x2
   have hb8:=(((Hb5.out.setCell (p:=⟨g+1,0,none⟩) (by show w.heap.size≤g+1;omega) (.string ⟨#[]⟩)).setCell (p:=⟨g+1,1,none⟩) (by show w.heap.size≤g+1;omega) (.slice none 0 0)).setCell (p:=⟨g+1,2,none⟩) (by show w.heap.size≤g+1;omega) (.slice none 0 0)).setCell (p:=⟨g+1,3,none⟩) (by show w.heap.size≤g+1;omega) (.int .i64 0)
   refine bodyPost_ret (zb1 (g:=g+1) rfl rfl rfl x3 Tryz.underlying101 rfl (by kernel_rfl)) rfl ?_
   refine⟨.inr ⟨cc,?_,Hcn.out,rfl⟩,hb8⟩
   unfold zdt
   rw[if_pos (by rw[Hpk.out];exact Hroot.out),Hw.out]
   simp only
   rw[Hfin.out,Hcc.out]
  have hrd:=zos Hws.out
  have hR:=Hrest.out W3 Hb3.out _ _ _ (zaf zbg _ _ _ _ hrd Hb3.out) (by have:=Hn.out;omega)
  have Hrd:=hd hrd;clear hrd
  obtain⟨Hroot,HR⟩:=hd2 hroot hR;clear hroot hR
  go_enter Tryz.func71,Tryz.ntmps71
  go_upto_region 1 with (fail)
  rw[← hW2,← hg]
  clear hW2 hg
  go_upto_region 2 with (fail)
  rw[← hW3]
  clear hW3 hs2 l0 l1 d0 d1
  have q2:=za4 Hr2.out 0
  have q3:=za4 Hr2.out 1
  simp only[List.getElem?_toArray,List.getElem?_cons_zero,List.getElem?_cons_succ] at q2 q3
  go_wp2_with fail
  refine HR.out.mono ?_
  rintro e w4 ⟨⟨s,j,b1,n1,c1,b2,n2,c2,hw,rfl,hv1,hv2⟩ | ⟨j,hw,rfl⟩,hb4⟩
  ·obtain⟨w5,hw5⟩ : ∃ W,W=w4.alloc (.cells #[.string s.1,.slice b1 n1 c1,.slice b2 n2 c2] 51):=⟨_,rfl⟩
   have hb45:Below w4.heap.size w4 w5:=by rw[hw5];exact za2 _ _
   have hb35:=hb4.trans (hb45.mono hb4.size)
   have hb5:=Hb3.out.trans (hb35.mono Hb3.out.size)
   have y1:=za0 hb35 Hr1.out
   have y0:=za0 hb35 Hr0.out
   have y4:zan w4.heap.size (.string s.1) (.slice b1 n1 c1) (.slice b2 n2 c2) w5:=by rw[hw5];exact heap_alloc_new _ _
   obtain⟨u0,u1,u2,_,_,_⟩:=zag y4
   have t0:=za4 y0 0
   simp only[List.getElem?_toArray,List.getElem?_cons_zero,List.getElem?_cons_succ] at t0
   obtain⟨_,z0,z1,z2,z3⟩:=zc9 y1
   have hv1':=zap hv1 hb45
   have hv2':=zaz hv2 hb45
   have hbg:(b=w4.heap.size)=False:=by rw[eq_iff_iff,iff_false];have:=hb4.size;have:=Hs3.out;omega
   by_cases hj:j < n - 1
   ·have hjl:j < (ws.drop 1).length:=by rw[List.length_drop,← Hn.out];exact hj
    have e0:=(zen (zaf zbg _ _ _ _ Hrd.out hb5)).2.2 j _ (List.getElem?_eq_getElem hjl)
    obtain⟨b',off',e1,g0,_,_⟩:=e0
    injection e1 with e1
    injection e1 with e2 e3
    subst e2 e3
    obtain⟨cc,hcc⟩ : ∃ z,z=(ws.drop 1)[j].1:=⟨_,rfl⟩
    rw[← hcc] at g0
    have hccc:zb2 (ws.drop 1) (xc+xt.size) j=cc:=by rw[zl7 hjl,hcc]
    have k6:decide ((j:Int) < ((n - 1:Nat):Int))=true:=decide_eq_true (by omega)
    have k7:(0:Int)≤(j:Int):=by omega
    have k8:(j:Int) < ((n - 1:Nat):Int):=by omega
    obtain⟨Hw,Hv1,Hv2,Hb4,Hb45,Hb35,Hb5,Hy0,Hy1,Hy4,Hv1',Hv2',Hcc,Hccc,Hj⟩:=hd15 hw hv1 hv2 hb4 hb45 hb35 hb5 y0 y1 y4 hv1' hv2' hcc hccc hj;clear hw hv1 hv2 hb4 hb45 hb35 hb5 y0 y1 y4 hv1' hv2' hcc hccc hj
    go_upto_region 6 with (fail)
    rw[← hw5]
    clear hw5
    go_wp2_with fail
    go_region
    go_wp2_with fail
    have x0:=heap_setCell_same _ (g+1) 0 _ _ (.string ⟨#[]⟩) Hy1.out
    have x1:=heap_setCell_same _ (g+1) 1 _ _ (.slice none 0 0) x0
    have x2:=heap_setCell_same _ (g+1) 2 _ _ (.slice none 0 0) x1
    have x3:=heap_setCell_same _ (g+1) 3 _ _ (.int .i64 0) x2
    have hb8:=(((Hb5.out.setCell (p:=⟨g+1,0,none⟩) (by show w.heap.size≤g+1;omega) (.string ⟨#[]⟩)).setCell (p:=⟨g+1,1,none⟩) (by show w.heap.size≤g+1;omega) (.slice none 0 0)).setCell (p:=⟨g+1,2,none⟩) (by show w.heap.size≤g+1;omega) (.slice none 0 0)).setCell (p:=⟨g+1,3,none⟩) (by show w.heap.size≤g+1;omega) (.int .i64 0)
    refine bodyPost_ret (zb1 (g:=g+1) rfl rfl rfl x3 Tryz.underlying101 rfl (by kernel_rfl)) rfl ?_
    refine⟨.inr ⟨cc,?_,by rw[← Hccc.out];exact Hcol.out j,rfl⟩,Below.drew hb8⟩
    unfold zdt
    rw[if_pos (by rw[Hpk.out];exact Hroot.out),Hw.out]
    simp only
    rw[if_pos (by rw[← Hn.out];exact Hj.out),Hfin.out,Hccc.out]
   have k6:decide ((j:Int) < ((n - 1:Nat):Int))=false:=decide_eq_false (by omega)
   obtain⟨Hw,Hv1,Hv2,Hb4,Hb45,Hb35,Hb5,Hy0,Hy1,Hy4,Hv1',Hv2',Hj⟩:=hd13 hw hv1 hv2 hb4 hb45 hb35 hb5 y0 y1 y4 hv1' hv2' hj;clear hw hv1 hv2 hb4 hb45 hb35 hb5 y0 y1 y4 hv1' hv2' hj
   go_upto_region 6 with (fail)
   rw[← hw5]
   clear hw5
   go_wp2_with fail
   have x0:=heap_setCell_same _ (g+1) 0 _ _ (.string s.1) Hy1.out
   have x1:=heap_setCell_same _ (g+1) 1 _ _ (.slice b1 n1 c1) x0
   have x2:=heap_setCell_same _ (g+1) 2 _ _ (.slice b2 n2 c2) x1
   have x3:=heap_setCell_same _ (g+1) 3 _ _ (.int .i64 ln) x2
   have hb8:=(((Hb5.out.setCell (p:=⟨g+1,0,none⟩) (by show w.heap.size≤g+1;omega) (.string s.1)).setCell (p:=⟨g+1,1,none⟩) (by show w.heap.size≤g+1;omega) (.slice b1 n1 c1)).setCell (p:=⟨g+1,2,none⟩) (by show w.heap.size≤g+1;omega) (.slice b2 n2 c2)).setCell (p:=⟨g+1,3,none⟩) (by show w.heap.size≤g+1;omega) (.int .i64 ln)
   have hT:Frm (fun k=>k=g+1) w5 ((((w5.setCell ⟨g+1,0,none⟩ (.string s.1)).setCell ⟨g+1,1,none⟩ (.slice b1 n1 c1)).setCell ⟨g+1,2,none⟩ (.slice b2 n2 c2)).setCell ⟨g+1,3,none⟩ (.int .i64 ln)):=za9 (za9 (za9 (za9 (Frm.refl _ _) 0 _) 1 _) 2 _) 3 _
   have hno:No2 w5 (fun k=>k=g+1):=by
    rintro k rfl
    exact zau Hy1.out (by decide) (by decide)
   refine bodyPost_ret (zb1 (g:=g+1) rfl rfl rfl x3 Tryz.underlying101 rfl (by kernel_rfl)) rfl ?_
   refine⟨.inl ⟨s,0,b1,n1,c1,b2,n2,c2,?_,rfl,zaq Hv1'.out hT hno,zat Hv2'.out hT hno⟩,hb8⟩
   unfold zdt
   rw[if_pos (by rw[Hpk.out];exact Hroot.out),Hw.out]
   simp only
   rw[if_neg (by rw[← Hn.out];exact Hj.out)]
  obtain⟨w5,hw5⟩ : ∃ W,W=w4.alloc (.cells #[.string ⟨#[]⟩,.slice none 0 0,.slice none 0 0] 51):=⟨_,rfl⟩
  have hb45:Below w4.heap.size w4 w5:=by rw[hw5];exact za2 _ _
  have hb35:=hb4.trans (hb45.mono hb4.size)
  have hb5:=Hb3.out.trans (hb35.mono Hb3.out.size)
  have y1:=za0 hb35 Hr1.out
  obtain⟨_,z0,z1,z2,z3⟩:=zc9 y1
  obtain⟨cc,hcc⟩ : ∃ z,z=zb2 (ws.drop 1) (xc+xt.size) j:=⟨_,rfl⟩
  rw[← hcc]
  have hcn:cc≠0:=by rw[hcc];exact Hcol.out j
  have k6:(cc != 0)=true:=by simpa using hcn
  obtain⟨Hw,Hb4,Hb45,Hb35,Hb5,Hy1,Hcc,Hcn⟩:=hd8 hw hb4 hb45 hb35 hb5 y1 hcc hcn;clear hw hb4 hb45 hb35 hb5 y1 hcc hcn
  go_upto_region 6 with (fail)
  rw[← hw5]
  clear hw5
  go_wp2_with fail
  have x0:=heap_setCell_same _ (g+1) 0 _ _ (.string ⟨#[]⟩) Hy1.out
  have x1:=heap_setCell_same _ (g+1) 1 _ _ (.slice none 0 0) x0
  have x2:=heap_setCell_same _ (g+1) 2 _ _ (.slice none 0 0) x1
  have x3:=heap_setCell_same _ (g+1) 3 _ _ (.int .i64 0) x2
  have hb8:=(((Hb5.out.setCell (p:=⟨g+1,0,none⟩) (by show w.heap.size≤g+1;omega) (.string ⟨#[]⟩)).setCell (p:=⟨g+1,1,none⟩) (by show w.heap.size≤g+1;omega) (.slice none 0 0)).setCell (p:=⟨g+1,2,none⟩) (by show w.heap.size≤g+1;omega) (.slice none 0 0)).setCell (p:=⟨g+1,3,none⟩) (by show w.heap.size≤g+1;omega) (.int .i64 0)
  refine bodyPost_ret (zb1 (g:=g+1) rfl rfl rfl x3 Tryz.underlying101 rfl (by kernel_rfl)) rfl ?_
  refine⟨.inr ⟨cc,?_,Hcn.out,rfl⟩,hb8⟩
  unfold zdt
  rw[if_pos (by rw[Hpk.out];exact Hroot.out),Hw.out]
  simp only
  rw[Hfin.out,Hcc.out]
 have k5:(yt.toList == [114,111,111,116])=false:=by rw[heq,decide_eq_false hroot]
 clear heq
 have Hroot:=hd hroot;clear hroot
 go_enter Tryz.func71,Tryz.ntmps71
 go_upto_region 1 with (fail)
 rw[← hW2,← hg]
 clear hW2 hg
 go_upto_region 2 with (fail)
 rw[← hW3]
 clear hW3 hs2 l0 l1 d0 d1
 go_wp2_with fail
 go_region
 go_wp2_with fail
 have x0:=heap_setCell_same _ (g+1) 0 _ _ (.string ⟨#[]⟩) Hr1.out
 have x1:=heap_setCell_same _ (g+1) 1 _ _ (.slice none 0 0) x0
 have x2:=heap_setCell_same _ (g+1) 2 _ _ (.slice none 0 0) x1
 have x3:=heap_setCell_same _ (g+1) 3 _ _ (.int .i64 0) x2
 have hb8:=(((Hb3.out.setCell (p:=⟨g+1,0,none⟩) (by show w.heap.size≤g+1;omega) (.string ⟨#[]⟩)).setCell (p:=⟨g+1,1,none⟩) (by show w.heap.size≤g+1;omega) (.slice none 0 0)).setCell (p:=⟨g+1,2,none⟩) (by show w.heap.size≤g+1;omega) (.slice none 0 0)).setCell (p:=⟨g+1,3,none⟩) (by show w.heap.size≤g+1;omega) (.int .i64 0)
 refine bodyPost_ret (zb1 (g:=g+1) rfl rfl rfl x3 Tryz.underlying101 rfl (by kernel_rfl)) rfl ?_
 refine⟨.inr ⟨yc,?_,by omega,rfl⟩,Below.drew hb8⟩
 unfold zdt
 rw[if_neg (by rw[Hpk.out];exact Hroot.out),Hcl0.out]
end

section
open Go.RowKit
open LexM (Bs Wd Ln St)
theorem ofNat_toNat (c:UInt8):UInt8.ofNat ((c.toNat:Int)).toNat=c:=by simp
theorem strOf (s:Bs):strOfNums (s.map fun c=>((c.toNat:Int)))=⟨s.toArray⟩:=by
 unfold strOfNums
 congr 2
 rw[List.map_map]
 conv=>rhs;rw[← List.map_id s]
 apply List.map_congr_left
 intro c _
 simp
theorem zri {w:World} {B:Nat} {v:Value} {s:Bs} (h:w.ownsRow B 5 1 v s.length (zhg s)) (hs:s≠[]):(convert 142 9 v).run Tryz.prog w = .ok (bv s) w:=by
 have hpos:=List.length_pos_iff.2 hs
 obtain⟨g,cap,rfl,_,_,hn,hm,hc⟩:=zda h hpos
 have:=run_convert_bytes_arg (P:=Tryz.prog) (w:=w) 142 5 Tryz.underlying142 Tryz.underlying5 g 0 s.length cap (s.map fun c=>((c.toNat:Int))) (by simp) (fun i hi=>by
  have h1:(zhg s)[i]? = some (.int .u8 (s[i].toNat:Int)):=by simp[zhg,hi]
  rw[Nat.zero_add,hc i _ h1]
  simp[List.getD,hi]) 9 Tryz.underlying9
 rw[this,strOf]
theorem zbm.setEnds {w0 w:World} {x:Nat} {s:St} {wv sv ov:Value} {rv:List Value} (h:zbm w0 x s wv sv ov rv w) :
  zbm w0 x { s with frm:=0,word:=[] } (.slice none 0 0) sv ov rv ((w.setCell ⟨x,2,none⟩ (.int .i64 0)).setCell ⟨x,4,none⟩ (.slice none 0 0)):=by
 have f1:Frm (fun k=>k=x) w (w.setCell ⟨x,2,none⟩ (.int .i64 0)):=Frm.setCell (S:=fun k=>k=x) (Frm.refl _ _) (p:=⟨x,2,none⟩) (.inr rfl) _
 have f2:=Frm.setCell f1 (p:=⟨x,4,none⟩) (.inr rfl) (.slice none 0 0)
 refine h.to f2 ?_ (.inr ⟨rfl,rfl⟩) (.inl ⟨rfl,rfl⟩) rfl
 have h1:=heap_setCell_same w x 2 _ _ (.int .i64 0) h.cells
 rw[heap_setCell_same _ x 4 _ _ (.slice none 0 0) h1]
 rfl
abbrev lexp (x:Nat):Value:=.pointer (some ⟨x,0,none⟩)
def zg6 (w0:World) (x:Nat) (s:St) (e:Ending) (w':World):Prop:=e = .returned (.tuple #[])∧∃ wv sv ov rv,zbm w0 x s wv sv ov rv w'
theorem zkw {w0 w:World} {x:Nat} {s s':St} {wv sv ov:Value} {rv:List Value} (h:zbm w0 x s' wv sv ov rv w) (e:s'=s):zg6 w0 x s (.returned (.tuple #[])) w:=⟨rfl,wv,sv,ov,rv,e ▸ h⟩
theorem ends_some {w0 w:World} {x:Nat} {s:St} {wv sv ov:Value} {rv:List Value} (h:zbm w0 x s wv sv ov rv w) {m:Nat} (hm:m≤1000000) (hs:Small s m) (hf:0 < s.frm) :
  Calls Tryz.prog 176 #[lexp x] w (zg6 w0 x (LexM.ends s)):=by
 have hne:=hs.begun hf
 have hwl:=hs.words
 have hB:=h.bel.size
 have hcv:(convert 142 9 wv).run Tryz.prog w.drew = .ok (bv s.word) w.drew:=zri (w:=w.drew) h.word hne
 have hnx:=zah h.words h.cells (by decide)
 have c2:=za4 h.cells 2
 have c4:=za4 h.cells 4
 have c5:=za4 h.cells 5
 simp only[zav,List.getElem?_toArray,List.getElem?_cons_succ,List.getElem?_cons_zero] at c2 c4 c5
 have a5:∀ o:Obj,(w.alloc o).cell? ⟨x,5,none⟩=some sv:=fun o=>((Frm.refl _ w).alloc o).keep c5
 have hwd:(w.drew).ownsRow w0.heap.size 64 2 sv s.words.length (s.words.flatMap zb4):=h.words
 have hBd:w0.heap.size≤w.drew.heap.size:=hB
 obtain⟨Hh,Hwd,Hnx,Hs⟩:=hd4 h hwd hnx hs;clear h hwd hnx hs
 go_enter Tryz.func176,Tryz.ntmps176
 go_wp2_with fail
 go_region_law (refine zc6 zf2 (w:=w.drew) rfl (.tmp 11) (.tmp 22) rfl w0.heap.size sv s.words.length (s.words.flatMap zb4) rfl Hwd.out 1 (by decide) #[.int .i64 s.frm,bv s.word] rfl rfl (by simp[Value.oneCell',bv]) (by omega) (by unfold maxLen;omega) hBd ?_;intro g8 c8 w8 hown8 hg8 hm8;have hc8:=zbc Hh.out.cells ((Frm.drew (Frm.refl _ w)).grown hg8 (S:=fun k=>sv.ownBlock=some k) (fun k hk=>.inr hk)) Hnx.out;have d5:=za4 hc8 5;have e5:=za8 hc8 5;simp only[zav,List.getElem?_toArray,List.getElem?_cons_succ,List.getElem?_cons_zero] at d5)
 all_goals
  have hP:=Hh.out.pushWord (s.frm,s.word) hown8 (zh3 hg8) (fun k hk=>hm8 k hk)
  obtain⟨w9,hw9⟩ : ∃ w9,w9=w8.setCell ⟨x,5,none⟩ (.slice (some ⟨g8,0,none⟩) (s.words.length+1) c8):=⟨_,rfl⟩
  rw[← hw9] at hP ⊢
  have z2:=za8 hP.cells 2
  have z4:=za8 hP.cells 4
  have y2:=za4 hP.cells 2
  have y4:=za4 hP.cells 4
  simp only[zav,List.getElem?_toArray,List.getElem?_cons_succ,List.getElem?_cons_zero] at y2 y4
  have hL:=hP.setEnds
  obtain⟨HP,HL⟩:=hd2 hP hL;clear hP hL
  clear hown8 hg8 hm8 hc8 d5 e5 hw9 c2 c4 c5 a5 hcv
  go_wp2_with fail
  go_end0
  exact zkw HL.out (by unfold LexM.ends;rw[if_pos hf])
theorem ends_none {w0 w:World} {x:Nat} {s:St} {wv sv ov:Value} {rv:List Value} (h:zbm w0 x s wv sv ov rv w) (hf:¬ 0 < s.frm) :
  Calls Tryz.prog 176 #[lexp x] w (zg6 w0 x (LexM.ends s)):=by
 have z2:=za8 h.cells 2
 have z4:=za8 h.cells 4
 have y2:=za4 h.cells 2
 have y4:=za4 h.cells 4
 simp only[zav,List.getElem?_toArray,List.getElem?_cons_succ,List.getElem?_cons_zero] at y2 y4
 have hL:=h.setEnds
 obtain⟨Hh,HL⟩:=hd2 h hL;clear h hL
 go_enter Tryz.func176,Tryz.ntmps176
 go_wp2_with fail
 go_end0
 exact zkw HL.out (by unfold LexM.ends;rw[if_neg (by omega)])
theorem zhx {w0 w:World} {x:Nat} {s:St} {wv sv ov:Value} {rv:List Value} (h:zbm w0 x s wv sv ov rv w) {m:Nat} (hm:m≤1000000) (hs:Small s m) :
  Calls Tryz.prog 176 #[lexp x] w (zg6 w0 x (LexM.ends s)):=by
 by_cases hf:0 < s.frm
 ·exact ends_some h hm hs hf
 exact ends_none h hf
end
end Go.Proofs.YteailgjiifdgcaaGreatDoor
