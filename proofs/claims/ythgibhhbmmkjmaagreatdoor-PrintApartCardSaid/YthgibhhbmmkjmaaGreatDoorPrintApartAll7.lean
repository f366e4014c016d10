/- Walks and plain facts. Texts merged: RpT, Build, LexK, LexA, LexT4, RqA, RqC, SpsV, RqB, RqD, SetSame, SmS, ShrE, PnE, PnA. Condition: none beyond what each says. -/
import Derived.Test.YthgibhhbmmkjmaaGreatDoorPrintApartAll6
set_option linter.unusedVariables false
set_option linter.unusedSimpArgs false
set_option maxRecDepth 10000
set_option maxHeartbeats 4000000
namespace Go.Proofs.YthgibhhbmmkjmaaGreatDoor
section
open Go.Lib VerN VarM
def zds (L:List ByteArray):ByteArray:=⟨(Lib.join (L.map (·.data.toList)) [32]).toArray⟩
theorem zcx (L:List ByteArray):(zds L).data.toList=Lib.join (L.map (·.data.toList)) [32]:=rfl
theorem zkm:zds []=noT:=rfl
theorem zkl (x:ByteArray):zds [x]=x:=by
 apply Txt.ext
 rw[zcx,List.map_cons,List.map_nil,Lib.join_one]
theorem zuh {L:List ByteArray} (h:L≠[]) (x:ByteArray):zds (L ++ [x])=zds L ++ ⟨#[32]⟩ ++ x:=by
 apply Txt.ext
 rw[Go.Joins.data_append,Go.Joins.data_append,zcx,zcx]
 cases L with
 | nil=>exact absurd rfl h
 | cons y r =>
  rw[List.cons_append,List.map_cons,List.map_cons,Lib.join_cons,Lib.join_cons]
  have:Lib.joinTail [32] ((r ++ [x]).map (·.data.toList))=Lib.joinTail [32] (r.map (·.data.toList)) ++ (32 :: x.data.toList):=by simp[Lib.joinTail]
  rw[this]
  simp
def zfo (o:ByteArray) (x:Setg):ByteArray:=(if o=noT then o else o ++ ⟨#[32]⟩) ++ x.1 ++ ⟨#[61]⟩ ++ x.2
noncomputable def zi5 (s:Spc3):ByteArray:=if s.2.2.foldl zfo (zbk s)=noT then ze7 else s.2.2.foldl zfo (zbk s)
theorem setT_ne (x:Setg):setT x≠noT:=by
 intro e
 have h:=congrArg (fun x:ByteArray=>x.data.toList) e
 unfold setT at h
 simp only[Go.Joins.data_append] at h
 simp[noT] at h
theorem app_ne {a b:ByteArray} (h:b≠noT):a ++ b≠noT:=by
 intro e
 apply h
 have h1:=congrArg (fun x:ByteArray=>x.data.toList) e
 simp only[Go.Joins.data_append] at h1
 exact Txt.ext (List.append_eq_nil_iff.1 h1).2
theorem noT_app (a:ByteArray):noT ++ a=a:=Txt.ext (by rw[Go.Joins.data_append];rfl)
theorem zrh {L:List ByteArray} (h:L = []∨zds L≠noT) (x:Setg):zfo (zds L) x=zds (L ++ [setT x])∧zds (L ++ [setT x])≠noT:=by
 unfold zfo
 rcases h with h | h
 ·subst h
  rw[zkm,if_pos rfl,noT_app,List.nil_append,zkl]
  exact⟨rfl,setT_ne x⟩
 have hL:L≠[]:=by rintro rfl;exact h zkm
 rw[if_neg h,zuh hL]
 exact⟨by unfold setT;rw[← ByteArray.append_assoc,← ByteArray.append_assoc],app_ne (setT_ne x)⟩
theorem zma:∀ (xs:List Setg) (L:List ByteArray),(L = []∨zds L≠noT)→xs.foldl zfo (zds L)=zds (L ++ xs.map setT)∧(L ++ xs.map setT = []∨zds (L ++ xs.map setT)≠noT)
 | [],L,h=>by simpa using h
 | x :: xs,L,h=>by
  obtain⟨h1,h2⟩:=zrh h x
  have h3:=zma xs (L ++ [setT x]) (.inr h2)
  rw[List.foldl_cons,h1,List.map_cons]
  simpa using h3
theorem zms (s:Spc3):zi5 s=zds (zbf s):=by
 obtain⟨L,hL,hf,h0⟩ : ∃ L,L=(if zbk s=noT then [] else [zbk s])∧zbk s=zds L∧(L = []∨zds L≠noT):=by
  refine⟨_,rfl,?_⟩
  by_cases h:zbk s=noT
  ·rw[if_pos h];exact⟨h,.inl rfl⟩
  rw[if_neg h,zkl];exact⟨rfl,.inr h⟩
 obtain⟨h1,h2⟩:=zma s.2.2 L h0
 unfold zi5 zbf
 rw[← hL,hf,h1]
 by_cases h:L ++ s.2.2.map setT = []
 ·rw[if_pos h,h,zkm,if_pos rfl,zkl]
 rw[if_neg h,if_neg (h2.resolve_left h)]
end

section
open Go.RowKit
theorem zpq {B b:Nat} {bs:List UInt8} {w:World} (h:Bld B b bs w) (c:UInt8) (hlen:bs.length+1≤1000000000) (hBw:B≤w.heap.size) :
  Calls Tryz.prog 94 #[.pointer (some ⟨b,0,none⟩),.int .u8 c.toNat] w fun e w'=>e = .returned .nilIface∧Bld B b (bs ++ [c]) w'∧Below B w w'∧Keep w w':=by
 obtain⟨i0,hi,hz0,hz1,hz2⟩:=info_parts bld_byte
 have hl:(Lib.byteCells bs).length=bs.length:=Lib.byteCells_length bs
 have HC:=Lib.hid (fun w=>bld_check (w:=w) (B:=B) (b:=b) (bs:=Lib.byteCells bs))
 have hcat:Lib.byteCells bs ++ [.int .u8 c.toNat]=Lib.byteCells (bs ++ [c]):=by simp[Lib.byteCells]
 obtain⟨n,hn⟩ : ∃ n,n=c.toNat:=⟨_,rfl⟩
 rw[← hn] at hcat ⊢
 have hn2:n < 256:=by rw[hn];exact c.toNat_lt
 obtain⟨L,hL⟩ : ∃ L,L=Lib.byteCells bs:=⟨_,rfl⟩
 unfold Bld at h
 rw[← hL] at h hl HC hcat
 have hLl:L.length≤1000000000:=by omega
 obtain⟨Hi,Hz0,Hz1,Hz2,Hh,HL,Hn,Hl,Hcat⟩:=hd9 hi hz0 hz1 hz2 h hL hn hl hcat;clear hi hz0 hz1 hz2 h hL hn hl hcat
 go_enter Tryz.func94,Tryz.ntmps94
 go_wp2_with fail
 refine (HC.out _ Hh.out).mono ?_
 rintro e w1 ⟨rfl,⟨hB,v,hbk,hown,hne⟩,hb1,hkp⟩
 have c0:w1.cell? ⟨b,0,none⟩=some (.pointer (some ⟨b,0,none⟩)):=by rw[Lib.cell_of_heap hbk];rfl
 have c1:w1.cell? ⟨b,1,none⟩=some v:=by rw[Lib.cell_of_heap hbk];rfl
 have hB1:B≤w1.heap.size:=by have:=hb1.size;omega
 obtain⟨Hbk,Hown,Hne,Hb1,Hkp⟩:=hd5 hbk hown hne hb1 hkp;clear hbk hown hne hb1 hkp
 go_wp2_with (at_builtin;refine wpList_append_own _ rfl _ _ 57 rfl B 5 i0 (.int .u8 0) 1 1 Tryz.underlying57 Hi.out Hz0.out Hz1.out Hz2.out rfl (by decide) _ _ _ rfl (Hown.out.alloc _) ⟨w1.heap.size,0,none⟩ 1 1 [.int .u8 n] rfl rfl ?c1 ?c2 ?c3 ?c4 ?c5 ?_)
 case c1 =>
  intro j u hj
  match j,hj with
  | 0,hj=>simp at hj;subst hj;simp[Addr.add]
 case c2=>intro u hu;simp at hu;subst hu;rfl
 case c3=>unfold maxLen;omega
 case c4=>omega
 case c5=>simp;omega
 intro v' w2 hown' hgrow _
 have hlt:b < w1.heap.size:=(Array.getElem?_eq_some_iff.1 Hbk.out).1
 have hb2:w2.heap[b]? = some (.cells #[.pointer (some ⟨b,0,none⟩),v] 59 (0,0)):=by
  rw[hgrow.block b (by simp;omega) (fun e=>Hne.out e.symm),Lib.alloc_old w1 _ b hlt]
  exact Hbk.out
 have d1:w2.cell? ⟨b,1,none⟩=some v:=by rw[Lib.cell_of_heap hb2];rfl
 have f1:w2.frozen? ⟨b,1,none⟩=false:=Lib.frozen_of_heap hb2 1
 obtain⟨g,cap,rfl⟩ : ∃ g cap,v' = .slice (some ⟨g,0,none⟩) (L.length+1) cap:=by
  rcases hown'.2 with⟨_,h0⟩ | ⟨g,cap,cur,hv,_⟩
  ·omega
  exact⟨g,cap,hv⟩
 obtain⟨Hb2,Hown',Hgrow⟩:=hd3 hb2 hown' hgrow;clear hb2 hown' hgrow
 go_wp2_with fail
 go_ret
 refine⟨rfl,?_,?_,?_⟩
 ·unfold Bld
  rw[← Hcat.out]
  exact .inr (Lib.BuilderAt.put (T:=59) (e:=5) hB Hb2.out (bs':=L ++ [.int .u8 n]) (by simpa using Hown'.out) (by decide))
 ·exact ((Hb1.out.alloc hB1 _).grown Hgrow.out (by simp;omega) (fun k hk=>(Hown.out.lt k hk).1)).setCell (p:=⟨b,1,none⟩) hB _
 exact ((Hkp.out.trans (keep_below ((Below.refl _ _).alloc (Nat.le_refl _) _))).trans (keep_grown Hgrow.out (Hown.out.alloc _))).trans (keep_set Hb2.out 1 _)
end

section
open Go.RowKit
open LexM (Bs Wd Ln St)
abbrev bv (s:Bs):Value:=.string ⟨s.toArray⟩
def zdy (x:Wd):List Value:=[.int .i64 x.1,bv x.2]
def zj8 (s:Bs):List Value:=s.map fun c=>.int .u8 c.toNat
def zgn (out:List Ln) (rv:List Value):List Value:=(out.zip rv).flatMap fun x=>[.int .i64 x.1.1,x.2]
theorem zpf:Elem Tryz.prog 57 5 (.int .u8 0) 1 1:=⟨Tryz.underlying57,by kernel_rfl,rfl,by decide⟩
theorem elem_word:Elem Tryz.prog 77 81 (.agg #[.int .i64 0,.string ⟨#[]⟩]) 2 24:=⟨Tryz.underlying77,by kernel_rfl,rfl,by decide⟩
theorem elem_line:Elem Tryz.prog 74 79 (.agg #[.int .i64 0,.slice none 0 0]) 2 32:=⟨Tryz.underlying74,by kernel_rfl,rfl,by decide⟩
def zaz (s:St) (wv sv ov:Value):Array Value:=#[.int .i64 s.line,.int .i64 s.col,.int .i64 s.frm,.bool s.off,wv,sv,ov]
structure zby (w0:World) (x:Nat) (s:St) (wv sv ov:Value) (rv:List Value) (w:World):Prop where
 cells:w.heap[x]? = some (.cells (zaz s wv sv ov) 117 (0,0))
 word:w.ownsRow w0.heap.size 5 1 wv s.word.length (zj8 s.word)
 words:w.ownsRow w0.heap.size 81 2 sv s.words.length (s.words.flatMap zdy)
 out:w.ownsRow w0.heap.size 79 2 ov s.out.length (zgn s.out rv)
 rlen:rv.length=s.out.length
 rows:∀ (i:Nat) (ln:Ln) (v:Value),s.out[i]? = some ln→rv[i]? = some v→w.ownsRow w0.heap.size 81 2 v ln.2.length (ln.2.flatMap zdy)∧∀ k,v.ownBlock=some k→sv.ownBlock≠some k
 bel:Below w0.heap.size w0 w
 xB:w0.heap.size≤x
theorem zby.xs {w0 w:World} {x:Nat} {s:St} {wv sv ov:Value} {rv:List Value} (h:zby w0 x s wv sv ov rv w):x < w.heap.size:=(Array.getElem?_eq_some_iff.1 h.cells).1
theorem zby.to {w0 w w':World} {x:Nat} {s s':St} {wv sv ov wv' sv':Value} {rv:List Value} (h:zby w0 x s wv sv ov rv w) (hf:Frm (fun k=>k=x) w w')
  (hc:w'.heap[x]? = some (.cells (zaz s' wv' sv' ov) 117 (0,0)))
  (h1:(wv'=wv∧s'.word=s.word)∨(wv' = .slice none 0 0∧s'.word = [])) (h2:(sv'=sv∧s'.words=s.words)∨(sv' = .slice none 0 0∧s'.words = [])) (h3:s'.out=s.out):zby w0 x s' wv' sv' ov rv w':=by
 have hxw:=zaf h.word h.cells (by decide)
 have hxs:=zaf h.words h.cells (by decide)
 have hxo:=zaf h.out h.cells (by decide)
 refine⟨hc,?_,?_,?_,by rw[h3];exact h.rlen,?_,h.bel.trans (hf.below h.bel.size (fun k hk=>by rw[hk];exact h.xB)),h.xB⟩
 ·rcases h1 with⟨rfl,e⟩ | ⟨rfl,e⟩
  ·rw[e];exact hf.owns h.word (fun k hk e=>hxw (by rw[hk,e]))
  rw[e];exact World.ownsRow_nil _ _ _ _
 ·rcases h2 with⟨rfl,e⟩ | ⟨rfl,e⟩
  ·rw[e];exact hf.owns h.words (fun k hk e=>hxs (by rw[hk,e]))
  rw[e];exact World.ownsRow_nil _ _ _ _
 ·rw[h3];exact hf.owns h.out (fun k hk e=>hxo (by rw[hk,e]))
 intro i ln v hi hv
 rw[h3] at hi
 obtain⟨r1,r2⟩:=h.rows i ln v hi hv
 have hxv:=zaf r1 h.cells (by decide)
 refine⟨hf.owns r1 (fun k hk e=>hxv (by rw[hk,e])),fun k hk=>?_⟩
 rcases h2 with⟨rfl,e⟩ | ⟨rfl,e⟩
 ·exact r2 k hk
 simp[Value.ownBlock]
theorem zby.keep {w0 w w':World} {x:Nat} {s:St} {wv sv ov:Value} {rv:List Value} (h:zby w0 x s wv sv ov rv w) (hf:Frm (fun _=>False) w w'):zby w0 x s wv sv ov rv w' :=
 h.to (hf.mono (fun _ _ h=>h.elim)) (zav h.cells hf (fun h=>h)) (.inl ⟨rfl,rfl⟩) (.inl ⟨rfl,rfl⟩) rfl
theorem zby.pushByte {w0 w w3:World} {x:Nat} {s:St} {wv sv ov:Value} {rv:List Value} (h:zby w0 x s wv sv ov rv w) (c:UInt8) {wv':Value}
  (hown:w3.ownsRow w0.heap.size 5 1 wv' (s.word.length+1) (zj8 s.word ++ [.int .u8 c.toNat])) (hg:w.grownBy w3 wv.ownBlock) :
  zby w0 x { s with word:=s.word ++ [c] } wv' sv ov rv (w3.setCell ⟨x,4,none⟩ wv'):=by
 have hxw:=zaf h.word h.cells (by decide)
 have f1:Frm (fun k=>wv.ownBlock=some k) w w3:=(Frm.refl _ w).grown hg (fun k hk=>.inr hk)
 have hc3:=zav h.cells f1 hxw
 have f2:Frm (fun k=>k=x) w3 (w3.setCell ⟨x,4,none⟩ wv'):=Frm.setCell (S:=fun k=>k=x) (Frm.refl _ _) (p:=⟨x,4,none⟩) (.inr rfl) _
 have hx3:=zaf hown hc3 (by decide)
 refine⟨?_,?_,?_,?_,h.rlen,?_,?_,h.xB⟩
 ·rw[heap_setCell_same w3 x 4 _ _ wv' hc3];rfl
 ·simp only[List.length_append,List.length_singleton,zj8,List.map_append]
  exact f2.owns hown (fun k hk e=>hx3 (by rw[hk,e]))
 ·have:=f1.owns h.words (fun k hk e=>zdh h.words h.word (by decide) k hk e)
  have hxs:=zaf this hc3 (by decide)
  exact f2.owns this (fun k hk e=>hxs (by rw[hk,e]))
 ·have:=f1.owns h.out (fun k hk e=>zdh h.out h.word (by decide) k hk e)
  have hxs:=zaf this hc3 (by decide)
  exact f2.owns this (fun k hk e=>hxs (by rw[hk,e]))
 ·intro i ln v hi hv
  obtain⟨r1,r2⟩:=h.rows i ln v hi hv
  have:=f1.owns r1 (fun k hk e=>zdh r1 h.word (by decide) k hk e)
  have hxs:=zaf this hc3 (by decide)
  exact⟨f2.owns this (fun k hk e=>hxs (by rw[hk,e])),r2⟩
 have b1:Below w0.heap.size w w3:=f1.below h.bel.size (fun k hk=>(h.word.lt k hk).1)
 exact (h.bel.trans b1).trans (f2.below (by have:=h.bel.size;have:=f1.size;omega) (fun k hk=>by rw[hk];exact h.xB))
theorem zby.pushWord {w0 w w3:World} {x:Nat} {s:St} {wv sv ov:Value} {rv:List Value} (h:zby w0 x s wv sv ov rv w) (a:Wd) {sv':Value}
  (hown:w3.ownsRow w0.heap.size 81 2 sv' (s.words.length+1) (s.words.flatMap zdy ++ zdy a)) (hg:w.grownBy w3 sv.ownBlock) (hm:zgy w sv sv') :
  zby w0 x { s with words:=s.words ++ [a] } wv sv' ov rv (w3.setCell ⟨x,5,none⟩ sv'):=by
 have hxw:=zaf h.words h.cells (by decide)
 have f1:Frm (fun k=>sv.ownBlock=some k) w w3:=(Frm.refl _ w).grown hg (fun k hk=>.inr hk)
 have hc3:=zav h.cells f1 hxw
 have f2:Frm (fun k=>k=x) w3 (w3.setCell ⟨x,5,none⟩ sv'):=Frm.setCell (S:=fun k=>k=x) (Frm.refl _ _) (p:=⟨x,5,none⟩) (.inr rfl) _
 have hx3:=zaf hown hc3 (by decide)
 refine⟨?_,?_,?_,?_,h.rlen,?_,?_,h.xB⟩
 ·rw[heap_setCell_same w3 x 5 _ _ sv' hc3];rfl
 ·have:=f1.owns h.word (fun k hk e=>zdh h.word h.words (by decide) k hk e)
  have hxs:=zaf this hc3 (by decide)
  exact f2.owns this (fun k hk e=>hxs (by rw[hk,e]))
 ·simp only[List.length_append,List.length_singleton,List.flatMap_append,List.flatMap_cons,List.flatMap_nil,List.append_nil]
  exact f2.owns hown (fun k hk e=>hx3 (by rw[hk,e]))
 ·have:=f1.owns h.out (fun k hk e=>zdh h.out h.words (by decide) k hk e)
  have hxs:=zaf this hc3 (by decide)
  exact f2.owns this (fun k hk e=>hxs (by rw[hk,e]))
 ·intro i ln v hi hv
  obtain⟨r1,r2⟩:=h.rows i ln v hi hv
  have:=f1.owns r1 (fun k hk e=>r2 k hk e)
  have hxs:=zaf this hc3 (by decide)
  refine⟨f2.owns this (fun k hk e=>hxs (by rw[hk,e])),fun k hk e=>?_⟩
  rcases hm k e with e | e
  ·exact r2 k hk e
  have:=(r1.lt k hk).2;omega
 have b1:Below w0.heap.size w w3:=f1.below h.bel.size (fun k hk=>(h.words.lt k hk).1)
 exact (h.bel.trans b1).trans (f2.below (by have:=h.bel.size;have:=f1.size;omega) (fun k hk=>by rw[hk];exact h.xB))
theorem zoy {out:List Ln} {rv:List Value} (h:rv.length=out.length) (ln:Ln) (v:Value):zgn (out ++ [ln]) (rv ++ [v])=zgn out rv ++ [.int .i64 ln.1,v]:=by
 unfold zgn
 rw[List.zip_append h.symm]
 simp
theorem zby.pushLine {w0 w w3 w':World} {x:Nat} {s s':St} {wv sv ov:Value} {rv:List Value} (h:zby w0 x s wv sv ov rv w) {ov':Value}
  (hown:w3.ownsRow w0.heap.size 79 2 ov' (s.out.length+1) (zgn s.out rv ++ [.int .i64 s.line,sv])) (hg:w.grownBy w3 ov.ownBlock) (hf:Frm (fun k=>k=x) w3 w')
  (hc:w'.heap[x]? = some (.cells (zaz s' wv (.slice none 0 0) ov') 117 (0,0))) (h1:s'.word=s.word) (h2:s'.words = []) (h3:s'.out=s.out ++ [(s.line,s.words)]) :
  zby w0 x s' wv (.slice none 0 0) ov' (rv ++ [sv]) w':=by
 have hxw:=zaf h.out h.cells (by decide)
 have f1:Frm (fun k=>ov.ownBlock=some k) w w3:=(Frm.refl _ w).grown hg (fun k hk=>.inr hk)
 have hc3:=zav h.cells f1 hxw
 have hx3:=zaf hown hc3 (by decide)
 refine⟨hc,?_,?_,?_,by rw[h3];simp[h.rlen],?_,?_,h.xB⟩
 ·rw[h1]
  have:=f1.owns h.word (fun k hk e=>zdh h.word h.out (by decide) k hk e)
  have hxs:=zaf this hc3 (by decide)
  exact hf.owns this (fun k hk e=>hxs (by rw[hk,e]))
 ·rw[h2];exact World.ownsRow_nil _ _ _ _
 ·rw[h3,zoy h.rlen,List.length_append]
  exact hf.owns hown (fun k hk e=>hx3 (by rw[hk,e]))
 ·intro i ln v hi hv
  refine⟨?_,by simp[Value.ownBlock]⟩
  rw[h3] at hi
  by_cases hlt:i < s.out.length
  ·rw[List.getElem?_append_left hlt] at hi
   rw[List.getElem?_append_left (by rw[h.rlen];exact hlt)] at hv
   obtain⟨r1,r2⟩:=h.rows i ln v hi hv
   have:=f1.owns r1 (fun k hk e=>zdh r1 h.out (by decide) k hk e)
   have hxs:=zaf this hc3 (by decide)
   exact hf.owns this (fun k hk e=>hxs (by rw[hk,e]))
  have hil:=(List.getElem?_eq_some_iff.1 hi).1
  simp at hil
  obtain rfl:i=s.out.length:=by omega
  have hh:=h.rlen
  rw[List.getElem?_append_right (Nat.le_refl _)] at hi
  rw[← hh,List.getElem?_append_right (Nat.le_refl _)] at hv
  simp at hi hv
  subst hi;subst hv
  have:=f1.owns h.words (fun k hk e=>zdh h.words h.out (by decide) k hk e)
  have hxs:=zaf this hc3 (by decide)
  exact hf.owns this (fun k hk e=>hxs (by rw[hk,e]))
 have b1:Below w0.heap.size w w3:=f1.below h.bel.size (fun k hk=>(h.out.lt k hk).1)
 exact (h.bel.trans b1).trans (hf.below (by have:=h.bel.size;have:=f1.size;omega) (fun k hk=>by rw[hk];exact h.xB))
structure Small (s:St) (m:Nat):Prop where
 col:0≤s.col∧s.col≤m
 line:0≤s.line∧s.line≤m+1
 frm:0≤s.frm∧s.frm≤m
 word:s.word.length≤m
 words:s.words.length≤m
 out:s.out.length≤m
 begun:0 < s.frm→s.word≠[]
def RWd:Rd Wd:=fun _ cs x=>cs=zdy x∧(Lit.int .i64 x.1).wf=true∧x.2.length≤maxLen
def RLn:Rd Ln:=fun w cs x=>∃ v,cs = [.int .i64 x.1,v]∧zal 2 RWd w [v] x.2∧(Lit.int .i64 x.1).wf=true
abbrev RLns:Rd (List Ln):=zal 2 RLn
theorem zmp:zfi RWd:=fun _ _ _ _ h _=>h
theorem stays_ln:zfi RLn:=fun _ _ _ _ ⟨v,h1,h2,h3⟩ hb=>⟨v,h1,za3 zmp _ _ _ _ h2 hb,h3⟩
theorem zjx:zfi RLns:=za3 stays_ln
theorem zhh {α:Type} {w:World} {B:Nat} {e:TypeId} {sz:Nat} {v:Value} {l:List α} (f:α→List Value) (R:Rd α) (hsz:∀ x∈l,(f x).length=sz) (hR:∀ x∈l,R w (f x) x) (h:w.ownsRow B e sz v l.length (l.flatMap f)):zal sz R w [v] l:=by
 have hget:∀ (i:Nat) x,l[i]? = some x→∀ j u,(f x)[j]? = some u→(l.flatMap f)[i * sz+j]? = some u:=by
  clear h hR
  induction l with
  | nil=>intro i x hi;simp at hi
  | cons a l ih =>
   intro i x hi j u hu
   rw[List.flatMap_cons]
   have ha:=hsz a (by simp)
   have hj:j < sz:=by
    have hx:=hsz x (List.mem_of_getElem? hi)
    have:=(List.getElem?_eq_some_iff.1 hu).1
    omega
   match i,hi with
   | 0,hi =>
    simp at hi
    subst hi
    rw[List.getElem?_append_left (by omega)]
    simpa using hu
   | i+1,hi =>
    have hge:sz≤(i+1) * sz+j:=by rw[Nat.succ_mul];omega
    rw[List.getElem?_append_right (by omega),ha,show (i+1) * sz+j - sz=i * sz+j by rw[Nat.succ_mul];omega]
    exact ih (fun y hy=>hsz y (by simp[hy])) i x (by simpa using hi) j u hu
 rcases h.2 with⟨rfl,h0⟩ | ⟨g,cap,cur,rfl,hg,hh,hn,hm,hs,ht⟩
 ·exact⟨none,0,by rw[h0],by omega,Nat.zero_le _,fun i x hi=>by have:=(List.getElem?_eq_some_iff.1 hi).1;omega⟩
 refine⟨some ⟨g,0,none⟩,cap,rfl,hn,hm,fun i x hi=>⟨g,0,f x,rfl,hsz x (List.mem_of_getElem? hi),fun j u hu=>?_,hR x (List.mem_of_getElem? hi)⟩⟩
 have:=h.cells (g:=g) rfl (i * sz+j) u (hget i x hi j u hu)
 rw[Addr.add_lit] at this
 simpa [Nat.add_assoc] using this
end

section
open Go.RowKit
open LexM (Bs Wd Ln St)
theorem zqy {w:World} {av:Value} {l:List Ln} (h:RLns w [av] l):∃ a cap,av = .slice a l.length cap∧l.length≤cap∧cap≤maxLen ∧
  ∀ (i:Nat) (hi:i < l.length),∃ b off,a=some ⟨b,off,none⟩∧w.cell? ⟨b,off+i * 2,none⟩=some (.int .i64 l[i].1)∧∃ v,w.cell? ⟨b,off+i * 2+1,none⟩=some v∧zal 2 RWd w [v] l[i].2:=by
 obtain⟨a,cap,hv,h1,h2,h3⟩:=h
 simp only[List.cons.injEq,and_true] at hv
 refine⟨a,cap,hv,h1,h2,fun i hi=>?_⟩
 obtain⟨b,off,ecs,ha,hl,hc,v,hr1,hr2,_⟩:=h3 i l[i] (List.getElem?_eq_getElem hi)
 subst hr1
 exact⟨b,off,ha,by simpa using hc 0 _ rfl,v,by simpa using hc 1 _ rfl,hr2⟩
theorem wd_cell {w:World} {av:Value} {l:List Wd} (h:zal 2 RWd w [av] l):∃ a cap,av = .slice a l.length cap∧l.length≤cap∧cap≤maxLen ∧
  ∀ (i:Nat) (hi:i < l.length),∃ b off,a=some ⟨b,off,none⟩∧w.cell? ⟨b,off+i * 2,none⟩=some (.int .i64 l[i].1)∧w.cell? ⟨b,off+i * 2+1,none⟩=some (bv l[i].2):=by
 obtain⟨a,cap,hv,h1,h2,h3⟩:=h
 simp only[List.cons.injEq,and_true] at hv
 refine⟨a,cap,hv,h1,h2,fun i hi=>?_⟩
 obtain⟨b,off,ecs,ha,hl,hc,hr1,_⟩:=h3 i l[i] (List.getElem?_eq_getElem hi)
 subst hr1
 exact⟨b,off,ha,by simpa [zdy] using hc 0 _ rfl,by simpa [zdy] using hc 1 _ rfl⟩
end

section
open Go.RowKit
open LexM (Bs Wd Ln St)
def wt:List Wd→Bs
 | [] => []
 | x :: r=>x.2 ++ r.flatMap fun y=>32 :: y.2
def ltx (l:List Ln):Bs:=l.flatMap fun ln=>wt ln.2 ++ [10]
theorem wt_snoc (ws:List Wd) (x:Wd):wt (ws ++ [x])=wt ws ++ ((if ws.length=0 then [] else [32]) ++ x.2):=by
 cases ws with
 | nil=>simp[wt]
 | cons y r=>simp[wt]
theorem zlx {α:Type} (l:List α) (k:Nat) (h:k < l.length):l.take (k+1)=l.take k ++ [l[k]]:=by
 rw[List.take_add_one,List.getElem?_eq_getElem h];rfl
theorem ltx_take (l:List Ln) (k:Nat):(ltx (l.take k)).length≤(ltx l).length:=by
 conv=>rhs;rw[← List.take_append_drop k l]
 unfold ltx
 rw[List.flatMap_append,List.length_append]
 omega
theorem ltx_snoc (l:List Ln) (k:Nat) (h:k < l.length):ltx (l.take (k+1))=ltx (l.take k) ++ (wt l[k].2 ++ [10]):=by
 rw[zlx l k h]
 unfold ltx
 rw[List.flatMap_append]
 simp
theorem wt_take (ws:List Wd) (j:Nat):(wt (ws.take j)).length≤(wt ws).length:=by
 induction ws generalizing j with
 | nil=>simp
 | cons x r _ =>
  match j with
  | 0=>simp[wt]
  | j+1 =>
   simp only[List.take_succ_cons,wt,List.length_append]
   have:((r.take j).flatMap fun y=>(32:UInt8) :: y.2).length≤(r.flatMap fun y=>(32:UInt8) :: y.2).length:=by
    conv=>rhs;rw[← List.take_append_drop j r]
    rw[List.flatMap_append,List.length_append]
    omega
   omega
theorem text_any {w:World} {av:Value} {l:List Ln} (h:RLns w [av] l) (hlen:(ltx l).length≤100000000):Calls Tryz.prog 64 #[av] w fun e w'=>e = .returned (.string ⟨(ltx l).toArray⟩)∧Below w.heap.size w w':=by
 obtain⟨aa,ac,rfl,ha1,ha2,ha3⟩:=zqy h
 unfold maxLen at ha2
 obtain⟨b,hb⟩ : ∃ b,b=w.heap.size:=⟨_,rfl⟩
 have h0:=bld_new w
 have hbel0:Below w.heap.size w (w.alloc (.cells #[.pointer none,.slice none 0 0] 59)):=(Below.refl _ _).alloc (Nat.le_refl _) _
 by_cases hl0:l.length=0
 ·have hl:l = []:=List.eq_nil_of_length_eq_zero hl0
  subst hl
  have hnew:=heap_alloc_new w (.cells #[.pointer none,.slice none 0 0] 59)
  obtain⟨Hh,Ha3,H0,Hbel0,Hnew,Hb,Hl0⟩:=hd7 h ha3 h0 hbel0 hnew hb hl0;clear h ha3 h0 hbel0 hnew hb hl0
  go_enter Tryz.func64,Tryz.ntmps64
  go_wp2_with fail
  go_loop [10] (fun i=>i = .int .i64 0) (fun i=>0)
  case atStart=>rfl
  case round =>
   subst hrel
   go_wp2_with fail
   refine (bld_empty _ Hnew.out).mono ?_
   rintro e w2 ⟨rfl,hb2⟩
   have Hb2:=hd hb2;clear hb2
   go_wp2_with fail
   go_ret
   exact⟨rfl,Hbel0.out.trans (Hb2.out.mono Hbel0.out.size)⟩
 have hlp:0 < l.length:=by omega
 obtain⟨Hh,Ha3,H0,Hbel0,Hb,Hl0⟩:=hd6 h ha3 h0 hbel0 hb hl0;clear h ha3 h0 hbel0 hb hl0
 go_enter Tryz.func64,Tryz.ntmps64
 go_wp2_with fail
 rw[← Hb.out] at H0
 obtain⟨w1,hw1⟩ : ∃ w1,w1=w.alloc (.cells #[.pointer none,.slice none 0 0] 59):=⟨_,rfl⟩
 rw[← hw1] at H0 Hbel0 ⊢
 rw[← Hb.out] at Hbel0 ⊢
 clear hw1
 go_loopw [10] (fun i wr=>∃ k:Nat,k≤l.length∧i = .int .i64 k∧Bld b b (ltx (l.take k)) wr∧Below b w wr) (fun i _=>l.length - (intOf i).toNat)
 case atStart=>exact⟨0,by omega,rfl,H0.out,Hbel0.out⟩
 case round =>
  obtain⟨k,hk,rfl,hB,hbel⟩:=hrel
  by_cases hlt:k < l.length
  ·have hbelw:Below w.heap.size w wr:=by rw[← Hb.out];exact hbel
   have hBw:=hbel.size
   obtain⟨b1,o1,hx,c1,v1,c2,r1⟩:=Ha3.out k hlt
   subst hx
   obtain⟨wa,wc,rfl,hw1,hw2,hw3⟩:=wd_cell r1
   obtain⟨A,hA⟩ : ∃ A,A=l[k]:=⟨_,rfl⟩
   rw[← hA] at c1 c2 hw1 hw3
   have c1':=cell_later hbelw c1
   have c2':=cell_later hbelw c2
   unfold maxLen at hw2
   have hsn:=ltx_snoc l k hlt
   rw[← hA] at hsn
   have htl:=ltx_take l (k+1)
   rw[hsn] at htl
   simp only[List.length_append,List.length_singleton] at htl
   obtain⟨pre,hpre⟩ : ∃ pre,pre=ltx (l.take k):=⟨_,rfl⟩
   rw[← hpre] at hB hsn htl
   have hB3:Bld b b (pre ++ wt (A.2.take 0)) (wr.alloc (.cells #[.int .i64 A.1,.slice wa A.2.length wc] 79)):=by
    simp only[List.take_zero,wt,List.append_nil]
    exact bld_below hB ((Below.refl _ _).alloc (Nat.le_refl _) _)
   have hbel3:Below b w (wr.alloc (.cells #[.int .i64 A.1,.slice wa A.2.length wc] 79)):=hbel.alloc (by rw[Hb.out];exact hBw) _
   obtain⟨HB,Hbel,Hbelw,Hr1,Hw3,HA,Hsn,Hpre,HB3,Hbel3⟩:=hd10 hB hbel hbelw r1 hw3 hA hsn hpre hB3 hbel3;clear hB hbel hbelw r1 hw3 hA hsn hpre hB3 hbel3
   clear c1 c2
   go_wp2_with fail
   obtain⟨w3,hw3'⟩ : ∃ w3,w3=wr.alloc (.cells #[.int .i64 A.1,.slice wa A.2.length wc] 79):=⟨_,rfl⟩
   rw[← hw3'] at HB3 Hbel3 ⊢
   clear hw3' c1' c2'
   go_loopw [17] (fun i wr=>∃ j:Nat,j≤A.2.length∧i = .int .i64 j∧Bld b b (pre ++ wt (A.2.take j)) wr∧Below b w wr) (fun i _=>A.2.length - (intOf i).toNat)
   case atStart=>exact⟨0,by omega,rfl,HB3.out,Hbel3.out⟩
   case round =>
    obtain⟨j,hj,rfl,hBj,hbelj⟩:=hrel
    by_cases hjl:j < A.2.length
    ·have hbelw2:Below w.heap.size w wr:=by rw[← Hb.out];exact hbelj
     have hBw2:=hbelw2.size
     obtain⟨b2,o2,hx,d1,d2⟩:=Hw3.out j hjl
     subst hx
     obtain⟨X,hX⟩ : ∃ X,X=A.2[j]:=⟨_,rfl⟩
     rw[← hX] at d1 d2
     have d1':=cell_later hbelw2 d1
     have d2':=cell_later hbelw2 d2
     have hws:wt (A.2.take (j+1))=wt (A.2.take j) ++ ((if j=0 then [] else [32]) ++ X.2):=by
      rw[zlx _ _ hjl,wt_snoc,List.length_take,Nat.min_eq_left (by omega),hX]
     have hwl:=wt_take A.2 (j+1)
     rw[hws] at hwl
     simp only[List.length_append] at hwl
     have hB4:Bld b b (pre ++ wt (A.2.take j)) (wr.alloc (.cells #[.int .i64 X.1,bv X.2] 81)):=bld_below hBj ((Below.refl _ _).alloc (Nat.le_refl _) _)
     have hnew:=heap_alloc_new wr (.cells #[.int .i64 X.1,bv X.2] 81)
     have hbel4:Below b w (wr.alloc (.cells #[.int .i64 X.1,bv X.2] 81)):=hbelj.alloc (by rw[Hb.out];exact hBw2) _
     have hszX:(⟨X.2.toArray⟩ : ByteArray).size=X.2.length:=by show X.2.toArray.size=_;simp
     have hb4:b≤wr.heap.size:=by rw[Hb.out];exact hBw2
     by_cases hj0:j=0
     ·rw[if_pos hj0] at hws hwl
      have hjz:j≤0:=by omega
      have hS:=bld_string hB4 ⟨X.2.toArray⟩ (by rw[hszX,List.length_append];simp at hwl;omega) (by simp;omega)
      have e1:(pre ++ wt (A.2.take j)) ++ (⟨X.2.toArray⟩ : ByteArray).data.toList=pre ++ wt (A.2.take (j+1)):=by rw[hws];simp
      rw[e1] at hS
      obtain⟨HBj,Hbelj,Hbelw2,HX,Hws,Hwl,HB4,Hnew,Hbel4,HS,HszX,Hj0⟩:=hd12 hBj hbelj hbelw2 hX hws hwl hB4 hnew hbel4 hS hszX hj0;clear hBj hbelj hbelw2 hX hws hwl hB4 hnew hbel4 hS hszX hj0
      clear d1 d2
      go_wp2_with fail
      refine HS.out.mono ?_
      rintro e w5 ⟨rfl,hB5,hb5,hk5⟩
      have hbel5:=Hbel4.out.trans hb5
      obtain⟨HB5,Hb5,Hk5,Hbel5⟩:=hd4 hB5 hb5 hk5 hbel5;clear hB5 hb5 hk5 hbel5
      go_wp2_with fail
      go_roundw
      case rel=>exact⟨j+1,by omega,by go_num,HB5.out,Hbel5.out⟩
      case measure=>simp[intOf];omega
     rw[if_neg hj0] at hws hwl
     have hjp:0 < j:=by omega
     have hW:=zpq hB4 32 (by rw[List.length_append];simp at hwl;omega) (by simp;omega)
     obtain⟨HBj,Hbelj,Hbelw2,HX,Hws,HB4,Hnew,Hbel4,HW⟩:=hd9 hBj hbelj hbelw2 hX hws hB4 hnew hbel4 hW;clear hBj hbelj hbelw2 hX hws hB4 hnew hbel4 hW
     clear d1 d2 hj0
     go_wp2_with fail
     refine HW.out.mono ?_
     rintro e w5 ⟨rfl,hB5,hb5,hk5⟩
     have hbel5:=Hbel4.out.trans hb5
     have hn5:=hk5 _ _ _ _ Hnew.out (by decide) (by decide)
     have z1:=cell_of_row _ wr.heap.size 1 _ _ _ hn5
     simp only[List.getElem?_toArray,List.getElem?_cons_succ,List.getElem?_cons_zero] at z1
     have hS:=bld_string hB5 ⟨X.2.toArray⟩ (by rw[hszX,List.length_append,List.length_append];simp at hwl ⊢;omega) (by rw[Hb.out];exact hbel5.size)
     have e1:(pre ++ wt (A.2.take j) ++ [32]) ++ (⟨X.2.toArray⟩ : ByteArray).data.toList=pre ++ wt (A.2.take (j+1)):=by rw[Hws.out];simp
     rw[e1] at hS
     obtain⟨HB5,Hb5,Hk5,Hbel5,HS,HszX,Hn5⟩:=hd7 hB5 hb5 hk5 hbel5 hS hszX hn5;clear hB5 hb5 hk5 hbel5 hS hszX hn5
     go_wp2_with fail
     refine HS.out.mono ?_
     rintro e w6 ⟨rfl,hB6,hb6,hk6⟩
     have hbel6:=Hbel5.out.trans hb6
     obtain⟨HB6,Hb6,Hk6,Hbel6⟩:=hd4 hB6 hb6 hk6 hbel6;clear hB6 hb6 hk6 hbel6
     go_wp2_with fail
     go_roundw
     case rel=>exact⟨j+1,by omega,by go_num,HB6.out,Hbel6.out⟩
     case measure=>simp[intOf];omega
    obtain rfl:j=A.2.length:=by omega
    rw[List.take_of_length_le (Nat.le_refl _)] at hBj
    have hW:=zpq hBj 10 (by rw[List.length_append];omega) (by rw[Hb.out];exact hbelj.size)
    have e1:(pre ++ wt A.2) ++ [10]=ltx (l.take (k+1)):=by rw[Hsn.out,List.append_assoc]
    rw[e1] at hW
    obtain⟨HBj,Hbelj,HW⟩:=hd3 hBj hbelj hW;clear hBj hbelj hW
    go_wp2_with fail
    refine HW.out.mono ?_
    rintro e w5 ⟨rfl,hB5,hb5,hk5⟩
    have hbel5:=Hbelj.out.trans hb5
    obtain⟨HB5,Hb5,Hk5,Hbel5⟩:=hd4 hB5 hb5 hk5 hbel5;clear hB5 hb5 hk5 hbel5
    go_wp2_with fail
    go_roundw
    case rel=>exact⟨k+1,by omega,by go_num,HB5.out,Hbel5.out⟩
    case measure=>simp[intOf];omega
  obtain rfl:k=l.length:=by omega
  rw[List.take_of_length_le (Nat.le_refl _)] at hB
  have hne:ltx l≠[]:=by
   cases l with
   | nil=>simp at hlp
   | cons x r=>simp[ltx]
  have hD:=bld_done hB hne
  obtain⟨HB,Hbel,Hne,HD⟩:=hd4 hB hbel hne hD;clear hB hbel hne hD
  go_wp2_with fail
  refine HD.out.mono ?_
  rintro e w5 ⟨rfl,hb5⟩
  have hbel5:=Hbel.out.trans hb5
  obtain⟨Hb5,Hbel5⟩:=hd2 hb5 hbel5;clear hb5 hbel5
  go_wp2_with fail
  go_ret
  exact⟨rfl,by rw[← Hb.out];exact Hbel5.out⟩
end

section
open Go.RowKit Go.Shelf
open LexM (Wd)
attribute [local go_sem ↓] Go.wp_at_zero Go.wp_at_succ
abbrev RBox (r:Nat) (v:Value) (i:Nat) (fin:Int) (W:World):Prop:=W.heap[r]? = some (.cells #[v,.int .i64 i,.int .i64 fin] 84 (0,0))
abbrev rp (r:Nat):Value:=.pointer (some ⟨r,0,none⟩)
abbrev RWds:Rd (List Wd):=zal 2 RWd
theorem zb6 {r:Nat} {v:Value} {i:Nat} {fin:Int} {W:World} (h:RBox r v i fin W):W.cell? ⟨r,0,none⟩=some v∧W.cell? ⟨r,1,none⟩=some (.int .i64 i)∧W.cell? ⟨r,2,none⟩=some (.int .i64 fin)∧W.frozen? ⟨r,1,none⟩=false :=
 ⟨za0 h 0,za0 h 1,za0 h 2,za8 h 1⟩
theorem znv {w:World} {v:Value} {ws:List Wd} (h:RWds w [v] ws):∃ a c,v = .slice a ws.length c:=by
 obtain⟨a,cap,hv,_⟩:=h
 simp only[List.cons.injEq,and_true] at hv
 exact⟨a,cap,hv⟩
theorem zrr {w:World} {a:Option Addr} {n c:Nat} {ws:List Wd} (h:RWds w [.slice a n c] ws):n=ws.length∧n≤9223372036854775807∧∀ i x,ws[i]? = some x→∃ b off,a=some ⟨b,off,none⟩∧w.cell? ⟨b,off+i * 2,none⟩=some (.int .i64 x.1)∧w.cell? ⟨b,off+i * 2+1,none⟩=some (.string ⟨x.2.toArray⟩)∧x.2.length≤9223372036854775807:=by
 obtain⟨a',cap,hv,hcap,hmax,hel⟩:=h
 simp only[List.cons.injEq,and_true,Value.slice.injEq] at hv
 obtain⟨rfl,hn,_⟩:=hv
 unfold maxLen at hmax
 refine⟨hn,by omega,fun i x hi=>?_⟩
 obtain⟨b,off,ecs,h1,h2,h3,h4,_,h5⟩:=hel i x hi
 subst h4
 unfold maxLen at h5
 exact⟨b,off,h1,by simpa [zdy] using h3 0 _ rfl,by simpa [zdy] using h3 1 _ rfl,by omega⟩
theorem zbi {w:World} {r:Nat} {a:Option Addr} {n c i:Nat} {fin:Int} (h:RBox r (.slice a n c) i fin w):Calls Tryz.prog 53 #[rp r] w fun e w'=>e = .returned (.bool (decide (i < n)))∧∃ q,w'=w.drewN q:=by
 obtain⟨c0,c1,_,_⟩:=zb6 h
 have k1:decide ((i:Int) < (n:Int))=decide (i < n):=decide_eq_decide.2 (by omega)
 have Hh:=hd h;clear h
 go_enter Tryz.func53,Tryz.ntmps53
 go_wp2_with fail
 go_quiet (fail)
 go_wp2_with fail
 go_ret
 exact⟨rfl,_,rfl⟩
abbrev zee (c:Int):Ending:=.panicked [{ v:=.iface 120 (.agg #[.int .i64 c]),recovered:=false }]
theorem peek_any {w:World} {r:Nat} {a:Option Addr} {n c i:Nat} {fin:Int} {ws:List Wd} (h:RBox r (.slice a n c) i fin w) (hw:RWds w [.slice a n c] ws):Calls Tryz.prog 45 #[rp r] w fun e w'=>e = .returned (.string (zag ws i))∧∃ q,w'=w.drewN q:=by
 obtain⟨c0,c1,_,_⟩:=zb6 h
 have hM:=zbi h
 obtain⟨hn,hz,hat⟩:=zrr hw
 by_cases hi:i < n
 ·have hi2:i < ws.length:=by omega
  obtain⟨b,off,rfl,_,d1,_⟩:=hat i _ (List.getElem?_eq_getElem hi2)
  rw[zgl hi2]
  obtain⟨s,hs⟩ : ∃ s:ByteArray,s=⟨ws[i].2.toArray⟩:=⟨_,rfl⟩
  rw[← hs] at d1 ⊢
  rw[decide_eq_true hi] at hM
  have k5:(0:Int)≤(i:Int):=by omega
  have k6:(i:Int) < (n:Int):=by omega
  clear hs hat
  obtain⟨Hh,HM,Hw,Hn⟩:=hd4 h hM hw hn;clear h hM hw hn
  go_enter Tryz.func45,Tryz.ntmps45
  go_wp2_with fail
  refine HM.out.mono ?_
  rintro e w1 ⟨rfl,q,rfl⟩
  go_wp2_with fail
  go_quiet (fail)
  go_wp2_with fail
  go_ret
  exact⟨rfl,_,World.drewN_drewN _ _ _⟩
 rw[zeu (by omega)]
 rw[decide_eq_false hi] at hM
 clear hat
 obtain⟨Hh,HM,Hw,Hn⟩:=hd4 h hM hw hn;clear h hM hw hn
 go_enter Tryz.func45,Tryz.ntmps45
 go_wp2_with fail
 refine HM.out.mono ?_
 rintro e w1 ⟨rfl,q,rfl⟩
 go_wp2_with fail
 go_ret
 exact⟨rfl,_,rfl⟩
theorem znz {w:World} {r:Nat} {a:Option Addr} {n c i:Nat} {fin:Int} {ws:List Wd} (h:RBox r (.slice a n c) i fin w) (hw:RWds w [.slice a n c] ws):Calls Tryz.prog 51 #[rp r] w fun e w'=>e=zee (ze0 ws fin i)∧∃ q,w'=w.drewN q:=by
 obtain⟨c0,c1,c2,_⟩:=zb6 h
 have hM:=zbi h
 obtain⟨hn,hz,hat⟩:=zrr hw
 by_cases hi:i < n
 ·have hi2:i < ws.length:=by omega
  obtain⟨b,off,rfl,d0,_,_⟩:=hat i _ (List.getElem?_eq_getElem hi2)
  rw[zsx hi2]
  obtain⟨s,hs⟩ : ∃ s,s=ws[i].1:=⟨_,rfl⟩
  rw[← hs] at d0 ⊢
  rw[decide_eq_true hi] at hM
  have k5:(0:Int)≤(i:Int):=by omega
  have k6:(i:Int) < (n:Int):=by omega
  clear hs hat
  obtain⟨Hh,HM,Hw,Hn⟩:=hd4 h hM hw hn;clear h hM hw hn
  go_enter Tryz.func51,Tryz.ntmps51
  go_wp2_with fail
  refine HM.out.mono ?_
  rintro e w1 ⟨rfl,q,rfl⟩
  go_wp2_with fail
  refine wp_region_held_drew (S:=fun w'=>w'.cell? ⟨r,0,none⟩=some (.slice (some ⟨b,off,none⟩) n c)∧w'.cell? ⟨r,1,none⟩=some (.int .i64 i)∧w'.cell? ⟨b,off+i * 2,none⟩=some (.int .i64 s)) (by kernel_rfl) (by exact⟨c0,c1,d0⟩) (fun hHeld=>?_)
  refine wpAnyH_take (i:=0) (v:=?_) rfl (by kernel_rfl) (by kernel_rfl) (by kernel_rfl) (fun _ _ _ h=>h) (Or.inl ⟨by kernel_rfl,?_⟩) (by assumption) ?_
  rotate_left
  ·(intro w hSw;(try dsimp only at hSw);(try obtain⟨e0,e1,e2⟩:=hSw);go_simp;try with_reducible rfl)
  try simp only[Act.put,lA,lB,lC]
  refine wpAnyH_take (i:=1) (v:=?_) rfl (by kernel_rfl) (by kernel_rfl) (by kernel_rfl) (fun _ _ _ h=>h) (Or.inl ⟨by kernel_rfl,?_⟩) (by assumption) ?_
  rotate_left
  ·(intro w hSw;(try dsimp only at hSw);(try obtain⟨e0,e1,e2⟩:=hSw);go_simp;try with_reducible rfl)
  try simp only[Act.put,lA,lB,lC]
  refine wpAnyH_take (i:=2) (v:=?_) rfl (by kernel_rfl) (by kernel_rfl) (by kernel_rfl) (fun _ _ _ h=>h) (Or.inl ⟨by kernel_rfl,?_⟩) (by assumption) ?_
  rotate_left
  ·(intro w hSw;(try dsimp only at hSw);(try obtain⟨e0,e1,e2⟩:=hSw);go_simp;try with_reducible rfl)
  try simp only[Act.put,lA,lB,lC]
  refine wpAnyH_take (i:=3) (v:=?_) rfl (by kernel_rfl) (by kernel_rfl) (by kernel_rfl) (fun _ _ _ h=>h) (Or.inl ⟨by kernel_rfl,?_⟩) (by assumption) ?_
  rotate_left
  ·(intro w hSw;(try dsimp only at hSw);(try obtain⟨e0,e1,e2⟩:=hSw);go_simp;try with_reducible rfl)
  try simp only[Act.put,lA,lB,lC]
  refine wpAnyH_take (i:=4) (v:=?_) rfl (by kernel_rfl) (by kernel_rfl) (by kernel_rfl) (fun _ _ _ h=>h) (Or.inl ⟨by kernel_rfl,?_⟩) (by assumption) ?_
  rotate_left
  ·(intro w hSw;(try dsimp only at hSw);(try obtain⟨e0,e1,e2⟩:=hSw);go_simp;try with_reducible rfl)
  try simp only[Act.put,lA,lB,lC]
  refine wpAnyH_take (i:=5) (v:=?_) rfl (by kernel_rfl) (by kernel_rfl) (by kernel_rfl) (fun _ _ _ h=>h) (Or.inl ⟨by kernel_rfl,?_⟩) (by assumption) ?_
  rotate_left
  ·(intro w hSw;(try dsimp only at hSw);(try obtain⟨e0,e1,e2⟩:=hSw);go_simp;try with_reducible rfl)
  try simp only[Act.put,lA,lB,lC]
  refine wpAnyH_take (i:=6) (v:=?_) rfl (by kernel_rfl) (by kernel_rfl) (by kernel_rfl) (fun _ _ _ h=>h) (Or.inl ⟨by kernel_rfl,?_⟩) (by assumption) ?_
  rotate_left
  ·(intro w hSw;(try dsimp only at hSw);(try obtain⟨e0,e1,e2⟩:=hSw);go_simp;try with_reducible rfl)
  try simp only[Act.put,lA,lB,lC]
  refine wpAnyH_take (i:=7) (v:=?_) rfl (by kernel_rfl) (by kernel_rfl) (by kernel_rfl) (fun _ _ _ h=>h) (Or.inl ⟨by kernel_rfl,?_⟩) (by assumption) ?_
  rotate_left
  ·(intro w hSw;(try dsimp only at hSw);(try obtain⟨e0,e1,e2⟩:=hSw);go_simp;try with_reducible rfl)
  try simp only[Act.put,lA,lB,lC]
  refine wpAnyH_take (i:=8) (v:=?_) rfl (by kernel_rfl) (by kernel_rfl) (by kernel_rfl) (fun _ _ _ h=>h) (Or.inl ⟨by kernel_rfl,?_⟩) (by assumption) ?_
  rotate_left
  ·(intro w hSw;(try dsimp only at hSw);(try obtain⟨e0,e1,e2⟩:=hSw);go_simp;try with_reducible rfl)
  try simp only[Act.put,lA,lB,lC]
  refine wpAnyH_take (i:=9) (v:=?_) rfl (by kernel_rfl) (by kernel_rfl) (by kernel_rfl) (fun _ _ _ h=>h) (Or.inl ⟨by kernel_rfl,?_⟩) (by assumption) ?_
  rotate_left
  ·(intro w hSw;(try dsimp only at hSw);(try obtain⟨e0,e1,e2⟩:=hSw);go_simp;try with_reducible rfl)
  try simp only[Act.put,lA,lB,lC]
  refine wpAnyH_take (i:=10) (v:=?_) rfl (by kernel_rfl) (by kernel_rfl) (by kernel_rfl) (fun _ _ _ h=>h) (Or.inl ⟨by kernel_rfl,?_⟩) (by assumption) ?_
  rotate_left
  ·(intro w hSw;(try dsimp only at hSw);(try obtain⟨e0,e1,e2⟩:=hSw);go_simp;try with_reducible rfl)
  try simp only[Act.put,lA,lB,lC]
  refine wpAnyH_take (i:=11) (v:=?_) rfl (by kernel_rfl) (by kernel_rfl) (by kernel_rfl) (fun _ _ _ h=>h) (Or.inl ⟨by kernel_rfl,?_⟩) (by assumption) ?_
  rotate_left
  ·(intro w hSw;(try dsimp only at hSw);(try obtain⟨e0,e1,e2⟩:=hSw);go_simp;try with_reducible rfl)
  try simp only[Act.put,lA,lB,lC]
  refine wpAnyH_take (i:=12) (v:=?_) rfl (by kernel_rfl) (by kernel_rfl) (by kernel_rfl) (fun _ _ _ h=>h) (Or.inl ⟨by kernel_rfl,?_⟩) (by assumption) ?_
  rotate_left
  ·(intro w hSw;(try dsimp only at hSw);(try obtain⟨e0,e1,e2⟩:=hSw);go_simp;try with_reducible rfl)
  try simp only[Act.put,lA,lB,lC]
  refine wpAnyH_ready (rs:=[13]) (by kernel_rfl) (by simp) ?_
  refine AllReadyH.cons rfl (fun K hK=>?_) AllReadyH.nil
  go_simp
  exact⟨rfl,rfl,_,rfl⟩
 rw[zsy (by omega)]
 rw[decide_eq_false hi] at hM
 clear hat
 obtain⟨Hh,HM,Hw,Hn⟩:=hd4 h hM hw hn;clear h hM hw hn
 go_enter Tryz.func51,Tryz.ntmps51
 go_wp2_with fail
 refine HM.out.mono ?_
 rintro e w1 ⟨rfl,q,rfl⟩
 go_wp2_with fail
 exact⟨rfl,rfl,_,rfl⟩
theorem zc0 (w:World) (r:Nat):Calls Tryz.prog 52 #[rp r,.bool true] w fun e w'=>e = .returned (.tuple #[])∧w'=w:=by
 go_enter Tryz.func52,Tryz.ntmps52
 go_wp2_with fail
 go_end0
 exact⟨rfl,rfl⟩
theorem zfe {w:World} {r:Nat} {a:Option Addr} {n c i:Nat} {fin:Int} {ws:List Wd} (h:RBox r (.slice a n c) i fin w) (hw:RWds w [.slice a n c] ws):Calls Tryz.prog 52 #[rp r,.bool false] w fun e w'=>e=zee (ze0 ws fin i)∧∃ q,w'=w.drewN q:=by
 have hT:=znz h hw
 obtain⟨HT,Hh,Hw⟩:=hd3 hT h hw;clear hT h hw
 go_enter Tryz.func52,Tryz.ntmps52
 go_wp2_with fail
 refine HT.out.mono ?_
 rintro e w1 ⟨rfl,q,rfl⟩
 go_wp2_with fail
 exact⟨rfl,rfl,_,rfl⟩
end

section
open Go.Shelf Go.RowKit Go.Lib VerN
open LexM (Wd)
attribute [local go_sem ↓] Go.wp_at_zero Go.wp_at_succ
structure RdC (w0:World) (r:Nat) (a:Option Addr) (n c:Nat) (fin:Int) (ws:List Wd):Prop where
 words:RWds w0 [.slice a n c] ws
 doors:zbl w0
 low:w0.heap.size≤r
 n1000:n≤1000
 sz:∀ x∈ws,x.2.length≤70000
structure RdS (w0:World) (r:Nat) (a:Option Addr) (n c:Nat) (fin:Int) (i:Nat) (W:World):Prop where
 box:RBox r (.slice a n c) i fin W
 bel:Below w0.heap.size w0 W
section
variable {w0 W W' : World} {r : Nat} {a : Option Addr} {n c : Nat} {fin : Int} {ws : List Wd} {i : Nat}
theorem RdC.len (C:RdC w0 r a n c fin ws):n=ws.length:=(zrr C.words).1
theorem RdC.wds (C:RdC w0 r a n c fin ws) (S:RdS w0 r a n c fin i W):RWds W [.slice a n c] ws:=za3 zmp _ _ _ _ C.words S.bel
theorem RdS.to (S:RdS w0 r a n c fin i W) (h:Below W.heap.size W W'):RdS w0 r a n c fin i W':=⟨za1 h S.box,S.bel.trans (h.mono S.bel.size)⟩
theorem RdS.drewN (S:RdS w0 r a n c fin i W) (q:Nat):RdS w0 r a n c fin i (W.drewN q):=S.to (za6 (Below.refl _ _) q)
theorem RdC.dr (C:RdC w0 r a n c fin ws) (S:RdS w0 r a n c fin i W):zbl W:=C.doors.below S.bel
theorem RdC.peek (C:RdC w0 r a n c fin ws) (S:RdS w0 r a n c fin i W):Calls Tryz.prog 45 #[rp r] W fun e w'=>e = .returned (.string (zag ws i))∧∃ q,w'=W.drewN q:=peek_any S.box (C.wds S)
theorem RdC.more (_:RdC w0 r a n c fin ws) (S:RdS w0 r a n c fin i W):Calls Tryz.prog 53 #[rp r] W fun e w'=>e = .returned (.bool (decide (i < n)))∧∃ q,w'=W.drewN q:=zbi S.box
theorem RdC.want (C:RdC w0 r a n c fin ws) (S:RdS w0 r a n c fin i W):Calls Tryz.prog 52 #[rp r,.bool false] W fun e w'=>e=zee (ze0 ws fin i)∧∃ q,w'=W.drewN q:=zfe S.box (C.wds S)
theorem RdC.peek_size (C:RdC w0 r a n c fin ws) (i:Nat):(zag ws i).size≤70000:=by
 by_cases h:i < ws.length
 ·rw[zgl h]
  show (ws[i].2.toArray).size≤_
  rw[List.size_toArray]
  exact C.sz _ (List.getElem_mem h)
 rw[zeu (by omega)]
 decide
theorem RdS.on (S:RdS w0 r a n c fin i W) (hlow:w0.heap.size≤r):RdS w0 r a n c fin (i+1) (W.setCell ⟨r,1,none⟩ (.int .i64 ((i:Int)+1))) :=
 ⟨heap_setCell_same _ r 1 _ _ _ S.box,S.bel.setCell (p:=⟨r,1,none⟩) hlow _⟩
end
theorem zpi (c:UInt8) (s:ByteArray):(cutB c s).1.size≤s.size∧(cutB c s).2.1.size≤s.size:=by
 have e:∀ l:List UInt8,(⟨l.toArray⟩ : ByteArray).size=l.length:=fun l=>rfl
 have h1:(cut s.data.toList [c]).1.length≤s.size∧(cut s.data.toList [c]).2.1.length≤s.size:=by
  rw[← Txt.len]
  unfold cut
  split
  ·exact⟨by simp;omega,by simp⟩
  exact⟨by simp,by simp⟩
 unfold cutB
 exact⟨by rw[e];exact h1.1,by rw[e];exact h1.2⟩
def atOf (r:Nat) (W:World):Nat:=match W.cell? ⟨r,1,none⟩ with
 | some u=>(RowKit.intOf u).toNat
 | none=>0
theorem zjq {r:Nat} {v:Value} {i:Nat} {fin:Int} {W:World} (h:RBox r v i fin W):atOf r W=i:=by
 unfold atOf
 rw[(zb6 h).2.1]
 simp[RowKit.intOf]
theorem zob (out:List Setg) (x:Setg):(out ++ [x]).flatMap setCells=out.flatMap setCells ++ [.string x.1,.string x.2]:=by simp[setCells]
def SetsPost (r:Nat) (a:Option Addr) (n c:Nat) (fin:Int) (ws:List Wd) (i:Nat) (w:World) (e:Ending) (w':World):Prop :=
 ((∃ l j v,zb8 ws i []=(some l,j)∧e = .returned v∧zez w' v l∧RBox r (.slice a n c) j fin w')∨(∃ j,zb8 ws i []=(none,j)∧e=zee (ze0 ws fin j)))∧Frm (fun k=>k=r) w w'
structure StI (w0:World) (r:Nat) (a:Option Addr) (n c:Nat) (fin:Int) (ws:List Wd) (i:Nat) (w:World) (k:Nat) (out:List Setg) (v:Value) (W:World):Prop where
 st:RdS w0 r a n c fin (i+k) W
 row:W.ownsRow w.heap.size 137 2 v k (out.flatMap setCells)
 len:out.length=k
 same:zb8 ws i []=zb8 ws (i+k) out
 frm:Frm (fun x=>x=r) w W
 sz:∀ x∈out,x.1.size≤70000∧x.2.size≤70000
 k1000:k≤1000
theorem StI.reads {w0:World} {r:Nat} {a:Option Addr} {n c:Nat} {fin:Int} {ws:List Wd} {i:Nat} {w:World} {k:Nat} {out:List Setg} {v:Value} {W:World} (h:StI w0 r a n c fin ws i w k out v W):zez W v out :=
 ⟨zm0 (B:=w.heap.size) (fun x hx=>by have:=h.sz x hx;unfold maxLen;omega) (by rw[h.len];exact h.row),fun _=>zrt h.row⟩
theorem StI.to {w0:World} {r:Nat} {a:Option Addr} {n c:Nat} {fin:Int} {ws:List Wd} {i:Nat} {w:World} {k:Nat} {out:List Setg} {v:Value} {W W':World} (h:StI w0 r a n c fin ws i w k out v W) (hb:Below W.heap.size W W'):StI w0 r a n c fin ws i w k out v W' :=
 ⟨h.st.to hb,zab h.row hb,h.len,h.same,h.frm.trans (Frm.of_below (S:=fun _=>False) hb) (fun _ _ h=>h.elim),h.sz,h.k1000⟩
theorem StI.push {w0:World} {r:Nat} {a:Option Addr} {n c:Nat} {fin:Int} {ws:List Wd} {i:Nat} {w:World} {k:Nat} {out:List Setg} {v v9:Value} {W w9:World} (h:StI w0 r a n c fin ws i w k out v W) (hlow:w0.heap.size≤r) (hrw:r < w.heap.size) {x:Setg} (hx:x.1.size≤70000∧x.2.size≤70000)
  (hg:W.grownBy w9 v.ownBlock) (ho:w9.ownsRow w.heap.size 137 2 v9 (k+1) (out.flatMap setCells ++ [.string x.1,.string x.2])) :
  RdS w0 r a n c fin (i+k) w9∧Frm (fun x=>x=r) w w9∧zcj w9 [v9] (out ++ [x])∧(∀ y∈out ++ [x],y.1.size≤70000∧y.2.size≤70000):=by
 have hne:∀ j,v.ownBlock=some j→w.heap.size≤j:=fun j e=>(h.row.lt j e).1
 have hrW:r < W.heap.size:=(Array.getElem?_eq_some_iff.1 h.st.box).1
 have hsz:∀ y∈out ++ [x],y.1.size≤70000∧y.2.size≤70000:=fun y hy=>by
  rcases List.mem_append.1 hy with hy | hy
  ·exact h.sz y hy
  rw[List.mem_singleton] at hy;rw[hy];exact hx
 refine⟨⟨(hg.block r hrW (fun e=>by have:=hne r e.symm;omega)).trans h.st.box,zch h.st.bel h.row (by omega) hg h.st.bel.size⟩,h.frm.grown hg (fun j e=>.inl (hne j e)),?_,hsz⟩
 refine zm0 (B:=w.heap.size) (fun y hy=>by have:=hsz y hy;unfold maxLen;omega) ?_
 rw[List.length_append,h.len,zob]
 exact ho
theorem StI.next {w0:World} {r:Nat} {a:Option Addr} {n c:Nat} {fin:Int} {ws:List Wd} {i:Nat} {w:World} {k:Nat} {out:List Setg} {v9:Value} {w10:World} (hS:RdS w0 r a n c fin (i+k) w10) (hF:Frm (fun x=>x=r) w w10) {x:Setg} (hsz:∀ y∈out ++ [x],y.1.size≤70000∧y.2.size≤70000) (hlen:out.length=k) (hlow:w0.heap.size≤r) (hrw:r < w.heap.size) (hk:k+1≤1000)
  (ho:w10.ownsRow w.heap.size 137 2 v9 (k+1) (out.flatMap setCells ++ [.string x.1,.string x.2])) (hs:zb8 ws i []=zb8 ws (i+k+1) (out ++ [x])) :
  StI w0 r a n c fin ws i w (k+1) (out ++ [x]) v9 (w10.setCell ⟨r,1,none⟩ (.int .i64 (((i+k:Nat):Int)+1))) :=
 ⟨hS.on hlow,by rw[zob];exact zev ho hrw 1 _,by rw[List.length_append,hlen];rfl,hs,zae hF 1 _,hsz,hk⟩
theorem zf6 {w0 w:World} {r:Nat} {a:Option Addr} {n c:Nat} {fin:Int} {ws:List Wd} {i:Nat} (C:RdC w0 r a n c fin ws) (S:RdS w0 r a n c fin i w):Calls Tryz.prog 98 #[rp r] w (SetsPost r a n c fin ws i w):=by
 have hrw:r < w.heap.size:=(Array.getElem?_eq_some_iff.1 S.box).1
 have hst:StI w0 r a n c fin ws i w 0 [] (.slice none 0 0) w:=⟨S,World.ownsRow_nil _ _ _ _,rfl,rfl,Frm.refl _ _,(fun x hx=>by simp at hx),Nat.zero_le _⟩
 have hn1:=C.n1000
 obtain⟨HC,HS,Hst⟩:=hd3 C S hst;clear C S hst
 go_enter Tryz.func98,Tryz.ntmps98
 go_wp2_with fail
 go_loopw [3] (fun v wr=>∃ (k:Nat) (out:List Setg),StI w0 r a n c fin ws i w k out v wr) (fun _ wr=>n - atOf r wr)
 case atStart=>exact⟨0,[],Hst.out⟩
 case round =>
  obtain⟨k,out,hI⟩:=hrel
  obtain⟨a1,c1,rfl⟩:=zaa hI.row
  have hP:=HC.out.peek hI.st
  have hmeas:atOf r wr=i+k:=zjq hI.st.box
  obtain⟨s,hs⟩ : ∃ s,s=zag ws (i+k):=⟨_,rfl⟩
  have hsz:s.size≤70000:=by rw[hs];exact HC.out.peek_size _
  rw[← hs] at hP
  have hCo:=fun (W:World)=>Tryz.strings_Contains_one s 61 W
  obtain⟨hb,hhb⟩ : ∃ b,b=hasB 61 s:=⟨_,rfl⟩
  rw[show decide (0≤indexByte s.data.toList 61)=hb from hhb.symm] at hCo
  obtain⟨wo,hwo⟩ : ∃ W,W=wr:=⟨_,rfl⟩
  rw[← hwo] at hI hP hmeas ⊢
  clear hwo wr
  obtain⟨HI,HP,HCo,Hs,Hhb,Hmeas⟩:=hd6 hI hP hCo hs hhb hmeas;clear hI hP hCo hs hhb hmeas
  go_wp2_with fail
  refine HP.out.mono ?_
  rintro e w1 ⟨rfl,q1,rfl⟩
  have hI1:=HI.out.to (za6 (Below.refl _ _) q1)
  generalize wo.drewN q1=W1 at hI1 ⊢
  have HI1:=hd hI1;clear hI1
  go_wp2_with fail
  refine (HCo.out _).mono ?_
  rintro e w1 ⟨rfl,rfl⟩
  cases hb with
  | false =>
   go_wp2_with fail
   go_ret
   exact⟨.inl ⟨out,i+k,_,by rw[HI1.out.same];exact zm1 (by rw[← Hs.out];exact Hhb.out.symm),rfl,HI1.out.reads,HI1.out.st.box⟩,HI1.out.frm⟩
  | true =>
   have hP2:=HC.out.peek HI1.out.st
   rw[← Hs.out] at hP2
   have HP2:=hd hP2;clear hP2
   go_wp2_with fail
   refine HP2.out.mono ?_
   rintro e w1 ⟨rfl,q2,rfl⟩
   have hI2:=HI1.out.to (za6 (Below.refl _ _) q2)
   generalize w1.drewN q2=W2 at hI2 ⊢
   obtain⟨mx,hmx⟩:=(HC.out.dr hI2.st).max
   have hCut:=Tryz.strings_Cut s ⟨#[61]⟩ mx W2 (by omega) hmx
   clear hmx
   obtain⟨nm,hnm⟩ : ∃ x:ByteArray,x=⟨(cut s.data.toList [61]).1.toArray⟩:=⟨_,rfl⟩
   obtain⟨vl,hvl⟩ : ∃ x:ByteArray,x=⟨(cut s.data.toList [61]).2.1.toArray⟩:=⟨_,rfl⟩
   obtain⟨fl,hfl⟩ : ∃ x:Bool,x=(cut s.data.toList [61]).2.2:=⟨_,rfl⟩
   simp only[← hnm,← hvl,← hfl] at hCut
   have hsg:zgf s=(nm,vl):=by unfold zgf cutB;rw[hnm,hvl]
   have hsgz:nm.size≤70000∧vl.size≤70000:=by
    have:=zpi 61 s
    have e1:nm=(cutB 61 s).1:=hnm
    have e2:vl=(cutB 61 s).2.1:=hvl
    rw[e1,e2]
    omega
   have hlt:i+k < n:=by rw[HC.out.len];exact zso (by rw[← Hs.out];exact Hhb.out.symm)
   obtain⟨HCut,HI2,Hnm,Hvl,Hfl,Hsg,Hsgz⟩:=hd7 hCut hI2 hnm hvl hfl hsg hsgz;clear hCut hI2 hnm hvl hfl hsg hsgz
   go_wp2_with fail
   refine HCut.out.mono ?_
   rintro e w1 ⟨rfl,q3,rfl⟩
   have hI3:=HI2.out.to (za6 (Below.refl _ _) q3)
   generalize W2.drewN q3=W3 at hI3 ⊢
   have hrow3:=hI3.row
   have hbW3:w.heap.size≤W3.heap.size:=hI3.frm.size
   have hk1:=hI3.k1000
   obtain⟨N,hN⟩ : ∃ N,N=out.flatMap setCells:=⟨_,rfl⟩
   rw[← hN] at hrow3
   obtain⟨HI3,Hrow3,HN⟩:=hd3 hI3 hrow3 hN;clear hI3 hrow3 hN
   go_wp2_with (at_builtin;(refine zaw elem_set rfl (.tmp 18) (.tmp 22) rfl w.heap.size (.slice a1 k c1) k N rfl Hrow3.out 1 #[.string nm,.string vl] rfl rfl (by simp[Value.oneCell']) (by omega) (by unfold maxLen;omega) hbW3 ?_;intro v9 w9 hown9 hg9 hm9;obtain⟨a9,c9,rfl⟩:=zaa hown9;obtain⟨Hown9,Hg9⟩:=hd2 hown9 hg9;clear hown9 hg9 hm9))
   have ho9:=Hown9.out
   rw[HN.out] at ho9
   obtain⟨hS9,hF9,hR9,hZ9⟩:=HI3.out.push HC.out.low hrw (x:=(nm,vl)) Hsgz.out Hg9.out ho9
   have hW:=zt9 hR9
   obtain⟨b,hb⟩ : ∃ b,b=zep (out ++ [(nm,vl)]):=⟨_,rfl⟩
   rw[← hb] at hW
   obtain⟨Ho9,HS9,HF9,HR9,HZ9,HW,Hb⟩:=hd7 ho9 hS9 hF9 hR9 hZ9 hW hb;clear ho9 hS9 hF9 hR9 hZ9 hW hb
   refine HW.out.mono ?_
   rintro e w10 ⟨rfl,hb10⟩
   have hS10:=HS9.out.to hb10
   have hF10:=HF9.out.trans (Frm.of_below (S:=fun _=>False) hb10) (fun _ _ h=>h.elim)
   have ho10:=zab Ho9.out hb10
   cases b with
   | false =>
    have hWn:=HC.out.want hS10
    obtain⟨HS10,HF10,Ho10,HWn,Hb10⟩:=hd5 hS10 hF10 ho10 hWn hb10;clear hS10 hF10 ho10 hWn hb10
    go_wp2_with fail
    refine HWn.out.mono ?_
    rintro e w11 ⟨rfl,q4,rfl⟩
    go_wp2_with fail
    refine⟨rfl,.inr ⟨i+k,?_,rfl⟩,HF10.out.drewN q4⟩
    rw[HI3.out.same]
    exact zk7 (by rw[← Hs.out];exact Hhb.out.symm) (by rw[← Hs.out,Hsg.out];exact Hb.out.symm)
   | true =>
    obtain⟨m,hm⟩ : ∃ m,m=i+k:=⟨_,rfl⟩
    have hsm:zb8 ws i []=zb8 ws (i+k+1) (out ++ [(nm,vl)]):=by
     rw[HI3.out.same,zk6 (by rw[← Hs.out];exact Hhb.out.symm) (by rw[← Hs.out,Hsg.out];exact Hb.out.symm),← Hs.out,Hsg.out]
    have hnx:=StI.next hS10 hF10 HZ9.out HI3.out.len HC.out.low hrw (by omega) ho10 hsm
    rw[← hm] at hS10 hnx hlt
    obtain⟨_,c1',_,c3'⟩:=zb6 hS10.box
    have hme:=Hmeas.out
    rw[← hm] at hme
    obtain⟨HS10,HF10,Ho10,Hb10,Hm,Hsm,Hnx⟩:=hd7 hS10 hF10 ho10 hb10 hm hsm hnx;clear hS10 hF10 ho10 hb10 hm hsm hnx
    go_wp2_with fail
    refine (zc0 w10 r).mono ?_
    rintro e w11 ⟨rfl,hw11⟩
    subst hw11
    go_wp2_with fail
    go_roundw
    case rel=>exact⟨k+1,_,Hnx.out⟩
    case measure =>
     rw[zjq (i:=m+1) (fin:=fin) (v:=.slice a n c) ?_,hme]
     ·omega
     have:=Hnx.out.st.box
     rw[show i+(k+1)=m+1 by rw[Hm.out];rfl] at this
     exact this
end

section
open Go.RowKit Go.Shelf Go.Lib VerN
theorem zmr (s t a b:ByteArray) (W:World):(binOp .neq 51 (.agg #[.string s,.string t]) (.agg #[.string a,.string b])).run Tryz.prog W = .ok (.bool (!(decide (s=a) && decide (t=b)))) W:=by
 have u9:=Tryz.underlying9
 have hS:Tryz.prog.underlying 51=some (.struct (Tryz.prog.fieldsOf 51)):=by kernel_rfl
 have hp:Tryz.prog.stoodInHeld 51=false:=by kernel_rfl
 rw[run_neq_struct,show (10000:Nat)=9999+1 from rfl,run_equalIn_agg W 9999 51 _ _ hS hp]
 simp only[Program.fieldsOf,Tryz.underlying51]
 go_simp
 have e1:=Txt.eq_dec s a
 have e2:=Txt.eq_dec t b
 by_cases h1:s=a <;> by_cases h2:t=b <;> simp[h1,h2] at e1 e2 ⊢ <;> simp_all
theorem zof {w:World} {v u:Value} {l m:List BSp} (h:RSps w [v] l) (hm:RSps w [u] m):Calls Tryz.prog 116 #[v,u] w fun e w'=>e = .returned (.bool (decide (l=m)))∧∃ q,w'=w.drewN q:=by
 obtain⟨a,cap,rfl,hz,g⟩:=zc5 h
 obtain⟨a2,cap2,rfl,hz2,g2⟩:=zc5 hm
 obtain⟨n,hn⟩ : ∃ n,n=l.length:=⟨_,rfl⟩
 obtain⟨n2,hn2⟩ : ∃ n,n=m.length:=⟨_,rfl⟩
 obtain⟨r,hr⟩ : ∃ r,r=decide (l=m):=⟨_,rfl⟩
 have q1:=fun s t a b=>zmr s t a b
 rw[← hr]
 rw[← hn] at hz h ⊢
 rw[← hn2] at hz2 hm ⊢
 obtain⟨Hh,Hm,Hg,Hg2,Hn,Hn2,Hr,Hq1⟩:=hd8 h hm g g2 hn hn2 hr q1;clear h hm g g2 hn hn2 hr q1
 go_enter Tryz.func116,Tryz.ntmps116
 by_cases hne:n=n2
 case neg =>
  have k1:((n:Int) != (n2:Int))=true:=by simp;omega
  have hf:r=false:=by rw[Hr.out,decide_eq_false_iff_not];intro e;exact hne (by rw[Hn.out,Hn2.out,e])
  obtain⟨Hf,Hne⟩:=hd2 hf hne;clear hf hne
  go_wp2_with fail
  go_ret
  exact⟨zai Hf.out.symm,0,rfl⟩
 have k1:((n:Int) != (n2:Int))=false:=by simp;omega
 have Hne:=hd hne;clear hne
 go_wp2_with fail
 clear k1
 go_loopw [13] (fun i wr=>∃ k:Nat,k≤n∧i = .int .i64 k∧(∀ j (h1:j < l.length) (h2:j < m.length),j < k→l[j]=m[j])∧∃ q,wr=w.drewN q) (fun i _=>n - (RowKit.intOf i).toNat)
 case atStart=>exact⟨0,Nat.zero_le _,rfl,fun _ _ _ h=>by omega,0,rfl⟩
 case round =>
  obtain⟨k,hk,rfl,hno,q,rfl⟩:=hrel
  by_cases hlt:k < n
  ·have hkl:k < l.length:=by have:=Hn.out;omega
   have hkm:k < m.length:=by have:=Hn2.out;have:=Hne.out;omega
   obtain⟨b,off,rfl,d0,d1,_,_⟩:=Hg.out k _ (List.getElem?_eq_getElem hkl)
   obtain⟨b2,off2,rfl,f0,f1,_,_⟩:=Hg2.out k _ (List.getElem?_eq_getElem hkm)
   have hnx:l[k]=m[k]→∀ j (h1:j < l.length) (h2:j < m.length),j < k+1→l[j]=m[j]:=fun h j h1 h2 hjk=>by
    by_cases e:j=k
    ·subst e;exact h
    exact hno j h1 h2 (by omega)
   have hbd:l[k]≠m[k]→l≠m:=fun h e=>h (by subst e;rfl)
   obtain⟨x,hx⟩ : ∃ x,x=l[k]:=⟨_,rfl⟩
   obtain⟨y,hy⟩ : ∃ x,x=m[k]:=⟨_,rfl⟩
   rw[← hx] at d0 d1 hnx hbd
   rw[← hy] at f0 f1 hnx hbd
   have q2:=Hq1.out x.1 x.2 y.1 y.2
   have hxy:(decide (x.1=y.1) && decide (x.2=y.2))=decide (x=y):=by
    rw[Bool.eq_iff_iff]
    simp[Prod.ext_iff]
   rw[hxy] at q2
   obtain⟨s,hs⟩ : ∃ s,s=x.1:=⟨_,rfl⟩
   obtain⟨t,ht⟩ : ∃ s,s=x.2:=⟨_,rfl⟩
   obtain⟨s',hs'⟩ : ∃ s,s=y.1:=⟨_,rfl⟩
   obtain⟨t',ht'⟩ : ∃ s,s=y.2:=⟨_,rfl⟩
   rw[← hs,← ht,← hs',← ht'] at q2
   rw[← hs] at d0
   rw[← ht] at d1
   rw[← hs'] at f0
   rw[← ht'] at f1
   have k5:(0:Int)≤(k:Int):=by omega
   have k6:(k:Int) < (n:Int):=by omega
   have k7:(k:Int) < (n2:Int):=by have:=Hne.out;omega
   clear hxy
   by_cases e:x=y
   ·have hq:=hnx e
    rw[decide_eq_true e] at q2
    simp only[Bool.not_true] at q2
    clear e
    obtain⟨Hno,Hnx,Hbd,Hx,Hy,Hs,Ht,Hs',Ht',Hq⟩:=hd10 hno hnx hbd hx hy hs ht hs' ht' hq;clear hno hnx hbd hx hy hs ht hs' ht' hq
    go_wp2_with fail
    go_region
    go_wp2_with fail
    go_roundw
    case rel=>exact⟨k+1,by omega,by go_num,Hq.out,_,rfl⟩
    case measure=>simp[RowKit.intOf];omega
   have hf:r=false:=by rw[Hr.out,decide_eq_false_iff_not];exact hbd e
   rw[decide_eq_false e] at q2
   simp only[Bool.not_false] at q2
   clear e
   obtain⟨Hno,Hnx,Hbd,Hx,Hy,Hs,Ht,Hs',Ht',Hf⟩:=hd10 hno hnx hbd hx hy hs ht hs' ht' hf;clear hno hnx hbd hx hy hs ht hs' ht' hf
   go_wp2_with fail
   go_region
   go_wp2_with fail
   go_ret
   exact⟨zai Hf.out.symm,_,rfl⟩
  obtain rfl:n=k:=by omega
  have hf:r=true:=by
   rw[Hr.out,decide_eq_true_eq]
   exact List.ext_getElem (by rw[← Hn.out,← Hn2.out,Hne.out]) (fun j h1 h2=>hno j h1 h2 (by have:=Hn.out;omega))
  obtain⟨Hno,Hf⟩:=hd2 hno hf;clear hno hf
  go_wp2_with fail
  go_ret
  exact⟨zai Hf.out.symm,_,rfl⟩
end

section
open Go.Shelf Go.RowKit Go.Lib VerN
attribute [local go_sem ↓] Go.wp_at_zero Go.wp_at_succ
theorem zmq (w:World):RSps w [.slice none 0 0] []:=⟨_,0,rfl,Nat.zero_le _,Nat.zero_le _,fun i x hi=>by simp at hi⟩
theorem rdPost_to {t:ByteArray} {w w':World} {e:Ending} (h:RdPost t w e w'):zpu t w e w':=by
 obtain⟨h,hb⟩:=h
 refine⟨?_,hb⟩
 rcases h with⟨v,rfl,⟨h0,rfl⟩ | ⟨h0,h1,h2,h3⟩⟩ | ⟨rfl,h0,h1⟩
 ·exact .inl ⟨_,rfl,.inl h0,by unfold rdV;rw[if_pos h0];exact spsT_nil (zmq _)⟩
 ·refine .inl ⟨_,rfl,.inr ⟨h1,h2⟩,?_⟩
  unfold rdV
  rw[if_neg h0]
  obtain⟨l,hl⟩:=rd_ok t h1
  rw[← hl] at h3 ⊢
  exact⟨zi4 (fun x hx=>by have:=zk3 l x hx;unfold maxLen;omega) h3,fun _=>zrt h3⟩
 refine .inr ⟨_,rfl,?_,zmq _⟩
 rintro (h | ⟨k1,k2⟩)
 ·exact h0 h
 rcases h1 with⟨p,hp,hk⟩ | h1
 ·rw[k1 p hp] at hk;cases hk
 obtain⟨l,hl⟩:=rd_ok t k1
 exact h1 l hl (k2 l hl)
theorem spsRd_any (t:ByteArray) (ht:t.size≤70000) {w:World} (hD:zbl w):Calls Tryz.prog 119 #[.string t] w (zpu t w):=(zq3 t ht hD).mono fun _ _ h=>rdPost_to h
def zri (t:ByteArray) (w:World) (e:Ending) (w':World):Prop :=
 ∃ a n c,e = .returned (.tuple #[.slice a n c,.bool (zfl t)])∧(zfl t=true→zgv w' (.slice a n c) (rdV t))∧Below w.heap.size w w'
open Classical in
theorem setOk_yes {t:ByteArray} (h:Rd3 t) {x:BSp} {r:List BSp} (hr:rdV t=x :: r) (hx:(decide (x.1=⟨#[]⟩) && decide (x.2=⟨#[]⟩))=false):zfl t=true:=by
 unfold zfl
 rw[decide_eq_true_eq]
 refine⟨h,by rw[hr];simp,by rw[hr];rintro e;simp at e;rw[e] at hx;simp at hx⟩
open Classical in
theorem setOk_one {t:ByteArray} {x:BSp} {r:List BSp} (hr:rdV t=x :: r) (hx:(decide (x.1=⟨#[]⟩) && decide (x.2=⟨#[]⟩))=true):zfl t=false:=by
 unfold zfl
 rw[decide_eq_false_iff_not]
 rintro⟨_,_,h⟩
 rw[hr] at h
 simp only[Bool.and_eq_true,decide_eq_true_eq] at hx
 exact h (by rw[List.head?_cons];exact congrArg some (Prod.ext hx.1 hx.2))
open Classical in
theorem setOk_nil {t:ByteArray} (hr:rdV t = []):zfl t=false:=by
 unfold zfl
 rw[decide_eq_false_iff_not]
 rintro⟨_,h,_⟩
 exact h hr
open Classical in
theorem setOk_no {t:ByteArray} (h:¬ Rd3 t):zfl t=false:=by
 unfold zfl
 rw[decide_eq_false_iff_not]
 exact fun k=>h k.1
theorem bytes_e (x:ByteArray):(x.toList == (⟨#[]⟩ : ByteArray).toList)=decide (x=⟨#[]⟩):=Txt.eq_dec _ _
theorem toList_e:(⟨#[]⟩ : ByteArray).toList = []:=by rw[Lib.toList_data]
theorem set_any (t:ByteArray) (ht:t.size≤70000) {w:World} (hD:zbl w):Calls Tryz.prog 97 #[.string t] w (zri t w):=by
 have hR:=spsRd_any t ht hD
 obtain⟨HR,HD⟩:=hd2 hR hD;clear hR hD
 go_enter Tryz.func97,Tryz.ntmps97
 go_wp2_with fail
 refine HR.out.mono ?_
 rintro e w1 ⟨⟨v,rfl,hr,hv⟩ | ⟨v,rfl,hr,hv⟩,hb⟩
 ·obtain⟨a,c,rfl⟩:=zcq hv.1
  have hat:=zrx hv.1
  obtain⟨n,hn⟩ : ∃ n,n=(rdV t).length:=⟨_,rfl⟩
  rw[← hn] at hv ⊢
  match hL:rdV t with
  | [] =>
   have hf:=setOk_nil hL
   rw[hL] at hn
   obtain rfl:n=0:=hn
   clear hat hL
   obtain⟨Hr,Hv,Hf,Hb⟩:=hd4 hr hv hf hb;clear hr hv hf hb
   go_wp2_with fail
   go_quiet (fail)
   go_wp2_with fail
   go_ret2
   exact⟨_,_,_,by rw[Hf.out];rfl,(fun k=>by rw[Hf.out] at k;cases k),za6 Hb.out _⟩
  | x :: rr =>
   obtain⟨b,off,rfl,c0,c1⟩:=hat 0 x (by rw[hL];rfl)
   simp only[Nat.zero_mul,Nat.add_zero] at c0 c1
   have hn1:0 < n:=by rw[hn,hL];simp
   have k1:decide ((0:Int) < (n:Int))=true:=decide_eq_true (by omega)
   have k2:((n:Int) == 0)=false:=by rw[beq_eq_false_iff_ne];omega
   have q1:=fun (W:World)=>zmr x.1 x.2 ⟨#[]⟩ ⟨#[]⟩ W
   obtain⟨y,hy⟩ : ∃ y,y=x.1:=⟨_,rfl⟩
   obtain⟨z,hz⟩ : ∃ y,y=x.2:=⟨_,rfl⟩
   have hyes:=setOk_yes hr hL
   have hone:=setOk_one hL
   rw[← hy,← hz] at hyes hone q1
   rw[← hy] at c0
   rw[← hz] at c1
   have x1:=bytes_e y
   have x2:=bytes_e z
   rw[toList_e] at x1 x2
   have k5:(0:Int) < (n:Int):=by omega
   obtain⟨p1,hp1⟩ : ∃ p,p=decide (y=⟨#[]⟩):=⟨_,rfl⟩
   obtain⟨p2,hp2⟩ : ∃ p,p=decide (z=⟨#[]⟩):=⟨_,rfl⟩
   rw[← hp1] at x1
   rw[← hp2] at x2
   rw[← hp1,← hp2] at hyes hone q1
   clear hat
   cases p1 with
   | false =>
    have hf:=hyes rfl
    obtain⟨Hr,Hv,Hf,Hb,HL,Hn,Hy,Hz,Hyes,Hone,Hp1,Hp2⟩:=hd12 hr hv hf hb hL hn hy hz hyes hone hp1 hp2;clear hr hv hf hb hL hn hy hz hyes hone hp1 hp2
    go_wp2_with fail
    go_quiet (fail)
    go_wp2_with fail
    go_ret2
    exact⟨_,_,_,by rw[Hf.out];rfl,(fun _=>zdz Hv.out (za6 (Below.refl _ _) _)),za6 Hb.out _⟩
   | true =>
    cases p2 with
    | false =>
     have hf:=hyes rfl
     obtain⟨Hr,Hv,Hf,Hb,HL,Hn,Hy,Hz,Hyes,Hone,Hp1,Hp2⟩:=hd12 hr hv hf hb hL hn hy hz hyes hone hp1 hp2;clear hr hv hf hb hL hn hy hz hyes hone hp1 hp2
     go_wp2_with fail
     go_quiet (fail)
     go_wp2_with fail
     go_ret2
     exact⟨_,_,_,by rw[Hf.out];rfl,(fun _=>zdz Hv.out (za6 (Below.refl _ _) _)),za6 Hb.out _⟩
    | true =>
     have hf:=hone rfl
     obtain⟨Hr,Hv,Hf,Hb,HL,Hn,Hy,Hz,Hyes,Hone,Hp1,Hp2⟩:=hd12 hr hv hf hb hL hn hy hz hyes hone hp1 hp2;clear hr hv hf hb hL hn hy hz hyes hone hp1 hp2
     go_wp2_with fail
     go_quiet (fail)
     go_wp2_with fail
     go_ret2
     exact⟨_,_,_,by rw[Hf.out];rfl,(fun k=>by rw[Hf.out] at k;cases k),za6 Hb.out _⟩
 have hf:=setOk_no hr
 obtain⟨a,c,rfl⟩:=zcq hv
 obtain⟨Hr,Hv,Hf,Hb⟩:=hd4 hr hv hf hb;clear hr hv hf hb
 go_wp2_with fail
 go_quiet (fail)
 go_wp2_with fail
 go_ret2
 exact⟨_,_,_,by rw[Hf.out];rfl,(fun k=>by rw[Hf.out] at k;cases k),za6 Hb.out _⟩
end

section
open Go.Shelf Go.RowKit Go.Lib VerN VarM
open LexM (Wd)
attribute [local go_sem ↓] Go.wp_at_zero Go.wp_at_succ
def WishPost (r:Nat) (a:Option Addr) (n c:Nat) (fin:Int) (ws:List Wd) (i:Nat) (w:World) (e:Ending) (w':World):Prop :=
 ((∃ s j v1 v2,zed ws i=(some s,j)∧e = .returned (.agg #[.string s.1,v1,v2])∧zgv w' v1 s.2.1∧zez w' v2 s.2.2∧RBox r (.slice a n c) j fin w')∨(∃ j,zed ws i=(none,j)∧e=zee (ze0 ws fin j)))∧Frm (fun k=>k=r) w w'
abbrev zbb (k:Nat) (x y z:Value) (W:World):Prop:=W.heap[k]? = some (.cells #[x,y,z] 55 (0,0))
theorem zaq {k:Nat} {x y z:Value} {W:World} (h:zbb k x y z W):W.cell? ⟨k,0,none⟩=some x∧W.cell? ⟨k,1,none⟩=some y∧W.cell? ⟨k,2,none⟩=some z∧W.frozen? ⟨k,0,none⟩=false∧W.frozen? ⟨k,1,none⟩=false∧W.frozen? ⟨k,2,none⟩=false :=
 ⟨za0 h 0,za0 h 1,za0 h 2,za8 h 0,za8 h 1,za8 h 2⟩
theorem zbd {S:Nat→Prop} {W W':World} (hF:Frm S W W') {k:Nat} {o:Obj} (h:W.heap[k]? = some o) (hS:¬ S k):W'.heap[k]? = some o:=zav h hF hS
theorem zda {W:World} {r g g1:Nat} {v:Value} {i:Nat} {fin:Int} {x0 x1:Value} {a0 a1 b0 b1:Option Addr} {n0 n1 m0 m1 c0 c1 d0 d1:Nat} (h:RBox r v i fin W) (h0:zbb g x0 (.slice a0 n0 c0) (.slice b0 m0 d0) W) (h1:zbb g1 x1 (.slice a1 n1 c1) (.slice b1 m1 d1) W):No2 W (fun k=>k=r∨k=g∨k=g1):=by
 rintro k (rfl | rfl | rfl)
 ·exact zgm h (by decide) (by decide)
 ·exact zgm h0 (by decide) (by decide)
 exact zgm h1 (by decide) (by decide)
theorem zrn {W7 W8:World} {r g g1:Nat} {v:Value} {i:Nat} {fin:Int} {x y z p q s u:Value} (h0:zbb g x y z W7) (h:RBox r v i fin W7) (hr:r≠g) (hr1:r≠g1) (hg:g≠g1) (hW:W8=(((W7.setCell ⟨g1,2,none⟩ u).setCell ⟨g,0,none⟩ p).setCell ⟨g,1,none⟩ q).setCell ⟨g,2,none⟩ s):zbb g p q s W8∧RBox r v i fin W8:=by
 rw[hW]
 refine⟨?_,za5 (za5 (za5 (za5 h hr1) hr) hr) hr⟩
 have k0:=heap_setCell_same _ g 0 _ _ p (za5 (b:=g1) (i:=2) (u:=u) h0 hg)
 have k1:=heap_setCell_same _ g 1 _ _ q k0
 have k2:=heap_setCell_same _ g 2 _ _ s k1
 exact k2
structure WsI (w0:World) (r:Nat) (a:Option Addr) (n c:Nat) (fin:Int) (i:Nat) (w:World) (W:World):Prop where
 st:RdS w0 r a n c fin i W
 frm:Frm (fun k=>k=r) w W
 g0:zbb w.heap.size (.string ⟨#[]⟩) (.slice none 0 0) (.slice none 0 0) W
theorem WsI.to {w0:World} {r:Nat} {a:Option Addr} {n c:Nat} {fin:Int} {i:Nat} {w W W':World} (h:WsI w0 r a n c fin i w W) (hb:Below W.heap.size W W'):WsI w0 r a n c fin i w W' :=
 ⟨h.st.to hb,h.frm.trans (Frm.of_below (S:=fun _=>False) hb) (fun _ _ h=>h.elim),za1 hb h.g0⟩
structure WsJ (w0:World) (r:Nat) (a:Option Addr) (n c:Nat) (fin:Int) (i:Nat) (w:World) (g g1:Nat) (nm:ByteArray) (va:Option Addr) (vn vc:Nat) (L:List BSp) (W:World):Prop where
 st:RdS w0 r a n c fin i W
 frm:Frm (fun k=>k=r) w W
 g0:zbb g (.string ⟨#[]⟩) (.slice none 0 0) (.slice none 0 0) W
 g1:zbb g1 (.string nm) (.slice va vn vc) (.slice none 0 0) W
 rd:zgv W (.slice va vn vc) L
theorem zih (W:World):zgv (W.alloc (.cells #[.string ⟨#[]⟩,.string ⟨#[]⟩] 51)) (.slice (some ⟨W.heap.size,0,none⟩) 1 1) allV:=by
 refine⟨?_,fun _ k hk=>by cases hk;exact⟨_,_,heap_alloc_new W _⟩⟩
 refine⟨_,1,rfl,Nat.le_refl _,by unfold maxLen;omega,fun i x hi=>?_⟩
 have h:=heap_alloc_new W (.cells #[.string ⟨#[]⟩,.string ⟨#[]⟩] 51)
 match i,hi with
 | 0,hi =>
  simp[allV] at hi
  subst hi
  refine⟨W.heap.size,0,[.string ⟨#[]⟩,.string ⟨#[]⟩],rfl,rfl,fun j u hu=>?_,rfl,Nat.zero_le _,Nat.zero_le _⟩
  rw[Nat.zero_mul,Nat.add_zero,Nat.zero_add]
  match j,hu with
  | 0,hu=>simp at hu;subst hu;exact za0 h 0
  | 1,hu=>simp at hu;subst hu;exact za0 h 1
 | i+1,hi=>simp[allV] at hi
theorem zml {ws:List Wd} {i:Nat} (h:zlo (zag ws i)=false):zed ws i=(none,i):=by
 unfold zed
 rw[if_neg (by rw[h];simp)]
theorem znu {ws:List Wd} {i:Nat} {s nm:ByteArray} {L:List BSp} (h:zlo (zag ws i)=true) (hs:s=zag ws i) (hnm:nm=(cutB 64 s).1) (hL:L=zo6 s):(∀ l j,zb8 ws (i+1) []=(some l,j)→zed ws i=(some (nm,L,l),j))∧(∀ j,zb8 ws (i+1) []=(none,j)→zed ws i=(none,j)):=by
 subst hs hnm hL
 constructor
 ·intro l j e
  unfold zed
  rw[if_pos h,e]
  rfl
 intro j e
 unfold zed
 rw[if_pos h,e]
 rfl
theorem zro {w0 w:World} {r:Nat} {a:Option Addr} {n c:Nat} {fin:Int} {ws:List Wd} {i:Nat} (C:RdC w0 r a n c fin ws) (S:RdS w0 r a n c fin i w) (hi:i≤1000):Calls Tryz.prog 89 #[rp r] w (WishPost r a n c fin ws i w):=by
 have hrw:r < w.heap.size:=(Array.getElem?_eq_some_iff.1 S.box).1
 have hn1:=C.n1000
 obtain⟨s,hs⟩ : ∃ s,s=zag ws i:=⟨_,rfl⟩
 have hsz:s.size≤70000:=by rw[hs];exact C.peek_size _
 have hI0:WsI w0 r a n c fin i w (w.alloc (.cells #[.string ⟨#[]⟩,.slice none 0 0,.slice none 0 0] 55)):=⟨S.to (za2 w _),(Frm.refl _ _).alloc _,heap_alloc_new _ _⟩
 have hP:=C.peek hI0.st
 rw[← hs] at hP
 obtain⟨nm,hnm⟩ : ∃ x:ByteArray,x=⟨(cut s.data.toList [64]).1.toArray⟩:=⟨_,rfl⟩
 obtain⟨tl,htl⟩ : ∃ x:ByteArray,x=⟨(cut s.data.toList [64]).2.1.toArray⟩:=⟨_,rfl⟩
 obtain⟨fl,hfl⟩ : ∃ x:Bool,x=(cut s.data.toList [64]).2.2:=⟨_,rfl⟩
 have hsgz:nm.size≤70000∧tl.size≤70000:=by
  have:=zpi 64 s
  have e1:nm=(cutB 64 s).1:=hnm
  have e2:tl=(cutB 64 s).2.1:=htl
  rw[e1,e2]
  omega
 have hnm2:nm=(cutB 64 s).1:=hnm
 have hNm:=fun (W:World)=>zjm nm (by omega) W
 obtain⟨nk,hnk⟩ : ∃ b,b=zeh nm.data.toList:=⟨_,rfl⟩
 rw[← hnk] at hNm
 have hnb:zlo (zag ws i)=(nk && (!fl || zfl tl)):=by
  rw[← hs]
  unfold zlo
  rw[hnk,hfl,htl,hnm]
  rfl
 have hsb:zo6 s=if fl=true then rdV tl else allV:=by
  unfold zo6
  rw[hfl,htl]
  rfl
 obtain⟨HC,HS,HI0,HP,Hs,Hsgz,Hnm2,Hnk,Hnb,Hsb⟩:=hd10 C S hI0 hP hs hsgz hnm2 hnk hnb hsb;clear C S hI0 hP hs hsgz hnm2 hnk hnb hsb
 go_enter Tryz.func89,Tryz.ntmps89
 go_wp2_with fail
 refine HP.out.mono ?_
 rintro e w1 ⟨rfl,q1,rfl⟩
 have hI1:=HI0.out.to (za6 (Below.refl _ _) q1)
 generalize (w.alloc (.cells #[.string ⟨#[]⟩,.slice none 0 0,.slice none 0 0] 55)).drewN q1=w2 at hI1 ⊢
 obtain⟨mx,hmx⟩:=(HC.out.dr hI1.st).max
 have hCut:=Tryz.strings_Cut s ⟨#[64]⟩ mx w2 (by omega) hmx
 clear hmx
 simp only[← hnm,← htl,← hfl] at hCut
 obtain⟨HCut,HI1,Hnm,Htl,Hfl⟩:=hd5 hCut hI1 hnm htl hfl;clear hCut hI1 hnm htl hfl
 go_wp2_with fail
 refine HCut.out.mono ?_
 rintro e w3 ⟨rfl,q2,rfl⟩
 have hI2:=HI1.out.to (za6 (Below.refl _ _) q2)
 generalize w2.drewN q2=w3 at hI2 ⊢
 have HI2:=hd hI2;clear hI2
 go_upto_region 3 with (fail)
 obtain⟨g,hg⟩ : ∃ k,k=w.heap.size:=⟨_,rfl⟩
 obtain⟨g1,hg1⟩ : ∃ k,k=w3.heap.size+1:=⟨_,rfl⟩
 obtain⟨va,hva⟩ : ∃ k:Option Addr,k=some ⟨w3.heap.size,0,none⟩:=⟨_,rfl⟩
 obtain⟨w4,hw4⟩ : ∃ W,W=((w3.alloc (.cells #[.string ⟨#[]⟩,.string ⟨#[]⟩] 51)).alloc (.cells #[.string nm,.slice va 1 1,.slice none 0 0] 55)):=⟨_,rfl⟩
 have hb34:Below w3.heap.size w3 w4:=by rw[hw4];exact (za2 _ _).alloc (by simp) _
 have hJ:WsJ w0 r a n c fin i w g g1 nm va 1 1 allV w4:=by
  refine⟨HI2.out.st.to hb34,?_,?_,?_,?_⟩
  ·exact HI2.out.frm.trans (Frm.of_below (S:=fun _=>False) hb34) (fun _ _ h=>h.elim)
  ·rw[hg];exact za1 hb34 HI2.out.g0
  ·rw[hw4,hg1];exact za9 (by simp)
  rw[hw4,hva];exact zdz (zih w3) (za2 _ _)
 have hrg:r < g:=by rw[hg];exact hrw
 have hgg:g < g1:=by rw[hg1,hg];have:=HI2.out.frm.size;omega
 have hwg:w.heap.size≤g:=Nat.le_of_eq hg.symm
 rw[← hva,← hw4,← hg,← hg1]
 clear hva hw4 hg hg1 hb34
 have HJ:=hd hJ;clear hJ
 cases fl with
 | false =>
  cases nk with
  | false =>
   have hNo:=zml (ws:=ws) (i:=i) (by rw[Hnb.out];rfl)
   have hIs:=HJ.out.st
   have hIf:=HJ.out.frm
   obtain⟨HIs,HIf⟩:=hd2 hIs hIf;clear hIs hIf
   have hWn:=HC.out.want HIs.out
   obtain⟨HWn,HNo⟩:=hd2 hWn hNo;clear hWn hNo
   go_wp2_with fail
   refine (hNm _).mono ?_
   rintro e wN ⟨rfl,hwN⟩
   subst hwN
   go_wp2_with fail
   refine HWn.out.mono ?_
   rintro e w6 ⟨rfl,q5,rfl⟩
   go_wp2_with fail
   exact⟨rfl,.inr ⟨i,HNo.out,rfl⟩,HIf.out.drewN q5⟩
  | true =>
   have hYe:=znu (L:=allV) (by rw[Hnb.out];rfl) Hs.out Hnm2.out (by rw[Hsb.out];rfl)
   have HI:=HJ
   have hSt:=zf6 HC.out (HI.out.st.on HC.out.low)
   obtain⟨_,c1',_,c3'⟩:=zb6 HI.out.st.box
   obtain⟨HSt,HYe⟩:=hd2 hSt hYe;clear hSt hYe
   go_wp2_with fail
   refine (hNm _).mono ?_
   rintro e wN ⟨rfl,hwN⟩
   subst hwN
   go_wp2_with fail
   refine (zc0 _ r).mono ?_
   rintro e w6 ⟨rfl,hw6⟩
   subst hw6
   go_wp2_with fail
   refine HSt.out.mono ?_
   rintro e w7 ⟨⟨l,j,v,hse,rfl,hv,hbx⟩ | ⟨j,hse,rfl⟩,hfr⟩
   ·obtain⟨a3,c3,rfl⟩:=zcm hv.1
    have hfw:=(zae HI.out.frm 1 (.int .i64 ((i:Int)+1))).trans hfr (fun _ _ h=>h)
    obtain⟨z,hz⟩ : ∃ n,n=l.length:=⟨_,rfl⟩
    rw[← hz] at hv ⊢
    have hk0:zbb g (.string ⟨#[]⟩) (.slice none 0 0) (.slice none 0 0) w7:=zbd hfr (za5 (b:=r) (i:=1) HI.out.g0 (by omega)) (by omega)
    have hk1:zbb g1 (.string nm) (.slice va 1 1) (.slice none 0 0) w7:=zbd hfr (za5 (b:=r) (i:=1) HI.out.g1 (by omega)) (by omega)
    obtain⟨_,_,_,f00,f01,f02⟩:=zaq hk0
    obtain⟨x10,x11,_,f10,f11,f12⟩:=zaq hk1
    have hvv:=HI.out.rd
    obtain⟨Hse,Hv,Hbx,Hfr,Hfw,Hk0,Hk1,Hvv,Hz⟩:=hd9 hse hv hbx hfr hfw hk0 hk1 hvv hz;clear hse hv hbx hfr hfw hk0 hk1 hvv hz
    go_wp2_with fail
    obtain⟨W8,hW8⟩ : ∃ W,W=(((w7.setCell ⟨g1,2,none⟩ (.slice a3 z c3)).setCell ⟨g,0,none⟩ (.string nm)).setCell ⟨g,1,none⟩ (.slice va 1 1)).setCell ⟨g,2,none⟩ (.slice a3 z c3):=⟨_,rfl⟩
    rw[← hW8]
    have hfin:=zrn (g1:=g1) Hk0.out (i:=j) Hbx.out (by omega) (by omega) (by omega) hW8
    have hF8:Frm (fun k=>k=r) w W8:=by rw[hW8];exact (((Hfw.out.setCell (p:=⟨g1,2,none⟩) (.inl (show w.heap.size≤g1 by omega)) _).setCell (p:=⟨g,0,none⟩) (.inl hwg) _).setCell (p:=⟨g,1,none⟩) (.inl hwg) _).setCell (p:=⟨g,2,none⟩) (.inl hwg) _
    have hT8:Frm (fun k=>k=r∨k=g∨k=g1) w7 W8:=by
     rw[hW8]
     exact ((((Frm.refl _ w7).setCell (p:=⟨g1,2,none⟩) (.inr (.inr (.inr rfl))) _).setCell (p:=⟨g,0,none⟩) (.inr (.inr (.inl rfl))) _).setCell (p:=⟨g,1,none⟩) (.inr (.inr (.inl rfl))) _).setCell (p:=⟨g,2,none⟩) (.inr (.inr (.inl rfl))) _
    refine bodyPost_ret (results_cell_row rfl _ _ _ _ _ _ _ rfl hfin.1 Tryz.underlying55 rfl (by kernel_rfl)) rfl ?_
    refine⟨.inl ⟨(nm,allV,l),j,.slice va 1 1,.slice a3 z c3,HYe.out.1 _ _ Hse.out,rfl,?_,?_,hfin.2⟩,hF8⟩
    ·have h7:Frm (fun k=>k=r∨k=g∨k=g1) w6 w7:=(Frm.setCell (S:=fun k=>k=r∨k=g∨k=g1) (Frm.refl _ w6) (p:=⟨r,1,none⟩) (.inr (.inl rfl)) _).trans (T:=fun k=>k=r) Hfr.out (fun _ _ h=>.inl h)
     exact zbv Hvv.out (h7.trans hT8 (fun _ _ h=>h)) (zda HI.out.st.box HI.out.g0 HI.out.g1)
    exact zcv Hv.out hT8 (zda Hbx.out Hk0.out Hk1.out)
   have hfw:=(zae HI.out.frm 1 (.int .i64 ((i:Int)+1))).trans hfr (fun _ _ h=>h)
   obtain⟨Hse,Hfr,Hfw⟩:=hd3 hse hfr hfw;clear hse hfr hfw
   go_wp2_with fail
   exact⟨rfl,.inr ⟨j,HYe.out.2 _ Hse.out,rfl⟩,Hfw.out⟩
 | true =>
  have hSet:=set_any tl (by have:=Hsgz.out;omega) (HC.out.dr HJ.out.st)
  obtain⟨ok,hok⟩ : ∃ b,b=zfl tl:=⟨_,rfl⟩
  unfold zri at hSet
  rw[← hok] at hSet
  obtain⟨HSet,Hok⟩:=hd2 hSet hok;clear hSet hok
  go_wp2_with fail
  refine HSet.out.mono ?_
  rintro e w5 ⟨a2,n2,c2,rfl,hrd,hb5⟩
  have hg15:=za1 hb5 HJ.out.g1
  have hg05:=za1 hb5 HJ.out.g0
  obtain⟨_,_,_,_,fz1,_⟩:=zaq hg15
  have hst5:=HJ.out.st.to hb5
  have hfr5:=HJ.out.frm.trans (Frm.of_below (S:=fun _=>False) hb5) (fun _ _ h=>h.elim)
  obtain⟨w6,hw6⟩ : ∃ W,W=w5.setCell ⟨g1,1,none⟩ (.slice a2 n2 c2):=⟨_,rfl⟩
  have hIs:RdS w0 r a n c fin i w6:=by rw[hw6];exact⟨za5 hst5.box (by omega),hst5.bel.setCell (p:=⟨g1,1,none⟩) (by have:=HC.out.low;show w0.heap.size≤g1;omega) _⟩
  have hIf:Frm (fun k=>k=r) w w6:=by rw[hw6];exact hfr5.setCell (p:=⟨g1,1,none⟩) (.inl (by show w.heap.size≤g1;omega)) _
  have hJ6:ok=true→WsJ w0 r a n c fin i w g g1 nm a2 n2 c2 (rdV tl) w6:=fun k=>by
   refine⟨hIs,hIf,?_,?_,?_⟩
   ·rw[hw6];exact za5 hg05 (by omega)
   ·rw[hw6];exact heap_setCell_same _ g1 1 _ _ _ hg15
   rw[hw6]
   exact zbv (hrd k) (Frm.setCell (S:=fun k=>k=g1) (Frm.refl _ _) (p:=⟨g1,1,none⟩) (.inr rfl) _) (fun k hk=>by rw[show k=g1 from hk];exact zgm hg15 (by decide) (by decide))
  obtain⟨Hrd,Hb5,Hg15,Hg05,Hst5,Hfr5,HIs,HIf,HJ6⟩:=hd9 hrd hb5 hg15 hg05 hst5 hfr5 hIs hIf hJ6;clear hrd hb5 hg15 hg05 hst5 hfr5 hIs hIf hJ6
  cases nk with
  | false =>
   have hNo:=zml (ws:=ws) (i:=i) (by rw[Hnb.out];rfl)
   go_upto_region 6 with (fail)
   rw[← hw6]
   clear hw6
   have hWn:=HC.out.want HIs.out
   obtain⟨HWn,HNo⟩:=hd2 hWn hNo;clear hWn hNo
   go_wp2_with fail
   refine (hNm _).mono ?_
   rintro e wN ⟨rfl,hwN⟩
   subst hwN
   go_wp2_with fail
   refine HWn.out.mono ?_
   rintro e w6 ⟨rfl,q5,rfl⟩
   go_wp2_with fail
   exact⟨rfl,.inr ⟨i,HNo.out,rfl⟩,HIf.out.drewN q5⟩
  | true =>
   cases ok with
   | false =>
    have hNo:=zml (ws:=ws) (i:=i) (by rw[Hnb.out,← Hok.out];rfl)
    go_upto_region 6 with (fail)
    rw[← hw6]
    clear hw6
    have hWn:=HC.out.want HIs.out
    obtain⟨HWn,HNo⟩:=hd2 hWn hNo;clear hWn hNo
    go_wp2_with fail
    refine (hNm _).mono ?_
    rintro e wN ⟨rfl,hwN⟩
    subst hwN
    go_wp2_with fail
    refine HWn.out.mono ?_
    rintro e w6 ⟨rfl,q5,rfl⟩
    go_wp2_with fail
    exact⟨rfl,.inr ⟨i,HNo.out,rfl⟩,HIf.out.drewN q5⟩
   | true =>
    have hYe:=znu (L:=rdV tl) (by rw[Hnb.out,← Hok.out];rfl) Hs.out Hnm2.out (by rw[Hsb.out];rfl)
    have HI:=Lib.hid (HJ6.out rfl)
    go_upto_region 6 with (fail)
    rw[← hw6]
    clear hw6
    have hSt:=zf6 HC.out (HI.out.st.on HC.out.low)
    obtain⟨_,c1',_,c3'⟩:=zb6 HI.out.st.box
    obtain⟨HSt,HYe⟩:=hd2 hSt hYe;clear hSt hYe
    go_wp2_with fail
    refine (hNm _).mono ?_
    rintro e wN ⟨rfl,hwN⟩
    subst hwN
    go_wp2_with fail
    refine (zc0 _ r).mono ?_
    rintro e w6 ⟨rfl,hw6⟩
    subst hw6
    go_wp2_with fail
    refine HSt.out.mono ?_
    rintro e w7 ⟨⟨l,j,v,hse,rfl,hv,hbx⟩ | ⟨j,hse,rfl⟩,hfr⟩
    ·obtain⟨a3,c3,rfl⟩:=zcm hv.1
     have hfw:=(zae HI.out.frm 1 (.int .i64 ((i:Int)+1))).trans hfr (fun _ _ h=>h)
     obtain⟨z,hz⟩ : ∃ n,n=l.length:=⟨_,rfl⟩
     rw[← hz] at hv ⊢
     have hk0:zbb g (.string ⟨#[]⟩) (.slice none 0 0) (.slice none 0 0) w7:=zbd hfr (za5 (b:=r) (i:=1) HI.out.g0 (by omega)) (by omega)
     have hk1:zbb g1 (.string nm) (.slice a2 n2 c2) (.slice none 0 0) w7:=zbd hfr (za5 (b:=r) (i:=1) HI.out.g1 (by omega)) (by omega)
     obtain⟨_,_,_,f00,f01,f02⟩:=zaq hk0
     obtain⟨x10,x11,_,f10,f11,f12⟩:=zaq hk1
     have hvv:=HI.out.rd
     obtain⟨Hse,Hv,Hbx,Hfr,Hfw,Hk0,Hk1,Hvv,Hz⟩:=hd9 hse hv hbx hfr hfw hk0 hk1 hvv hz;clear hse hv hbx hfr hfw hk0 hk1 hvv hz
     go_wp2_with fail
     obtain⟨W8,hW8⟩ : ∃ W,W=(((w7.setCell ⟨g1,2,none⟩ (.slice a3 z c3)).setCell ⟨g,0,none⟩ (.string nm)).setCell ⟨g,1,none⟩ (.slice a2 n2 c2)).setCell ⟨g,2,none⟩ (.slice a3 z c3):=⟨_,rfl⟩
     rw[← hW8]
     have hfin:=zrn (g1:=g1) Hk0.out (i:=j) Hbx.out (by omega) (by omega) (by omega) hW8
     have hF8:Frm (fun k=>k=r) w W8:=by rw[hW8];exact (((Hfw.out.setCell (p:=⟨g1,2,none⟩) (.inl (show w.heap.size≤g1 by omega)) _).setCell (p:=⟨g,0,none⟩) (.inl hwg) _).setCell (p:=⟨g,1,none⟩) (.inl hwg) _).setCell (p:=⟨g,2,none⟩) (.inl hwg) _
     have hT8:Frm (fun k=>k=r∨k=g∨k=g1) w7 W8:=by
      rw[hW8]
      exact ((((Frm.refl _ w7).setCell (p:=⟨g1,2,none⟩) (.inr (.inr (.inr rfl))) _).setCell (p:=⟨g,0,none⟩) (.inr (.inr (.inl rfl))) _).setCell (p:=⟨g,1,none⟩) (.inr (.inr (.inl rfl))) _).setCell (p:=⟨g,2,none⟩) (.inr (.inr (.inl rfl))) _
     refine bodyPost_ret (results_cell_row rfl _ _ _ _ _ _ _ rfl hfin.1 Tryz.underlying55 rfl (by kernel_rfl)) rfl ?_
     refine⟨.inl ⟨(nm,rdV tl,l),j,.slice a2 n2 c2,.slice a3 z c3,HYe.out.1 _ _ Hse.out,rfl,?_,?_,hfin.2⟩,hF8⟩
     ·have h7:Frm (fun k=>k=r∨k=g∨k=g1) w6 w7:=(Frm.setCell (S:=fun k=>k=r∨k=g∨k=g1) (Frm.refl _ w6) (p:=⟨r,1,none⟩) (.inr (.inl rfl)) _).trans (T:=fun k=>k=r) Hfr.out (fun _ _ h=>.inl h)
      exact zbv Hvv.out (h7.trans hT8 (fun _ _ h=>h)) (zda HI.out.st.box HI.out.g0 HI.out.g1)
     exact zcv Hv.out hT8 (zda Hbx.out Hk0.out Hk1.out)
    have hfw:=(zae HI.out.frm 1 (.int .i64 ((i:Int)+1))).trans hfr (fun _ _ h=>h)
    obtain⟨Hse,Hfr,Hfw⟩:=hd3 hse hfr hfw;clear hse hfr hfw
    go_wp2_with fail
    exact⟨rfl,.inr ⟨j,HYe.out.2 _ Hse.out,rfl⟩,Hfw.out⟩
end

section
open Go.RowKit Go.Shelf
attribute [local go_sem ↓] Go.wp_at_zero Go.wp_at_succ
theorem zs5 (s t a b:ByteArray) (W:World):(binOp .neq 137 (.agg #[.string s,.string t]) (.agg #[.string a,.string b])).run Tryz.prog W = .ok (.bool (!(decide (s=a) && decide (t=b)))) W:=by
 have u9:=Tryz.underlying9
 have hS:Tryz.prog.underlying 137=some (.struct (Tryz.prog.fieldsOf 137)):=by kernel_rfl
 have hp:Tryz.prog.stoodInHeld 137=false:=by kernel_rfl
 rw[run_neq_struct,show (10000:Nat)=9999+1 from rfl,run_equalIn_agg W 9999 137 _ _ hS hp]
 simp only[Program.fieldsOf,Tryz.underlying137]
 go_simp
 have e1:=Txt.eq_dec s a
 have e2:=Txt.eq_dec t b
 by_cases h1:s=a <;> by_cases h2:t=b <;> simp[h1,h2] at e1 e2 ⊢ <;> simp_all
theorem zq8 {w:World} {v u:Value} {l m:List Setg} (h:zcj w [v] l) (hm:zcj w [u] m):Calls Tryz.prog 117 #[v,u] w fun e w'=>e = .returned (.bool (decide (l=m)))∧∃ q,w'=w.drewN q:=by
 obtain⟨a,cap,rfl,hz,g⟩:=zca h
 obtain⟨a2,cap2,rfl,hz2,g2⟩:=zca hm
 obtain⟨n,hn⟩ : ∃ n,n=l.length:=⟨_,rfl⟩
 obtain⟨n2,hn2⟩ : ∃ n,n=m.length:=⟨_,rfl⟩
 obtain⟨r,hr⟩ : ∃ r,r=decide (l=m):=⟨_,rfl⟩
 have q1:=fun s t a b=>zs5 s t a b
 rw[← hr]
 rw[← hn] at hz h ⊢
 rw[← hn2] at hz2 hm ⊢
 obtain⟨Hh,Hm,Hg,Hg2,Hn,Hn2,Hr,Hq1⟩:=hd8 h hm g g2 hn hn2 hr q1;clear h hm g g2 hn hn2 hr q1
 go_enter Tryz.func117,Tryz.ntmps117
 by_cases hne:n=n2
 case neg =>
  have k1:((n:Int) != (n2:Int))=true:=by simp;omega
  have hf:r=false:=by rw[Hr.out,decide_eq_false_iff_not];intro e;exact hne (by rw[Hn.out,Hn2.out,e])
  obtain⟨Hf,Hne⟩:=hd2 hf hne;clear hf hne
  go_wp2_with fail
  go_ret
  exact⟨zai Hf.out.symm,0,rfl⟩
 have k1:((n:Int) != (n2:Int))=false:=by simp;omega
 have Hne:=hd hne;clear hne
 go_wp2_with fail
 clear k1
 go_loopw [13] (fun i wr=>∃ k:Nat,k≤n∧i = .int .i64 k∧(∀ j (h1:j < l.length) (h2:j < m.length),j < k→l[j]=m[j])∧∃ q,wr=w.drewN q) (fun i _=>n - (intOf i).toNat)
 case atStart=>exact⟨0,Nat.zero_le _,rfl,fun _ _ _ h=>by omega,0,rfl⟩
 case round =>
  obtain⟨k,hk,rfl,hno,q,rfl⟩:=hrel
  by_cases hlt:k < n
  ·have hkl:k < l.length:=by have:=Hn.out;omega
   have hkm:k < m.length:=by have:=Hn2.out;have:=Hne.out;omega
   obtain⟨b,off,rfl,d0,d1,_,_⟩:=Hg.out k _ (List.getElem?_eq_getElem hkl)
   obtain⟨b2,off2,rfl,f0,f1,_,_⟩:=Hg2.out k _ (List.getElem?_eq_getElem hkm)
   have hnx:l[k]=m[k]→∀ j (h1:j < l.length) (h2:j < m.length),j < k+1→l[j]=m[j]:=fun h j h1 h2 hjk=>by
    by_cases e:j=k
    ·subst e;exact h
    exact hno j h1 h2 (by omega)
   have hbd:l[k]≠m[k]→l≠m:=fun h e=>h (by subst e;rfl)
   obtain⟨x,hx⟩ : ∃ x,x=l[k]:=⟨_,rfl⟩
   obtain⟨y,hy⟩ : ∃ x,x=m[k]:=⟨_,rfl⟩
   rw[← hx] at d0 d1 hnx hbd
   rw[← hy] at f0 f1 hnx hbd
   have q2:=Hq1.out x.1 x.2 y.1 y.2
   have hxy:(decide (x.1=y.1) && decide (x.2=y.2))=decide (x=y):=by
    rw[Bool.eq_iff_iff]
    simp[Prod.ext_iff]
   rw[hxy] at q2
   obtain⟨s,hs⟩ : ∃ s,s=x.1:=⟨_,rfl⟩
   obtain⟨t,ht⟩ : ∃ s,s=x.2:=⟨_,rfl⟩
   obtain⟨s',hs'⟩ : ∃ s,s=y.1:=⟨_,rfl⟩
   obtain⟨t',ht'⟩ : ∃ s,s=y.2:=⟨_,rfl⟩
   rw[← hs,← ht,← hs',← ht'] at q2
   rw[← hs] at d0
   rw[← ht] at d1
   rw[← hs'] at f0
   rw[← ht'] at f1
   have k5:(0:Int)≤(k:Int):=by omega
   have k6:(k:Int) < (n:Int):=by omega
   have k7:(k:Int) < (n2:Int):=by have:=Hne.out;omega
   clear hxy
   by_cases e:x=y
   ·have hq:=hnx e
    rw[decide_eq_true e] at q2
    simp only[Bool.not_true] at q2
    clear e
    obtain⟨Hno,Hnx,Hbd,Hx,Hy,Hs,Ht,Hs',Ht',Hq⟩:=hd10 hno hnx hbd hx hy hs ht hs' ht' hq;clear hno hnx hbd hx hy hs ht hs' ht' hq
    go_wp2_with fail
    go_region
    go_wp2_with fail
    go_roundw
    case rel=>exact⟨k+1,by omega,by go_num,Hq.out,_,rfl⟩
    case measure=>simp[intOf];omega
   have hf:r=false:=by rw[Hr.out,decide_eq_false_iff_not];exact hbd e
   rw[decide_eq_false e] at q2
   simp only[Bool.not_false] at q2
   clear e
   obtain⟨Hno,Hnx,Hbd,Hx,Hy,Hs,Ht,Hs',Ht',Hf⟩:=hd10 hno hnx hbd hx hy hs ht hs' ht' hf;clear hno hnx hbd hx hy hs ht hs' ht' hf
   go_wp2_with fail
   go_region
   go_wp2_with fail
   go_ret
   exact⟨zai Hf.out.symm,_,rfl⟩
  obtain rfl:n=k:=by omega
  have hf:r=true:=by
   rw[Hr.out,decide_eq_true_eq]
   exact List.ext_getElem (by rw[← Hn.out,← Hn2.out,Hne.out]) (fun j h1 h2=>hno j h1 h2 (by have:=Hn.out;omega))
  obtain⟨Hno,Hf⟩:=hd2 hno hf;clear hno hf
  go_wp2_with fail
  go_ret
  exact⟨zai Hf.out.symm,_,rfl⟩
end

section
open Go.Shelf Go.RowKit Go.Lib VerN VarM
attribute [local go_sem ↓] Go.wp_at_zero Go.wp_at_succ
theorem zf7 {w:World} {n m:ByteArray} {v1 v2 u1 u2:Value} {l1 l2:List BSp} {g1 g2:List Setg} (h1:RSps w [v1] l1) (h2:zcj w [v2] g1) (h3:RSps w [u1] l2) (h4:zcj w [u2] g2) :
  Calls Tryz.prog 91 #[.agg #[.string n,v1,v2],.agg #[.string m,u1,u2]] w fun e w'=>e = .returned (.bool (decide ((n,l1,g1)=(m,l2,g2))))∧Below w.heap.size w w':=by
 obtain⟨a1,c1,rfl,-,-⟩:=zc5 h1
 obtain⟨a2,c2,rfl,-,-⟩:=zca h2
 obtain⟨a3,c3,rfl,-,-⟩:=zc5 h3
 obtain⟨a4,c4,rfl,-,-⟩:=zca h4
 obtain⟨W1,hW1⟩ : ∃ W,W=(w.alloc (.cells #[.string n,.slice a1 l1.length c1,.slice a2 g1.length c2] 55)).alloc (.cells #[.string m,.slice a3 l2.length c3,.slice a4 g2.length c4] 55):=⟨_,rfl⟩
 obtain⟨g,hg⟩ : ∃ g,g=w.heap.size:=⟨_,rfl⟩
 have hb1:Below w.heap.size w W1:=by rw[hW1];exact (za2 _ _).alloc (by simp) _
 have p0:zbb g (.string n) (.slice a1 l1.length c1) (.slice a2 g1.length c2) W1:=by rw[hW1,hg];exact za1 (za2 _ _) (za9 rfl)
 have p1:zbb (g+1) (.string m) (.slice a3 l2.length c3) (.slice a4 g2.length c4) W1:=by rw[hW1,hg];exact za9 (by simp)
 have r1:=za3 zan _ _ _ _ h1 hb1
 have r2:=za3 zao _ _ _ _ h2 hb1
 have r3:=za3 zan _ _ _ _ h3 hb1
 have r4:=za3 zao _ _ _ _ h4 hb1
 obtain⟨x0,x1,x2,-⟩:=zaq p0
 obtain⟨y0,y1,y2,-⟩:=zaq p1
 obtain⟨r,hr⟩ : ∃ r,r=decide ((n,l1,g1)=(m,l2,g2)):=⟨_,rfl⟩
 have hS:=zof r1 r3
 have hT:=fun (W:World) (k:Below W1.heap.size W1 W)=>zq8 (za3 zao _ _ _ _ r2 k) (za3 zao _ _ _ _ r4 k)
 obtain⟨n1,hn1⟩ : ∃ n,n=l1.length:=⟨_,rfl⟩
 obtain⟨n2,hn2⟩ : ∃ n,n=g1.length:=⟨_,rfl⟩
 obtain⟨n3,hn3⟩ : ∃ n,n=l2.length:=⟨_,rfl⟩
 obtain⟨n4,hn4⟩ : ∃ n,n=g2.length:=⟨_,rfl⟩
 have hnm:=Txt.eq_dec n m
 rw[← hr]
 rw[← hn1] at x1 hS hW1 ⊢
 rw[← hn2] at x2 hT hW1 ⊢
 rw[← hn3] at y1 hS hW1 ⊢
 rw[← hn4] at y2 hT hW1 ⊢
 obtain⟨bs,hbs⟩ : ∃ b,b=decide (l1=l2):=⟨_,rfl⟩
 obtain⟨bt,hbt⟩ : ∃ b,b=decide (g1=g2):=⟨_,rfl⟩
 obtain⟨bn,hbn⟩ : ∃ b,b=decide (n=m):=⟨_,rfl⟩
 rw[← hbs] at hS
 rw[← hbt] at hT
 rw[← hbn] at hnm
 have hrr:r=(bn && (bs && bt)):=by
  rw[hr,hbn,hbs,hbt,Bool.eq_iff_iff]
  simp[Prod.ext_iff]
 clear hr hbs hbt hbn
 obtain⟨H1,H2,H3,H4,Hb1,Hp0,Hp1,Hr1,Hr2,Hr3,Hr4,Hn1,Hn2,Hn3,Hn4,HS⟩:=hd16 h1 h2 h3 h4 hb1 p0 p1 r1 r2 r3 r4 hn1 hn2 hn3 hn4 hS;obtain⟨HT,Hrr⟩:=hd2 hT hrr;clear h1 h2 h3 h4 hb1 p0 p1 r1 r2 r3 r4 hn1 hn2 hn3 hn4 hS hT hrr
 go_enter Tryz.func91,Tryz.ntmps91
 go_upto_region 1 with (fail)
 rw[← hW1,← hg]
 clear hW1 hg
 cases bn with
 | false =>
  go_wp2_with fail
  go_ret
  exact⟨zai (by rw[Hrr.out];rfl),Hb1.out⟩
 | true =>
  cases bs with
  | false =>
   go_wp2_with fail
   refine HS.out.mono ?_
   rintro e w2 ⟨rfl,q,rfl⟩
   go_wp2_with fail
   go_ret
   exact⟨zai (by rw[Hrr.out];rfl),za6 Hb1.out q⟩
  | true =>
   go_wp2_with fail
   refine HS.out.mono ?_
   rintro e w2 ⟨rfl,q,rfl⟩
   have hbq:Below W1.heap.size W1 (W1.drewN q):=za6 (Below.refl _ _) q
   have hT2:=HT.out _ hbq
   obtain⟨x3,x4,x5,-⟩:=zaq (za1 hbq Hp0.out)
   obtain⟨y3,y4,y5,-⟩:=zaq (za1 hbq Hp1.out)
   rw[← Hn2.out] at x5
   rw[← Hn4.out] at y5
   obtain⟨HT2,Hbq⟩:=hd2 hT2 hbq;clear hT2 hbq
   go_wp2_with fail
   refine HT2.out.mono ?_
   rintro e w2 ⟨rfl,q2,rfl⟩
   go_wp2_with fail
   go_ret
   exact⟨zai (by rw[Hrr.out];rfl),za6 Hb1.out _⟩
end

section
open Go.RowKit Go.Shelf Go.Lib VerN
theorem zp9 {w:World} {v u:Value} {l m:List BSp} (h:RSps w [v] l) (hm:RSps w [u] m):Calls Tryz.prog 92 #[v,u] w fun e w'=>e = .returned (.bool (decide (l=m)))∧∃ q,w'=w.drewN q:=by
 obtain⟨a,cap,rfl,hz,g⟩:=zc5 h
 obtain⟨a2,cap2,rfl,hz2,g2⟩:=zc5 hm
 obtain⟨n,hn⟩ : ∃ n,n=l.length:=⟨_,rfl⟩
 obtain⟨n2,hn2⟩ : ∃ n,n=m.length:=⟨_,rfl⟩
 obtain⟨r,hr⟩ : ∃ r,r=decide (l=m):=⟨_,rfl⟩
 have q1:=fun s t a b=>zmr s t a b
 rw[← hr]
 rw[← hn] at hz h ⊢
 rw[← hn2] at hz2 hm ⊢
 obtain⟨Hh,Hm,Hg,Hg2,Hn,Hn2,Hr,Hq1⟩:=hd8 h hm g g2 hn hn2 hr q1;clear h hm g g2 hn hn2 hr q1
 go_enter Tryz.func92,Tryz.ntmps92
 by_cases hne:n=n2
 case neg =>
  have k1:((n:Int) != (n2:Int))=true:=by simp;omega
  have hf:r=false:=by rw[Hr.out,decide_eq_false_iff_not];intro e;exact hne (by rw[Hn.out,Hn2.out,e])
  obtain⟨Hf,Hne⟩:=hd2 hf hne;clear hf hne
  go_wp2_with fail
  go_ret
  exact⟨zai Hf.out.symm,0,rfl⟩
 have k1:((n:Int) != (n2:Int))=false:=by simp;omega
 have Hne:=hd hne;clear hne
 go_wp2_with fail
 clear k1
 go_loopw [13] (fun i wr=>∃ k:Nat,k≤n∧i = .int .i64 k∧(∀ j (h1:j < l.length) (h2:j < m.length),j < k→l[j]=m[j])∧∃ q,wr=w.drewN q) (fun i _=>n - (RowKit.intOf i).toNat)
 case atStart=>exact⟨0,Nat.zero_le _,rfl,fun _ _ _ h=>by omega,0,rfl⟩
 case round =>
  obtain⟨k,hk,rfl,hno,q,rfl⟩:=hrel
  by_cases hlt:k < n
  ·have hkl:k < l.length:=by have:=Hn.out;omega
   have hkm:k < m.length:=by have:=Hn2.out;have:=Hne.out;omega
   obtain⟨b,off,rfl,d0,d1,_,_⟩:=Hg.out k _ (List.getElem?_eq_getElem hkl)
   obtain⟨b2,off2,rfl,f0,f1,_,_⟩:=Hg2.out k _ (List.getElem?_eq_getElem hkm)
   have hnx:l[k]=m[k]→∀ j (h1:j < l.length) (h2:j < m.length),j < k+1→l[j]=m[j]:=fun h j h1 h2 hjk=>by
    by_cases e:j=k
    ·subst e;exact h
    exact hno j h1 h2 (by omega)
   have hbd:l[k]≠m[k]→l≠m:=fun h e=>h (by subst e;rfl)
   obtain⟨x,hx⟩ : ∃ x,x=l[k]:=⟨_,rfl⟩
   obtain⟨y,hy⟩ : ∃ x,x=m[k]:=⟨_,rfl⟩
   rw[← hx] at d0 d1 hnx hbd
   rw[← hy] at f0 f1 hnx hbd
   have q2:=Hq1.out x.1 x.2 y.1 y.2
   have hxy:(decide (x.1=y.1) && decide (x.2=y.2))=decide (x=y):=by
    rw[Bool.eq_iff_iff]
    simp[Prod.ext_iff]
   rw[hxy] at q2
   obtain⟨s,hs⟩ : ∃ s,s=x.1:=⟨_,rfl⟩
   obtain⟨t,ht⟩ : ∃ s,s=x.2:=⟨_,rfl⟩
   obtain⟨s',hs'⟩ : ∃ s,s=y.1:=⟨_,rfl⟩
   obtain⟨t',ht'⟩ : ∃ s,s=y.2:=⟨_,rfl⟩
   rw[← hs,← ht,← hs',← ht'] at q2
   rw[← hs] at d0
   rw[← ht] at d1
   rw[← hs'] at f0
   rw[← ht'] at f1
   have k5:(0:Int)≤(k:Int):=by omega
   have k6:(k:Int) < (n:Int):=by omega
   have k7:(k:Int) < (n2:Int):=by have:=Hne.out;omega
   clear hxy
   by_cases e:x=y
   ·have hq:=hnx e
    rw[decide_eq_true e] at q2
    simp only[Bool.not_true] at q2
    clear e
    obtain⟨Hno,Hnx,Hbd,Hx,Hy,Hs,Ht,Hs',Ht',Hq⟩:=hd10 hno hnx hbd hx hy hs ht hs' ht' hq;clear hno hnx hbd hx hy hs ht hs' ht' hq
    go_wp2_with fail
    go_region
    go_wp2_with fail
    go_roundw
    case rel=>exact⟨k+1,by omega,by go_num,Hq.out,_,rfl⟩
    case measure=>simp[RowKit.intOf];omega
   have hf:r=false:=by rw[Hr.out,decide_eq_false_iff_not];exact hbd e
   rw[decide_eq_false e] at q2
   simp only[Bool.not_false] at q2
   clear e
   obtain⟨Hno,Hnx,Hbd,Hx,Hy,Hs,Ht,Hs',Ht',Hf⟩:=hd10 hno hnx hbd hx hy hs ht hs' ht' hf;clear hno hnx hbd hx hy hs ht hs' ht' hf
   go_wp2_with fail
   go_region
   go_wp2_with fail
   go_ret
   exact⟨zai Hf.out.symm,_,rfl⟩
  obtain rfl:n=k:=by omega
  have hf:r=true:=by
   rw[Hr.out,decide_eq_true_eq]
   exact List.ext_getElem (by rw[← Hn.out,← Hn2.out,Hne.out]) (fun j h1 h2=>hno j h1 h2 (by have:=Hn.out;omega))
  obtain⟨Hno,Hf⟩:=hd2 hno hf;clear hno hf
  go_wp2_with fail
  go_ret
  exact⟨zai Hf.out.symm,_,rfl⟩
end

section
open Go.RowKit Go.Shelf Go.Lib VerN
theorem zpa {w:World} {v u:Value} {l m:List Setg} (h:zcj w [v] l) (hm:zcj w [u] m):Calls Tryz.prog 93 #[v,u] w fun e w'=>e = .returned (.bool (decide (l=m)))∧∃ q,w'=w.drewN q:=by
 obtain⟨a,cap,rfl,hz,g⟩:=zca h
 obtain⟨a2,cap2,rfl,hz2,g2⟩:=zca hm
 obtain⟨n,hn⟩ : ∃ n,n=l.length:=⟨_,rfl⟩
 obtain⟨n2,hn2⟩ : ∃ n,n=m.length:=⟨_,rfl⟩
 obtain⟨r,hr⟩ : ∃ r,r=decide (l=m):=⟨_,rfl⟩
 have q1:=fun s t a b=>zs5 s t a b
 rw[← hr]
 rw[← hn] at hz h ⊢
 rw[← hn2] at hz2 hm ⊢
 obtain⟨Hh,Hm,Hg,Hg2,Hn,Hn2,Hr,Hq1⟩:=hd8 h hm g g2 hn hn2 hr q1;clear h hm g g2 hn hn2 hr q1
 go_enter Tryz.func93,Tryz.ntmps93
 by_cases hne:n=n2
 case neg =>
  have k1:((n:Int) != (n2:Int))=true:=by simp;omega
  have hf:r=false:=by rw[Hr.out,decide_eq_false_iff_not];intro e;exact hne (by rw[Hn.out,Hn2.out,e])
  obtain⟨Hf,Hne⟩:=hd2 hf hne;clear hf hne
  go_wp2_with fail
  go_ret
  exact⟨zai Hf.out.symm,0,rfl⟩
 have k1:((n:Int) != (n2:Int))=false:=by simp;omega
 have Hne:=hd hne;clear hne
 go_wp2_with fail
 clear k1
 go_loopw [13] (fun i wr=>∃ k:Nat,k≤n∧i = .int .i64 k∧(∀ j (h1:j < l.length) (h2:j < m.length),j < k→l[j]=m[j])∧∃ q,wr=w.drewN q) (fun i _=>n - (RowKit.intOf i).toNat)
 case atStart=>exact⟨0,Nat.zero_le _,rfl,fun _ _ _ h=>by omega,0,rfl⟩
 case round =>
  obtain⟨k,hk,rfl,hno,q,rfl⟩:=hrel
  by_cases hlt:k < n
  ·have hkl:k < l.length:=by have:=Hn.out;omega
   have hkm:k < m.length:=by have:=Hn2.out;have:=Hne.out;omega
   obtain⟨b,off,rfl,d0,d1,_,_⟩:=Hg.out k _ (List.getElem?_eq_getElem hkl)
   obtain⟨b2,off2,rfl,f0,f1,_,_⟩:=Hg2.out k _ (List.getElem?_eq_getElem hkm)
   have hnx:l[k]=m[k]→∀ j (h1:j < l.length) (h2:j < m.length),j < k+1→l[j]=m[j]:=fun h j h1 h2 hjk=>by
    by_cases e:j=k
    ·subst e;exact h
    exact hno j h1 h2 (by omega)
   have hbd:l[k]≠m[k]→l≠m:=fun h e=>h (by subst e;rfl)
   obtain⟨x,hx⟩ : ∃ x,x=l[k]:=⟨_,rfl⟩
   obtain⟨y,hy⟩ : ∃ x,x=m[k]:=⟨_,rfl⟩
   rw[← hx] at d0 d1 hnx hbd
   rw[← hy] at f0 f1 hnx hbd
   have q2:=Hq1.out x.1 x.2 y.1 y.2
   have hxy:(decide (x.1=y.1) && decide (x.2=y.2))=decide (x=y):=by
    rw[Bool.eq_iff_iff]
    simp[Prod.ext_iff]
   rw[hxy] at q2
   obtain⟨s,hs⟩ : ∃ s,s=x.1:=⟨_,rfl⟩
   obtain⟨t,ht⟩ : ∃ s,s=x.2:=⟨_,rfl⟩
   obtain⟨s',hs'⟩ : ∃ s,s=y.1:=⟨_,rfl⟩
   obtain⟨t',ht'⟩ : ∃ s,s=y.2:=⟨_,rfl⟩
   rw[← hs,← ht,← hs',← ht'] at q2
   rw[← hs] at d0
   rw[← ht] at d1
   rw[← hs'] at f0
   rw[← ht'] at f1
   have k5:(0:Int)≤(k:Int):=by omega
   have k6:(k:Int) < (n:Int):=by omega
   have k7:(k:Int) < (n2:Int):=by have:=Hne.out;omega
   clear hxy
   by_cases e:x=y
   ·have hq:=hnx e
    rw[decide_eq_true e] at q2
    simp only[Bool.not_true] at q2
    clear e
    obtain⟨Hno,Hnx,Hbd,Hx,Hy,Hs,Ht,Hs',Ht',Hq⟩:=hd10 hno hnx hbd hx hy hs ht hs' ht' hq;clear hno hnx hbd hx hy hs ht hs' ht' hq
    go_wp2_with fail
    go_region
    go_wp2_with fail
    go_roundw
    case rel=>exact⟨k+1,by omega,by go_num,Hq.out,_,rfl⟩
    case measure=>simp[RowKit.intOf];omega
   have hf:r=false:=by rw[Hr.out,decide_eq_false_iff_not];exact hbd e
   rw[decide_eq_false e] at q2
   simp only[Bool.not_false] at q2
   clear e
   obtain⟨Hno,Hnx,Hbd,Hx,Hy,Hs,Ht,Hs',Ht',Hf⟩:=hd10 hno hnx hbd hx hy hs ht hs' ht' hf;clear hno hnx hbd hx hy hs ht hs' ht' hf
   go_wp2_with fail
   go_region
   go_wp2_with fail
   go_ret
   exact⟨zai Hf.out.symm,_,rfl⟩
  obtain rfl:n=k:=by omega
  have hf:r=true:=by
   rw[Hr.out,decide_eq_true_eq]
   exact List.ext_getElem (by rw[← Hn.out,← Hn2.out,Hne.out]) (fun j h1 h2=>hno j h1 h2 (by have:=Hn.out;omega))
  obtain⟨Hno,Hf⟩:=hd2 hno hf;clear hno hf
  go_wp2_with fail
  go_ret
  exact⟨zai Hf.out.symm,_,rfl⟩
end

section
open Go.Shelf Go.RowKit Go.Lib VerN VarM
attribute [local go_sem ↓] Go.wp_at_zero Go.wp_at_succ
theorem zon {w:World} {v:Value} {L:List BSp} (h:RSps w [v] L):Calls Tryz.prog 67 #[v] w fun e w'=>e = .returned (.bool (decide (L=allV)))∧w'=w:=by
 obtain⟨a,cap,rfl,hz,g⟩:=zc5 h
 obtain⟨n,hn⟩ : ∃ n,n=L.length:=⟨_,rfl⟩
 obtain⟨r,hr⟩ : ∃ r,r=decide (L=allV):=⟨_,rfl⟩
 rw[← hr]
 rw[← hn] at hz h ⊢
 by_cases h1:n=1
 ·subst h1
  obtain⟨x,hx⟩ : ∃ x,L = [x]:=List.length_eq_one_iff.1 hn.symm
  obtain⟨b,off,rfl,d0,d1,-,-⟩:=g 0 x (by rw[hx];rfl)
  rw[Nat.zero_mul,Nat.add_zero] at d0 d1
  have q:=fun (W:World)=>spn_eqs x.1 x.2 ⟨#[]⟩ ⟨#[]⟩ W
  have hrr:(decide (x.1=⟨#[]⟩) && decide (x.2=⟨#[]⟩))=r:=by
   rw[hr,hx,Bool.eq_iff_iff]
   simp[allV,Prod.ext_iff]
  simp only[hrr] at q
  obtain⟨s,hs⟩ : ∃ s,s=x.1:=⟨_,rfl⟩
  obtain⟨t,ht⟩ : ∃ s,s=x.2:=⟨_,rfl⟩
  simp only[← hs,← ht] at q
  rw[← hs] at d0
  rw[← ht] at d1
  clear hrr
  obtain⟨Hh,Hg,Hn,Hr,Hx,Hs,Ht⟩:=hd7 h g hn hr hx hs ht;clear h g hn hr hx hs ht
  go_enter Tryz.func67,Tryz.ntmps67
  go_wp2_with fail
  go_ret
  exact⟨rfl,rfl⟩
 have k1:((n:Int) == 1)=false:=by rw[beq_eq_false_iff_ne];omega
 have hf:r=false:=by
  rw[hr,decide_eq_false_iff_not]
  rintro rfl
  exact h1 hn
 obtain⟨Hh,Hg,Hn,Hr,Hf,H1⟩:=hd6 h g hn hr hf h1;clear h g hn hr hf h1
 go_enter Tryz.func67,Tryz.ntmps67
 go_wp2_with fail
 go_ret
 exact⟨zai Hf.out.symm,rfl⟩
theorem zdk {w:World} {n m:ByteArray} {v1 v2 u1 u2:Value} {l1 l2:List BSp} {g1 g2:List Setg} (h1:RSps w [v1] l1) (h2:zcj w [v2] g1) (h3:RSps w [u1] l2) (h4:zcj w [u2] g2) :
  Calls Tryz.prog 60 #[.agg #[.string n,v1,v2],.agg #[.string m,u1,u2]] w fun e w'=>e = .returned (.bool (decide ((n,l1,g1)=(m,l2,g2))))∧Below w.heap.size w w':=by
 obtain⟨a1,c1,rfl,-,-⟩:=zc5 h1
 obtain⟨a2,c2,rfl,-,-⟩:=zca h2
 obtain⟨a3,c3,rfl,-,-⟩:=zc5 h3
 obtain⟨a4,c4,rfl,-,-⟩:=zca h4
 obtain⟨W1,hW1⟩ : ∃ W,W=(w.alloc (.cells #[.string n,.slice a1 l1.length c1,.slice a2 g1.length c2] 55)).alloc (.cells #[.string m,.slice a3 l2.length c3,.slice a4 g2.length c4] 55):=⟨_,rfl⟩
 obtain⟨g,hg⟩ : ∃ g,g=w.heap.size:=⟨_,rfl⟩
 have hb1:Below w.heap.size w W1:=by rw[hW1];exact (za2 _ _).alloc (by simp) _
 have p0:zbb g (.string n) (.slice a1 l1.length c1) (.slice a2 g1.length c2) W1:=by rw[hW1,hg];exact za1 (za2 _ _) (za9 rfl)
 have p1:zbb (g+1) (.string m) (.slice a3 l2.length c3) (.slice a4 g2.length c4) W1:=by rw[hW1,hg];exact za9 (by simp)
 have r1:=za3 zan _ _ _ _ h1 hb1
 have r2:=za3 zao _ _ _ _ h2 hb1
 have r3:=za3 zan _ _ _ _ h3 hb1
 have r4:=za3 zao _ _ _ _ h4 hb1
 obtain⟨x0,x1,x2,-⟩:=zaq p0
 obtain⟨y0,y1,y2,-⟩:=zaq p1
 obtain⟨r,hr⟩ : ∃ r,r=decide ((n,l1,g1)=(m,l2,g2)):=⟨_,rfl⟩
 have hS:=zp9 r1 r3
 have hT:=fun (W:World) (k:Below W1.heap.size W1 W)=>zpa (za3 zao _ _ _ _ r2 k) (za3 zao _ _ _ _ r4 k)
 obtain⟨n1,hn1⟩ : ∃ n,n=l1.length:=⟨_,rfl⟩
 obtain⟨n2,hn2⟩ : ∃ n,n=g1.length:=⟨_,rfl⟩
 obtain⟨n3,hn3⟩ : ∃ n,n=l2.length:=⟨_,rfl⟩
 obtain⟨n4,hn4⟩ : ∃ n,n=g2.length:=⟨_,rfl⟩
 have hnm:=Txt.eq_dec n m
 rw[← hr]
 rw[← hn1] at x1 hS hW1 ⊢
 rw[← hn2] at x2 hT hW1 ⊢
 rw[← hn3] at y1 hS hW1 ⊢
 rw[← hn4] at y2 hT hW1 ⊢
 obtain⟨bs,hbs⟩ : ∃ b,b=decide (l1=l2):=⟨_,rfl⟩
 obtain⟨bt,hbt⟩ : ∃ b,b=decide (g1=g2):=⟨_,rfl⟩
 obtain⟨bn,hbn⟩ : ∃ b,b=decide (n=m):=⟨_,rfl⟩
 rw[← hbs] at hS
 rw[← hbt] at hT
 rw[← hbn] at hnm
 have hrr:r=(bn && (bs && bt)):=by
  rw[hr,hbn,hbs,hbt,Bool.eq_iff_iff]
  simp[Prod.ext_iff]
 clear hr hbs hbt hbn
 obtain⟨H1,H2,H3,H4,Hb1,Hp0,Hp1,Hr1,Hr2,Hr3,Hr4,Hn1,Hn2,Hn3,Hn4,HS⟩:=hd16 h1 h2 h3 h4 hb1 p0 p1 r1 r2 r3 r4 hn1 hn2 hn3 hn4 hS;obtain⟨HT,Hrr⟩:=hd2 hT hrr;clear h1 h2 h3 h4 hb1 p0 p1 r1 r2 r3 r4 hn1 hn2 hn3 hn4 hS hT hrr
 go_enter Tryz.func60,Tryz.ntmps60
 go_upto_region 1 with (fail)
 rw[← hW1,← hg]
 clear hW1 hg
 cases bn with
 | false =>
  go_wp2_with fail
  go_ret
  exact⟨zai (by rw[Hrr.out];rfl),Hb1.out⟩
 | true =>
  cases bs with
  | false =>
   go_wp2_with fail
   refine HS.out.mono ?_
   rintro e w2 ⟨rfl,q,rfl⟩
   go_wp2_with fail
   go_ret
   exact⟨zai (by rw[Hrr.out];rfl),za6 Hb1.out q⟩
  | true =>
   go_wp2_with fail
   refine HS.out.mono ?_
   rintro e w2 ⟨rfl,q,rfl⟩
   have hbq:Below W1.heap.size W1 (W1.drewN q):=za6 (Below.refl _ _) q
   have hT2:=HT.out _ hbq
   obtain⟨x3,x4,x5,-⟩:=zaq (za1 hbq Hp0.out)
   obtain⟨y3,y4,y5,-⟩:=zaq (za1 hbq Hp1.out)
   rw[← Hn2.out] at x5
   rw[← Hn4.out] at y5
   obtain⟨HT2,Hbq⟩:=hd2 hT2 hbq;clear hT2 hbq
   go_wp2_with fail
   refine HT2.out.mono ?_
   rintro e w2 ⟨rfl,q2,rfl⟩
   go_wp2_with fail
   go_ret
   exact⟨zai (by rw[Hrr.out];rfl),za6 Hb1.out _⟩
end
end Go.Proofs.YthgibhhbmmkjmaaGreatDoor
