/- Walks and plain facts. Texts merged: SpsP, SpnRf, SpsS, SpsU, StR, Typ, SpsY, VarM, VarN, VarR, WishR, LexM, RqM. Condition: none beyond what each says. -/
import Derived.Lib.Small
import Derived.Deep.Cut
import Derived.Deep.DrawnRows
import Derived.Test.YteailgjiifdgcaaGreatDoorRequestParsesAll7
set_option linter.unusedVariables false
set_option linter.unusedSimpArgs false
set_option maxRecDepth 10000
set_option maxHeartbeats 4000000
namespace Go.Proofs.YteailgjiifdgcaaGreatDoor
section
open Go.RowKit Go.Shelf Go.Lib VerN
attribute [local go_sem] Oper.semAt_some
def zfm (pre:List ByteArray):List Value:=pre.flatMap fun p=>zal (spV p)
theorem zjl (pre:List ByteArray) (x:ByteArray):zfm (pre ++ [x])=zfm pre ++ zal (spV x):=by simp[zfm]
theorem zib (pre:List ByteArray):zfm pre=(pre.map spV).flatMap zal:=by rw[List.flatMap_map];rfl
structure SI (w W:World) (pre:List ByteArray):Prop where
 bel:Below w.heap.size w W
 r2:W.heap[w.heap.size]? = some (.cells #[.slice none 0 0] 23 (0,0))
 r3:W.heap[w.heap.size+1]? = some (.cells #[.bool false] 4 (0,0))
 out:∃ v,W.heap[w.heap.size+1+1]? = some (.cells #[v] 23 (0,0))∧W.ownsRow (w.heap.size+6) 34 2 v pre.length (zfm pre)
 ok:∀ p∈pre,spOk p.data.toList=true
structure SX (w W:World) (pre:List ByteArray):Prop where
 bel:Below w.heap.size w W
 r2:W.heap[w.heap.size]? = some (.cells #[.slice none 0 0] 23 (0,0))
 r3:W.heap[w.heap.size+1]? = some (.cells #[.bool false] 4 (0,0))
 bad:∃ p∈pre,spOk p.data.toList=false
theorem SI.own {w:World} {B:Nat} (hB:w.heap.size+6≤B):OwnFrom B (fun (pre:List ByteArray) W=>SI w W pre):=by
 rintro pre W W' row h hg hr
 have hr':∀ r,row=some r→B≤r:=fun r e=>(hr r e).1
 obtain⟨v,hv,hrow⟩:=h.out
 refine⟨h.bel.grown hg h.bel.size (fun k e=>by have:=hr' k e;omega),zco hg hr' (by omega) h.r2,zco hg hr' (by omega) h.r3,⟨v,zco hg hr' (by omega) hv,hrow.kept hg ?_⟩,h.ok⟩
 rcases hrow.2 with⟨rfl,_⟩ | ⟨g,cap,cur,rfl,_,hgb,_⟩
 ·exact .inl rfl
 refine .inr fun e'=>?_
 obtain⟨_,o,ho,hc⟩:=hr g (by simpa [Value.ownBlock] using e'.symm)
 rw[hgb] at ho
 cases ho
 cases hc
theorem SX.own {w:World} {B:Nat} (hB:w.heap.size+6≤B):OwnFrom B (fun (pre:List ByteArray) W=>SX w W pre):=by
 rintro pre W W' row h hg hr
 have hr':∀ r,row=some r→B≤r:=fun r e=>(hr r e).1
 exact⟨h.bel.grown hg h.bel.size (fun k e=>by have:=hr' k e;omega),zco hg hr' (by omega) h.r2,zco hg hr' (by omega) h.r3,h.bad⟩
theorem SI.lets (w:World):Lets (w.heap.size+1+1+1) (fun (pre:List ByteArray) W=>SI w W pre):=by
 rintro pre W i u h
 obtain⟨v,hv,hrow⟩:=h.out
 exact⟨h.bel.setCell (p:=⟨w.heap.size+1+1+1,i,none⟩) (by show w.heap.size≤w.heap.size+1+1+1;omega) _,za3 h.r2 (by omega),za3 h.r3 (by omega),⟨v,za3 hv (by omega),zcq hrow (by omega) i u⟩,h.ok⟩
theorem SX.lets (w:World):Lets (w.heap.size+1+1+1) (fun (pre:List ByteArray) W=>SX w W pre):=by
 rintro pre W i u h
 exact⟨h.bel.setCell (p:=⟨w.heap.size+1+1+1,i,none⟩) (by show w.heap.size≤w.heap.size+1+1+1;omega) _,za3 h.r2 (by omega),za3 h.r3 (by omega),h.bad⟩
theorem SI.size {w W:World} {pre:List ByteArray} (h:SI w W pre) (hs:w.heap.size+6≤W.heap.size):∀ k,sb w k→k < W.heap.size:=by
 rintro k (rfl | rfl | rfl) <;> omega
theorem SI.add {w W W3 w1:World} {pre:List ByteArray} {x:ByteArray} {tmp:Obj} {B:Nat} (h:SI w W pre) (hs:w.heap.size+6≤W.heap.size) (hb:Below W.heap.size W W3) {v v':Value}
  (hv:W.heap[w.heap.size+1+1]? = some (.cells #[v] 23 (0,0))) (hrow:W.ownsRow (w.heap.size+6) 34 2 v pre.length (zfm pre))
  (hown:w1.ownsRow (w.heap.size+6) 34 2 v' (pre.length+1) (zfm pre ++ zal (spV x))) (hg:(W3.alloc tmp).grownBy w1 v.ownBlock) (hx:spOk x.data.toList=true) :
  KeepsFrom B W (w1.setCell ⟨w.heap.size+1+1,0,none⟩ v')∧zee (sb w) W (w1.setCell ⟨w.heap.size+1+1,0,none⟩ v')∧SI w (w1.setCell ⟨w.heap.size+1+1,0,none⟩ v') (pre ++ [x])∧w1.heap[w.heap.size+1+1]? = some (.cells #[v] 23 (0,0))∧w.heap.size+6≤(w1.setCell ⟨w.heap.size+1+1,0,none⟩ v').heap.size:=by
 have hb3:Below W.heap.size W (W3.alloc tmp):=hb.alloc hb.size _
 have hrow3:(W3.alloc tmp).ownsRow (w.heap.size+6) 34 2 v pre.length (zfm pre):=zae hrow hb3
 have old:∀ {k:Nat} {o:Obj},k < w.heap.size+6→W.heap[k]? = some o→w1.heap[k]? = some o:=fun {k o} hk ho =>
  (hg.block k (by have:=hb3.size;have:=(Array.getElem?_eq_some_iff.1 ho).1;omega) (fun e=>by have:=(hrow3.lt k e.symm).1;omega)).trans (za0 hb3 ho)
 refine⟨?_,?_,⟨?_,za3 (old (by omega) h.r2) (by omega),za3 (old (by omega) h.r3) (by omega),⟨v',heap_setCell_same _ _ 0 _ _ _ (old (by omega) hv),?_⟩,?_⟩,old (by omega) hv,by have:=hg.size;have:=hb3.size;simp[World.setCell];omega⟩
 ·have k1:KeepsFrom B W (W3.alloc tmp):=zd2 hb3
  have k2:KeepsFrom B (W3.alloc tmp) w1:=⟨hg.size,fun k o _ hk hc=>(hg.block k (Array.getElem?_eq_some_iff.1 hk).1 (fun e=>by
   obtain⟨cs,hcs⟩:=zdh hrow3 k e.symm
   rw[hcs] at hk
   cases hk
   cases hc)).trans hk⟩
  exact (k1.trans k2).trans ((KeepsOthers.setCell _ _ _).from B)
 ·intro k hk
  have hlt:=h.size hs k hk
  have hlt6:k < w.heap.size+6:=by rcases hk with rfl | rfl | rfl <;> omega
  have hne:k≠w.heap.size+1+1:=by rcases hk with h | h | h <;> omega
  rw[Below.heap_setCell _ _ _ _ hne]
  cases ho:W.heap[k]? with
  | none=>exact absurd ho (by rw[Array.getElem?_eq_getElem hlt];simp)
  | some o=>exact old hlt6 ho
 ·exact ((h.bel.trans (hb3.mono h.bel.size)).grown hg (by have:=hb3.size;have:=h.bel.size;omega) (fun k e=>by have:=(hrow3.lt k e).1;omega)).setCell (p:=⟨w.heap.size+1+1,0,none⟩) (by show w.heap.size≤w.heap.size+1+1;omega) _
 ·rw[zjl,List.length_append]
  exact zcq hown (by omega) 0 v'
 intro p hp
 rcases List.mem_append.1 hp with hp | hp
 ·exact h.ok p hp
 rw[List.mem_singleton] at hp;subst hp;exact hx
theorem SI.no {w W W3:World} {pre:List ByteArray} {x:ByteArray} {B:Nat} (h:SI w W pre) (hs:w.heap.size+6≤W.heap.size) (hb:Below W.heap.size W W3) (hx:spOk x.data.toList=false) :
  KeepsFrom B W ((W3.setCell ⟨w.heap.size,0,none⟩ (.slice none 0 0)).setCell ⟨w.heap.size+1,0,none⟩ (.bool false))∧SX w ((W3.setCell ⟨w.heap.size,0,none⟩ (.slice none 0 0)).setCell ⟨w.heap.size+1,0,none⟩ (.bool false)) (pre ++ [x]):=by
 refine⟨((zd2 hb).trans ((KeepsOthers.setCell _ _ _).from B)).trans ((KeepsOthers.setCell _ _ _).from B),?_,?_,?_,?_⟩
 ·exact (((h.bel.trans (hb.mono h.bel.size)).setCell (p:=⟨w.heap.size,0,none⟩) (Nat.le_refl _) _).setCell (p:=⟨w.heap.size+1,0,none⟩) (by show w.heap.size≤w.heap.size+1;omega) _)
 ·exact za3 (heap_setCell_same _ _ 0 _ _ _ (za0 hb h.r2)) (by omega)
 ·exact heap_setCell_same _ _ 0 _ _ _ (za3 (za0 hb h.r3) (by omega))
 exact⟨x,by simp,hx⟩
def rdSp (t:ByteArray):List BSp:=(cutS 44 t).map spV
theorem spV_size (s:ByteArray):(spV s).1.size≤s.size∧(spV s).2.size≤s.size:=by
 have h:=zit s
 have e:∀ l:List UInt8,(⟨l.toArray⟩ : ByteArray).size=l.length:=fun l=>rfl
 unfold spV spB
 split
 ·split
  ·exact⟨by rw[e];exact h.1,by rw[e];exact h.2⟩
  exact⟨by rw[e];exact h.1,by rw[e];exact h.1⟩
 exact⟨Nat.zero_le _,Nat.zero_le _⟩
theorem spV_small {p:ByteArray} (h:spOk p.data.toList=true):(spV p).1.size≤40∧(spV p).2.size≤40:=by
 have hm:mayS (spO p.data.toList)=true:=by
  have h2:=h
  unfold spOk at h2
  simp only[Bool.and_eq_true] at h2
  exact h2.1
 have h1:=zb7.1 hm
 have b40:∀ x:ByteArray,zba x.data.toList=true→x.size≤40:=fun x hx=>by
  rw[← Txt.len]
  rcases zf5.1 hx with h | h
  ·rw[h];simp
  exact ((zcd _).1 h).2.1
 rw[← zho p] at h1
 unfold spV
 rw[if_pos h]
 exact⟨b40 _ h1.1,b40 _ h1.2.1⟩
theorem rd_ok (t:ByteArray) (hok:∀ p∈cutS 44 t,spOk p.data.toList=true):∃ l:List Tp,tB l=rdSp t:=by
 have hs:∀ s∈cutS 44 t,(spV s).1.size≤9000∧(spV s).2.size≤9000:=fun s h=>by
  have h1:=spV_small (hok s h)
  omega
 refine⟨(cutS 44 t).pmap (fun s h=>(⟨spV s,h⟩ : Tp)) hs,?_⟩
 unfold rdSp tB
 rw[List.map_pmap]
 simp
theorem lit2 (w:World) (x y:Value) (t:TypeId) {n:Nat} (hn:w.heap.size=n):∀ j u,[x,y][j]? = some u→(w.alloc (.cells #[x,y] t)).cell? ((⟨n,0,none⟩ : Addr).add j)=some u:=by
 intro j u hu
 subst hn
 rw[Addr.add_lit,Nat.zero_add,World.cell?_alloc_new]
 simpa using hu
def RdPost (t:ByteArray) (w:World) (e:Ending) (w':World):Prop :=
 ((∃ v,e = .returned (.tuple #[v,.bool true])∧((t=⟨#[33]⟩∧v = .slice none 0 0)∨(t≠⟨#[33]⟩∧(∀ p∈cutS 44 t,spOk p.data.toList=true)∧(∀ l,tB l=rdSp t→zcx l=t)∧w'.ownsRow w.heap.size 34 2 v (rdSp t).length ((rdSp t).flatMap zal)))) ∨
  (e = .returned (.tuple #[.slice none 0 0,.bool false])∧t≠⟨#[33]⟩∧((∃ p∈cutS 44 t,spOk p.data.toList=false)∨∀ l,tB l=rdSp t→zcx l≠t)))∧Below w.heap.size w w'
theorem info_span:(Tryz.prog.info? 34).map (fun i=>(i.zero,i.size,i.bytes))=some (some (.agg #[.string ⟨#[]⟩,.string ⟨#[]⟩]),2,32):=by kernel_rfl
theorem znd (s:ByteArray) (hs:s.size≤70000) {w:World} (hD:zbi w):Calls Tryz.prog 16 #[.string s] w (RdPost s w):=by
 refine (callsIn_wide (n:=8)).1 ?_
 refine callsIn_of_wp_marks Tryz.func16 rfl trivial ?_ rfl
 simp only[Tryz.ntmps16,List.size_toArray,List.length_cons,List.length_nil,Nat.reduceAdd,Nat.reduceSub,Array.replicate_succ,Array.replicate_zero,List.push_toArray,List.append_toArray,List.nil_append,List.cons_append]
 have e33:(⟨#[33]⟩ : ByteArray).toList = [33]:=by rw[Lib.toList_data]
 by_cases h0:s=⟨#[33]⟩
 ·have k1:(s.toList == [33])=true:=by rw[← e33,Txt.eq_dec,decide_eq_true h0]
  clear e33
  obtain⟨HD,H0⟩:=hd2 hD h0;clear hD h0
  gi_wp2
  refine⟨_,zbn rfl rfl rfl (za0 (za2 _ _) (za0 (za2 _ _) (za6 rfl))) (za0 (za2 _ _) (za6 (by simp))) (Tryz.isAgg23 _) (Tryz.isAgg4 _),?_⟩
  exact⟨.inl ⟨_,rfl,.inl ⟨H0.out,rfl⟩⟩,(((Below.refl _ w).alloc (Nat.le_refl _) _).alloc (by simp) _).alloc (by simp;omega) _⟩
 have k1:(s.toList == [33])=false:=by rw[← e33,Txt.eq_dec,decide_eq_false h0]
 clear e33
 have hq:=zh8 s 44 (((w.alloc (.cells #[.slice none 0 0] 23)).alloc (.cells #[.bool false] 4)).alloc (.cells #[.slice none 0 0] 23))
 obtain⟨Hq,HD,H0⟩:=hd3 hq hD h0;clear hq hD h0
 gi_wp2
 refine⟨trivial,(callsIn_wide.2 Hq.out).mono ?_⟩
 rintro e w2 ⟨rfl,rfl⟩
 gi_wp2
 have hsb:SBox (w.heap.size+1+1+1) (w.heap.size+1+1+1+1) (w.heap.size+1+1+1+1+1) 44 s ((((((w.alloc (.cells #[.slice none 0 0] 23)).alloc (.cells #[.bool false] 4)).alloc (.cells #[.slice none 0 0] 23)).alloc (.cells #[.string s] 9)).alloc (.cells #[.string ⟨#[44]⟩] 9)).alloc (.cells #[.int .i64 0] 3)):=by
  have a1:=za6 (w:=(((w.alloc (.cells #[.slice none 0 0] 23)).alloc (.cells #[.bool false] 4)).alloc (.cells #[.slice none 0 0] 23))) (o:=.cells #[.string s] 9) (n:=w.heap.size+1+1+1) (by simp)
  have a2:=za6 (w:=((((w.alloc (.cells #[.slice none 0 0] 23)).alloc (.cells #[.bool false] 4)).alloc (.cells #[.slice none 0 0] 23)).alloc (.cells #[.string s] 9))) (o:=.cells #[.string ⟨#[44]⟩] 9) (n:=w.heap.size+1+1+1+1) (by simp)
  have a3:=za6 (w:=(((((w.alloc (.cells #[.slice none 0 0] 23)).alloc (.cells #[.bool false] 4)).alloc (.cells #[.slice none 0 0] 23)).alloc (.cells #[.string s] 9)).alloc (.cells #[.string ⟨#[44]⟩] 9))) (o:=.cells #[.int .i64 0] 3) (n:=w.heap.size+1+1+1+1+1) (by simp)
  exact⟨za0 (za2 _ _) (za0 (za2 _ _) a1),za0 (za2 _ _) a2,a3⟩
 obtain⟨W0,hW0⟩ : ∃ W0,W0=((((((w.alloc (.cells #[.slice none 0 0] 23)).alloc (.cells #[.bool false] 4)).alloc (.cells #[.slice none 0 0] 23)).alloc (.cells #[.string s] 9)).alloc (.cells #[.string ⟨#[44]⟩] 9)).alloc (.cells #[.int .i64 0] 3)):=⟨_,rfl⟩
 have hs0:W0.heap.size=w.heap.size+6:=by rw[hW0];simp
 rw[← hW0] at hsb ⊢
 have hSI:SI w W0 []:=by
  rw[hW0]
  have k1:∀ {w':World} {o:Obj} {k:Nat} {o':Obj},w'.heap[k]? = some o→(w'.alloc o').heap[k]? = some o:=fun h=>za0 (za2 _ _) h
  refine⟨(((((((Below.refl _ w).alloc (Nat.le_refl _) _).alloc (by simp) _).alloc (by simp;omega) _).alloc (by simp;omega) _).alloc (by simp;omega) _).alloc (by simp;omega) _),k1 (k1 (k1 (k1 (k1 (za6 rfl))))),k1 (k1 (k1 (k1 (za6 (by simp))))),⟨_,k1 (k1 (k1 (za6 (by simp)))),World.ownsRow_nil _ _ _ _⟩,(fun p hp=>by cases hp)⟩
 have HW0:=hd hW0;clear hW0
 refine zfn rfl (by omega) (gf:=zml) rfl trivial (enters_of Tryz.func167 (by kernel_rfl) rfl) (zi6 7 (by omega) _ _ _ 44 s (by omega) W0 (by omega) (by omega) (by omega) (by omega) (by omega) hsb)
  (fun k hk=>by rcases hk with h | h | h <;> omega) (by omega) (Below.refl _ _) rfl
  (fun pre W=>w.heap.size+6≤W.heap.size∧SI w W pre) (fun pre W=>w.heap.size+6≤W.heap.size∧SX w W pre) (OwnFrom.and (zdx _) (SI.own (by omega))) (OwnFrom.and (zdx _) (SX.own (by omega))) (fun pre W i u h=>⟨by simp[World.setCell];exact h.1,SI.lets w pre W i u h.2⟩) (fun pre W i u h=>⟨by simp[World.setCell];exact h.1,SX.lets w pre W i u h.2⟩) ⟨by omega,hSI⟩
  (fun x=>{ tmps:=#[.string s,undef,.pointer (some ⟨w.heap.size,0,none⟩),.pointer (some ⟨w.heap.size+1,0,none⟩),.pointer (some ⟨w.heap.size+1+1,0,none⟩),.string x,undef,undef,.string s,.bool false,.string s,
   .func (.func zml) #[] #[.pointer (some ⟨w.heap.size+1+1+1+1,0,none⟩),.pointer (some ⟨w.heap.size+1+1+1,0,none⟩),.pointer (some ⟨w.heap.size+1+1+1+1+1,0,none⟩)],.string x,undef,undef,undef,undef,undef,undef,undef,undef,undef,undef,undef,undef,undef,undef,undef,undef],defers:=[] }) ?assign ?body ?done ?stop
 case assign =>
  intro l x W K hK
  gi_wp2
  exact hK
 case body =>
  rintro l pre x W ⟨hsz,h⟩ ⟨hx,hpx⟩
  obtain⟨v,hv,hrow⟩:=h.out
  obtain⟨a,cap,rfl⟩:=zai hrow
  have hR:=zlo x (by omega) (HD.out.below h.bel)
  obtain⟨b,hb⟩ : ∃ b,b=spOk x.data.toList:=⟨_,rfl⟩
  obtain⟨y1,hy1⟩ : ∃ y,y=(spV x).1:=⟨_,rfl⟩
  obtain⟨y2,hy2⟩ : ∃ y,y=(spV x).2:=⟨_,rfl⟩
  have c0:W.cell? ⟨w.heap.size+1+1,0,none⟩=some (.slice a pre.length cap):=za4 hv 0
  rw[← hb,← hy1,← hy2] at hR
  have hpl:pre.length≤70000:=by
   have h1:=hpx.length_le
   have h2:(cutS 44 s).length≤s.size+1:=by rw[zbo,← dlen s];exact (zel 44 _).2
   rw[List.length_append,List.length_singleton] at h1
   omega
  obtain⟨Hv,Hrow,HR,Hh,Hc0,Hx,Hpx,Hy1,Hy2⟩:=hd9 hv hrow hR h c0 hx hpx hy1 hy2;clear hv hrow hR h c0 hx hpx hy1 hy2
  gi_wp2
  refine⟨trivial,(CallsIn.inRound l (callsIn_wide.2 HR.out)).mono ?_⟩
  rintro e W2 ⟨rfl,hb2⟩
  have hb3:Below W.heap.size W (W2.alloc (.cells #[.string y1,.string y2] 34)):=hb2.alloc hb2.size _
  have r2:=za0 hb3 Hh.out.r2
  have r3:=za0 hb3 Hh.out.r3
  have d0:(W2.alloc (.cells #[.string y1,.string y2] 34)).cell? ⟨w.heap.size+1+1,0,none⟩=some (.slice a pre.length cap):=cell_later hb3 Hc0.out
  have d1:(W2.alloc (.cells #[.string y1,.string y2] 34)).cell? ⟨w.heap.size,0,none⟩=some (.slice none 0 0):=za4 r2 0
  have d2:(W2.alloc (.cells #[.string y1,.string y2] 34)).cell? ⟨w.heap.size+1,0,none⟩=some (.bool false):=za4 r3 0
  have f1:=za8 r2 0
  have f2:=za8 r3 0
  obtain⟨Hb2,Hb3,Hr2,Hr3,Hb⟩:=hd5 hb2 hb3 r2 r3 hb;clear hb2 hb3 r2 r3 hb
  clear Hq
  cases b with
  | false =>
   have hno:=Hh.out.no (B:=W0.heap.size) hsz Hb3.out Hb.out.symm
   have hs3:w.heap.size+6≤(((W2.alloc (.cells #[.string y1,.string y2] 34)).setCell ⟨w.heap.size,0,none⟩ (.slice none 0 0)).setCell ⟨w.heap.size+1,0,none⟩ (.bool false)).heap.size:=by have:=Hb3.out.size;simp[World.setCell] at this ⊢;omega
   have Hno:=hd hno;clear hno
   gi_wp2
   exact⟨Hno.out.1,hs3,Hno.out.2⟩
  | true =>
   have hrow3:=zae Hrow.out Hb3.out
   obtain⟨i0,hi,hz0,hz1,hz2⟩:=info_parts info_span
   have hadd:=fun (w1:World) (v':Value)=>Hh.out.add (B:=W0.heap.size) hsz Hb3.out Hv.out Hrow.out (w1:=w1) (v':=v') (x:=x) (tmp:=.cells #[.string y1,.string y2] 34)
   have hsp:zal (spV x) = [.string y1,.string y2]:=by rw[Hy1.out,Hy2.out];rfl
   rw[hsp] at hadd
   have hz9:w.heap.size+6≤(W2.alloc (.cells #[.string y1,.string y2] 34)).heap.size:=by have:=Hb3.out.size;omega
   have g1:pre.length+1≤maxLen:=by unfold maxLen;omega
   have g2:(pre.length+1) * 32≤140737488355328:=by omega
   have g3:w.heap.size+6≤((W2.alloc (.cells #[.string y1,.string y2] 34)).alloc (.cells #[.string y1,.string y2] 34)).heap.size:=by simp at hz9 ⊢;omega
   have g4:=lit2 (W2.alloc (.cells #[.string y1,.string y2] 34)) (.string y1) (.string y2) 34 (n:=W2.heap.size+1) (by simp)
   have g5:∀ u∈[Value.string y1,.string y2],u.oneCell'=true:=by simp[Value.oneCell']
   obtain⟨Hrow3,Hsp,Hadd,Hz9,Hg1,Hg2,Hg3,Hg4,Hg5⟩:=hd9 hrow3 hsp hadd hz9 g1 g2 g3 g4 g5;clear hrow3 hsp hadd hz9 g1 g2 g3 g4 g5
   gi_wp2_with (gi_at_builtin;refine wpListIn_append_own _ rfl _ _ 23 rfl (w.heap.size+6) 34 i0 (.agg #[.string ⟨#[]⟩,.string ⟨#[]⟩]) 2 32 Tryz.underlying23 hi hz0 hz1 hz2 rfl (by decide) _ _ _ rfl (Hrow3.out.alloc _) ⟨W2.heap.size+1,0,none⟩ 1 1 [.string y1,.string y2] rfl rfl Hg4.out Hg5.out Hg1.out Hg2.out Hg3.out ?_;intro v' w1 hown' hgrow _;obtain⟨g',cap',rfl⟩:=ownsRow_succ hown';have hfin:=Hadd.out w1 _ hown' hgrow Hb.out.symm;clear hown' hgrow;refine Hid.out ?_)
   have e1:=za4 hfin.2.2.2.1 0
   have e2:=za8 hfin.2.2.2.1 0
   simp only[List.getElem?_toArray,List.getElem?_cons_zero] at e1
   have Hfin:=hd hfin;clear hfin
   refine Lib.hid ?_
   gi_wp2
   exact⟨Hfin.out.1,Hfin.out.2.1,Hfin.out.2.2.2.2,Hfin.out.2.2.1⟩
 case done =>
  rintro D ys W hD rfl ⟨hsz,h⟩ hK
  obtain⟨v,hv,hrow⟩:=h.out
  obtain⟨a,cap,rfl⟩:=zai hrow
  have c0:W.cell? ⟨w.heap.size+1+1,0,none⟩=some (.slice a (cutS 44 s).length cap):=za4 hv 0
  obtain⟨l,hl⟩:=rd_ok s h.ok
  have hll:l.length=(cutS 44 s).length:=by have:=congrArg List.length hl;simpa [rdSp] using this
  have hn1:(cutS 44 s).length≤s.size+1:=by rw[zbo,← dlen s];exact (zel 44 _).2
  have hrl:(rdSp s).length=(cutS 44 s).length:=by simp[rdSp]
  have hrd:RSps W [.slice a (cutS 44 s).length cap] (tB l):=by
   rw[hl]
   refine zdn (B:=w.heap.size+6) (fun x hx=>?_) ?_
   ·obtain⟨p,hp,rfl⟩:=List.mem_map.1 hx
    have h1:=zec hp
    have h2:=spV_size p
    unfold maxLen;omega
   rw[hrl]
   have h3:=hrow
   rw[zib] at h3
   exact h3
  have hT:=znc hrd (by omega) (HD.out.below h.bel)
  have hall:=h.ok
  have hinj:∀ l',tB l'=rdSp s→l'=l:=fun l' h'=>(List.map_inj_right fun _ _ e=>Subtype.ext e).1 (h'.trans hl.symm)
  obtain⟨T,hTT⟩ : ∃ T,T=zcx l:=⟨_,rfl⟩
  rw[← hTT] at hT
  have k2:(T.toList == s.toList)=decide (T=s):=Txt.eq_dec _ _
  by_cases htx:T=s
  ·have k3:(T.toList == s.toList)=true:=by rw[k2,decide_eq_true htx]
   clear k2
   obtain⟨Hv,Hrow,Hh,HT,Hall,Hinj,HTT,Htx,Hrd,Hl,Hll,Hrl⟩:=hd12 hv hrow h hT hall hinj hTT htx hrd hl hll hrl;clear hv hrow h hT hall hinj hTT htx hrd hl hll hrl
   gi_wp2
   refine⟨trivial,(callsIn_wide.2 HT.out).mono ?_⟩
   rintro e W5 ⟨rfl,hb5⟩
   have r2:=za0 hb5 Hh.out.r2
   have r3:=za0 hb5 Hh.out.r3
   have hK5:=za0 hb5 hK
   have c5:=cell_later hb5 c0
   have hrow5:=zae Hrow.out hb5
   have c1:=za4 r2 0
   have c2:=za4 r3 0
   have f1:=za8 r2 0
   have f2:=za8 r3 0
   simp only[List.getElem?_toArray,List.getElem?_cons_zero] at c1 c2
   obtain⟨Hb5,Hr2,Hr3,Hrow5⟩:=hd4 hb5 r2 r3 hrow5;clear hb5 r2 r3 hrow5
   gi_wp2
   have hK2:((W5.setCell ⟨w.heap.size,0,none⟩ (.slice a (cutS 44 s).length cap)).setCell ⟨w.heap.size+1,0,none⟩ (.bool true)).heap[D]? = some (.deferred (some [])):=za3 (za3 hK5 (by omega)) (by omega)
   have x1:=za3 (b:=w.heap.size+1) (i:=0) (u:=.bool true) (heap_setCell_same W5 w.heap.size 0 _ _ (.slice a (cutS 44 s).length cap) Hr2.out) (by omega)
   have x2:=heap_setCell_same _ (w.heap.size+1) 0 _ _ (.bool true) (za3 (b:=w.heap.size) (i:=0) (u:=.slice a (cutS 44 s).length cap) Hr3.out (by omega))
   have hb9:Below w.heap.size w ((W5.setCell ⟨w.heap.size,0,none⟩ (.slice a (cutS 44 s).length cap)).setCell ⟨w.heap.size+1,0,none⟩ (.bool true)):=((Hh.out.bel.trans (Hb5.out.mono Hh.out.bel.size)).setCell (p:=⟨w.heap.size,0,none⟩) (Nat.le_refl _) _).setCell (p:=⟨w.heap.size+1,0,none⟩) (by show w.heap.size≤w.heap.size+1;omega) _
   have ho:((W5.setCell ⟨w.heap.size,0,none⟩ (.slice a (cutS 44 s).length cap)).setCell ⟨w.heap.size+1,0,none⟩ (.bool true)).ownsRow (w.heap.size+6) 34 2 (.slice a (cutS 44 s).length cap) (cutS 44 s).length (zfm (cutS 44 s)):=zcq (zcq Hrow5.out (p:=w.heap.size) (by omega) 0 (.slice a (cutS 44 s).length cap)) (p:=w.heap.size+1) (by omega) 0 (.bool true)
   refine⟨by simp,.inl ⟨_,_,rfl,run_takeDeferred hK2,?_⟩⟩
   refine⟨_,zbn rfl rfl rfl ((World.putObj_heap_other (by omega)).trans x1) ((World.putObj_heap_other (by omega)).trans x2) (Tryz.isAgg23 _) (Tryz.isAgg4 _),?_⟩
   refine⟨.inl ⟨_,rfl,.inr ⟨H0.out,Hall.out,fun l' h'=>by rw[Hinj.out l' h',← HTT.out,Htx.out],?_⟩⟩,hb9.trans (belowK_b (w:=w) (Nat.le_refl _) _ D _ _ (by omega) hK2 rfl rfl)⟩
   have e9:(rdSp s).flatMap zal=zfm (cutS 44 s):=(zib _).symm
   rw[e9,Hrl.out]
   exact zcc (ownsRow_putObj ho _ hK2 rfl) (by omega)
  have k3:(T.toList == s.toList)=false:=by rw[k2,decide_eq_false htx]
  clear k2
  obtain⟨Hv,Hrow,Hh,HT,Hall,Hinj,HTT,Htx,Hrd,Hl,Hll,Hrl⟩:=hd12 hv hrow h hT hall hinj hTT htx hrd hl hll hrl;clear hv hrow h hT hall hinj hTT htx hrd hl hll hrl
  gi_wp2
  refine⟨trivial,(callsIn_wide.2 HT.out).mono ?_⟩
  rintro e W5 ⟨rfl,hb5⟩
  have r2:=za0 hb5 Hh.out.r2
  have r3:=za0 hb5 Hh.out.r3
  have hK5:=za0 hb5 hK
  have c5:=cell_later hb5 c0
  have hrow5:=zae Hrow.out hb5
  have c1:=za4 r2 0
  have c2:=za4 r3 0
  have f1:=za8 r2 0
  have f2:=za8 r3 0
  simp only[List.getElem?_toArray,List.getElem?_cons_zero] at c1 c2
  obtain⟨Hb5,Hr2,Hr3,Hrow5⟩:=hd4 hb5 r2 r3 hrow5;clear hb5 r2 r3 hrow5
  gi_wp2
  have hK2:((W5.setCell ⟨w.heap.size,0,none⟩ (.slice none 0 0)).setCell ⟨w.heap.size+1,0,none⟩ (.bool false)).heap[D]? = some (.deferred (some [])):=za3 (za3 hK5 (by omega)) (by omega)
  have x1:=za3 (b:=w.heap.size+1) (i:=0) (u:=.bool false) (heap_setCell_same W5 w.heap.size 0 _ _ (.slice none 0 0) Hr2.out) (by omega)
  have x2:=heap_setCell_same _ (w.heap.size+1) 0 _ _ (.bool false) (za3 (b:=w.heap.size) (i:=0) (u:=.slice none 0 0) Hr3.out (by omega))
  have hb9:Below w.heap.size w ((W5.setCell ⟨w.heap.size,0,none⟩ (.slice none 0 0)).setCell ⟨w.heap.size+1,0,none⟩ (.bool false)):=((Hh.out.bel.trans (Hb5.out.mono Hh.out.bel.size)).setCell (p:=⟨w.heap.size,0,none⟩) (Nat.le_refl _) _).setCell (p:=⟨w.heap.size+1,0,none⟩) (by show w.heap.size≤w.heap.size+1;omega) _
  have ho:((W5.setCell ⟨w.heap.size,0,none⟩ (.slice none 0 0)).setCell ⟨w.heap.size+1,0,none⟩ (.bool false)).ownsRow (w.heap.size+6) 34 2 (.slice a (cutS 44 s).length cap) (cutS 44 s).length (zfm (cutS 44 s)):=zcq (zcq Hrow5.out (p:=w.heap.size) (by omega) 0 (.slice none 0 0)) (p:=w.heap.size+1) (by omega) 0 (.bool false)
  refine⟨by simp,.inl ⟨_,_,rfl,run_takeDeferred hK2,?_⟩⟩
  refine⟨_,zbn rfl rfl rfl ((World.putObj_heap_other (by omega)).trans x1) ((World.putObj_heap_other (by omega)).trans x2) (Tryz.isAgg23 _) (Tryz.isAgg4 _),?_⟩
  refine⟨.inr ⟨rfl,H0.out,.inr fun l' h'=>by rw[Hinj.out l' h',← HTT.out];exact Htx.out⟩,hb9.trans (belowK_b (w:=w) (Nat.le_refl _) _ D _ _ (by omega) hK2 rfl rfl)⟩
 case stop =>
  rintro D pre W hD hpre ⟨hsz,h⟩ hK
  obtain⟨p,hp,hf⟩:=h.bad
  have hbad:∃ p∈cutS 44 s,spOk p.data.toList=false:=⟨p,hpre.subset hp,hf⟩
  have Hbad:=hd hbad;clear hbad
  gi_wp2
  refine⟨by simp,.inl ⟨_,_,rfl,run_takeDeferred hK,?_⟩⟩
  refine⟨_,zbn rfl rfl rfl ((World.putObj_heap_other (by omega)).trans h.r2) ((World.putObj_heap_other (by omega)).trans h.r3) (Tryz.isAgg23 _) (Tryz.isAgg4 _),?_⟩
  exact⟨.inr ⟨rfl,H0.out,.inl Hbad.out⟩,h.bel.trans (belowK_b (w:=w) (Nat.le_refl _) _ D _ _ (by omega) hK rfl rfl)⟩
end

section
open Go.RowKit Go.Lib VerN
def rfB (s:ByteArray):ByteArray × ByteArray:=if (cutS 58 s).length=1 then (s,s) else ((cutS 58 s).getD 0 zey,(cutS 58 s).getD 1 zey)
def rfOk (s:ByteArray):Bool:=if 2 < (cutS 58 s).length then false else zgx s.data.toList
theorem zp7 (s:ByteArray):((rfB s).1.data.toList,(rfB s).2.data.toList)=zgd s.data.toList:=by
 unfold rfB zgd
 rw[zbo]
 split
 ·rfl
 exact Prod.ext (zgp 58 s 0) (zgp 58 s 1)
def zfw (s:ByteArray) (w:World) (e:Ending) (w':World):Prop :=
 ∃ x y,e = .returned (.tuple #[.agg #[.string x,.string y],.bool (rfOk s)])∧(rfOk s=true→(x,y)=rfB s)∧Below w.heap.size w w'
theorem znm (s:ByteArray) (hs:s.size≤100000) (w:World):Calls Tryz.prog 55 #[.string s] w (zfw s w):=by
 unfold zfw
 obtain⟨w0,hW0⟩ : ∃ W0,W0=w.alloc (.cells #[.string ⟨#[]⟩,.string ⟨#[]⟩] 34):=⟨_,rfl⟩
 obtain⟨nb,hnb⟩ : ∃ nb,nb=w.heap.size:=⟨_,rfl⟩
 have hw:Below w.heap.size w w0:=by rw[hW0];exact za2 _ _
 have hr:w0.heap[nb]? = some (.cells #[.string ⟨#[]⟩,.string ⟨#[]⟩] 34 (0,0)):=by rw[hW0,hnb];exact pbox1_0 _ _ _
 have hle:w.heap.size≤nb:=by omega
 have hC:=zgr s (by omega) 58 (by omega) w0
 rw[show UInt8.ofNat 58=(58:UInt8) from rfl] at hC
 obtain⟨ps,hps⟩ : ∃ ps,ps=cutS 58 s:=⟨_,rfl⟩
 rw[← hps] at hC
 have hpz:∀ i,(ps.getD i zey).size≤100000:=fun i=>by
  by_cases h:i < ps.length
  ·rw[List.getD,List.getElem?_eq_getElem h]
   have:=zec (c:=58) (s:=s) (by rw[← hps];exact List.getElem_mem h)
   show ps[i].size≤100000
   omega
  rw[List.getD,List.getElem?_eq_none (by omega)];decide
 have hp1:1≤ps.length∧ps.length≤1000000:=by
  have:=zel 58 s.data.toList
  rw[hps,zbo,← Txt.len] at *
  omega
 obtain⟨HC,Hw,Hr,Hps,Hpz,Hp1,Hle⟩:=hd7 hC hw hr hps hpz hp1 hle;clear hC hw hr hps hpz hp1 hle
 go_enter Tryz.func55,Tryz.ntmps55
 go_upto_region 1 with (fail)
 rw[← hW0,← hnb]
 clear hW0 hnb
 go_wp2_with fail
 refine HC.out.mono ?_
 rintro e w1 ⟨v,rfl,hown,hb1⟩
 obtain⟨a,cap,rfl⟩:=zai hown
 obtain⟨n,hn⟩ : ∃ n,n=ps.length:=⟨_,rfl⟩
 rw[← hn] at hown ⊢
 have hn1:1≤n∧n≤1000000:=by rw[hn];exact Hp1.out
 obtain⟨Hown,Hb1,Hn⟩:=hd3 hown hb1 hn;clear hown hb1 hn
 go_upto_region 3 with (fail)
 obtain⟨w2,hv⟩ : ∃ W,W=w1.alloc (.cells #[.string ⟨#[]⟩,.string ⟨#[]⟩] 34):=⟨_,rfl⟩
 obtain⟨g,hg⟩ : ∃ g,g=w1.heap.size:=⟨_,rfl⟩
 have hs2:Below w1.heap.size w1 w2:=by rw[hv];exact za2 _ _
 have hb2:=Hb1.out.trans (hs2.mono Hb1.out.size)
 have ho:w2.heap[g]? = some (.cells #[.string ⟨#[]⟩,.string ⟨#[]⟩] 34 (0,0)):=by rw[hv,hg];exact heap_alloc_new _ _
 have hr2:=za0 hb2 Hr.out
 have hown2:=zae Hown.out hs2
 rw[← hv,← hg]
 clear hv hg
 obtain⟨o0,o1,o2,o3⟩:=za1 ho
 obtain⟨r0,r1,r2,r3⟩:=za1 hr2
 obtain⟨Hs2,Hb2,Ho,Hr2,Hown2⟩:=hd5 hs2 hb2 ho hr2 hown2;clear hs2 hb2 ho hr2 hown2
 by_cases h2:2 < n
 ·have k1:decide ((2:Int) < (n:Int))=true:=by simp;omega
  have hok:rfOk s=false:=by unfold rfOk;rw[← Hps.out,← Hn.out,if_pos h2]
  have Hok:=hd hok;clear hok
  go_wp2_with fail
  refine za7 rfl rfl rfl (zab _ _ Hr2.out) rfl ?_
  exact⟨_,_,zam rfl rfl Hok.out.symm,(fun h=>by rw[Hok.out] at h;cases h),zaa _ _ (za5 Hw.out Hb2.out) Hle.out⟩
 have k1:decide ((2:Int) < (n:Int))=false:=by simp;omega
 by_cases h1:n=1
 ·subst h1
  have hok:rfOk s=mayL s.data.toList:=by
   unfold rfOk zgx
   rw[← zbo,← Hps.out,← Hn.out]
   rfl
  have hB:rfB s=(s,s):=by unfold rfB;rw[← Hps.out,← Hn.out];rfl
  have hM:=zhu s (by omega) w2
  obtain⟨p,hp⟩ : ∃ x,x=mayL s.data.toList:=⟨_,rfl⟩
  rw[← hp] at hok hM
  clear hp
  obtain⟨Hok,HB,HM⟩:=hd3 hok hB hM;clear hok hB hM
  go_wp2_with fail
  refine HM.out.mono ?_
  rintro e w3 ⟨rfl,hs3⟩
  have hb3:=Hb2.out.trans (hs3.mono Hb2.out.size)
  have hr3:=za0 hs3 Hr2.out
  obtain⟨r0,r1,r2,r3⟩:=za1 hr3
  obtain⟨Hs3,Hb3,Hr3⟩:=hd3 hs3 hb3 hr3;clear hs3 hb3 hr3
  go_wp2_with fail
  refine za7 rfl rfl rfl (zab _ _ Hr3.out) rfl ?_
  exact⟨_,_,zam rfl rfl Hok.out.symm,fun _=>HB.out.symm,zaa _ _ (za5 Hw.out Hb3.out) Hle.out⟩
 obtain rfl:n=2:=by omega
 have hlen:ps.length=2:=Hn.out.symm
 obtain⟨b0,cap0,hsh,c0⟩:=zfb Hown2.out 0 (by omega)
 obtain⟨b1,cap1,hsh1,c1⟩:=zfb Hown2.out 1 (by omega)
 simp only[Value.slice.injEq] at hsh hsh1
 obtain⟨rfl,-,rfl⟩:=hsh
 obtain⟨hbb,-,rfl⟩:=hsh1
 simp only[Option.some.injEq,Addr.mk.injEq,and_true] at hbb
 subst hbb
 obtain⟨x,hx⟩ : ∃ x,x=ps.getD 0 zey:=⟨_,rfl⟩
 obtain⟨y,hy⟩ : ∃ x,x=ps.getD 1 zey:=⟨_,rfl⟩
 have zx:=Hpz.out 0
 have zy:=Hpz.out 1
 rw[← hx] at zx
 rw[← hy] at zy
 rw[show ps[0]'(by omega)=x by rw[hx,List.getD,List.getElem?_eq_getElem (by omega)];rfl] at c0
 rw[show ps[1]'(by omega)=y by rw[hy,List.getD,List.getElem?_eq_getElem (by omega)];rfl] at c1
 have hB:rfB s=(x,y):=by unfold rfB;rw[← Hps.out,if_neg (by omega),← hx,← hy]
 have hok:rfOk s=(mayS (x.data.toList,y.data.toList) && decide (txR x y=s)):=by
  unfold rfOk zgx
  rw[← zbo,← Hps.out,if_neg (by omega),if_neg (by omega),← zp7,hB,← zot]
  exact congrArg _ (decide_eq_decide.2 ba_eq.symm)
 clear hx hy hlen
 obtain⟨HB,Hok⟩:=hd2 hB hok;clear hB hok
 go_upto_region 7 with (fail)
 go_cut [6] (fun v W=>CutBox w2 x y v W)
 case first =>
  have hcz:(w2.drewN 1).cell? ⟨b0,0,none⟩=some (.string x)∧(w2.drewN 1).cell? ⟨b0,1,none⟩=some (.string y):=⟨c0,c1⟩
  have hcf:∀ W,Below w2.heap.size w2 W→W.cell? ⟨b0,0,none⟩=some (.string x)∧W.cell? ⟨b0,1,none⟩=some (.string y):=fun W k=>⟨cell_later k c0,cell_later k c1⟩
  have hbz:=zak (Below.refl w2.heap.size w2) 1
  have Hcz:=Lib.hid hcf
  clear hcf
  go_region_held3 (fun w'=>w'.cell? ⟨b0,0,none⟩=some (.string x)∧w'.cell? ⟨b0,1,none⟩=some (.string y)) (first | exact hcz | exact Hcz.out _ (hbz.alloc hbz.size _) | exact Hcz.out _ (zaa _ _ hbz hbz.size) | go_keep) (fail)
  all_goals
   go_wp2_with fail
   go_meet
   exact⟨_,rfl,heap_alloc_new _ _,hbz.alloc hbz.size _⟩
 case rest =>
  obtain⟨gz,rfl,hz,hs3⟩:=hcut
  have hb3:=Hb2.out.trans (hs3.mono Hb2.out.size)
  have hr3:=za0 hs3 Hr2.out
  clear o0 o1 o2 o3 r0 r1 r2 r3 c0 c1
  obtain⟨z0,z1,z2,z3⟩:=za1 hz
  obtain⟨r0,r1,r2,r3⟩:=za1 hr3
  have hP:=fun (W:World) (_:Below wc.heap.size wc W)=>zdr x y (by omega) (by omega) W
  have hT:=fun (W:World) (_:Below wc.heap.size wc W)=>zie x y (by omega) (by omega) W
  have hcf:∀ W,Below wc.heap.size wc W→(W.cell? ⟨gz,0,none⟩=some (.string x)∧W.cell? ⟨gz,1,none⟩=some (.string y))∧W.cell? ⟨nb,0,none⟩=some (.string ⟨#[]⟩)∧W.cell? ⟨nb,1,none⟩=some (.string ⟨#[]⟩)∧W.frozen? ⟨nb,0,none⟩=false∧W.frozen? ⟨nb,1,none⟩=false:=fun W k=>⟨⟨(za1 (za0 k hz)).1,(za1 (za0 k hz)).2.1⟩,za1 (za0 k hr3)⟩
  obtain⟨p,hp⟩ : ∃ q,q=mayS (x.data.toList,y.data.toList):=⟨_,rfl⟩
  obtain⟨tx,htx⟩ : ∃ q,q=txR x y:=⟨_,rfl⟩
  obtain⟨d,k3⟩ : ∃ q,(tx.toList == s.toList)=q:=⟨_,rfl⟩
  have hok2:rfOk s=(p && d):=by rw[Hok.out,← hp,← htx,← k3,Txt.eq_dec]
  rw[← hp] at hP
  rw[← htx] at hT
  have hbz:=zak (Below.refl wc.heap.size wc) 1
  have hcz:=hcf _ hbz
  clear hp htx Hok
  obtain⟨Hb3,Hs3,Hr3,Hz,HP,HT,Hok2⟩:=hd7 hb3 hs3 hr3 hz hP hT hok2;clear hb3 hs3 hr3 hz hP hT hok2
  have Hcz:=Lib.hid hcf
  clear hcf
  cases p with
  | false =>
   go_wp2_with fail
   first
    | go_region_with (go_at_call 59;refine (HP.out _ (by exact hbz)).mono ?_;rintro e wz ⟨rfl,hsz⟩;replace hbz:=hbz.trans (hsz.mono hbz.size);obtain⟨⟨q0,q1⟩,q2,q3,q4,q5⟩:=Hcz.out _ hbz;replace hcz:=Hcz.out _ hbz)
    | fail "the region"
   all_goals
    have hr9:=za0 hbz Hr3.out
    have hb9:=Hb3.out.trans (hbz.mono Hb3.out.size)
    obtain⟨Hr9,Hb9⟩:=hd2 hr9 hb9;clear hr9 hb9
    go_wp2_with fail
    refine za7 rfl rfl rfl (zab _ _ Hr9.out) rfl ?_
    exact⟨_,_,zam rfl rfl (by rw[Hok2.out] <;> rfl),(fun _=>HB.out.symm),zaa _ _ (za5 Hw.out Hb9.out) Hle.out⟩
  | true =>
   cases d with
   | false =>
    go_wp2_with fail
    first
     | go_region_with (first | (go_at_call 59;refine (HP.out _ (by exact hbz)).mono ?_;rintro e wz ⟨rfl,hsz⟩;replace hbz:=hbz.trans (hsz.mono hbz.size);obtain⟨⟨q0,q1⟩,q2,q3,q4,q5⟩:=Hcz.out _ hbz;replace hcz:=Hcz.out _ hbz) | (go_at_call 114;refine (HT.out _ (by exact hbz)).mono ?_;rintro e wz ⟨rfl,hsz⟩;replace hbz:=hbz.trans (hsz.mono hbz.size);obtain⟨⟨q0,q1⟩,q2,q3,q4,q5⟩:=Hcz.out _ hbz;replace hcz:=Hcz.out _ hbz))
     | fail "the region"
    all_goals
     have hr9:=za0 hbz Hr3.out
     have hb9:=Hb3.out.trans (hbz.mono Hb3.out.size)
     obtain⟨Hr9,Hb9⟩:=hd2 hr9 hb9;clear hr9 hb9
     go_wp2_with fail
     refine za7 rfl rfl rfl (zab _ _ Hr9.out) rfl ?_
     exact⟨_,_,zam rfl rfl (by rw[Hok2.out] <;> rfl),(fun _=>HB.out.symm),zaa _ _ (za5 Hw.out Hb9.out) Hle.out⟩
   | true =>
    go_wp2_with fail
    first
     | go_region_with (first | (go_at_call 59;refine (HP.out _ (by exact hbz)).mono ?_;rintro e wz ⟨rfl,hsz⟩;replace hbz:=hbz.trans (hsz.mono hbz.size);obtain⟨⟨q0,q1⟩,q2,q3,q4,q5⟩:=Hcz.out _ hbz;replace hcz:=Hcz.out _ hbz) | (go_at_call 114;refine (HT.out _ (by exact hbz)).mono ?_;rintro e wz ⟨rfl,hsz⟩;replace hbz:=hbz.trans (hsz.mono hbz.size);obtain⟨⟨q0,q1⟩,q2,q3,q4,q5⟩:=Hcz.out _ hbz;replace hcz:=Hcz.out _ hbz))
     | fail "the region"
    all_goals
     have hr9:=za0 hbz Hr3.out
     have hb9:=Hb3.out.trans (hbz.mono Hb3.out.size)
     obtain⟨Hr9,Hb9⟩:=hd2 hr9 hb9;clear hr9 hb9
     go_wp2_with fail
     refine za7 rfl rfl rfl (zab _ _ Hr9.out) rfl ?_
     exact⟨_,_,zam rfl rfl (by rw[Hok2.out] <;> rfl),(fun _=>HB.out.symm),zaa _ _ (za5 Hw.out Hb9.out) Hle.out⟩
end

section
open Go.Lib VerN
theorem zqu {p:List UInt8} (h:zbe p=true):(44:UInt8) ∉ p:=by
 intro hx
 unfold zbe at h
 rcases Bool.or_eq_true _ _ ▸ h with h | h
 ·unfold zbz at h
  simp only[Bool.and_eq_true,List.all_eq_true] at h
  have:=(zdb _).1 (h.2 44 hx)
  simp at this
 unfold zdj at h
 simp only[Bool.and_eq_true,List.all_eq_true] at h
 have:=(zc0 _).1 (h.1.1.2 44 hx)
 simp at this
theorem may_comma {l:List UInt8} (h:mayL l=true):(44:UInt8) ∉ l:=by
 intro hx
 have hg:=zfg 46 l []
 rw[List.nil_append] at hg
 rw[← hg] at hx
 rcases zl2 _ _ _ hx with e | ⟨p,hp,hx⟩
 ·exact absurd e (by decide)
 exact zqu (((zcd l).1 h).2.2.1 p hp) hx
theorem zg4 {l:List UInt8} (h:zba l=true):(44:UInt8) ∉ l:=by
 rcases zf5.1 h with h | h
 ·rw[h];simp
 exact may_comma h
theorem zns {s:BSp} (h:mayS (dS s)=true):(44:UInt8) ∉ (zcv s).data.toList:=by
 have e:(zcv s).data.toList=textS (dS s):=zk7 _ _
 have h1:=zb7.1 h
 rw[e,zk9 h]
 unfold zn9
 split
 ·exact zg4 h1.1
 intro k
 rcases List.mem_append.1 k with k | k
 ·exact zg4 h1.1 k
 rcases List.mem_cons.1 k with k | k
 ·exact absurd k (by decide)
 exact zg4 h1.2.1 k
theorem zpq:∀ (r:List (List UInt8)) (x:List UInt8),(44:UInt8) ∉ x→(∀ p∈r,(44:UInt8) ∉ p)→cutL 44 (x ++ Lib.joinTail [44] r)=x :: r
 | [],x,hx,_=>by
  have:Lib.joinTail [44] [] = []:=rfl
  rw[this,List.append_nil]
  exact ziu 44 x [] (fun y hy e=>hx (e ▸ hy))
 | y :: r,x,hx,hr=>by
  have:Lib.joinTail [44] (y :: r)=44 :: (y ++ Lib.joinTail [44] r):=by simp[Lib.joinTail]
  rw[this,zms,zpq r y (hr y (by simp)) fun p hp=>hr p (by simp[hp])]
  have:cutL 44 x = [x]:=ziu 44 x [] (fun y hy e=>hx (e ▸ hy))
  rw[this];rfl
theorem zrh {L:List (List UInt8)} (h0:L≠[]) (h:∀ p∈L,(44:UInt8) ∉ p):cutL 44 (Lib.join L [44])=L:=by
 cases L with
 | nil=>exact absurd rfl h0
 | cons x r=>rw[Lib.join_cons,zpq r x (h x (by simp)) fun p hp=>h p (by simp[hp])]
def zj9 (F:List BSp):ByteArray:=if F.length=0 then ⟨#[33]⟩ else zob F
theorem zfh {l:List Tp}:zbv l=true↔zds (tB l)=true∧(zcr l).length≤16:=by unfold zbv;simp
theorem zr8 {l:List Tp} {t:ByteArray} (hf:zbv l=true) (h0:(zcr l).length≠0) (h:zob (zcr l)=t):(cutS 44 t).length=(zcr l).length:=by
 have hs:=(zl3 (zfh.1 hf).1).1.1
 rw[zbo,← h]
 show (cutL 44 (Lib.join (((zcr l).map zcv).map (·.data.toList)) [44])).length=_
 rw[zrh]
 ·simp
 ·intro e
  have:=congrArg List.length e
  simp at this
  exact h0 (by rw[this];rfl)
 intro p hp
 obtain⟨y,hy,rfl⟩:=List.mem_map.1 hp
 obtain⟨z,hz,rfl⟩:=List.mem_map.1 hy
 exact zns (hs _ (List.mem_map.2 ⟨z,hz,rfl⟩))
theorem zm0 {t:ByteArray} {l:List Tp} (h0:t≠⟨#[33]⟩) (hok:∀ p∈cutS 44 t,spOk p.data.toList=true):zcx l=t↔((cutS 44 t).length≤40∧zbv l=true∧zj9 (zcr l)=t):=by
 constructor
 ·intro h
  unfold zcx at h
  split at h
  ·exfalso
   subst h
   have:=hok ⟨#[]⟩ (by rw[show cutS 44 ⟨#[]⟩ = [⟨#[]⟩] from rfl];exact List.mem_singleton.2 rfl)
   revert this
   decide
  rename_i hf
  have hf:zbv l=true:=by simpa using hf
  split at h
  ·exact absurd h.symm h0
  rename_i hn
  refine⟨?_,hf,by unfold zj9;rw[if_neg hn];exact h⟩
  rw[zr8 hf hn h]
  have:=(zfh.1 hf).2
  omega
 rintro⟨_,hf,h⟩
 unfold zj9 at h
 split at h
 ·exact absurd h.symm h0
 rename_i hn
 unfold zcx
 rw[if_neg (by rw[hf];simp),if_neg hn]
 exact h
end

section
open Go.Shelf Go.RowKit Go.Lib VerN
theorem join_snoc (L:List (List UInt8)) (y:List UInt8):Lib.join (L ++ [y]) [44]=if L = [] then y else Lib.join L [44] ++ 44 :: y:=by
 cases L with
 | nil=>rw[if_pos rfl,List.nil_append,Lib.join_one]
 | cons x r =>
  rw[if_neg (by simp),List.cons_append,Lib.join_cons,Lib.join_cons]
  have:Lib.joinTail [44] (r ++ [y])=Lib.joinTail [44] r ++ 44 :: y:=by simp[Lib.joinTail]
  rw[this,List.append_assoc]
def zdv (F:List BSp):ByteArray:=⟨(Lib.join ((F.map fun s=>txR s.1 s.2).map (·.data.toList)) [44]).toArray⟩
theorem zeh (F:List BSp):(zdv F).data.toList=Lib.join ((F.map fun s=>txR s.1 s.2).map (·.data.toList)) [44]:=rfl
theorem zqn (x:BSp) : ⟨#[]⟩ ++ txR x.1 x.2=zdv [x]:=by
 apply Txt.ext
 rw[Go.Joins.data_append,zeh,List.map_cons,List.map_cons,List.map_nil,List.map_nil,Lib.join_one]
 rfl
theorem znk {F:List BSp} (h:F≠[]) (x:BSp):zdv F ++ ⟨#[44]⟩ ++ txR x.1 x.2=zdv (F ++ [x]):=by
 apply Txt.ext
 rw[Go.Joins.data_append,Go.Joins.data_append,zeh,zeh,List.map_append,List.map_append,List.map_cons,List.map_cons,List.map_nil,List.map_nil,join_snoc,if_neg (by simpa using h),List.append_assoc]
 rfl
theorem zqo {F:List BSp} (h:zds F=true):zdv F=zob F:=by
 unfold zdv zob
 have:(F.map fun s=>txR s.1 s.2)=F.map zcv:=by
  apply List.map_congr_left
  intro s hs
  unfold zcv txS
  rw[if_pos]
  exact zfi.1 h _ (List.mem_map.2 ⟨s,hs,rfl⟩)
 rw[this]
theorem znl {F:List BSp} (h:ze1 F):(zdv F).size≤18002 * F.length:=by
 have hl:Lib.lens ((F.map fun s=>txR s.1 s.2).map (·.data.toList))≤18001 * F.length:=by
  have:=zo9 18001 ((F.map fun s=>txR s.1 s.2).map (·.data.toList)) (fun x hx=>by
   obtain⟨y,hy,rfl⟩:=List.mem_map.1 hx
   obtain⟨z,hz,rfl⟩:=List.mem_map.1 hy
   have h1:=zk8 z.1 z.2
   have h2:=h z hz
   rw[Txt.len]
   omega)
  simpa using this
 rw[← Txt.len,zeh]
 cases F with
 | nil=>simp[Lib.join_nil]
 | cons x r =>
  simp only[List.map_cons,List.length_cons] at hl ⊢
  rw[Lib.join_length]
  simp only[List.length_map,List.length_singleton,Nat.one_mul]
  omega
theorem zly {w:World} {v:Value} {F:List BSp} (h:RSps w [v] F) (hs:ze1 F) (hm:zds F=true) (hl:F.length≤2000):Calls Tryz.prog 56 #[v] w fun e w'=>e = .returned (.string (zj9 F))∧Below w.heap.size w w':=by
 have hat0:=fun a c (e:v = .slice a F.length c)=>zh7 (by rw[← e];exact h)
 obtain⟨a,cap,rfl⟩:=zc8 h
 have hat:=hat0 a cap rfl
 clear hat0
 obtain⟨q,hq⟩ : ∃ q,q=F.length:=⟨_,rfl⟩
 rw[← hq] at hl h ⊢
 by_cases h0:q=0
 ·subst h0
  have ht:zj9 F=⟨#[33]⟩:=by unfold zj9;rw[if_pos hq.symm]
  rw[ht]
  obtain⟨Hh,Hs,Hm,Hq,Hat⟩:=hd5 h hs hm hq hat;clear h hs hm hq hat
  go_enter Tryz.func56,Tryz.ntmps56
  go_wp2_with fail
  go_ret
  exact⟨rfl,Below.refl _ _⟩
 have k0:((q:Int) == 0)=false:=by rw[beq_eq_false_iff_ne];omega
 have ht:zj9 F=zdv F:=by unfold zj9;rw[if_neg (by rw[← hq];exact h0),zqo hm]
 rw[ht]
 obtain⟨Hh,Hs,Hm,Hq,Hat,Ht⟩:=hd6 h hs hm hq hat ht;clear h hs hm hq hat ht
 go_enter Tryz.func56,Tryz.ntmps56
 go_wp2_with fail
 go_loopw [3,10] (fun v i wr=>∃ k:Nat,k≤q∧i = .int .i64 k∧v = .string (zdv (F.take k))∧Below w.heap.size w wr) (fun _ i _=>q - (RowKit.intOf i).toNat)
 case atStart=>exact⟨0,Nat.zero_le _,rfl,rfl,Below.refl _ _⟩
 case round =>
  obtain⟨k,hk,rfl,rfl,hbr⟩:=hrel
  by_cases hlt:k < q
  ·have hkF:k < F.length:=by have:=Hq.out;omega
   obtain⟨y,hy⟩ : ∃ y,y=F[k]:=⟨_,rfl⟩
   obtain⟨b,off,rfl,c0,c1⟩:=Hat.out k y (by rw[hy];exact List.getElem?_eq_getElem hkF)
   have d0:=cell_later hbr c0
   have d1:=cell_later hbr c1
   have hys:=Hs.out y (by rw[hy];exact List.getElem_mem hkF)
   have hT:=zie y.1 y.2 (by omega) (by omega) wr
   have hnext:F.take (k+1)=F.take k ++ [y]:=by rw[hy];exact (List.take_append_getElem hkF).symm
   have hPs:=zk8 y.1 y.2
   have hSs:=znl (F:=F.take k) (fun z hz=>Hs.out z (List.mem_of_mem_take hz))
   rw[List.length_take,Nat.min_eq_left (by omega)] at hSs
   obtain⟨P,hP⟩ : ∃ P,P=txR y.1 y.2:=⟨_,rfl⟩
   obtain⟨y1,hy1⟩ : ∃ s,s=y.1:=⟨_,rfl⟩
   obtain⟨y2,hy2⟩ : ∃ s,s=y.2:=⟨_,rfl⟩
   rw[← hP] at hT hPs
   rw[← hy1,← hy2] at hT
   rw[← hy1] at d0
   rw[← hy2] at d1
   have hP1:P.size≤70000:=by omega
   have k5:(0:Int)≤(k:Int):=by omega
   have k6:(k:Int) < (q:Int):=by omega
   clear c0 c1
   by_cases hk0:k=0
   ·subst hk0
    simp only[Nat.zero_mul,Nat.add_zero] at d0 d1
    have hv:(⟨#[]⟩ : ByteArray) ++ P=zdv (F.take (0+1)):=by rw[hnext,hP,List.take_zero,List.nil_append];exact zqn y
    have e0:zdv (F.take 0)=⟨#[]⟩:=rfl
    have kz:decide ((0:Int) < ((0:Nat):Int))=false:=by simp
    rw[e0]
    obtain⟨Hbr,Hy,HT,Hnext,HP,Hv,Hy1,Hy2,HPs,HSs,Hys⟩:=hd11 hbr hy hT hnext hP hv hy1 hy2 hPs hSs hys;clear hbr hy hT hnext hP hv hy1 hy2 hPs hSs hys
    go_wp2_with fail
    refine HT.out.mono ?_
    rintro e w5 ⟨rfl,hb5⟩
    have hbw:=Hbr.out.trans (hb5.mono Hbr.out.size)
    obtain⟨Hb5,Hbw⟩:=hd2 hb5 hbw;clear hb5 hbw
    go_wp2_with fail
    go_roundw
    case rel=>exact⟨0+1,by omega,by go_num,by rw[← Hv.out],Hbw.out⟩
    case measure=>(simp[RowKit.intOf]) <;> omega
   have hv:zdv (F.take k) ++ ⟨#[44]⟩ ++ P=zdv (F.take (k+1)):=by
    rw[hnext,hP]
    refine znk (fun e=>?_) y
    have:=congrArg List.length e
    rw[List.length_take,Nat.min_eq_left (by omega)] at this
    exact hk0 this
   have kz:decide ((0:Int) < (k:Int))=true:=decide_eq_true (by omega)
   obtain⟨S,hS⟩ : ∃ S,S=zdv (F.take k):=⟨_,rfl⟩
   rw[← hS] at hv hSs ⊢
   have hS1:S.size≤40000000:=by omega
   obtain⟨Hbr,Hy,HT,Hnext,HP,Hv,Hy1,Hy2,HPs,HSs,Hys,HS⟩:=hd12 hbr hy hT hnext hP hv hy1 hy2 hPs hSs hys hS;clear hbr hy hT hnext hP hv hy1 hy2 hPs hSs hys hS
   go_wp2_with fail
   refine HT.out.mono ?_
   rintro e w5 ⟨rfl,hb5⟩
   have hbw:=Hbr.out.trans (hb5.mono Hbr.out.size)
   obtain⟨Hb5,Hbw⟩:=hd2 hb5 hbw;clear hb5 hbw
   go_wp2_with fail
   go_roundw
   case rel=>exact⟨k+1,by omega,by go_num,by rw[← Hv.out],Hbw.out⟩
   case measure=>(simp[RowKit.intOf]) <;> omega
  obtain rfl:k=q:=by omega
  rw[List.take_of_length_le (Nat.le_of_eq Hq.out.symm)]
  have Hbr:=hd hbr;clear hbr
  go_wp2_with fail
  go_ret
  exact⟨rfl,Hbr.out⟩
end

section
open Go.RowKit Go.Shelf
abbrev Setg:=ByteArray × ByteArray
def setCells (x:Setg):List Value:=[.string x.1,.string x.2]
theorem zpp:Elem Tryz.prog 49 109 (.agg #[.string ⟨#[]⟩,.string ⟨#[]⟩]) 2 32:=⟨Tryz.underlying49,by kernel_rfl,rfl,by decide⟩
def RSet:Rd Setg:=fun _ cs x=>cs = [.string x.1,.string x.2]∧x.1.size≤maxLen∧x.2.size≤maxLen
theorem zd8:ziz RSet:=fun _ _ _ _ h _=>h
abbrev zhl:Rd (List Setg):=zde 2 RSet
theorem zlt (x:Setg):(setCells x).length=2:=rfl
theorem zrp (f:List Setg) (i:Nat) (h:i < f.length) (j:Nat) (hj:j < 2):(f.flatMap setCells)[i * 2+j]? = (setCells f[i])[j]?:=zhw setCells 2 zlt f i h j hj
theorem zgy {w:World} {v:Value} {f:List Setg} (h:zhl w [v] f):∃ a c,v = .slice a f.length c:=by
 obtain⟨a,cap,hv,_⟩:=h
 simp only[List.cons.injEq,and_true] at hv
 exact⟨a,cap,hv⟩
theorem zfe {w:World} {B:Nat} {v:Value} {f:List Setg} (hw:∀ x∈f,x.1.size≤maxLen∧x.2.size≤maxLen) (h:w.ownsRow B 109 2 v f.length (f.flatMap setCells)):zhl w [v] f:=by
 obtain⟨a,cap,rfl,h1,h2,h3⟩:=Sl.of_owns h
 refine⟨a,cap,rfl,h1,h2,fun i x hi=>?_⟩
 have hil:=(List.getElem?_eq_some_iff.1 hi).1
 have hx:=(List.getElem?_eq_some_iff.1 hi).2
 have hc:∀ c,c < 2→∀ u,(setCells x)[c]? = some u→∃ b off,a=some ⟨b,off,none⟩∧w.cell? ⟨b,off+(i * 2+c),none⟩=some u:=fun c hc u hu=>h3 (i * 2+c) u (by rw[zrp f i hil c hc,hx];exact hu)
 obtain⟨b,off,ha,h4⟩:=hc 0 (by omega) _ rfl
 obtain⟨b',off',ha',h5⟩:=hc 1 (by omega) _ rfl
 rw[ha] at ha'
 cases ha'
 refine⟨b,off,setCells x,ha,rfl,fun j u hu=>?_,rfl,(hw x (List.mem_of_getElem? hi)).1,(hw x (List.mem_of_getElem? hi)).2⟩
 match j,hu with
 | 0,hu=>simp[setCells] at hu;subst hu;rw[← Nat.add_assoc] at h4;exact h4
 | 1,hu=>simp[setCells] at hu;subst hu;rw[← Nat.add_assoc] at h5;exact h5
theorem zdp {w:World} {v:Value} {l:List Setg} (h:zhl w [v] l):∃ a cap,v = .slice a l.length cap∧l.length≤9223372036854775807∧∀ i x,l[i]? = some x→∃ b off,a=some ⟨b,off,none⟩∧w.cell? ⟨b,off+i * 2,none⟩=some (.string x.1)∧w.cell? ⟨b,off+i * 2+1,none⟩=some (.string x.2)∧x.1.size≤9223372036854775807∧x.2.size≤9223372036854775807:=by
 obtain⟨a,cap,hv,hcap,hmax,hel⟩:=h
 simp only[List.cons.injEq,and_true] at hv
 unfold maxLen at hmax
 refine⟨a,cap,hv,by omega,fun i x hi=>?_⟩
 obtain⟨b,off,ecs,h1,h2,h3,h4,h5,h6⟩:=hel i x hi
 subst h4
 unfold maxLen at h5 h6
 exact⟨b,off,h1,by simpa using h3 0 _ rfl,by simpa using h3 1 _ rfl,by omega,by omega⟩
end

section
open Go.RowKit Go.Shelf
def RSlT {α:Type} (sz:Nat) (R:Rd α) (e:TypeId) (W:World) (v:Value) (L:List α):Prop:=zde sz R W [v] L∧(L≠[]→∀ k,v.ownBlock=some k→∃ cs fr,W.heap[k]? = some (.cells cs e fr))
abbrev zdk:World→Value→List BSp→Prop:=RSlT 2 RSpn 34
abbrev zbj:World→Value→List Setg→Prop:=RSlT 2 RSet 109
theorem RSlT.frm {α:Type} {sz:Nat} {R:Rd α} {e:TypeId} {W W':World} {v:Value} {L:List α} {T:Nat→Prop} (hR:∀ W W' cs x,R W cs x→R W' cs x) (h:RSlT sz R e W v L) (hF:Frm T W W') (hT:∀ k,T k→∀ cs fr,W.heap[k]?≠some (.cells cs e fr)):RSlT sz R e W' v L:=by
 obtain⟨⟨a,cap,hv,h1,h2,hel⟩,ht⟩:=h
 have hv':=hv
 simp only[List.cons.injEq,and_true] at hv'
 refine⟨⟨a,cap,hv,h1,h2,fun i x hi=>?_⟩,fun hL k hk=>?_⟩
 ·obtain⟨b,off,ecs,e1,e2,e3,e4⟩:=hel i x hi
  have hL:L≠[]:=by rintro rfl;simp at hi
  obtain⟨cs,fr,hb⟩:=ht hL b (by rw[hv',e1];rfl)
  have hbT:¬ T b:=fun k=>hT b k cs fr hb
  refine⟨b,off,ecs,e1,e2,fun j u hu=>?_,hR _ _ _ _ e4⟩
  have k:=e3 j u hu
  exact (hF.cell (p:=⟨b,off+i * sz+j,none⟩) (World.block_lt_of_cell? W _ k) hbT).trans k
 obtain⟨cs,fr,hb⟩:=ht hL k hk
 exact⟨cs,fr,zbc hb hF fun kT=>hT k kT cs fr hb⟩
theorem RSlT.below {α:Type} {sz:Nat} {R:Rd α} {e:TypeId} {W W':World} {v:Value} {L:List α} (hR:ziz R) (h:RSlT sz R e W v L) (hb:Below W.heap.size W W'):RSlT sz R e W' v L :=
 ⟨zaf hR _ _ _ _ h.1 hb,fun hL k hk=>by obtain⟨cs,fr,h2⟩:=h.2 hL k hk;exact⟨cs,fr,za0 hb h2⟩⟩
theorem zap {W W':World} {v:Value} {L:List BSp} (h:zdk W v L) (hb:Below W.heap.size W W'):zdk W' v L:=RSlT.below zc7 h hb
theorem zaz {W W':World} {v:Value} {L:List Setg} (h:zbj W v L) (hb:Below W.heap.size W W'):zbj W' v L:=RSlT.below zd8 h hb
def No2 (W:World) (T:Nat→Prop):Prop:=∀ k,T k→∃ cs e fr,W.heap[k]? = some (.cells cs e fr)∧e≠34∧e≠109
theorem zau {W:World} {k:Nat} {cs:Array Value} {t:TypeId} {fr:Nat × Nat} (h:W.heap[k]? = some (.cells cs t fr)) (h1:t≠34) (h2:t≠109):∃ cs e fr,W.heap[k]? = some (.cells cs e fr)∧e≠34∧e≠109:=⟨_,_,_,h,h1,h2⟩
theorem zaq {W W':World} {T:Nat→Prop} {v:Value} {L:List BSp} (h:zdk W v L) (hF:Frm T W W') (hT:No2 W T):zdk W' v L :=
 RSlT.frm (fun _ _ _ _ h=>h) h hF fun k hk cs fr hc=>by
  obtain⟨cs',e,fr',h1,h2,_⟩:=hT k hk
  rw[hc] at h1
  cases h1
  exact h2 rfl
theorem zat {W W':World} {T:Nat→Prop} {v:Value} {L:List Setg} (h:zbj W v L) (hF:Frm T W W') (hT:No2 W T):zbj W' v L :=
 RSlT.frm (fun _ _ _ _ h=>h) h hF fun k hk cs fr hc=>by
  obtain⟨cs',e,fr',h1,_,h2⟩:=hT k hk
  rw[hc] at h1
  cases h1
  exact h2 rfl
theorem zox {W:World} {v:Value} (h:RSps W [v] []):zdk W v []:=⟨h,fun h=>absurd rfl h⟩
theorem zgb {W:World} {B:Nat} {e:TypeId} {size:Nat} {v:Value} {n:Nat} {xs:List Value} (h:W.ownsRow B e size v n xs):∀ k,v.ownBlock=some k→∃ cs fr,W.heap[k]? = some (.cells cs e fr):=fun k hk=>by
 obtain⟨cs,hc⟩:=zdh h k hk
 exact⟨cs,(0,0),hc⟩
end

section
open Go.Shelf Go.RowKit Go.Lib VerN
theorem rfOk_is (s:ByteArray):rfOk s=spOk s.data.toList∧(spOk s.data.toList=true→rfB s=spV s):=by
 by_cases h:2 < (cutS 58 s).length
 ·have h1:spOk s.data.toList=false:=read_many (by rw[← zbo];exact h)
  refine⟨by unfold rfOk;rw[if_pos h,h1],fun e=>by rw[h1] at e;cases e⟩
 have h1:=refOk_is s.data.toList (by rw[← zbo];omega)
 refine⟨by unfold rfOk;rw[if_neg h,h1.1],fun e=>?_⟩
 unfold spV
 rw[if_pos e]
 have h2:=zp7 s
 rw[h1.2,← zho] at h2
 have h3:=Prod.mk.inj h2
 exact Prod.ext (Txt.ext h3.1) (Txt.ext h3.2)
def Rd3 (t:ByteArray):Prop:=t=⟨#[33]⟩∨((∀ p∈cutS 44 t,spOk p.data.toList=true)∧∀ l,tB l=rdSp t→zcx l=t)
def rdV (t:ByteArray):List BSp:=if t=⟨#[33]⟩ then [] else rdSp t
def zf7 (t:ByteArray) (w:World) (e:Ending) (w':World):Prop :=
 ((∃ v,e = .returned (.tuple #[v,.bool true])∧Rd3 t∧zdk w' v (rdV t))∨(∃ v,e = .returned (.tuple #[v,.bool false])∧¬ Rd3 t∧RSps w' [v] []))∧Below w.heap.size w w'
theorem zov (w:World) (g:Nat):RSps w [.slice (some ⟨g,0,none⟩) 0 0] []:=⟨_,0,rfl,Nat.zero_le _,Nat.zero_le _,fun i x hi=>by simp at hi⟩
theorem zql {ps:List ByteArray} {k:Nat} (h:k < ps.length):zfm (ps.take (k+1))=zfm (ps.take k) ++ [.string (spV ps[k]).1,.string (spV ps[k]).2]:=by
 rw[List.take_succ_eq_append_getElem h,zjl];rfl
theorem zlz (t:ByteArray) (ht:t.size≤70000) (w:World):Calls Tryz.prog 17 #[.string t] w (zf7 t w):=by
 have e33:(⟨#[33]⟩ : ByteArray).toList = [33]:=by rw[Lib.toList_data]
 obtain⟨nb,hnb⟩ : ∃ nb,nb=w.heap.size:=⟨_,rfl⟩
 obtain⟨w0,hW0⟩ : ∃ W,W=w.alloc (.cells #[] 34):=⟨_,rfl⟩
 have hw0:Below w.heap.size w w0:=by rw[hW0];exact za2 _ _
 by_cases h0:t=⟨#[33]⟩
 ·have k1:(t.toList == [33])=true:=by rw[← e33,Txt.eq_dec,decide_eq_true h0]
  clear e33
  have hpost:zf7 t w (.returned (.tuple #[.slice (some ⟨nb,0,none⟩) 0 0,.bool true])) w0:=⟨.inl ⟨_,rfl,.inl h0,by unfold rdV;rw[if_pos h0];exact zox (zov _ _)⟩,hw0⟩
  obtain⟨H0,Hw0,Hpost⟩:=hd3 h0 hw0 hpost;clear h0 hw0 hpost
  go_enter Tryz.func17,Tryz.ntmps17
  go_upto_region 2 with (fail)
  rw[← hW0,← hnb]
  clear hW0 hnb
  go_wp2_with fail
  go_ret2
  exact Hpost.out
 have k1:(t.toList == [33])=false:=by rw[← e33,Txt.eq_dec,decide_eq_false h0]
 clear e33
 obtain⟨ps,hps⟩ : ∃ ps,ps=cutS 44 t:=⟨_,rfl⟩
 have hC:=fun (W:World)=>zgr t (by omega) 44 (by omega) W
 rw[show UInt8.ofNat 44=(44:UInt8) from rfl,← hps] at hC
 have hpz:∀ p∈ps,p.size≤70000:=fun p hp=>by
  have:=zec (c:=44) (s:=t) (by rw[← hps];exact hp)
  omega
 have hp1:1≤ps.length∧ps.length≤70001:=by
  have:=zel 44 t.data.toList
  rw[hps,zbo,← Txt.len] at *
  omega
 have hnone:¬ Rd3 t→∀ W,Below w0.heap.size w0 W→zf7 t w (.returned (.tuple #[.slice (some ⟨nb,0,none⟩) 0 0,.bool false])) W:=fun h W hW=>⟨.inr ⟨_,rfl,h,zov _ _⟩,hw0.trans (hW.mono hw0.size)⟩
 have hB:w.heap.size≤w0.heap.size:=hw0.size
 obtain⟨H0,Hw0,Hps,HC,Hpz,Hp1,Hnone⟩:=hd7 h0 hw0 hps hC hpz hp1 hnone;clear h0 hw0 hps hC hpz hp1 hnone
 go_enter Tryz.func17,Tryz.ntmps17
 go_upto_region 2 with (fail)
 rw[← hW0,← hnb]
 clear hW0 hnb
 go_wp2_with fail
 refine (HC.out w0).mono ?_
 rintro e w1 ⟨v,rfl,hown,hb1⟩
 obtain⟨a,cap,rfl⟩:=zai hown
 have hat:∀ i (hi:i < ps.length),∃ b off,a=some ⟨b,off,none⟩∧w1.cell? ⟨b,off+i,none⟩=some (.string ps[i]):=fun i hi=>by
  obtain⟨a',cap',hv,_,hg⟩:=txts_open (own_texts hown (fun x hx=>by have:=Hpz.out x hx;unfold maxLen;omega))
  injection hv with h1 _ _
  subst h1
  obtain⟨b,off,e1,e2,_⟩:=hg i hi
  exact⟨b,off,e1,e2⟩
 obtain⟨n,hn⟩ : ∃ n,n=ps.length:=⟨_,rfl⟩
 rw[← hn] at hown ⊢
 have hn1:1≤n∧n≤70001:=by rw[hn];exact Hp1.out
 have hst:(w1.alloc (.cells #[] 34)).ownsRow w1.heap.size 34 2 (.slice (some ⟨w1.heap.size,0,none⟩) 0 0) 0 (zfm (ps.take 0)):=zim (Nat.le_refl _)
 have hb2:=hb1.alloc hb1.size (.cells #[] 34)
 obtain⟨Hown,Hb1,Hn,Hat,Hst,Hb2⟩:=hd6 hown hb1 hn hat hst hb2;clear hown hb1 hn hat hst hb2
 go_wp2_with fail
 go_loopw [6,21] (fun v i wr=>∃ k:Nat,k≤n∧i = .int .i64 k∧wr.ownsRow w1.heap.size 34 2 v k (zfm (ps.take k))∧(∀ p∈ps.take k,spOk p.data.toList=true)∧Below w1.heap.size w1 wr) (fun _ i _=>n - (RowKit.intOf i).toNat)
 case atStart=>exact⟨0,Nat.zero_le _,rfl,Hst.out,(fun p hp=>by simp at hp),za2 _ _⟩
 case round =>
  obtain⟨k,hk,rfl,hrow,hok,hbr1⟩:=hrel
  have hbr:=Hb1.out.trans (hbr1.mono Hb1.out.size)
  obtain⟨ra,rc,rfl⟩:=zai hrow
  by_cases hlt:k < n
  ·have hkl:k < ps.length:=by have:=Hn.out;omega
   obtain⟨p,hp⟩ : ∃ p,p=ps[k]:=⟨_,rfl⟩
   obtain⟨b,off,rfl,c0⟩:=Hat.out k hkl
   have d0:=cell_later hbr1 c0
   rw[← hp] at d0
   have hpm:p∈ps:=by rw[hp];exact List.getElem_mem _
   have hps2:=Hpz.out p hpm
   have hR:=znm p (by omega) wr
   unfold zfw at hR
   have hrf:=rfOk_is p
   have hnx:=zql hkl
   rw[← hp] at hnx
   obtain⟨r,hr⟩ : ∃ b,b=spOk p.data.toList:=⟨_,rfl⟩
   rw[hrf.1,← hr] at hR
   have k5:(0:Int)≤(k:Int):=by omega
   have k6:(k:Int) < (n:Int):=by omega
   clear c0
   cases r with
   | false =>
    have hno:¬ Rd3 t:=by
     rintro (h | h)
     ·exact H0.out h
     have:=h.1 p (by rw[← Hps.out];exact hpm)
     rw[← hr] at this
     cases this
    obtain⟨Hrow,Hok,Hbr,Hbr1,Hp,Hpm,Hps2,HR,Hrf,Hnx,Hr,Hno⟩:=hd12 hrow hok hbr hbr1 hp hpm hps2 hR hrf hnx hr hno;clear hrow hok hbr hbr1 hp hpm hps2 hR hrf hnx hr hno
    go_wp2_with fail
    refine HR.out.mono ?_
    rintro e w5 ⟨x,y,rfl,_,hb5⟩
    have hbw:=Hbr.out.trans (hb5.mono Hbr.out.size)
    have hbw2:=hbw.alloc hbw.size (.cells #[.string x,.string y] 34)
    obtain⟨Hb5,Hbw,Hbw2⟩:=hd3 hb5 hbw hbw2;clear hb5 hbw hbw2
    go_wp2_with fail
    go_ret2
    exact Hnone.out Hno.out _ Hbw2.out
   | true =>
    have hok2:∀ q∈ps.take (k+1),spOk q.data.toList=true:=fun q hq=>by
     rw[List.take_succ_eq_append_getElem hkl] at hq
     rcases List.mem_append.1 hq with hq | hq
     ·exact hok q hq
     rw[List.mem_singleton.1 hq,← hp];exact hr.symm
    have hrfB:=hrf.2 hr.symm
    obtain⟨N,hN⟩ : ∃ N,N=zfm (ps.take k):=⟨_,rfl⟩
    rw[← hN] at hrow hnx
    obtain⟨Hrow,Hok,Hbr,Hbr1,Hp,Hpm,Hps2,HR,Hrf,Hnx,Hr,Hok2,HrfB,HN⟩:=hd14 hrow hok hbr hbr1 hp hpm hps2 hR hrf hnx hr hok2 hrfB hN;clear hrow hok hbr hbr1 hp hpm hps2 hR hrf hnx hr hok2 hrfB hN
    go_wp2_with fail
    refine HR.out.mono ?_
    rintro e w5 ⟨x,y,rfl,hxy,hb5⟩
    have hxy:=(hxy trivial).trans HrfB.out
    have hnx2:=Hnx.out
    rw[← hxy] at hnx2
    have hbw1:=Hbr1.out.trans (hb5.mono Hbr1.out.size)
    have hrow5:=zae (zae Hrow.out hb5) (za2 w5 (.cells #[.string x,.string y] 34))
    have hbw3:=hbw1.alloc hbw1.size (.cells #[.string x,.string y] 34)
    obtain⟨z0,z1,z2,z3⟩:=za1 (heap_alloc_new w5 (.cells #[.string x,.string y] 34))
    obtain⟨w6,hw6⟩ : ∃ W,W=w5.alloc (.cells #[.string x,.string y] 34):=⟨_,rfl⟩
    rw[← hw6] at hrow5 hbw3 z0 z1 z2 z3
    have hz6:=hbw3.size
    obtain⟨Hb5,Hbw1,Hbw3,Hxy,Hnx2,Hrow5⟩:=hd6 hb5 hbw1 hbw3 hxy hnx2 hrow5;clear hb5 hbw1 hbw3 hxy hnx2 hrow5
    go_upto_region 10 with (fail)
    rw[← hw6]
    clear hw6
    go_wp2_with (at_builtin;(refine zaw zcf rfl (.tmp 35) (.tmp 37) rfl w1.heap.size (.slice ra k rc) k N rfl Hrow5.out 1 #[.string x,.string y] rfl rfl (by simp[Value.oneCell']) (by omega) (by unfold maxLen;omega) (by omega) ?_;intro v9 w9 hown9 hg9 hm9;obtain⟨a9,c9,rfl⟩:=zai hown9;have hb9:=(zbt Hbw3.out Hrow5.out (Nat.le_refl _) hg9 (by omega):Below w1.heap.size w1 w9);obtain⟨Hown9,Hb9⟩:=hd2 hown9 hb9;clear hown9 hg9 hm9 hb9))
    go_roundw
    case rel=>exact⟨k+1,by omega,by go_num,by rw[Hnx2.out];exact Hown9.out,Hok2.out,Hb9.out⟩
    case measure=>(simp[RowKit.intOf]) <;> omega
  obtain rfl:k=n:=by omega
  rw[List.take_of_length_le (Nat.le_of_eq Hn.out.symm)] at hrow hok
  by_cases h40:40 < k
  ·have kk:decide ((40:Int) < (k:Int))=true:=decide_eq_true (by omega)
   have hno:¬ Rd3 t:=by
    rintro (h | ⟨_,h⟩)
    ·exact H0.out h
    obtain⟨l,hl⟩:=rd_ok t (by rw[← Hps.out];exact hok)
    have:=((zm0 H0.out (by rw[← Hps.out];exact hok)).1 (h l hl)).1
    rw[← Hps.out,← Hn.out] at this
    omega
   obtain⟨Hrow,Hok,Hbr,Hbr1,Hno⟩:=hd5 hrow hok hbr hbr1 hno;clear hrow hok hbr hbr1 hno
   go_wp2_with fail
   go_ret2
   exact Hnone.out Hno.out _ Hbr.out
  have kk:decide ((40:Int) < (k:Int))=false:=decide_eq_false (by omega)
  obtain⟨l,hl⟩:=rd_ok t (by rw[← Hps.out];exact hok)
  have hlr:tB l=ps.map spV:=by rw[hl,Hps.out];rfl
  have hll:(tB l).length=k:=by rw[hlr,List.length_map];exact Hn.out.symm
  rw[zib,← hlr] at hrow
  have hrd:RSps wr [.slice ra k rc] (tB l):=zdn (fun x hx=>by have:=zev l x hx;unfold maxLen;omega) (by rw[hll];exact hrow)
  have hty:=zgb hrow
  have hF:=znp hrd (by rw[List.length_map] at hll;omega)
  unfold zg5 at hF
  obtain⟨f,hf⟩ : ∃ b,b=zbv l:=⟨_,rfl⟩
  obtain⟨q,hq⟩ : ∃ q,q=(zcr l).length:=⟨_,rfl⟩
  rw[← hf,← hq] at hF
  have hone:=zm0 (l:=l) H0.out (by rw[← Hps.out];exact hok)
  have hiff:Rd3 t↔(f=true∧zj9 (zcr l)=t):=by
   rw[hf]
   constructor
   ·rintro (h | ⟨_,h⟩)
    ·exact absurd h H0.out
    have:=hone.1 (h l hl)
    exact this.2
   intro h
   refine .inr ⟨by rw[← Hps.out];exact hok,fun l' hl'=>?_⟩
   have:l'=l:=by
    have e:tB l'=tB l:=by rw[hl',hl]
    exact (List.map_inj_right fun _ _ e=>Subtype.ext e).1 e
   rw[this]
   exact hone.2 ⟨by rw[← Hps.out,← Hn.out];omega,h⟩
  have hv:rdV t=tB l:=by unfold rdV;rw[if_neg H0.out,hl]
  cases f with
  | false =>
   have hno:¬ Rd3 t:=fun h=>by have:=(hiff.1 h).1;cases this
   obtain⟨Hrow,Hok,Hbr,Hbr1,Hno,HF,Hrd,Hf,Hty⟩:=hd9 hrow hok hbr hbr1 hno hF hrd hf hty;clear hrow hok hbr hbr1 hno hF hrd hf hty
   go_wp2_with fail
   refine HF.out.mono ?_
   rintro e w5 ⟨o,rfl,_,hb5⟩
   have hbw:=Hbr.out.trans (hb5.mono Hbr.out.size)
   obtain⟨Hb5,Hbw⟩:=hd2 hb5 hbw;clear hb5 hbw
   go_wp2_with fail
   go_ret2
   exact Hnone.out Hno.out _ Hbw.out
  | true =>
   obtain⟨Hrow,Hok,Hbr,Hbr1,HF,Hrd,Hf,Hiff,Hv,Hq,Hty⟩:=hd11 hrow hok hbr hbr1 hF hrd hf hiff hv hq hty;clear hrow hok hbr hbr1 hF hrd hf hiff hv hq hty
   go_wp2_with fail
   refine HF.out.mono ?_
   rintro e w5 ⟨o,rfl,ho,hb5⟩
   have ho:=ho trivial
   have hbw:=Hbr.out.trans (hb5.mono Hbr.out.size)
   have hrdF:RSps w5 [o] (zcr l):=zdn (fun x hx=>by have:=zfs l x hx;unfold maxLen;omega) (by rw[← Hq.out];exact ho)
   have hfo:zbv l=true:=Hf.out.symm
   have hT:=zly hrdF (zfs l) (zfi.2 (zl3 (zfh.1 hfo).1).1.1) (by have:=(zfh.1 hfo).2;omega)
   obtain⟨oa,oc,rfl⟩:=zai ho
   obtain⟨T,hTT⟩ : ∃ T,T=zj9 (zcr l):=⟨_,rfl⟩
   rw[← hTT] at hT
   have hrd5:=zaf zc7 _ _ _ _ Hrd.out hb5
   by_cases hTt:T=t
   ·have kT:(T.toList == t.toList)=true:=by rw[Txt.eq_dec,decide_eq_true hTt]
    have hyes:Rd3 t:=Hiff.out.2 ⟨by first | rfl | trivial,by rw[← hTT];exact hTt⟩
    obtain⟨Ho,Hb5,Hbw,HrdF,HT,HTT,Hrd5,HTt,Hyes⟩:=hd9 ho hb5 hbw hrdF hT hTT hrd5 hTt hyes;clear ho hb5 hbw hrdF hT hTT hrd5 hTt hyes
    go_wp2_with fail
    refine HT.out.mono ?_
    rintro e w6 ⟨rfl,hb6⟩
    have hbw2:=Hbw.out.trans (hb6.mono Hbw.out.size)
    have hrd6:=zaf zc7 _ _ _ _ Hrd5.out hb6
    obtain⟨Hb6,Hbw2,Hrd6⟩:=hd3 hb6 hbw2 hrd6;clear hb6 hbw2 hrd6
    go_wp2_with fail
    go_ret2
    exact⟨.inl ⟨_,rfl,Hyes.out,by rw[Hv.out];exact⟨Hrd6.out,fun _ k hk=>by obtain⟨cs,fr,h⟩:=Hty.out k hk;exact⟨cs,fr,za0 Hb6.out (za0 Hb5.out h)⟩⟩⟩,Hw0.out.trans (Hbw2.out.mono Hw0.out.size)⟩
   have kT:(T.toList == t.toList)=false:=by rw[Txt.eq_dec,decide_eq_false hTt]
   have hno:¬ Rd3 t:=fun h=>hTt (by rw[hTT];exact (Hiff.out.1 h).2)
   obtain⟨Ho,Hb5,Hbw,HrdF,HT,HTT,Hrd5,HTt,Hno⟩:=hd9 ho hb5 hbw hrdF hT hTT hrd5 hTt hno;clear ho hb5 hbw hrdF hT hTT hrd5 hTt hno
   go_wp2_with fail
   refine HT.out.mono ?_
   rintro e w6 ⟨rfl,hb6⟩
   have hbw2:=Hbw.out.trans (hb6.mono Hbw.out.size)
   obtain⟨Hb6,Hbw2⟩:=hd2 hb6 hbw2;clear hb6 hbw2
   go_wp2_with fail
   go_ret2
   exact Hnone.out Hno.out _ Hbw2.out
end

namespace VarM
def letN (n:Nat):Bool:=decide (97≤n) && decide (n≤122)
def digN (n:Nat):Bool:=decide (48≤n) && decide (n≤57)
def okN (n:Nat):Bool:=letN n || digN n || decide (n=45)
abbrev Bs:=List UInt8
def okB (c:UInt8):Bool:=okN c.toNat
def digB (c:UInt8):Bool:=digN c.toNat
def zjd (l:Bs):Nat:=(l.headD 0).toNat
def zbu (l:Bs):Bool:=l.all okB && (decide (0 < l.length) && (decide (l.length≤24) && letN (zjd l)))
def zhf (l:Bs):Bool:=l.all digB && decide (0 < l.length)
def zcw (l:Bs):Bool:=zbu l || (zhf l && decide (l.length≤3))
theorem all_succ {p:UInt8→Bool} {l:Bs} {k:Nat} (h:k < l.length) (h1:(l.take k).all p=true) (h2:p l[k]=true):(l.take (k+1)).all p=true:=by
 rw[List.take_succ_eq_append_getElem h,List.all_append,h1];simp[h2]
theorem all_no {p:UInt8→Bool} {l:Bs} {k:Nat} (h:k < l.length) (h2:p l[k]=false):l.all p=false:=by
 rw[Bool.eq_false_iff];intro h3
 have:=List.all_eq_true.1 h3 _ (List.getElem_mem h)
 rw[h2] at this;cases this
theorem name_no {l:Bs} (h:l.all okB=false):zbu l=false:=by unfold zbu;rw[h];rfl
theorem name_all {l:Bs} (h:l.all okB=true):zbu l=(decide (0 < l.length) && (decide (l.length≤24) && letN (zjd l))):=by unfold zbu;rw[h];rfl
theorem name_pos {l:Bs} (h:zbu l=true):0 < l.length∧l.length≤24:=by
 unfold zbu at h
 simp only[Bool.and_eq_true,decide_eq_true_eq] at h
 exact⟨h.2.1,h.2.2.1⟩
theorem okN_let {n:Nat} (h:letN n=true):okN n=true:=by unfold okN;rw[h];rfl
theorem okN_dig {n:Nat} (h:digN n=true):okN n=true:=by unfold okN;rw[h];simp
theorem okN_no {n:Nat} (h1:letN n=false) (h2:digN n=false) (h3:n≠45):okN n=false:=by unfold okN;rw[h1,h2];simp[h3]
theorem name_head {l:Bs} (h:letN (zjd l)=false):zbu l=false:=by unfold zbu;rw[h];simp
end VarM

section
open Go.RowKit
open VarM (letN digN okN okB digB zbu zcw zhf zjd)
theorem dl (s:ByteArray):s.data.toList.length=s.size:=by rw[Array.length_toList];rfl
theorem zjr (n:Nat) (h:n < 256) (w:World):Calls Tryz.prog 186 #[.int .u8 (n:Int)] w fun e w'=>e = .returned (.bool (letN n))∧w=w':=by
 obtain⟨r,hr⟩ : ∃ r,r=letN n:=⟨_,rfl⟩
 rw[← hr]
 rcases Nat.lt_or_ge n 97 with h1 | h1
 ·have hf:r=false:=by rw[hr];unfold letN;rw[decide_eq_false (by omega)];rfl
  obtain⟨Hr,Hf⟩:=hd2 hr hf;clear hr hf
  go_enter Tryz.func186,Tryz.ntmps186
  go_wp2_with fail
  go_ret
  exact⟨zad Hf.out.symm,rfl⟩
 rcases Nat.lt_or_ge 122 n with h2 | h2
 ·have hf:r=false:=by rw[hr];unfold letN;rw[decide_eq_false (p:=n≤122) (by omega)];simp
  have k2:decide ((n:Int)≤122)=false:=by simp;omega
  obtain⟨Hr,Hf⟩:=hd2 hr hf;clear hr hf
  go_enter Tryz.func186,Tryz.ntmps186
  go_wp2_with fail
  go_ret
  exact⟨zad Hf.out.symm,rfl⟩
 have hf:r=true:=by rw[hr];unfold letN;rw[decide_eq_true h1,decide_eq_true h2];rfl
 have k2:decide ((n:Int)≤122)=true:=by simp;omega
 obtain⟨Hr,Hf⟩:=hd2 hr hf;clear hr hf
 go_enter Tryz.func186,Tryz.ntmps186
 go_wp2_with fail
 go_ret
 exact⟨zad Hf.out.symm,rfl⟩
theorem zmr (n:Nat) (h:n < 256) (w:World):Calls Tryz.prog 187 #[.int .u8 (n:Int)] w fun e w'=>e = .returned (.bool (digN n))∧w=w':=by
 obtain⟨r,hr⟩ : ∃ r,r=digN n:=⟨_,rfl⟩
 rw[← hr]
 rcases Nat.lt_or_ge n 48 with h1 | h1
 ·have hf:r=false:=by rw[hr];unfold digN;rw[decide_eq_false (by omega)];rfl
  obtain⟨Hr,Hf⟩:=hd2 hr hf;clear hr hf
  go_enter Tryz.func187,Tryz.ntmps187
  go_wp2_with fail
  go_ret
  exact⟨zad Hf.out.symm,rfl⟩
 rcases Nat.lt_or_ge 57 n with h2 | h2
 ·have hf:r=false:=by rw[hr];unfold digN;rw[decide_eq_false (p:=n≤57) (by omega)];simp
  have k2:decide ((n:Int)≤57)=false:=by simp;omega
  obtain⟨Hr,Hf⟩:=hd2 hr hf;clear hr hf
  go_enter Tryz.func187,Tryz.ntmps187
  go_wp2_with fail
  go_ret
  exact⟨zad Hf.out.symm,rfl⟩
 have hf:r=true:=by rw[hr];unfold digN;rw[decide_eq_true h1,decide_eq_true h2];rfl
 have k2:decide ((n:Int)≤57)=true:=by simp;omega
 obtain⟨Hr,Hf⟩:=hd2 hr hf;clear hr hf
 go_enter Tryz.func187,Tryz.ntmps187
 go_wp2_with fail
 go_ret
 exact⟨zad Hf.out.symm,rfl⟩
theorem head_is (s:ByteArray) (h:0 < s.size):zjd s.data.toList=s[0].toNat:=by
 unfold zjd
 have e:s.data.toList=s[0] :: s.data.toList.drop 1:=by
  have:=List.drop_eq_getElem_cons (l:=s.data.toList) (i:=0) (by rw[dl];exact h)
  rw[List.drop_zero] at this
  exact this
 rw[e];rfl
theorem zkq (s:ByteArray) (hs:s.size≤9223372036854775807) (w:World):Calls Tryz.prog 153 #[.string s] w fun e w'=>e = .returned (.bool (zbu s.data.toList))∧w=w':=by
 obtain⟨l,hl⟩ : ∃ l,l=s.data.toList:=⟨_,rfl⟩
 have hln:l.length=s.size:=by rw[hl];exact dl s
 obtain⟨r,hr⟩ : ∃ r,r=zbu l:=⟨_,rfl⟩
 rw[← hl,← hr]
 have hh:=head_is s
 rw[← hl] at hh
 obtain⟨Hl,Hln,Hr,Hh⟩:=hd4 hl hln hr hh;clear hl hln hr hh
 go_enter Tryz.func153,Tryz.ntmps153
 go_wp2_with fail
 go_loop [6] (fun i=>∃ k:Nat,k≤s.size∧i = .int .i64 k∧(l.take k).all okB=true) (fun i=>s.size - (intOf i).toNat)
 case atStart=>exact⟨0,Nat.zero_le _,rfl,by simp⟩
 case round =>
  obtain⟨k,hk,rfl,hall⟩:=hrel
  by_cases hlt:k < s.size
  ·have hkl:k < l.length:=by have:=Hln.out;omega
   obtain⟨n,hn⟩ : ∃ n,n=s[k].toNat:=⟨_,rfl⟩
   have hn256:n < 256:=by rw[hn];exact s[k].toNat_lt
   have hck:okB l[k]=okN n:=by
    have e:l[k]=s[k]:=by simp only[Hl.out];rfl
    unfold okB
    rw[e,hn]
   have hL:=fun W=>zjr n hn256 W
   have hD:=fun W=>zmr n hn256 W
   have hsk:s[k].toNat=n:=hn.symm
   have hyes:okN n=true→(l.take (k+1)).all okB=true:=fun h=>VarM.all_succ hkl hall (by rw[hck];exact h)
   have hno:okN n=false→r=false:=fun h=>by rw[Hr.out];exact VarM.name_no (VarM.all_no hkl (by rw[hck];exact h))
   clear hn hck
   clear hkl
   cases h1:letN n with
   | true =>
    have hnext:=hyes (VarM.okN_let h1)
    rw[h1] at hL
    obtain⟨Hall,HL,HD,Hyes,Hno,Hnext,H1⟩:=hd7 hall hL hD hyes hno hnext h1;clear hall hL hD hyes hno hnext h1
    go_wp2_with fail
    refine (HL.out _).mono ?_
    rintro e w1 ⟨rfl,rfl⟩
    go_wp2_with fail
    go_round
    case rel=>exact⟨k+1,by omega,by go_num,Hnext.out⟩
    case measure=>simp[intOf];omega
   | false =>
    rw[h1] at hL
    cases h2:digN n with
    | true =>
     have hnext:=hyes (VarM.okN_dig h2)
     rw[h2] at hD
     obtain⟨Hall,HL,HD,Hyes,Hno,Hnext,H1,H2⟩:=hd8 hall hL hD hyes hno hnext h1 h2;clear hall hL hD hyes hno hnext h1 h2
     go_wp2_with fail
     refine (HL.out _).mono ?_
     rintro e w1 ⟨rfl,rfl⟩
     go_wp2_with fail
     refine (HD.out _).mono ?_
     rintro e w1 ⟨rfl,rfl⟩
     go_wp2_with fail
     go_round
     case rel=>exact⟨k+1,by omega,by go_num,Hnext.out⟩
     case measure=>simp[intOf];omega
    | false =>
     rw[h2] at hD
     by_cases h3:n=45
     ·have hnext:=hyes (by unfold okN;simp[h3])
      have e3:((n:Int) != 45)=false:=by rw[h3];rfl
      obtain⟨Hall,HL,HD,Hyes,Hno,Hnext,H1,H2,H3⟩:=hd9 hall hL hD hyes hno hnext h1 h2 h3;clear hall hL hD hyes hno hnext h1 h2 h3
      go_wp2_with fail
      refine (HL.out _).mono ?_
      rintro e w1 ⟨rfl,rfl⟩
      go_wp2_with fail
      refine (HD.out _).mono ?_
      rintro e w1 ⟨rfl,rfl⟩
      go_wp2_with fail
      go_round
      case rel=>exact⟨k+1,by omega,by go_num,Hnext.out⟩
      case measure=>simp[intOf];omega
     have hf:=hno (VarM.okN_no h1 h2 h3)
     have e3:((n:Int) != 45)=true:=by rw[bne_iff_ne];omega
     obtain⟨Hall,HL,HD,Hyes,Hno,Hf,H1,H2,H3⟩:=hd9 hall hL hD hyes hno hf h1 h2 h3;clear hall hL hD hyes hno hf h1 h2 h3
     go_wp2_with fail
     refine (HL.out _).mono ?_
     rintro e w1 ⟨rfl,rfl⟩
     go_wp2_with fail
     refine (HD.out _).mono ?_
     rintro e w1 ⟨rfl,rfl⟩
     go_wp2_with fail
     go_ret
     exact⟨zad Hf.out.symm,rfl⟩
  obtain rfl:k=s.size:=by omega
  have hall2:l.all okB=true:=by rw[List.take_of_length_le (by have:=Hln.out;omega)] at hall;exact hall
  have hrr:r=(decide (0 < s.size) && (decide (s.size≤24) && letN (zjd l))):=by rw[Hr.out,VarM.name_all hall2,Hln.out]
  by_cases h0:0 < s.size
  ·by_cases h24:s.size≤24
   ·have hf:r=letN (zjd l):=by rw[hrr,decide_eq_true h0,decide_eq_true h24];rfl
    rw[Hh.out h0] at hf
    obtain⟨n,hn⟩ : ∃ n,n=s[0].toNat:=⟨_,rfl⟩
    have hn256:n < 256:=by rw[hn];exact s[0].toNat_lt
    have hL:=fun W=>zjr n hn256 W
    rw[← hn] at hf
    rw[← hf] at hL
    have hsk:s[0].toNat=n:=hn.symm
    have k1:(0:Int) < (s.size:Int):=by omega
    have k2:(s.size:Int)≤24:=by omega
    have k3:decide ((s.size:Int)≤24)=true:=by simpa using k2
    clear hn
    obtain⟨Hall,Hall2,Hrr,Hf,HL⟩:=hd5 hall hall2 hrr hf hL;clear hall hall2 hrr hf hL
    go_wp2_with fail
    refine (HL.out _).mono ?_
    rintro e w1 ⟨rfl,rfl⟩
    go_wp2_with fail
    go_ret
    exact⟨rfl,rfl⟩
   have hf:r=false:=by rw[hrr,decide_eq_false h24];simp
   have k2:(24:Int) < (s.size:Int):=by omega
   have k3:decide ((s.size:Int)≤24)=false:=by simpa using k2
   obtain⟨Hall,Hall2,Hrr,Hf⟩:=hd4 hall hall2 hrr hf;clear hall hall2 hrr hf
   go_wp2_with fail
   go_ret
   exact⟨zad Hf.out.symm,rfl⟩
  have hf:r=false:=by rw[hrr,decide_eq_false h0];rfl
  have k2:s.size≤0:=by omega
  have k3:decide (0 < (s.size:Int))=false:=decide_eq_false (by omega)
  obtain⟨Hall,Hall2,Hrr,Hf⟩:=hd4 hall hall2 hrr hf;clear hall hall2 hrr hf
  go_wp2_with fail
  go_ret
  exact⟨zad Hf.out.symm,rfl⟩
theorem value_any (s:ByteArray) (hs:s.size≤9223372036854775807) (w:World):Calls Tryz.prog 189 #[.string s] w fun e w'=>e = .returned (.bool (zcw s.data.toList))∧w=w':=by
 have hN:=fun W=>zkq s hs W
 obtain⟨l,hl⟩ : ∃ l,l=s.data.toList:=⟨_,rfl⟩
 have hln:l.length=s.size:=by rw[hl];exact dl s
 obtain⟨r,hr⟩ : ∃ r,r=zcw l:=⟨_,rfl⟩
 rw[← hl] at hN
 rw[← hl,← hr]
 cases hq:zbu l with
 | true =>
  rw[hq] at hN
  have hf:r=true:=by rw[hr];unfold zcw;rw[hq];rfl
  obtain⟨Hl,Hln,Hr,HN,Hf,Hq⟩:=hd6 hl hln hr hN hf hq;clear hl hln hr hN hf hq
  go_enter Tryz.func189,Tryz.ntmps189
  go_wp2_with fail
  refine (HN.out _).mono ?_
  rintro e w1 ⟨rfl,rfl⟩
  go_wp2_with fail
  go_ret
  exact⟨zad Hf.out.symm,rfl⟩
 | false =>
  rw[hq] at hN
  have hv:r=(l.all digB && decide (0 < l.length) && decide (l.length≤3)):=by rw[hr];unfold zcw zhf;rw[hq];rfl
  obtain⟨Hl,Hln,Hr,HN,Hv,Hq⟩:=hd6 hl hln hr hN hv hq;clear hl hln hr hN hv hq
  go_enter Tryz.func189,Tryz.ntmps189
  go_wp2_with fail
  refine (HN.out _).mono ?_
  rintro e w1 ⟨rfl,rfl⟩
  go_wp2_with fail
  go_loop [8] (fun i=>∃ k:Nat,k≤s.size∧i = .int .i64 k∧(l.take k).all digB=true) (fun i=>s.size - (intOf i).toNat)
  case atStart=>exact⟨0,Nat.zero_le _,rfl,by simp⟩
  case round =>
   obtain⟨k,hk,rfl,hall⟩:=hrel
   by_cases hlt:k < s.size
   ·have hkl:k < l.length:=by have:=Hln.out;omega
    obtain⟨n,hn⟩ : ∃ n,n=s[k].toNat:=⟨_,rfl⟩
    have hn256:n < 256:=by rw[hn];exact s[k].toNat_lt
    have hck:digB l[k]=digN n:=by
     have e:l[k]=s[k]:=by simp only[Hl.out];rfl
     unfold digB
     rw[e,hn]
    have hD:=fun W=>zmr n hn256 W
    have hsk:s[k].toNat=n:=hn.symm
    have hyes:digN n=true→(l.take (k+1)).all digB=true:=fun h=>VarM.all_succ hkl hall (by rw[hck];exact h)
    have hno:digN n=false→r=false:=fun h=>by rw[Hv.out,VarM.all_no hkl (by rw[hck];exact h)];rfl
    clear hn hck
    clear hkl
    cases h2:digN n with
    | true =>
     have hnext:=hyes h2
     rw[h2] at hD
     obtain⟨Hall,HD,Hyes,Hno,Hnext,H2⟩:=hd6 hall hD hyes hno hnext h2;clear hall hD hyes hno hnext h2
     go_wp2_with fail
     refine (HD.out _).mono ?_
     rintro e w1 ⟨rfl,rfl⟩
     go_wp2_with fail
     go_round
     case rel=>exact⟨k+1,by omega,by go_num,Hnext.out⟩
     case measure=>simp[intOf];omega
    | false =>
     have hf:=hno h2
     rw[h2] at hD
     obtain⟨Hall,HD,Hyes,Hno,Hf,H2⟩:=hd6 hall hD hyes hno hf h2;clear hall hD hyes hno hf h2
     go_wp2_with fail
     refine (HD.out _).mono ?_
     rintro e w1 ⟨rfl,rfl⟩
     go_wp2_with fail
     go_ret
     exact⟨zad Hf.out.symm,rfl⟩
   obtain rfl:k=s.size:=by omega
   have hall2:l.all digB=true:=by rw[List.take_of_length_le (by have:=Hln.out;omega)] at hall;exact hall
   have hrr:r=(decide (0 < s.size) && decide (s.size≤3)):=by rw[Hv.out,hall2,Hln.out];rfl
   by_cases h0:0 < s.size
   ·by_cases h3:s.size≤3
    ·have hf:r=true:=by rw[hrr,decide_eq_true h0,decide_eq_true h3];rfl
     have k1:(0:Int) < (s.size:Int):=by omega
     have k2:(s.size:Int)≤3:=by omega
     have k3:decide ((s.size:Int)≤3)=true:=by simpa using k2
     obtain⟨Hall,Hall2,Hrr,Hf⟩:=hd4 hall hall2 hrr hf;clear hall hall2 hrr hf
     go_wp2_with fail
     go_ret
     exact⟨zad Hf.out.symm,rfl⟩
    have hf:r=false:=by rw[hrr,decide_eq_false h3];simp
    have k2:(3:Int) < (s.size:Int):=by omega
    have k3:decide ((s.size:Int)≤3)=false:=by simpa using k2
    obtain⟨Hall,Hall2,Hrr,Hf⟩:=hd4 hall hall2 hrr hf;clear hall hall2 hrr hf
    go_wp2_with fail
    go_ret
    exact⟨zad Hf.out.symm,rfl⟩
   have hf:r=false:=by rw[hrr,decide_eq_false h0];rfl
   have k2:s.size≤0:=by omega
   have k3:decide (0 < (s.size:Int))=false:=decide_eq_false (by omega)
   obtain⟨Hall,Hall2,Hrr,Hf⟩:=hd4 hall hall2 hrr hf;clear hall hall2 hrr hf
   go_wp2_with fail
   go_ret
   exact⟨zad Hf.out.symm,rfl⟩
theorem empty_iff (s:ByteArray):s.toList = []↔s.size=0:=by
 rw[Lib.toList_data,← dl]
 exact List.length_eq_zero_iff.symm
theorem zrg (s:ByteArray) (hs:s.size≤9223372036854775807) (w:World):Calls Tryz.prog 204 #[.string s] w fun e w'=>e = .returned (.bool (zhf s.data.toList))∧w=w':=by
 obtain⟨l,hl⟩ : ∃ l,l=s.data.toList:=⟨_,rfl⟩
 have hln:l.length=s.size:=by rw[hl];exact dl s
 obtain⟨r,hr⟩ : ∃ r,r=zhf l:=⟨_,rfl⟩
 rw[← hl,← hr]
 have hv:r=(l.all digB && decide (0 < l.length)):=hr
 obtain⟨Hl,Hln,Hr,Hv⟩:=hd4 hl hln hr hv;clear hl hln hr hv
 go_enter Tryz.func204,Tryz.ntmps204
 go_wp2_with fail
 go_loop [3] (fun i=>∃ k:Nat,k≤s.size∧i = .int .i64 k∧(l.take k).all digB=true) (fun i=>s.size - (intOf i).toNat)
 case atStart=>exact⟨0,Nat.zero_le _,rfl,by simp⟩
 case round =>
  obtain⟨k,hk,rfl,hall⟩:=hrel
  by_cases hlt:k < s.size
  ·have hkl:k < l.length:=by have:=Hln.out;omega
   obtain⟨n,hn⟩ : ∃ n,n=s[k].toNat:=⟨_,rfl⟩
   have hn256:n < 256:=by rw[hn];exact s[k].toNat_lt
   have hck:digB l[k]=digN n:=by
    have e:l[k]=s[k]:=by simp only[Hl.out];rfl
    unfold digB
    rw[e,hn]
   have hsk:s[k].toNat=n:=hn.symm
   have hyes:digN n=true→(l.take (k+1)).all digB=true:=fun h=>VarM.all_succ hkl hall (by rw[hck];exact h)
   have hno:digN n=false→r=false:=fun h=>by rw[Hv.out,VarM.all_no hkl (by rw[hck];exact h)];rfl
   clear hn hck
   clear hkl
   rcases Nat.lt_or_ge n 48 with h1 | h1
   ·have hf:=hno (by unfold digN;rw[decide_eq_false (by omega)];rfl)
    have k1:decide ((n:Int) < 48)=true:=decide_eq_true (by omega)
    obtain⟨Hall,Hyes,Hno,Hf⟩:=hd4 hall hyes hno hf;clear hall hyes hno hf
    go_wp2_with fail
    go_ret
    exact⟨zad Hf.out.symm,rfl⟩
   rcases Nat.lt_or_ge 57 n with h2 | h2
   ·have hf:=hno (by unfold digN;rw[decide_eq_false (p:=n≤57) (by omega)];simp)
    have k1:decide ((n:Int) < 48)=false:=decide_eq_false (by omega)
    have k2:decide (57 < (n:Int))=true:=decide_eq_true (by omega)
    obtain⟨Hall,Hyes,Hno,Hf⟩:=hd4 hall hyes hno hf;clear hall hyes hno hf
    go_wp2_with fail
    go_ret
    exact⟨zad Hf.out.symm,rfl⟩
   have hnext:=hyes (by unfold digN;rw[decide_eq_true h1,decide_eq_true h2];rfl)
   have k1:decide ((n:Int) < 48)=false:=decide_eq_false (by omega)
   have k2:decide (57 < (n:Int))=false:=decide_eq_false (by omega)
   obtain⟨Hall,Hyes,Hno,Hnext⟩:=hd4 hall hyes hno hnext;clear hall hyes hno hnext
   go_wp2_with fail
   go_round
   case rel=>exact⟨k+1,by omega,by go_num,Hnext.out⟩
   case measure=>simp[intOf];omega
  obtain rfl:k=s.size:=by omega
  have hall2:l.all digB=true:=by rw[List.take_of_length_le (by have:=Hln.out;omega)] at hall;exact hall
  have hrr:r=decide (0 < s.size):=by rw[Hv.out,hall2,Hln.out];rfl
  by_cases h0:0 < s.size
  ·have hf:r=true:=by rw[hrr,decide_eq_true h0]
   have k1:s.toList.isEmpty=false:=by rw[Bool.eq_false_iff];intro h;rw[List.isEmpty_iff,empty_iff] at h;omega
   have k2:(!s.toList.isEmpty)=true:=by rw[k1];rfl
   have k3:¬ s.toList = []:=by rw[empty_iff];omega
   obtain⟨Hall,Hall2,Hrr,Hf⟩:=hd4 hall hall2 hrr hf;clear hall hall2 hrr hf
   go_wp2_with fail
   go_ret
   exact⟨zad Hf.out.symm,rfl⟩
  have hf:r=false:=by rw[hrr,decide_eq_false h0]
  have k3:s.toList = []:=by rw[empty_iff];omega
  have k1:s.toList.isEmpty=true:=by rw[k3];rfl
  obtain⟨Hall,Hall2,Hrr,Hf⟩:=hd4 hall hall2 hrr hf;clear hall hall2 hrr hf
  go_wp2_with fail
  go_ret
  exact⟨zad Hf.out.symm,rfl⟩
end

section
open Go.RowKit
open VarM (letN digN okN okB digB zbu zcw zhf zjd)
theorem zei (s:ByteArray) (hs:s.size≤9223372036854775807) (w:World):Calls Tryz.prog 139 #[.string s] w fun e w'=>e = .returned (.bool (zbu s.data.toList))∧w=w':=by
 obtain⟨l,hl⟩ : ∃ l,l=s.data.toList:=⟨_,rfl⟩
 have hln:l.length=s.size:=by rw[hl];exact dl s
 obtain⟨r,hr⟩ : ∃ r,r=zbu l:=⟨_,rfl⟩
 have hh:=head_is s
 rw[← hl] at hh
 have hlen:∀ (P:Prop),(zbu l=true→P)→(¬ P)→r=false:=fun P h hp=>by
  rw[hr,Bool.eq_false_iff];exact fun h2=>hp (h h2)
 rw[← hl,← hr]
 by_cases h0:0 < s.size
 ·have k3:¬ s.toList = []:=by rw[empty_iff];omega
  have k1:s.toList.isEmpty=false:=by rw[Bool.eq_false_iff];intro h;rw[List.isEmpty_iff,empty_iff] at h;omega
  by_cases h24:s.size≤24
  ·obtain⟨n,hn⟩ : ∃ n,n=s[0].toNat:=⟨_,rfl⟩
   have hn256:n < 256:=by rw[hn];exact s[0].toNat_lt
   have hsk0:s[0].toNat=n:=hn.symm
   have hhn:zjd l=n:=by rw[hh h0,hsk0]
   have k4:decide (24 < (s.size:Int))=false:=decide_eq_false (by omega)
   have hhead:letN n=false→r=false:=fun h=>by rw[hr];exact VarM.name_head (by rw[hhn];exact h)
   clear hn
   rcases Nat.lt_or_ge n 97 with h1 | h1
   ·have hf:=hhead (by unfold letN;rw[decide_eq_false (by omega)];rfl)
    have k5:decide ((n:Int) < 97)=true:=decide_eq_true (by omega)
    obtain⟨Hl,Hln,Hr,Hh,Hlen,Hhn,Hhead,Hf⟩:=hd8 hl hln hr hh hlen hhn hhead hf;clear hl hln hr hh hlen hhn hhead hf
    go_enter Tryz.func139,Tryz.ntmps139
    go_wp2_with fail
    go_ret
    exact⟨zad Hf.out.symm,rfl⟩
   have k5:decide ((n:Int) < 97)=false:=decide_eq_false (by omega)
   rcases Nat.lt_or_ge 122 n with h2 | h2
   ·have hf:=hhead (by unfold letN;rw[decide_eq_false (p:=n≤122) (by omega)];simp)
    have k6:decide (122 < (n:Int))=true:=decide_eq_true (by omega)
    obtain⟨Hl,Hln,Hr,Hh,Hlen,Hhn,Hhead,Hf⟩:=hd8 hl hln hr hh hlen hhn hhead hf;clear hl hln hr hh hlen hhn hhead hf
    go_enter Tryz.func139,Tryz.ntmps139
    go_wp2_with fail
    go_ret
    exact⟨zad Hf.out.symm,rfl⟩
   have k6:decide (122 < (n:Int))=false:=decide_eq_false (by omega)
   have hL:letN n=true:=by unfold letN;rw[decide_eq_true h1,decide_eq_true h2];rfl
   have hv:r=l.all okB:=by
    rw[hr];unfold zbu
    rw[hhn,hL,hln,decide_eq_true h0,decide_eq_true h24];simp
   obtain⟨Hl,Hln,Hr,Hh,Hlen,Hhn,Hhead,HL,Hv⟩:=hd9 hl hln hr hh hlen hhn hhead hL hv;clear hl hln hr hh hlen hhn hhead hL hv
   go_enter Tryz.func139,Tryz.ntmps139
   go_wp2_with fail
   clear k4 k5 k6 hsk0 h1 h2 hn256
   go_loop [3] (fun i=>∃ k:Nat,k≤s.size∧i = .int .i64 k∧(l.take k).all okB=true) (fun i=>s.size - (intOf i).toNat)
   case atStart=>exact⟨0,Nat.zero_le _,rfl,by simp⟩
   case round =>
    obtain⟨k,hk,rfl,hall⟩:=hrel
    by_cases hlt:k < s.size
    ·have hkl:k < l.length:=by have:=Hln.out;omega
     obtain⟨n,hn⟩ : ∃ n,n=s[k].toNat:=⟨_,rfl⟩
     have hn256:n < 256:=by rw[hn];exact s[k].toNat_lt
     have hck:okB l[k]=okN n:=by
      have e:l[k]=s[k]:=by simp only[Hl.out];rfl
      unfold okB
      rw[e,hn]
     have hsk:s[k].toNat=n:=hn.symm
     have hyes:okN n=true→(l.take (k+1)).all okB=true:=fun h=>VarM.all_succ hkl hall (by rw[hck];exact h)
     have hno:okN n=false→r=false:=fun h=>by rw[Hv.out];exact VarM.all_no hkl (by rw[hck];exact h)
     clear hn hck
     clear hkl
     have hcase:(97≤n∧n≤122)∨(48≤n∧n≤57)∨n=45∨(n < 45)∨(45 < n∧n < 48)∨(57 < n∧n < 97)∨122 < n:=by omega
     rcases hcase with⟨c1,c2⟩ | ⟨c1,c2⟩ | rfl | c1 | ⟨c1,c2⟩ | ⟨c1,c2⟩ | c1
     ·have hnext:=hyes (VarM.okN_let (by unfold letN;rw[decide_eq_true c1,decide_eq_true c2];rfl))
      have m1:decide (97≤(n:Int))=true:=decide_eq_true (by omega)
      have m2:decide ((n:Int)≤122)=true:=decide_eq_true (by omega)
      obtain⟨Hall,Hyes,Hno,Hnext⟩:=hd4 hall hyes hno hnext;clear hall hyes hno hnext
      go_wp2_with fail
      go_round
      case rel=>exact⟨k+1,by omega,by go_num,Hnext.out⟩
      case measure=>simp[intOf];omega
     ·have hnext:=hyes (VarM.okN_dig (by unfold digN;rw[decide_eq_true c1,decide_eq_true c2];rfl))
      have m1:decide (97≤(n:Int))=false:=decide_eq_false (by omega)
      have m3:decide (48≤(n:Int))=true:=decide_eq_true (by omega)
      have m4:decide ((n:Int)≤57)=true:=decide_eq_true (by omega)
      obtain⟨Hall,Hyes,Hno,Hnext⟩:=hd4 hall hyes hno hnext;clear hall hyes hno hnext
      go_wp2_with fail
      go_round
      case rel=>exact⟨k+1,by omega,by go_num,Hnext.out⟩
      case measure=>simp[intOf];omega
     ·have hnext:=hyes rfl
      obtain⟨Hall,Hyes,Hno,Hnext⟩:=hd4 hall hyes hno hnext;clear hall hyes hno hnext
      go_wp2_with fail
      go_round
      case rel=>exact⟨k+1,by omega,by go_num,Hnext.out⟩
      case measure=>simp[intOf];omega
     all_goals
      have hf:=hno (VarM.okN_no (by unfold letN;first | (rw[decide_eq_false (p:=97≤n) (by omega)];rfl) | (rw[decide_eq_false (p:=n≤122) (by omega)];simp)) (by unfold digN;first | (rw[decide_eq_false (p:=48≤n) (by omega)];rfl) | (rw[decide_eq_false (p:=n≤57) (by omega)];simp)) (by omega))
      have m5:((n:Int) == 45)=false:=by rw[beq_eq_false_iff_ne];omega
      first
       | (have m1:decide (97≤(n:Int))=false:=decide_eq_false (by omega))
       | (have m1:decide (97≤(n:Int))=true:=decide_eq_true (by omega))
      first
       | (have m2:decide ((n:Int)≤122)=true:=decide_eq_true (by omega))
       | (have m2:decide ((n:Int)≤122)=false:=decide_eq_false (by omega))
      first
       | (have m3:decide (48≤(n:Int))=true:=decide_eq_true (by omega))
       | (have m3:decide (48≤(n:Int))=false:=decide_eq_false (by omega))
      first
       | (have m4:decide ((n:Int)≤57)=true:=decide_eq_true (by omega))
       | (have m4:decide ((n:Int)≤57)=false:=decide_eq_false (by omega))
      obtain⟨Hall,Hyes,Hno,Hf⟩:=hd4 hall hyes hno hf;clear hall hyes hno hf
      go_wp2_with fail
      go_ret
      exact⟨zad Hf.out.symm,rfl⟩
    obtain rfl:k=s.size:=by omega
    have hall2:l.all okB=true:=by rw[List.take_of_length_le (by have:=Hln.out;omega)] at hall;exact hall
    have hf:r=true:=by rw[Hv.out,hall2]
    obtain⟨Hall,Hall2,Hf⟩:=hd3 hall hall2 hf;clear hall hall2 hf
    go_wp2_with fail
    go_ret
    exact⟨zad Hf.out.symm,rfl⟩
  have hf:=hlen (s.size≤24) (fun h=>by have:=(VarM.name_pos h).2;omega) h24
  have k2:(24:Int) < (s.size:Int):=by omega
  have k4:decide (24 < (s.size:Int))=true:=by simpa using k2
  obtain⟨Hl,Hln,Hr,Hh,Hlen,Hf⟩:=hd6 hl hln hr hh hlen hf;clear hl hln hr hh hlen hf
  go_enter Tryz.func139,Tryz.ntmps139
  go_wp2_with fail
  go_ret
  exact⟨zad Hf.out.symm,rfl⟩
 have hf:=hlen (0 < s.size) (fun h=>by have:=(VarM.name_pos h).1;omega) h0
 have k3:s.toList = []:=by rw[empty_iff];omega
 have k1:s.toList.isEmpty=true:=by rw[k3];rfl
 obtain⟨Hl,Hln,Hr,Hh,Hlen,Hf⟩:=hd6 hl hln hr hh hlen hf;clear hl hln hr hh hlen hf
 go_enter Tryz.func139,Tryz.ntmps139
 go_wp2_with fail
 go_ret
 exact⟨zad Hf.out.symm,rfl⟩
theorem zli (s:ByteArray) (hs:s.size≤9223372036854775807) (w:World):Calls Tryz.prog 210 #[.string s] w fun e w'=>e = .returned (.bool (zcw s.data.toList))∧w=w':=by
 have hN:=fun W=>zei s hs W
 have hD:=fun W=>zrg s hs W
 obtain⟨l,hl⟩ : ∃ l,l=s.data.toList:=⟨_,rfl⟩
 have hln:l.length=s.size:=by rw[hl];exact dl s
 obtain⟨r,hr⟩ : ∃ r,r=zcw l:=⟨_,rfl⟩
 rw[← hl] at hN hD
 rw[← hl,← hr]
 cases hq:zbu l with
 | true =>
  rw[hq] at hN
  have hf:r=true:=by rw[hr];unfold zcw;rw[hq];rfl
  obtain⟨Hl,Hln,Hr,HN,HD,Hf,Hq⟩:=hd7 hl hln hr hN hD hf hq;clear hl hln hr hN hD hf hq
  go_enter Tryz.func210,Tryz.ntmps210
  go_wp2_with fail
  refine (HN.out _).mono ?_
  rintro e w1 ⟨rfl,rfl⟩
  go_wp2_with fail
  go_ret
  exact⟨zad Hf.out.symm,rfl⟩
 | false =>
  rw[hq] at hN
  have hv:r=(zhf l && decide (s.size≤3)):=by rw[hr];unfold zcw;rw[hq,hln];rfl
  cases hd:zhf l with
  | false =>
   have hf:r=false:=by rw[hv,hd];rfl
   rw[hd] at hD
   obtain⟨Hl,Hln,Hr,HN,HD,Hv,Hq,Hf,Hd⟩:=hd9 hl hln hr hN hD hv hq hf hd;clear hl hln hr hN hD hv hq hf hd
   go_enter Tryz.func210,Tryz.ntmps210
   go_wp2_with fail
   refine (HN.out _).mono ?_
   rintro e w1 ⟨rfl,rfl⟩
   go_wp2_with fail
   refine (HD.out _).mono ?_
   rintro e w1 ⟨rfl,rfl⟩
   go_wp2_with fail
   go_ret
   exact⟨zad Hf.out.symm,rfl⟩
  | true =>
   rw[hd] at hD
   have hf:r=decide (s.size≤3):=by rw[hv,hd];rfl
   obtain⟨Hl,Hln,Hr,HN,HD,Hv,Hq,Hf,Hd⟩:=hd9 hl hln hr hN hD hv hq hf hd;clear hl hln hr hN hD hv hq hf hd
   go_enter Tryz.func210,Tryz.ntmps210
   go_wp2_with fail
   refine (HN.out _).mono ?_
   rintro e w1 ⟨rfl,rfl⟩
   go_wp2_with fail
   refine (HD.out _).mono ?_
   rintro e w1 ⟨rfl,rfl⟩
   go_wp2_with fail
   go_ret
   exact⟨zad (by rw[Hf.out,decide_eq_decide];omega),rfl⟩
end

section
open Go.RowKit Go.Shelf VarM
attribute [local go_sem ↓] Go.wp_at_zero Go.wp_at_succ
theorem zdw {P:Program} {f:FuncId} {args:Array Value} {w:World} {n:Nat} {v:Value}
  (h:Calls P f args (w.drewN n) fun e w'=>e = .returned v∧∃ q,w'=(w.drewN n).drewN q):Calls P f args (w.drewN n) fun e w''=>e = .returned v∧∃ m,w''=w.drewN m :=
 h.mono fun _ _ ⟨he,q,hq⟩=>⟨he,n+q,by rw[hq,World.drewN_drewN]⟩
theorem zcu {P:Program} {f:FuncId} {args:Array Value} {w:World} {a n:Nat} {v:Value}
  (h:Calls P f args (w.drewN (a+n)) fun e w'=>e = .returned v∧∃ m,w'=(w.drewN (a+n)).drewN m) :
  Calls P f args (w.drewN (a+n)) fun e w''=>e = .returned v∧∃ m,w''=w.drewN (a+m) :=
 h.mono fun _ _ ⟨he,m,hm⟩=>⟨he,n+m,by rw[hm,World.drewN_drewN,Nat.add_assoc]⟩
def zdm (l:List Setg) (i:Nat):Bool:=match l[i]? with
 | none=>true
 | some x=>zbu x.1.data.toList && zcw x.2.data.toList && (decide (i=0) || Op.bytesLess (l.getD (i - 1) (⟨#[]⟩,⟨#[]⟩)).1.toList x.1.toList)
def ze4 (l:List Setg):Bool:=(List.range l.length).all (zdm l)
theorem zlh {l:List Setg} {i:Nat} (h:i < l.length):zdm l i=(zbu l[i].1.data.toList && zcw l[i].2.data.toList && (decide (i=0) || Op.bytesLess (l.getD (i - 1) (⟨#[]⟩,⟨#[]⟩)).1.toList l[i].1.toList)):=by
 unfold zdm
 rw[List.getElem?_eq_getElem h]
theorem zlg {l:List Setg} {i:Nat} (h:i < l.length) (hi:zdm l i=false):ze4 l=false:=by
 unfold ze4
 rw[List.all_eq_false]
 exact⟨i,List.mem_range.2 h,by rw[hi];simp⟩
theorem zjf {l:List Setg} (h:∀ i,i < l.length→zdm l i=true):ze4 l=true:=by
 unfold ze4
 rw[List.all_eq_true]
 exact fun i hi=>h i (List.mem_range.1 hi)
theorem zq8 {w:World} {v:Value} {l:List Setg} (h:zhl w [v] l):Calls Tryz.prog 185 #[v] w fun e w'=>e = .returned (.bool (ze4 l))∧∃ q,w'=w.drewN q:=by
 obtain⟨a,cap,rfl,hz,g⟩:=zdp h
 obtain⟨n,hn⟩ : ∃ n,n=l.length:=⟨_,rfl⟩
 obtain⟨r,hr⟩ : ∃ r,r=ze4 l:=⟨_,rfl⟩
 rw[← hr]
 rw[← hn] at hz h ⊢
 obtain⟨Hh,Hg,Hn,Hr⟩:=hd4 h g hn hr;clear h g hn hr
 go_enter Tryz.func185,Tryz.ntmps185
 go_wp2_with fail
 go_loopw [6] (fun i wr=>∃ k:Nat,k≤n∧i = .int .i64 k∧(∀ j,j < k→zdm l j=true)∧∃ q,wr=w.drewN q) (fun i _=>n - (intOf i).toNat)
 case atStart=>exact⟨0,Nat.zero_le _,rfl,fun _ h=>by omega,0,rfl⟩
 case round =>
  obtain⟨k,hk,rfl,hno,q,rfl⟩:=hrel
  by_cases hlt:k < n
  ·have hkl:k < l.length:=by have:=Hn.out;omega
   obtain⟨b,off,rfl,d0,d1,hs1,hs2⟩:=Hg.out k _ (List.getElem?_eq_getElem hkl)
   have hwa:=zlh hkl
   have hnx:zdm l k=true→∀ j,j < k+1→zdm l j=true:=fun h j hj=>by
    by_cases e:j=k
    ·rw[e];exact h
    exact hno j (by omega)
   have hbd:=fun (h:zdm l k=false)=>zlg hkl h
   obtain⟨x,hx⟩ : ∃ x,x=l[k]:=⟨_,rfl⟩
   rw[← hx] at d0 d1 hs1 hs2 hwa
   obtain⟨s,hs⟩ : ∃ s,s=x.1:=⟨_,rfl⟩
   obtain⟨t,ht⟩ : ∃ s,s=x.2:=⟨_,rfl⟩
   rw[← hs] at d0 hs1 hwa
   rw[← ht] at d1 hs2 hwa
   have hN:=fun (W:World)=>(zei s hs1 W).mono (fun e w' (⟨he,hw⟩ : _∧W=w')=>(⟨he,0,hw.symm⟩ : e=_∧∃ m,w'=W.drewN m))
   have hV:=fun (W:World)=>(zli t hs2 W).mono (fun e w' (⟨he,hw⟩ : _∧W=w')=>(⟨he,0,hw.symm⟩ : e=_∧∃ m,w'=W.drewN m))
   obtain⟨p1,hp1⟩ : ∃ p,p=zbu s.data.toList:=⟨_,rfl⟩
   obtain⟨p2,hp2⟩ : ∃ p,p=zcw t.data.toList:=⟨_,rfl⟩
   rw[← hp1] at hN hwa
   rw[← hp2] at hV hwa
   have k5:(0:Int)≤(k:Int):=by omega
   have k6:(k:Int) < (n:Int):=by omega
   clear hx hkl hs ht
   obtain⟨HN,HV,Hp1,Hp2,Hno,Hnx,Hbd,Hwa⟩:=hd8 hN hV hp1 hp2 hno hnx hbd hwa;clear hN hV hp1 hp2 hno hnx hbd hwa
   cases p1 with
   | false =>
    have hf:r=false:=by rw[Hr.out];exact Hbd.out (by rw[Hwa.out];rfl)
    have Hf:=hd hf;clear hf
    go_wp2_with fail
    go_quiet (first | (go_at_call 139;exact zcu (HN.out _)) | (go_at_call 210;exact zcu (HV.out _)))
    go_wp2_with fail
    go_ret
    exact⟨zad Hf.out.symm,_,by rw[World.drewN_drewN]⟩
   | true =>
    cases p2 with
    | false =>
     have hf:r=false:=by rw[Hr.out];exact Hbd.out (by rw[Hwa.out];rfl)
     have Hf:=hd hf;clear hf
     go_wp2_with fail
     go_quiet (first | (go_at_call 139;exact zcu (HN.out _)) | (go_at_call 210;exact zcu (HV.out _)))
     go_wp2_with fail
     go_ret
     exact⟨zad Hf.out.symm,_,by rw[World.drewN_drewN]⟩
    | true =>
     by_cases h0:0 < k
     ·obtain⟨k',rfl⟩ : ∃ k',k=k' + 1:=⟨k - 1,by omega⟩
      have hkl':k' < l.length:=by have:=Hn.out;omega
      obtain⟨b2,off2,e2,f0,f1,hs3,hs4⟩:=Hg.out k' _ (List.getElem?_eq_getElem hkl')
      injection e2 with e2
      injection e2 with e3 e4
      subst e3 e4
      obtain⟨z,hz4⟩ : ∃ z,z=l[k'].1:=⟨_,rfl⟩
      rw[← hz4] at f0 hs3
      have hwb:zdm l (k' + 1)=Op.bytesLess z.toList s.toList:=by rw[Hwa.out,hz4];simp[List.getD_eq_getElem?_getD,List.getElem?_eq_getElem hkl']
      obtain⟨Hz4,Hwb⟩:=hd2 hz4 hwb;clear hz4 hwb
      clear f1 hs4
      have k7:decide ((0:Int) < ((k' + 1:Nat):Int))=true:=by rw[decide_eq_true_eq];omega
      have k8:(((k' + 1:Nat):Int) - 1)=(k':Int):=by omega
      have k11:IntKind.i64.wrap (((k' + 1:Nat):Int) - 1)=(k':Int):=by rw[k8];exact IntWalk.i64_in _ (by omega)
      have k9:(0:Int)≤(k':Int):=by omega
      have k10:(k':Int) < (n:Int):=by omega
      go_wp2_with fail
      go_quiet (first | (go_at_call 139;exact zcu (HN.out _)) | (go_at_call 210;exact zcu (HV.out _)))
      obtain⟨bl,hbl⟩ : ∃ b,b=Op.bytesLess z.toList s.toList:=⟨_,rfl⟩
      have hwb:=Hwb.out
      rw[← hbl] at hwb ⊢
      obtain⟨Hbl,Hwb⟩:=hd2 hbl hwb;clear hbl hwb
      cases bl with
      | true =>
       have hq:=Hnx.out Hwb.out
       have Hq:=hd hq;clear hq
       go_wp2_with fail
       go_roundw
       case rel=>exact⟨k' + 1+1,by omega,by go_num,Hq.out,_,rfl⟩
       case measure=>simp[intOf];omega
      | false =>
       have hf:r=false:=by rw[Hr.out];exact Hbd.out Hwb.out
       have Hf:=hd hf;clear hf
       go_wp2_with fail
       go_ret
       exact⟨zad Hf.out.symm,_,by rw[World.drewN_drewN]⟩
     have k7:decide ((0:Int) < (k:Int))=false:=by rw[decide_eq_false_iff_not];omega
     have hq:=Hnx.out (by rw[Hwa.out,show k=0 by omega];rfl)
     have Hq:=hd hq;clear hq
     go_wp2_with fail
     go_quiet (first | (go_at_call 139;exact zcu (HN.out _)) | (go_at_call 210;exact zcu (HV.out _)))
     go_wp2_with fail
     go_roundw
     case rel=>exact⟨k+1,by omega,by go_num,Hq.out,_,rfl⟩
     case measure=>simp[intOf];omega
  obtain rfl:n=k:=by omega
  have hf:r=true:=by rw[Hr.out];exact zjf (by rw[← Hn.out];exact hno)
  obtain⟨Hno,Hf⟩:=hd2 hno hf;clear hno hf
  go_wp2_with fail
  go_ret
  exact⟨zad Hf.out.symm,_,rfl⟩
theorem zqa {w:World} {v:Value} {l:List Setg} (h:zhl w [v] l):Calls Tryz.prog 209 #[v] w fun e w'=>e = .returned (.bool (ze4 l))∧Below w.heap.size w w':=by
 obtain⟨a,cap,rfl,hz,g⟩:=zdp h
 obtain⟨n,hn⟩ : ∃ n,n=l.length:=⟨_,rfl⟩
 obtain⟨r,hr⟩ : ∃ r,r=ze4 l:=⟨_,rfl⟩
 rw[← hr]
 rw[← hn] at hz h ⊢
 obtain⟨Hh,Hg,Hn,Hr⟩:=hd4 h g hn hr;clear h g hn hr
 go_enter Tryz.func209,Tryz.ntmps209
 go_wp2_with fail
 go_loopw [7] (fun i wr=>∃ k:Nat,k≤n∧i = .int .i64 k∧(∀ j,j < k→zdm l j=true)∧Below w.heap.size w wr) (fun i _=>n - (intOf i).toNat)
 case atStart=>exact⟨0,Nat.zero_le _,rfl,fun _ h=>by omega,Below.refl _ _⟩
 case round =>
  obtain⟨k,hk,rfl,hno,hb⟩:=hrel
  by_cases hlt:k < n
  ·have hkl:k < l.length:=by have:=Hn.out;omega
   obtain⟨b,off,rfl,d0,d1,hs1,hs2⟩:=Hg.out k _ (List.getElem?_eq_getElem hkl)
   have hwa:=zlh hkl
   have hnx:zdm l k=true→∀ j,j < k+1→zdm l j=true:=fun h j hj=>by
    by_cases e:j=k
    ·rw[e];exact h
    exact hno j (by omega)
   have hbd:=fun (h:zdm l k=false)=>zlg hkl h
   obtain⟨x,hx⟩ : ∃ x,x=l[k]:=⟨_,rfl⟩
   rw[← hx] at d0 d1 hs1 hs2 hwa
   obtain⟨s,hs⟩ : ∃ s,s=x.1:=⟨_,rfl⟩
   obtain⟨t,ht⟩ : ∃ s,s=x.2:=⟨_,rfl⟩
   rw[← hs] at d0 hs1 hwa
   rw[← ht] at d1 hs2 hwa
   have hN:=fun (W:World)=>(zkq s hs1 W).mono (fun e w' (⟨he,hw⟩ : _∧W=w')=>(⟨he,0,hw.symm⟩ : e=_∧∃ m,w'=W.drewN m))
   have hV:=fun (W:World)=>(value_any t hs2 W).mono (fun e w' (⟨he,hw⟩ : _∧W=w')=>(⟨he,0,hw.symm⟩ : e=_∧∃ m,w'=W.drewN m))
   obtain⟨p1,hp1⟩ : ∃ p,p=zbu s.data.toList:=⟨_,rfl⟩
   obtain⟨p2,hp2⟩ : ∃ p,p=zcw t.data.toList:=⟨_,rfl⟩
   rw[← hp1] at hN hwa
   rw[← hp2] at hV hwa
   have e0:=cell_later hb d0
   have e1:=cell_later hb d1
   obtain⟨W1,hW1⟩ : ∃ W1,W1=wr.alloc (.cells #[.string s,.string t] 109):=⟨_,rfl⟩
   have hbn:Below wr.heap.size wr W1:=by rw[hW1];exact za2 _ _
   have hb1:=hb.trans (hbn.mono hb.size)
   obtain⟨D,hD⟩ : ∃ D,D=wr.heap.size:=⟨_,rfl⟩
   have hdb:W1.heap[D]? = some (.cells #[.string s,.string t] 109 (0,0)):=by rw[hW1,hD];exact heap_alloc_new _ _
   have f0:=za4 hdb 0
   have f1:=za4 hdb 1
   simp only[List.getElem?_toArray,List.getElem?_cons_zero,List.getElem?_cons_succ] at f0 f1
   have k5:(0:Int)≤(k:Int):=by omega
   have k6:(k:Int) < (n:Int):=by omega
   clear hx hs ht
   obtain⟨HN,HV,Hp1,Hp2,Hno,Hnx,Hbd,Hwa,Hb,Hbn,Hb1,Hdb⟩:=hd12 hN hV hp1 hp2 hno hnx hbd hwa hb hbn hb1 hdb;clear hN hV hp1 hp2 hno hnx hbd hwa hb hbn hb1 hdb
   go_upto_region 4 with (fail)
   rw[← hW1,← hD]
   obtain⟨HW1,HD⟩:=hd2 hW1 hD;clear hW1 hD
   clear e0 e1
   cases p1 with
   | false =>
    have hf:r=false:=by rw[Hr.out];exact Hbd.out (by rw[Hwa.out];rfl)
    have Hf:=hd hf;clear hf
    go_quiet (first | (go_at_call 153;exact zdw (HN.out _)) | (go_at_call 189;exact zdw (HV.out _)))
    go_wp2_with fail
    go_ret
    exact⟨zad Hf.out.symm,zak Hb1.out _⟩
   | true =>
    cases p2 with
    | false =>
     have hf:r=false:=by rw[Hr.out];exact Hbd.out (by rw[Hwa.out];rfl)
     have Hf:=hd hf;clear hf
     go_quiet (first | (go_at_call 153;exact zdw (HN.out _)) | (go_at_call 189;exact zdw (HV.out _)))
     go_wp2_with fail
     go_ret
     exact⟨zad Hf.out.symm,zak Hb1.out _⟩
    | true =>
     by_cases h0:0 < k
     ·obtain⟨k',rfl⟩ : ∃ k',k=k' + 1:=⟨k - 1,by omega⟩
      have hkl':k' < l.length:=by have:=Hn.out;omega
      obtain⟨b2,off2,e2,y0,_,_,_⟩:=Hg.out k' _ (List.getElem?_eq_getElem hkl')
      injection e2 with e2
      injection e2 with e3 e4
      subst e3 e4
      obtain⟨z,hz4⟩ : ∃ z,z=l[k'].1:=⟨_,rfl⟩
      rw[← hz4] at y0
      have y0:=cell_later Hb1.out y0
      have hwb:zdm l (k' + 1)=Op.bytesLess z.toList s.toList:=by rw[Hwa.out,hz4];simp[List.getD_eq_getElem?_getD,List.getElem?_eq_getElem hkl']
      obtain⟨Hz4,Hwb⟩:=hd2 hz4 hwb;clear hz4 hwb
      have k7:decide ((0:Int) < ((k' + 1:Nat):Int))=true:=by rw[decide_eq_true_eq];omega
      have k8:(((k' + 1:Nat):Int) - 1)=(k':Int):=by omega
      have k11:IntKind.i64.wrap (((k' + 1:Nat):Int) - 1)=(k':Int):=by rw[k8];exact IntWalk.i64_in _ (by omega)
      have k9:(0:Int)≤(k':Int):=by omega
      have k10:(k':Int) < (n:Int):=by omega
      go_quiet (first | (go_at_call 153;exact zdw (HN.out _)) | (go_at_call 189;exact zdw (HV.out _)))
      obtain⟨bl,hbl⟩ : ∃ b,b=Op.bytesLess z.toList s.toList:=⟨_,rfl⟩
      have hwb:=Hwb.out
      rw[← hbl] at hwb ⊢
      obtain⟨Hbl,Hwb⟩:=hd2 hbl hwb;clear hbl hwb
      cases bl with
      | true =>
       have hq:=Hnx.out Hwb.out
       have Hq:=hd hq;clear hq
       go_wp2_with fail
       go_roundw
       case rel=>exact⟨k' + 1+1,by omega,by go_num,Hq.out,zak Hb1.out _⟩
       case measure=>simp[intOf];omega
      | false =>
       have hf:r=false:=by rw[Hr.out];exact Hbd.out Hwb.out
       have Hf:=hd hf;clear hf
       go_wp2_with fail
       go_ret
       exact⟨zad Hf.out.symm,zak Hb1.out _⟩
     have k7:decide ((0:Int) < (k:Int))=false:=by rw[decide_eq_false_iff_not];omega
     have hq:=Hnx.out (by rw[Hwa.out,show k=0 by omega];rfl)
     have Hq:=hd hq;clear hq
     go_quiet (first | (go_at_call 153;exact zdw (HN.out _)) | (go_at_call 189;exact zdw (HV.out _)))
     go_wp2_with fail
     go_roundw
     case rel=>exact⟨k+1,by omega,by go_num,Hq.out,zak Hb1.out _⟩
     case measure=>simp[intOf];omega
  obtain rfl:n=k:=by omega
  have hf:r=true:=by rw[Hr.out];exact zjf (by rw[← Hn.out];exact hno)
  obtain⟨Hno,Hf,Hb⟩:=hd3 hno hf hb;clear hno hf hb
  go_wp2_with fail
  go_ret
  exact⟨zad Hf.out.symm,Hb.out⟩
end

namespace LexM
abbrev Bs:=List UInt8
abbrev Wd:=Int × Bs
abbrev Ln:=Int × List Wd
structure St where
 line:Int
 col:Int
 frm:Int
 off:Bool
 word:Bs
 words:List Wd
 out:List Ln
def ends (s:St):St:={ s with frm:=0,word:=[],words:=if 0 < s.frm then s.words ++ [(s.frm,s.word)] else s.words }
def breaks (s:St):St :=
 { (ends s) with out:=if (ends s).words = [] then s.out else s.out ++ [(s.line,(ends s).words)],words:=[],off:=false,line:=s.line+1,col:=0 }
def mayBegin (s:St):Bool:=decide (s.words.length < 40) && (decide (0 < s.words.length) || decide (s.out.length < 2000))
def onward (s:St):St:={ s with col:=s.col+1 }
def takes (s:St) (c:UInt8):St × Int :=
 if c.toNat=10 then (breaks (onward s),0)
 else if c.toNat < 32∨126 < c.toNat then (onward s,3)
 else if s.off=true then (onward s,0)
 else if c.toNat=35 then ({ ends (onward s) with off:=true },0)
 else if c.toNat=32 then (ends (onward s),0)
 else if 0 < s.frm then ({ onward s with word:=s.word ++ [c] },0)
 else if mayBegin s=true then ({ onward s with frm:=s.col+1,word:=s.word ++ [c] },0)
 else ({ onward s with frm:=s.col+1 },4)
def run:St→Bs→St × Int
 | s,[] => (s,0)
 | s,c :: r=>if (takes s c).2=0 then run (takes s c).1 r else takes s c
def st0:St:=⟨1,0,0,false,[],[],[]⟩
structure Res where
 lines:List Ln
 at1:Int
 at2:Int
 e:Int
def close (r:St × Int):Res:=if r.2=0 then ⟨(breaks r.1).out,0,0,0⟩ else ⟨[],r.1.line,r.1.col,r.2⟩
def lines (t:Bs):Res:=if 65536 < t.length then ⟨[],0,0,4⟩ else close (run st0 t)
def part (c:UInt8):Bool:=decide (32 < c.toNat) && decide (c.toNat < 127) && !decide (c.toNat=35)
def wordAt (t:Bs) (i:Nat):Bs:=(t.drop i).takeWhile part
structure RS where
 off:Bool
 out:List Wd
def roff (s:RS) (c:UInt8):Bool:=s.off || decide (c.toNat=35)
def rskip (t:Bs) (s:RS) (i:Nat) (c:UInt8):Bool:=roff s c || !part c || (decide (0 < i) && part (t.getD (i - 1) 0))
def rnext (t:Bs) (s:RS) (i:Nat) (c:UInt8):RS:=⟨roff s c,if rskip t s i c=true then s.out else s.out ++ [((i:Int)+1,wordAt t i)]⟩
def rerr (t:Bs) (room:Bool) (s:RS) (i:Nat) (c:UInt8):Int :=
 if c.toNat < 32∨126 < c.toNat then 3
 else if rskip t s i c=true then 0
 else if s.out.length=40∨room=false then 4 else 0
def rgo (t:Bs) (room:Bool) (s:RS) (i:Nat):Bs→List Wd × Int × Int
 | [] => (s.out,0,0)
 | c :: r=>if rerr t room s i c=0 then rgo t room (rnext t s i c) (i+1) r else (s.out,(i:Int)+1,rerr t room s i c)
def rline (t:Bs) (room:Bool):List Wd × Int × Int:=rgo t room ⟨false,[]⟩ 0 t
def addLn (out:List Ln) (n:Int) (ws:List Wd):List Ln:=if ws = [] then out else out ++ [(n,ws)]
def rlines (n:Int) (cur:Bs) (out:List Ln):Bs→Res
 | [] => let r:=rline cur (decide (out.length < 2000));if r.2.2=0 then ⟨addLn out n r.1,0,0,0⟩ else ⟨[],n,r.2.1,r.2.2⟩
 | c :: r =>
  if c.toNat=10 then
   let q:=rline cur (decide (out.length < 2000))
   if q.2.2=0 then rlines (n+1) [] (addLn out n q.1) r else ⟨[],n,q.2.1,q.2.2⟩
  else rlines n (cur ++ [c]) out r
def docLines (t:Bs):Res:=if 65536 < t.length then ⟨[],0,0,4⟩ else rlines 1 [] [] t
theorem run_ok {s:St} {c:UInt8} {r:Bs} (h:(takes s c).2=0):run s (c :: r)=run (takes s c).1 r:=by simp[run,h]
theorem run_bad {s:St} {c:UInt8} {r:Bs} (h:(takes s c).2≠0):run s (c :: r)=takes s c:=by simp[run,h]
theorem run_append (a b:Bs):∀ s,run s (a ++ b)=if (run s a).2=0 then run (run s a).1 b else run s a:=by
 induction a with
 | nil=>intro s;simp[run]
 | cons c r ih =>
  intro s
  by_cases h:(takes s c).2=0
  ·rw[List.cons_append,run_ok h,ih,run_ok h]
  rw[List.cons_append,run_bad h,run_bad h,if_neg h]
theorem zlf {t:Bs} {i:Nat} {c:UInt8} {r:Bs} (h:t.drop i=c :: r) (hc:part c=true):wordAt t i=c :: r.takeWhile part:=by
 unfold wordAt;rw[h];simp[hc]
structure Inv (t:Bs) (room:Bool) (p:St) (s:RS) (i:Nat):Prop where
 col:p.col=i
 off:p.off=s.off
 none:p.frm=0→p.word = []∧s.out=p.words∧(p.off=true∨i=0∨part (t.getD (i - 1) 0)=false)
 some:p.frm≠0→p.off=false∧0 < i∧part (t.getD (i - 1) 0)=true∧∃ j:Nat,p.frm=(j:Int)+1∧s.out=p.words ++ [((j:Int)+1,p.word ++ (t.drop i).takeWhile part)]
 nonneg:0≤p.frm
 room:room=decide (p.out.length < 2000)
 had:p.words≠[]∨p.frm≠0→p.out.length < 2000
 le:s.out.length≤40
theorem zkp (c:UInt8):part c=true↔32 < c.toNat∧c.toNat < 127∧c.toNat≠35:=by
 unfold part;simp[and_assoc]
theorem zf0 {t:Bs} {i:Nat} {c:UInt8} {r:Bs} (h:t.drop i=c :: r):t.getD i 0=c∧t.drop (i+1)=r∧i < t.length:=by
 have hi:i < t.length:=by
  rcases Nat.lt_or_ge i t.length with hi | hi
  ·exact hi
  rw[List.drop_eq_nil_of_le hi] at h;cases h
 rw[List.drop_eq_getElem_cons hi] at h
 injection h with h1 h2
 refine⟨?_,h2,hi⟩
 simp[List.getD,hi,h1]
theorem step_inv {t:Bs} {room:Bool} {p:St} {s:RS} {i:Nat} {c:UInt8} {r:Bs} (h:Inv t room p s i) (hd:t.drop i=c :: r) (hc:c.toNat≠10) :
  (takes p c).2=rerr t room s i c∧(takes p c).1.col=(i:Int)+1∧(takes p c).1.line=p.line∧(takes p c).1.out=p.out∧((takes p c).2=0→Inv t room (takes p c).1 (rnext t s i c) (i+1)):=by
 obtain⟨hg,hd2,hi⟩:=zf0 hd
 have hg2:t.getD (i+1 - 1) 0=c:=by rw[Nat.add_sub_cancel];exact hg
 have hcol:=h.col
 unfold takes
 rw[if_neg hc]
 by_cases hf:c.toNat < 32∨126 < c.toNat
 ·rw[if_pos hf]
  have e1:rerr t room s i c=3:=by unfold rerr;rw[if_pos hf]
  exact⟨e1.symm,by simp[onward,hcol],rfl,rfl,fun h=>by cases h⟩
 rw[if_neg hf]
 have hr:rerr t room s i c=if rskip t s i c=true then 0 else if s.out.length=40∨room=false then 4 else 0:=by unfold rerr;rw[if_neg hf]
 by_cases ho:p.off=true
 ·rw[if_pos ho]
  have hso:s.off=true:=by rw[← h.off];exact ho
  have hro:roff s c=true:=by unfold roff;rw[hso];rfl
  have hsk:rskip t s i c=true:=by unfold rskip;rw[hro];rfl
  have hf0:p.frm=0:=Classical.byContradiction fun hn=>by have:=(h.some hn).1;rw[ho] at this;cases this
  refine⟨by rw[hr,if_pos hsk],by simp[onward,hcol],rfl,rfl,fun _=>?_⟩
  have hn:=h.none hf0
  exact⟨by simp[onward,hcol],by simp[onward,rnext,hro,ho],fun _=>⟨hn.1,by simp[rnext,hsk];exact hn.2.1,.inl ho⟩,fun hx=>absurd hf0 hx,h.nonneg,h.room,h.had,by simp only[rnext,if_pos hsk];exact h.le⟩
 rw[if_neg ho]
 have hoff:p.off=false:=by simpa using ho
 have hso:s.off=false:=by rw[← h.off];exact hoff
 have endsEq:∀ b:Bool,b=roff s c→part c=false→rskip t s i c=true→Inv t room { ends (onward p) with off:=b } (rnext t s i c) (i+1):=by
  intro b hb hpc hsk
  refine⟨by simp[ends,onward,hcol],by simp[rnext,hb],fun _=>⟨rfl,?_,.inr (.inr ?_)⟩,fun hx=>absurd rfl hx,Int.le_refl _,h.room,?_,by simp only[rnext,if_pos hsk];exact h.le⟩
  ·simp only[rnext,if_pos hsk]
   by_cases h0:p.frm=0
   ·rw[(h.none h0).2.1]
    simp[ends,onward,h0]
   obtain⟨_,_,_,j,hj,hso⟩:=h.some h0
   rw[hso,hd]
   have hp:0 < (j:Int)+1:=by omega
   simp[ends,onward,hp,hj,hpc]
  ·rw[hg2];exact hpc
  intro hne
  apply h.had
  by_cases h0:p.frm=0
  ·left
   simpa [ends,onward,h0] using hne
  exact .inr h0
 by_cases h35:c.toNat=35
 ·rw[if_pos h35]
  have hpc:part c=false:=by
   have:=zkp c
   cases hh:part c
   ·rfl
   have:=this.1 hh;omega
  have hro:roff s c=true:=by unfold roff;simp[h35]
  have hsk:rskip t s i c=true:=by unfold rskip;rw[hro];rfl
  exact⟨by rw[hr,if_pos hsk],by simp[ends,onward,hcol],rfl,rfl,fun _=>endsEq true hro.symm hpc hsk⟩
 rw[if_neg h35]
 have hro:roff s c=false:=by unfold roff;simp[hso,h35]
 by_cases h32:c.toNat=32
 ·rw[if_pos h32]
  have hpc:part c=false:=by
   have:=zkp c
   cases hh:part c
   ·rfl
   have:=this.1 hh;omega
  have hsk:rskip t s i c=true:=by unfold rskip;rw[hpc];simp
  refine⟨by rw[hr,if_pos hsk],by simp[ends,onward,hcol],rfl,rfl,fun _=>?_⟩
  have:=endsEq false hro.symm hpc hsk
  have e:ends (onward p) = { ends (onward p) with off:=false }:=by simp[ends,onward,hoff]
  rw[e]
  exact this
 rw[if_neg h32]
 have hpc:part c=true:=(zkp c).2 (by omega)
 by_cases h0:p.frm=0
 ·have hn:=h.none h0
  have hprev:(decide (0 < i) && part (t.getD (i - 1) 0))=false:=by
   rcases hn.2.2 with h1 | h1 | h1
   ·rw[hoff] at h1;cases h1
   ·simp[h1]
   rw[h1];simp
  have hsk:rskip t s i c=false:=by unfold rskip;rw[hro,hpc,hprev];rfl
  have hsk':¬ rskip t s i c=true:=by rw[hsk];simp
  rw[if_neg (by omega)]
  by_cases hm:mayBegin p=true
  ·rw[if_pos hm]
   have hm':=hm
   unfold mayBegin at hm'
   simp only[Bool.and_eq_true,Bool.or_eq_true,decide_eq_true_eq] at hm'
   have hout:p.out.length < 2000:=by
    rcases hm'.2 with h1 | h1
    ·exact h.had (.inl (List.ne_nil_of_length_pos h1))
    exact h1
   have hl:s.out.length < 40:=by rw[hn.2.1];exact hm'.1
   refine⟨?_,by simp[onward,hcol],rfl,rfl,fun _=>⟨by simp[onward,hcol],by simp[onward,rnext,hro,hoff],fun hx=>?_,fun _=>⟨hoff,by omega,by rw[hg2];exact hpc,i,by simp[hcol],?_⟩,by simp;omega,h.room,fun _=>hout,?_⟩⟩
   ·rw[hr,if_neg hsk',if_neg]
    rintro (h1 | h1)
    ·omega
    rw[h.room] at h1;simp at h1;omega
   ·exfalso
    simp at hx
    omega
   ·simp only[rnext,if_neg hsk',hd2,hn.1,hn.2.1,onward]
    rw[zlf hd hpc]
    rfl
   simp only[rnext,if_neg hsk',List.length_append,List.length_singleton]
   omega
  rw[if_neg hm]
  refine⟨?_,by simp[onward,hcol],rfl,rfl,fun hx=>by cases hx⟩
  rw[hr,if_neg hsk',if_pos]
  unfold mayBegin at hm
  simp only[Bool.and_eq_true,Bool.or_eq_true,decide_eq_true_eq] at hm
  have hle:=h.le
  rw[hn.2.1] at hle ⊢
  by_cases h40:p.words.length=40
  ·exact .inl h40
  right
  rw[h.room]
  simp
  omega
 obtain⟨ha,hb,hpv,j,hj,hso2⟩:=h.some h0
 have hsk:rskip t s i c=true:=by unfold rskip;rw[hpv];simp[hb]
 have hp:0 < p.frm:=by omega
 rw[if_pos hp]
 refine⟨by rw[hr,if_pos hsk],by simp[onward,hcol],rfl,rfl,fun _=>⟨by simp[onward,hcol],by simp[onward,rnext,hro,hoff],fun hx=>absurd hx h0,fun _=>⟨hoff,by omega,by rw[hg2];exact hpc,j,hj,?_⟩,h.nonneg,h.room,h.had,by simp only[rnext,if_pos hsk];exact h.le⟩⟩
 simp only[rnext,if_pos hsk,onward]
 rw[hso2,hd,hd2]
 simp[hpc]
theorem line_inv {t:Bs} {room:Bool} (r:Bs):∀ (p:St) (s:RS) (i:Nat),Inv t room p s i→t.drop i=r→(∀ c∈r,c.toNat≠10) →
  (run p r).2=(rgo t room s i r).2.2∧(run p r).1.line=p.line∧(run p r).1.out=p.out∧((run p r).2≠0→(run p r).1.col=(rgo t room s i r).2.1)∧((run p r).2=0→(ends (run p r).1).words=(rgo t room s i r).1):=by
 induction r with
 | nil =>
  intro p s i h hd _
  refine⟨rfl,rfl,rfl,fun hx=>absurd rfl hx,fun _=>?_⟩
  simp only[run,rgo]
  by_cases h0:p.frm=0
  ·rw[(h.none h0).2.1];simp[ends,h0]
  obtain⟨_,_,_,j,hj,hso⟩:=h.some h0
  have hp:0 < (j:Int)+1:=by omega
  rw[hso,hd]
  simp[ends,hj,hp]
 | cons c r ih =>
  intro p s i h hd hn
  obtain⟨e1,e2,e3,e4,e5⟩:=step_inv h hd (hn c (by simp))
  simp only[rgo,← e1]
  by_cases hz:(takes p c).2=0
  ·rw[run_ok hz,if_pos hz]
   obtain⟨f1,f2,f3,f4,f5⟩:=ih _ _ (i+1) (e5 hz) (zf0 hd).2.1 (fun x hx=>hn x (by simp[hx]))
   exact⟨f1,f2.trans e3,f3.trans e4,f4,f5⟩
  rw[run_bad hz,if_neg hz]
  exact⟨rfl,e3,e4,fun _=>e2,fun hx=>absurd hx hz⟩
def zf1 (n:Int) (out:List Ln):St:=⟨n,0,0,false,[],[],out⟩
theorem inv0 (t:Bs) (n:Int) (out:List Ln):Inv t (decide (out.length < 2000)) (zf1 n out) ⟨false,[]⟩ 0 :=
 ⟨rfl,rfl,fun _=>⟨rfl,rfl,.inr (.inl rfl)⟩,fun h=>absurd rfl h,Int.le_refl _,rfl,fun h=>by rcases h with h | h <;> exact absurd rfl h,by simp⟩
theorem zpi (t:Bs) (n:Int) (out:List Ln) (h:∀ c∈t,c.toNat≠10) :
  (run (zf1 n out) t).2=(rline t (decide (out.length < 2000))).2.2∧(run (zf1 n out) t).1.line=n∧(run (zf1 n out) t).1.out=out∧((run (zf1 n out) t).2≠0→(run (zf1 n out) t).1.col=(rline t (decide (out.length < 2000))).2.1) ∧
  ((run (zf1 n out) t).2=0→(ends (run (zf1 n out) t).1).words=(rline t (decide (out.length < 2000))).1) :=
 line_inv t _ _ 0 (inv0 t n out) rfl h
theorem zn0 (p:St) (n:Int) (out:List Ln) (ws:List Wd) (hl:p.line=n) (ho:p.out=out) (hw:(ends p).words=ws):breaks p=zf1 (n+1) (addLn out n ws):=by
 subst hl;subst ho;subst hw
 rfl
theorem rlines_eq (r:Bs):∀ (n:Int) (cur:Bs) (out:List Ln),(∀ c∈cur,c.toNat≠10)→rlines n cur out r=close (run (zf1 n out) (cur ++ r)):=by
 induction r with
 | nil =>
  intro n cur out hc
  obtain⟨e1,e2,e3,e4,e5⟩:=zpi cur n out hc
  rw[List.append_nil]
  unfold rlines close
  dsimp only
  rw[← e1]
  by_cases hz:(run (zf1 n out) cur).2=0
  ·rw[if_pos hz,if_pos hz,zn0 _ n out _ e2 e3 (e5 hz)]
   rfl
  rw[if_neg hz,if_neg hz,e2,e4 hz]
 | cons c r ih =>
  intro n cur out hc
  unfold rlines
  by_cases h10:c.toNat=10
  ·rw[if_pos h10]
   dsimp only
   obtain⟨e1,e2,e3,e4,e5⟩:=zpi cur n out hc
   rw[run_append,← e1]
   by_cases hz:(run (zf1 n out) cur).2=0
   ·rw[if_pos hz,if_pos hz,ih _ _ _ (by simp)]
    have:run (run (zf1 n out) cur).1 (c :: r)=run (zf1 (n+1) (addLn out n (rline cur (decide (out.length < 2000))).1)) r:=by
     have h1:takes (run (zf1 n out) cur).1 c=(breaks (onward (run (zf1 n out) cur).1),0):=by unfold takes;rw[if_pos h10]
     rw[run_ok (by rw[h1]),h1]
     rw[zn0 (onward (run (zf1 n out) cur).1) n out (rline cur (decide (out.length < 2000))).1 e2 e3 (e5 hz)]
    rw[this]
    rfl
   rw[if_neg hz,if_neg hz]
   unfold close
   rw[if_neg hz,e2,e4 hz]
  rw[if_neg h10,ih _ _ _ (by
   intro x hx
   rcases List.mem_append.1 hx with hx | hx
   ·exact hc x hx
   simp at hx;rw[hx];exact h10)]
  simp
theorem lines_eq (t:Bs):lines t=docLines t:=by
 unfold lines docLines
 by_cases h:65536 < t.length
 ·rw[if_pos h,if_pos h]
 rw[if_neg h,if_neg h,rlines_eq t 1 [] [] (by simp)]
 rfl
end LexM

section
open Go.Lib VerN VarM
open LexM (Wd Ln)
abbrev Spc3:=ByteArray × List BSp × List Setg
def zbw (ws:List Wd) (i:Nat):ByteArray:=match ws[i]? with
 | some x=>⟨x.2.toArray⟩
 | none=>⟨#[]⟩
def zb2 (ws:List Wd) (fin:Int) (i:Nat):Int:=match ws[i]? with
 | some x=>x.1
 | none=>fin
def cutB (c:UInt8) (s:ByteArray):ByteArray × ByteArray × Bool:=(⟨(cut s.data.toList [c]).1.toArray⟩,⟨(cut s.data.toList [c]).2.1.toArray⟩,(cut s.data.toList [c]).2.2)
def hasB (c:UInt8) (s:ByteArray):Bool:=decide (0≤indexByte s.data.toList c)
def zkg (s:ByteArray):Setg:=((cutB 61 s).1,(cutB 61 s).2.1)
def setsW (ws:List Wd):Nat→Nat→List Setg→Option (List Setg) × Nat
 | 0,i,out=>(some out,i)
 | f+1,i,out=>if hasB 61 (zbw ws i)=true then (if ze4 (out ++ [zkg (zbw ws i)])=true then setsW ws f (i+1) (out ++ [zkg (zbw ws i)]) else (none,i)) else (some out,i)
theorem zd9 {ws:List Wd} {i:Nat} (h:ws.length≤i):zbw ws i=⟨#[]⟩:=by unfold zbw;rw[List.getElem?_eq_none h]
theorem zex {ws:List Wd} {i:Nat} (h:i < ws.length):zbw ws i=⟨ws[i].2.toArray⟩:=by unfold zbw;rw[List.getElem?_eq_getElem h]
theorem zpw {ws:List Wd} {fin:Int} {i:Nat} (h:ws.length≤i):zb2 ws fin i=fin:=by unfold zb2;rw[List.getElem?_eq_none h]
theorem zl7 {ws:List Wd} {fin:Int} {i:Nat} (h:i < ws.length):zb2 ws fin i=ws[i].1:=by unfold zb2;rw[List.getElem?_eq_getElem h]
theorem has_none:hasB 61 ⟨#[]⟩=false:=by decide
def zbf (ws:List Wd) (i:Nat) (out:List Setg):Option (List Setg) × Nat:=setsW ws (ws.length - i) i out
theorem zjj {ws:List Wd} {i:Nat} {out:List Setg} (h:hasB 61 (zbw ws i)=false):zbf ws i out=(some out,i):=by
 unfold zbf
 cases hf:ws.length - i with
 | zero=>rfl
 | succ f=>unfold setsW;rw[if_neg (by rw[h];simp)]
theorem zpn {ws:List Wd} {i:Nat} (h:hasB 61 (zbw ws i)=true):i < ws.length:=by
 apply Nat.lt_of_not_le
 intro hk
 rw[zd9 hk,has_none] at h
 cases h
theorem zi8 {ws:List Wd} {i:Nat} {out:List Setg} (h:hasB 61 (zbw ws i)=true) (hw:ze4 (out ++ [zkg (zbw ws i)])=true):zbf ws i out=zbf ws (i+1) (out ++ [zkg (zbw ws i)]):=by
 have hl:=zpn h
 unfold zbf
 obtain⟨f,hf⟩ : ∃ f,ws.length - i=f+1:=⟨ws.length - i - 1,by omega⟩
 rw[hf,show ws.length - (i+1)=f by omega]
 show (if _ then _ else _)=_
 rw[if_pos h,if_pos hw]
theorem zi9 {ws:List Wd} {i:Nat} {out:List Setg} (h:hasB 61 (zbw ws i)=true) (hw:ze4 (out ++ [zkg (zbw ws i)])=false):zbf ws i out=(none,i):=by
 have hl:=zpn h
 unfold zbf
 obtain⟨f,hf⟩ : ∃ f,ws.length - i=f+1:=⟨ws.length - i - 1,by omega⟩
 rw[hf]
 show (if _ then _ else _)=_
 rw[if_pos h,if_neg (by rw[hw];simp)]
open Classical in
noncomputable def zfl (t:ByteArray):Bool:=decide (Rd3 t∧rdV t≠[]∧(rdV t).head?≠some (⟨#[]⟩,⟨#[]⟩))
def allV:List BSp:=[(⟨#[]⟩,⟨#[]⟩)]
noncomputable def ze2 (s:ByteArray):Bool:=zbu (cutB 64 s).1.data.toList && (!(cutB 64 s).2.2 || zfl (cutB 64 s).2.1)
noncomputable def zeo (s:ByteArray):List BSp:=if (cutB 64 s).2.2=true then rdV (cutB 64 s).2.1 else allV
noncomputable def zbb (ws:List Wd) (i:Nat):Option Spc3 × Nat :=
 if ze2 (zbw ws i)=true then ((zbf ws (i+1) []).1.map fun l=>((cutB 64 (zbw ws i)).1,zeo (zbw ws i),l),(zbf ws (i+1) []).2) else (none,i)
def zlx:ByteArray:=⟨#[114,111,111,116]⟩
def zd4 (l:Ln):Int:=match l.2.getLast? with
 | some x=>x.1+x.2.length
 | none=>0
noncomputable def zdt (l:Ln):Option Spc3 × Int :=
 if zbw l.2 0=zlx then
  match zbb (l.2.drop 1) 0 with
  | (some s,j)=>if j < l.2.length - 1 then (none,zb2 (l.2.drop 1) (zd4 l) j) else (some s,0)
  | (none,j)=>(none,zb2 (l.2.drop 1) (zd4 l) j)
 else (none,zb2 l.2 (zd4 l) 0)
structure zq6 where
 roots:List (Spc3 × Int)
 at1:Int
 at2:Int
 e:Int
noncomputable def zh1:List Ln→List (Spc3 × Int)→zq6
 | [],out=>⟨out,0,0,0⟩
 | l :: r,out=>match zdt l with
  | (some s,_)=>zh1 r (out ++ [(s,l.1)])
  | (none,c)=>⟨[],l.1,c,2⟩
noncomputable def zid (t:List UInt8):zq6:=if (LexM.docLines t).e=0 then zh1 (LexM.docLines t).lines [] else ⟨[],(LexM.docLines t).at1,(LexM.docLines t).at2,(LexM.docLines t).e⟩
end
end Go.Proofs.YteailgjiifdgcaaGreatDoor
