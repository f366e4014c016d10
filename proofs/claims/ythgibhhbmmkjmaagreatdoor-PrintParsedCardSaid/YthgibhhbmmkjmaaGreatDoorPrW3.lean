/- Walks and plain facts. Condition: none beyond what each says. -/
import Derived.Test.YthgibhhbmmkjmaaGreatDoorPrW2
import Derived.Test.YthgibhhbmmkjmaaGreatDoorRows
set_option linter.unusedVariables false
set_option linter.unusedSimpArgs false
set_option maxRecDepth 10000
set_option maxHeartbeats 40000000
namespace Go.Proofs.YthgibhhbmmkjmaaGreatDoor
open Go.Proofs.Tryz
variable {B N b bs c c1 c2 c3 c4 c5 c6 cap d3 d4 d5 e2 f g hi i j k m m2 n n1 n2 n3 n4 n5 n6 r sz x:Nat}
variable {S T:Nat→Prop}
variable {W W' w w' w0 w1 w3 w9:World}
variable {a a1 a2 b2 b3 b4 b5 b6 b7 d2:Option Addr}
variable {args cs tmps:Array Value}
variable {bN:List (List Value)}
variable {e ty:TypeId}
variable {l pre:List ByteArray}
variable {nm q s:ByteArray}
variable {ov sv u u2 v v' v1 v2 v9 wv y z:Value}
variable {p:List UInt8}
variable {rv:List Value}
variable {t:Nat→Nat}
section
open RowKit
open ac (Bs Wd Ln St)
abbrev bv(s:Bs):Value:=.string ⟨s.toArray⟩
def mF(x:Wd):List Value:=[.int .i64 x.1,bv x.2]
def Fm(s:Bs):List Value:=s.map fun c=>.int .u8 c.toNat
def vt(out:List Ln)(rv:List Value):List Value:=(out.zip rv).flatMap fun x=>[.int .i64 x.1.1,x.2]
theorem zwp:up prog 57 5 (.int .u8 0) 1 1:=⟨NY,by kernel_rfl,rfl,by decide⟩
theorem acv:up prog 77 81 (.agg #[.int .i64 0,.string ⟨#[]⟩]) 2 24:=⟨underlying77,by kernel_rfl,rfl,by decide⟩
theorem zqq:up prog 74 79 (.agg #[.int .i64 0,.slice none 0 0]) 2 32:=⟨underlying74,by kernel_rfl,rfl,by decide⟩
def kx(s:St)(wv sv ov:Value):Array Value:=#[.int .i64 s.line,.int .i64 s.mp,.int .i64 s.gc,.bool s.off,wv,sv,ov]
structure eO(w0:World)(x:Nat)(s:St)(wv sv ov:Value)(rv:List Value)(w:World):Prop where
 cells:w.heap[x]?=some (.cells (kx s wv sv ov) 117 (0,0))
 word:w.ownsRow w0.heap.size 5 1 wv s.word.length (Fm s.word)
 words:w.ownsRow w0.heap.size 81 2 sv s.words.length (s.words.flatMap mF)
 out:w.ownsRow w0.heap.size 79 2 ov s.out.length (vt s.out rv)
 K6:rv.length=s.out.length
 rows:∀(i:Nat)(ln:Ln)(v:Value),s.out[i]?=some ln→rv[i]?=some v→w.ownsRow w0.heap.size 81 2 v ln.2.length (ln.2.flatMap mF)∧∀k,v.ownBlock=some k→sv.ownBlock≠some k
 bm:Below w0.heap.size w0 w
 xB:w0.heap.size≤x
theorem eO.xs{s:St}(h:eO w0 x s wv sv ov rv w):x<w.heap.size:=(bS.1 h.cells).1
theorem eO.to{s s':St}{wv' sv':Value}(h:eO w0 x s wv sv ov rv w)(a:am (fun k=>k=x) w w')
  (d:w'.heap[x]?=some (.cells (kx s' wv' sv' ov) 117 (0,0)))
  (h1:(wv'=wv∧s'.word=s.word)∨(wv'=.slice none 0 0∧s'.word=[])) (c:(sv'=sv∧s'.words=s.words)∨(sv'=.slice none 0 0∧s'.words=[])) (b:s'.out=s.out):eO w0 x s' wv' sv' ov rv w':=by
 have f:=dM h.word h.cells D;have g:=dM h.words h.cells D;have j:=dM h.out h.cells D;refine⟨d,?_,?_,?_,by rw[b];exact h.K6,?_,h.bm.trans (a.below h.bm.size (fun k hk=>Vx)),h.xB⟩
 ·rcases h1 with⟨rfl,e⟩|⟨rfl,e⟩
  ·rw[e];exact a.owns h.word (fun k hk e=>f we)
  rw[e];exact pd _ _ _ _
 ·rcases c with⟨rfl,e⟩|⟨rfl,e⟩
  ·rw[e];exact a.owns h.words (fun k hk e=>g we)
  rw[e];exact pd _ _ _ _
 ·rw[b];exact a.owns h.out (fun k hk e=>j we)
 intro i l v hi m;rw[b]at hi;obtain⟨r1,r2⟩:=h.rows i l v hi m;have n:=dM r1 h.cells D;refine⟨a.owns r1 (fun k hk e=>n we),fun k hk=>?_⟩;rcases c with⟨rfl,e⟩|⟨rfl,e⟩
 ·exact r2 k hk
 simp[Value.ownBlock]
theorem eO.o8{s:St}(h:eO w0 x s wv sv ov rv w)(a:am (fun _=>False) w w'):eO w0 x s wv sv ov rv w' :=
 h.to (a.mono (fun _ _ h=>h.elim)) (bI h.cells a (fun h=>h)) (.inl ⟨rfl,rfl⟩) (.inl ⟨rfl,rfl⟩) rfl
theorem eO.pushByte{s:St}(h:eO w0 x s wv sv ov rv w)(c:UInt8){wv':Value}
  (a:w3.ownsRow w0.heap.size 5 1 wv' (s.word.length+1) (Fm s.word++[.int .u8 c.toNat])) (b:w.grownBy w3 wv.ownBlock) :
  eO w0 x { s with word:=s.word++[c] } wv' sv ov rv (w3.setCell ⟨x,4,none⟩ wv'):=by
 have d:=dM h.word h.cells D;have f1:am (fun k=>wv.ownBlock=some k) w w3:=(am.refl _ w).grown b (fun k hk=>.inr hk);have jj:=bI h.cells f1 d;have f2:am (fun k=>k=x) w3 (w3.setCell ⟨x,4,none⟩ wv'):=am.setCell (S:=fun k=>k=x) (am.refl _ _) (p:=⟨x,4,none⟩) (.inr rfl) _;have f:=dM a jj D;refine⟨?_,?_,?_,?_,h.K6,?_,?_,h.xB⟩
 ·rw[ag w3 x 4 _ _ wv' jj];rfl
 ·simp only[bM,rD,Fm,oP];exact f2.owns a (fun k hk e=>f we)
 ·have:=f1.owns h.words (fun k hk e=>zp h.words h.word D k hk e);exact RG
 ·have:=f1.owns h.out (fun k hk e=>zp h.out h.word D k hk e);exact RG
 ·intro i g v hi j;obtain⟨r1,r2⟩:=h.rows i g v hi j;have:=f1.owns r1 (fun k hk e=>zp r1 h.word D k hk e);have tt:=dM this jj D;exact⟨f2.owns this (fun k hk e=>tt we),r2⟩
 have b1:Below w0.heap.size w w3:=f1.below h.bm.size (fun k hk=>(h.word.lt k hk).1);exact WQ
theorem eO.pushWord{s:St}(h:eO w0 x s wv sv ov rv w)(a:Wd){sv':Value}
  (b:w3.ownsRow w0.heap.size 81 2 sv' (s.words.length+1) (s.words.flatMap mF++mF a)) (c:w.grownBy w3 sv.ownBlock) (d:mh w sv sv') :
  eO w0 x { s with words:=s.words++[a] } wv sv' ov rv (w3.setCell ⟨x,5,none⟩ sv'):=by
 have f:=dM h.words h.cells D;have f1:am (fun k=>sv.ownBlock=some k) w w3:=(am.refl _ w).grown c (fun k hk=>.inr hk);have jj:=bI h.cells f1 f;have f2:am (fun k=>k=x) w3 (w3.setCell ⟨x,5,none⟩ sv'):=am.setCell (S:=fun k=>k=x) (am.refl _ _) (p:=⟨x,5,none⟩) (.inr rfl) _;have g:=dM b jj D;refine⟨?_,?_,?_,?_,h.K6,?_,?_,h.xB⟩
 ·rw[ag w3 x 5 _ _ sv' jj];rfl
 ·have:=f1.owns h.word (fun k hk e=>zp h.word h.words D k hk e);exact RG
 ·simp only[bM,rD,rm,oR,Qy,h_];exact f2.owns b (fun k hk e=>g we)
 ·have:=f1.owns h.out (fun k hk e=>zp h.out h.words D k hk e);exact RG
 ·intro i j v hi l;obtain⟨r1,r2⟩:=h.rows i j v hi l;have:=f1.owns r1 (fun k hk e=>r2 k hk e);have tt:=dM this jj D;refine⟨f2.owns this (fun k hk e=>tt we),fun k hk e=>?_⟩;rcases d k e with e|e
  ·exact r2 k hk e
  have:=(r1.lt k hk).2;omega
 have b1:Below w0.heap.size w w3:=f1.below h.bm.size (fun k hk=>(h.words.lt k hk).1);exact WQ
theorem zny{out:List Ln}(h:rv.length=out.length)(a:Ln)(v:Value):vt (out++[a]) (rv++[v])=vt out rv++[.int .i64 a.1,v]:=by
 unfold vt;rw[List.zip_append h.symm];simp
theorem eO.pushLine{s s':St}(h:eO w0 x s wv sv ov rv w){b:Value}
  (d:w3.ownsRow w0.heap.size 79 2 b (s.out.length+1) (vt s.out rv++[.int .i64 s.line,sv])) (hg:w.grownBy w3 ov.ownBlock) (hf:am (fun k=>k=x) w3 w')
  (j:w'.heap[x]?=some (.cells (kx s' wv (.slice none 0 0) b) 117 (0,0))) (h1:s'.word=s.word) (l:s'.words=[]) (c:s'.out=s.out++[(s.line,s.words)]) :
  eO w0 x s' wv (.slice none 0 0) b (rv++[sv]) w':=by
 have m:=dM h.out h.cells D;refine Xg ?_;intro f1;have jj:=bI h.cells f1 m;have n:=dM d jj D;refine⟨j,?_,?_,?_,by rw[c];simp[h.K6],?_,?_,h.xB⟩
 ·rw[h1];have:=f1.owns h.word (fun k hk e=>zp h.word h.out D k hk e);exact WK
 ·rw[l];exact pd _ _ _ _
 ·rw[c,zny h.K6,bM];exact hf.owns d (fun k hk e=>n we)
 ·intro i p v hi a;refine⟨?_,X_⟩;rw[c]at hi;by_cases f:i<s.out.length
  ·rw[pS f]at hi;rw[pS (by rw[h.K6];exact f)]at a;obtain⟨g,_⟩:=h.rows i p v hi a;have:=f1.owns g (fun k hk e=>zp g h.out D k hk e);exact WK
  have q:=(ie.1 hi).1;simp at q;obtain rfl:i=s.out.length:=Z;have r:=h.K6;rw[nC (aE _)]at hi;rw[←r,nC (aE _)]at a;simp at hi a;subst hi;subst a;have:=f1.owns h.words (fun k hk e=>zp h.words h.out D k hk e);exact WK
 have t:Below w0.heap.size w w3:=f1.below h.bm.size (fun k hk=>(h.out.lt k hk).1);exact (h.bm.trans t).trans (hf.below avo (fun k hk=>Vx))
structure Small(s:St)(m:Nat):Prop where
 mp:0≤s.mp∧s.mp≤m
 line:0≤s.line∧s.line≤m+1
 gc:0≤s.gc∧s.gc≤m
 word:s.word.length≤m
 words:s.words.length≤m
 out:s.out.length≤m
 begun:0<s.gc→s.word≠[]
def RWd:Rd Wd:=fun _ cs x=>cs=mF x∧(Lit.int .i64 x.1).wf=true∧x.2.length≤maxLen
def RLn:Rd Ln:=fun w cs x=>∃v,cs=[.int .i64 x.1,v]∧ct 2 RWd w [v] x.2∧(Lit.int .i64 x.1).wf=true
abbrev RLns:Rd (List Ln):=ct 2 RLn
theorem lz:nJ RWd:=fun _ _ _ _ h _=>h
theorem stays_ln:nJ RLn:=fun _ _ _ _ ⟨v,h1,a,b⟩ c=>⟨v,h1,bz lz _ _ _ _ a c,b⟩
theorem zmg:nJ RLns:=bz stays_ln
theorem zgq{α:Type}{l:List α}(f:α→List Value)(R:Rd α)(c:∀x∈l,(f x).length=sz)(d:∀x∈l,R w (f x) x)(h:w.ownsRow B e sz v l.length (l.flatMap f)):ct sz R w [v] l:=by
 have k:∀(i:Nat) x,l[i]?=some x→∀j u,(f x)[j]?=some u→(l.flatMap f)[i*sz+j]?=some u:=by
  clear h d
  induction l with
  |nil=>intro i x hi;simp at hi
  |cons a l m=>
   intro i x hi j u b;rw[oR];have n:=c a ae;have q:j<sz:=by have r:=c x (uQ hi);have:=(ie.1 b).1;omega
   match i,hi with
   |0,hi=>simp at hi;subst hi;rw[pS Z];simpa using b
   |i+1,hi=>have s:sz≤(i+1)*sz+j:=Tf;rw[nC Z,n,show (i+1)*sz+j-sz=i*sz+j from Tf];exact m (fun y hy=>c y vy) i x Te j u b
 rcases h.2 with⟨rfl,h0⟩|⟨g,cap,_,rfl,_,_,o,p,_,_⟩
 ·exact⟨none,0,by rw[h0],Z,bj _,fun i x hi=>atv⟩
 refine⟨some ⟨g,0,none⟩,cap,rfl,o,p,fun i x hi=>⟨g,0,f x,rfl,c x (uQ hi),fun j u b=>?_,d x (uQ hi)⟩⟩;have:=h.cells (g:=g) rfl (i*sz+j) u (k i x hi j u b);rw[tX]at this;simpa [rn] using this
theorem zzi{c:Value}{l:List Ln}(h:RLns w [c] l):∃a cap,c=.slice a l.length cap∧l.length≤cap∧cap≤maxLen∧
  ∀(i:Nat)(hi:i<l.length),∃b off,a=some ⟨b,off,none⟩∧w.cell? ⟨b,off+i*2,none⟩=some (.int .i64 l[i].1)∧∃v,w.cell? ⟨b,off+i*2+1,none⟩=some v∧ct 2 RWd w [v] l[i].2:=by
 obtain⟨a,cap,d,h1,e,f⟩:=h;simp only[nj,lv]at d;refine⟨a,cap,d,h1,e,fun i hi=>?_⟩;obtain⟨b,off,hH,ha,hl,hc,v,fB,jl,_⟩:=f i l[i] (bR hi);subst fB;exact⟨b,off,ha,by simpa using hc 0 _ rfl,v,by simpa using hc 1 _ rfl,jl⟩
theorem wd_cell{c:Value}{l:List Wd}(h:ct 2 RWd w [c] l):∃a cap,c=.slice a l.length cap∧l.length≤cap∧cap≤maxLen∧
  ∀(i:Nat)(hi:i<l.length),∃b off,a=some ⟨b,off,none⟩∧w.cell? ⟨b,off+i*2,none⟩=some (.int .i64 l[i].1)∧w.cell? ⟨b,off+i*2+1,none⟩=some (bv l[i].2):=by
 obtain⟨a,cap,d,h1,e,f⟩:=h;simp only[nj,lv]at d;refine⟨a,cap,d,h1,e,fun i hi=>?_⟩;obtain⟨b,off,hH,ha,hl,hc,fB,_⟩:=f i l[i] (bR hi);subst fB;exact⟨b,off,ha,by simpa [mF] using hc 0 _ rfl,by simpa [mF] using hc 1 _ rfl⟩
def wt:List Wd→Bs
 |[]=> []
 |x::r=>x.2++r.flatMap fun y=>32::y.2
def ltx(l:List Ln):Bs:=l.flatMap fun ln=>wt ln.2++[10]
theorem wt_snoc(ws:List Wd)(x:Wd):wt (ws++[x])=wt ws++((if ws.length=0 then [] else [32])++x.2):=by
 cases ws with
 |nil=>simp[wt]
 |cons y r=>simp[wt]
theorem zrt{α:Type}(l:List α)(k:Nat)(h:k<l.length):l.take (k+1)=l.take k++[l[k]]:=by
 rw[List.take_add_one,bR h];rfl
theorem ltx_take(l:List Ln)(k:Nat):(ltx (l.take k)).length≤(ltx l).length:=by
 conv=>rhs;rw[←mi k l]
 unfold ltx;rw[rm,bM];omega
theorem ltx_snoc(l:List Ln)(k:Nat)(h:k<l.length):ltx (l.take (k+1))=ltx (l.take k)++(wt l[k].2++[10]):=by
 rw[zrt l k h];unfold ltx;rw[rm];simp
theorem wt_take(ws:List Wd)(j:Nat):(wt (ws.take j)).length≤(wt ws).length:=by
 induction ws generalizing j with
 |nil=>simp
 |cons x r _=>
  match j with
  |0=>simp[wt]
  |j+1=>
   simp only[Si,wt,bM]
   have:((r.take j).flatMap fun y=>(32:UInt8)::y.2).length≤(r.flatMap fun y=>(32:UInt8)::y.2).length:=by
    conv=>rhs;rw[←mi j r]
    rw[rm,bM];omega
   omega
theorem text_any{ao:Value}{l:List Ln}(h:RLns w [ao] l)(_:(ltx l).length≤100000000):Calls prog 64 #[ao] w fun e w'=>e=.returned (.string ⟨(ltx l).toArray⟩)∧Below w.heap.size w w':=by
 obtain⟨_,_,rfl,_,aN,au⟩:=zzi h;unfold maxLen at aN;obtain⟨b,hb⟩:=Y w.heap.size;have h0:=bld_new w;have av:Below w.heap.size w (w.alloc (.cells #[.pointer none,.slice none 0 0] 59)):=(aL _ _).alloc (aE _) _;by_cases aa:l.length=0
 ·have aO:l=[]:=oT aa;subst aO;have K:=dq w (.cells #[.pointer none,.slice none 0 0] 59);revert hb h0 av h au aa K;refine eb ?_;intro m L u aP ax aR N;go_enter func64,ntmps64;go_wp2_with fail;go_loop [10] (fun i=>i=.int .i64 0) (fun i=>0)
  case atStart=>rfl
  case round=>
   subst hrel;go_wp2_with fail;refine (aar _ N.o).mono ?_;refine KS ?_;intro w2 bh;go_wp2_with fail;go_ret;exact⟨rfl,u.o.trans (bh.o.mono u.o.size)⟩
 have aS:0<l.length:=Z;revert h au hb h0 av aa;refine bX ?_;intro aP ax m L u aR;go_enter func64,ntmps64;go_wp2_with fail;rw[←m.o]at L;obtain⟨w1,oe⟩:=Y (w.alloc (.cells #[.pointer none,.slice none 0 0] 59));rw[←oe]at L u⊢;rw[←m.o]at u⊢;clear oe;go_loopw [10] (fun i wr=>∃k:Nat,k≤l.length∧i=.int .i64 k∧Bld b b (ltx (l.take k)) wr∧Below b w wr) (fun i _=>l.length-(intOf i).toNat)
 case atStart=>exact⟨0,Z,rfl,L.o,u.o⟩
 case round=>
  obtain⟨k,_,rfl,v,y⟩:=hrel;by_cases ay:k<l.length
  ·have ad:Below w.heap.size w wr:=by rw[←m.o];exact y
   have aT:=y.size;obtain⟨_,_,ae,c1,v1,c2,az⟩:=ax.o k ay;subst ae;obtain⟨wa,wc,rfl,oe,eo,ea⟩:=wd_cell az;obtain⟨A,hA⟩:=Y (l[k]);rw[←hA]at c1 c2 oe ea;have aU:=ab ad c1;have aV:=ab ad c2;unfold maxLen at eo;have R:=ltx_snoc l k ay;rw[←hA]at R;have ag:=ltx_take l (k+1);rw[R]at ag;simp only[bM,rD]at ag;obtain⟨pre,aal⟩:=Y (ltx (l.take k));rw[←aal]at v R ag;have aY:Bld b b (pre++wt (A.2.take 0)) (wr.alloc (.cells #[.int .i64 A.1,.slice wa A.2.length wc] 79)):=by simp only[Sq,wt,h_];exact pu v ((aL _ _).alloc (aE _) _)
   have aZ:Below b w (wr.alloc (.cells #[.int .i64 A.1,.slice wa A.2.length wc] 79)):=y.alloc (by rw[m.o];exact aT) _;revert y ad az ea hA R v aal aY aZ;refine dE ?_;intro aA _ _ a1 _ a6 a7 _ aB aC;clear c1 c2;go_wp2_with fail;obtain⟨w3,auv⟩:=Y (wr.alloc (.cells #[.int .i64 A.1,.slice wa A.2.length wc] 79));rw[←auv]at aB aC⊢;clear auv aU aV;go_loopw [17] (fun i wr=>∃j:Nat,j≤A.2.length∧i=.int .i64 j∧Bld b b (pre++wt (A.2.take j)) wr∧Below b w wr) (fun i _=>A.2.length-(intOf i).toNat)
   case atStart=>exact⟨0,Z,rfl,aB.o,aC.o⟩
   case round=>
    obtain⟨j,_,rfl,q,s⟩:=hrel;by_cases aD:j<A.2.length
    ·have z:Below w.heap.size w wr:=by rw[←m.o];exact s
     have aF:=z.size;obtain⟨b2,_,ae,d1,d2⟩:=a1.o j aD;subst ae;obtain⟨X,hX⟩:=Y (A.2[j]);rw[←hX]at d1 d2;have bj:=ab z d1;have bk:=ab z d2;have dT:wt (A.2.take (j+1))=wt (A.2.take j)++((if j=0 then [] else [32])++X.2):=by rw[zrt _ _ aD,wt_snoc,tZ,Nat.min_eq_left Z,hX]
     have p:=wt_take A.2 (j+1);rw[dT]at p;simp only[bM]at p;have S:Bld b b (pre++wt (A.2.take j)) (wr.alloc (.cells #[.int .i64 X.1,bv X.2] 81)):=pu q ((aL _ _).alloc (aE _) _);have K:=dq wr (.cells #[.int .i64 X.1,bv X.2] 81);have aG:Below b w (wr.alloc (.cells #[.int .i64 X.1,bv X.2] 81)):=s.alloc (by rw[m.o];exact aF) _;have T:(⟨X.2.toArray⟩:ByteArray).size=X.2.length:=by show X.2.toArray.size=_;simp
     have bl:b≤wr.heap.size:=by rw[m.o];exact aF
     by_cases U:j=0
     ·rw[M U]at dT p;have bm:j≤0:=Z;have B:=A1 S ⟨X.2.toArray⟩ (by rw[T,bM];simp at p;omega) aX;have C:(pre++wt (A.2.take j))++(⟨X.2.toArray⟩:ByteArray).data.toList=pre++wt (A.2.take (j+1)):=by rw[dT];simp
      rw[C]at B;revert q s z hX dT p S K aG T U B;refine nL ?_;intro aH ah a8 ba aI _ bb N ai bc _ aj;clear d1 d2;go_wp2_with fail;refine aj.o.mono ?_;rintro e w5 ⟨rfl,Ck,aW,ji⟩;have n:=ai.o.trans aW;revert Ck aW ji n;refine bV ?_;intro W al aJ t;go_wp2_with fail;go_roundw
      case rel=>exact⟨j+1,Z,cj,W.o,t.o⟩
      case measure=>simp[intOf];omega
     rw[E U]at dT p;have bn:0<j:=Z;have F:=zxe S 32 (by rw[bM];simp at p;omega) aX;revert q s z hX dT S K aG F;refine fK ?_;intro aH ah a8 ba aI bb N ai an;clear d1 d2 U;go_wp2_with fail;refine an.o.mono ?_;rintro e w5 ⟨rfl,Ck,aW,ji⟩;have n:=ai.o.trans aW;have aK:=ji _ _ _ _ N.o D D;have bd:=cell_of_row _ wr.heap.size 1 _ _ _ aK;simp only[aq,aw,ar]at bd;have B:=A1 Ck ⟨X.2.toArray⟩ (by rw[T,bM,bM];simp at p⊢;omega) (by rw[m.o];exact n.size);have C:(pre++wt (A.2.take j)++[32])++(⟨X.2.toArray⟩:ByteArray).data.toList=pre++wt (A.2.take (j+1)):=by rw[aI.o];simp
     rw[C]at B;revert T Ck aW ji n aK B;refine eb ?_;intro bc W al aJ t _ aj;go_wp2_with fail;refine aj.o.mono ?_;rintro e w6 ⟨rfl,hB6,cX,nu⟩;have be:=t.o.trans cX;revert hB6 cX nu be;refine bV ?_;intro HB6 je UW aAu;go_wp2_with fail;go_roundw
     case rel=>exact⟨j+1,Z,cj,HB6.o,aAu.o⟩
     case measure=>simp[intOf];omega
    obtain rfl:j=A.2.length:=Z;rw[lH (aE _)]at q;have F:=zxe q 10 (by rw[bM];omega) (by rw[m.o];exact s.size);have C:(pre++wt A.2)++[10]=ltx (l.take (k+1)):=by rw[a6.o,gq]
    rw[C]at F;obtain⟨aH,ah,an⟩:=aQ q s F;clear q s F;go_wp2_with fail;refine an.o.mono ?_;rintro e w5 ⟨rfl,Ck,aW,ji⟩;have n:=ah.o.trans aW;revert Ck aW ji n;refine bV ?_;intro W al aJ t;go_wp2_with fail;go_roundw
    case rel=>exact⟨k+1,Z,cj,W.o,t.o⟩
    case measure=>simp[intOf];omega
  obtain rfl:k=l.length:=Z;rw[lH (aE _)]at v
  have aM:ltx l≠[]:=by
   cases l with
   |nil=>simp at aS
   |cons x r=>simp[ltx]
  have bf:=abi v aM;revert y v aM bf;refine bV ?_;intro aA a7 _ bg;go_wp2_with fail;refine bg.o.mono ?_;rintro e w5 ⟨rfl,aW⟩;have n:=aA.o.trans aW;obtain⟨al,t⟩:=ak aW n;clear aW n;go_wp2_with fail;go_ret;exact⟨rfl,by rw[←m.o];exact t.o⟩
theorem ofNat_toNat(c:UInt8):UInt8.ofNat ((c.toNat:Int)).toNat=c:=by simp
theorem strOf(s:Bs):strOfNums (s.map fun c=>((c.toNat:Int)))=⟨s.toArray⟩:=by
 unfold strOfNums;congr 2;rw[wY]
 conv=>rhs;rw[←List.map_id s]
 apply Ol
 intro c _;simp
theorem yf2{s:Bs}(h:w.ownsRow B 5 1 v s.length (Fm s))(a:s≠[]):(convert 57 9 v).run prog w=.ok (bv s) w:=by
 have b:=vk.2 a;obtain⟨g,cap,rfl,_,_,_,_,d⟩:=AH h b
 have:=run_convert_bytes_arg (P:=prog) (w:=w) 57 5 NY underlying5 g 0 s.length cap (s.map fun c=>((c.toNat:Int))) ae (fun i hi=>by
  have h1:(Fm s)[i]?=some (.int .u8 (s[i].toNat:Int)):=by simp[Fm,hi]
  rw[og,d i _ h1];simp[List.getD,hi]) 9 ox
 rw[this,strOf]
theorem eO.setEnds{s:St}(h:eO w0 x s wv sv ov rv w):
  eO w0 x { s with gc:=0,word:=[] } (.slice none 0 0) sv ov rv ((w.setCell ⟨x,2,none⟩ (.int .i64 0)).setCell ⟨x,4,none⟩ (.slice none 0 0)):=by
 have f1:am (fun k=>k=x) w (w.setCell ⟨x,2,none⟩ (.int .i64 0)):=am.setCell (S:=fun k=>k=x) (am.refl _ _) (p:=⟨x,2,none⟩) (.inr rfl) _;have f2:=am.setCell f1 (p:=⟨x,4,none⟩) (.inr rfl) (.slice none 0 0);refine h.to f2 ?_ (.inr ⟨rfl,rfl⟩) (.inl ⟨rfl,rfl⟩) rfl;have h1:=ag w x 2 _ _ (.int .i64 0) h.cells;rw[ag _ x 4 _ _ (.slice none 0 0) h1];rfl
abbrev lexp(x:Nat):Value:=.pointer (some ⟨x,0,none⟩)
def FZ(w0:World)(x:Nat)(s:St)(e:Ending)(w':World):Prop:=e=.returned (.tuple #[])∧∃wv sv ov rv,eO w0 x s wv sv ov rv w'
theorem ztz{s s':St}(h:eO w0 x s' wv sv ov rv w)(e:s'=s):FZ w0 x s (.returned (.tuple #[])) w:=⟨rfl,wv,sv,ov,rv,e ▸ h⟩
theorem ends_some{s:St}(h:eO w0 x s wv sv ov rv w)(_:m≤1000000)(f:Small s m)(j:0<s.gc):
  Calls prog 82 #[lexp x] w (FZ w0 x (ac.ends s)):=by
 have n:=f.begun j;have B:=f.words;have p:=h.bm.size;have q:(convert 57 9 wv).run prog w.drew=.ok (bv s.word) w.drew:=yf2 (w:=w.drew) h.word n;have r:=dM h.words h.cells D;have c2:=J h.cells 2;have c4:=J h.cells 4;have c5:=J h.cells 5;simp only[kx,aq,aw,ar]at c2 c4 c5;have t:∀o:Obj,(w.alloc o).cell? ⟨x,5,none⟩=some sv:=fun o=>((am.refl _ w).alloc o).o8 c5;have u:(w.drew).ownsRow w0.heap.size 81 2 sv s.words.length (s.words.flatMap mF):=h.words;have v:w0.heap.size≤w.drew.heap.size:=p;revert h f r u;refine bV ?_;intro Hh Hs dV wF;go_enter func82,ntmps82;go_wp2_with fail;go_region_law (refine xl acv (w:=w.drew) rfl (.tmp 11) (.tmp 22) rfl w0.heap.size sv s.words.length (s.words.flatMap mF) rfl wF.o 1 D #[.int .i64 s.gc,bv s.word] rfl rfl (by simp[Value.oneCell',bv]) Z cY v ?_;intro g8 c8 w8 lu iG qU;have g:=bI Hh.o.cells ((am.drew (am.refl _ w)).grown iG (S:=fun k=>sv.ownBlock=some k) (fun k i=>.inr i)) dV.o;have d5:=J g 5;have y:=aG g 5;simp only[kx,aq,aw,ar]at d5)
 all_goals
  have e:=Hh.o.pushWord (s.gc,s.word) lu (zcw iG) (fun k i=>qU k i);obtain⟨w9,fN⟩:=Y (w8.setCell ⟨x,5,none⟩ (.slice (some ⟨g8,0,none⟩) (s.words.length+1) c8));rw[←fN]at e⊢;have C:=aG e.cells 2;have F:=aG e.cells 4;have z:=J e.cells 2;have A:=J e.cells 4;simp only[kx,aq,aw,ar]at z A;have l:=e.setEnds;obtain⟨HP,HL⟩:=ak e l;clear e l;clear lu iG qU g d5 y fN c2 c4 c5 t q;go_wp2_with fail;go_end0
  exact ztz HL.o (by unfold ac.ends;rw[if_pos j])
theorem ends_none{s:St}(h:eO w0 x s wv sv ov rv w)(_:¬0<s.gc):
  Calls prog 82 #[lexp x] w (FZ w0 x (ac.ends s)):=by
 have g:=aG h.cells 2;have i:=aG h.cells 4;have d:=J h.cells 2;have e:=J h.cells 4;simp only[kx,aq,aw,ar]at d e;have c:=h.setEnds;obtain⟨_,f⟩:=ak h c;clear h c;go_enter func82,ntmps82;go_wp2_with fail;go_end0
 exact ztz f.o (by unfold ac.ends;rw[if_neg Z])
theorem zox{s:St}(h:eO w0 x s wv sv ov rv w)(b:m≤1000000)(c:Small s m):
  Calls prog 82 #[lexp x] w (FZ w0 x (ac.ends s)):=by
 by_cases a:0<s.gc
 ·exact ends_some h b c a
 exact ends_none h a
theorem ends_len(s:St)(m:Nat)(h:s.words.length≤m):(ac.ends s).words.length≤m+1:=by
 unfold ac.ends;dsimp only;split<;>(try simp)<;>omega
theorem zzx{s:St}(h:eO w0 x s wv sv ov rv w)(p:m≤1000000)(g:Small s m)(j:(ac.ends s).words≠[]):
  Calls prog 43 #[lexp x] w (FZ w0 x (ac.breaks s)):=by
 have q:=aH (zox h p g);have R:=g.out;have T:=g.line;have r:=ends_len s m g.words;have t:=vk.2 j;obtain⟨_,_,u⟩:=aQ h g j;clear h g j;go_enter func43,ntmps43;go_wp2_with fail;refine q.o.mono ?_;rintro e w1 ⟨rfl,Cu,Mw,AG,E3,h1⟩;have v:=h1.bm.size;have y:=dM h1.out h1.cells D;obtain⟨sa,sc,rfl⟩:=bg h1.words;have l:=J h1.cells 0;have c5:=J h1.cells 5;have c6:=J h1.cells 6;simp only[kx,ac.ends,aq,aw,ar]at l c5 c6;obtain⟨ws,dT⟩:=Y ((ac.ends s).words);have z:w1.cell? ⟨x,5,none⟩=some (.slice sa ws.length sc):=by rw[dT];exact c5
 rw[←dT]at t r;have A:∀o:Obj,(w1.alloc o).cell? ⟨x,6,none⟩=some AG:=fun o=>((am.refl _ w1).alloc o).o8 c6;have B:(w1.drew).ownsRow w0.heap.size 79 2 AG s.out.length (vt s.out E3):=h1.out;have C:w0.heap.size≤w1.drew.heap.size:=v;revert y h1 dT B;refine bV ?_;intro dV H1 Ai wF;clear c5;go_wp2_with fail;go_region_law (refine xl zqq (w:=w1.drew) rfl (.tmp 14) (.tmp 24) rfl w0.heap.size AG s.out.length (vt s.out E3) rfl wF.o 1 D #[.int .i64 s.line,.slice sa ws.length sc] rfl rfl dW Z cY C ?_;intro g8 c8 w8 lu iG qU;have f:=bI H1.o.cells ((am.drew (am.refl _ w1)).grown iG (S:=fun k=>AG.ownBlock=some k) (fun k hk=>.inr hk)) dV.o;have d6:=J f 6;have U:=aG f 6;simp only[kx,ac.ends,aq,aw,ar]at d6)
 all_goals
  have d0:=J f 0;have d1:=J f 1;have d3:=J f 3;have d5:=J f 5;have W:=aG f 0;have X:=aG f 1;have aa:=aG f 3;have ab:=aG f 5;simp only[kx,ac.ends,aq,aw,ar]at d0 d1 d3 d5;have n:=f;have ad : -9223372036854775808≤s.line+1∧s.line+1≤9223372036854775807:=Z;obtain⟨F,K,L⟩:=aQ lu iG n;clear lu iG n;clear qU f l z c6 A;go_wp2_with fail;go_end0
  have i:ac.breaks s={ (ac.ends s) with out:=s.out++[(s.line,(ac.ends s).words)],words:=[],off:=false,line:=s.line+1,mp:=0 }:=by unfold ac.breaks;rw[E u.o]
  refine ztz (H1.o.pushLine (s':=ac.breaks s) (by have:=F.o;rw[Ai.o]at this;exact this) (zcw K.o) ?_ ?_ ?_ ?_ ?_) rfl
  ·exact aN (aN (aN (aN (aN (am.refl _ w8) 6 _) 5 _) 3 _) 0 _) 1 _
  ·rw[i];have N:=ag _ x 6 _ _ (.slice (some ⟨g8,0,none⟩) (s.out.length+1) c8) L.o;have k1:=ag _ x 5 _ _ (.slice none 0 0) N;exact aha
  ·rw[i]
  ·rw[i]
  rw[i];rfl
theorem zzy{s:St}(h:eO w0 x s wv sv ov rv w)(k:m≤1000000)(f:Small s m)(i:(ac.ends s).words=[]):
  Calls prog 43 #[lexp x] w (FZ w0 x (ac.breaks s)):=by
 have l:=aH (zox h k f);have n:=f.line;obtain⟨_,_,j⟩:=aQ h f i;clear h f i;go_enter func43,ntmps43;go_wp2_with fail;refine l.o.mono ?_;rintro e w1 ⟨rfl,Cu,Mw,AG,E3,h1⟩;obtain⟨sa,sc,rfl⟩:=bg h1.words;have d:=h1.cells;rw[j.o]at d;have d0:=J d 0;have d1:=J d 1;have d3:=J d 3;have d5:=J d 5;have p:=aG d 0;have q:=aG d 1;have r:=aG d 3;have t:=aG d 5;simp only[kx,ac.ends,aq,aw,ar,tO]at d0 d1 d3 d5;have u : -9223372036854775808≤s.line+1∧s.line+1≤9223372036854775807:=Z;obtain⟨H1,axy⟩:=ak h1 d;clear h1 d;go_wp2_with fail;go_end0
 have g:ac.breaks s={ (ac.ends s) with out:=s.out,words:=[],off:=false,line:=s.line+1,mp:=0 }:=by unfold ac.breaks;rw[M j.o]
 refine ztz (H1.o.to (s':=ac.breaks s) (wv':=Cu) (sv':=.slice none 0 0) ?_ ?_ (.inl ⟨rfl,?_⟩) (.inr ⟨rfl,?_⟩) ?_) rfl
 ·exact aN (aN (aN (aN (am.refl _ w1) 5 _) 3 _) 0 _) 1 _
 ·rw[g];have k1:=ag _ x 5 _ _ (.slice none 0 0) axy.o;exact aha
 ·rw[g]
 ·rw[g]
 rw[g];rfl
theorem zsn{s:St}(h:eO w0 x s wv sv ov rv w)(a:m≤1000000)(b:Small s m):
  Calls prog 43 #[lexp x] w (FZ w0 x (ac.breaks s)):=by
 by_cases c:(ac.ends s).words=[]
 ·exact zzy h a b c
 exact zzx h a b c
def zul(w0:World)(x:Nat)(s:St)(v:Value)(e:Ending)(w':World):Prop:=e=.returned v∧∃wv sv ov rv,eO w0 x s wv sv ov rv w'
theorem Aw{s s':St}(h:eO w0 x s' wv sv ov rv w)(e:s'=s)(a:v'=v):zul w0 x s v (.returned v') w:=⟨by rw[a],wv,sv,ov,rv,e ▸ h⟩
theorem eO.scal{s:St}(h:eO w0 x s wv sv ov rv w)(i:Nat)(u:Value)(s':St)(a:((kx s wv sv ov).setIfInBounds i u)=kx s' wv sv ov)(h1:s'.word=s.word)(b:s'.words=s.words)(c:s'.out=s.out):
  eO w0 x s' wv sv ov rv (w.setCell ⟨x,i,none⟩ u):=by
 refine h.to (am.setCell (S:=fun k=>k=x) (am.refl _ _) (p:=⟨x,i,none⟩) (.inr rfl) _) ?_ (.inl ⟨rfl,h1⟩) (.inl ⟨rfl,b⟩) c;rw[ag w x i _ _ u h.cells,a]
theorem yf9{s:St}(h:eO w0 x s wv sv ov rv w)(_:¬0<s.gc):
  Calls prog 83 #[lexp x] w (zul w0 x { s with gc:=s.mp } (.bool (ac.ey s))):=by
 obtain⟨_,_,rfl⟩:=bg h.words;obtain⟨oa,oc,rfl⟩:=bg h.out;have d1:=J h.cells 1;have d2:=J h.cells 2;have d5:=J h.cells 5;have d6:=J h.cells 6;have e2:=aG h.cells 2;simp only[kx,aq,aw,ar]at d1 d2 d5 d6;have c:=h.scal 2 (.int .i64 s.mp) { s with gc:=s.mp } rfl rfl rfl rfl;obtain⟨Hh,HL⟩:=ak h c;clear h c;by_cases h1:s.words.length<40
 ·by_cases d:0<s.words.length
  ·have hb:ac.ey s=true:=by unfold ac.ey;simp[h1,d]
   exact aka
  by_cases e:s.out.length<2000
  ·have hb:ac.ey s=true:=by unfold ac.ey;simp[h1,e]
   have Hb:=O hb;clear hb;go_enter func83,ntmps83;go_wp2_with fail;go_ret;exact Aw HL.o rfl (by rw[Hb.o];exact iB Value.bool (aO Z))
  have hb:ac.ey s=false:=by unfold ac.ey;simp[d,e]
  have Hb:=O hb;clear hb;go_enter func83,ntmps83;go_wp2_with fail;go_ret;exact Aw HL.o rfl (by rw[Hb.o];exact iB Value.bool (be Z))
 have hb:ac.ey s=false:=by unfold ac.ey;simp[h1]
 exact aka
theorem begins_on{s:St}(h:eO w0 x s wv sv ov rv w)(_:0<s.gc):
  Calls prog 83 #[lexp x] w (zul w0 x s (.bool true)):=by
 have d2:=J h.cells 2;simp only[kx,aq,aw,ar]at d2;have b:=O h;clear h;go_enter func83,ntmps83;go_wp2_with fail;go_ret;exact Aw b.o rfl rfl
theorem zt8{s:St}(h:Small s m):Small (ac.ay s) (m+1):=by
 obtain⟨a,b,c,d,e,f,g⟩:=h;refine⟨?_,?_,?_,?_,?_,?_,g⟩<;>simp only[ac.ay]<;>omega
theorem eO.on{s:St}(h:eO w0 x s wv sv ov rv w):eO w0 x (ac.ay s) wv sv ov rv (w.setCell ⟨x,1,none⟩ (.int .i64 (s.mp+1))) :=
 h.scal 1 (.int .i64 (s.mp+1)) (ac.ay s) rfl rfl rfl rfl
def JA(w0:World)(x:Nat)(s:St)(c:UInt8):Ending→World→Prop:=zul w0 x (ac.takes s c).1 (.int .i64 (ac.takes s c).2)
theorem takes_any{s:St}(h:eO w0 x s wv sv ov rv w)(_:m<1000000)(z:Small s m)(c:UInt8):
  Calls prog 42 #[lexp x,.int .u8 c.toNat] w (JA w0 x s c):=by
 have W:=z.mp;have C:c.toNat<256:=c.toNat_lt;have d1:=J h.cells 1;have X:=aG h.cells 1;have F:=h.on;have K:=zt8 z;obtain⟨n,A⟩:=Y c.toNat;rw[←A]at C⊢;simp only[kx,aq,aw,ar]at d1;revert h z F K A;refine bU ?_;intro Hh Hs H2 tM Hn;by_cases r:n=10
 ·have f:ac.takes s c=(ac.breaks (ac.ay s),0):=by unfold ac.takes;rw[if_pos (by rw[←Hn.o];exact r)]
  have L:((n:Int)==10)=true:=Kg;have N:=aH (zsn H2.o Z tM.o);unfold JA;rw[f];obtain⟨Ht,_⟩:=ak f r;clear f r;go_enter Iu,Iv;go_wp2_with fail;refine N.o.mono ?_;exact aky
 have g:¬c.toNat=10:=by rw[←Hn.o];exact r
 have L:((n:Int)==10)=false:=l9;by_cases hA:n<32∨126<n
 ·have f:ac.takes s c=(ac.ay s,3):=by unfold ac.takes;rw[if_neg g,if_pos S3]
  unfold JA;rw[f];clear f r g;by_cases q:n<32
  ·clear hA;exact WO
  have aa:126<n:=Z;clear hA;exact WO
 have ab:32≤n:=Z;have ad:n≤126:=Z;have j:¬(c.toNat<32∨126<c.toNat):=S3;have d3:=J Hh.o.cells 3;simp only[kx,aq,aw,ar]at d3;obtain⟨off,v⟩:=Y s.off;rw[←v]at d3;clear hA r;cases off
 ·have i:¬s.off=true:=by rw[←v];simp
  clear v;by_cases As:n=35
  ·have f:ac.takes s c=({ ac.ends (ac.ay s) with off:=true },0):=by unfold ac.takes;rw[if_neg g,if_neg j,if_neg i,if_pos S4]
   have R:((n:Int)==35)=true:=Kg;have HE:=aH (zox H2.o Z tM.o);unfold JA;rw[f];clear f g j i As;go_enter Iu,Iv;go_wp2_with fail;refine HE.o.mono ?_;rintro e w1 ⟨rfl,Cu,Mw,AG,E3,h1⟩;have T:=J h1.cells 3;have f3:=aG h1.cells 3;simp only[kx,aq,aw,ar]at T;have B:=h1.scal 3 (.bool true) { ac.ends (ac.ay s) with off:=true } rfl rfl rfl rfl;obtain⟨H1,HX⟩:=ak h1 B;clear h1 B;go_wp2_with fail;go_ret;exact Aw HX.o rfl rfl
  have l:¬c.toNat=35:=S4;have R:((n:Int)==35)=false:=l9;by_cases q:n=32
  ·have f:ac.takes s c=(ac.ends (ac.ay s),0):=by unfold ac.takes;rw[if_neg g,if_neg j,if_neg i,if_neg l,if_pos (by rw[←Hn.o];exact q)]
   have U:((n:Int)==32)=true:=Kg;have HE:=aH (zox H2.o Z tM.o);unfold JA;rw[f];clear f g j i As l q;go_enter Iu,Iv;go_wp2_with fail;refine HE.o.mono ?_;exact aky
  have t:¬c.toNat=32:=by rw[←Hn.o];exact q
  have U:((n:Int)==32)=false:=l9;by_cases p:0<s.gc
  ·have f:ac.takes s c=({ ac.ay s with word:=s.word++[c] },0):=by unfold ac.takes;rw[if_neg g,if_neg j,if_neg i,if_neg l,if_neg t,if_pos p]
   have HE:=aH (begins_on H2.o (show 0<(ac.ay s).gc from p));have Ht:=O f;clear f;clear g j i As l q t p;exact aqg
  have HE:=aH (yf9 H2.o (show ¬0<(ac.ay s).gc from p));by_cases u:ac.ey s=true
  ·have f:ac.takes s c=({ ac.ay s with gc:=s.mp+1,word:=s.word++[c] },0):=by unfold ac.takes;rw[if_neg g,if_neg j,if_neg i,if_neg l,if_neg t,if_neg p,if_pos u]
   have y:ac.ey (ac.ay s)=true:=u;rw[y]at HE;have Ht:=O f;clear f;clear g j i As l q t p u y;exact aqg
  have f:ac.takes s c=({ ac.ay s with gc:=s.mp+1 },4):=by unfold ac.takes;rw[if_neg g,if_neg j,if_neg i,if_neg l,if_neg t,if_neg p,if_neg u]
  have y:ac.ey (ac.ay s)=false:=(by simpa using u:ac.ey s=false);rw[y]at HE;have Ht:=O f;clear f;clear g j i As l q t p u y;go_enter Iu,Iv;go_wp2_with fail;refine HE.o.mono ?_;rintro e w1 ⟨rfl,Cu,Mw,AG,E3,h1⟩;have H1:=O h1;clear h1;go_wp2_with fail;go_ret;exact Aw H1.o MC MC
 have i:s.off=true:=v.symm;have f:ac.takes s c=(ac.ay s,0):=by unfold ac.takes;rw[if_neg g,if_neg j,if_pos i]
 unfold JA;rw[f];clear f g j i v;exact WO
theorem yao:Small ac.st0 0:=⟨by decide,by decide,by decide,by decide,by decide,by decide,by decide⟩
theorem zse{s:St}(h:Small s m):Small (ac.ends s) (m+1):=by
 obtain⟨a,b,c,d,e,f,g⟩:=h;refine⟨?_,?_,?_,?_,?_,?_,?_⟩<;>unfold ac.ends<;>dsimp only
 ·omega
 ·omega
 ·omega
 ·simp
 ·split<;>(try simp)<;>omega
 ·omega
 intro h;exact absurd h D
theorem zx8{s:St}(h:Small s m):Small (ac.breaks s) (m+1):=by
 obtain⟨a,b,c,d,e,f,g⟩:=h;refine⟨?_,?_,?_,?_,?_,?_,?_⟩<;>unfold ac.breaks ac.ends<;>dsimp only
 ·omega
 ·omega
 ·omega
 ·simp
 ·simp
 ·(repeat' split)<;>(try simp)<;>omega
 intro h;exact absurd h D
theorem Small.mono{s:St}(h:Small s m)(_:m≤k):Small s k:=by
 obtain⟨a,b,c,d,e,f,g⟩:=h;exact⟨Z,Z,Z,Z,Z,Z,g⟩
theorem zph{s:St}(h:Small s m)(c:UInt8)(h0:(ac.takes s c).2=0):Small (ac.takes s c).1 (m+2):=by
 have h1:=zt8 h;unfold ac.takes at h0⊢;split
 ·exact zx8 h1
 rename_i c10
 rw[E c10]at h0;split
 ·rename_i cA;rw[M cA]at h0;cases h0
 rename_i cA
 rw[E cA]at h0;split
 ·exact h1.mono Z
 rename_i co
 rw[E co]at h0;split
 ·obtain⟨a,b,c,d,e,f,g⟩:=zse h1;exact⟨a,b,c,d,e,f,g⟩
 rename_i axo
 rw[E axo]at h0;split
 ·exact zse h1
 rename_i axw
 rw[E axw]at h0;have i:=h.word;have j:=h.mp;obtain⟨a,b,c,d,e,f,g⟩:=h1;split
 ·exact⟨zB,zB,zB,aX,zB,zB,fun _=>ae⟩
 rename_i cf
 rw[E cf]at h0;split
 ·refine⟨zB,zB,zB,aX,zB,zB,fun _=>ae⟩
 rename_i cm
 rw[E cm]at h0;cases h0
theorem zvg(t:Bs):∀(s:St)(m:Nat),Small s m→(ac.run s t).2=0→Small (ac.run s t).1 (m+2*t.length):=by
 induction t with
 |nil=>intro s m h _;exact h
 |cons c r b=>
  intro s m h h0;by_cases a:(ac.takes s c).2=0
  ·rw[ac.ny a]at h0⊢;have:=b _ _ (zph h c a) h0;rw[fO];exact this.mono Z
  rw[ac.ts a]at h0;exact absurd h0 a
theorem zy3(t:Bs)(c:UInt8)(s:St)(h:(ac.run s t).2=0):ac.run s (t++[c])=if (ac.takes (ac.run s t).1 c).2=0 then ((ac.takes (ac.run s t).1 c).1,0) else ac.takes (ac.run s t).1 c:=by
 rw[ac.o7,M h];by_cases a:(ac.takes (ac.run s t).1 c).2=0
 ·rw[ac.ny a,M a];rfl
 rw[ac.ts a,E a]
theorem run_stop(t r:Bs)(s:St)(h:(ac.run s t).2≠0):ac.run s (t++r)=ac.run s t:=by rw[ac.o7,E h]
def WdOk(m:Nat)(x:Wd):Prop:=0≤x.1∧x.1≤m∧x.2.length≤m
def LnOk(m:Nat)(x:Ln):Prop:=0≤x.1∧x.1≤m+1∧∀wd∈x.2,WdOk m wd
structure aao(s:St)(m:Nat):Prop where
 words:∀wd∈s.words,WdOk m wd
 out:∀ln∈s.out,LnOk m ln
theorem WdOk.mono{x:Wd}(h:WdOk m x)(_:m≤k):WdOk k x:=by obtain⟨a,b,c⟩:=h;exact⟨a,by omega,by omega⟩
theorem LnOk.mono{x:Ln}(h:LnOk m x)(d:m≤k):LnOk k x:=by obtain⟨a,b,c⟩:=h;exact⟨a,by omega,fun wd hw=>(c wd hw).mono d⟩
theorem aao.mono{s:St}(h:aao s m)(a:m≤k):aao s k:=⟨fun b c=>(h.words b c).mono a,fun ln hl=>(h.out ln hl).mono a⟩
theorem zwn{s:St}(b:Small s m)(h:aao s m):aao (ac.ends s) m:=by
 refine⟨?_,h.out⟩;unfold ac.ends;dsimp only;split
 ·intro c a;rcases ff.1 a with a|a
  ·exact h.words c a
  simp at a;subst a;exact⟨b.gc.1,b.gc.2,b.word⟩
 exact h.words
theorem zm5{s:St}(b:Small s m)(h:aao s m):aao (ac.breaks s) m:=by
 have h1:=zwn b h;unfold ac.breaks;refine⟨ae,?_⟩;dsimp only;split
 ·exact h.out
 intro c a;rcases ff.1 a with a|a
 ·exact h.out c a
 simp at a;subst a;exact⟨b.line.1,b.line.2,h1.words⟩
theorem yd0{s:St}(e:Small s m)(h:aao s m)(c:UInt8):aao (ac.takes s c).1 (m+2):=by
 have h1:=zt8 e;have b:aao (ac.ay s) (m+1):=⟨(h.mono (Oo m)).words,(h.mono (Oo m)).out⟩;have d:=(zwn h1 b).mono (Oo _);have a:=b.mono (Oo (m+1));unfold ac.takes;split
 ·exact (zm5 h1 b).mono (Oo _)
 split
 ·exact a
 split
 ·exact a
 split
 ·exact⟨d.words,d.out⟩
 split
 ·exact d
 split
 ·exact⟨a.words,a.out⟩
 split
 ·exact⟨a.words,a.out⟩
 exact⟨a.words,a.out⟩
theorem yax(t:Bs):∀(s:St)(m:Nat),Small s m→aao s m→(ac.run s t).2=0→aao (ac.run s t).1 (m+2*t.length):=by
 induction t with
 |nil=>intro s m _ h _;exact h
 |cons c r d=>
  intro s m b h h0;by_cases a:(ac.takes s c).2=0
  ·rw[ac.ny a]at h0⊢;have:=d _ _ (zph b c a) (yd0 b h c) h0;rw[fO];exact this.mono Z
  rw[ac.ts a]at h0;exact absurd h0 a
theorem zsv{n:Int}(h0:0≤n)(h1:n≤9223372036854775807):(Lit.int .i64 n).wf=true:=by
 simp[Lit.wf,IntKind.min,IntKind.max,IntKind.signed,IntKind.bits];omega
theorem rword(_:m≤10000000){x:Wd}(h:WdOk m x):RWd w (mF x) x:=by
 obtain⟨a,b,c⟩:=h;exact⟨rfl,zsv a Z,cY⟩
theorem eO.reads{s:St}(h:eO w0 x s wv sv ov rv w)(g:am (fun k=>k<w0.heap.size) w w')(o:m≤10000000)(p:aao s m):RLns w' [ov] s.out:=by
 have q:(vt s.out rv)=(s.out.zip rv).flatMap fun x=>[.int .i64 x.1.1,x.2]:=rfl;have j:(s.out.zip rv).length=s.out.length:=by simp[h.K6]
 have h1:=g.owns h.out (fun k d e=>by have:=(h.out.lt k d).1;omega);rw[q]at h1;have r:ct 2 (fun w cs (y:Ln×Value)=>RLn w cs y.1) w' [ov] (s.out.zip rv):=by refine zgq (B:=w0.heap.size) (e:=79) (fun x:Ln×Value=>[.int .i64 x.1.1,x.2]) _ (fun _ _=>rfl) ?_ (by rw[j];exact h1);intro y hy;obtain⟨i,hi,rfl⟩:=DJ.1 hy;have DZ:i<s.out.length:=Z;have f:i<rv.length:=S5;rw[List.getElem_zip];obtain⟨r0,_⟩:=h.rows i s.out[i] rv[i] (bR DZ) (bR f);have t:=g.owns r0 (fun k d e=>by have:=(r0.lt k d).1;omega);obtain⟨a,b,c⟩:=p.out _ (eZ DZ);refine⟨rv[i],rfl,zgq mF RWd (fun _ _=>rfl) (fun wd hw=>rword o (c wd hw)) t,zsv (n:=s.out[i].1) a Z⟩
 obtain⟨a,cap,l,g1,u,v⟩:=r;rw[j]at l g1;refine⟨a,cap,l,g1,u,fun i ln hi=>?_⟩;have DZ:=(ie.1 hi).1;have f:i<rv.length:=S5;have z:(s.out.zip rv)[i]?=some (ln,rv[i]):=by rw[List.getElem?_zip_eq_some];exact⟨hi,bR f⟩
 exact v i _ z
def Nw(w:World)(r:ac.Res)(e:Ending)(w':World):Prop:=∃v,e=.returned (.tuple #[v,.agg #[.int .i64 r.at1,.int .i64 r.at2],.int .i64 r.e])∧RLns w' [v] r.lines∧Below w.heap.size w w'
theorem zu0(s:ByteArray)(_:s.size≤140737488351232)(w:World)(h:65536<s.size):Calls prog 22 #[.string s] w (Nw w (ac.lines s.data.toList)):=by
 have a:ac.lines s.data.toList=⟨[],0,0,4⟩:=by unfold ac.lines;rw[if_pos];rw[Array.length_toList];exact h
 rw[a];clear a;go_enter func22,ntmps22;go_wp2_with fail;refine fZ (v:=.tuple #[.slice none 0 0,.agg #[.int .i64 0,.int .i64 0],.int .i64 4]) (by simp[results,results22,go_sem]) rfl ⟨_,rfl,⟨none,0,rfl,aE _,bj _,fun i x hi=>vm⟩,?_⟩;exact (aL _ _).alloc (aE _) _
theorem eO.start(w1:World):eO w1 w1.heap.size ac.st0 (.slice none 0 0) (.slice none 0 0) (.slice none 0 0) [] (w1.alloc (.cells (kx ac.st0 (.slice none 0 0) (.slice none 0 0) (.slice none 0 0)) 117)) :=
 ⟨dq w1 _,pd _ _ _ _,pd _ _ _ _,pd _ _ _ _,rfl,fun i a v hi=>by simp[ac.st0]at hi,(aL _ _).alloc (aE _) _,aE _⟩
def yaa(w1:World)(x:Nat)(t:Bs)(k:Nat)(w:World):Prop:=(ac.run ac.st0 (t.take k)).2=0∧∃wv sv ov rv,eO w1 x (ac.run ac.st0 (t.take k)).1 wv sv ov rv w
theorem byte_at(s:ByteArray)(k:Nat)(h:k<s.size):s.data.toList.take (k+1)=s.data.toList.take k++[s[k]]:=by
 rw[List.take_add_one,bR Yi];rfl
theorem zrj(s:ByteArray)(w:World)(h:s.size≤65536):Calls prog 22 #[.string s] w (Nw w (ac.lines s.data.toList)):=by
 have B:s.data.toList.length=s.size:=SF;have C:ac.lines s.data.toList=ac.close (ac.run ac.st0 s.data.toList):=by unfold ac.lines;rw[if_neg];omega
 rw[C];clear C;obtain⟨t,F⟩:=Y s.data.toList;rw[←F]at B⊢;have h0:=eO.start (w.alloc (.cells #[.int .i64 0,.int .i64 0] 31));simp only[Oi]at h0;have aa:yaa (w.alloc (.cells #[.int .i64 0,.int .i64 0] 31)) (w.heap.size+1) t 0 ((w.alloc (.cells #[.int .i64 0,.int .i64 0] 31)).alloc (.cells (kx ac.st0 (.slice none 0 0) (.slice none 0 0) (.slice none 0 0)) 117)):=⟨rfl,_,_,_,_,h0⟩;revert B F aa;refine fo ?_;intro im Ht Q6;clear h0;go_enter func22,ntmps22;go_wp2_with fail;obtain⟨w2,eo⟩:=Y (((w.alloc (.cells #[.int .i64 0,.int .i64 0] 31)).alloc (.cells (kx ac.st0 (.slice none 0 0) (.slice none 0 0) (.slice none 0 0)) 117)));rw[←eo]at Q6;have r:=eo;simp only[kx,ac.st0]at r;rw[←r];clear eo r;go_loopw [16] (fun i wr=>∃k:Nat,k≤s.size∧i=.int .i64 k∧yaa (w.alloc (.cells #[.int .i64 0,.int .i64 0] 31)) (w.heap.size+1) t k wr) (fun i _=>s.size-(intOf i).toNat)
 case atStart=>exact⟨0,bj _,rfl,Q6.o⟩
 case round=>
  obtain⟨k,_,rfl,u⟩:=hrel;obtain⟨hz,wv,sv,ov,rv,hL⟩:=u;have n:=zvg (t.take k) ac.st0 0 yao hz;have av:(t.take k).length≤k:=List.length_take_le _ _;obtain⟨st,bJ⟩:=Y ((ac.run ac.st0 (t.take k)).1);rw[←bJ]at hL n;by_cases ab:k<s.size
  ·have ad:=byte_at s k ab;revert hz n hL bJ ad;refine bU ?_;intro K y z L af;go_wp2_with fail;refine (takes_any z.o Z y.o s[k]).mono ?_;rintro e w3 ⟨rfl,wv3,sv3,ov3,rv3,h3⟩;obtain⟨er,qj⟩:=Y ((ac.takes st s[k]).2);have l:ac.run ac.st0 (t.take (k+1))=if (ac.takes st s[k]).2=0 then ((ac.takes st s[k]).1,0) else ac.takes st s[k]:=by rw[Ht.o,af.o,←Ht.o,zy3 _ _ _ K.o,←L.o]
   rw[←qj]at l⊢;by_cases he:er=0
   ·have ag:(er !=0)=false:=QT;rw[M he]at l;have u:yaa (w.alloc (.cells #[.int .i64 0,.int .i64 0] 31)) (w.heap.size+1) t (k+1) w3:=⟨by rw[l],wv3,sv3,ov3,rv3,by rw[l];exact h3⟩;revert qj l he u;refine bV ?_;intro ah ai aj ak;clear h3;go_wp2_with fail;go_roundw
    case rel=>exact⟨k+1,Z,cj,ak.o⟩
    case measure=>simp[intOf];omega
   have ag:(er !=0)=true:=auj;rw[E he]at l;have N:t=t.take (k+1)++t.drop (k+1):=(mi _ _).symm;have R:ac.run ac.st0 t=ac.takes st s[k]:=by rw[N,run_stop _ _ _ (by rw[l];rw[←qj];exact he),l]
   have m:ac.close (ac.run ac.st0 t)=⟨[],(ac.takes st s[k]).1.line,(ac.takes st s[k]).1.mp,er⟩:=by rw[R];unfold ac.close;rw[←qj,if_neg he]
   have S:=J h3.cells 0;have T:=J h3.cells 1;simp only[kx,aq,aw,ar]at S T;obtain⟨al,U⟩:=Y ((ac.takes st s[k]).1.line);obtain⟨c3,jj⟩:=Y ((ac.takes st s[k]).1.mp);rw[←U]at S m;rw[←jj]at T m;refine akf ?_;intro Bw y0 y1 z0 z1;have q:=h3.bm;revert h3 qj l he N R U m jj q;refine dE ?_;intro H3 ah ai aj aEq aEp aDi A Gc DS;clear Bw;go_wp2_with fail;go_region
   all_goals
    go_wp2_with fail
    refine fZ (v:=.tuple #[.slice none 0 0,.agg #[.int .i64 al,.int .i64 c3],.int .i64 er]) asn rfl ?_;rw[A.o];refine⟨_,rfl,⟨none,0,rfl,aE _,bj _,fun i x hi=>vm⟩,?_⟩;exact ((((aL _ _).alloc (aE _) _).trans (DS.o.mono ae)).setCell (aE _) _).setCell (aE _) _ |>.drew
  obtain rfl:k=s.size:=Z;have W:t.take s.size=t:=lH YO;have hF:=yax (t.take s.size) ac.st0 0 yao ⟨J8,J8⟩ hz;rw[←bJ]at hF;have m:ac.close (ac.run ac.st0 t)=⟨(ac.breaks st).out,0,0,0⟩:=by rw[W]at hz bJ;unfold ac.close;rw[if_pos hz,←bJ]
  have an:=zm5 n hF;revert hL hz n bJ W hF m an;refine fg ?_;intro z K y L _ _ A ao;go_wp2_with fail;refine (zsn z.o Z y.o).mono ?_;rintro e w3 ⟨rfl,wv3,sv3,ov3,rv3,h3⟩;have au:=J h3.cells 6;simp only[kx,aq,aw,ar]at au;refine akf ?_;intro Bw y0 y1 z0 z1;have X:=h3.reads (w':=(w3.setCell ⟨w.heap.size,0,none⟩ (.int .i64 0)).setCell ⟨w.heap.size,1,none⟩ (.int .i64 0)) (am.setCell (am.setCell (am.refl _ _) (p:=⟨w.heap.size,0,none⟩) (.inr ae) _) (p:=⟨w.heap.size,1,none⟩) (.inr ae) _) Z ao.o;have q:=h3.bm;obtain⟨DS,HRd,H3⟩:=aQ q X h3;clear q X h3;clear Bw;go_wp2_with fail;refine fZ (v:=.tuple #[ov3,.agg #[.int .i64 0,.int .i64 0],.int .i64 0]) asn rfl ?_;rw[A.o];refine⟨_,rfl,?_,?_⟩
  ·exact HRd.o
  exact (((((aL _ _).alloc (aE _) _).trans (DS.o.mono ae)).setCell (aE _) _).setCell (aE _) _)
theorem znz(s:ByteArray)(a:s.size≤140737488351232)(w:World):Calls prog 22 #[.string s] w (Nw w (ac.lines s.data.toList)):=by
 by_cases h:65536<s.size
 ·exact zu0 s a w h
 exact zrj s w Z
end
section
open RowKit Shelf
open ac (Wd)
attribute [local go_sem ↓] wp_at_zero wp_at_succ
abbrev l7(r:Nat)(v:Value)(i:Nat)(fin:Int)(W:World):Prop:=W.heap[r]?=some (.cells #[v,.int .i64 i,.int .i64 fin] 84 (0,0))
abbrev rp(r:Nat):Value:=.pointer (some ⟨r,0,none⟩)
abbrev j7:Rd (List Wd):=ct 2 RWd
theorem sy{fin:Int}(h:l7 r v i fin W):W.cell? ⟨r,0,none⟩=some v∧W.cell? ⟨r,1,none⟩=some (.int .i64 i)∧W.cell? ⟨r,2,none⟩=some (.int .i64 fin)∧W.frozen? ⟨r,1,none⟩=false :=
 ⟨J h 0,J h 1,J h 2,aG h 1⟩
theorem zus{ws:List Wd}(h:j7 w [v] ws):∃a c,v=.slice a ws.length c:=by
 exact RD
theorem pF{ws:List Wd}(h:j7 w [.slice a n c] ws):n=ws.length∧n≤9223372036854775807∧∀i x,ws[i]?=some x→∃b off,a=some ⟨b,off,none⟩∧w.cell? ⟨b,off+i*2,none⟩=some (.int .i64 x.1)∧w.cell? ⟨b,off+i*2+1,none⟩=some (.string ⟨x.2.toArray⟩)∧x.2.length≤9223372036854775807:=by
 obtain⟨_,cap,d,_,e,f⟩:=h;simp only[nj,lv,rL]at d;obtain⟨rfl,hn,_⟩:=d;unfold maxLen at e;refine⟨hn,Z,fun i x hi=>?_⟩;obtain⟨b,off,hH,h1,h2,h3,h4,_,h5⟩:=f i x hi;subst h4;unfold maxLen at h5;exact⟨b,off,h1,by simpa [mF] using h3 0 _ rfl,by simpa [mF] using h3 1 _ rfl,Z⟩
theorem Pm{fin:Int}(h:l7 r (.slice a n c) i fin w):Calls prog 53 #[rp r] w fun e w'=>e=.returned (.bool (decide (i<n)))∧∃q,w'=w.drewN q:=by
 obtain⟨_,c1,_,_⟩:=sy h;have b:decide ((i:Int)<(n:Int))=decide (i<n):=rz.2 Z;have d:=O h;clear h;go_enter func53,ntmps53;go_wp2_with fail;go_quiet (fail)
 go_wp2_with fail
 go_ret;exact⟨rfl,_,rfl⟩
abbrev rH(c:Int):Ending:=.panicked [{ v:=.iface 120 (.agg #[.int .i64 c]),recovered:=false }]
theorem peek_any{fin:Int}{ws:List Wd}(h:l7 r (.slice a n c) i fin w)(g:j7 w [.slice a n c] ws):Calls prog 45 #[rp r] w fun e w'=>e=.returned (.string (aD ws i))∧∃q,w'=w.drewN q:=by
 obtain⟨_,c1,_,_⟩:=sy h;have f:=Pm h;obtain⟨hn,hz,aU⟩:=pF g;by_cases hi:i<n
 ·have j:i<ws.length:=Z;obtain⟨b,off,rfl,_,d1,_⟩:=aU i _ (bR j);rw[Ec j];obtain⟨s,hs⟩:∃s:ByteArray,s=⟨ws[i].2.toArray⟩:=⟨_,rfl⟩;rw[←hs]at d1⊢;rw[aO hi]at f;refine OE ?_;intro k5 k6;clear hs aU;revert f hn h g;refine bV ?_;intro HM l m p;go_enter func45,ntmps45;go_wp2_with fail;refine mU ?_;rintro e w1 ⟨rfl,q,rfl⟩;go_wp2_with fail;go_quiet (fail)
  go_wp2_with fail
  go_ret;exact⟨rfl,_,OV _ _ _⟩
 rw[uJ Z];rw[be hi]at f;clear aU;revert h g f hn;refine bV ?_;intro m p HM l;go_enter func45,ntmps45;go_wp2_with fail;refine mU ?_;rintro e w1 ⟨rfl,q,rfl⟩;go_wp2_with fail;go_ret;exact⟨rfl,_,rfl⟩
theorem zuw{fin:Int}{ws:List Wd}(h:l7 r (.slice a n c) i fin w)(g:j7 w [.slice a n c] ws):Calls prog 51 #[rp r] w fun e w'=>e=rH (cO ws fin i)∧∃q,w'=w.drewN q:=by
 obtain⟨m,c1,c2,_⟩:=sy h;have f:=Pm h;obtain⟨hn,hz,aU⟩:=pF g;by_cases hi:i<n
 ·have j:i<ws.length:=Z;obtain⟨b,off,rfl,d0,_,_⟩:=aU i _ (bR j);rw[zue j];obtain⟨s,hs⟩:=Y (ws[i].1);rw[←hs]at d0⊢;rw[aO hi]at f;refine OE ?_;intro k5 k6;clear hs aU;revert f hn h g;refine bV ?_;intro HM p t u;go_enter func51,ntmps51;go_wp2_with fail;refine mU ?_;rintro e w1 ⟨rfl,q,rfl⟩;go_wp2_with fail;refine xZ (S:=fun w'=>w'.cell? ⟨r,0,none⟩=some (.slice (some ⟨b,off,none⟩) n c)∧w'.cell? ⟨r,1,none⟩=some (.int .i64 i)∧w'.cell? ⟨b,off+i*2,none⟩=some (.int .i64 s)) aA (by exact⟨m,c1,d0⟩) (fun hHeld=>?_);refine Rn ?_;refine OM ?_;refine c_ 13 fun K hK=>?_;go_simp;exact⟨rfl,rfl,_,rfl⟩
 rw[zuf Z];rw[be hi]at f;clear aU;revert h g f hn;refine bV ?_;intro t u HM p;go_enter func51,ntmps51;go_wp2_with fail;refine mU ?_;rintro e w1 ⟨rfl,q,rfl⟩;go_wp2_with fail;exact⟨rfl,rfl,_,rfl⟩
theorem Ej(w:World)(r:Nat):Calls prog 52 #[rp r,.bool true] w fun e w'=>e=.returned (.tuple #[])∧w'=w:=by
 go_enter func52,ntmps52;refine vJ ?_;exact Gz
theorem ZZ{fin:Int}{ws:List Wd}(h:l7 r (.slice a n c) i fin w)(d:j7 w [.slice a n c] ws):Calls prog 52 #[rp r,.bool false] w fun e w'=>e=rH (cO ws fin i)∧∃q,w'=w.drewN q:=by
 have f:=zuw h d;obtain⟨g,_,_⟩:=aQ f h d;clear f h d;go_enter func52,ntmps52;go_wp2_with fail;refine g.o.mono ?_;rintro e w1 ⟨rfl,q,rfl⟩;refine cK ?_;exact⟨rfl,rfl,_,rfl⟩
end
section
open Shelf RowKit Lib av
open ac (Wd)
attribute [local go_sem ↓] wp_at_zero wp_at_succ
structure FS(w0:World)(r:Nat)(a:Option Addr)(n c:Nat)(fin:Int)(ws:List Wd):Prop where
 words:j7 w0 [.slice a n c] ws
 doors:dN w0
 low:w0.heap.size≤r
 n1000:n≤1000
 sz:∀x∈ws,x.2.length≤70000
structure na(w0:World)(r:Nat)(a:Option Addr)(n c:Nat)(fin:Int)(i:Nat)(W:World):Prop where
 box:l7 r (.slice a n c) i fin W
 bm:Below w0.heap.size w0 W
section
variable {w0 W W':World}{r:Nat}{a:Option Addr}{n c:Nat}{fin:Int}{ws:List Wd}{i:Nat}
theorem FS.len(C:FS w0 r a n c fin ws):n=ws.length:=(pF C.words).1
theorem FS.wds(C:FS w0 r a n c fin ws)(S:na w0 r a n c fin i W):j7 W [.slice a n c] ws:=bz lz _ _ _ _ C.words S.bm
theorem na.to(S:na w0 r a n c fin i W)(h:Below W.heap.size W W'):na w0 r a n c fin i W':=⟨G h S.box,S.bm.trans (h.mono S.bm.size)⟩
theorem na.drewN(S:na w0 r a n c fin i W)(q:Nat):na w0 r a n c fin i (W.drewN q):=S.to (dU (aL _ _) q)
theorem FS.dr(C:FS w0 r a n c fin ws)(S:na w0 r a n c fin i W):dN W:=C.doors.below S.bm
theorem FS.peek(C:FS w0 r a n c fin ws)(S:na w0 r a n c fin i W):Calls prog 45 #[rp r] W fun e w'=>e=.returned (.string (aD ws i))∧∃q,w'=W.drewN q:=peek_any S.box (C.wds S)
theorem FS.more(_:FS w0 r a n c fin ws)(S:na w0 r a n c fin i W):Calls prog 53 #[rp r] W fun e w'=>e=.returned (.bool (decide (i<n)))∧∃q,w'=W.drewN q:=Pm S.box
theorem FS.want(C:FS w0 r a n c fin ws)(S:na w0 r a n c fin i W):Calls prog 52 #[rp r,.bool false] W fun e w'=>e=rH (cO ws fin i)∧∃q,w'=W.drewN q:=ZZ S.box (C.wds S)
theorem FS.o4(C:FS w0 r a n c fin ws)(i:Nat):(aD ws i).size≤70000:=by
 by_cases h:i<ws.length
 ·rw[Ec h];show (ws[i].2.toArray).size≤_;rw[Ad];exact C.sz _ (eZ h)
 rw[uJ Z];decide
theorem na.on(S:na w0 r a n c fin i W)(b:w0.heap.size≤r):na w0 r a n c fin (i+1) (W.setCell ⟨r,1,none⟩ (.int .i64 ((i:Int)+1))) :=
 ⟨ag _ r 1 _ _ _ S.box,S.bm.setCell (p:=⟨r,1,none⟩) b _⟩
end
theorem zn4(c:UInt8)(s:ByteArray):(jv c s).1.size≤s.size∧(jv c s).2.1.size≤s.size:=by
 refine Xo ?_;intro e
 have h1:(cut s.data.toList [c]).1.length≤s.size∧(cut s.data.toList [c]).2.1.length≤s.size:=by
  rw[←em.len];unfold cut;split
  ·exact⟨aX,ae⟩
  exact⟨ae,ae⟩
 unfold jv;exact⟨by rw[e];exact h1.1,by rw[e];exact h1.2⟩
def atOf(r:Nat)(W:World):Nat:=match W.cell? ⟨r,1,none⟩ with
 |some u=>(RowKit.intOf u).toNat
 |none=>0
theorem zp8{r:Nat}{i:Nat}{fin:Int}{W:World}(h:l7 r v i fin W):atOf r W=i:=by
 unfold atOf;rw[(sy h).2.1];simp[RowKit.intOf]
theorem zpr(out:List el)(x:el):(out++[x]).flatMap setCells=out.flatMap setCells++[.string x.1,.string x.2]:=by simp[setCells]
def SetsPost(r:Nat)(a:Option Addr)(n c:Nat)(fin:Int)(ws:List Wd)(i:Nat)(w:World)(e:Ending)(w':World):Prop :=
 ((∃l j v,dm ws i []=(some l,j)∧e=.returned v∧iy w' v l∧l7 r (.slice a n c) j fin w')∨(∃j,dm ws i []=(none,j)∧e=rH (cO ws fin j)))∧am (fun k=>k=r) w w'
structure StI(w0:World)(r:Nat)(a:Option Addr)(n c:Nat)(fin:Int)(ws:List Wd)(i:Nat)(w:World)(k:Nat)(out:List el)(v:Value)(W:World):Prop where
 st:na w0 r a n c fin (i+k) W
 row:W.ownsRow w.heap.size 137 2 v k (out.flatMap setCells)
 len:out.length=k
 same:dm ws i []=dm ws (i+k) out
 gc:am (fun x=>x=r) w W
 sz:∀x∈out,x.1.size≤70000∧x.2.size≤70000
 k1000:k≤1000
theorem StI.reads{w0:World}{r:Nat}{a:Option Addr}{n c:Nat}{fin:Int}{ws:List Wd}{i:Nat}{out:List el}{W:World}(h:StI w0 r a n c fin ws i w k out v W):iy W v out :=
 ⟨zl0 (B:=w.heap.size) (fun x hx=>arp) (by rw[h.len];exact h.row),fun _=>NF h.row⟩
theorem StI.to{w0:World}{r:Nat}{a:Option Addr}{n c:Nat}{fin:Int}{ws:List Wd}{i:Nat}{out:List el}{W W':World}(h:StI w0 r a n c fin ws i w k out v W)(b:Below W.heap.size W W'):StI w0 r a n c fin ws i w k out v W' :=
 ⟨h.st.to b,fh h.row b,h.len,h.same,h.gc.trans (am.ce (S:=fun _=>False) b) (fun _ _ h=>h.elim),h.sz,h.k1000⟩
theorem StI.push{w0:World}{r:Nat}{a:Option Addr}{n c:Nat}{fin:Int}{ws:List Wd}{i:Nat}{out:List el}{W:World}(h:StI w0 r a n c fin ws i w k out v W)(_:w0.heap.size≤r)(_:r<w.heap.size){x:el}(hx:x.1.size≤70000∧x.2.size≤70000)
  (b:W.grownBy w9 v.ownBlock) (f:w9.ownsRow w.heap.size 137 2 v9 (k+1) (out.flatMap setCells++[.string x.1,.string x.2])) :
  na w0 r a n c fin (i+k) w9∧am (fun x=>x=r) w w9∧fm w9 [v9] (out++[x])∧(∀y∈out++[x],y.1.size≤70000∧y.2.size≤70000):=by
 have d:∀j,v.ownBlock=some j→w.heap.size≤j:=fun j e=>(h.row.lt j e).1;have g:r<W.heap.size:=(bS.1 h.st.box).1;refine amn ?_;intro a_;refine⟨⟨(b.block r g (fun e=>by have:=d r e.symm;omega)).trans h.st.box,iX h.st.bm h.row Z b h.st.bm.size⟩,h.gc.grown b (fun j e=>.inl (d j e)),?_,a_⟩;refine zl0 (B:=w.heap.size) (fun y hy=>by have:=a_ y hy;unfold maxLen;omega) ?_;rw[bM,h.len,zpr];exact f
theorem StI.next{w0:World}{r:Nat}{a:Option Addr}{n c:Nat}{fin:Int}{ws:List Wd}{i:Nat}{out:List el}{b:World}(d:na w0 r a n c fin (i+k) b)(hF:am (fun x=>x=r) w b){x:el}(e:∀y∈out++[x],y.1.size≤70000∧y.2.size≤70000)(f:out.length=k)(g:w0.heap.size≤r)(h:r<w.heap.size)(j:k+1≤1000)
  (l:b.ownsRow w.heap.size 137 2 v9 (k+1) (out.flatMap setCells++[.string x.1,.string x.2])) (m:dm ws i []=dm ws (i+k+1) (out++[x])) :
  StI w0 r a n c fin ws i w (k+1) (out++[x]) v9 (b.setCell ⟨r,1,none⟩ (.int .i64 (((i+k:Nat):Int)+1))) :=
 ⟨d.on g,by rw[zpr];exact sr l h 1 _,by rw[bM,f];rfl,m,aN hF 1 _,e,j⟩
theorem zi4{w0:World}{r:Nat}{a:Option Addr}{n c:Nat}{fin:Int}{ws:List Wd}{i:Nat}(C:FS w0 r a n c fin ws)(S:na w0 r a n c fin i w):Calls prog 98 #[rp r] w (SetsPost r a n c fin ws i w):=by
 have U:r<w.heap.size:=(bS.1 S.box).1;have X:StI w0 r a n c fin ws i w 0 [] (.slice none 0 0) w:=⟨S,pd _ _ _ _,rfl,rfl,am.refl _ _,(fun x hx=>wZ),bj _⟩;have aF:=C.n1000;obtain⟨HC,HS,iS⟩:=aQ C S X;clear C S X;go_enter func98,ntmps98;go_wp2_with fail;go_loopw [3] (fun v wr=>∃(k:Nat)(out:List el),StI w0 r a n c fin ws i w k out v wr) (fun _ wr=>n-atOf r wr)
 case atStart=>exact⟨0,[],iS.o⟩
 case round=>
  obtain⟨k,out,p⟩:=hrel;obtain⟨a1,c1,rfl⟩:=bg p.row;have z:=HC.o.peek p.st;have aa:atOf r wr=i+k:=zp8 p.st.box;obtain⟨s,hs⟩:=Y (aD ws (i+k));have aG:s.size≤70000:=by rw[hs];exact HC.o.o4 _
  rw[←hs]at z;have ab:=fun(W:World)=>Tryz.strings_Contains_one s 61 W;obtain⟨hb,hhb⟩:=Y (hasB 61 s);rw[show decide (0≤indexByte s.data.toList 61)=hb from hhb.symm]at ab;obtain⟨wo,B2⟩:=Y wr;rw[←B2]at p z aa⊢;clear B2 wr;revert hs ab hhb aa z p;refine bX ?_;intro Hs ayj Hhb aze HP HI;go_wp2_with fail;refine qJ ?_;rintro e w1 ⟨rfl,q1,rfl⟩;have A:=HI.o.to (dU (aL _ _) q1);generalize wo.drewN q1=aH at A⊢;have l:=O A;clear A;go_wp2_with fail;refine (ayj.o _).mono ?_;rintro e w1 ⟨rfl,rfl⟩
  cases hb with
  |false=>
   go_wp2_with fail
   go_ret;exact⟨.inl ⟨out,i+k,_,by rw[l.o.same];exact znd SL,rfl,l.o.reads,l.o.st.box⟩,l.o.gc⟩
  |true=>
   have B:=HC.o.peek l.o.st;rw[←Hs.o]at B;have an:=O B;clear B;go_wp2_with fail;refine an.o.mono ?_;rintro e w1 ⟨rfl,ad,rfl⟩;have F:=l.o.to (dU (aL _ _) ad);generalize w1.drewN ad=ae at F⊢;obtain⟨mx,hmx⟩:=(HC.o.dr F.st).max;have af:=Tryz.strings_Cut s ⟨#[61]⟩ mx ae Z hmx;clear hmx;obtain⟨nm,dJ⟩:∃x:ByteArray,x=⟨(cut s.data.toList [61]).1.toArray⟩:=⟨_,rfl⟩;obtain⟨vl,rS⟩:∃x:ByteArray,x=⟨(cut s.data.toList [61]).2.1.toArray⟩:=⟨_,rfl⟩;obtain⟨fl,qX⟩:∃x:Bool,x=(cut s.data.toList [61]).2.2:=⟨_,rfl⟩;simp only[←dJ,←rS,←qX]at af;have ao:lG s=(nm,vl):=by unfold lG jv;rw[dJ,rS]
   have aq:nm.size≤70000∧vl.size≤70000:=by have:=zn4 61 s;have ar:nm=(jv 61 s).1:=dJ;have e2:vl=(jv 61 s).2.1:=rS;rw[ar,e2];omega
   have au:i+k<n:=by rw[HC.o.len];exact NS SL
   revert F dJ rS qX af ao aq;refine eb ?_;intro av _ _ _ aw K ax;go_wp2_with fail;refine aw.o.mono ?_;rintro e w1 ⟨rfl,q3,rfl⟩;have q:=av.o.to (dU (aL _ _) q3);generalize ae.drewN q3=ay at q⊢;have ag:=q.row;have az:w.heap.size≤ay.heap.size:=q.gc.size;have aI:=q.k1000;obtain⟨N,hN⟩:=Y (out.flatMap setCells);rw[←hN]at ag;revert q ag hN;refine fo ?_;intro Q5 Cr HN;go_wp2_with (at_builtin;(refine kZ ybw rfl (.tmp 18) (.tmp 22) rfl w.heap.size (.slice a1 k c1) k N rfl Cr.o 1 #[.string nm,.string vl] rfl rfl dW Z cY az ?_;intro v9 w9 aZ aT cg;obtain⟨a9,c9,rfl⟩:=bg aZ;obtain⟨dY,fq⟩:=ak aZ aT;clear aZ aT cg));have L:=dY.o;rw[HN.o]at L;obtain⟨aCv,eY,mJ,hZ9⟩:=Q5.o.push HC.o.low U (x:=(nm,vl)) ax.o fq.o L;have ah:=ycz mJ;obtain⟨b,hb⟩:=Y (nz (out++[(nm,vl)]));rw[←hb]at ah;revert L aCv eY mJ hZ9 ah hb;refine eb ?_;intro Ho9 sB kJ Me HZ9 HW Hb;refine HW.o.mono ?_;rintro e cH ⟨rfl,lX⟩;have j:=sB.o.to lX;have t:=kJ.o.trans (am.ce (S:=fun _=>False) lX) (fun _ _ h=>h.elim);have u:=fh Ho9.o lX
   cases b with
   |false=>
    have ai:=HC.o.want j;obtain⟨aA,aj,aB,aC,aE⟩:=K4 j t u ai lX;clear j t u ai lX;go_wp2_with fail;refine aC.o.mono ?_;rintro e x9 ⟨rfl,q4,rfl⟩;refine cK ?_;refine⟨rfl,.inr ⟨i+k,?_,rfl⟩,aj.o.drewN q4⟩;rw[Q5.o.same];exact zk1 SL (by rw[←Hs.o,K.o];exact Hb.o.symm)
   |true=>
    obtain⟨m,y⟩:=Y (i+k);have R:dm ws i []=dm ws (i+k+1) (out++[(nm,vl)]):=by rw[Q5.o.same,zk0 SL (by rw[←Hs.o,K.o];exact Hb.o.symm),←Hs.o,K.o]
    have T:=StI.next j t HZ9.o Q5.o.len HC.o.low U Z u R;rw[←y]at j T au;obtain⟨_,_,_,_⟩:=sy j.box;have al:=aze.o;rw[←y]at al;obtain⟨aA,aj,aB,aE,Hm,nW,dV⟩:=oD j t u lX y R T;clear j t u lX y R T;go_wp2_with fail;refine (Ej cH r).mono ?_;rintro e x9 ⟨rfl,aBl⟩;subst aBl;go_wp2_with fail;go_roundw
    case rel=>exact⟨k+1,_,dV.o⟩
    case measure=>
     rw[zp8 (i:=m+1) (fin:=fin) (v:=.slice a n c) ?_,al]
     ·omega
     have:=dV.o.st.box;rw[show i+(k+1)=m+1 from ZA]at this;exact this
end
section
open Shelf RowKit Lib av cy
open ac (Wd)
attribute [local go_sem ↓] wp_at_zero wp_at_succ
def sE(r:Nat)(a:Option Addr)(n c:Nat)(fin:Int)(ws:List Wd)(i:Nat)(ok:ByteArray→Bool)(w:World)(e:Ending)(w':World):Prop :=
 ((i<ws.length∧ok (aD ws i)=true∧e=.returned (.string (aD ws i))∧l7 r (.slice a n c) (i+1) fin w')∨((ws.length≤i∨ok (aD ws i)=false)∧∃j,e=rH (cO ws fin j)))∧am (fun k=>k=r) w w'
theorem zmf{fin:Int}{ws:List Wd}{ok:ByteArray→Bool}{e:Ending}(h1:i<ws.length)(b:ok (aD ws i)=true)(d:e=.returned (.string (aD ws i)))(f:l7 r (.slice a n c) (i+1) fin w')(g:am (fun k=>k=r) w w'):sE r a n c fin ws i ok w e w':=⟨.inl ⟨h1,b,d,f⟩,g⟩
theorem zi2{fin:Int}{ws:List Wd}{ok:ByteArray→Bool}{e:Ending}(h1:ws.length≤i∨ok (aD ws i)=false)(b:e=rH (cO ws fin i))(d:am (fun k=>k=r) w w'):sE r a n c fin ws i ok w e w':=⟨.inr ⟨h1,i,b⟩,d⟩
theorem kS{a:World}(h:am S a w)(b:Below w.heap.size w w'):am S a w':=h.trans (am.ce (S:=fun _=>False) b) (fun _ _ h=>h.elim)
theorem Dp{w:World}{r:Nat}{a:Option Addr}{n c:Nat}{fin:Int}{ws:List Wd}{i:Nat}(C:FS w0 r a n c fin ws)(S:na w0 r a n c fin i w)(_:i≤1000){f:FuncId}(_:∀args w,(callFunc f args).run prog w=.ok (.enter f args) w){ok:ByteArray→Bool}
  (hR:∀s W,s.size≤70000→Below w.heap.size w W→Calls prog f #[.string s] W fun e w'=>e=.returned (.bool (ok s))∧Below W.heap.size W w') :
  Calls prog 46 #[rp r,.func (.func f) #[] #[]] w (sE r a n c fin ws i ok w):=by
 exact agb
def Nb(r:Nat)(a:Option Addr)(n c:Nat)(fin:Int)(ws:List Wd)(i:Nat)(ok:ByteArray→Bool)(w:World)(e:Ending)(w':World):Prop :=
 ((∃v l,eQ ok (az ws i)=some l∧e=.returned v∧w'.ownsRow w.heap.size 9 1 v l.length (l.map Value.string)∧l7 r (.slice a n c) ws.length fin w')∨(eQ ok (az ws i)=none∧∃j,e=rH (cO ws fin j)))∧am (fun k=>k=r) w w'
theorem ztr{fin:Int}{ws:List Wd}{ok:ByteArray→Bool}{e:Ending}(h1:eQ ok (az ws i)=some l)(b:e=.returned v)(d:w'.ownsRow w.heap.size 9 1 v l.length (l.map Value.string))(f:l7 r (.slice a n c) ws.length fin w')(g:am (fun k=>k=r) w w'):Nb r a n c fin ws i ok w e w':=⟨.inl ⟨v,l,h1,b,d,f⟩,g⟩
theorem znx{fin:Int}{ws:List Wd}{ok:ByteArray→Bool}{e:Ending}(h1:eQ ok (az ws i)=none)(b:e=rH (cO ws fin j))(d:am (fun k=>k=r) w w'):Nb r a n c fin ws i ok w e w':=⟨.inr ⟨h1,j,b⟩,d⟩
theorem Is{ws:List Wd}(h:i+j<ws.length):(az ws i)[j]?=some (aD ws (i+j)):=by
 unfold az;rw[rC,Sx,bR h,Ec h];rfl
theorem zrs{ws:List Wd}(h:i+k<ws.length):(az ws i).take (k+1)=(az ws i).take k++[aD ws (i+k)]:=by
 have a:k<(az ws i).length:=SS;rw[pP a];have:=Is (ws:=ws) (i:=i) (j:=k) h;rw[bR a]at this;rw[nt this]
theorem zw0{ok:ByteArray→Bool}{ws:List Wd}(h:ws.length≤i∨(i+k<ws.length∧ok (aD ws (i+k))=false)):eQ ok (az ws i)=none:=by
 unfold eQ;refine E fun a=>?_;rcases h with h|⟨h1,c⟩
 ·exact a.1 (mA h)
 have b:=qy.1 a.2 (aD ws (i+k)) (uQ (Is h1));rw[c]at b;cases b
theorem ye2{ok:ByteArray→Bool}{ws:List Wd}(h0:i<ws.length)(h:∀j,i+j<ws.length→ok (aD ws (i+j))=true):eQ ok (az ws i)=some (az ws i):=by
 unfold eQ;refine M ⟨fun e=>?_,?_⟩
 ·have:=zf5 ws i;rw[e]at this;simp at this;omega
 rw[qy];intro x b;obtain⟨j,hj,rfl⟩:=oS b;have a:i+j<ws.length:=U7;have:=Is (ws:=ws) a;rw[bR hj]at this;rw[nt this];exact h j a
theorem zc{fin:Int}(S:na w0 r a n c fin i w)(_:w0.heap.size≤r)(hF:am (fun k=>k=r) w W)(d:l7 r (.slice a n c) j fin W):na w0 r a n c fin j W :=
 ⟨d,hF.os.trans S.bm.os,hF.tape.trans S.bm.tape,hF.output.trans S.bm.output,fu S.bm.size hF.size,fun k b=>(hF.block k (jq b S.bm.size) Z).trans (S.bm.block k b)⟩
theorem texts_one{ws:List Wd}(h:i<ws.length):(az ws i).take 1=[aD ws i]:=by
 have:=zrs (ws:=ws) (i:=i) (k:=0) Z;exact uu
structure NmI(w0:World)(r:Nat)(a:Option Addr)(n c:Nat)(fin:Int)(ws:List Wd)(i:Nat)(ok:ByteArray→Bool)(w:World)(k:Nat)(v:Value)(W:World):Prop where
 st:na w0 r a n c fin (i+k) W
 row:W.ownsRow w.heap.size 9 1 v k (((az ws i).take k).map Value.string)
 all:∀j,j<k→ok (aD ws (i+j))=true
 gc:am (fun x=>x=r) w W
 pos:1≤k
 le:i+k≤ws.length
theorem zvz{w:World}{r:Nat}{a:Option Addr}{n c:Nat}{fin:Int}{ws:List Wd}{i:Nat}(C:FS w0 r a n c fin ws)(S:na w0 r a n c fin i w)(ax:i≤1000){f:FuncId}(af:∀args w,(callFunc f args).run prog w=.ok (.enter f args) w){ok:ByteArray→Bool}
  (K:∀s W,s.size≤70000→Below w0.heap.size w0 W→Calls prog f #[.string s] W fun e w'=>e=.returned (.bool (ok s))∧Below W.heap.size W w') :
  Calls prog 48 #[rp r,.func (.func f) #[] #[]] w (Nb r a n c fin ws i ok w):=by
 have aP:r<w.heap.size:=(bS.1 S.box).1;have ay:=C.len;have aR:=C.n1000;have L:=Dp C S ax af (ok:=ok) (fun s W t k=>K s W t (S.bm.trans (k.mono S.bm.size)));have aA:=fun (W:World) (k:Nat) (R:i+k≤1000) (S:na w0 r a n c fin (i+k) W)=>Dp C S R af (ok:=ok) (fun s bP t q=>K s bP t (S.bm.trans (q.mono S.bm.size)));have aB:=fun (W:World) (k:Nat) (S:na w0 r a n c fin (i+k) W)=>C.more S;obtain⟨s,t⟩:=Y (aD ws i);unfold sE at L;rw[←t]at L;have T:=C.low;have aU:=S.bm.size;revert C S K ay aA aB L t;refine fg ?_;intro HC HS HR Hn Ep HM HT Hs;go_enter func48,ntmps48;go_wp2_with fail;refine HT.o.mono ?_;rintro e w1 ⟨⟨hi,dz,rfl,de⟩|⟨aj,j,rfl⟩,bC⟩
 ·have ag:=bC.size;obtain⟨w2,eo⟩:=Y (w1.alloc (.cells #[.string s] 9));have U:Below w1.heap.size w1 w2:=Yc;have ah:w2.ownsRow w.heap.size 9 1 (.slice (some ⟨w1.heap.size,0,none⟩) 1 1) 1 [.string s]:=by rw[eo];exact wG (base:=w.heap.size) (e:=9) (size:=1) w1 #[.string s] 1 ag D rfl
  have X:=kS bC U;have ai:na w0 r a n c fin (i+1) w2:=zc HS.o T X (G U de);have l:NmI w0 r a n c fin ws i ok w 1 (.slice (some ⟨w1.heap.size,0,none⟩) 1 1) w2:=⟨ai,by rw[texts_one hi,←Hs.o];exact ah,fun j ak=>by obtain rfl:j=0:=Z;rw[mL,←Hs.o];exact dz,X,aE _,Z⟩;obtain⟨v0,GG⟩:∃v:Option Addr,v=some ⟨w1.heap.size,0,none⟩:=⟨_,rfl⟩;rw[←GG]at l;revert bC hi dz de ag U ah X ai l;refine dE ?_;intro al Hi ev cU dv ade bY Ij iS m;go_upto_region 2 with (fail);rw[←eo,←GG];clear eo GG;go_loopw [5] (fun v wr=>∃k,NmI w0 r a n c fin ws i ok w k v wr) (fun _ wr=>n-atOf r wr)
  case atStart=>exact⟨1,m.o⟩
  case round=>
   obtain⟨k,l⟩:=hrel;obtain⟨ra,rc,rfl⟩:=bg l.row;obtain⟨wo,B2⟩:=Y wr;rw[←B2]at l⊢;clear B2 wr;have aa:atOf r wo=i+k:=zp8 l.st.box;have u:=HM.o wo k l.st;have aV:=l.le;have aW:=l.pos;have aX:k≤1000:=gl;by_cases an:i+k<n
   ·rw[aO an]at u;have ao:i+k<ws.length:=gl;obtain⟨m,aq,ab⟩:=aQ l aa u;clear l aa u;go_wp2_with fail;refine ab.o.mono ?_;rintro e w3 ⟨rfl,q3,rfl⟩;have p:Below wo.heap.size wo (wo.drewN q3):=dU (aL _ _) q3;generalize wo.drewN q3=w3 at p⊢;have ar:=m.o.st.to p;have ad:=Ep.o w3 k Z ar;have y:=fh m.o.row p;have aC:=kS m.o.gc p;obtain⟨x,hx⟩:=Y (aD ws (i+k));unfold sE at ad;rw[←hx]at ad;obtain⟨N,hN⟩:=Y (((az ws i).take k).map Value.string);rw[←hN]at y;revert p ar aC ad hx y hN;refine eb ?_;intro bK avj iI HT3 Hx Cr HN;go_wp2_with fail;refine HT3.o.mono ?_;rintro e w4 ⟨⟨hi4,aAa,rfl,Cp⟩|⟨aj,j,rfl⟩,tw⟩
    ·have aF:=zc avj.o T tw Cp;have au:∀z,(Value.slice ra k rc).ownBlock=some z→z≠r:=fun z A e=>by have:=(m.o.row.lt z A).1;omega
     have aG:w4.ownsRow w.heap.size 9 1 (.slice ra k rc) k N:=tw.owns Cr.o (fun z A e=>au z A e);have B:am (fun x=>x=r) w w4:=iI.o.trans tw (fun _ _ h=>h);have aH:w.heap.size≤w4.heap.size:=B.size;revert tw hi4 aAa Cp aF au aG B;refine fg ?_;intro sg Hi4 aBd Cn Ja cZ aud YA;go_wp2_with (at_builtin;(refine kZ Ag rfl (.tmp 12) (.tmp 16) rfl w.heap.size (.slice ra k rc) k N rfl aud.o 1 #[.string x] rfl rfl dW Z cY aH ?_;intro v9 w9 aZ aT cg;obtain⟨a9,c9,rfl⟩:=bg aZ;have av:am (fun x=>x=r) w w9:=YA.o.grown aT (fun z A=>.inl (aud.o.lt z A).1);have aw:l7 r (.slice a n c) (i+k+1) fin w9:=(aT.block r (bS.1 Cn.o).1 (fun e=>cZ.o r e.symm rfl)).trans Cn.o;obtain⟨dY,Hfr9,uA⟩:=aQ aZ av aw;clear aZ aT cg av aw));go_roundw
     case rel=>
      refine⟨k+1,zc HS.o T Hfr9.o uA.o,?_,fun j ak=>?_,Hfr9.o,Z,Z⟩
      ·rw[zrs ao,oP,←HN.o,←Hx.o];exact dY.o
      by_cases e:j=k
      ·rw[e,←Hx.o];exact aBd.o
      exact m.o.all j Z
     case measure=>have h1:atOf r w9=i+k+1:=zp8 uA.o;rw[h1,aq.o];omega
    have F:eQ ok (az ws i)=none:=zw0 (k:=k) (.inr ⟨ao,by
     rcases aj with h|h
     ·omega
     rw[←Hx.o];exact h⟩)
    have B:am (fun x=>x=r) w w4:=iI.o.trans tw (fun _ _ h=>h);revert tw aj F B;refine bV ?_;intro sg aI ae YA;refine cK ?_;exact⟨rfl,znx ae.o rfl YA.o⟩
   rw[be an]at u;have R:i+k=ws.length:=gl;have aJ:=ye2 (ok:=ok) (ws:=ws) (i:=i) Z (fun j ak=>l.all j Z);have aK:(az ws i).take k=az ws i:=lH SS;revert l aa u aJ aK;refine bU ?_;intro m aq ab rW GL;go_wp2_with fail;refine ab.o.mono ?_;rintro e w3 ⟨rfl,q3,rfl⟩;have p:Below wo.heap.size wo (wo.drewN q3):=dU (aL _ _) q3;generalize wo.drewN q3=w3 at p⊢;have y:=fh m.o.row p;rw[GL.o]at y;have aM:=G p m.o.st.box;have aN:(az ws i).length=k:=SS;revert p y aM aN;refine bV ?_;intro bK Cr Fg im;go_wp2_with fail;go_ret;exact ztr rW.o rfl (by rw[im.o];exact Cr.o) (by rw[←R];exact Fg.o) (kS m.o.gc bK.o)
 have F:eQ ok (az ws i)=none:=zw0 (k:=0) (by
  rcases aj with h|h
  ·exact .inl h
  by_cases aY:i<ws.length
  ·exact .inr ⟨Z,by rw[mL,←Hs.o];exact h⟩
  exact .inl Z)
 obtain⟨aI,al,ae⟩:=aQ aj bC F;clear aj bC F;refine cK ?_;exact⟨rfl,znx ae.o rfl al.o⟩
theorem zpj{w:World}{r:Nat}{a:Option Addr}{n c:Nat}{fin:Int}{ws:List Wd}{i:Nat}(C:FS w0 r a n c fin ws)(S:na w0 r a n c fin i w)(_:i≤1000){f:FuncId}(_:∀args w,(callFunc f args).run prog w=.ok (.enter f args) w){ok:ByteArray→Bool}{cp:Value}
  (hR:∀s W,s.size≤70000→Below w.heap.size w W→Calls prog f #[.string s,cp] W fun e w'=>e=.returned (.bool (ok s))∧Below W.heap.size W w') :
  Calls prog 46 #[rp r,.func (.func f) #[] #[cp]] w (sE r a n c fin ws i ok w):=by
 exact agb
theorem zu2(o:ByteArray)(w:World):Calls prog 87 #[.string o] w fun e w'=>e=.returned (.func (.func 114) #[] #[.pointer (some ⟨w.heap.size,0,none⟩)])∧w'=w.alloc (.cells #[.string o] 9):=by
 refine anh ?_;intro Zg;go_enter func87,ntmps87;exact DO
theorem zzl(s o:ByteArray)(h:w.heap[g]?=some (.cells #[.string o] 9 (0,0))):Calls prog 114 #[.string s,.pointer (some ⟨g,0,none⟩)] w fun e w'=>e=.returned (.bool (decide (s=o)))∧Below w.heap.size w w':=by
 have d:=J h 0;simp only[aq,ar]at d;have f:=em.gu s o;obtain⟨b,c⟩:=Y (decide (s=o));rw[←c]at f⊢;obtain⟨Hh,Hb⟩:=ak h c;clear h c;go_enter func114,ntmps114;refine cK ?_;exact Gv
theorem path_any(s:ByteArray)(_:s.size≤70000)(w:World):Calls prog 90 #[.string s] w fun e w'=>e=.returned (.bool (uk s))∧Below w.heap.size w w':=by
 have h:decide ((s.size:Int)≤60)=uk s:=rz.2 Z;obtain⟨b,c⟩:=Y (uk s);rw[←c]at h⊢;have d:=O c;clear c;go_enter func90,ntmps90;refine cK ?_;go_ret;exact⟨by first|rfl|(rw[←h];rfl)|(simp[h]),aL _ _⟩
theorem Nk(s:ByteArray)(_:s.size≤70000)(w:World):Calls prog 47 #[.string s] w fun e w'=>e=.returned (.bool (eL s))∧Below w.heap.size w w' :=
 (zor s Z w).mono fun e w' ⟨a,b⟩=>⟨a,b ▸ aL _ _⟩
theorem zxo(s:ByteArray)(_:s.size≤70000)(w:World):Calls prog 88 #[.string s] w fun e w'=>e=.returned (.bool (qp s))∧Below w.heap.size w w' :=
 (zut s Z w).mono fun e w' ⟨a,b⟩=>⟨a,b ▸ aL _ _⟩
theorem verOk_any(s:ByteArray)(_:s.size≤70000)(a:dN w):Calls prog 86 #[.string s] w fun e w'=>e=.returned (.bool (tS s))∧Below w.heap.size w w' :=
 zrp s Z a
def xo(s:ByteArray):Bool:=decide (s=nZ) || decide (s=n8) || decide (s=kX) || decide (s=lF) || decide (s=kv) || decide (s=kY)
theorem jb(s:ByteArray)(l:List UInt8)(o:ByteArray)(a:o=⟨l.toArray⟩):(s.toList==l)=decide (s=o):=by
 have h:=em.gu s o;have e:o.toList=l:=by rw[DL,a]
 rw[e]at h;exact h
theorem zr5(s:ByteArray)(w:World):Calls prog 49 #[.string s] w fun e w'=>e=.returned (.bool (xo s))∧w'=w:=by
 have b:=jb s [118,101,114,115,105,111,110] nZ rfl;have c:=jb s [118,97,114,105,97,110,116] n8 rfl;have d:=jb s [112,114,111,118,105,100,101,115] kX rfl;have f:=jb s [100,101,112,101,110,100,115] lF rfl;have g:=jb s [99,111,110,102,108,105,99,116,115] kv rfl;have h:=jb s [102,105,108,101] kY rfl;unfold xo;obtain⟨i,h1⟩:=Y (decide (s=nZ));obtain⟨b2,h2⟩:=Y (decide (s=n8));obtain⟨b3,h3⟩:=Y (decide (s=kX));obtain⟨b4,h4⟩:=Y (decide (s=lF));obtain⟨b5,h5⟩:=Y (decide (s=kv));obtain⟨b6,h6⟩:=Y (decide (s=kY));rw[←h1]at b⊢;rw[←h2]at c⊢;rw[←h3]at d⊢;rw[←h4]at f⊢;rw[←h5]at g⊢;rw[←h6]at h⊢;clear h1 h2 h3 h4 h5 h6;go_enter func49,ntmps49
 cases i with
 |true=>go_wp2_with fail;go_ret;exact⟨rfl,rfl⟩
 |false=>
  cases b2 with
  |true=>go_wp2_with fail;go_ret;exact⟨rfl,rfl⟩
  |false=>
   cases b3 with
   |true=>go_wp2_with fail;go_ret;exact⟨rfl,rfl⟩
   |false=>
    cases b4 with
    |true=>go_wp2_with fail;go_ret;exact⟨rfl,rfl⟩
    |false=>
     cases b5 with
     |true=>go_wp2_with fail;go_ret;exact⟨rfl,rfl⟩
     |false=>
      cases b6 with
      |true=>go_wp2_with fail;go_ret;exact⟨rfl,rfl⟩
      |false=>go_wp2_with fail;go_ret;exact⟨rfl,rfl⟩
theorem zpg{ws:List Wd}(h:ws.length≤i∨tS (aD ws i)=false):Fr (az ws i)=none:=by
 by_cases a:ws.length≤i
 ·rw[mA a];rfl
 have hv:tS (aD ws i)=false:=h.resolve_left a;rw[fy Z];unfold Fr;split
 ·exact aot
 ·exact aot
 rfl
theorem yaf{ws:List Wd}(h:i+1=ws.length)(a:tS (aD ws i)=true):Fr (az ws i)=some (aD ws i,false):=by
 rw[fy Z,mA Z];unfold Fr;simp[a]
theorem yae{ws:List Wd}(h:i+2=ws.length)(a:tS (aD ws i)=true)(b:aD ws (i+1)=D1):Fr (az ws i)=some (aD ws i,true):=by
 rw[fy Z,fy Z,mA Z];unfold Fr;simp[a,b]
theorem zoh{ws:List Wd}(h:i+1<ws.length)(a:aD ws (i+1)≠D1∨i+2<ws.length):Fr (az ws i)=none:=by
 rw[fy Z,fy Z];by_cases b:i+1+1<ws.length
 ·rw[fy b];rfl
 rw[mA Z];unfold Fr;have:=a.resolve_right Z;simp[this]
theorem Ib{ok:ByteArray→Bool}{ws:List Wd}(h:i+1=ws.length)(a:ok (aD ws i)=true):p8 ok (az ws i)=some (aD ws i):=by
 rw[fy Z,mA Z];unfold p8;simp[a]
theorem vT{ok:ByteArray→Bool}{ws:List Wd}(h:ws.length≤i∨ok (aD ws i)=false∨i+1<ws.length):p8 ok (az ws i)=none:=by
 by_cases a:ws.length≤i
 ·rw[mA a];rfl
 rw[fy Z];by_cases b:i+1<ws.length
 ·rw[fy b];rfl
 rw[mA Z];unfold p8;have c:=(h.resolve_left a).resolve_right b;simp[c]
theorem Qf{ws:List Wd}(h:i<ws.length):varL (az ws i)=if eL (aD ws i)=true then (eQ qp (az ws (i+1))).map fun q=>(aD ws i,q) else none:=by
 rw[fy h];rfl
theorem LW{n:Int}{ws:List Wd}(h:i<ws.length):wQ n (az ws i)=if eL (aD ws i)=true then (eQ eL (az ws (i+1))).map fun q=>(aD ws i,q,n) else none:=by
 rw[fy h];rfl
abbrev pv(a:Option Addr)(n c i:Nat)(fin bad:Int):Value:=.agg #[.slice a n c,.int .i64 i,.int .i64 fin,.int .i64 bad]
abbrev es(k:Nat)(a:Option Addr)(n c i:Nat)(fin bad:Int)(W:World):Prop:=W.heap[k]?=some (.cells #[.slice a n c,.int .i64 i,.int .i64 fin,.int .i64 bad] 150 (0,0))
theorem a8{fin bad:Int}(h:es k a n c i fin bad W):(W.cell? ⟨k,0,none⟩=some (.slice a n c)∧W.cell? ⟨k,1,none⟩=some (.int .i64 i)∧W.cell? ⟨k,2,none⟩=some (.int .i64 fin)∧W.cell? ⟨k,3,none⟩=some (.int .i64 bad))∧W.frozen? ⟨k,0,none⟩=false∧W.frozen? ⟨k,1,none⟩=false∧W.frozen? ⟨k,2,none⟩=false∧W.frozen? ⟨k,3,none⟩=false :=
 ⟨⟨J h 0,J h 1,J h 2,J h 3⟩,aG h 0,aG h 1,aG h 2,aG h 3⟩
theorem CI(w:World)(a:Option Addr)(n c i:Nat)(fin bad:Int):Calls prog 80 #[pv a n c i fin bad] w fun e w'=>e=.returned (.bool (decide (i<n)))∧Below w.heap.size w w':=by
 have b:decide ((i:Int)<(n:Int))=decide (i<n):=rz.2 Z;go_enter func80,ntmps80;refine cK ?_;go_ret;exact⟨rfl,aS _ _⟩
theorem B3{ws:List Wd}(l:j7 w [.slice a n c] ws)(i:Nat)(fin bad:Int):Calls prog 74 #[pv a n c i fin bad] w fun e w'=>e=.returned (.string (aD ws i))∧Below w.heap.size w w':=by
 obtain⟨q,_,m⟩:=pF l;refine lM ?_;intro g hg;obtain⟨W1,aK⟩:=Y (w.alloc (.cells #[.slice a n c,.int .i64 i,.int .i64 fin,.int .i64 bad] 150));have r:Below w.heap.size w W1:=yF;have p:es g a n c i fin bad W1:=IJ;obtain⟨⟨c0,c1,c2,c3⟩,_⟩:=a8 p;have j:=CI W1 a n c i fin bad;by_cases hi:i<n
 ·have t:i<ws.length:=Z;obtain⟨b,off,rfl,_,d1,_⟩:=m i _ (bR t);rw[Ec t];obtain⟨s,hs⟩:∃s:ByteArray,s=⟨ws[i].2.toArray⟩:=⟨_,rfl⟩;rw[←hs]at d1⊢;rw[aO hi]at j;refine OE ?_;intro k5 k6;clear hs m;revert q r l p j;refine bU ?_;intro v f y u HM;go_enter func74,ntmps74;go_upto_region 1 with (fail);refine iE ?_;clear aK hg;go_wp2_with fail;refine mU ?_;rintro e w2 ⟨rfl,af⟩;obtain⟨⟨e0,e1,_,_⟩,_⟩:=a8 (G af u.o);have aM:=f.o.trans (af.mono f.o.size);have f1:=ab aM d1;exact ami
 rw[uJ Z];rw[be hi]at j;clear m;revert l q r p j;refine bU ?_;intro y v f u HM;go_enter func74,ntmps74;go_upto_region 1 with (fail);refine iE ?_;clear aK hg;go_wp2_with fail;refine mU ?_;rintro e w2 ⟨rfl,af⟩;have aM:=f.o.trans (af.mono f.o.size);exact ami
theorem Uq{ws:List Wd}(v:j7 w [.slice a n c] ws)(i:Nat)(fin:Int):Calls prog 81 #[pv a n c i fin 0] w fun e w'=>e=.returned (pv a n c i fin (cO ws fin i))∧Below w.heap.size w w':=by
 obtain⟨F,_,y⟩:=pF v;refine afy ?_;intro g hg W1 aK ai p0 p1 bZ;obtain⟨⟨c0,c1,c2,c3⟩,_,_,_,q3⟩:=a8 p0;obtain⟨W2,eh⟩:=Y (W1.setCell ⟨g,3,none⟩ (.int .i64 fin));have z:es g a n c i fin fin W2:=by rw[eh];exact ag W1 g 3 _ _ _ p0
 have K:es (g+1) none 0 0 0 0 0 W2:=by rw[eh];exact ah p1 Z
 have L:Below w.heap.size w W2:=by rw[eh];exact ai.setCell (p:=⟨g,3,none⟩) bZ _
 obtain⟨⟨d0,d1,d2,d3⟩,_⟩:=a8 z;have r:=CI W2 a n c i fin fin;have N:∀(W:World)(x:Int),es g a n c i fin x W→es (g+1) none 0 0 0 0 0 W→Below w.heap.size w W→es (g+1) a n c i fin x ((((W.setCell ⟨g+1,0,none⟩ (.slice a n c)).setCell ⟨g+1,1,none⟩ (.int .i64 i)).setCell ⟨g+1,2,none⟩ (.int .i64 fin)).setCell ⟨g+1,3,none⟩ (.int .i64 x))∧Below w.heap.size w ((((W.setCell ⟨g+1,0,none⟩ (.slice a n c)).setCell ⟨g+1,1,none⟩ (.int .i64 i)).setCell ⟨g+1,2,none⟩ (.int .i64 fin)).setCell ⟨g+1,3,none⟩ (.int .i64 x)):=fun W x _ h1 hb=>by exact aed
 by_cases hi:i<n
 ·have R:i<ws.length:=Z;obtain⟨b,off,rfl,S,_,_⟩:=y i _ (bR R);rw[zue R];obtain⟨s,hs⟩:=Y (ws[i].1);rw[←hs]at S⊢;rw[aO hi]at r;refine OE ?_;intro k5 k6;clear hs y;revert F ai p1 K L v p0 z r N;refine dE ?_;intro T U X A l aa ad B HM C;go_enter func81,ntmps81;go_upto_region 1 with (fail);refine iE ?_;clear aK hg;go_upto_region 4 with (fail);rw[←eh];clear eh c0 c1 c2 c3 q3;go_wp2_with fail;refine mU ?_;rintro e w2 ⟨rfl,aM⟩;have m:=G aM B.o;have q:=G aM A.o;obtain⟨⟨r0,r1,r2,r3⟩,_,_,_,z3⟩:=a8 m;obtain⟨_,f0,f1,f2,f3⟩:=a8 q;have t:=l.o.trans (aM.mono l.o.size);have ae:=ab t S;revert aM m q t;refine bV ?_;intro bK vR gD dL;go_wp2_with fail;have hf:=C.o _ s (ag w2 g 3 _ _ (.int .i64 s) vR.o) (ah (b:=g) (i:=3) (u:=.int .i64 s) gD.o Z) (dL.o.setCell (p:=⟨g,3,none⟩) bZ _);exact anv
 rw[zuf Z];rw[be hi]at r;clear y;revert v F ai p0 p1 z K L r N;refine dE ?_;intro aa T U ad X B A l HM C;go_enter func81,ntmps81;go_upto_region 1 with (fail);refine iE ?_;clear aK hg;go_upto_region 4 with (fail);rw[←eh];clear eh c0 c1 c2 c3 q3;go_wp2_with fail;refine mU ?_;rintro e w2 ⟨rfl,aM⟩;have m:=G aM B.o;have q:=G aM A.o;obtain⟨⟨r0,r1,r2,r3⟩,_,_,_,z3⟩:=a8 m;obtain⟨_,f0,f1,f2,f3⟩:=a8 q;have t:=l.o.trans (aM.mono l.o.size);revert aM m q t;refine bV ?_;intro bK vR gD dL;go_wp2_with fail;have hf:=C.o _ fin vR.o gD.o dL.o;exact anv
end
section
open RowKit Shelf Lib av
theorem zok(s t a b:ByteArray)(W:World):(binOp .neq 51 (.agg #[.string s,.string t]) (.agg #[.string a,.string b])).run prog W=.ok (.bool (!(decide (s=a)&&decide (t=b)))) W:=by
 have e:=ox;have c:prog.underlying 51=some (.struct (prog.fieldsOf 51)):=aA;have d:prog.stoodInHeld 51=false:=aA;rw[run_neq_struct,show (10000:Nat)=9999+1 from rfl,Sk W 9999 51 _ _ c d];simp only[Program.fieldsOf,Oj];exact V4
theorem zve{l m:List h8}(h:gy w [v] l)(p:gy w [u] m):Calls prog 116 #[v,u] w fun e w'=>e=.returned (.bool (decide (l=m)))∧∃q,w'=w.drewN q:=by
 obtain⟨a,cap,rfl,z,g⟩:=qA h;obtain⟨a2,tY,rfl,cc,g2⟩:=qA p;refine Gq ?_;intro n hn n2 cS r hr;have A:=fun s t a b=>zok s t a b;rw[←hr];rw[←hn]at z h⊢;rw[←cS]at cc p⊢;revert g g2 h hn p cS hr A;refine fg ?_;intro Hg lB Hh Hn Hm fV Hr qY;go_enter func116,ntmps116;exact VV
theorem zwj{l m:List h8}(h:gy w [v] l)(p:gy w [u] m):Calls prog 92 #[v,u] w fun e w'=>e=.returned (.bool (decide (l=m)))∧∃q,w'=w.drewN q:=by
 obtain⟨a,cap,rfl,z,g⟩:=qA h;obtain⟨a2,tY,rfl,cc,g2⟩:=qA p;refine Gq ?_;intro n hn n2 cS r hr;have A:=fun s t a b=>zok s t a b;rw[←hr];rw[←hn]at z h⊢;rw[←cS]at cc p⊢;revert g g2 h hn p cS hr A;refine fg ?_;intro Hg lB Hh Hn Hm fV Hr qY;go_enter func92,ntmps92;exact VV
def zui(F:List h8):Prop:=F.length≤30∧∀z∈F,z.1.size≤100∧z.2.size≤100
theorem zte{F:List h8}(h:gy w [v] F):Calls prog 63 #[v] w fun e w'=>(∃r,e=.returned (.bool r)∧(r=false→zui F))∧w=w':=by
 obtain⟨a,cap,s,K,t⟩:=qA h;have u:=Bb (by rw[←s];exact h);subst s;obtain⟨q,hq⟩:=Y F.length;have A:=sps_size h;rw[←hq]at h K⊢;by_cases U:30<q
 ·have L:decide ((30:Int)<(q:Int))=true:=aO Z;revert t u h hq A;refine bU ?_;intro N B R Hq C;go_enter func63,ntmps63;exact apb
 have L:decide ((30:Int)<(q:Int))=false:=be Z;revert t u h hq A;refine bU ?_;intro N B R Hq C;go_enter func63,ntmps63;go_wp2_with fail;go_loopw [9] (fun i wr=>∃k:Nat,k≤q∧i=.int .i64 k∧(∀j (l:j<F.length),j<k→F[j].1.size≤100∧F[j].2.size≤100)∧wr=w) (fun i _=>q-(RowKit.intOf i).toNat)
 case atStart=>exact⟨0,bj _,rfl,(fun _ _ h=>absurd h (Nat.not_lt_zero _)),rfl⟩
 case round=>
  obtain⟨k,_,rfl,aj,rfl⟩:=hrel;by_cases W:k<q
  ·have JF:k<F.length:=J7;obtain⟨y,hy⟩:=Y (F[k]);obtain⟨b,off,rfl,c0,c1⟩:=B.o k y X4;have vM:=C.o y X5
   have cq:y.1.size≤100→y.2.size≤100→∀j (l:j<F.length),j<k+1→F[j].1.size≤100∧F[j].2.size≤100:=fun h S j l X=>by
    by_cases e:j=k
    ·subst e;rw[←hy];exact⟨h,S⟩
    exact aj j l Z
   obtain⟨n,dX⟩:=Y y.1;obtain⟨y2,iV⟩:=Y y.2;rw[←dX]at c0 cq vM;rw[←iV]at c1 cq vM;unfold maxLen at vM;refine kG ?_;intro k5;have aa:(k:Int)<(q:Int):=Z;by_cases h1:100<n.size
   ·have T:decide ((100:Int)<(n.size:Int))=true:=aO Z;exact ajh
   have T:decide ((100:Int)<(n.size:Int))=false:=be Z;by_cases ab:100<y2.size
   ·have e2:decide ((100:Int)<(y2.size:Int))=true:=aO Z;exact ajh
   have e2:decide ((100:Int)<(y2.size:Int))=false:=be Z;have m:=cq Z Z;revert aj hy dX vM cq iV m;refine eb ?_;intro cd Hy Le PL dV Tx p;refine cK ?_;go_roundw
   case rel=>exact⟨k+1,Z,cj,p.o,sU⟩
   case measure=>(simp[RowKit.intOf])<;>omega
  obtain rfl:k=q:=Z;have m:zui F:=⟨J7,fun z hz=>by obtain⟨j,l,rfl⟩:=DJ.1 hz;exact aj j l J7⟩;obtain⟨cd,p⟩:=ak aj m;clear aj m;go_wp2_with fail;go_ret;exact⟨⟨_,rfl,fun _=>p.o⟩,rfl⟩
def tQ(s:dj):Prop:=s.1.size≤100∧s.2.2.length≤20∧zui s.2.1∧∀x∈s.2.2,x.1.size≤100∧x.2.size≤100
theorem zjk{q:List h8}{l:List el}(z:gy w [u] q)(h:fm w [v] l):Calls prog 33 #[.agg #[.string nm,u,v]] w fun e w'=>(∃r,e=.returned (.bool r)∧(r=false→tQ (nm,q,l)))∧Below w.heap.size w w':=by
 have A:Below w.heap.size w (w.alloc (.cells #[.string nm,u,v] 55)):=aS _ _;have B:=zte (bz jm _ _ _ _ z A);obtain⟨F,bw⟩:=Y (w.alloc (.cells #[.string nm,u,v] 55));obtain⟨nb,ck⟩:=Y w.heap.size;have p:F.heap[nb]?=some (.cells #[.string nm,u,v] 55 (0,0)):=Tc;rw[←bw]at A B;obtain⟨ua,uc,rfl,hzu,_⟩:=qA z;obtain⟨m,hm⟩:=Y q.length;rw[←hm]at B p bw hzu;obtain⟨a,cap,rfl,hz,g⟩:=sD h;obtain⟨n,hn⟩:=Y l.length;rw[←hn]at hz h p bw;rw[←hm,←hn];have aa:=J p 0;have c1:=J p 1;have c2:=J p 2;simp only[aq,ar,aw]at aa c1 c2;revert A z B hm g p h hn;refine fg ?_;intro cr Cb HG Hm Hg cU Hh Hn;go_enter func33,ntmps33;go_upto_region 1 with (fail);refine mn ?_;obtain⟨U5,G8⟩:=ak bw ck;clear bw ck;by_cases h1:100<nm.size
 ·have K:decide ((100:Int)<(nm.size:Int))=true:=aX;exact td
 have K:decide ((100:Int)<(nm.size:Int))=false:=aX;by_cases L:20<n
 ·have N:decide ((20:Int)<(n:Int))=true:=aX;exact td
 have N:decide ((20:Int)<(n:Int))=false:=aX;go_wp2_with fail;refine HG.o.mono ?_;rintro e w1 ⟨⟨r,rfl,R⟩,rfl⟩;have ad:=O R;clear R
 cases r with
 |true=>exact td
 |false=>
  go_wp2_with fail
  clear K N;obtain⟨ae,af⟩:=ak h1 L;clear h1 L;go_loopw [22] (fun i wr=>∃k:Nat,k≤n∧i=.int .i64 k∧(∀j x,j<k→l[j]?=some x→x.1.size≤100∧x.2.size≤100)∧F=wr) (fun i _=>n-(intOf i).toNat)
  case atStart=>exact⟨0,bj _,rfl,fun j x h=>Z,rfl⟩
  case round=>
   obtain⟨k,_,rfl,S,rfl⟩:=hrel;have T:=O S;clear S;by_cases ai:k<n
   ·have aI:k<l.length:=gl;obtain⟨b,off,rfl,d0,d1,U,W⟩:=Hg.o k _ (bR aI);obtain⟨x,hx⟩:=Y (l[k]);rw[←hx]at d0 d1 U W;refine DQ ?_;intro s hs t ht;rw[←hs]at d0 U;rw[←ht]at d1 W;have aj:=ab cr.o d0;have al:=ab cr.o d1;refine s_ ?_;intro k5 k6;have X:l[k]?=some x:=lD;clear hx aI d0 d1;obtain⟨vW,Hs,Ht⟩:=aQ X hs ht;clear X hs ht;by_cases an:100<s.size
    ·have ag:decide ((100:Int)<(s.size:Int))=true:=aX;exact td
    have ag:decide ((100:Int)<(s.size:Int))=false:=aX;by_cases ao:100<t.size
    ·have ah:decide ((100:Int)<(t.size:Int))=true:=aX;exact td
    have ah:decide ((100:Int)<(t.size:Int))=false:=aX;refine cK ?_;go_roundw
    case rel=>
     refine⟨k+1,Z,cj,fun j y au C=>?_,sU⟩;by_cases e:j=k
     ·subst e;rw[vW.o]at C;obtain rfl:=nt C;rw[←Hs.o,←Ht.o];omega
     exact T.o j y Z C
    case measure=>simp[intOf];omega
   obtain rfl:k=n:=Z;go_wp2_with fail;go_ret;exact⟨⟨false,rfl,fun _=>⟨by have:=ae.o;show nm.size≤100;omega,by have:=af.o;have:=Hn.o;show l.length≤20;omega,ad.o trivial,fun x hx=>by obtain⟨i,hi,e⟩:=oS hx;exact T.o i x (by have:=Hn.o;have hi:i<l.length:=hi;omega) SQ⟩⟩,cr.o⟩
end
section
open Shelf RowKit Lib av
attribute [local go_sem ↓] wp_at_zero wp_at_succ
theorem zt4(w:World):gy w [.slice none 0 0] []:=⟨_,0,rfl,bj _,bj _,fun i x hi=>by simp at hi⟩
theorem rdPost_to{t:ByteArray}{e:Ending}(h:RdPost t w e w'):Nv t w e w':=by
 obtain⟨h,f⟩:=h;refine⟨?_,f⟩;rcases h with⟨v,rfl,⟨h0,rfl⟩|⟨h0,h1,g,b⟩⟩|⟨rfl,h0,h1⟩
 ·exact .inl ⟨_,rfl,.inl h0,by unfold o5;rw[if_pos h0];exact yan (zt4 _)⟩
 ·refine .inl ⟨_,rfl,.inr ⟨h1,g⟩,?_⟩;unfold o5;rw[E h0];obtain⟨l,a⟩:=FJ t h1;rw[←a]at b⊢;exact⟨Dm (fun x hx=>arj) b,fun _=>NF b⟩
 refine .inr ⟨_,rfl,?_,zt4 _⟩;rintro (h|⟨c,i⟩)
 ·exact h0 h
 rcases h1 with⟨p,j,d⟩|h1
 ·rw[c p j]at d;cases d
 obtain⟨l,a⟩:=FJ t c;exact h1 l a (i l a)
theorem spsRd_any(t:ByteArray)(a:t.size≤70000)(b:dN w):Calls prog 119 #[.string t] w (Nv t w):=(zxv t a b).mono fun _ _ h=>rdPost_to h
def Jf(t:ByteArray)(w:World)(e:Ending)(w':World):Prop :=
 ∃a n c,e=.returned (.tuple #[.slice a n c,.bool (ib t)])∧(ib t=true→hU w' (.slice a n c) (o5 t))∧Below w.heap.size w w'
open Classical in
theorem zv9{t:ByteArray}(h:Rd3 t){x:h8}{r:List h8}(a:o5 t=x::r)(b:(decide (x.1=⟨#[]⟩)&&decide (x.2=⟨#[]⟩))=false):ib t=true:=by
 unfold ib;rw[fE];refine⟨h,by rw[a];simp,by rw[a];rintro e;simp at e;rw[e]at b;simp at b⟩
open Classical in
theorem zva{t:ByteArray}{x:h8}{r:List h8}(b:o5 t=x::r)(a:(decide (x.1=⟨#[]⟩)&&decide (x.2=⟨#[]⟩))=true):ib t=false:=by
 unfold ib;rw[pQ];rintro⟨_,_,h⟩;rw[b]at h;simp only[fI,fE]at a;exact h (by rw[List.head?_cons];exact iB some (zA a.1 a.2))
open Classical in
theorem zvb{t:ByteArray}(a:o5 t=[]):ib t=false:=by
 unfold ib;rw[pQ];rintro⟨_,h,_⟩;exact h a
open Classical in
theorem yau{t:ByteArray}(h:¬Rd3 t):ib t=false:=by
 unfold ib;rw[pQ];exact fun k=>h k.1
theorem zug(x:ByteArray):(x.toList==(⟨#[]⟩:ByteArray).toList)=decide (x=⟨#[]⟩):=em.gu _ _
theorem yai:(⟨#[]⟩: ByteArray).toList=[]:=by rw[DL]
theorem set_any(t:ByteArray)(q:t.size≤70000)(m:dN w):Calls prog 97 #[.string t] w (Jf t w):=by
 have p:=spsRd_any t q m;obtain⟨r,_⟩:=ak p m;clear p m;go_enter func97,ntmps97;go_wp2_with fail;refine r.o.mono ?_;rintro e w1 ⟨⟨v,rfl,hr,hv⟩|⟨v,rfl,hr,hv⟩,hb⟩
 ·obtain⟨a,c,rfl⟩:=qz hv.1;have aU:=Bb hv.1;obtain⟨n,hn⟩:=Y ((o5 t).length);rw[←hn]at hv⊢
  match hL:o5 t with
  |[]=>have hf:=zvb hL;rw[hL]at hn;obtain rfl:n=0:=hn;clear aU hL;obtain⟨Hr,Hv,Hf,Hb⟩:=kg hr hv hf hb;clear hr hv hf hb;exact Wh
  |x::s=>
   revert a aU hv;refine aer ?_;intro b off hv cz k1 k2 y c0 hy z c1 hz k5 p1 x1 eA p2 q1 r_ fF x2 oI
   cases p1 with
   |false=>exact afl
   |true=>
    cases p2 with
    |false=>exact afl
    |true=>have hf:=r_ rfl;obtain⟨Hr,Hv,Hf,Hb,HL,Hn,Hy,Hz,rW,Cq,fG,q9⟩:=Bx hr hv hf hb hL hn hy hz fF r_ eA oI;clear hr hv hf hb hL hn hy hz fF r_ eA oI;exact Wh
 have hf:=yau hr;obtain⟨a,c,rfl⟩:=qz hv;revert hb hr hf hv;refine bV ?_;intro Hb Hr Hf Hv;exact Wh
theorem zs2(t:ByteArray)(p:t.size≤70000):Calls prog 138 #[.string t] w (Jf t w):=by
 have m:=zvm t p w;have q:=O m;clear m;go_enter func138,ntmps138;go_wp2_with fail;refine q.o.mono ?_;rintro e w1 ⟨⟨v,rfl,hr,hv⟩|⟨v,rfl,hr,hv⟩,hb⟩
 ·obtain⟨a,c,rfl⟩:=qz hv.1;have aU:=Bb hv.1;obtain⟨n,hn⟩:=Y ((o5 t).length);rw[←hn]at hv⊢
  match hL:o5 t with
  |[]=>have hf:=zvb hL;rw[hL]at hn;obtain rfl:n=0:=hn;clear aU hL;obtain⟨Hr,Hv,Hf,Hb⟩:=kg hr hv hf hb;clear hr hv hf hb;exact Wz
  |x::r=>
   revert a aU hv;refine aer ?_;intro b off hv cz k1 k2 y c0 hy z c1 hz k5 p1 x1 eA p2 q1 r_ fF x2 oI
   cases p1 with
   |false=>exact afx
   |true=>
    cases p2 with
    |false=>exact afx
    |true=>have hf:=r_ rfl;obtain⟨Hr,Hv,Hf,Hb,HL,Hn,Hy,Hz,rW,Cq,fG,q9⟩:=Bx hr hv hf hb hL hn hy hz fF r_ eA oI;clear hr hv hf hb hL hn hy hz fF r_ eA oI;exact Wz
 have hf:=yau hr;obtain⟨a,c,rfl⟩:=qz hv;revert hb hr hf hv;refine bV ?_;intro Hb Hr Hf Hv;exact Wz
end
section
open Shelf RowKit Lib av cy
open ac (Wd)
attribute [local go_sem ↓] wp_at_zero wp_at_succ
def WishPost(r:Nat)(a:Option Addr)(n c:Nat)(fin:Int)(ws:List Wd)(i:Nat)(w:World)(e:Ending)(w':World):Prop :=
 ((∃s j v1 v2,eR ws i=(some s,j)∧e=.returned (.agg #[.string s.1,v1,v2])∧hU w' v1 s.2.1∧iy w' v2 s.2.2∧l7 r (.slice a n c) j fin w')∨(∃j,eR ws i=(none,j)∧e=rH (cO ws fin j)))∧am (fun k=>k=r) w w'
abbrev dQ(k:Nat)(x y z:Value)(W:World):Prop:=W.heap[k]?=some (.cells #[x,y,z] 55 (0,0))
theorem cT{x:Value}(h:dQ k x y z W):W.cell? ⟨k,0,none⟩=some x∧W.cell? ⟨k,1,none⟩=some y∧W.cell? ⟨k,2,none⟩=some z∧W.frozen? ⟨k,0,none⟩=false∧W.frozen? ⟨k,1,none⟩=false∧W.frozen? ⟨k,2,none⟩=false :=
 ⟨J h 0,J h 1,J h 2,aG h 0,aG h 1,aG h 2⟩
theorem dh(hF:am S W W'){o:Obj}(h:W.heap[k]?=some o)(a:¬S k):W'.heap[k]?=some o:=bI h hF a
theorem Cv{g1:Nat}{fin:Int}{a b:Value}{c d e:Option Addr}{f j l m d0 d1:Nat}(h:l7 r v i fin W)(h0:dQ g a (.slice c f m) (.slice d j d0) W)(h1:dQ g1 b (.slice a1 n1 c1) (.slice e l d1) W):No2 W (fun k=>k=r∨k=g∨k=g1):=by
 rintro k (rfl|rfl|rfl)
 ·exact jf h D D
 ·exact jf h0 D D
 exact jf h1 D D
theorem yac{a W8:World}{g1:Nat}{fin:Int}{x p q s:Value}(h0:dQ g x y z a)(h:l7 r v i fin a)(c:r≠g)(d:r≠g1)(e:g≠g1)(f:W8=(((a.setCell ⟨g1,2,none⟩ u).setCell ⟨g,0,none⟩ p).setCell ⟨g,1,none⟩ q).setCell ⟨g,2,none⟩ s):dQ g p q s W8∧l7 r v i fin W8:=by
 rw[f];refine⟨?_,ah (ah (ah (ah h d) c) c) c⟩;have j:=ag _ g 0 _ _ p (ah (b:=g1) (i:=2) (u:=u) h0 e);have k:=ag _ g 1 _ _ q j;have l:=ag _ g 2 _ _ s k;exact l
structure WsI(w0:World)(r:Nat)(a:Option Addr)(n c:Nat)(fin:Int)(i:Nat)(w:World)(W:World):Prop where
 st:na w0 r a n c fin i W
 gc:am (fun k=>k=r) w W
 g0:dQ w.heap.size (.string ⟨#[]⟩) (.slice none 0 0) (.slice none 0 0) W
theorem WsI.to{fin:Int}(h:WsI w0 r a n c fin i w W)(b:Below W.heap.size W W'):WsI w0 r a n c fin i w W' :=
 ⟨h.st.to b,h.gc.trans (am.ce (S:=fun _=>False) b) (fun _ _ h=>h.elim),G b h.g0⟩
structure WsJ(w0:World)(r:Nat)(a:Option Addr)(n c:Nat)(fin:Int)(i:Nat)(w:World)(g g1:Nat)(nm:ByteArray)(va:Option Addr)(vn vc:Nat)(L:List h8)(W:World):Prop where
 st:na w0 r a n c fin i W
 gc:am (fun k=>k=r) w W
 g0:dQ g (.string ⟨#[]⟩) (.slice none 0 0) (.slice none 0 0) W
 g1:dQ g1 (.string nm) (.slice va vn vc) (.slice none 0 0) W
 rd:hU W (.slice va vn vc) L
theorem Jp(W:World):hU (W.alloc (.cells #[.string ⟨#[]⟩,.string ⟨#[]⟩] 51)) (.slice (some ⟨W.heap.size,0,none⟩) 1 1) gx:=by
 refine⟨?_,fun _ k b=>by cases b;exact⟨_,_,dq W _⟩⟩;refine⟨_,1,rfl,aE _,cY,fun i x hi=>?_⟩;have h:=dq W (.cells #[.string ⟨#[]⟩,.string ⟨#[]⟩] 51)
 match i,hi with
 |0,hi=>
  simp[gx]at hi;subst hi;refine⟨W.heap.size,0,[.string ⟨#[]⟩,.string ⟨#[]⟩],rfl,rfl,fun j u a=>?_,rfl,bj _,bj _⟩;rw[AQ,mL,og]
  match j,a with
  |0,a=>simp at a;subst a;exact J h 0
  |1,a=>simp at a;subst a;exact J h 1
 |i+1,hi=>simp[gx]at hi
theorem NC{ws:List Wd}(h:jC (aD ws i)=false):eR ws i=(none,i):=by
 unfold eR;rw[E zC]
theorem zpd{ws:List Wd}{L:List h8}(h:jC (aD ws i)=true)(a:s=aD ws i)(b:nm=(jv 64 s).1)(c:L=oj s):(∀l j,dm ws (i+1) []=(some l,j)→eR ws i=(some (nm,L,l),j))∧(∀j,dm ws (i+1) []=(none,j)→eR ws i=(none,j)):=by
 subst a b c;constructor
 ·intro l j e;unfold eR;rw[M h,e];rfl
 intro j e;unfold eR;rw[M h,e];rfl
theorem yad{fin:Int}{ws:List Wd}(C:FS w0 r a n c fin ws)(S:na w0 r a n c fin i w)(hi:i≤1000):Calls prog 89 #[rp r] w (WishPost r a n c fin ws i w):=by
 have ay:r<w.heap.size:=(bS.1 S.box).1;have aP:=C.n1000;obtain⟨s,K⟩:=Y (aD ws i);have aR:s.size≤70000:=by rw[K];exact C.o4 _
 have aj:WsI w0 r a n c fin i w (w.alloc (.cells #[.string ⟨#[]⟩,.slice none 0 0,.slice none 0 0] 55)):=⟨S.to (aS w _),(am.refl _ _).alloc _,dq _ _⟩;have al:=C.peek aj.st;rw[←K]at al;obtain⟨nm,q⟩:∃x:ByteArray,x=⟨(cut s.data.toList [64]).1.toArray⟩:=⟨_,rfl⟩;obtain⟨tl,BI⟩:∃x:ByteArray,x=⟨(cut s.data.toList [64]).2.1.toArray⟩:=⟨_,rfl⟩;obtain⟨fl,qX⟩:∃x:Bool,x=(cut s.data.toList [64]).2.2:=⟨_,rfl⟩;have az:nm.size≤70000∧tl.size≤70000:=by have:=zn4 64 s;have aB:nm=(jv 64 s).1:=q;have e2:tl=(jv 64 s).2.1:=BI;rw[aB,e2];omega
 have aC:nm=(jv 64 s).1:=q;have awu:=fun(W:World)=>zor nm Z W;obtain⟨nk,EK⟩:=Y (fW nm.data.toList);rw[←EK]at awu;have aE:jC (aD ws i)=(nk&&(!fl || ib tl)):=by rw[←K];unfold jC;rw[EK,qX,BI,q];rfl
 have aF:oj s=if fl=true then o5 tl else gx:=by unfold oj;rw[qX,BI];rfl
 revert C S K aj al az aC EK aE aF;refine dE ?_;intro HC _ an aG HP aI ao _ t aq;go_enter func89,ntmps89;go_wp2_with fail;refine qJ ?_;rintro e w1 ⟨rfl,q1,rfl⟩;have aa:=aG.o.to (dU (aL _ _) q1);generalize (w.alloc (.cells #[.string ⟨#[]⟩,.slice none 0 0,.slice none 0 0] 55)).drewN q1=ar at aa⊢;obtain⟨mx,hmx⟩:=(HC.o.dr aa.st).max;have au:=Tryz.strings_Cut s ⟨#[64]⟩ mx ar Z hmx;clear hmx;simp only[←q,←BI,←qX]at au;revert q BI qX aa au;refine bU ?_;intro B4 MA II axq aBm;go_wp2_with fail;refine aBm.o.mono ?_;rintro e w3 ⟨rfl,q2,rfl⟩;have ab:=axq.o.to (dU (aL _ _) q2);generalize ar.drewN q2=w3 at ab⊢;have N:=O ab;clear ab;go_upto_region 3 with (fail);refine lM ?_;intro g hg;obtain⟨g1,oM⟩:=Y (w3.heap.size+1);obtain⟨va,ub⟩:∃k:Option Addr,k=some ⟨w3.heap.size,0,none⟩:=⟨_,rfl⟩;obtain⟨w4,eM⟩:=Y (((w3.alloc (.cells #[.string ⟨#[]⟩,.string ⟨#[]⟩] 51)).alloc (.cells #[.string nm,.slice va 1 1,.slice none 0 0] 55)));have R:Below w3.heap.size w3 w4:=by rw[eM];exact (aS _ _).alloc ae _
 have av:WsJ w0 r a n c fin i w g g1 nm va 1 1 gx w4:=by
  refine⟨N.o.st.to R,?_,?_,?_,?_⟩
  ·exact N.o.gc.trans (am.ce (S:=fun _=>False) R) (fun _ _ h=>h.elim)
  ·rw[hg];exact G R N.o.g0
  ·rw[eM,oM];exact dx ae
  rw[eM,ub];exact pG (Jp w3) (aS _ _)
 have aT:r<g:=by rw[hg];exact ay
 have aU:g<g1:=by rw[oM,hg];have:=N.o.gc.size;omega
 refine ur ?_;intro bZ;rw[←ub,←eM,←hg,←oM];clear ub eM hg oM R;have m:=O av;clear av
 cases fl with
 |false=>
  cases nk with
  |false=>have GQ:=NC (ws:=ws) (i:=i) (by rw[t.o];rfl);have u:=m.o.st;have y:=m.o.gc;obtain⟨Ii,adc⟩:=ak u y;clear u y;exact VI
  |true=>
   have A:=zpd (L:=gx) (by rw[t.o];rfl) an.o ao.o (by rw[aq.o];rfl);have HI:=m;have B:=zi4 HC.o (HI.o.st.on HC.o.low);obtain⟨_,aJ,_,aK⟩:=sy HI.o.st.box;obtain⟨gC,QJ⟩:=ak B A;clear B A;go_wp2_with fail;refine XB ?_;go_wp2_with fail;refine (Ej _ r).mono ?_;rintro e w6 ⟨rfl,cL⟩;subst cL;go_wp2_with fail;refine gC.o.mono ?_;rintro e w7 ⟨⟨l,j,v,gF,rfl,hv,de⟩|⟨j,gF,rfl⟩,bC⟩
   ·revert v hv;refine akh ?_;intro a3 c3 mY z hv hz nT;have F:dQ g1 (.string nm) (.slice va 1 1) (.slice none 0 0) w7:=dh bC (ah (b:=r) (i:=1) HI.o.g1 Z) Z;obtain⟨_,_,_,axx,azm,azn⟩:=cT nT;obtain⟨x10,x11,_,f10,f11,f12⟩:=cT F;have ad:=HI.o.rd;revert bC gF de mY hv hz nT F ad;refine fK ?_;intro iR oN cU tJ Hv Hz AE AM IN;go_wp2_with fail;obtain⟨W8,Ps⟩:=Y ((((w7.setCell ⟨g1,2,none⟩ (.slice a3 z c3)).setCell ⟨g,0,none⟩ (.string nm)).setCell ⟨g,1,none⟩ (.slice va 1 1)).setCell ⟨g,2,none⟩ (.slice a3 z c3));refine aem ?_;intro eH xN tv;refine⟨.inl ⟨(nm,gx,l),j,.slice va 1 1,.slice a3 z c3,QJ.o.1 _ _ oN.o,rfl,?_,?_,eH.2⟩,xN⟩
    ·exact afi
    exact uK Hv.o tv (Cv cU.o AE.o AM.o)
   exact ags
 |true=>
  have U:=set_any tl (by have:=aI.o;omega) (HC.o.dr m.o.st);obtain⟨ok,af⟩:=Y (ib tl);unfold Jf at U;rw[←af]at U;obtain⟨Fc,ev⟩:=ak U af;clear U af;go_wp2_with fail;refine Fc.o.mono ?_;rintro e w5 ⟨a2,n2,c2,rfl,te,aW⟩;have X:=G aW m.o.g1;have aw:=G aW m.o.g0;obtain⟨_,_,_,_,Mn,_⟩:=cT X;have ai:=m.o.st.to aW;have ax:=m.o.gc.trans (am.ce (S:=fun _=>False) aW) (fun _ _ h=>h.elim);obtain⟨w6,cL⟩:=Y (w5.setCell ⟨g1,1,none⟩ (.slice a2 n2 c2));have u:na w0 r a n c fin i w6:=by rw[cL];exact⟨ah ai.box Z,ai.bm.setCell (p:=⟨g1,1,none⟩) arq _⟩
  have y:am (fun k=>k=r) w w6:=by rw[cL];exact ax.setCell (p:=⟨g1,1,none⟩) (.inl (by show w.heap.size≤g1;omega)) _
  have aM:ok=true→WsJ w0 r a n c fin i w g g1 nm a2 n2 c2 (o5 tl) w6:=fun k=>by
   refine⟨u,y,?_,?_,?_⟩
   ·rw[cL];exact ah aw Z
   ·rw[cL];exact ag _ g1 1 _ _ _ X
   rw[cL];exact lA (te k) (am.setCell (S:=fun k=>k=g1) (am.refl _ _) (p:=⟨g1,1,none⟩) (.inr rfl) _) (fun k hk=>by rw[show k=g1 from hk];exact jf X D D)
  revert te aW X aw ai ax u y aM;refine fK ?_;intro _ _ _ _ _ _ Ii adc aO
  cases nk with
  |false=>
   have GQ:=NC (ws:=ws) (i:=i) (by rw[t.o];rfl);go_upto_region 6 with (fail);rw[←cL];clear cL;exact VI
  |true=>
   cases ok with
   |false=>
    have GQ:=NC (ws:=ws) (i:=i) (by rw[t.o,←ev.o];rfl);go_upto_region 6 with (fail);rw[←cL];clear cL;exact VI
   |true=>
    have A:=zpd (L:=o5 tl) (by rw[t.o,←ev.o];rfl) an.o ao.o (by rw[aq.o];rfl);have HI:=aH (aO.o rfl);go_upto_region 6 with (fail);rw[←cL];clear cL;have B:=zi4 HC.o (HI.o.st.on HC.o.low);obtain⟨_,aJ,_,aK⟩:=sy HI.o.st.box;obtain⟨gC,QJ⟩:=ak B A;clear B A;go_wp2_with fail;refine XB ?_;go_wp2_with fail;refine (Ej _ r).mono ?_;rintro e w6 ⟨rfl,cL⟩;subst cL;go_wp2_with fail;refine gC.o.mono ?_;rintro e w7 ⟨⟨l,j,v,gF,rfl,hv,de⟩|⟨j,gF,rfl⟩,bC⟩
    ·revert v hv;refine akh ?_;intro a3 c3 mY z hv hz nT;have F:dQ g1 (.string nm) (.slice a2 n2 c2) (.slice none 0 0) w7:=dh bC (ah (b:=r) (i:=1) HI.o.g1 Z) Z;obtain⟨_,_,_,axx,azm,azn⟩:=cT nT;obtain⟨x10,x11,_,f10,f11,f12⟩:=cT F;have ad:=HI.o.rd;revert bC gF de mY hv hz nT F ad;refine fK ?_;intro iR oN cU tJ Hv Hz AE AM IN;go_wp2_with fail;obtain⟨W8,Ps⟩:=Y ((((w7.setCell ⟨g1,2,none⟩ (.slice a3 z c3)).setCell ⟨g,0,none⟩ (.string nm)).setCell ⟨g,1,none⟩ (.slice a2 n2 c2)).setCell ⟨g,2,none⟩ (.slice a3 z c3));refine aem ?_;intro eH xN tv;refine⟨.inl ⟨(nm,o5 tl,l),j,.slice a2 n2 c2,.slice a3 z c3,QJ.o.1 _ _ oN.o,rfl,?_,?_,eH.2⟩,xN⟩
     ·exact afi
     exact uK Hv.o tv (Cv cU.o AE.o AM.o)
    exact ags
def CondPost(r:Nat)(a:Option Addr)(n c:Nat)(fin:Int)(ws:List Wd)(i:Nat)(w:World)(e:Ending)(w':World):Prop :=
 ((∃s j v1 v2,db ws i=(some s,j)∧e=.returned (.agg #[.string s.1,v1,v2])∧hU w' v1 s.2.1∧iy w' v2 s.2.2∧l7 r (.slice a n c) j fin w')∨(∃j,db ws i=(none,j)∧e=rH (cO ws fin j)))∧am (fun k=>k=r) w w'
theorem znk{ws:List Wd}(h:aD ws i=ef):db ws i=(some (fd,gx,[]),i+1):=by unfold db;rw[if_pos h]
theorem zx2{ws:List Wd}(h:aD ws i≠ef)(h1:nI (aD ws i)=true)(a:ib (lg (aD ws i))=false):db ws i=(none,i):=by unfold db;rw[if_neg h,if_pos h1,if_neg (by rw[a];simp)]
theorem ycg{ws:List Wd}(h:aD ws i≠ef)(h1:nI (aD ws i)=true)(a:ib (lg (aD ws i))=true):db ws i=((dm ws (i+1) []).1.map fun l=>(fd,o5 (lg (aD ws i)),l),(dm ws (i+1) []).2):=by unfold db;rw[if_neg h,if_pos h1,if_pos a]
theorem zsk{ws:List Wd}(h:aD ws i≠ef)(h1:nI (aD ws i)=false):(∀l j,dm ws i []=(some l,j)→j≠i→db ws i=(some (fd,gx,l),j))∧(∀l j,dm ws i []=(some l,j)→j=i→db ws i=(none,j))∧(∀j,dm ws i []=(none,j)→db ws i=(none,j)):=by
 unfold db;rw[E h,E sV]
 cases hb:hasB 61 (aD ws i) with
 |false=>
  rw[znd hb];refine⟨fun l j e a=>?_,fun l j e a=>?_,fun j e=>?_⟩
  ·cases e;exact absurd rfl a
  ·cases e;rfl
  cases e
 |true=>
  rw[M rfl];refine⟨fun l j e _=>MJ,fun l j e a=>?_,fun j e=>MJ⟩;subst a
  cases hw:nz ([]++[lG (aD ws j)]) with
  |false=>rw[zk1 hb hw]at e;cases e
  |true=>rw[zk0 hb hw]at e;have:=FN ws (j+1) ([]++[lG (aD ws j)]);rw[e]at this;simp only at this;omega
theorem zvr(s:ByteArray):Lib.hasPrefix s.data.toList [64]=nI s:=by
 unfold Lib.hasPrefix nI
 cases h:s.data.toList with
 |nil=>rfl
 |cons c l=>
  by_cases e:c=64
  ·subst e;rfl
  simp[List.isPrefixOf,Ne.symm e,e]
theorem zyi(h:nI s=true):(⟨(Lib.trimPrefix s.data.toList [64]).toArray⟩:ByteArray)=lg s:=by
 unfold Lib.trimPrefix;rw[zvr,M h];rfl
theorem zru(s:ByteArray):(lg s).size≤s.size:=by
 refine Xo ?_;intro e;unfold lg;rw[e,xf,em.len];omega
theorem zud{fin:Int}{ws:List Wd}(C:FS w0 r a n c fin ws)(S:na w0 r a n c fin i w)(hi:i≤1000):Calls prog 66 #[rp r] w (CondPost r a n c fin ws i w):=by
 have aY:r<w.heap.size:=(bS.1 S.box).1;have bc:=C.n1000;obtain⟨s,aj⟩:=Y (aD ws i);have bd:s.size≤70000:=by rw[aj];exact C.o4 _
 refine lM ?_;intro g hg;obtain⟨g1,oM⟩:=Y (g+1+1);obtain⟨va,ub⟩:∃k:Option Addr,k=some ⟨g+1,0,none⟩:=⟨_,rfl⟩;obtain⟨w4,eM⟩:=Y (((w.alloc (.cells #[.string ⟨#[]⟩,.slice none 0 0,.slice none 0 0] 55)).alloc (.cells #[.string ⟨#[]⟩,.string ⟨#[]⟩] 51)).alloc (.cells #[.string ⟨#[]⟩,.slice va 1 1,.slice none 0 0] 55));have al:Below w.heap.size w w4:=by rw[eM];exact ((aS _ _).alloc ae _).alloc aX _
 have aB:WsJ w0 r a n c fin i w g g1 ⟨#[]⟩ va 1 1 gx w4:=by
  refine⟨S.to al,am.ce al,?_,?_,?_⟩
  ·rw[eM,hg];exact G (aS _ _) (G (aS _ _) (dx rfl))
  ·rw[eM,oM,hg];exact dx ae
  rw[eM,ub,hg];have:=Jp (w.alloc (.cells #[.string ⟨#[]⟩,.slice none 0 0,.slice none 0 0] 55));simp only[Oi]at this;exact pG this (aS _ _)
 have bf:r<g:=by rw[hg];exact aY
 have bg:g<g1:=by rw[oM];omega
 refine ur ?_;intro bZ;have aC:=C.peek aB.st;rw[←aj]at aC;have B:=em.gu s ⟨#[42]⟩;rw[DL (⟨#[42]⟩:ByteArray)]at B;revert C S aj al aB aC;refine bX ?_;intro HC HS Hs dL HJ HP;go_enter func66,ntmps66;go_upto_region 2 with (fail);rw[←hg,←ub,←eM,←oM];clear ub eM hg oM;go_wp2_with fail;refine qJ ?_;rintro e w1 ⟨rfl,q1,rfl⟩;have an:WsJ w0 r a n c fin i w g g1 ⟨#[]⟩ va 1 1 gx (w4.drewN q1):=⟨HJ.o.st.drewN q1,HJ.o.gc.drewN q1,HJ.o.g0,HJ.o.g1,pG HJ.o.rd (dU (aL _ _) q1)⟩;generalize w4.drewN q1=F at an⊢;have u:=O an;clear an;by_cases K:s=ef
 ·have k1:(s.toList==[42])=true:=by rw[B];exact aO K
  clear B;obtain⟨_,ao,_,aq⟩:=sy u.o.st.box;obtain⟨w6,cL⟩:=Y (F.setCell ⟨r,1,none⟩ (.int .i64 ((i:Int)+1)));have nT:dQ g (.string ⟨#[]⟩) (.slice none 0 0) (.slice none 0 0) w6:=by rw[cL];exact ah u.o.g0 Z
  have il:dQ g1 (.string ⟨#[]⟩) (.slice va 1 1) (.slice none 0 0) w6:=by rw[cL];exact ah u.o.g1 Z
  have aF:=u.o.st.on HC.o.low;rw[←cL]at aF;have aZ:am (fun k=>k=r) w w6:=by rw[cL];exact aN u.o.gc 1 _
  have aG:am (fun k=>k=r∨k=g∨k=g1) F w6:=by rw[cL];exact (am.refl _ F).setCell (p:=⟨r,1,none⟩) (.inr (.inl rfl)) _
  have BD:=lA u.o.rd aG (Cv u.o.st.box u.o.g0 u.o.g1);obtain⟨_,_,_,aH,aI,aJ⟩:=cT nT;obtain⟨aK,aM,aP,_,_,_⟩:=cT il;revert K nT il aF aZ aG BD;refine eb ?_;intro iS AE AM Hon Up HT6 IN;go_upto_region 4 with (fail);rw[←cL];clear cL;go_wp2_with fail;obtain⟨W9,mz⟩:=Y (((w6.setCell ⟨g,0,none⟩ (.string ⟨#[]⟩)).setCell ⟨g,1,none⟩ (.slice va 1 1)).setCell ⟨g,2,none⟩ (.slice none 0 0));rw[←mz];have L:=ag _ g 0 _ _ (.string ⟨#[]⟩) AE.o;have k1:=ag _ g 1 _ _ (.slice va 1 1) L;have k2:=ag _ g 2 _ _ (.slice none 0 0) k1;have eY:am (fun k=>k=r) w W9:=by rw[mz];exact ((Up.o.setCell (p:=⟨g,0,none⟩) (.inl bZ) _).setCell (p:=⟨g,1,none⟩) (.inl bZ) _).setCell (p:=⟨g,2,none⟩) (.inl bZ) _
  have Bh:am (fun k=>k=r∨k=g∨k=g1) w6 W9:=by rw[mz];exact (((am.refl _ w6).setCell (p:=⟨g,0,none⟩) (.inr (.inr (.inl rfl))) _).setCell (p:=⟨g,1,none⟩) (.inr (.inr (.inl rfl))) _).setCell (p:=⟨g,2,none⟩) (.inr (.inr (.inl rfl))) _
  have ca:l7 r (.slice a n c) (i+1) fin W9:=by rw[mz];exact ah (ah (ah Hon.o.box Z) Z) Z
  rw[←mz]at k2;refine fZ (yx rfl _ _ _ _ _ _ _ rfl k2 xV rfl aA) rfl ?_;exact⟨.inl ⟨(fd,gx,[]),i+1,.slice va 1 1,.slice none 0 0,znk (by rw[←Hs.o];exact iS.o),rfl,lA IN.o Bh (Cv Hon.o.box AE.o AM.o),zv7 ⟨none,0,rfl,aE _,bj _,fun i x hi=>vm⟩,ca⟩,eY⟩
 have k1:(s.toList==[42])=false:=by rw[B];exact be K
 clear B;have a1:aD ws i≠ef:=by rw[←Hs.o];exact K
 obtain⟨_,ao,_,aq⟩:=sy u.o.st.box;have aR:=HC.o.peek u.o.st;rw[←Hs.o]at aR;have aa:=fun(W:World)=>Tryz.strings_CutPrefix s ⟨#[64]⟩ W;simp only[zvr]at aa;obtain⟨tx,tC⟩:∃t:ByteArray,t=⟨(Lib.trimPrefix s.data.toList [64]).toArray⟩:=⟨_,rfl⟩;simp only[←tC]at aa;obtain⟨fl,qX⟩:=Y (nI s);simp only[←qX]at aa;revert K a1 aR tC qX aa;refine bX ?_;intro iS Uw rk aak II aAg;go_wp2_with fail;refine rk.o.mono ?_;rintro e w1 ⟨rfl,q2,rfl⟩;have ar:WsJ w0 r a n c fin i w g g1 ⟨#[]⟩ va 1 1 gx (F.drewN q2):=⟨u.o.st.drewN q2,u.o.gc.drewN q2,u.o.g0,u.o.g1,pG u.o.rd (dU (aL _ _) q2)⟩;generalize F.drewN q2=w6 at ar⊢;have A:=O ar;clear ar;clear ao aq;go_wp2_with fail;refine (aAg.o _).mono ?_;rintro e wp ⟨rfl,hwp⟩;subst hwp
 cases fl with
 |false=>
  have ab:=zsk (ws:=ws) (i:=i) Uw.o Yf;have N:=ab.1;have aT:=ab.2.1;have R:=ab.2.2;have HI:=A;clear ab;obtain⟨au,a6,Ee⟩:=aQ N aT R;clear N aT R;have U:=zi4 HC.o HI.o.st;have av:=O U;clear U;go_wp2_with fail;refine av.o.mono ?_;rintro e w7 ⟨⟨l,j,v,gF,rfl,hv,de⟩|⟨j,gF,rfl⟩,bC⟩
  ·revert v hv;refine apd ?_;intro a3 c3 mY z hv hz nT;have il:dQ g1 (.string ⟨#[]⟩) (.slice va 1 1) (.slice none 0 0) w7:=dh bC HI.o.g1 Z;have Ms:na w0 r a n c fin j w7:=⟨de,HI.o.st.bm.trans (bC.below asa (by rintro k rfl;exact HC.o.low))⟩;obtain⟨_,_,_,_,_,f12⟩:=cT il;have BD:=HI.o.rd;have y:=FN ws i [];rw[gF]at y;simp only at y;refine akp ?_;intro w8 ju Ap Na;have aw:dQ g1 (.string ⟨#[]⟩) (.slice va 1 1) (.slice a3 z c3) w8:=asb;refine aiq ?_;intro M8 tv E7 M0 M7;obtain⟨_,q1,_,_⟩:=sy Ap.box;revert bC gF de mY hv hz nT il Ms BD y Ap Na aw M8 tv E7 M0 M7;refine zO ?_;intro iR oN cU tJ Hv Hz AE AM azp IN Hge wE IF QH Hf8 HT8 Hno7 Hv8 Hvv8;go_upto_region 13 with (fail);rw[←ju];clear ju;by_cases aU:j=i
   ·have aV:decide (i<j)=false:=be Z;have X:=HC.o.want wE.o;have ax:=O X;clear X;go_wp2_with fail;refine ax.o.mono ?_;rintro e w9 ⟨rfl,ay,rfl⟩;refine cK ?_;exact⟨rfl,.inr ⟨j,a6.o _ _ oN.o aU,by rw[aU]⟩,Hf8.o.drewN ay⟩
   obtain⟨aK,aM,aP,_,_,_⟩:=cT QH.o;obtain⟨_,_,_,aH,aI,aJ⟩:=cT IF.o;have aV:decide (i<j)=true:=aO SZ;go_wp2_with fail;refine (Ej _ r).mono ?_;rintro e w9 ⟨rfl,fN⟩;subst fN;go_wp2_with fail;obtain⟨W9,mz⟩:=Y (((w9.setCell ⟨g,0,none⟩ (.string ⟨#[]⟩)).setCell ⟨g,1,none⟩ (.slice va 1 1)).setCell ⟨g,2,none⟩ (.slice a3 z c3));rw[←mz];have L:=ag _ g 0 _ _ (.string ⟨#[]⟩) IF.o;have k1:=ag _ g 1 _ _ (.slice va 1 1) L;refine aeh ?_;intro k2 eY Bh ca Gl;exact⟨.inl ⟨(fd,gx,l),j,.slice va 1 1,.slice a3 z c3,au.o _ _ oN.o SZ,rfl,lA Hvv8.o Bh Gl,uK Hv8.o Bh Gl,ca⟩,eY⟩
  exact aib
 |true=>
  obtain⟨tl,ad⟩:=Y (lg s);obtain rfl:tx=tl:=by rw[aak.o,ad];exact zyi II.o.symm
  have af:=set_any tx (by have:=zru s;rw[←ad]at this;omega) (HC.o.dr A.o.st);obtain⟨ok,az⟩:=Y (ib tx);unfold Jf at af;rw[←az]at af;obtain⟨Fc,ev,MA⟩:=aQ af az ad;clear af az ad;go_wp2_with fail;refine Fc.o.mono ?_;rintro e w8 ⟨a2,n2,c2,rfl,te,eD⟩;have a7:=G eD A.o.g1;have a8:=G eD A.o.g0;have Ap:=A.o.st.to eD;have ba:=A.o.gc.trans (am.ce (S:=fun _=>False) eD) (fun _ _ h=>h.elim);revert te eD a7 a8 Ap ba;refine bX ?_;intro Lr si Vr azu wE aty
  cases ok with
  |false=>
   have aW:=zx2 (ws:=ws) (i:=i) Uw.o Yf asc;have X:=HC.o.want wE.o;obtain⟨bb,ax⟩:=ak aW X;clear aW X;go_wp2_with fail;refine ax.o.mono ?_;rintro e w9 ⟨rfl,ay,rfl⟩;refine cK ?_;exact⟨rfl,.inr ⟨i,bb.o,rfl⟩,aty.o.drewN ay⟩
  |true=>
   have ai:=ycg (ws:=ws) (i:=i) Uw.o Yf asc;rw[←Hs.o,←MA.o]at ai;have N:∀l j,dm ws (i+1) []=(some l,j)→j≠i→db ws i=(some (fd,o5 tx,l),j):=fun l j e _=>by rw[ai,e];rfl
   have R:∀j,dm ws (i+1) []=(none,j)→db ws i=(none,j):=fun j e=>by rw[ai,e];rfl
   obtain⟨_,_,_,_,_,_⟩:=cT Vr.o;obtain⟨_,ao,_,aq⟩:=sy wE.o.box;obtain⟨w6,cL⟩:=Y ((w8.setCell ⟨g1,1,none⟩ (.slice a2 n2 c2)).setCell ⟨r,1,none⟩ (.int .i64 ((i:Int)+1)))
   have HI:Go.RowKit.Hid (WsJ w0 r a n c fin (i+1) w g g1 ⟨#[]⟩ a2 n2 c2 (o5 tx) w6):=by
    refine⟨?_,?_,?_,?_,?_⟩
    ·rw[cL];exact na.on ⟨ah wE.o.box Z,wE.o.bm.setCell (p:=⟨g1,1,none⟩) arq _⟩ HC.o.low
    ·rw[cL];exact aN (aty.o.setCell (p:=⟨g1,1,none⟩) (.inl (by show w.heap.size≤g1;omega)) _) 1 _
    ·rw[cL];exact ah (ah azu.o Z) Z
    ·rw[cL];exact ah (ag _ g1 1 _ _ _ Vr.o) Z
    rw[cL];refine lA (T:=fun k=>k=g1∨k=r) (Lr.o rfl) ?_ ?_
    ·exact ((am.refl _ w8).setCell (p:=⟨g1,1,none⟩) (.inr (.inl rfl)) _).setCell (p:=⟨r,1,none⟩) (.inr (.inr rfl)) _
    rintro k (rfl|rfl)
    ·exact jf Vr.o D D
    exact jf wE.o.box D D
   clear ai;obtain⟨au,Ee⟩:=ak N R;clear N R;go_wp2_with fail;refine (Ej _ r).mono ?_;rintro e w9 ⟨rfl,fN⟩;subst fN;go_upto_region 12 with (fail);rw[←cL];clear cL;have U:=zi4 HC.o HI.o.st;have av:=O U;clear U;go_wp2_with fail;refine av.o.mono ?_;rintro e w7 ⟨⟨l,j,v,gF,rfl,hv,de⟩|⟨j,gF,rfl⟩,bC⟩
   ·revert v hv;refine apd ?_;intro a3 c3 mY z hv hz nT;have il:dQ g1 (.string ⟨#[]⟩) (.slice a2 n2 c2) (.slice none 0 0) w7:=dh bC HI.o.g1 Z;have Ms:na w0 r a n c fin j w7:=⟨de,HI.o.st.bm.trans (bC.below asa (by rintro k rfl;exact HC.o.low))⟩;obtain⟨_,_,_,_,_,f12⟩:=cT il;have BD:=HI.o.rd;have y:=FN ws (i+1) [];rw[gF]at y;simp only at y;refine akp ?_;intro w8 ju Ap Na;have aw:dQ g1 (.string ⟨#[]⟩) (.slice a2 n2 c2) (.slice a3 z c3) w8:=asb;refine aiq ?_;intro M8 tv E7 M0 M7;obtain⟨_,q1,_,_⟩:=sy Ap.box;revert bC gF de mY hv hz nT il Ms BD y Ap Na aw M8 tv E7 M0 M7;refine zO ?_;intro iR oN cU tJ Hv Hz AE AM azp IN Hge wE IF QH Hf8 HT8 Hno7 Hv8 Hvv8;go_upto_region 13 with (fail);rw[←ju];clear ju;obtain⟨aK,aM,aP,_,_,_⟩:=cT QH.o;obtain⟨_,_,_,aH,aI,aJ⟩:=cT IF.o;have aV:decide (i<j)=true:=aO SZ;go_wp2_with fail;refine (Ej _ r).mono ?_;rintro e w9 ⟨rfl,fN⟩;subst fN;go_wp2_with fail;obtain⟨W9,mz⟩:=Y (((w9.setCell ⟨g,0,none⟩ (.string ⟨#[]⟩)).setCell ⟨g,1,none⟩ (.slice a2 n2 c2)).setCell ⟨g,2,none⟩ (.slice a3 z c3));rw[←mz];have L:=ag _ g 0 _ _ (.string ⟨#[]⟩) IF.o;have k1:=ag _ g 1 _ _ (.slice a2 n2 c2) L;refine aeh ?_;intro k2 eY Bh ca Gl;exact⟨.inl ⟨(fd,(o5 tx),l),j,.slice a2 n2 c2,.slice a3 z c3,au.o _ _ oN.o SZ,rfl,lA Hvv8.o Bh Gl,uK Hv8.o Bh Gl,ca⟩,eY⟩
   exact aib
abbrev thrownV(c:Int):Value:=.iface 120 (.agg #[.int .i64 c])
theorem zo8(v:Value)(w:World):(Instr.typeAssert (.iface 120 v) 20 120 true).run prog w=.ok (.tuple #[v,.bool true]) w:=by
 have u:=underlying120;unfold Instr.typeAssert;simp[E8,Q9,u,go_sem]
theorem yf7(g:Nat)(w:World):CallsD prog 44 #[.pointer (some ⟨g,0,none⟩)] .returning w fun e u' w'=>e=.returned (.tuple #[])∧u'=.returning∧w'=w:=by
 refine callsD_of_wpS func44 rfl fun d cs c=>?_;apply wpS_seq;apply wpS_region
 simp[wpOpsS,go_sem,recoverD,c,ntmps44,Exit.thenS];have f:=O c;clear c;refine amm ?_;intro Q HQ;cases d;have c:=f.o
 simp_all [bodyPostS,results,results44]
theorem zzw(g:Nat)(c x:Int)(w:World)(d:w.heap[g]?=some (.cells #[.int .i64 x] 3 (0,0))):
  CallsD prog 44 #[.pointer (some ⟨g,0,none⟩)] (.panicking [{ v:=thrownV c,recovered:=false }]) w fun e u' w'=>
   e=.returned (.tuple #[])∧u'=.panicking [{ v:=thrownV c,recovered:=true }]∧w'=(w.alloc (.cells #[.int .i64 c] 120)).setCell ⟨g,0,none⟩ (.int .i64 c):=by
 refine callsD_of_wpS func44 rfl fun m cs f=>?_;apply wpS_seq;apply wpS_region
 simp[wpOpsS,go_sem,recoverD,f,ntmps44,Exit.thenS];have p:=zo8 (.agg #[.int .i64 c]);have q:=J d 0;have r:=aG d 0;have j:=G (aS w (.cells #[.int .i64 c] 120)) d;have s:=J j 0;have t:=aG j 0;have u:=O f;clear f;refine amm ?_;intro Q HQ;cases m;have f:=u.o;clear p q r j s t d
 simp_all [bodyPostS,results,results44]
theorem zsm{w:World}{f:FuncId}{caps:Array Value}(_:∀args w,(callFunc f args).run prog w=.ok (.enter f args) w){A:World→Prop}{B:Int→World→Prop}
  (h:Calls prog f caps (w.alloc (.cells #[.int .i64 0] 3)) fun e w'=>((e=.returned (.tuple #[])∧A w')∨∃c,e=rH c∧B c w')∧w'.heap[w.heap.size]?=some (.cells #[.int .i64 0] 3 (0,0))) :
  Calls prog 23 #[.func (.func f) #[] caps] w fun e w'=>(∃w1,A w1∧e=.returned (.int .i64 0)∧w'=w1.setCell ⟨w.heap.size,0,none⟩ (.int .i64 0))∨(∃c w1,B c w1∧e=.returned (.int .i64 c)∧w'=(w1.alloc (.cells #[.int .i64 c] 120)).setCell ⟨w.heap.size,0,none⟩ (.int .i64 c)):=by
 refine anh ?_;intro Zg;have l:=O h;clear h;go_enter_defers func23,ntmps23;go_wp2_with fail
 refine l.o.mono ?_;rintro e w1 ⟨⟨rfl,i⟩|⟨c,rfl,j⟩,g⟩
 ·have m:=J g 0;have s:=aG g 0;simp only[aq,ar]at m;obtain⟨n,p⟩:=ak i g;clear i g;go_wp2_with fail;refine aon ?_;refine (yf7 _ _).mono ?_;rintro e u' q ⟨rfl,rfl,rfl⟩;have d:=J (ag w1 w.heap.size 0 _ _ (.int .i64 0) p.o) 0;have d:(w1.setCell ⟨w.heap.size,0,none⟩ (.int .i64 0)).cell? ⟨w.heap.size,0,none⟩=some (.int .i64 0):=d;simp[Leaves,settle,results,results23,go_sem,d];exact .inl ⟨_,n.o,rfl⟩
 have r:=O j;clear j;refine cK ?_;refine aon ?_;refine (zzw _ c 0 _ g).mono ?_;rintro e u' q ⟨rfl,rfl,rfl⟩;have d:=J (ag _ w.heap.size 0 _ _ (.int .i64 c) (G (aS w1 (.cells #[.int .i64 c] 120)) g)) 0;have d:((w1.alloc (.cells #[.int .i64 c] 120)).setCell ⟨w.heap.size,0,none⟩ (.int .i64 c)).cell? ⟨w.heap.size,0,none⟩=some (.int .i64 c):=d;simp[Leaves,settle,results,results23,go_sem,d];exact .inr ⟨_,_,r.o,rfl,rfl⟩
theorem zi6{P:Program}{b:Func}{p u v:Tmp}{ty t:TypeId}(h:b.results=#[.cell p ty,.tmp u,.tmp v]){tmps:Array Value}{w:World}{g:Nat}{cs:Array Value}{d:TypeDesc}{x y:Value}
  (hp:tmps.getD p undef=.pointer (some ⟨g,0,none⟩)) (hx:tmps.getD u undef=x) (c:tmps.getD v undef=y) (e:w.heap[g]?=some (.cells cs t (0,0)))
  (f:P.underlying ty=some d) (O:(match d with | .struct _ | .array _ _=>true|_=>false)=true) (hi:(P.info? ty).map (·.size)=some cs.size) :
  (results b tmps).run P w=.ok (.tuple #[.agg cs,x,y]) w:=by
 have i:=It w g t ty cs (0,0) d e f O hi;have j:tmps[p]?.getD undef=.pointer (some ⟨g,0,none⟩):=Mz;have k:tmps[u]?.getD undef=x:=Q_;have l:tmps[v]?.getD undef=y:=by simpa using c
 simp only[results,h];simp[E8,Result.andThen,asAddr,j,k,l,i]
def TakenAc(r sb:Nat)(a:Option Addr)(n c:Nat)(fin:Int)(ws:List Wd)(w w':World):Prop :=
 ∃s j b1 n1 c1 b2 n2 c2,db ws 0=(some s,j)∧dQ sb (.string s.1) (.slice b1 n1 c1) (.slice b2 n2 c2) w'∧hU w' (.slice b1 n1 c1) s.2.1∧iy w' (.slice b2 n2 c2) s.2.2∧l7 r (.slice a n c) j fin w'∧am (fun k=>k=r∨k=sb) w w'
def TakenBc(r sb:Nat)(fin:Int)(ws:List Wd)(w:World)(mp:Int)(w':World):Prop :=
 ∃j,db ws 0=(none,j)∧mp=cO ws fin j∧am (fun k=>k=r∨k=sb) w w'
abbrev fCond:Value:=.func (.func 66) #[] #[]
theorem one1c_any{tb rb sb cb:Nat}{fin:Int}{ws:List Wd}(C:FS w0 r a n c fin ws)(S:na w0 r a n c fin 0 w)
  (z:w.heap[tb]?=some (.cells #[fCond] 141 (0,0))) (A:w.heap[rb]?=some (.cells #[rp r] 82 (0,0))) (L:dQ sb (.string ⟨#[]⟩) (.slice none 0 0) (.slice none 0 0) w)
  (N:w.heap[cb]?=some (.cells #[.int .i64 0] 3 (0,0))) (n1:cb≠r) (n2:cb≠sb) (n3:r≠sb) :
  Calls prog 95 #[.pointer (some ⟨tb,0,none⟩),.pointer (some ⟨rb,0,none⟩),.pointer (some ⟨sb,0,none⟩)] w fun e w'=>((e=.returned (.tuple #[])∧TakenAc r sb a n c fin ws w w')∨∃mp,e=rH mp∧TakenBc r sb fin ws w mp w')∧w'.heap[cb]?=some (.cells #[.int .i64 0] 3 (0,0)):=by
 have t0:=J z 0;have R:=J A 0;simp only[aq,ar]at t0 R;have U:=zud C S Z;revert C S z A L N U;refine eb ?_;intro _ _ _ _ W B X;go_enter func95,ntmps95;go_wp2_with fail;refine X.o.mono ?_;rintro e w1 ⟨⟨s,j,v1,v2,hw,rfl,jo,hv2,de⟩|⟨j,hw,rfl⟩,bC⟩
 ·obtain⟨t,c1,rfl⟩:=qz jo.1;obtain⟨b2,c2,rfl⟩:=CH hv2.1;obtain⟨z1,dD⟩:=Y s.2.1.length;obtain⟨z2,cc⟩:=Y s.2.2.length;rw[←dD]at jo⊢;rw[←cc]at hv2⊢;have F:=dh bC W.o Z;have l:=dh bC B.o n1;obtain⟨_,_,_,f0,f1,f2⟩:=cT F;revert bC hw de jo dD hv2 cc F l;refine fK ?_;intro u v cU En dv Eo dZ ss y;go_wp2_with fail;go_end0
  obtain⟨W8,m⟩:=Y (((w1.setCell ⟨sb,0,none⟩ (.string s.1)).setCell ⟨sb,1,none⟩ (.slice t z1 c1)).setCell ⟨sb,2,none⟩ (.slice b2 z2 c2));rw[←m];have q:am (fun k=>k=r∨k=sb) w1 W8:=by rw[m];exact (((am.refl _ w1).setCell (p:=⟨sb,0,none⟩) (.inr (.inr rfl)) _).setCell (p:=⟨sb,1,none⟩) (.inr (.inr rfl)) _).setCell (p:=⟨sb,2,none⟩) (.inr (.inr rfl)) _
  have aa:=ag _ sb 0 _ _ (.string s.1) ss.o;have ab:=ag _ sb 1 _ _ (.slice t z1 c1) aa;have ad:=ag _ sb 2 _ _ (.slice b2 z2 c2) ab
  have K:No2 w1 (fun k=>k=r∨k=sb):=by
   rintro k (rfl|rfl)
   ·exact jf cU.o D D
   exact jf ss.o D D
  have ae:W8.heap[cb]?=some (.cells #[.int .i64 0] 3 (0,0)):=dh q y.o (by rintro (h|h);exact n1 h;exact n2 h);refine⟨.inl ⟨rfl,s,j,t,z1,c1,b2,z2,c2,v.o,by rw[m];exact ad,lA En.o q K,uK Eo.o q K,?_,?_⟩,ae⟩
  ·rw[m];exact ah (ah (ah cU.o n3) n3) n3
  exact am.trans (T:=fun k=>k=r∨k=sb) (u.o.mono (fun _ _ h=>.inl h)) q (fun _ _ h=>h)
 have l:=dh bC B.o n1;obtain⟨v,u,y⟩:=aQ hw bC l;clear hw bC l;refine cK ?_;exact⟨rfl,.inr ⟨_,rfl,j,v.o,rfl,u.o.mono (fun _ _ h=>.inl h)⟩,y.o⟩
def zxn(fin:Int)(ws:List Wd)(w:World)(e:Ending)(w':World):Prop :=
 ((∃s j b1 n1 c1 b2 n2 c2,db ws 0=(some s,j)∧e=.returned (.tuple #[.agg #[.string s.1,.slice b1 n1 c1,.slice b2 n2 c2],.int .i64 j,.int .i64 0])∧hU w' (.slice b1 n1 c1) s.2.1∧iy w' (.slice b2 n2 c2) s.2.2)∨
  (∃j,db ws 0=(none,j)∧e=.returned (.tuple #[.agg #[.string ⟨#[]⟩,.slice none 0 0,.slice none 0 0],.int .i64 0,.int .i64 (cO ws fin j)])))∧Below w.heap.size w w'
theorem zrf{fin:Int}{ws:List Wd}(dT:j7 w [.slice a n c] ws)(S:dN w)(az:n≤1000)(T:∀x∈ws,x.2.length≤70000)(aB:∀j,cO ws fin j≠0):Calls prog 65 #[.slice a n c,.int .i64 fin,fCond] w (zxn fin ws w):=by
 obtain⟨h,r⟩:=Y w.heap.size;obtain⟨W5,A4⟩:=Y ((((((w.alloc (.cells #[fCond] 141)).alloc (.cells #[.string ⟨#[]⟩,.slice none 0 0,.slice none 0 0] 55)).alloc (.cells #[.slice a n c,.int .i64 0,.int .i64 fin] 84)).alloc (.cells #[rp (h+1+1)] 82)).alloc (.cells #[.string ⟨#[]⟩,.slice none 0 0,.slice none 0 0] 55)));have aR:W5.heap.size=h+5:=by rw[A4,r];simp
 refine Wn ?_;intro k1;have u:Below w.heap.size w W5:=by rw[A4];exact ((((aL _ w).alloc (aE _) _).alloc ae _).alloc aX _).alloc aX _ |>.alloc aX _
 have U:W5.heap[h]?=some (.cells #[fCond] 141 (0,0)):=by rw[A4,r];exact k1 (k1 (k1 (k1 (dx rfl))))
 have W:dQ (h+1) (.string ⟨#[]⟩) (.slice none 0 0) (.slice none 0 0) W5:=by rw[A4,r];exact k1 (k1 (k1 (dx ae)))
 have X:l7 (h+1+1) (.slice a n c) 0 fin W5:=by rw[A4,r];exact k1 (k1 (dx ae))
 have A:W5.heap[h+1+1+1]?=some (.cells #[rp (h+1+1)] 82 (0,0)):=by rw[A4,r];exact k1 (dx ae)
 have aa:dQ (h+1+1+1+1) (.string ⟨#[]⟩) (.slice none 0 0) (.slice none 0 0) W5:=by rw[A4,r];exact dx ae
 have ab:FS w (h+1+1) a n c fin ws:=⟨dT,S,Z,az,T⟩;have ad:na w (h+1+1) a n c fin 0 (W5.alloc (.cells #[.int .i64 0] 3)):=⟨k1 X,u.alloc u.size _⟩;have af:=one1c_any (tb:=h) (rb:=h+1+1+1) (sb:=h+1+1+1+1) (cb:=W5.heap.size) ab ad (k1 U) (k1 A) (k1 aa) (dq W5 _) Z Z Z;have aC:=zsm (mQ func95 aA rfl) (caps:=#[.pointer (some ⟨h,0,none⟩),.pointer (some ⟨h+1+1+1,0,none⟩),.pointer (some ⟨h+1+1+1+1,0,none⟩)]) af;have aD:=k1 (o':=.cells #[.int .i64 0] 3) W;have aF:=k1 (o':=.cells #[.int .i64 0] 3) A;clear U W X A aa af k1;have aG:Below w.heap.size w (W5.alloc (.cells #[.int .i64 0] 3)):=u.alloc u.size _;revert dT S T aB u ab ad aC aD aF aG;refine kH ?_;intro _ _ _ aH _ _ _ aI ai aJ aj;go_enter func65,ntmps65;go_upto_region 3 with (fail);rw[←r,←A4];clear A4;have ak:w.heap.size≤h:=jg r.symm;clear r;go_wp2_with fail;refine aI.o.mono ?_;rintro e w2 (⟨w1,⟨s,j,t,n1,c1,b2,n2,c2,hw,Lf,jo,hv2,de,bC⟩,rfl,rfl⟩|⟨mp,w1,⟨j,hw,uG,bC⟩,rfl,rfl⟩)
 ·have v:=bC.size;simp only[Oi]at v;have aK:w1.heap[W5.heap.size]?=some (.cells #[.int .i64 0] 3 (0,0)):=dh bC (dq W5 _) Z;have y:=dh bC ai.o Z;have al:=dh bC aJ.o Z;obtain⟨W2,q⟩:=Y (w1.setCell ⟨W5.heap.size,0,none⟩ (.int .i64 0));rw[←q];have z:dQ (h+1) (.string ⟨#[]⟩) (.slice none 0 0) (.slice none 0 0) W2:=by rw[q];exact ah y Z
  have an:W2.heap[h+1+1+1]?=some (.cells #[rp (h+1+1)] 82 (0,0)):=by rw[q];exact ah al Z
  have ao:l7 (h+1+1) (.slice a n c) j fin W2:=by rw[q];exact ah de Z
  have au:dQ (h+1+1+1+1) (.string s.1) (.slice t n1 c1) (.slice b2 n2 c2) W2:=by rw[q];exact ah Lf Z
  have aM:=J an 0;simp only[aq,ar]at aM;obtain⟨_,_,_,_⟩:=sy ao;obtain⟨z0,z1,z2,_,_,_⟩:=cT au;obtain⟨_,_,_,f0,f1,f2⟩:=cT z;revert hw Lf jo hv2 de bC v aK y al q z an ao au;refine uv ?_;intro B ach En Eo cU av ns Fh aw Ql ax C Hx3 vU Hx4;go_wp2_with fail;go_region
  go_wp2_with fail
  obtain⟨W8,F⟩:=Y ((((W2.setCell ⟨h+1,0,none⟩ (.string s.1)).setCell ⟨h+1,1,none⟩ (.slice t n1 c1)).setCell ⟨h+1,2,none⟩ (.slice b2 n2 c2)).drew);rw[←F];have K:am (fun k=>k=W5.heap.size∨k=h+1) w1 W8:=by rw[F,ax.o];exact (((((am.refl _ w1).setCell (p:=⟨W5.heap.size,0,none⟩) (.inr (.inl rfl)) _).setCell (p:=⟨h+1,0,none⟩) (.inr (.inr rfl)) _).setCell (p:=⟨h+1,1,none⟩) (.inr (.inr rfl)) _).setCell (p:=⟨h+1,2,none⟩) (.inr (.inr rfl)) _).drew
  have L:=ag _ (h+1) 0 _ _ (.string s.1) C.o;have k1:=ag _ (h+1) 1 _ _ (.slice t n1 c1) L;have N:=ag _ (h+1) 2 _ _ (.slice b2 n2 c2) k1;have aN:W8.heap[h+1]?=some (.cells #[.string s.1,.slice t n1 c1,.slice b2 n2 c2] 55 (0,0)):=by rw[F];exact N
  have ay:No2 w1 (fun k=>k=W5.heap.size∨k=h+1):=by
   rintro k (rfl|rfl)
   ·exact jf Fh.o D D
   exact jf aw.o D D
  have R:Below w.heap.size w W8:=by have t:Below h (W5.alloc (.cells #[.int .i64 0] 3)) w1:=av.o.below aX Ah;have b2:Below h w1 W8:=K.below auh Ah;exact aj.o.trans ((t.trans b2).mono ak)
  refine fZ (zi6 rfl rfl rfl rfl aN xV rfl aA) rfl ?_;exact⟨.inl ⟨s,j,t,n1,c1,b2,n2,c2,B.o,rfl,lA En.o K ay,uK Eo.o K ay⟩,R⟩
 have v:=bC.size;simp only[Oi]at v;have aT:(mp !=0)=true:=by rw[uG];simpa using aH.o j
 have y:=dh bC ai.o Z;obtain⟨W2,q⟩:=Y ((w1.alloc (.cells #[.int .i64 mp] 120)).setCell ⟨W5.heap.size,0,none⟩ (.int .i64 mp));rw[←q];have z:dQ (h+1) (.string ⟨#[]⟩) (.slice none 0 0) (.slice none 0 0) W2:=by rw[q];exact ah (G (aS _ _) y) Z
 obtain⟨_,_,_,f0,f1,f2⟩:=cT z
 have aO:Below w.heap.size w W2:=by
  have t:Below h (W5.alloc (.cells #[.int .i64 0] 3)) w1:=bC.below aX Ah;have b2:Below h w1 W2:=by rw[q];exact ((aS _ _).mono Z).setCell (p:=⟨W5.heap.size,0,none⟩) (by show h≤W5.heap.size;omega) _
  exact aj.o.trans ((t.trans b2).mono ak)
 revert hw bC uG v y q z aO;refine fg ?_;intro B aP av ns aw ax C aQ;go_wp2_with fail;have L:=ag _ (h+1) 0 _ _ (.string ⟨#[]⟩) C.o;have k1:=ag _ (h+1) 1 _ _ (.slice none 0 0) L;have N:=ag _ (h+1) 2 _ _ (.slice none 0 0) k1;have R:=((aQ.o.setCell (p:=⟨h+1,0,none⟩) Yl (.string ⟨#[]⟩)).setCell (p:=⟨h+1,1,none⟩) Yl (.slice none 0 0)).setCell (p:=⟨h+1,2,none⟩) Yl (.slice none 0 0);refine fZ (zi6 rfl rfl rfl rfl N xV rfl aA) rfl ?_;refine⟨.inr ⟨j,B.o,by rw[←aP.o];rfl⟩,R⟩
theorem zrg{fin:Int}{ws:List Wd}(dT:j7 w [.slice a n c] ws)(y:dN w)(F:n≤1000)(z:∀x∈ws,x.2.length≤70000)(A:∀j,cO ws fin j≠0):Calls prog 35 #[.slice a n c,.int .i64 fin] w (zxn fin ws w):=by
 refine lM ?_;intro g hg;obtain⟨W1,aK⟩:=Y (w.alloc (.cells #[.string ⟨#[]⟩,.slice none 0 0,.slice none 0 0] 55));have m:Below w.heap.size w W1:=yF;have K:dQ g (.string ⟨#[]⟩) (.slice none 0 0) (.slice none 0 0) W1:=IJ;have L:=zrf (bz lz _ _ _ _ dT m) (y.below m) F z A;have i:w.heap.size≤g:=jg hg.symm;revert dT y z A m K L;refine eb ?_;intro Ai HD Hz fM aB cU HO;go_enter func35,ntmps35;go_upto_region 1 with (fail);refine iE ?_;clear aK hg;go_wp2_with fail;refine HO.o.mono ?_;rintro e w2 ⟨⟨s,j,b1,n1,c1,b2,n2,c2,hw,rfl,jo,hv2⟩|⟨j,hw,rfl⟩,hb⟩
 ·have l:=G hb cU.o;have q:=aB.o.trans (hb.mono aB.o.size);obtain⟨_,_,_,f0,f1,f2⟩:=cT l;revert hb hw jo hv2 l q;refine bX ?_;intro Hb Hw En Eo gD bh;go_wp2_with fail;have r:=ag _ g 0 _ _ (.string s.1) gD.o;have t:=ag _ g 1 _ _ (.slice b1 n1 c1) r;have u:=ag _ g 2 _ _ (.slice b2 n2 c2) t;have B:am (fun k=>k=g) w2 (((w2.setCell ⟨g,0,none⟩ (.string s.1)).setCell ⟨g,1,none⟩ (.slice b1 n1 c1)).setCell ⟨g,2,none⟩ (.slice b2 n2 c2)):=aN (aN (aN (am.refl _ _) 0 _) 1 _) 2 _;have C:No2 w2 (fun k=>k=g):=by rintro k rfl;exact jf gD.o D D
  have v:=((bh.o.setCell (p:=⟨g,0,none⟩) i (.string s.1)).setCell (p:=⟨g,1,none⟩) i (.slice b1 n1 c1)).setCell (p:=⟨g,2,none⟩) i (.slice b2 n2 c2);refine fZ (zi6 rfl rfl rfl rfl u xV rfl aA) rfl ?_;exact⟨.inl ⟨s,j,b1,n1,c1,b2,n2,c2,Hw.o,rfl,lA En.o B C,uK Eo.o B C⟩,v⟩
 have l:=G hb cU.o;have q:=aB.o.trans (hb.mono aB.o.size);obtain⟨_,_,_,f0,f1,f2⟩:=cT l;obtain⟨mp,uG⟩:=Y (cO ws fin j);rw[←uG];revert hb hw l q uG;refine bU ?_;intro Hb Hw gD bh ZL;go_wp2_with fail;have r:=ag _ g 0 _ _ (.string ⟨#[]⟩) gD.o;have t:=ag _ g 1 _ _ (.slice none 0 0) r;have u:=ag _ g 2 _ _ (.slice none 0 0) t;have v:=((bh.o.setCell (p:=⟨g,0,none⟩) i (.string ⟨#[]⟩)).setCell (p:=⟨g,1,none⟩) i (.slice none 0 0)).setCell (p:=⟨g,2,none⟩) i (.slice none 0 0);refine fZ (zi6 rfl rfl rfl rfl u xV rfl aA) rfl ?_;exact⟨.inr ⟨j,Hw.o,by rw[←ZL.o];rfl⟩,v⟩
theorem zmy(l:List UInt8)(c:UInt8):indexByte l c= -1∨∃k:Nat,indexByte l c=k:=by
 have h:=J0 l c;by_cases h1:indexByte l c<0
 ·exact .inl Z
 exact .inr ⟨(indexByte l c).toNat,Z⟩
theorem idx_is{l:List UInt8}{c:UInt8}(h:l[k]?=some c)(b:∀j,j<k→l[j]?≠some c):indexByte l c=k:=by
 rcases zmy l c with e|⟨o,e⟩
 ·exact absurd h (indexByte_none e k)
 obtain⟨h1,d⟩:=indexByte_some e;rw[e];rcases SC o k with a|a|a
 ·exact absurd h1 (b o a)
 ·rw[a]
 exact absurd h (d k a)
theorem idx_no{l:List UInt8}{c:UInt8}(h:∀j,j<l.length→l[j]?≠some c):indexByte l c= -1:=by
 rcases zmy l c with e|⟨o,e⟩
 ·exact e
 obtain⟨h1,_⟩:=indexByte_some e;exact absurd h1 (h o (ie.1 h1).1)
theorem cutB_no{c:UInt8}(h:indexByte s.data.toList c= -1):hasB c s=false∧(jv c s).1=s∧(jv c s).2.2=false:=by
 have e:cut s.data.toList [c]=(s.data.toList,[],false):=by unfold cut;rw[index_one,h,E Z]
 refine⟨by unfold hasB;rw[h];rfl,?_,?_⟩
 ·unfold jv;rw[e]
 unfold jv;rw[e]
theorem ycc{c:UInt8}(h:indexByte s.data.toList c=k):hasB c s=true∧jv c s=(s.extract 0 k,s.extract (k+1) s.size,true)∧k+1≤s.size:=by
 obtain⟨h1,_⟩:=indexByte_some h;have a:=(ie.1 h1).1;rw[em.len]at a;have e:cut s.data.toList [c]=(s.data.toList.take k,s.data.toList.drop (k+1),true):=by unfold cut;rw[index_one,h,M Z];rfl
 refine⟨by unfold hasB;rw[h];exact decide_eq_true Z,?_,a⟩;unfold jv;rw[e];refine zA (em.ext ?_) (zA (em.ext ?_) rfl)
 ·rw[Jd];simp
 show s.data.toList.drop (k+1)=(s.extract (k+1) s.size).data.toList
 rw[Jd,lH ast]
theorem ycm(s:ByteArray)(_:s.size≤70000)(c:UInt8)(w:World):Calls prog 137 #[.string s,.int .u8 c.toNat] w fun e w'=>e=.returned (.int .i64 (indexByte s.data.toList c))∧w'=w:=by
 obtain⟨l,hl⟩:=Y s.data.toList;have p:l.length=s.size:=Of;obtain⟨r,hr⟩:=Y (indexByte l c);rw[←hl,←hr];obtain⟨Hl,Hr,iH⟩:=aQ hl hr p;clear hl hr p;go_enter func137,ntmps137;go_wp2_with fail;go_loopw [5] (fun v wr=>∃k:Nat,k≤s.size∧v=.int .i64 k∧(∀j,j<k→l[j]?≠some c)∧wr=w) (fun v _=>s.size-(RowKit.intOf v).toNat)
 case atStart=>exact⟨0,bj _,rfl,fun j h=>Z,rfl⟩
 case round=>
  obtain⟨k,_,rfl,f,rfl⟩:=hrel;by_cases i:k<s.size
  ·have q:k<l.length:=by rw[iH.o];exact i
   have m:s[k]'i=l[k]:=by have:=Hl.o;subst this;rfl
   refine kG ?_;intro k5;have C:(k:Int)<(s.size:Int):=Z;by_cases g:l[k]=c
   ·have n:r=k:=by rw[Hr.o];exact idx_is (by rw[bR q,g]) f
    have u:(((s[k]'i).toNat:Int)==(c.toNat:Int))=true:=by rw[m,g];simp
    revert f m g n;refine bV ?_;intro t y z Hf;go_wp2_with fail;go_ret;exact⟨EA,rfl⟩
   have u:(((s[k]'i).toNat:Int)==(c.toNat:Int))=false:=by rw[m,JY];intro e;exact g (NZ.1 Z)
   have A:∀j,j<k+1→l[j]?≠some c:=fun j F=>by
    by_cases e:j=k
    ·subst e;rw[bR q];intro h;exact g (nt h)
    exact f j Z
   revert f m g A;refine bV ?_;intro t y z B;refine cK ?_;go_roundw
   case rel=>exact⟨k+1,Z,cj,B.o,sU⟩
   case measure=>exact gT
  obtain rfl:k=s.size:=Z;have n:r= -1:=by rw[Hr.o];exact idx_no (by rw[iH.o];exact f)
  obtain⟨t,Hf⟩:=ak f n;clear f n;go_wp2_with fail;go_ret;exact⟨EA,rfl⟩
theorem Nt(w:World):Calls prog 110 #[] w fun e w'=>e=.returned (.slice (some ⟨w.heap.size,0,none⟩) 1 1)∧w'=w.alloc (.cells #[.string ⟨#[]⟩,.string ⟨#[]⟩] 51):=by
 go_enter func110,ntmps110;exact DO
theorem Bf{fin x:Int}(_:w.heap.size≤g)(h1:es (g+1) none 0 0 0 0 0 W)(hb:Below w.heap.size w W):es (g+1) a n c i fin x ((((W.setCell ⟨g+1,0,none⟩ (.slice a n c)).setCell ⟨g+1,1,none⟩ (.int .i64 i)).setCell ⟨g+1,2,none⟩ (.int .i64 fin)).setCell ⟨g+1,3,none⟩ (.int .i64 x))∧Below w.heap.size w ((((W.setCell ⟨g+1,0,none⟩ (.slice a n c)).setCell ⟨g+1,1,none⟩ (.int .i64 i)).setCell ⟨g+1,2,none⟩ (.int .i64 fin)).setCell ⟨g+1,3,none⟩ (.int .i64 x)):=by
 exact aed
theorem Ed{ws:List Wd}(r:j7 w [.slice a n c] ws)(_:n≤1000)(i:Nat)(fin:Int)(b:Bool):Calls prog 75 #[pv a n c i fin 0,.bool b] w fun e w'=>((b=true∧i<n∧e=.returned (pv a n c (i+1) fin 0))∨((b=false∨n≤i)∧e=.returned (pv a n c i fin (cO ws fin i))))∧Below w.heap.size w w':=by
 refine afy ?_;intro g hg W1 aK ai p0 p1 bZ;obtain⟨⟨c0,c1,c2,c3⟩,_⟩:=a8 p0;have j:=CI W1 a n c i fin 0;have hF:=fun(W:World)(k:Below W1.heap.size W1 W)=>Uq (bz lz _ _ _ _ r (ai.trans (k.mono ai.size))) i fin;obtain⟨mp,uG⟩:=Y (cO ws fin i);rw[←uG]at hF⊢
 cases b with
 |false=>
  obtain⟨HM,y,B,l,z,s,C⟩:=oD j hF r ai p0 p1 uG;clear j hF r ai p0 p1 uG;go_enter func75,ntmps75;go_upto_region 1 with (fail);refine iE ?_;clear aK hg;go_wp2_with fail;refine (y.o _ (aL _ _)).mono ?_;rintro e w2 ⟨rfl,af⟩;have m:=G af s.o;obtain⟨_,f0,f1,f2,f3⟩:=a8 m;have t:=l.o.trans (af.mono l.o.size);revert af m t;refine fo ?_;intro v gD dL;go_wp2_with fail;have q:=Bf (a:=a) (n:=n) (c:=c) (i:=i) (fin:=fin) (x:=mp) bZ gD.o dL.o;exact fZ (yx rfl _ _ _ _ _ _ _ rfl q.1 BB rfl aA) rfl ⟨.inr ⟨.inl sU,rfl⟩,q.2⟩
 |true=>
  by_cases hi:i<n
  ·rw[aO hi]at j;obtain⟨HM,y,B,l,z,s,C⟩:=oD j hF r ai p0 p1 uG;clear j hF r ai p0 p1 uG;go_enter func75,ntmps75;go_upto_region 1 with (fail);refine iE ?_;clear aK hg;go_wp2_with fail;refine mU ?_;rintro e w2 ⟨rfl,af⟩;have F:=G af z.o;have m:=G af s.o;obtain⟨⟨r0,r1,r2,r3⟩,_,q1,_,_⟩:=a8 F;obtain⟨_,f0,f1,f2,f3⟩:=a8 m;have t:=l.o.trans (af.mono l.o.size);revert af F m t;refine bV ?_;intro v vR gD dL;go_wp2_with fail;have q:=Bf (a:=a) (n:=n) (c:=c) (i:=i+1) (fin:=fin) (x:=0) bZ (ah (b:=g) (i:=1) (u:=.int .i64 ((i:Int)+1)) gD.o Z) (dL.o.setCell (p:=⟨g,1,none⟩) bZ _);exact fZ (yx rfl _ _ _ _ _ _ _ rfl q.1 BB rfl aA) rfl ⟨.inl ⟨sU,hi,rfl⟩,q.2⟩
  rw[be hi]at j;obtain⟨HM,y,B,l,z,s,C⟩:=oD j hF r ai p0 p1 uG;clear j hF r ai p0 p1 uG;go_enter func75,ntmps75;go_upto_region 1 with (fail);refine iE ?_;clear aK hg;go_wp2_with fail;refine mU ?_;rintro e w2 ⟨rfl,af⟩;obtain⟨⟨r0,r1,r2,r3⟩,_⟩:=a8 (G af z.o);have v:=O af;clear af;go_wp2_with fail;refine (y.o _ v.o).mono ?_;rintro e w3 ⟨rfl,aM⟩;have A:=v.o.trans (aM.mono v.o.size);have m:=G A s.o;obtain⟨_,f0,f1,f2,f3⟩:=a8 m;have t:=l.o.trans (A.mono l.o.size);revert aM A m t;refine bV ?_;intro bK Ax gD dL;go_wp2_with fail;have q:=Bf (a:=a) (n:=n) (c:=c) (i:=i) (fin:=fin) (x:=mp) bZ gD.o dL.o;exact fZ (yx rfl _ _ _ _ _ _ _ rfl q.1 BB rfl aA) rfl ⟨.inr ⟨.inr Z,rfl⟩,q.2⟩
def Sets06(a:Option Addr)(n c:Nat)(fin:Int)(ws:List Wd)(i:Nat)(w:World)(e:Ending)(w':World):Prop :=
 ∃b m d i' bad,e=.returned (.tuple #[.slice b m d,pv a n c i' fin bad])∧((∃l,dm ws i []=(some l,i')∧bad=0∧iy w' (.slice b m d) l)∨(∃j,dm ws i []=(none,j)∧bad=cO ws fin j))∧Below w.heap.size w w'
structure St6(w:World)(g:Nat)(a:Option Addr)(n c:Nat)(fin:Int)(ws:List Wd)(i k:Nat)(out:List el)(bad:Int)(v:Value)(W:World):Prop where
 box:es g a n c (i+k) fin bad W
 B0:es (g+1) none 0 0 0 0 0 W
 row:W.ownsRow (g+2) 137 2 v out.length (out.flatMap setCells)
 bm:Below w.heap.size w W
 sz:∀x∈out,x.1.size≤70000∧x.2.size≤70000
 st:(bad=0∧out.length=k∧dm ws i []=dm ws (i+k) out)∨(bad≠0∧∃j,dm ws i []=(none,j)∧bad=cO ws fin j)
def mOf(g n:Nat)(W:World):Nat:=(match W.cell? ⟨g,1,none⟩ with|some u=>n-(RowKit.intOf u).toNat|none=>0)*2+(match W.cell? ⟨g,3,none⟩ with|some u=>if RowKit.intOf u=0 then 1 else 0|none=>0)
theorem Ld{fin bad:Int}(h:es g a m c i fin bad W):mOf g n W=(n-i)*2+if bad=0 then 1 else 0:=by
 obtain⟨⟨_,c1,_,c3⟩,_⟩:=a8 h;unfold mOf;rw[c1,c3];by_cases b:bad=0<;>simp[RowKit.intOf,b]
theorem ayn{P:Program}{b:Func}{p u:Tmp}{ty t:TypeId}(h:b.results=#[.tmp u,.cell p ty]){tmps:Array Value}{w:World}{g:Nat}{cs:Array Value}{d:TypeDesc}{x:Value}
  (hx:tmps.getD u undef=x) (hp:tmps.getD p undef=.pointer (some ⟨g,0,none⟩)) (hg:w.heap[g]?=some (.cells cs t (0,0)))
  (hu:P.underlying ty=some d) (O:(match d with | .struct _ | .array _ _=>true|_=>false)=true) (hi:(P.info? ty).map (·.size)=some cs.size) :
  (results b tmps).run P w=.ok (.tuple #[x,.agg cs]) w:=by
 exact agj
theorem St6.to{fin:Int}{ws:List Wd}{out:List el}{bad:Int}(h:St6 w g a n c fin ws i k out bad v W)(b:Below W.heap.size W W'):St6 w g a n c fin ws i k out bad v W' :=
 ⟨G b h.box,G b h.B0,fh h.row b,h.bm.trans (b.mono h.bm.size),h.sz,h.st⟩
theorem St6.reads{fin:Int}{ws:List Wd}{out:List el}{bad:Int}(h:St6 w g a n c fin ws i k out bad v W):iy W v out :=
 ⟨zl0 (B:=g+2) (fun x hx=>arp) h.row,fun _=>NF h.row⟩
theorem St6.push{w8:World}{fin:Int}{ws:List Wd}{out:List el}{bad:Int}{b:Value}(h:St6 w g a n c fin ws i k out bad v W)(_:w.heap.size≤g){x:el}(hx:x.1.size≤70000∧x.2.size≤70000)(e:W.grownBy w8 v.ownBlock)
  (f:w8.ownsRow (g+2) 137 2 b (out.length+1) (out.flatMap setCells++[.string x.1,.string x.2])) :
  es g a n c (i+k) fin bad w8∧es (g+1) none 0 0 0 0 0 w8∧Below w.heap.size w w8∧iy w8 b (out++[x])∧(∀y∈out++[x],y.1.size≤70000∧y.2.size≤70000)∧w8.ownsRow (g+2) 137 2 b (out++[x]).length ((out++[x]).flatMap setCells):=by
 have f1:am (fun k=>v.ownBlock=some k) W w8:=eS e;refine amn ?_;intro a_;have d:w8.ownsRow (g+2) 137 2 b (out++[x]).length ((out++[x]).flatMap setCells):=by rw[bM,zpr];exact f
 exact⟨bI h.box f1 (dM h.row h.box D),bI h.B0 f1 (dM h.row h.B0 D),h.bm.trans (f1.below h.bm.size (fun k j=>by have:=(h.row.lt k j).1;omega)),
  ⟨zl0 (B:=g+2) (fun y hy=>by have:=a_ y hy;unfold maxLen;omega) d,fun _=>NF d⟩,a_,d⟩
theorem abe{b:Option Addr}{d c' i':Nat}{fin e x x':Int}(h:es g a n c i fin x W):es g b d c' i' e x' ((((W.setCell ⟨g,0,none⟩ (.slice b d c')).setCell ⟨g,1,none⟩ (.int .i64 i')).setCell ⟨g,2,none⟩ (.int .i64 e)).setCell ⟨g,3,none⟩ (.int .i64 x')):=by
 have f:=ag W g 0 _ _ (.slice b d c') h;have j:=ag _ g 1 _ _ (.int .i64 (i':Int)) f;have k:=ag _ g 2 _ _ (.int .i64 e) j;have l:=ag _ g 3 _ _ (.int .i64 x') k;exact l
theorem St6.back{fin:Int}{ws:List Wd}{out:List el}{bad:Int}(bZ:w.heap.size≤g)(h0:es g a n c m fin 0 W)(h1:es (g+1) none 0 0 0 0 0 W)(hb:Below w.heap.size w W)(a_:∀y∈out,y.1.size≤70000∧y.2.size≤70000)(ho:W.ownsRow (g+2) 137 2 v out.length (out.flatMap setCells))
  (bJ:(bad=0∧out.length=k∧dm ws i []=dm ws (i+k) out)∨(bad≠0∧∃j,dm ws i []=(none,j)∧bad=cO ws fin j)) {p:Nat} (hp:p=i+k) :
  St6 w g a n c fin ws i k out bad v ((((W.setCell ⟨g,0,none⟩ (.slice a n c)).setCell ⟨g,1,none⟩ (.int .i64 p)).setCell ⟨g,2,none⟩ (.int .i64 fin)).setCell ⟨g,3,none⟩ (.int .i64 bad)):=by
 exact afb
theorem lit_sets(h:B≤w.heap.size):(w.alloc (.cells #[] 137)).ownsRow B 137 2 (.slice (some ⟨w.heap.size,0,none⟩) 0 0) 0 []:=wG (base:=B) (e:=137) (size:=2) w #[] 0 h (by decide) rfl
theorem zii{ws:List Wd}(ab:j7 w [.slice a n c] ws)(ay:n≤1000)(hz:∀x∈ws,x.2.length≤70000){fin:Int}(az:∀j,cO ws fin j≠0)(i:Nat):Calls prog 139 #[pv a n c i fin 0] w (Sets06 a n c fin ws i w):=by
 have aB:=(pF ab).1;refine lM ?_;intro g hg;refine aiy ?_;intro W0 bw cM th
 have aC:St6 w g a n c fin ws i 0 [] 0 (.slice (some ⟨g+2,0,none⟩) 0 0) (W0.alloc (.cells #[] 137)):=by
  refine⟨G (aS _ _) ?_,G (aS _ _) ?_,?_,cM.alloc cM.size _,(fun x hx=>wZ),.inl ⟨rfl,rfl,rfl⟩⟩
  ·rw[bw,hg];exact G (aS _ _) (dx rfl)
  ·rw[bw,hg];exact dx ae
  have:=lit_sets (B:=g+2) (jg th.symm);rw[th]at this;exact this
 refine ur ?_;intro bZ;refine Ot ?_;intro fe;revert ab hz az aB cM aC fe;refine eb ?_;intro Hw Hz fM Hn cr LK kV;go_enter func139,ntmps139;go_upto_region 1 with (fail);rw[←bw,←hg];clear bw hg;go_wp2_with fail;go_loopw [4] (fun v wr=>∃(k:Nat)(out:List el)(bad:Int),St6 w g a n c fin ws i k out bad v wr) (fun _ wr=>mOf g n wr)
 case atStart=>first|exact⟨0,[],0,LK.o⟩|(rw[th];exact⟨0,[],0,LK.o⟩)
 case round=>
  obtain⟨_,ad⟩:=Y wr;rw[←ad]at hrel⊢;clear ad wr;obtain⟨k,out,bad,hI⟩:=hrel;obtain⟨ao,co,rfl⟩:=bg hI.row;obtain⟨ol,tG⟩:=Y out.length;have ag:=Ld (n:=n) hI.box;obtain⟨⟨c0,c1,c2,c3⟩,fz0,Mn,EY,fz3⟩:=a8 hI.box;obtain⟨_,f0,f1,f2,f3⟩:=a8 hI.B0;obtain⟨m,hm⟩:=Y (i+k);rw[←hm]at c1;by_cases jJ:bad=0
  ·subst jJ
   obtain⟨ah,aE⟩:out.length=k∧dm ws i []=dm ws (i+k) out:=by
    rcases hI.st with⟨_,h1,aF⟩|⟨h,_⟩
    ·exact⟨h1,aF⟩
    exact GA
   rw[←tG]at ah;obtain⟨s,hs⟩:=Y (aD ws m);have ai:=B3 (bz lz _ _ _ _ Hw.o hI.bm) m fin 0;rw[←hs]at ai;have aG:s.size≤70000:=by rw[hs];exact kV.o _
   obtain⟨aj,r⟩:=Y (indexByte s.data.toList 61);have al:=fun(W:World)=>ycm s aG 61 W;rw[←r,show ((61:UInt8).toNat:Int)=61 from rfl]at al;rw[←tG];clear fz0 Mn EY fz3;have an:=hI;rw[←tG]at an;revert tG hm hI ag ah aE hs ai al an;refine dE ?_;intro vd Hm U D2 Io UO Hs HW HA HI';go_wp2_with fail;refine HW.o.mono ?_;rintro e w2 ⟨rfl,af⟩;have C:=HI'.o.to af;obtain⟨⟨d0,d1,d2,d3⟩,gz0,gz1,gz2,gz3⟩:=a8 C.box;obtain⟨_,f0,f1,f2,f3⟩:=a8 C.B0;rw[←Hm.o]at d1;obtain⟨lx,bh⟩:=ak C af;clear C af;go_wp2_with fail;refine (HA.o _).mono ?_;rintro e w3 ⟨rfl,ea⟩;subst ea;rcases zmy s.data.toList 61 with F|⟨kk,X⟩
   ·obtain rfl:aj= -1:=by rw[r,F]
    obtain⟨aq,_,_⟩:=cutB_no F;obtain⟨cd,aBb,Hix⟩:=aQ aq F r;clear aq F r;go_wp2_with fail;go_region
    go_wp2_with fail
    have hp:=Bf (a:=a) (n:=n) (c:=c) (i:=m) (fin:=fin) (x:=0) bZ lx.o.B0 lx.o.bm;have aH:am (fun z=>z=g+1) w3 ((((w3.setCell ⟨g+1,0,none⟩ (.slice a n c)).setCell ⟨g+1,1,none⟩ (.int .i64 (m:Int))).setCell ⟨g+1,2,none⟩ (.int .i64 fin)).setCell ⟨g+1,3,none⟩ (.int .i64 0)).drew:=(aN (aN (aN (aN (am.refl _ _) 0 _) 1 _) 2 _) 3 _).drew;have aI:No2 w3 (fun z=>z=g+1):=by rintro z rfl;exact jf lx.o.B0 D D
    refine KI ?_;refine⟨_,_,_,m,0,rfl,.inl ⟨out,?_,rfl,uK lx.o.reads aH aI⟩,dA hp.2⟩;rw[UO.o,←Hm.o];exact znd (by rw[←Hs.o];exact cd.o)
   obtain rfl:aj=kk:=by rw[r,X]
   obtain⟨ar,hcut,_⟩:=ycc X;obtain⟨nm,dJ⟩:=Y (s.extract 0 kk);obtain⟨vl,rS⟩:=Y (s.extract (kk+1) s.size);have aJ:lG s=(nm,vl):=by unfold lG;rw[hcut,dJ,rS]
   have aK:nm.size≤70000∧vl.size≤70000:=by have:=zn4 61 s;rw[hcut,←dJ,←rS]at this;have a1:nm.size≤s.size∧vl.size≤s.size:=this;omega
   have a6:(0:Int)≤(kk:Int):=Z;have a7:(kk:Int)≤(s.size:Int):=Z;have ba:(kk:Int)+1≤(s.size:Int):=Z;have bb:decide ((kk:Int)<0)=false:=be Z;obtain⟨L,eE⟩:=Y (kk+1);have bc:IntKind.i64.wrap ((kk:Int)+1)=(L:Int):=asu;have bd:(0:Int)≤(L:Int):=Z;have bf:(L:Int)≤(s.size:Int):=Z;have bj:m<n:=by rw[Hn.o];exact NS (by rw[←Hs.o];exact ar)
   have R:=lx.o.row;have bk:ol≤1000:=by have:=Io.o;have:=Hm.o;omega
   rw[←vd.o]at R;have H:g+2≤w3.heap.size:=by have:=(bS.1 lx.o.B0).1;omega
   obtain⟨N,au⟩:=Y (out.flatMap setCells);rw[←au]at R;have aM:(w3.drew).ownsRow (g+2) 137 2 (.slice ao ol co) ol N:=R;have aO:g+2≤w3.drew.heap.size:=H;rw[←eE]at rS;revert X r ar hcut dJ aJ aK rS eE R au aM;refine nL ?_;intro UX Hix rW aAw B4 L9 ayr jr CE Cr HN wF;go_wp2_with fail;go_region_law (refine xl ybw (w:=w3.drew) rfl (.tmp 19) (.tmp 28) rfl (g+2) (.slice ao ol co) ol N rfl wF.o 1 D #[.string (s.extract 0 kk),.string (s.extract L s.size)] rfl rfl dW Z cY aO ?_;intro g8 c8 w8 lu iG qU)
   have aP:=lx.o.push bZ (x:=(nm,vl)) ayr.o (zcw iG) (by rw[←vd.o,←HN.o,B4.o,jr.o];exact lu);obtain⟨T,aR,aa,av,aT,aU⟩:=aP;rw[←Hm.o]at T;obtain⟨⟨t,u,y,A⟩,_⟩:=a8 T;have bQ:Below w8.heap.size w8 w8.drew:=dA (aL _ _);have aw:=fun(W:World)(k:Below w8.heap.size w8 W)=>ycv (LV av k).1;obtain⟨b,hb⟩:=Y (nz (out++[(nm,vl)]));rw[←hb]at aw;have ax:=fun(W:World)(k:Below w8.heap.size w8 W)=>Ed (bz lz _ _ _ _ Hw.o (aa.trans (k.mono aa.size))) ay m fin b;obtain⟨Ts,xH⟩:=Y (cO ws fin m);rw[←xH]at ax;have aV:∀W,Below w8.heap.size w8 W→W.cell? ⟨g,0,none⟩=some (.slice a n c)∧W.cell? ⟨g,1,none⟩=some (.int .i64 m)∧W.cell? ⟨g,2,none⟩=some (.int .i64 fin)∧W.cell? ⟨g,3,none⟩=some (.int .i64 0):=fun W k=>(a8 (G k T)).1;clear lu iG qU t u y A;revert T aR aa av aT aU aw hb ax xH aV;refine kH ?_;intro O8 O7 Qa Hu3 adf adi HWi Hb lQ Zw gj;go_upto_region 8 with (fail);refine xZ (S:=fun _=>True) aA trivial (fun hHeld=>?_);refine KL ?_;refine dO rfl (fun K hK=>?_) (dO rfl (fun K hK=>?_) ij)
   ·obtain⟨t,u,y,A⟩:=gj.o _ bQ;go_simp;refine hK.out _ _ trivial (fun hHeld=>?_);clear hK K t u y A;refine iN ?_;refine c_ 2 fun K hK=>?_;refine aou ?_;intro q wy mC;revert K hK;refine j_ ?_;intro hHeld;exact alq
   refine aou ?_;intro q wy mC;revert K hK;refine j_ ?_;intro hHeld;obtain⟨t,u,y,A⟩:=gj.o _ mC.o;refine c_ 0 fun K hK=>?_;go_simp;refine hK.out _ _ trivial (fun hHeld=>?_);clear hK K t u y A;refine iN ?_;exact alq
  have bl:(bad==0)=false:=Ra;rcases hI.st with⟨h,_⟩|⟨_,j,aW,aX⟩
  ·exact absurd h jJ
  rw[←tG];revert hI tG ag hm jJ aW aX;refine eb ?_;intro U vd D2 Hm _ aY aZ;go_wp2_with fail;go_region
  go_wp2_with fail
  have hp:=Bf (a:=a) (n:=n) (c:=c) (i:=m) (fin:=fin) (x:=bad) bZ U.o.B0 U.o.bm;refine KI ?_;exact⟨_,_,_,m,bad,rfl,.inr ⟨j,aY.o,aZ.o⟩,dA hp.2⟩
theorem zlg(w:World)(a:Option Addr)(n c i:Nat)(fin bad:Int)(hb:bad≠0):Calls prog 139 #[pv a n c i fin bad] w fun e w'=>(∃b m d,e=.returned (.tuple #[.slice b m d,pv a n c i fin bad]))∧Below w.heap.size w w':=by
 refine lM ?_;intro g hg;refine air ?_;intro W0 bw cM th;have l:es g a n c i fin bad W0:=asw;have p:es (g+1) none 0 0 0 0 0 W0:=YP;refine ur ?_;intro bZ;obtain⟨W1,aK⟩:=Y (W0.alloc (.cells #[] 137));have j:Below W0.heap.size W0 W1:=yF;have q:=G j l;have r:=G j p;have s:=cM.trans (j.mono cM.size);have t:(bad==0)=false:=Tg;obtain⟨⟨c0,c1,c2,c3⟩,_⟩:=a8 q;obtain⟨_,f0,f1,f2,f3⟩:=a8 r;revert hb cM l p j q r s;refine fg ?_;intro Hb cr dR fG aEb QO qY aB;go_enter func139,ntmps139;go_upto_region 1 with (fail);rw[←bw,←hg];clear bw hg;go_wp2_with fail;go_loopw [4] (fun v wr=>wr=W1∧v=.slice (some ⟨g+2,0,none⟩) 0 0) (fun _ _=>0)
 case atStart=>rw[aK,←th];exact⟨rfl,rfl⟩
 case round=>
  clear aK;obtain⟨rfl,rfl⟩:=hrel;go_wp2_with fail;go_region
  go_wp2_with fail
  have hp:=Bf (a:=a) (n:=n) (c:=c) (i:=i) (fin:=fin) (x:=bad) bZ qY.o aB.o;refine KI ?_;exact⟨⟨_,_,_,rfl⟩,dA hp.2⟩
def Fin06(a:Option Addr)(n c:Nat)(fin:Int)(ws:List Wd)(i:Nat)(nm:ByteArray)(L:List h8)(W:World)(e:Ending)(w':World):Prop :=
 ∃b m d i' bad,e=.returned (.tuple #[.slice b m d,pv a n c i' fin bad])∧((∃l,eR ws i=(some (nm,L,l),i')∧bad=0∧iy w' (.slice b m d) l)∨(∃j,eR ws i=(none,j)∧bad=cO ws fin j))∧Below W.heap.size W w'
def Wish06(a:Option Addr)(n c:Nat)(fin:Int)(ws:List Wd)(i:Nat)(w:World)(e:Ending)(w':World):Prop :=
 ∃x b1 n1 c1 b2 n2 c2 i' bad,e=.returned (.tuple #[.agg #[.string x,.slice b1 n1 c1,.slice b2 n2 c2],pv a n c i' fin bad])∧((∃s,eR ws i=(some s,i')∧bad=0∧x=s.1∧hU w' (.slice b1 n1 c1) s.2.1∧iy w' (.slice b2 n2 c2) s.2.2)∨(∃j,eR ws i=(none,j)∧bad=cO ws fin j))∧Below w.heap.size w w'
theorem Tu{P:Program}{c:Func}{p q:Tmp}{ty tz t1 t2:TypeId}(h:c.results=#[.cell p ty,.cell q tz]){tmps:Array Value}{w:World}{g k:Nat}{cs ds:Array Value}{d1 d2:TypeDesc}
  (hp:tmps.getD p undef=.pointer (some ⟨g,0,none⟩)) (hq:tmps.getD q undef=.pointer (some ⟨k,0,none⟩)) (hg:w.heap[g]?=some (.cells cs t1 (0,0))) (hk:w.heap[k]?=some (.cells ds t2 (0,0)))
  (hu:P.underlying ty=some d1) (O:(match d1 with | .struct _ | .array _ _=>true|_=>false)=true) (hi:(P.info? ty).map (·.size)=some cs.size)
  (uI:P.underlying tz=some d2) (ak:(match d2 with | .struct _ | .array _ _=>true|_=>false)=true) (rP:(P.info? tz).map (·.size)=some ds.size) :
  (results c tmps).run P w=.ok (.tuple #[.agg cs,.agg ds]) w:=by
 refine aiu ?_;intro hl gG EM MZ;simp only[results,h];simp[E8,Result.andThen,asAddr,EM,MZ,hl,gG]
theorem azg{ws:List Wd}{x:dj}(h:eR ws i=(some x,j))(a:s=aD ws i):jC s=true:=by
 subst a
 cases hb:jC (aD ws i) with
 |true=>rfl
 |false=>rw[NC hb]at h;cases h
theorem ye3:jC ⟨#[]⟩=false:=by
 have h:fW (jv 64 ⟨#[]⟩).1.data.toList=false:=D;unfold jC;rw[h];rfl
theorem zvy{ws:List Wd}(f:j7 w [.slice a n c] ws)(k:n≤1000)(r:∀x∈ws,x.2.length≤70000){fin:Int}(o:∀j,cO ws fin j≠0)(i:Nat){L:List h8}{b:Bool}(g:s=aD ws i)(p:jC s=b)(t:nm=(jv 64 s).1)(u:L=oj s):
  ∀W,Below w.heap.size w W→Calls prog 75 #[pv a n c i fin 0,.bool b] W fun e w'=>(∃i2 GS,e=.returned (pv a n c i2 fin GS)∧∀W',Below w.heap.size w W'→Calls prog 139 #[pv a n c i2 fin GS] W' (Fin06 a n c fin ws i nm L W'))∧Below W.heap.size W w':=by
 intro W v;have B:=(pF f).1;refine (Ed (bz lz _ _ _ _ f v) k i fin b).mono ?_;rintro e w' ⟨⟨rfl,_,rfl⟩|⟨mv,rfl⟩,af⟩
 ·obtain⟨y,z⟩:=zpd (L:=L) (by rw[←g];exact p) g t u;refine⟨⟨_,_,rfl,fun W' q=>(zii (bz lz _ _ _ _ f q) k r o (i+1)).mono ?_⟩,af⟩;rintro e w9 ⟨b',m,d,i',bad,rfl,⟨l,h1,h2,h3⟩|⟨j,h1,h2⟩,ca⟩
  ·exact⟨b',m,d,i',bad,rfl,.inl ⟨l,y _ _ h1,h2,h3⟩,ca⟩
  exact⟨b',m,d,i',bad,rfl,.inr ⟨j,z _ h1,h2⟩,ca⟩
 have A:jC (aD ws i)=false:=by
  rcases mv with h|h
  ·rw[←g,p,h]
  rw[uJ Z,ye3]
 refine⟨⟨_,_,rfl,fun W' q=>(zlg W' a n c i fin _ (o i)).mono ?_⟩,af⟩;rintro e w9 ⟨⟨b',m,d,rfl⟩,ca⟩;exact⟨b',m,d,i,_,rfl,.inr ⟨i,NC A,rfl⟩,ca⟩
theorem ycy{ws:List Wd}(hw:j7 w [.slice a n c] ws)(ab:n≤1000)(hz:∀x∈ws,x.2.length≤70000){fin:Int}(an:∀j,cO ws fin j≠0)(i:Nat):Calls prog 109 #[pv a n c i fin 0] w (Wish06 a n c fin ws i w):=by
 refine aej ?_;intro hn g hg W0 bw cM p0 p1 p2 bZ;refine Ot ?_;intro fe;obtain⟨⟨c0,c1,c2,c3⟩,_⟩:=a8 p0;obtain⟨s,hs⟩:=Y (aD ws i);have ao:s.size≤70000:=Us;have ad:=B3 (bz lz _ _ _ _ hw cM) i fin 0;rw[←hs]at ad;obtain⟨ix,Pf⟩:=Y (indexByte s.data.toList 64);have ai:=fun(W:World)=>ycm s ao 64 W;rw[←Pf,show ((64:UInt8).toNat:Int)=64 from rfl]at ai;revert hw hz an hn cM p0 p1 p2 fe hs ad ai;refine nL ?_;intro Hw Hz fM Hn cr dR fG q9 kV Hs HW HA;go_enter func109,ntmps109;go_upto_region 1 with (fail);rw[←bw,←hg];clear bw hg;go_wp2_with fail;refine HW.o.mono ?_;refine KS ?_;intro w2 bh;go_wp2_with fail;refine (Nt _).mono ?_;rintro e w3 ⟨rfl,ea⟩;have A:Below w2.heap.size w2 w3:=Oh;have B:=Jp w2;rw[←ea]at B;clear ea;obtain⟨va,ub⟩:∃k:Option Addr,k=some ⟨w2.heap.size,0,none⟩:=⟨_,rfl⟩;rw[←ub]at B⊢;clear ub;obtain⟨g5,LL⟩:=Y w3.heap.size;obtain⟨w4,eM⟩:=Y (w3.alloc (.cells #[.string s,.slice va 1 1,.slice none 0 0] 55));have L:Below w3.heap.size w3 w4:=My;have al:=A.trans (L.mono A.size);have t:=bh.o.trans (al.mono bh.o.size);have aq:dQ g5 (.string s) (.slice va 1 1) (.slice none 0 0) w4:=by rw[eM,LL];exact dq _ _
 have aG:g+2<g5:=by have h1:=(bS.1 (G (bh.o.trans (A.mono bh.o.size)) q9.o)).1;omega
 have ar:=G t dR.o;have au:=G t fG.o;have av:=G t q9.o;have aw:=pG B L;have ax:=cr.o.trans (t.mono cr.o.size);clear c0 c1 c2 c3;revert A B L al t aq ar au av aw ax;refine kH ?_;intro _ _ V _ _ LJ QO qY vQ ay Iz;go_upto_region 5 with (fail);rw[←eM,←LL];clear eM LL;go_wp2_with fail;refine (HA.o _).mono ?_;rintro e w5 ⟨rfl,eT⟩;subst eT;rcases zmy s.data.toList 64 with N|⟨kk,R⟩
 ·obtain rfl:ix= -1:=by rw[Pf,N]
  obtain⟨_,q,T⟩:=cutB_no N;have Qo:=fun(W:World)=>CG s Z W;obtain⟨b,fR⟩:=Y (fW s.data.toList);rw[←fR]at Qo;have C:jC s=b:=by unfold jC;rw[q,T,←fR];simp
  have y:gx=oj s:=by unfold oj;rw[T];rfl
  have m:=zvy Hw.o ab Hz.o fM.o i Hs.o C q.symm y;have U:=fun(_:jC s=true)=>ay.o;revert N Pf q T fR C y m U;refine fK ?_;intro aBb Hix aAx aEi yY G8 ach lQ UQ;go_wp2_with fail;have bQ:Below w5.heap.size w5 w5.drew:=dA (aL _ _);have IX:=Iz.o.trans (bQ.mono Iz.o.size);have aV:w5.drew.cell? ⟨g5,0,none⟩=some (.string s):=(cT LJ.o).1;have Mb:=(a8 (G bQ QO.o)).1;obtain⟨qO,Mm⟩:=ak aV Mb;clear aV Mb;refine xZ (S:=fun w'=>w'.cell? ⟨g5,0,none⟩=some (.string s)) aA PK (fun hHeld=>?_);refine bB 1 ?_;refine bB 2 ?_;refine bB 3 ?_;refine bB 4 ?_;refine mr (rs:=[0,5]) aA ae ?_;refine dO rfl (fun K hK=>?_) (dO rfl (fun K hK=>?_) ij)
  ·revert K hK;refine Rz ?_;intro hHeld;refine c_ 5 fun K hK=>?_;revert K hK;refine Rx ?_;intro hHeld;exact adx
  revert K hK;refine Rx ?_;intro hHeld;refine c_ 0 fun K hK=>?_;revert K hK;refine Rz ?_;intro hHeld;exact adx
 obtain rfl:ix=kk:=by rw[Pf,R]
 obtain⟨az,hcut,_⟩:=ycc R;obtain⟨k2,eE⟩:=Y (kk+1);rw[←eE]at hcut;obtain⟨nm,dJ⟩:=Y (s.extract 0 kk);obtain⟨tl,BI⟩:=Y (s.extract k2 s.size);rw[←dJ,←BI]at hcut;have aH:nm.size≤70000∧tl.size≤70000:=by have:=zn4 64 s;rw[hcut]at this;have aI:nm.size≤s.size∧tl.size≤s.size:=this;omega
 have k5:(0:Int)≤(kk:Int):=Z;have k6:(kk:Int)≤(s.size:Int):=Z;have aJ:IntKind.i64.wrap ((kk:Int)+1)=(k2:Int):=asu;have aK:(0:Int)≤(k2:Int):=Z;have aM:(k2:Int)≤(s.size:Int):=Z;have aO:(kk:Int)+1=(k2:Int):=Z;have Qo:=fun(W:World)=>CG nm Z W;obtain⟨nk,EK⟩:=Y (fW nm.data.toList);rw[←EK]at Qo;obtain⟨ok,dz⟩:=Y (ib tl);have C:jC s=(nk&&ok):=by unfold jC;rw[hcut,←EK,←dz];simp
 have y:o5 tl=oj s:=by unfold oj;rw[hcut];rfl
 have X:=zs2 tl Z (w:=w5);unfold Jf at X;rw[←dz]at X;have q:nm=(jv 64 s).1:=by rw[hcut]
 have aB:=fun(b:Bool)(h:jC s=b)=>zvy Hw.o ab Hz.o fM.o i Hs.o h q y;revert R Pf az eE hcut EK dz C y X q aB;refine nL ?_;intro UX Hix rW CE aAw Hnk ev G8 ach Fc aAx awc;go_wp2_with fail;rw[←BI];clear BI;refine Fc.o.mono ?_;rintro e w6 ⟨a2,n2,c2,rfl,te,cX⟩;have F:=G cX LJ.o;obtain⟨_,_,_,fz0,Mn,_⟩:=cT F;obtain⟨w7,gL⟩:=Y ((w6.setCell ⟨g5,0,none⟩ (.string nm)).setCell ⟨g5,1,none⟩ (.slice a2 n2 c2));have r:am (fun z=>z=g5) w6 w7:=by rw[gL];exact aN (aN (am.refl _ _) 0 _) 1 _
 have aC:=dh r (G cX QO.o) Z;have r1:=dh r (G cX qY.o) Z;have r2:=dh r (G cX vQ.o) Z;have aE:dQ g5 (.string nm) (.slice a2 n2 c2) (.slice none 0 0) w7:=by have k0:=ag _ g5 0 _ _ (.string nm) F;have k1:=ag _ g5 1 _ _ (.slice a2 n2 c2) k0;rw[gL];exact k1
 have aa:=Iz.o.trans (cX.mono Iz.o.size);have aF:Below w.heap.size w w7:=aa.trans (r.below aa.size yJ);have U:=fun(h:jC s=true)=>lA (te (by rw[G8.o]at h;cases ok with|true=>rfl|false=>simp at h)) r (by rintro z rfl;exact jf F D D);revert te cX F r aC r1 r2 aE aa aF U;refine kH ?_;intro Lr je Q4 Fe Em kl ga tF B_ PF UQ
 cases ok with
 |false=>
  have m:=awc.o false (by rw[G8.o];simp);have lQ:=O m;clear m;go_upto_region 12 with (fail);rw[←dJ,←gL];clear dJ gL;refine afu ?_;intro bQ IX qO Mm hHeld;refine kc 3 ?_;refine kc 4 ?_;refine kc 5 ?_;refine bB 6 ?_;exact anz
 |true=>
  have m:=awc.o nk (by rw[G8.o];simp);have lQ:=O m;clear m;go_upto_region 12 with (fail);rw[←dJ,←gL];clear dJ gL;refine afu ?_;intro bQ IX qO Mm hHeld;refine bB 3 ?_;refine bB 4 ?_;refine mr (rs:=[0,5]) aA ae ?_;refine dO rfl (fun K hK=>?_) (dO rfl (fun K hK=>?_) ij)
  ·revert K hK;refine Rz ?_;intro hHeld;refine c_ 5 fun K hK=>?_;revert K hK;refine Rx ?_;intro hHeld;exact amh
  revert K hK;refine Rx ?_;intro hHeld;exact anz
def Cond06(a:Option Addr)(n c:Nat)(fin:Int)(ws:List Wd)(i:Nat)(w:World)(e:Ending)(w':World):Prop :=
 ∃x b1 n1 c1 b2 n2 c2 i' bad,e=.returned (.tuple #[.agg #[.string x,.slice b1 n1 c1,.slice b2 n2 c2],pv a n c i' fin bad])∧((∃s,db ws i=(some s,i')∧bad=0∧x=s.1∧hU w' (.slice b1 n1 c1) s.2.1∧iy w' (.slice b2 n2 c2) s.2.2)∨(∃j,db ws i=(none,j)∧bad=cO ws fin j))∧Below w.heap.size w w'
theorem zt0(s:ByteArray):s.extract 1 s.size=lg s:=by
 refine em.ext ?_;rw[Jd,lH ast];rfl
theorem Cl{W8:World}{i':Nat}{fin bad:Int}{p q s:Value}(h1:dQ (g+1) (.string ⟨#[]⟩) (.slice none 0 0) (.slice none 0 0) W)(d:es (g+1+1) none 0 0 0 0 0 W)
  (e:W8=((((((W.setCell ⟨g+1,0,none⟩ p).setCell ⟨g+1,1,none⟩ q).setCell ⟨g+1,2,none⟩ s).setCell ⟨g+1+1,0,none⟩ (.slice a n c)).setCell ⟨g+1+1,1,none⟩ (.int .i64 i')).setCell ⟨g+1+1,2,none⟩ (.int .i64 fin)).setCell ⟨g+1+1,3,none⟩ (.int .i64 bad)) :
  dQ (g+1) p q s W8∧es (g+1+1) a n c i' fin bad W8∧am (fun z=>z=g+1∨z=g+1+1) W W8:=by
 subst e;refine⟨?_,?_,?_⟩
 ·have f:=ag W (g+1) 0 _ _ p h1;have j:=ag _ (g+1) 1 _ _ q f;have k:=ag _ (g+1) 2 _ _ s j;exact ah (b:=g+1+1) (i:=3) (ah (b:=g+1+1) (i:=2) (ah (b:=g+1+1) (i:=1) (ah (b:=g+1+1) (i:=0) k Z) Z) Z) Z
 ·exact abe (ah (b:=g+1) (i:=2) (ah (b:=g+1) (i:=1) (ah (b:=g+1) (i:=0) d Z) Z) Z)
 have l:=(am.refl (fun z=>z=g+1∨z=g+1+1) W).setCell (p:=⟨g+1,0,none⟩) (.inr (.inl rfl)) p;have m2:=l.setCell (p:=⟨g+1,1,none⟩) (.inr (.inl rfl)) q;have m3:=m2.setCell (p:=⟨g+1,2,none⟩) (.inr (.inl rfl)) s;have m4:=m3.setCell (p:=⟨g+1+1,0,none⟩) (.inr (.inr rfl)) (.slice a n c);have m5:=m4.setCell (p:=⟨g+1+1,1,none⟩) (.inr (.inr rfl)) (.int .i64 (i':Int));have m6:=m5.setCell (p:=⟨g+1+1,2,none⟩) (.inr (.inr rfl)) (.int .i64 fin);exact m6.setCell (p:=⟨g+1+1,3,none⟩) (.inr (.inr rfl)) (.int .i64 bad)
structure CnJ(w:World)(g g4:Nat)(a:Option Addr)(n c i:Nat)(fin bad:Int)(va:Option Addr)(vn vc:Nat)(z:Value)(W:World):Prop where
 p:es g a n c i fin bad W
 r1:dQ (g+1) (.string ⟨#[]⟩) (.slice none 0 0) (.slice none 0 0) W
 r2:es (g+1+1) none 0 0 0 0 0 W
 s:dQ g4 (.string ⟨#[]⟩) (.slice va vn vc) z W
 bm:Below w.heap.size w W
theorem CnJ.to{d:Nat}{fin bad:Int}{e:Option Addr}{f j:Nat}(h:CnJ w g d a n c i fin bad e f j z W)(b:Below W.heap.size W W'):CnJ w g d a n c i fin bad e f j z W' :=
 ⟨G b h.p,G b h.r1,G b h.r2,G b h.s,h.bm.trans (b.mono h.bm.size)⟩
theorem ych{b:Nat}{fin bad:Int}{d:Option Addr}{e f:Nat}(h:CnJ w g b a n c i fin bad d e f z W):W.cell? ⟨b,0,none⟩=some (.string ⟨#[]⟩)∧W.cell? ⟨b,1,none⟩=some (.slice d e f)∧W.cell? ⟨b,2,none⟩=some z∧W.cell? ⟨g,0,none⟩=some (.slice a n c)∧W.cell? ⟨g,1,none⟩=some (.int .i64 i)∧W.cell? ⟨g,2,none⟩=some (.int .i64 fin)∧W.cell? ⟨g,3,none⟩=some (.int .i64 bad):=by
 obtain⟨j,k,l,_⟩:=cT h.s;obtain⟨⟨c0,c1,c2,c3⟩,_⟩:=a8 h.p;exact⟨j,k,l,c0,c1,c2,c3⟩
theorem zr3{b:Nat}{fin bad:Int}{d:Option Addr}{e f:Nat}{z:Value}(h:CnJ w g b a n c i fin bad d e f z W)(_:g+2<b)(hF:am (fun z=>z=g+1∨z=g+1+1) W W'):W'.cell? ⟨b,0,none⟩=some (.string ⟨#[]⟩)∧W'.cell? ⟨b,1,none⟩=some (.slice d e f)∧W'.cell? ⟨b,2,none⟩=some z∧W'.cell? ⟨g,0,none⟩=some (.slice a n c)∧W'.cell? ⟨g,1,none⟩=some (.int .i64 i)∧W'.cell? ⟨g,2,none⟩=some (.int .i64 fin)∧W'.cell? ⟨g,3,none⟩=some (.int .i64 bad):=by
 obtain⟨j,k,l,_⟩:=cT (dh hF h.s Z);obtain⟨⟨c0,c1,c2,c3⟩,_⟩:=a8 (dh hF h.p Z);exact⟨j,k,l,c0,c1,c2,c3⟩
theorem frm_r1(W:World)(g:Nat)(p q s:Value):am (fun z=>z=g+1∨z=g+1+1) W (((W.setCell ⟨g+1,0,none⟩ p).setCell ⟨g+1,1,none⟩ q).setCell ⟨g+1,2,none⟩ s) :=
 (((am.refl _ W).setCell (p:=⟨g+1,0,none⟩) (.inr (.inl rfl)) p).setCell (p:=⟨g+1,1,none⟩) (.inr (.inl rfl)) q).setCell (p:=⟨g+1,2,none⟩) (.inr (.inl rfl)) s
theorem yf5{ws:List Wd}(hw:j7 w [.slice a n c] ws)(aa:n≤1000)(hz:∀x∈ws,x.2.length≤70000){fin:Int}(aZ:∀j,cO ws fin j≠0)(i:Nat):Calls prog 111 #[pv a n c i fin 0] w (Cond06 a n c fin ws i w):=by
 refine aej ?_;intro hn g hg W0 bw cM p0 p1 p2 bZ;have a1:W0.heap.size=g+3:=Vz;refine Ot ?_;intro fe;obtain⟨s,hs⟩:=Y (aD ws i);have bo:s.size≤70000:=Us;have L:=em.gu s ⟨#[42]⟩;rw[DL (⟨#[42]⟩:ByteArray)]at L;have ck:=em.ii s;have aG:=fun(W:World)(h:Below w.heap.size w W)=>B3 (bz lz _ _ _ _ hw h) i fin 0;simp only[←hs]at aG;revert hw hz aZ hn cM p0 p1 p2 a1 fe hs aG;refine nL ?_;intro Hw Hz fM Hn cr dR fG q9 MN kV Hs aAl;go_enter func111,ntmps111;go_upto_region 1 with (fail);rw[←bw,←hg];clear bw hg;go_wp2_with fail;refine (Nt _).mono ?_;rintro e w3 ⟨rfl,ea⟩;have av:Below W0.heap.size W0 w3:=Oh;have ab:=Jp W0;rw[←ea]at ab;obtain⟨va,ub⟩:∃k:Option Addr,k=some ⟨W0.heap.size,0,none⟩:=⟨_,rfl⟩;rw[←ub]at ab⊢;obtain⟨g4,hg4⟩:=Y w3.heap.size;obtain⟨w4,eM⟩:=Y (w3.alloc (.cells #[.string ⟨#[]⟩,.slice va 1 1,.slice none 0 0] 55));have aw:Below w3.heap.size w3 w4:=My;have N:=av.trans (aw.mono av.size);have aH:CnJ w g g4 a n c i fin 0 va 1 1 (.slice none 0 0) w4:=⟨G N dR.o,G N fG.o,G N q9.o,by rw[eM,hg4];exact dq _ _,cr.o.trans (N.mono cr.o.size)⟩;have a6:=pG ab aw;have bp:g+3<g4:=by rw[hg4,ea];simp[MN.o]
 clear ea ub;obtain⟨⟨c0,c1,c2,c3⟩,_⟩:=a8 aH.p;revert av ab aw N aH a6;refine bX ?_;intro bK jd V aDs HJ aBq;go_upto_region 2 with (fail);rw[←eM,←hg4];clear eM hg4;go_wp2_with fail;refine (aAl.o _ HJ.o.bm).mono ?_;rintro e w5 ⟨rfl,aW⟩;have ad:=HJ.o.to aW;have aI:=pG aBq.o aW;clear c0 c1 c2 c3;obtain⟨⟨c0,c1,c2,c3⟩,_⟩:=a8 ad.p;obtain⟨x0,x1,x2,_,_,_⟩:=cT ad.s;obtain⟨cQ,HJ5,awd⟩:=aQ aW ad aI;clear aW ad aI;by_cases y:s=ef
 ·have a7:(s.toList==[42])=true:=by rw[L];exact aO y
  have R:i<n:=by
   rw[Hn.o];apply JU;intro h;rw[Hs.o,uJ h]at y;exact absurd y D
  have T:∀W,Below w.heap.size w W→Calls prog 75 #[pv a n c i fin 0,.bool true] W fun e w'=>e=.returned (pv a n c (i+1) fin 0)∧Below W.heap.size W w':=fun W h=>(Ed (bz lz _ _ _ _ Hw.o h) aa i fin true).mono (by
   rintro e w' ⟨⟨_,_,h⟩|⟨h|h,_⟩,U⟩
   ·exact⟨h,U⟩
   ·cases h
   omega)
  clear L ck;obtain⟨aJ,aK,ae⟩:=aQ y R T;clear y R T;go_upto_region 6 with (fail);have ah:CnJ w g g4 a n c i fin 0 va 1 1 (.slice none 0 0) w5.drew:=HJ5.o.to (aL _ _).drew;have ax:hU w5.drew (.slice va 1 1) gx:=pG awd.o (aL _ _).drew;have ay:=ych ah;refine xZ (S:=fun w'=>w'.cell? ⟨g4,0,none⟩=some (.string ⟨#[]⟩)∧w'.cell? ⟨g4,1,none⟩=some (.slice va 1 1)∧w'.cell? ⟨g4,2,none⟩=some (.slice none 0 0)∧w'.cell? ⟨g,0,none⟩=some (.slice a n c)∧w'.cell? ⟨g,1,none⟩=some (.int .i64 i)∧w'.cell? ⟨g,2,none⟩=some (.int .i64 fin)∧w'.cell? ⟨g,3,none⟩=some (.int .i64 0)) aA (by exact⟨x0,x1,x2,c0,c1,c2,c3⟩) (fun hHeld=>?_);clear x0 x1 x2 c0 c1 c2 c3;generalize w5.drew=br at ah ax ay⊢;have bs:=ay;obtain⟨x0,x1,x2,c0,c1,c2,c3⟩:=ay;obtain⟨HJd,aAm⟩:=ak ah ax;clear ah ax;refine bB 0 ?_;refine bB 1 ?_;refine c_ 2 fun K hK=>?_;go_simp;refine (ae.o _ HJd.o.bm).mono ?_;rintro e wz ⟨rfl,H⟩;have ai:=HJd.o.to H;have ba:=pG aAm.o H;have bb:=ych ai;obtain⟨_,_,_,B5,BX,EC⟩:=cT ai.r1;obtain⟨_,yl,ym,yn,yo⟩:=a8 ai.r2;revert H ai ba bb;refine bV ?_;intro gV yX aAn df;refine cK ?_;refine hK.out _ _ Vg (fun hHeld=>?_);clear hK K;refine iN ?_;refine c_ 3 fun K hK=>?_;go_simp;refine hK.out _ _ (by exact zr3 yX.o Z (frm_r1 _ _ _ _ _)) (fun hHeld=>?_);clear hK K;refine iN ?_;refine c_ 4 fun K hK=>?_;go_simp;refine hK.out _ _ (by exact zr3 yX.o Z ((Cl (i':=i+1) yX.o.r1 yX.o.r2 rfl |>.2.2))) (fun hHeld=>?_);clear hK K;refine iN ?_;refine lq ?_;go_wp2_with fail;obtain⟨wT,fQ⟩:=Y ((((((((wz.setCell ⟨g+1,0,none⟩ (.string ⟨#[]⟩)).setCell ⟨g+1,1,none⟩ (.slice va 1 1)).setCell ⟨g+1,2,none⟩ (.slice none 0 0)).setCell ⟨g+1+1,0,none⟩ (.slice a n c)).setCell ⟨g+1+1,1,none⟩ (.int .i64 ((i:Int)+1))).setCell ⟨g+1+1,2,none⟩ (.int .i64 fin)).setCell ⟨g+1+1,3,none⟩ (.int .i64 0)));rw[←fQ];obtain⟨r1,r2,hT⟩:=Cl (i':=i+1) yX.o.r1 yX.o.r2 fQ;clear fQ;have kN:Below w.heap.size w wT:=yX.o.bm.trans (hT.below yX.o.bm.size Ah)
  have aj:No2 wz (fun z=>z=g+1∨z=g+1+1):=by
   rintro z (rfl|rfl)
   ·exact jf yX.o.r1 D D
   exact jf yX.o.r2 D D
  refine fZ (Tu (g:=g+1) (k:=g+1+1) rfl rfl rfl r1 r2 xV rfl aA BB rfl aA) rfl ?_;exact⟨⟨#[]⟩,va,1,1,none,0,0,i+1,0,rfl,.inl ⟨(fd,gx,[]),znk (by rw[←Hs.o];exact aJ.o),rfl,rfl,lA aAn.o hT aj,zv7 ⟨none,0,rfl,aE _,bj _,fun i x hi=>vm⟩⟩,kN⟩
 have a7:(s.toList==[42])=false:=by rw[L];exact be y
 clear L;have aM:aD ws i≠ef:=by rw[←Hs.o];exact y
 obtain⟨aJ,az⟩:=ak y aM;clear y aM;by_cases aU:nI s=true
 ·have u:0<s.size:=by
   apply Nat.pos_of_ne_zero
   intro h0;have:s.data.toList=[]:=oT (by rw[em.len,h0]);unfold nI at aU;rw[this]at aU;simp at aU
  have aP:s.toList.isEmpty=false:=by rw[ck];exact be Z
  have bc:(0:Int)<(s.size:Int):=Z;have bd:(((s[0]'u).toNat:Int)==64)=true:=by unfold nI at aU;have h:=ed aU;rw[List.head?_eq_getElem?,bR (by rw[em.len];exact u)]at h;have h:s[0]'u=64:=nt h;rw[h];rfl
  have bt:(1:Int)≤(s.size:Int):=Z;obtain⟨tl,al⟩:=Y (s.extract 1 s.size);have aR:tl=lg s:=by rw[al];exact zt0 s
  have aT:tl.size≤70000:=by rw[aR];have:=zru s;omega
  have aB:=fun(W:World)=>zs2 (w:=W) tl aT;obtain⟨ok,dz⟩:=Y (ib tl);unfold Jf at aB;rw[←dz]at aB;clear ck;revert aU aR aT aB dz;refine bU ?_;intro fS aue Htz Fc ev;go_wp2_with fail;rw[←al];have bu:=O al;clear al;refine (Fc.o w5).mono ?_;rintro e w6 ⟨a2,n2,q2,rfl,te,cX⟩;have A:=HJ5.o.to cX;obtain⟨_,_,_,_,Mn,_⟩:=cT A.s;obtain⟨AT,Sg⟩:=Y (w6.setCell ⟨g4,1,none⟩ (.slice a2 n2 q2));have F:am (fun z=>z=g4) w6 AT:=by rw[Sg];exact aN (am.refl _ _) 1 _
  have aV:No2 w6 (fun z=>z=g4):=by rintro z rfl;exact jf A.s D D
  have bf:ok=true→hU AT (.slice a2 n2 q2) (o5 tl):=fun k=>lA (te k) F aV;have an:CnJ w g g4 a n c i fin 0 a2 n2 q2 (.slice none 0 0) AT:=⟨dh F A.p Z,dh F A.r1 Z,dh F A.r2 Z,by rw[Sg];exact ag _ g4 1 _ _ _ A.s,A.bm.trans (F.below A.bm.size yJ)⟩;clear c0 c1 c2 c3 x0 x1 x2;revert te cX A F aV bf;refine bX ?_;intro Lr je HJ6 HF6 aEk YI;go_upto_region 11 with (fail);rw[←Sg];clear Sg Mn;obtain⟨⟨c0,c1,c2,c3⟩,_⟩:=a8 an.p
  have R:i<n:=by
   rw[Hn.o];apply JU;intro h;rw[Hs.o,uJ h]at u;exact absurd u D
  have T:=Ed (bz lz _ _ _ _ Hw.o an.bm) aa i fin ok;obtain⟨aX,aK,ae⟩:=aQ an R T;clear an R T
  cases ok with
  |false=>
   have bg:=zx2 (ws:=ws) (i:=i) az.o (by rw[←Hs.o];exact fS.o) asx;obtain⟨r,aC⟩:=Y (cO ws fin i);have bh:r≠0:=by rw[aC];exact fM.o i
   have ao:Calls prog 75 #[pv a n c i fin 0,.bool false] AT fun e w'=>e=.returned (pv a n c i fin r)∧Below AT.heap.size AT w':=ae.o.mono (by
    rintro e w' ⟨⟨h,_,_⟩|⟨_,h⟩,U⟩
    ·cases h
    exact⟨by rw[h,aC],U⟩)
   revert bg aC bh ao;refine bV ?_;intro bk bl X aF;go_wp2_with fail;refine aF.o.mono ?_;rintro e B ⟨rfl,C⟩;have q:=aX.o.to C;obtain⟨_,cC,cD,cB,cF⟩:=a8 q.p;obtain⟨wt,hwt⟩:=Y ((((B.setCell ⟨g,0,none⟩ (.slice a n c)).setCell ⟨g,1,none⟩ (.int .i64 i)).setCell ⟨g,2,none⟩ (.int .i64 fin)).setCell ⟨g,3,none⟩ (.int .i64 r));have t:am (fun z=>z=g) B wt:=asy;have Ao:CnJ w g g4 a n c i fin r a2 n2 q2 (.slice none 0 0) wt:=⟨by rw[hwt];exact abe q.p,dh t q.r1 Z,dh t q.r2 Z,dh t q.s Z,q.bm.trans (t.below q.bm.size yJ)⟩;have aq:No2 B (fun z=>z=g):=by rintro z rfl;exact jf q.p D D
   clear c0 c1 c2 c3;obtain⟨bn,aY⟩:=ak q C;clear q C;go_upto_region 12 with (fail);rw[←hwt];clear hwt cC cD cB cF;obtain⟨⟨c0,c1,c2,c3⟩,_⟩:=a8 Ao.p;have BJ:Calls prog 139 #[pv a n c i fin r] wt fun e w'=>∃b m d i' bad',e=.returned (.tuple #[.slice b m d,pv a n c i' fin bad'])∧((∃l,bad'=0∧iy w' (.slice b m d) l∧dm ws i []=(some l,i')∧r=0)∨(bad'≠0∧∃j,db ws i=(none,j)∧bad'=cO ws fin j))∧Below wt.heap.size wt w':=(zlg wt a n c i fin r X.o).mono (by rintro e w9 ⟨⟨b',m,d,rfl⟩,ca⟩;exact⟨b',m,d,i,_,rfl,.inr ⟨X.o,i,bk.o,bl.o⟩,ca⟩);have LP:∀l (i':Nat),r=0→dm ws i []=(some l,i')→i'≠i→db ws i=(some (fd,o5 tl,l),i'):=fun _ _ h=>absurd h X.o;have Pv:∀l (i':Nat),r=0→dm ws i []=(some l,i')→i'=i→db ws i=(none,i'):=fun _ _ h=>absurd h X.o;have LZ:r=0→hU wt (.slice a2 n2 q2) (o5 tl):=fun h=>absurd h X.o;revert t Ao aq BJ LP Pv LZ;refine eb ?_;intro HFt Qc aBc GY Cm Lw QP;go_wp2_with fail;refine VL ?_;intro w8 sb sm sd i' bad' eH eD g10 ve w9 fN qi yg jO p9 QZ;obtain⟨_,_,_,_,_,EY⟩:=cT jO.s;refine WZ ?_;intro cH et ep;have BU:No2 w9 (fun z=>z=g4):=by exact XD
   have LN:CnJ w g g4 a n c i fin r a2 n2 q2 (.slice sb sm sd) cH:=⟨dh ep jO.p Z,dh ep jO.r1 Z,dh ep jO.r2 Z,YQ,jO.bm.trans (ep.below jO.bm.size yJ)⟩;have PB:=dh ep p9 Z;have LM:r=0→hU cH (.slice a2 n2 q2) (o5 tl):=fun h=>lA (pG YR yg) ep BU;refine WT ?_;intro EN;clear c0 c1 c2 c3;revert eH eD qi yg jO p9 ep BU LN PB LM EN;refine nL ?_;intro nU si QL avb HJ9 IL lW ave gA yD H7 Qm;go_upto_region 13 with (fail);rw[←fN,←ve];clear fN ve;go_upto_region 14 with (fail);rw[←et];clear et EY;obtain⟨x0,x1,x2,_,_,_⟩:=cT gA.o.s;obtain⟨⟨y0,y1,y2,y3⟩,cC,cD,cB,cF⟩:=a8 yD.o;obtain⟨_,_,_,B5,BX,EC⟩:=cT gA.o.r1;obtain⟨_,yl,ym,yn,yo⟩:=a8 gA.o.r2;refine Xh ?_;intro d1 d2 d3 d4 d5;rcases nU.o with⟨l,H,tn,gF,af⟩|⟨Co,j,If,Ig⟩
   ·subst H;by_cases hi:i'=i
    ·revert tn gF hi;refine VO ?_;intro k7 bq Cj oN Hi mE Fb ee;go_wp2_with fail;refine Fb.o.mono ?_;rintro e x9 ⟨rfl,uH⟩;have mD:=gA.o.to uH;have D_:=G uH yD.o;obtain⟨_,cC,cD,cB,cF⟩:=a8 D_;refine VR ?_;intro kr sx ni;have PO:CnJ w g g4 a n c i fin r a2 n2 q2 (.slice sb sm sd) kr:=⟨dh ni mD.p Z,dh ni mD.r1 Z,dh ni mD.r2 Z,dh ni mD.s Z,mD.bm.trans (ni.below mD.bm.size yJ)⟩;exact amo
    exact amc
   exact apu
  |true=>
   have ao:Calls prog 75 #[pv a n c i fin 0,.bool true] AT fun e w'=>e=.returned (pv a n c (i+1) fin 0)∧Below AT.heap.size AT w':=ae.o.mono (by
    rintro e w' ⟨⟨_,_,h⟩|⟨h|h,_⟩,U⟩
    ·exact⟨h,U⟩
    ·cases h
    have:=aK.o;omega)
   have aF:=O ao;clear ao;go_wp2_with fail;refine aF.o.mono ?_;rintro e B ⟨rfl,C⟩;have ar:=ycg (ws:=ws) (i:=i) az.o (by rw[←Hs.o];exact fS.o) asx;rw[←Hs.o,←aue.o]at ar;have q:=aX.o.to C;obtain⟨_,cC,cD,cB,cF⟩:=a8 q.p;obtain⟨wt,hwt⟩:=Y ((((B.setCell ⟨g,0,none⟩ (.slice a n c)).setCell ⟨g,1,none⟩ (.int .i64 ((i:Int)+1))).setCell ⟨g,2,none⟩ (.int .i64 fin)).setCell ⟨g,3,none⟩ (.int .i64 (0:Int)));have t:am (fun z=>z=g) B wt:=asy;have Ao:CnJ w g g4 a n c (i+1) fin (0:Int) a2 n2 q2 (.slice none 0 0) wt:=⟨by rw[hwt];exact abe q.p,dh t q.r1 Z,dh t q.r2 Z,dh t q.s Z,q.bm.trans (t.below q.bm.size yJ)⟩;have aq:No2 B (fun z=>z=g):=by rintro z rfl;exact jf q.p D D
   clear c0 c1 c2 c3;obtain⟨bn,aY⟩:=ak q C;clear q C;go_upto_region 12 with (fail);rw[←hwt];clear hwt cC cD cB cF;obtain⟨⟨c0,c1,c2,c3⟩,_⟩:=a8 Ao.p
   have BJ:Calls prog 139 #[pv a n c (i+1) fin 0] wt fun e w'=>∃b m d i' bad',e=.returned (.tuple #[.slice b m d,pv a n c i' fin bad'])∧((∃l,bad'=0∧iy w' (.slice b m d) l∧dm ws (i+1) []=(some l,i')∧(0:Int)=0)∨(bad'≠0∧∃j,db ws i=(none,j)∧bad'=cO ws fin j))∧Below wt.heap.size wt w':=(zii (bz lz _ _ _ _ Hw.o Ao.bm) aa Hz.o fM.o (i+1)).mono (by
    rintro e w9 ⟨b',m,d,i',bad,rfl,⟨l,h1,h2,h3⟩|⟨j,h1,h2⟩,ca⟩
    ·exact aph
    exact⟨b',m,d,i',bad,rfl,.inr ⟨by rw[h2];exact fM.o j,j,by rw[ar,h1];rfl,h2⟩,ca⟩)
   have LP:∀l (i':Nat),(0:Int)=0→dm ws (i+1) []=(some l,i')→i'≠i→db ws i=(some (fd,o5 tl,l),i'):=fun l j _ h _=>by rw[ar,h];rfl
   have Pv:∀l (i':Nat),(0:Int)=0→dm ws (i+1) []=(some l,i')→i'=i→db ws i=(none,i'):=fun l j _ h e=>by have:=FN ws (i+1) [];rw[h]at this;simp only at this;omega
   have LZ:(0:Int)=0→hU wt (.slice a2 n2 q2) (o5 tl):=fun _=>lA (pG (YI.o trivial) aY.o) t aq;clear ar;revert t Ao aq BJ LP Pv LZ;refine eb ?_;intro HFt Qc aBc GY Cm Lw QP;go_wp2_with fail;refine VL ?_;intro w8 sb sm sd i' bad' eH eD g10 ve w9 fN qi yg jO p9 QZ;obtain⟨_,_,_,_,_,EY⟩:=cT jO.s;refine WZ ?_;intro cH et ep;have BU:No2 w9 (fun z=>z=g4):=by exact XD
   have LN:CnJ w g g4 a n c (i+1) fin 0 a2 n2 q2 (.slice sb sm sd) cH:=⟨dh ep jO.p Z,dh ep jO.r1 Z,dh ep jO.r2 Z,YQ,jO.bm.trans (ep.below jO.bm.size yJ)⟩;have PB:=dh ep p9 Z;have LM:0=0→hU cH (.slice a2 n2 q2) (o5 tl):=fun h=>lA (pG YR yg) ep BU;refine WT ?_;intro EN;clear c0 c1 c2 c3;revert eH eD qi yg jO p9 ep BU LN PB LM EN;refine nL ?_;intro nU si QL avb HJ9 IL lW ave gA yD H7 Qm;go_upto_region 13 with (fail);rw[←fN,←ve];clear fN ve;go_upto_region 14 with (fail);rw[←et];clear et EY;obtain⟨x0,x1,x2,_,_,_⟩:=cT gA.o.s;obtain⟨⟨y0,y1,y2,y3⟩,cC,cD,cB,cF⟩:=a8 yD.o;obtain⟨_,_,_,B5,BX,EC⟩:=cT gA.o.r1;obtain⟨_,yl,ym,yn,yo⟩:=a8 gA.o.r2;refine Xh ?_;intro d1 d2 d3 d4 d5;rcases nU.o with⟨l,H,tn,gF,af⟩|⟨Co,j,If,Ig⟩
   ·subst H;by_cases hi:i'=i
    ·revert tn gF hi;refine VO ?_;intro k7 bq Cj oN Hi mE Fb ee;go_wp2_with fail;refine Fb.o.mono ?_;rintro e x9 ⟨rfl,uH⟩;have mD:=gA.o.to uH;have D_:=G uH yD.o;obtain⟨_,cC,cD,cB,cF⟩:=a8 D_;refine VR ?_;intro kr sx ni;have PO:CnJ w g g4 a n c (i+1) fin 0 a2 n2 q2 (.slice sb sm sd) kr:=⟨dh ni mD.p Z,dh ni mD.r1 Z,dh ni mD.r2 Z,dh ni mD.s Z,mD.bm.trans (ni.below mD.bm.size yJ)⟩;exact amo
    exact amc
   exact apu
 have au:=zsk (ws:=ws) (i:=i) az.o (by rw[←Hs.o];simpa using aU);have LP:∀l (i':Nat),(0:Int)=0→dm ws i []=(some l,i')→i'≠i→db ws i=(some (fd,gx,l),i'):=fun l j _ h h2=>au.1 l j h h2;have Pv:∀l (i':Nat),(0:Int)=0→dm ws i []=(some l,i')→i'=i→db ws i=(none,i'):=fun l j _ h h2=>au.2.1 l j h h2;obtain⟨wt,hwt⟩:=Y w5;have Ao:CnJ w g g4 a n c i fin 0 va 1 1 (.slice none 0 0) wt:=by rw[hwt];exact HJ5.o
 have LZ:(0:Int)=0→hU wt (.slice va 1 1) gx:=fun _=>by rw[hwt];exact awd.o
 have BJ:Calls prog 139 #[pv a n c i fin 0] wt fun e w'=>∃b m d i' bad',e=.returned (.tuple #[.slice b m d,pv a n c i' fin bad'])∧((∃l,bad'=0∧iy w' (.slice b m d) l∧dm ws i []=(some l,i')∧(0:Int)=0)∨(bad'≠0∧∃j,db ws i=(none,j)∧bad'=cO ws fin j))∧Below wt.heap.size wt w':=(zii (bz lz _ _ _ _ Hw.o Ao.bm) aa Hz.o fM.o i).mono (by
  rintro e w9 ⟨b',m,d,i',bad,rfl,⟨l,h1,h2,h3⟩|⟨j,h1,h2⟩,ca⟩
  ·exact aph
  exact⟨b',m,d,i',bad,rfl,.inr ⟨by rw[h2];exact fM.o j,j,au.2.2 j h1,h2⟩,ca⟩)
 rw[←hwt]at c0 c1 c2 c3 x0 x1 x2⊢;clear hwt au;clear x0 x1 x2;by_cases h0:s.size=0
 ·have aP:s.toList.isEmpty=true:=by rw[ck];exact aO h0
  exact aql
 have u:0<s.size:=Z;have aP:s.toList.isEmpty=false:=by rw[ck];exact be h0
 have bc:(0:Int)<(s.size:Int):=Z
 have bd:(((s[0]'u).toNat:Int)==64)=false:=by
  rw[JY];intro e;apply aU;unfold nI;refine aO ?_;rw[List.head?_eq_getElem?,bR (by rw[em.len];exact u)];refine iB some ?_;show s[0]'u=64;exact NZ.1 (by show (s[0]'u).toNat=64;omega)
 exact aql
end
section
open RowKit Shelf
attribute [local go_sem ↓] wp_at_zero wp_at_succ
theorem yat(s t a b:ByteArray)(W:World):(binOp .neq 137 (.agg #[.string s,.string t]) (.agg #[.string a,.string b])).run prog W=.ok (.bool (!(decide (s=a)&&decide (t=b)))) W:=by
 have e:=ox;have c:prog.underlying 137=some (.struct (prog.fieldsOf 137)):=aA;have d:prog.stoodInHeld 137=false:=aA;rw[run_neq_struct,show (10000:Nat)=9999+1 from rfl,Sk W 9999 137 _ _ c d];simp only[Program.fieldsOf,underlying137];exact V4
theorem zy0{l m:List el}(h:fm w [v] l)(p:fm w [u] m):Calls prog 117 #[v,u] w fun e w'=>e=.returned (.bool (decide (l=m)))∧∃q,w'=w.drewN q:=by
 obtain⟨a,cap,rfl,z,g⟩:=sD h;obtain⟨a2,tY,rfl,cc,g2⟩:=sD p;refine Gq ?_;intro n hn n2 cS r hr;have A:=fun s t a b=>yat s t a b;rw[←hr];rw[←hn]at z h⊢;rw[←cS]at cc p⊢;revert g g2 h hn p cS hr A;refine fg ?_;intro Hg lB Hh Hn Hm fV Hr qY;go_enter func117,ntmps117;refine R8 ?_;intro k1 cJ;go_wp2_with fail;clear k1;go_loopw [13] (fun i wr=>∃k:Nat,k≤n∧i=.int .i64 k∧(∀j (h1:j<l.length) (h2:j<m.length),j<k→l[j]=m[j])∧∃q,wr=w.drewN q) (fun i _=>n-(intOf i).toNat)
 case atStart=>exact⟨0,bj _,rfl,fun _ _ _ h=>Z,0,rfl⟩
 case round=>
  obtain⟨k,_,rfl,aj,q,rfl⟩:=hrel;by_cases C:k<n
  ·refine Bo ?_;intro aI gY;obtain⟨b,off,rfl,d0,d1,_,_⟩:=Hg.o k _ (bR aI);obtain⟨b2,nY,rfl,f0,f1,_,_⟩:=lB.o k _ (bR gY);have cq:l[k]=m[k]→∀j (h1:j<l.length) (h2:j<m.length),j<k+1→l[j]=m[j]:=fun h j h1 h2 hjk=>by exact DP
   have bQ:l[k]≠m[k]→l≠m:=fun h e=>h Qt;revert d0 d1 f0 f1 cq bQ;refine VJ ?_;intro x hx y bQ cq hy jK s d0 hs t d1 ht s' f0 lS t' f1 q2 nS;refine s_ ?_;intro k5 k6;have F:(k:Int)<(n2:Int):=GN;clear jK;by_cases e:x=y
   ·have B:=cq e;rw[aO e]at q2;simp only[QM]at q2;clear e;revert aj hx bQ cq hy hs ht lS nS B;refine dE ?_;intro cd Hx dI dV Hy Hs Ht ZM ZP Hq;go_wp2_with fail;go_region
    exact alj
   exact agv
  exact Rj
end
section
open Shelf RowKit Lib av cy
attribute [local go_sem ↓] wp_at_zero wp_at_succ
theorem zi5{n m:ByteArray}{s:Value}{l1 l2:List h8}{g1 g2:List el}(h1:gy w [v1] l1)(h2:fm w [v2] g1)(h3:gy w [s] l2)(h4:fm w [u2] g2):
  Calls prog 91 #[.agg #[.string n,v1,v2],.agg #[.string m,s,u2]] w fun e w'=>e=.returned (.bool (decide ((n,l1,g1)=(m,l2,g2))))∧Below w.heap.size w w':=by
 obtain⟨a1,c1,rfl,-,-⟩:=qA h1;obtain⟨a2,c2,rfl,-,-⟩:=sD h2;obtain⟨a3,c3,rfl,-,-⟩:=qA h3;obtain⟨a4,c4,rfl,-,-⟩:=sD h4;refine aeb ?_;intro W1 aK g hg ai p0 p1 r1 r2 r3 r4 x0 x1 x2 y0 y1 y2 r hr;have hS:=zve r1 r3;have hT:=fun(W:World)(k:Below W1.heap.size W1 W)=>zy0 (bz kR _ _ _ _ r2 k) (bz kR _ _ _ _ r4 k);revert aK x1 x2 y1 y2 hr hS hT;refine ahh ?_;intro n1 x1 cz n2 x2 cS n3 y1 CL n4 aK y2 IU bs hS bt hT bn dJ fw;revert h1 h2 h3 h4 ai p0 p1 r1 r2 r3 r4 cz cS CL IU hS hT fw;refine OS ?_;intro H1 H2 H3 H4 aB dR fG kl ga gZ vi oY fV MF Hn4 HS HT yd;go_enter func91,ntmps91;exact aqj
theorem ycx(a:Option Addr)(n c i:Nat)(fin:Int){bad:Int}(jJ:bad≠0):Calls prog 109 #[pv a n c i fin bad] w fun e w'=>(∃x b1 n1 c1 b2 n2 c2,e=.returned (.tuple #[.agg #[.string x,.slice b1 n1 c1,.slice b2 n2 c2],pv a n c i fin bad]))∧Below w.heap.size w w':=by
 refine aec ?_;intro g hg W1 aK cM h0 h1 h2 eV bZ kb;obtain⟨⟨c0,c1,c2,c3⟩,-⟩:=a8 h0;obtain⟨s0,s1,s2,t0,t1,t2⟩:=cT h1;obtain⟨⟨d0,d1,d2,d3⟩,f0,f1,f2,f3⟩:=a8 h2;revert cM h0 h1 h2;refine bV ?_;intro cr H0 H1 H2;go_enter func109,ntmps109;go_upto_region 1 with (fail);rw[←aK,←hg,show g+1+1=g+2 from rfl];clear aK hg;go_wp2_with fail;go_region
 go_wp2_with fail
 have f:=H1.o;have j:=H2.o;have fL:=cr.o;obtain⟨WF,eJ⟩:=Y ((((((((W1).setCell ⟨g+1,0,none⟩ (.string ⟨#[]⟩)).setCell ⟨g+1,1,none⟩ (.slice none 0 0)).setCell ⟨g+1,2,none⟩ (.slice none 0 0)).setCell ⟨g+2,0,none⟩ (.slice a n c)).setCell ⟨g+2,1,none⟩ (.int .i64 i)).setCell ⟨g+2,2,none⟩ (.int .i64 fin)).setCell ⟨g+2,3,none⟩ (.int .i64 bad));have x1:dQ (g+1) (.string ⟨#[]⟩) (.slice none 0 0) (.slice none 0 0) WF:=by rw[eJ];exact ah (b:=g+2) (i:=3) (u:=.int .i64 bad) (ah (b:=g+2) (i:=2) (u:=.int .i64 fin) (ah (b:=g+2) (i:=1) (u:=.int .i64 i) (ah (b:=g+2) (i:=0) (u:=.slice a n c) (ag _ (g+1) 2 _ _ (.slice none 0 0) (ag _ (g+1) 1 _ _ (.slice none 0 0) (ag _ (g+1) 0 _ _ (.string ⟨#[]⟩) (f)))) Z) Z) Z) Z
 have x2:es (g+2) a n c i fin bad WF:=by rw[eJ];exact ag _ (g+2) 3 _ _ (.int .i64 bad) (ag _ (g+2) 2 _ _ (.int .i64 fin) (ag _ (g+2) 1 _ _ (.int .i64 i) (ag _ (g+2) 0 _ _ (.slice a n c) (ah (b:=g+1) (i:=2) (u:=.slice none 0 0) (ah (b:=g+1) (i:=1) (u:=.slice none 0 0) (ah (b:=g+1) (i:=0) (u:=.string ⟨#[]⟩) (j) Z) Z) Z))))
 exact ahc
theorem yf4(a:Option Addr)(n c i:Nat)(fin:Int){bad:Int}(jJ:bad≠0):Calls prog 111 #[pv a n c i fin bad] w fun e w'=>(∃x b1 n1 c1 b2 n2 c2,e=.returned (.tuple #[.agg #[.string x,.slice b1 n1 c1,.slice b2 n2 c2],pv a n c i fin bad]))∧Below w.heap.size w w':=by
 refine aec ?_;intro g hg W1 aK cM h0 h1 h2 eV bZ kb;have v:=Nt W1;revert cM h0 h1 h2 v;refine bU ?_;intro cr H0 H1 H2 HA;go_enter func111,ntmps111;go_upto_region 1 with (fail);rw[←aK,←hg,show g+1+1=g+2 from rfl];clear aK hg;go_wp2_with fail;refine HA.o.mono ?_;rintro e w2 ⟨rfl,eo⟩;rw[eV];have m:Below W1.heap.size W1 w2:=Yc;have q:w2.heap.size=g+4:=by rw[eo];simp[eV]
 obtain⟨w3,ea⟩:=Y (w2.alloc (.cells #[.string ⟨#[]⟩,.slice (some ⟨g+3,0,none⟩) 1 1,.slice none 0 0] 55));have r:Below w2.heap.size w2 w3:=Oh;have f:=m.trans (r.mono m.size);have s:dQ (g+4) (.string ⟨#[]⟩) (.slice (some ⟨g+3,0,none⟩) 1 1) (.slice none 0 0) w3:=by rw[ea,←q];exact dq _ _
 have t:=G f H0.o;have j:=G f H1.o;have l:=G f H2.o;have fL:=cr.o.trans (f.mono cr.o.size);clear eo;obtain⟨⟨_,c1,c2,c3⟩,-⟩:=a8 t;obtain⟨s0,s1,s2,t0,t1,t2⟩:=cT j;obtain⟨⟨d0,d1,d2,d3⟩,f0,f1,f2,f3⟩:=a8 l;obtain⟨y0,y1,y2,-⟩:=cT s;have B:=aH q;clear eV;revert m r f s t;refine bU ?_;intro bh bK Ax C1 Em;have y:=aH j;have z:=aH l;have A:=aH fL;clear j l fL;go_upto_region 2 with (fail);rw[←ea];clear ea q;go_wp2_with fail;go_region
 go_wp2_with fail
 have j:=y.o;have l:=z.o;have fL:=A.o;obtain⟨WF,eJ⟩:=Y ((((((((w3).setCell ⟨g+1,0,none⟩ (.string ⟨#[]⟩)).setCell ⟨g+1,1,none⟩ (.slice (some ⟨g+3,0,none⟩) 1 1)).setCell ⟨g+1,2,none⟩ (.slice none 0 0)).setCell ⟨g+2,0,none⟩ (.slice a n c)).setCell ⟨g+2,1,none⟩ (.int .i64 i)).setCell ⟨g+2,2,none⟩ (.int .i64 fin)).setCell ⟨g+2,3,none⟩ (.int .i64 bad));have x1:dQ (g+1) (.string ⟨#[]⟩) (.slice (some ⟨g+3,0,none⟩) 1 1) (.slice none 0 0) WF:=by rw[eJ];exact ah (b:=g+2) (i:=3) (u:=.int .i64 bad) (ah (b:=g+2) (i:=2) (u:=.int .i64 fin) (ah (b:=g+2) (i:=1) (u:=.int .i64 i) (ah (b:=g+2) (i:=0) (u:=.slice a n c) (ag _ (g+1) 2 _ _ (.slice none 0 0) (ag _ (g+1) 1 _ _ (.slice (some ⟨g+3,0,none⟩) 1 1) (ag _ (g+1) 0 _ _ (.string ⟨#[]⟩) (j)))) Z) Z) Z) Z
 have x2:es (g+2) a n c i fin bad WF:=by rw[eJ];exact ag _ (g+2) 3 _ _ (.int .i64 bad) (ag _ (g+2) 2 _ _ (.int .i64 fin) (ag _ (g+2) 1 _ _ (.int .i64 i) (ag _ (g+2) 0 _ _ (.slice a n c) (ah (b:=g+1) (i:=2) (u:=.slice none 0 0) (ah (b:=g+1) (i:=1) (u:=.slice (some ⟨g+3,0,none⟩) 1 1) (ah (b:=g+1) (i:=0) (u:=.string ⟨#[]⟩) (l) Z) Z) Z))))
 exact ahc
end
section
open RowKit Shelf Lib av
theorem zwk{l m:List el}(h:fm w [v] l)(p:fm w [u] m):Calls prog 93 #[v,u] w fun e w'=>e=.returned (.bool (decide (l=m)))∧∃q,w'=w.drewN q:=by
 obtain⟨a,cap,rfl,z,g⟩:=sD h;obtain⟨a2,tY,rfl,cc,g2⟩:=sD p;refine Gq ?_;intro n hn n2 cS r hr;have A:=fun s t a b=>yat s t a b;rw[←hr];rw[←hn]at z h⊢;rw[←cS]at cc p⊢;revert g g2 h hn p cS hr A;refine fg ?_;intro Hg lB Hh Hn Hm fV Hr qY;go_enter func93,ntmps93;exact VV
end
section
open Shelf RowKit Lib av cy
attribute [local go_sem ↓] wp_at_zero wp_at_succ
theorem zvq{L:List h8}(h:gy w [v] L):Calls prog 67 #[v] w fun e w'=>e=.returned (.bool (decide (L=gx)))∧w'=w:=by
 obtain⟨a,cap,rfl,l,g⟩:=qA h;obtain⟨n,hn⟩:=Y L.length;obtain⟨r,hr⟩:=Y (decide (L=gx));rw[←hr];rw[←hn]at l h⊢;by_cases h1:n=1
 ·subst h1;obtain⟨x,i⟩:∃x,L=[x]:=XU.1 hn.symm;obtain⟨b,off,rfl,d0,d1,-,-⟩:=g 0 x (by rw[i];rfl);rw[AQ,mL]at d0 d1;have q:=fun(W:World)=>spn_eqs x.1 x.2 ⟨#[]⟩ ⟨#[]⟩ W;have j:(decide (x.1=⟨#[]⟩)&&decide (x.2=⟨#[]⟩))=r:=by rw[hr,i,Cs];simp[gx,Il]
  simp only[j]at q;refine DQ ?_;intro s hs t ht;simp only[←hs,←ht]at q;rw[←hs]at d0;rw[←ht]at d1;clear j;revert hr hn i g h hs ht;refine eb ?_;intro m p Hx u y Hs Ht;go_enter func67,ntmps67;exact DO
 have A:((n:Int)==1)=false:=l9;have z:r=false:=by rw[hr,pQ];rintro rfl;exact h1 hn
 revert g h hn hr h1 z;refine bX ?_;intro u y p m _ Hf;go_enter func67,ntmps67;exact zK
theorem Vo{n m:ByteArray}{s:Value}{l1 l2:List h8}{g1 g2:List el}(h1:gy w [v1] l1)(h2:fm w [v2] g1)(h3:gy w [s] l2)(h4:fm w [u2] g2):
  Calls prog 60 #[.agg #[.string n,v1,v2],.agg #[.string m,s,u2]] w fun e w'=>e=.returned (.bool (decide ((n,l1,g1)=(m,l2,g2))))∧Below w.heap.size w w':=by
 obtain⟨a1,c1,rfl,-,-⟩:=qA h1;obtain⟨a2,c2,rfl,-,-⟩:=sD h2;obtain⟨a3,c3,rfl,-,-⟩:=qA h3;obtain⟨a4,c4,rfl,-,-⟩:=sD h4;refine aeb ?_;intro W1 aK g hg ai p0 p1 r1 r2 r3 r4 x0 x1 x2 y0 y1 y2 r hr;have hS:=zwj r1 r3;have hT:=fun(W:World)(k:Below W1.heap.size W1 W)=>zwk (bz kR _ _ _ _ r2 k) (bz kR _ _ _ _ r4 k);revert aK x1 x2 y1 y2 hr hS hT;refine ahh ?_;intro n1 x1 cz n2 x2 cS n3 y1 CL n4 aK y2 IU bs hS bt hT bn dJ fw;revert h1 h2 h3 h4 ai p0 p1 r1 r2 r3 r4 cz cS CL IU hS hT fw;refine OS ?_;intro H1 H2 H3 H4 aB dR fG kl ga gZ vi oY fV MF Hn4 HS HT yd;go_enter func60,ntmps60;exact aqj
theorem zt2(L:List ByteArray)(x:ByteArray):(L++[x]).map Value.string=L.map Value.string++[.string x]:=by simp
theorem zpq{l:List el}(h:k<l.length):(l.take (k+1)).map j0=(l.take k).map j0++[j0 l[k]]:=by rw[pP h,oP];rfl
def zr9(s:dj)(w:World)(e:Ending)(w':World):Prop:=∃a c,e=.returned (.slice a (cI s).length c)∧(Hj w' [.slice a (cI s).length c] (cI s)∧∀p:Addr,a=some p→w.heap.size≤p.block)∧Below w.heap.size w w'
theorem abu{xs:List Value}(h:W.ownsRow B e sz (.slice a n c) n xs):∀p:Addr,a=some p→B≤p.block:=fun p b=>(h.lt p.block (by rw[b];rfl)).1
structure WdI(w:World)(dP:List el)(F0:List ByteArray)(k:Nat)(v:Value)(W:World):Prop where
 row:W.ownsRow w.heap.size 9 1 v (F0.length+k) ((F0++(dP.take k).map j0).map Value.string)
 bm:Below w.heap.size w W
theorem word_size(s:dj)(h1:s.1.size≤9000)(f:∀x∈s.2.2,x.1.size≤9000∧x.2.size≤9000)(g:(dK s).size≤9223372036854775807):∀x∈cI s,x.size≤maxLen:=by
 have e:∀a b:ByteArray,(a++b).size=a.size+b.size:=fun a b=>arr
 have i:∀x∈(if dK s=fd then [] else [dK s])++s.2.2.map j0,x.size≤maxLen:=fun x c=>by
  unfold maxLen;rcases ff.1 c with c|c
  ·split at c
   ·simp at c
   rw[gd]at c;rw[c];exact g
  obtain⟨y,j,rfl⟩:=gb.1 c;have:=f y j;unfold j0;rw[e,e];show y.1.size+1+y.2.size≤_;omega
 intro x c;unfold cI at c;by_cases d:(if dK s=fd then [] else [dK s])++s.2.2.map j0=[]
 ·rw[M d,gd]at c;rw[c];decide
 rw[E d]at c;exact i x c
theorem zt6(l:List Tp)(_:l.length≤1000):(spT (tB l)).size≤20000000:=by
 rw[Jh];unfold oh;split
 ·decide
 split
 ·decide
 have hF:=Nd l;have b:(fJ l).length≤1000:=by have:=ybu l;omega
 unfold Dx;show (Lib.join (((fJ l).map lJ).map (·.data.toList)) [44]).length≤_;have c:∀x∈((fJ l).map lJ).map (·.data.toList),x.length≤18001:=by intro x d;obtain⟨y,hy,rfl⟩:=gb.1 d;obtain⟨z,hz,rfl⟩:=gb.1 hy;rw[em.len];exact zq8 (hF z hz)
 have h1:=NN 18001 _ c;have e:(((fJ l).map lJ).map (·.data.toList)).length≤1000:=by simpa using b
 obtain⟨L,f⟩:=Y (((fJ l).map lJ).map (·.data.toList));rw[←f]at h1 e⊢;exact Wk
theorem zlh{l:List Tp}{dP:List el}(h1:gy w [v1] (tB l))(ag:fm w [v2] dP)(au:dN w)(av:l.length≤1000)(aG:dP.length≤1000)(aJ:nm.size≤9000)(ax:∀x∈dP,x.1.size≤9000∧x.2.size≤9000):
  Calls prog 36 #[.agg #[.string nm,v1,v2]] w (zr9 (nm,tB l,dP) w):=by
 obtain⟨a1,c1,rfl,-,-⟩:=qA h1;obtain⟨a2,c2,rfl,cc,aU⟩:=sD ag;obtain⟨n1,cz⟩:=Y ((tB l).length);obtain⟨n2,cS⟩:=Y dP.length;rw[←cz]at h1⊢;rw[←cS]at ag cc aG⊢;refine VN ?_;intro W1 aK g hg ai p0 x0 x1 x2 r1;have ay:=zvq r1;have az:=zpn r1 Z (au.below ai);have ah:=zt6 l av;have ae:dK (nm,tB l,dP)=if tB l=gx then nm else nm++(⟨#[64]⟩++spT (tB l)):=rfl
 rw[Jh]at ah ae;obtain⟨C,aA⟩:=Y (oh l);rw[←aA]at az ah ae;have dT:cI (nm,tB l,dP)=if (if dK (nm,tB l,dP)=fd then [] else [dK (nm,tB l,dP)])++dP.map j0=[] then [ef] else (if dK (nm,tB l,dP)=fd then [] else [dK (nm,tB l,dP)])++dP.map j0:=rfl
 have aj:(dK (nm,tB l,dP)).size≤9223372036854775807→∀x∈cI (nm,tB l,dP),x.size≤maxLen:=word_size (nm,tB l,dP) aJ ax;obtain⟨R,an⟩:=Y (cI (nm,tB l,dP));obtain⟨fi,nd⟩:=Y (dK (nm,tB l,dP));rw[←an]at dT aj;rw[←nd]at ae dT aj;unfold zr9;rw[←an];obtain⟨al,P8⟩:=Y (decide (tB l=gx));rw[←P8]at ay;have K:=em.ii nm;have aL:∀a b:ByteArray,(a++b).size=a.size+b.size:=fun a b=>arr;revert au av ax aU h1 cz ag cS ai p0 r1 ah az aA an aj dT ae nd ay P8 aL;refine Sb ?_;intro HD Hl ir fS H1 oY H2 fV aB dR kl Hts HT aak HR adj Ai iS lV HA Ff Hsize;go_enter func36,ntmps36;go_upto_region 1 with (fail);refine iE ?_;clear aK hg
 cases al with
 |true=>
  have y:fi=nm:=ars;by_cases B:nm.size=0
  ·have L:nm.toList.isEmpty=true:=by rw[K];exact aO B
   have S:(if fi=fd then [] else [fi])=([]:List ByteArray):=M (by rw[y];exact em.ext (oT (by rw[em.len];exact B)));have T:fi.size≤9223372036854775807:=by rw[y];omega
   obtain⟨F0,A⟩:∃F:List ByteArray,F=[]:=⟨_,rfl⟩;have U:(if fi=fd then [] else [fi])=F0:=by rw[A];exact S
   clear S;have W:F0.length≤1:=by rw[A];exact bj _
   have hI:WdI w dP F0 0 (.slice none 0 0) W1:=⟨by rw[A];exact pd _ _ _ _,aB.o⟩;clear K;revert y B T A U W hI;refine eb ?_;intro aC aD UU af U0 Fa HI;go_wp2_with fail;refine HA.o.mono ?_;rintro e wz ⟨rfl,MU⟩;subst MU;go_upto_region 7 with (fail);have X:=aH dR.o;obtain⟨y0,y1,y2,-⟩:=cT X.o;clear x0 x1 x2 L;go_wp2_with fail;exact XJ
  have L:nm.toList.isEmpty=false:=by rw[K];exact be B
  have S:(if fi=fd then [] else [fi])=[nm]:=by rw[y];exact E (by intro e;rw[e]at B;exact B rfl)
  have T:fi.size≤9223372036854775807:=by rw[y];omega
  obtain⟨F0,A⟩:∃F:List ByteArray,F=[nm]:=⟨_,rfl⟩;have U:(if fi=fd then [] else [fi])=F0:=by rw[A];exact S
  clear S;have W:F0.length≤1:=by rw[A];exact aE _
  have aa:=aB.o.size;have ao:W1.ownsRow w.heap.size 9 1 (.slice none 0 0) 0 []:=pd _ _ _ _;clear K;revert y B T A U W ao;refine eb ?_;intro aC aD UU af U0 Fa ad;go_wp2_with fail;refine HA.o.mono ?_;rintro e wz ⟨rfl,MU⟩;subst MU;go_wp2_with (at_builtin;(refine kZ Ag rfl (.tmp 21) (.tmp 23) rfl w.heap.size (.slice none 0 0) 0 [] rfl ad.o 1 #[.string nm] rfl rfl dW Z cY aa ?_;intro v9 w9 aZ aT cg;obtain⟨a9,c9,rfl⟩:=bg aZ;have ca:=(iX aB.o ad.o (aE _) aT aa:Below w.heap.size w w9);have X:=aH ((aT.block g (bS.1 dR.o).1 X_).trans dR.o:dQ g (.string nm) (.slice a1 n1 c1) (.slice a2 n2 c2) w9);have HI:=aH (⟨by rw[af.o];exact aZ,ca⟩:WdI w dP F0 0 (.slice a9 1 c9) w9);obtain⟨y0,y1,y2,-⟩:=cT X.o;clear aZ aT cg ca));clear x0 x1 x2 L;exact XJ
 |false=>
  have y:fi=nm++(⟨#[64]⟩++C):=art;have B:fi≠fd:=by rw[y];exact app_ne (ne_app D)
  have T:fi.size≤9223372036854775807:=by have:=Hts.o;have e1:=Hsize.o nm (⟨#[64]⟩++C);have e2:=Hsize.o ⟨#[64]⟩ C;have aN:(⟨#[64]⟩:ByteArray).size=1:=rfl;rw[y];omega
  obtain⟨F0,A⟩:∃F:List ByteArray,F=[nm++(⟨#[64]⟩++C)]:=⟨_,rfl⟩;have U:(if fi=fd then [] else [fi])=F0:=by rw[E B,A,y]
  have W:F0.length≤1:=by rw[A];exact aE _
  have L:(nm++(⟨#[64]⟩++C)).toList.isEmpty=false:=by
   rw[em.ii];refine be fun h=>?_;apply B;rw[y];exact em.ext (oT (by rw[em.len];exact h))
  clear K;have aP:=Hts.o;revert y B T A U W;refine bX ?_;intro aC aD UU af U0 Fa;go_wp2_with fail;refine HA.o.mono ?_;rintro e wz ⟨rfl,MU⟩;subst MU;go_wp2_with fail;refine HT.o.mono ?_;rintro e wt ⟨rfl,XM⟩;have aF:=aB.o.trans (XM.mono aB.o.size);have aM:=G XM dR.o;have aa:=aF.size;have ao:wt.ownsRow w.heap.size 9 1 (.slice none 0 0) 0 []:=pd _ _ _ _;revert XM aF aM ao;refine bV ?_;intro aEf ki iA ad;go_wp2_with (at_builtin;(refine kZ Ag rfl (.tmp 21) (.tmp 23) rfl w.heap.size (.slice none 0 0) 0 [] rfl ad.o 1 _ rfl rfl dW Z cY aa ?_;intro v9 w9 aZ aT cg;obtain⟨a9,c9,rfl⟩:=bg aZ;have ca:=(iX ki.o ad.o (aE _) aT aa:Below w.heap.size w w9);have X:=aH ((aT.block g (bS.1 iA.o).1 X_).trans iA.o:dQ g (.string nm) (.slice a1 n1 c1) (.slice a2 n2 c2) w9);have HI:=aH (⟨by rw[af.o];exact aZ,ca⟩:WdI w dP F0 0 (.slice a9 1 c9) w9);obtain⟨y0,y1,y2,-⟩:=cT X.o;clear aZ aT cg ca));clear x0 x1 x2 L;exact XJ
end
section
open Lib av cy
open ac (Wd Ln)
abbrev yct:=List Wd→Nat→Option dj×Nat
def Jg(R:yct)(t:ByteArray)(s:dj):Prop:=(ac.ej t.data.toList).e=0∧∃ln,(ac.ej t.data.toList).lines=[ln]∧wt ln.2=t.data.toList∧R ln.2 0=(some s,ln.2.length)
open Classical in
noncomputable def xw(R:yct)(s:dj):ByteArray×Bool:=if Jg R (k_ s) s then (k_ s,true) else (fd,false)
theorem zv1{R:yct}{s:dj}(h:Jg R (k_ s) s):xw R s=(k_ s,true):=by unfold xw;rw[if_pos h]
theorem specR_no{R:yct}{s:dj}(h:¬Jg R (k_ s) s):xw R s=(fd,false):=by unfold xw;rw[if_neg h]
structure Sp(s:dj)(l:List Tp):Prop where
 sp:s.2.1=tB l
 l1:l.length≤1000
 nm:s.1.size≤9000
 sl:s.2.2.length≤1000
 sz:∀x∈s.2.2,x.1.size≤9000∧x.2.size≤9000
theorem iU(a b:ByteArray):(a++b).size=a.size+b.size:=by rw[←em.len,fz,bM,em.len,em.len]
theorem Sp.first{s:dj}{l:List Tp}(h:Sp s l):(dK s).size≤20009001:=by
 have h1:=zt6 l h.l1;have a:=h.nm;unfold dK;rw[h.sp];split
 ·omega
 rw[iU,iU];have:(⟨#[64]⟩:ByteArray).size=1:=rfl;omega
theorem Sp.words{s:dj}{l:List Tp}(h:Sp s l):(∀x∈cI s,x.size≤20009001)∧(cI s).length≤1001∧cI s≠[]:=by
 have b:∀x∈(if dK s=fd then [] else [dK s])++s.2.2.map j0,x.size≤20009001:=fun x hx=>by
  rcases ff.1 hx with hx|hx
  ·split at hx
   ·simp at hx
   rw[gd]at hx;rw[hx];exact h.first
  obtain⟨y,c,rfl⟩:=gb.1 hx;have:=h.sz y c;unfold j0;rw[iU,iU];have e:(⟨#[61]⟩:ByteArray).size=1:=rfl;omega
 have d:((if dK s=fd then [] else [dK s])++s.2.2.map j0).length≤1001:=by have:=h.sl;rw[bM,gi];split<;>simp<;>omega
 unfold cI;by_cases a:(if dK s=fd then [] else [dK s])++s.2.2.map j0=[]
 ·rw[M a];exact⟨fun x hx=>avq,ae,ae⟩
 rw[E a];exact⟨b,d,a⟩
theorem Sp.text{s:dj}{l:List Tp}(h:Sp s l):(k_ s).size≤30000000000:=by
 obtain⟨h1,h2,_⟩:=h.words;rw[Jt,←em.len,uf];have b:∀x∈(cI s).map (·.data.toList),x.length≤20009001:=by intro x hx;obtain⟨y,hy,rfl⟩:=gb.1 hx;rw[em.len];exact h1 y hy
 have c:=NN 20009001 _ b;have d:((cI s).map (·.data.toList)).length≤1001:=SN;obtain⟨L,e⟩:=Y ((cI s).map (·.data.toList));rw[←e]at c d⊢;exact Wk
open ac (jT)
theorem wt_small{a:Ln}(h:jT 70000 a):(wt a.2).length≤3000000:=by
 have c:∀(ws:List Wd),(∀x∈ws,x.2.length≤70000)→(wt ws).length≤70001*ws.length:=by
  intro ws
  have d:∀(r:List Wd),(∀x∈r,x.2.length≤70000)→(r.flatMap fun y=>(32:UInt8)::y.2).length≤70001*r.length:=by
   intro r
   induction r with
   |nil=>intro _;simp
   |cons y r e=>intro h;have h1:=e (fun x hx=>h x Oc);have b:=h y ae;rw[oR,bM,fO,fO];omega
  cases ws with
  |nil=>intro _;simp[wt]
  |cons x r=>
   intro h;have h1:=d r (fun y hy=>h y vy);have b:=h x ae;show (x.2++r.flatMap fun y=>(32:UInt8)::y.2).length≤_;rw[bM,fO];omega
 have h1:=c a.2 (fun x hx=>(h.2.2.2 x hx).2.2.2);have b:=h.2.2.1;omega
theorem zty(a:Ln):ltx [a]=wt a.2++[10]:=by simp[ltx]
theorem ltx_eq(a:Ln)(t:ByteArray):((⟨(ltx [a]).toArray⟩:ByteArray).toList==(t++⟨#[10]⟩:ByteArray).toList)=decide (wt a.2=t.data.toList):=by
 rw[em.gu];refine rz.2 ⟨fun h=>?_,fun h=>?_⟩
 ·have h1:=iB (fun x:ByteArray=>x.data.toList) h;simp only[fz]at h1;rw[zty]at h1;exact Qb h1 rfl
 apply em.ext
 rw[fz,←h];exact zty a
end
section
open Shelf RowKit Lib av cy
open ac (Wd Ln jT)
attribute [local go_sem ↓] wp_at_zero wp_at_succ
theorem zmw{ws:List Wd}(a:n=ws.length)(h0:0<n):∃x,ws[n-1]?=some x∧ws.getLast?=some x:=by
 subst a;have h:ws.length-1<ws.length:=Z;exact⟨ws[ws.length-1],bR h,by rw[List.getLast?_eq_getElem?,bR h]⟩
theorem lns_at{d:List Ln}(h:RLns w [.slice a n c] d):n=d.length∧n≤9223372036854775807∧∀i x,d[i]?=some x→∃b off a2 n2 c2,a=some ⟨b,off,none⟩∧w.cell? ⟨b,off+i*2,none⟩=some (.int .i64 x.1)∧w.cell? ⟨b,off+i*2+1,none⟩=some (.slice a2 n2 c2)∧j7 w [.slice a2 n2 c2] x.2:=by
 obtain⟨_,cap,e,_,f,g⟩:=h;simp only[nj,lv,rL]at e;obtain⟨rfl,hn,_⟩:=e;unfold maxLen at f;refine⟨hn,Z,fun i x hi=>?_⟩;obtain⟨b,off,hH,h1,h2,h3,v,h4,h5,_⟩:=g i x hi;obtain⟨a2,c2,rfl⟩:=zus h5;subst h4;exact⟨b,off,a2,_,c2,h1,CY,Fu,h5⟩
theorem zlu{P:Program}{c:Func}{p q u:Tmp}{ty tz t1 t2:TypeId}(h:c.results=#[.cell p ty,.cell q tz,.tmp u]){tmps:Array Value}{w:World}{g k:Nat}{cs ds:Array Value}{d1 d2:TypeDesc}{x:Value}
  (hp:tmps.getD p undef=.pointer (some ⟨g,0,none⟩)) (hq:tmps.getD q undef=.pointer (some ⟨k,0,none⟩)) (hx:tmps.getD u undef=x) (hg:w.heap[g]?=some (.cells cs t1 (0,0))) (hk:w.heap[k]?=some (.cells ds t2 (0,0)))
  (hu:P.underlying ty=some d1) (O:(match d1 with | .struct _ | .array _ _=>true|_=>false)=true) (hi:(P.info? ty).map (·.size)=some cs.size)
  (uI:P.underlying tz=some d2) (ak:(match d2 with | .struct _ | .array _ _=>true|_=>false)=true) (rP:(P.info? tz).map (·.size)=some ds.size) :
  (results c tmps).run P w=.ok (.tuple #[.agg cs,.agg ds,x]) w:=by
 refine aiu ?_;intro hl gG EM MZ;have d:tmps[u]?.getD undef=x:=Q_;simp only[results,h];simp[E8,Result.andThen,asAddr,EM,MZ,d,hl,gG]
abbrev WhBox(k:Nat)(x y:Int)(W:World):Prop:=W.heap[k]?=some (.cells #[.int .i64 x,.int .i64 y] 31 (0,0))
theorem zog{x y:Int}(h:WhBox k x y W):W.cell? ⟨k,0,none⟩=some (.int .i64 x)∧W.cell? ⟨k,1,none⟩=some (.int .i64 y)∧W.frozen? ⟨k,0,none⟩=false∧W.frozen? ⟨k,1,none⟩=false:=⟨J h 0,J h 1,aG h 0,aG h 1⟩
theorem zrh{w:World}{L:List h8}{X:List el}{l:List Tp}(h1:gy w [v1] L)(z:fm w [v2] X)(ag:Sp (nm,L,X) l)(bm:dN w):
  Calls prog 34 #[.agg #[.string nm,v1,v2],.func (.func 35) #[] #[]] w fun e w'=>e=.returned (.tuple #[.string (xw db (nm,L,X)).1,.bool (xw db (nm,L,X)).2])∧Below w.heap.size w w':=by
 have aO:L=tB l:=ag.sp;obtain⟨a1,c1,rfl,-,-⟩:=qA h1;obtain⟨a2,c2,rfl,-,-⟩:=sD z;obtain⟨n1,cz⟩:=Y L.length;obtain⟨n2,cS⟩:=Y X.length;rw[←cz]at h1⊢;rw[←cS]at z⊢;refine VN ?_;intro W1 aK g hg ai p0 x0 x1 x2 r1;have bn:=bz kR _ _ _ _ z ai;have aA:=zlh (nm:=nm) (l:=l) (by rw[←aO];exact r1) bn (bm.below ai) ag.l1 ag.sl ag.nm ag.sz;rw[←aO]at aA;obtain⟨TO,Lq,LA⟩:=ag.words;have aD:=ag.text;have aE:=Jt (nm,L,X);obtain⟨s,hs⟩:∃s:dj,s=(nm,L,X):=⟨_,rfl⟩;rw[←hs]at aA TO Lq LA aD aE;rw[←hs];unfold zr9 at aA;obtain⟨ws,dT⟩:=Y (cI s);rw[←dT]at aA TO Lq LA aE;obtain⟨t,ht⟩:=Y (k_ s);rw[←ht]at aD aE;have aC:=fun(W:World)=>znz t Z W;rw[ac.IH]at aC;have aP:=ac.aat t.data.toList;have aw:=zv1 (R:=db) (s:=s);have ax:=specR_no (R:=db) (s:=s);unfold Jg at aw ax;rw[←ht]at aw ax;obtain⟨R,hR⟩:=Y (ac.ej t.data.toList);rw[←hR]at aC aP aw ax;obtain⟨e1,he1⟩:=Y R.at1;obtain⟨e2,he2⟩:=Y R.at2;obtain⟨er,qj⟩:=Y R.e;obtain⟨ls,tP⟩:=Y R.lines;rw[←qj,←tP]at aw ax;rw[←tP]at aP;unfold Nw at aC;simp only[←he1,←he2,←qj,←tP]at aC;obtain⟨res,hres⟩:=Y (xw db s);rw[←hres]at aw ax⊢;clear he1 he2 qj tP hR;have b6:t.size≤30000000000:=aD;revert ag bm aO h1 cz z cS ai p0 r1 bn hs LA Lq TO aA dT aE aD ht aP aC ax aw hres;refine OU ?_;intro HS HD HLt H1 oY H2 fV aB dR kl ga Hs Hwn Hwl adj HW Ai Hte Htz Ht yv HL cd rW Ik;go_enter func34,ntmps34;go_upto_region 1 with (fail);refine iE ?_;clear aK hg;go_wp2_with fail;refine HW.o.mono ?_;rintro e w2 ⟨a,c,rfl,⟨te,-⟩,af⟩;obtain⟨aa,cap,hv,hz,aU⟩:=lK te;have bo:ws.length≤c:=by obtain⟨a',cap',hv',hc,_⟩:=te;simp only[nj,lv,rL]at hv';rw[hv'.2.2];exact hc
 obtain⟨rfl,-,rfl⟩:=JV hv;have bp:0<ws.length:=vk.2 Hwn.o;obtain⟨bk,o,rfl,K0,-⟩:=aU 0 bp
 have aQ:=Tryz.strings_Join bk o c ws ⟨#[32]⟩ w2 (fun j x S=>by
  obtain⟨bL,bN⟩:=ie.1 S;obtain⟨b',o',e',h',_⟩:=aU j bL;cases e';rw[←bN];exact h') (wH _ _ K0) (by have:=Hwl.o;omega) bo (by
  have:=Htz.o;rw[Hte.o,←em.len,uf]at this;exact fu this D)
 have br:(⟨(Lib.join (ws.map (·.data.toList)) (⟨#[32]⟩:ByteArray).data.toList).toArray⟩:ByteArray)=t:=by rw[Hte.o];rfl
 rw[br]at aQ;have bO:=aB.o.trans (af.mono aB.o.size);obtain⟨aF,bs⟩:=Y ws.length;rw[←bs]at aQ⊢;clear aU hv K0 hz;revert af bo bp te br bO aQ bs;refine fg ?_;intro bh Hca aBg Lr Hjt yC HJ AN;go_wp2_with fail;refine HJ.o.mono ?_;rintro e w3 ⟨rfl,aM⟩;have bt:=bh.o.trans (aM.mono bh.o.size);have bP:=aB.o.trans (bt.mono aB.o.size);have bQ:=HL.o w3;revert aM bt bP bQ;refine bV ?_;intro bK Ax P4 MH;go_wp2_with fail;refine MH.o.mono ?_;rintro e w4 ⟨v,rfl,dH,bA⟩;obtain⟨ad,cp,rfl,-,-,aU⟩:=zzi dH;clear aU;obtain⟨m,hm⟩:=Y ls.length;rw[←hm]at dH⊢;obtain⟨w5,eT⟩:=Y (w4.alloc (.cells #[.int .i64 e1,.int .i64 e2] 31));have ah:Below w4.heap.size w4 w5:=Mx;have aj:=bA.trans (ah.mono bA.size);have ay:=P4.o.trans (aj.mono P4.o.size);have ak:=zmg _ _ _ _ dH ah;by_cases he:er=0
 ·have bR:(er !=0)=false:=QT;by_cases h1:m=1
  ·subst h1;obtain⟨B,F⟩:∃x,ls=[x]:=XU.1 hm.symm;have hg:=yv.o.1 B (by rw[F];simp);have bu:=wt_small hg;have az:=text_any ak (by rw[F,zty,bM];simp;omega);rw[F]at az;obtain⟨lt,e8⟩:∃x:ByteArray,x=⟨(ltx [B]).toArray⟩:=⟨_,rfl⟩;rw[←e8]at az;have T:(lt.toList==(t++⟨#[10]⟩:ByteArray).toList)=decide (wt B.2=t.data.toList):=by rw[e8];exact ltx_eq B t
   obtain⟨eq,ar⟩:=Y (decide (wt B.2=t.data.toList));rw[←ar]at T;have aG:lt.size≤100000000:=by rw[e8];show (ltx [B]).length≤_;rw[zty,bM];simp;omega
   rw[F]at ak
   cases eq with
   |false=>
    have A:res=(fd,false):=cd.o (by rintro⟨-,aI,z,bS,-⟩;rw[F]at z;cases z;exact absurd bS (lC ar.symm));obtain⟨aR,aT,aV,aW,oL,aJ,aY,aZ,bT,Hg,aEw,a6,bU,bW,Hr,bX⟩:=ke dH bA ah aj ay ak he hm F hg bu az e8 ar A aG;clear dH bA ah aj ay ak he hm F hg bu az e8 ar A aG;go_upto_region 3 with (fail);rw[←eT];clear eT;go_wp2_with fail;refine a6.o.mono ?_;rintro e bY ⟨rfl,al⟩;have bw:=O al;clear al;go_wp2_with fail;go_ret2
    exact⟨G_,oL.o.trans (bw.o.mono oL.o.size)⟩
   |true=>
    have a7:wt B.2=t.data.toList:=ed ar.symm;have bx:=aj;have bZ:=he;have aL:=F;have b0:=a7;obtain⟨aR,aT,aV,aW,oL,aY,aZ,bU,bW,bX,bT,_⟩:=Bx dH bA ah aj ay he hm e8 ar aG F a7;clear dH bA ah aj ay he hm e8 ar aG F a7;go_upto_region 3 with (fail);rw[←eT];clear eT;have aJ:=aH ak;clear ak;have a6:=aH az;clear az;go_wp2_with fail;refine a6.o.mono ?_;rintro e bY ⟨rfl,al⟩;have a8:=oL.o.trans (al.mono oL.o.size);have ba:=zmg _ _ _ _ aJ.o al;have bB:=G (bx.trans (al.mono bx.size)) (G Ax.o dR.o);obtain⟨a',c',ha',-,-,aU⟩:=zzi ba;simp only[rD,rL]at ha';obtain⟨rfl,-,-⟩:=ha';obtain⟨bq,o,rfl,c0,v,c1,hwd⟩:=aU 0 ae;clear aU c0;rw[AQ,mL]at c1;rw[awm]at hwd;obtain⟨wa,wc,rfl⟩:=zus hwd;obtain⟨aF,Y3⟩:=Y B.2.length;rw[←Y3]at c1 hwd
    have aN:∀j,cO B.2 ((t.size:Int)+1) j≠0:=fun j=>by
     by_cases S:j<B.2.length
     ·rw[zue S];have:=(hg.2.2.2 _ (eZ S)).1;omega
     rw[zuf Z];omega
    have b7:aF≤40:=by have:=hg.2.2.1;omega
    have bb:=zrg (fin:=(t.size:Int)+1) hwd (HD.o.below a8) Z (fun x b3=>(hg.2.2.2 x b3).2.2.2) aN;obtain⟨fin,eH⟩:=Y ((t.size:Int)+1);rw[←eH]at bb aN;obtain⟨aEj,bw,B_,G4,wF,HO,Hg,aua,fM,nU⟩:=GD ba al a8 bB hwd bb hg Y3 aN eH;clear ba al a8 bB hwd bb hg Y3 aN eH;go_wp2_with fail;rw[←nU.o];refine HO.o.mono ?_;rintro e w7 ⟨⟨s2,j,b1,m1,d1,b2,m2,d2,hw,rfl,jo,hv2⟩|⟨j,hw,rfl⟩,lP⟩
    ·have K:=B_.o.trans (lP.mono B_.o.size);obtain⟨w8,ju⟩:=Y (w7.alloc (.cells #[.string s2.1,.slice b1 m1 d1,.slice b2 m2 d2] 55));have C:Below w7.heap.size w7 w8:=Yj;have U:=lP.trans (C.mono lP.size);have N:=B_.o.trans (U.mono B_.o.size);obtain⟨q,T⟩:=Y w7.heap.size;have au:dQ q (.string s2.1) (.slice b1 m1 d1) (.slice b2 m2 d2) w8:=by rw[ju,T];exact dq _ _
     have av:=G U G4.o;obtain⟨b4,_,_,-⟩:=cT au;clear x0 x1 x2;obtain⟨x0,x1,x2,-⟩:=cT av;have b8:=ab U c1;have an:=Vo (n:=s2.1) (m:=nm) (pG jo C).1 (LV hv2 C).1 (bz jm _ _ _ _ H1.o N) (bz kR _ _ _ _ H2.o N);obtain⟨s21,C7⟩:=Y s2.1;rw[←C7]at an b4 ju⊢;obtain⟨same,CD⟩:=Y (decide ((s21,s2.2.1,s2.2.2)=(nm,L,X)));rw[←CD]at an;have ao:same=true↔s2=s:=by rw[CD,fE,C7,Hs.o]
     by_cases S:j=aF
     ·subst S
      cases same with
      |true=>have bc:s2=s:=ao.1 rfl;have A:res=(t,true):=rW.o ⟨bZ,B,aL,b0,by rw[←aua.o,←bc];exact hw⟩;obtain⟨bd,bC,bD,be,bf,bg,bE,E1,Hq,bF,bG,Vq,bH,bI,bJ,_⟩:=ke hw jo hv2 lP K C U N T au av an C7 CD ao bc;have Hr:=O A;clear hw jo hv2 lP K C U N T au av an C7 CD ao bc A;exact agd
      |false=>
       have A:res=(fd,false):=cd.o (by
        rintro⟨-,aI,z,-,aq⟩;rw[aL]at z;cases z;rw[hw]at aq;have bj:s2=s:=by cases aq;rfl
        exact absurd (ao.2 bj) ae)
       obtain⟨bd,bC,bD,be,bf,bg,bE,E1,Hq,bF,bG,Vq,bH,bI,bJ,Hr⟩:=ke hw jo hv2 lP K C U N T au av an C7 CD ao A;clear hw jo hv2 lP K C U N T au av an C7 CD ao A;exact agd
     have b9:((j:Int) !=(aF:Int))=true:=aX
     have A:res=(fd,false):=cd.o (by
      rintro⟨-,aI,z,-,aq⟩;rw[aL]at z;cases z;rw[hw]at aq;have bj:j=B.2.length:=by cases aq;rfl
      exact S (bj.trans aua.o.symm))
     obtain⟨bd,bC,bD,be,bf,bg,bE,E1,Hq,bF,bG,Vq,bH,bI,bJ,_⟩:=ke hw jo hv2 lP K C U N T au av an C7 CD ao S;have Hr:=O A;clear hw jo hv2 lP K C U N T au av an C7 CD ao S A;go_upto_region 6 with (fail);rw[←ju,←Hq.o];clear ju;go_wp2_with fail;go_ret2
     exact⟨G_,E1.o⟩
    obtain⟨b5,bl⟩:=Y (cO B.2 fin j);have cb:(b5 !=0)=true:=by rw[bl];simpa using fM.o j
    rw[←bl];have A:res=(fd,false):=cd.o (by rintro⟨-,aI,z,-,aq⟩;rw[aL]at z;cases z;rw[hw]at aq;cases aq);have K:=B_.o.trans (lP.mono B_.o.size);obtain⟨w8,ju⟩:=Y (w7.alloc (.cells #[.string ⟨#[]⟩,.slice none 0 0,.slice none 0 0] 55));have C:Below w7.heap.size w7 w8:=Yj;have N:=K.trans (C.mono K.size);revert lP hw bl A K C N;refine eb ?_;intro be bd ZL Hr bf bg E1;go_upto_region 6 with (fail);rw[←ju];clear ju;go_wp2_with fail;go_ret2
    exact⟨G_,E1.o⟩
  have cc:((m:Int) !=1)=true:=aX;have A:res=(fd,false):=cd.o (by rintro⟨-,aI,z,-,-⟩;rw[z]at hm;exact h1 hm);revert bA dH hm ah aj ay ak he h1 A;refine dE ?_;intro aT aR aZ aV aW oL aJ aY H1 Hr;go_upto_region 3 with (fail);rw[←eT];clear eT;exact RR
 have bR:(er !=0)=true:=by simpa using he
 have A:res=(fd,false):=cd.o (fun h=>he h.1);revert bA dH hm ah aj ay ak he A;refine fK ?_;intro aT aR aZ aV aW oL aJ aY Hr;go_upto_region 3 with (fail);rw[←eT];clear eT;exact RR
theorem zth{L:List h8}{m:List el}{l:List Tp}(h1:gy w [v1] L)(p:fm w [v2] m)(s:Sp (nm,L,m) l)(t:dN w):
  Calls prog 15 #[.agg #[.string nm,v1,v2]] w fun e w'=>e=.returned (.tuple #[.string (xw db (nm,L,m)).1,.bool (xw db (nm,L,m)).2])∧Below w.heap.size w w':=by
 obtain⟨a1,c1,rfl⟩:=qz h1;obtain⟨a2,c2,rfl⟩:=CH p;obtain⟨W1,aK⟩:=Y (w.alloc (.cells #[.string nm,.slice a1 L.length c1,.slice a2 m.length c2] 55));refine lM ?_;intro g hg;have n:Below w.heap.size w W1:=yF;have q:dQ g (.string nm) (.slice a1 L.length c1) (.slice a2 m.length c2) W1:=IJ;have r:=zrh (bz jm _ _ _ _ h1 n) (bz kR _ _ _ _ p n) s (t.below n);obtain⟨n1,cz⟩:=Y L.length;obtain⟨n2,cS⟩:=Y m.length;rw[←cz,←cS]at r q aK⊢;obtain⟨res,hres⟩:=Y (xw db (nm,L,m));rw[←hres]at r⊢;obtain⟨x0,x1,x2,-⟩:=cT q;obtain⟨r1,r2⟩:=res;revert s t h1 p n cz q cS r hres;refine dE ?_;intro HS HD H1 H2 aB oY dR fV HP Ik;go_enter func15,ntmps15;go_upto_region 1 with (fail);refine iE ?_;clear aK hg;go_wp2_with fail;refine qJ ?_;refine KS ?_;intro w2 bh;go_wp2_with fail;go_ret2
 exact⟨rfl,aB.o.trans (bh.o.mono aB.o.size)⟩
end
section
open RowKit Shelf Lib av cy
attribute [local go_sem ↓] wp_at_zero wp_at_succ
theorem tline_any{bs:List UInt8}(h:BT.Bld B b bs w)(hl:Hj w [.slice a n c] l)(h0:l≠[])(T:bs.length+(e_ l).size+1≤70368744177664)(ao:l.length≤70368744177664)(U:B≤w.heap.size):
  Calls prog 17 #[.pointer (some ⟨b,0,none⟩),.slice a n c] w fun e w'=>e=.returned (.tuple #[])∧BT.Bld B b (bs++((e_ l).data.toList++[10])) w'∧Below B w w'∧BT.pi w w':=by
 obtain⟨_,cap,X,aq,L⟩:=lK hl;have aa:l.length≤c:=by obtain⟨a',cap',hv',hc,_⟩:=hl;simp only[nj,lv,rL]at hv';rw[hv'.2.2];exact hc
 obtain⟨rfl,rfl,rfl⟩:=JV X;have ad:0<l.length:=vk.2 h0;obtain⟨bk,o,rfl,K0,-⟩:=L 0 ad;have ae:∀(W:World),Below w.heap.size w W→∀(j:Nat) x,l[j]?=some x→W.cell? ⟨bk,o+j,none⟩=some (.string x):=fun W y j x hj=>by obtain⟨C,hjx⟩:=ie.1 hj;obtain⟨b',o',e',h',_⟩:=L j C;cases e';rw[←hjx];exact ab y h'
 have ag:bk<w.heap.size:=wH _ _ K0;obtain⟨t,z⟩:=Y (e_ l);have C:(Lib.join (l.map (·.data.toList)) (⟨#[32]⟩:ByteArray).data.toList).length=t.size:=by rw[z,←em.len,uf]
 rw[←z]at T;have N:=fun(W:World)(y:Below w.heap.size w W)=>Tryz.strings_Join bk o c l ⟨#[32]⟩ W (ae W y) (jq ag y.size) Z aa (by rw[C];omega);have ah:(⟨(Lib.join (l.map (·.data.toList)) (⟨#[32]⟩:ByteArray).data.toList).toArray⟩:ByteArray)=t:=by rw[z];rfl
 rw[ah]at N;have ai:(t++⟨#[10]⟩:ByteArray).size=t.size+1:=by rw[iU];rfl
 obtain⟨u,R⟩:=Y (t++(⟨#[10]⟩:ByteArray));have aj:(e_ l).data.toList++[10]=u.data.toList:=by rw[←z,R,fz]
 rw[aj];rw[←R]at ai;have ar:=fun(W:World)(y:Below w.heap.size w W)=>BT.A1 (BT.pu h y) u Z (fu U y.size);obtain⟨n,hn⟩:=Y l.length;rw[←hn]at N⊢;have aw:t.size≤70368744177664:=Z;clear L X K0 aq;revert h h0 ao U aa ad hl ae ag T z C ah ai R aj ar N hn;refine zO ?_;intro Hh H0 iH mH Hca aBg Hl Az qq im Ht Hjl Hjt Hts Hu nU HW HJ Hn;go_enter func17,ntmps17;go_upto_region 0 with (fail);refine I7 (n:=7) (S:=fun _=>True) aA rfl trivial (fun ops hops=>?_);have ax:True:=trivial;have F:Below w.heap.size w w.drew:=dA (aL _ _);generalize w.drew=ay at F⊢;have al:=HJ.o _ F;obtain⟨cr,HJ0⟩:=ak F al;clear F al;refine pr hops 0 ?_;refine pr hops 1 ?_;refine pr hops 2 ?_;refine pr hops 3 ?_;refine oz hops 4 fun K hK=>?_;go_simp;refine HJ0.o.mono ?_;rintro e w1 ⟨rfl,A⟩;have A:=cr.o.trans (A.mono cr.o.size);have an:=HW.o _ A;obtain⟨aB,C0⟩:=ak A an;clear A an;refine cK ?_;refine hK.out _ _ trivial (fun hHeld=>?_);clear hHeld hK K;refine iN ?_;have az:¬9223372036854775807<t.size+1:=Z;refine pr hops 5 ?_;refine oz hops 6 fun K hK=>?_;rw[←Hu.o];go_simp;refine C0.o.mono ?_;rintro e w2 ⟨rfl,GO,af,eE⟩;have au:=(aB.o.mono mH.o).trans af;have av:=(BT.py aB.o).trans eE;revert GO af eE au av;refine bU ?_;intro vY bh CE HbB UX;refine cK ?_;refine hK.out _ _ trivial (fun hHeld=>?_);clear hHeld hK K;refine iN ?_;refine Pr hops aA ?_;go_simp;refine vJ ?_;exact⟨rfl,vY.o,HbB.o,UX.o⟩
end
section
open ac (Bs Wd Ln St run takes ends breaks ay ey)
def Dz(x:ByteArray):Prop:=x.data.toList≠[]∧∀c∈x.data.toList,ac.part c=true
structure Bt(s:St)(n:Int)(W:List ByteArray)(out:List Ln):Prop where
 gc:s.gc=0
 word:s.word=[]
 off:s.off=false
 mp:0≤s.mp
 words:s.words.map NE=W
 out:s.out=out
 line:s.line=n
structure Wi(s:St)(n:Int)(W:List ByteArray)(out:List Ln):Prop where
 gc:0<s.gc
 off:s.off=false
 mp:0≤s.mp
 words:s.words.map NE++[⟨s.word.toArray⟩]=W
 out:s.out=out
 line:s.line=n
theorem takes_in{s:St}{c:UInt8}(h:ac.part c=true)(a:s.off=false)(b:0<s.gc):takes s c=({ ay s with word:=s.word++[c] },0):=by
 have h:=(ac.J1 c).1 h;unfold takes;rw[E Z,E Z,E (by rw[a];simp),E Z,E Z,M b]
theorem rZi:∀(w:Bs)(s:St),(∀c∈w,ac.part c=true)→s.off=false→0<s.gc→run s w=({ s with mp:=s.mp+w.length,word:=s.word++w },0)
 |[],s,_,_,_=>by cases s;simp[run]
 |c::w,s,h,b,f=>by
  have e:=takes_in (h c ae) b f;have g:(takes s c).2=0:=by rw[e]
  have e2:(takes s c).1={ ay s with word:=s.word++[c] }:=by rw[e]
  have i:=rZi w { ay s with word:=s.word++[c] } (fun d O=>h d (by simp[O])) b f;rw[ac.ny g,e2,i];simp[ay];omega
def Fit(W:List ByteArray)(out:List Ln):Prop:=W.length<40∧(0<W.length∨out.length<2000)
theorem yav{s:St}{n:Int}{W:List ByteArray}{out:List Ln}{w:ByteArray}(h:Bt s n W out)(m:Dz w):
  (Fit W out→(run s w.data.toList).2=0)∧((run s w.data.toList).2=0→Wi (run s w.data.toList).1 n (W++[w]) out):=by
 obtain⟨i,f⟩:=m;have j:w=⟨w.data.toList.toArray⟩:=em.ext rfl;obtain⟨l,hl⟩:=Y w.data.toList;rw[←hl]at i f j⊢
 cases l with
 |nil=>exact absurd rfl i
 |cons c r=>
  have q:=(ac.J1 c).1 (f c ae)
  have o:ey s=true↔Fit W out:=by
   unfold ey Fit;have:s.words.length=W.length:=by rw[←h.words,gi]
   rw[this,h.out];simp
  have e:takes s c=if ey s=true then ({ ay s with gc:=s.mp+1,word:=s.word++[c] },0) else ({ ay s with gc:=s.mp+1 },4):=by unfold takes;rw[E Z,E Z,E (by rw[h.off];simp),E Z,E Z,E (by rw[h.gc];omega)]
  by_cases g:ey s=true
  ·rw[M g]at e;have t:=h.mp;have e2:=rZi r ({ ay s with gc:=s.mp+1,word:=s.word++[c] }) (fun d O=>f d (by simp[O])) h.off (by show 0<s.mp+1;omega);have b:(takes s c).2=0:=by rw[e]
   have p:(takes s c).1={ ay s with gc:=s.mp+1,word:=s.word++[c] }:=by rw[e]
   rw[ac.ny b,p,e2];refine⟨fun _=>rfl,fun _=>⟨?_,h.off,?_,?_,h.out,h.line⟩⟩
   ·show 0<s.mp+1;omega
   ·show 0≤(s.mp+1)+(r.length:Int);omega
   show s.words.map NE++[⟨(s.word++[c]++r).toArray⟩]=_
   rw[h.words,h.word,j];rfl
  rw[E g]at e;have b:(takes s c).2=4:=by rw[e]
  rw[ac.ts (by rw[b];decide)];exact⟨fun k=>absurd (o.2 k) g,fun k=>by rw[b]at k;cases k⟩
theorem zpi{s:St}(a:s.off=false):takes s 32=(ends (ay s),0):=by
 unfold takes;rw[E D,E D,E (by rw[a];simp),E D,M D]
theorem Bt.blank{s:St}{n:Int}{W:List ByteArray}{out:List Ln}(h:Bt s n W out):takes s 32=(ends (ay s),0)∧Bt (ends (ay s)) n W out:=by
 have a:=h.mp;refine⟨zpi h.off,rfl,rfl,h.off,by show 0≤s.mp+1;omega,?_,h.out,h.line⟩;show (if 0<s.gc then _ else _:List Wd).map NE=W;rw[E (by rw[h.gc];omega)];exact h.words
theorem Wi.abl{s:St}{n:Int}{W:List ByteArray}{out:List Ln}(h:Wi s n W out):(ends (ay s)).words.map NE=W:=by
 show (if 0<s.gc then s.words++[(s.gc,s.word)] else _:List Wd).map NE=W
 rw[M h.gc,oP,←h.words];rfl
theorem Wi.blank{s:St}{n:Int}{W:List ByteArray}{out:List Ln}(h:Wi s n W out):takes s 32=(ends (ay s),0)∧Bt (ends (ay s)) n W out:=by
 have a:=h.mp;exact⟨zpi h.off,rfl,rfl,h.off,by show 0≤s.mp+1;omega,h.abl,h.out,h.line⟩
theorem yaj(s:St):takes s 10=(breaks (ay s),0):=by
 unfold takes;rw[M D]
theorem Wi.nl{s:St}{n:Int}{W:List ByteArray}{out:List Ln}(h:Wi s n W out)(s':St)(a:s'=s∨s'=ay s):∃us,us.map NE=W∧Bt (breaks s') (n+1) [] (out++[(n,us)]):=by
 have b:(ends s').words.map NE=W:=by have:=h.abl;rcases a with rfl|rfl<;>exact this
 have d:(ends s').words≠[]:=by intro e;rw[e,←h.words]at b;simp at b
 refine⟨(ends s').words,b,?_⟩;have f:s'.out=out:=by rcases a with rfl|rfl<;>exact h.out
 have c:s'.line=n:=by rcases a with rfl|rfl<;>exact h.line
 refine⟨rfl,rfl,rfl,Gb _,rfl,?_,by show s'.line+1=_;rw[c]⟩;show (if (ends s').words=[] then s'.out else s'.out++[(s'.line,(ends s').words)])=_;rw[E d,f,c]
theorem ybp(x y:Bs)(r:List Bs):Lib.join (x::y::r) [32]=x++32::Lib.join (y::r) [32]:=by
 rw[zD,zD];simp[Lib.joinTail]
theorem yaw:∀(ws:List ByteArray)(s:St)(n:Int)(W:List ByteArray)(out:List Ln),Bt s n W out→ws≠[]→(∀w∈ws,Dz w)→
  (W.length+ws.length≤40→out.length<2000→(run s (e_ ws).data.toList).2=0)∧((run s (e_ ws).data.toList).2=0→Wi (run s (e_ ws).data.toList).1 n (W++ws) out)
 |[],_,_,_,_,_,h,_=>absurd rfl h
 |[x],s,n,W,out,h,_,b=>by rw[FP];obtain⟨h1,c⟩:=yav h (b x ae);exact⟨fun d f=>h1 ⟨by simp at d;omega,.inr f⟩,c⟩
 |x::y::r,s,n,W,out,h,_,b=>by
  have e:(e_ (x::y::r)).data.toList=x.data.toList++([32]++(e_ (y::r)).data.toList):=by rw[uf,uf,eU,eU,ybp];rfl
  obtain⟨h1,c⟩:=yav h (b x ae);rw[e,ac.o7];by_cases a:(run s x.data.toList).2=0
  ·rw[M a];obtain⟨j,b2⟩:=(c a).blank;have e2:∀t,run (run s x.data.toList).1 ([32]++t)=run (ends (ay (run s x.data.toList).1)) t:=fun t=>by rw[On,ac.ny (by rw[j]),j]
   rw[e2];obtain⟨d,f⟩:=yaw (y::r) _ n _ out b2 ae (fun w hw=>b w (by simp at hw⊢;exact .inr hw));refine⟨fun g i=>d (by simp at g⊢;omega) i,fun q=>?_⟩;have:=f q;rw[gq]at this;exact this
  rw[E a];exact⟨fun g i=>absurd (h1 ⟨by simp at g;omega,.inr i⟩) a,fun q=>absurd q a⟩
def lnT(x:Bool×List ByteArray):Bs:=(if x.1=true then [32,32] else [])++((e_ x.2).data.toList++[10])
def nw(L:List (Bool×List ByteArray)):Bs:=L.flatMap lnT
theorem run_lead{s:St}{n:Int}{W:List ByteArray}{out:List Ln}(h:Bt s n W out)(p:Bool)(t:Bs):∃s',Bt s' n W out∧run s ((if p=true then [32,32] else [])++t)=run s' t:=by
 cases p with
 |false=>exact⟨s,h,rfl⟩
 |true=>
  obtain⟨a1,a2⟩:=h.blank;obtain⟨b1,b2⟩:=a2.blank;refine⟨_,b2,?_⟩;show run s (32::32::t)=_;rw[ac.ny (by rw[a1]),a1,ac.ny (by rw[b1]),b1]
theorem run_line{s:St}{n:Int}{out:List Ln}(h:Bt s n [] out)(x:Bool×List ByteArray)(e:x.2≠[])(f:∀w∈x.2,Dz w):
  (x.2.length≤40→out.length<2000→(run s (lnT x)).2=0)∧((run s (lnT x)).2=0→∃b,b.map NE=x.2∧Bt (run s (lnT x)).1 (n+1) [] (out++[(n,b)])):=by
 unfold lnT;obtain⟨c,h1,g⟩:=run_lead h x.1 ((e_ x.2).data.toList++[10]);rw[g,ac.o7];obtain⟨k1,k2⟩:=yaw x.2 c n [] out h1 e f;by_cases a:(run c (e_ x.2).data.toList).2=0
 ·rw[M a];obtain⟨b,d,i⟩:=(k2 a).nl _ (.inr rfl);rw[ig]at d;have e2:run (run c (e_ x.2).data.toList).1 [10]=(breaks (ay (run c (e_ x.2).data.toList).1),0):=by rw[ac.ny (by rw[yaj]),yaj];rfl
  rw[e2];exact⟨fun _ _=>rfl,fun _=>⟨b,d,i⟩⟩
 rw[E a];exact⟨fun j k=>absurd (k1 (by simpa using j) k) a,fun q=>absurd q a⟩
def OkT(L:List (Bool×List ByteArray)):Prop:=∀x∈L,x.2≠[]∧∀w∈x.2,Dz w
theorem run_txt:∀(L:List (Bool×List ByteArray)) (s:St) (n:Int) (out:List Ln),Bt s n [] out→OkT L→
  ((∀x∈L,x.2.length≤40)→out.length+L.length≤2000→(run s (nw L)).2=0)∧((run s (nw L)).2=0→∃m bE,bE.map (fun l:Ln=>l.2.map NE)=L.map (·.2)∧Bt (run s (nw L)).1 m [] (out++bE))
 |[],s,n,out,h,_=>⟨fun _ _=>rfl,fun _=>⟨n,[],rfl,by rw[h_];exact h⟩⟩
 |x::L,s,n,out,h,d=>by
  obtain⟨f,g⟩:=d x ae;obtain⟨h1,h2⟩:=run_line h x f g;have e:nw (x::L)=lnT x++nw L:=rfl;rw[e,ac.o7];by_cases a:(run s (lnT x)).2=0
  ·rw[M a];obtain⟨i,j,k⟩:=h2 a;obtain⟨k1,k2⟩:=run_txt L _ _ _ k (fun y hy=>d y vy);refine⟨fun b c=>k1 (fun y hy=>b y vy) (by simp at c⊢;omega),fun q=>?_⟩;obtain⟨m,bE,e1,e2⟩:=k2 q;refine⟨m,(n,i)::bE,by rw[eU,eU,e1];exact iB (· :: _) j,?_⟩;rw[gq,On]at e2;exact e2
  rw[E a];exact⟨fun b c=>absurd (h1 (b x ae) (by simp at c;omega)) a,fun q=>absurd q a⟩
theorem bt0:Bt ac.st0 1 [] []:=⟨rfl,rfl,rfl,Gb _,rfl,rfl,rfl⟩
theorem Bt.close{s:St}{n:Int}{out:List Ln}(h:Bt s n [] out):(breaks s).out=out:=by
 show (if (ends s).words=[] then s.out else _)=_
 have:(ends s).words=[]:=by
  show (if 0<s.gc then _ else s.words:List Wd)=[]
  rw[E (by rw[h.gc];omega)];exact Su.1 h.words
 rw[M this,h.out]
theorem doc_txt{L:List (Bool×List ByteArray)}(c:OkT L):((∀x∈L,x.2.length≤40)→L.length≤2000→(nw L).length≤65536→(ac.ej (nw L)).e=0)∧
  ((ac.ej (nw L)).e=0→(ac.ej (nw L)).lines.map (fun l:Ln=>l.2.map NE)=L.map (·.2)):=by
 rw[←ac.IH];unfold ac.lines;obtain⟨h1,d⟩:=run_txt L ac.st0 1 [] bt0 c;by_cases b:65536<(nw L).length
 ·rw[M b];exact⟨fun _ _ k=>absurd b Z,fun k=>by cases k⟩
 rw[E b];unfold ac.close;by_cases a:(run ac.st0 (nw L)).2=0
 ·rw[M a];obtain⟨m,bE,f,e2⟩:=d a;rw[ig]at e2;refine⟨fun _ _ _=>rfl,fun _=>?_⟩;show (breaks _).out.map _=_;rw[e2.close];exact f
 rw[E a];exact⟨fun g i _=>absurd (h1 g (by simpa using i)) a,fun q=>absurd q a⟩
def dp(ws:List ByteArray):Nat:=(ws.map fun x=>x.size+1).sum
def gQ(ls:List (List ByteArray)):Nat:=(ls.map dp).sum
theorem zqz(a b:List ByteArray):dp (a++b)=dp a+dp b:=by unfold dp;rw[List.map_append,List.sum_append_nat]
theorem costL_app(a b:List (List ByteArray)):gQ (a++b)=gQ a+gQ b:=by unfold gQ;rw[List.map_append,List.sum_append_nat]
def iZ(l:Ln):List ByteArray:=l.2.map NE
structure Wb(s:St)(k:Nat):Prop where
 word:∀c∈s.word,ac.part c=true
 ne:0<s.gc→s.word≠[]
 words:∀x∈s.words,Dz (NE x)
 out:∀l∈s.out,∀x∈l.2,Dz (NE x)
 cost:gQ (s.out.map iZ)+dp (s.words.map NE)+s.word.length≤k
 had:s.words≠[]∨0<s.gc→s.out.length<2000
 most:s.out.length≤2000
 mp:0≤s.mp
 no:¬0<s.gc→s.word=[]
theorem Wb.on{s:St}(h:Wb s k):Wb (ay s) k:=⟨h.word,h.ne,h.words,h.out,h.cost,h.had,h.most,by show 0≤s.mp+1;have:=h.mp;omega,h.no⟩
theorem Wb.ends{s:St}(h:Wb s k):Wb (ends s) (k+1):=by
 have d:=h.cost;refine⟨fun c d=>by simp[ac.ends]at d,fun k=>by simp[ac.ends]at k,?_,h.out,?_,?_,h.most,h.mp,fun _=>rfl⟩
 ·intro x a;have a:x∈(if 0<s.gc then s.words++[(s.gc,s.word)] else s.words):=a;split at a
  ·rename_i hf
   rcases ff.1 a with a|a
   ·exact h.words x a
   rw[gd]at a;rw[a];exact⟨h.ne hf,h.word⟩
  exact h.words x a
 ·show gQ (s.out.map iZ)+dp ((if 0<s.gc then s.words++[(s.gc,s.word)] else s.words).map NE)+0≤k+1
  split
  ·rw[oP,zqz]
   have e:dp ([(s.gc,s.word)].map NE)=s.word.length+1:=by
    show (⟨s.word.toArray⟩:ByteArray).size+1+0=_
    rfl
   omega
  omega
 intro b;apply h.had;rcases b with b|b
 ·have b:(if 0<s.gc then s.words++[(s.gc,s.word)] else s.words)≠[]:=b;split at b
  ·rename_i hf;exact .inr hf
  exact .inl b
 exact absurd b SO
theorem Wb.breaks{s:St}(h:Wb s k):Wb (breaks s) (k+1):=by
 have f:=h.ends;have d:=f.cost;have g:(ac.ends s).word=[]:=rfl;rw[g]at d;refine⟨fun c d=>absurd d (by show ¬c∈[];simp),fun k=>absurd k SO,fun x b=>absurd b (by show ¬x∈[];simp),?_,?_,fun k=>?_,?_,Gb _,fun _=>rfl⟩
 ·intro l a x b;have a:l∈(if (ac.ends s).words=[] then s.out else s.out++[(s.line,(ac.ends s).words)]):=a;split at a
  ·exact h.out l a x b
  rcases ff.1 a with a|a
  ·exact h.out l a x b
  rw[gd]at a;subst a;exact f.words x b
 ·show gQ ((if (ac.ends s).words=[] then s.out else s.out++[(s.line,(ac.ends s).words)]).map iZ)+0+0≤k+1
  split
  ·have:gQ (s.out.map iZ)≤gQ ((ac.ends s).out.map iZ):=aE _;omega
  rw[oP,costL_app]
  have e:gQ ([(s.line,(ac.ends s).words)].map iZ)=dp ((ac.ends s).words.map NE):=by
   show dp ((ac.ends s).words.map NE)+0=_
   omega
  have:gQ (s.out.map iZ)=gQ ((ac.ends s).out.map iZ):=rfl;simp at d;omega
 ·rcases k with k|k
  ·exact absurd rfl k
  exact absurd k SO
 show (if (ac.ends s).words=[] then s.out else s.out++[(s.line,(ac.ends s).words)]).length≤2000
 split
 ·exact h.most
 rename_i hn
 have:=f.had (.inl hn);have e:(ac.ends s).out=s.out:=rfl;rw[e]at this;simp;omega
theorem Wb.mono{s:St}(h:Wb s k)(_:k≤m):Wb s m:=⟨h.word,h.ne,h.words,h.out,by have:=h.cost;omega,h.had,h.most,h.mp,h.no⟩
theorem Wb.takes{s:St}{c:UInt8}(h:Wb s k)(h0:(takes s c).2=0):Wb (takes s c).1 (k+1):=by
 unfold ac.takes at h0⊢;split
 ·exact h.on.breaks
 rename_i h1
 rw[E h1]at h0;split
 ·rename_i h2
  rw[M h2]at h0;cases h0
 rename_i h2
 rw[E h2]at h0;split
 ·exact h.on.mono Z
 rename_i h3
 rw[E h3]at h0;split
 ·have:=h.on.ends;exact⟨this.word,this.ne,this.words,this.out,this.cost,this.had,this.most,this.mp,this.no⟩
 rename_i h4
 rw[E h4]at h0;split
 ·exact h.on.ends
 rename_i h5
 rw[E h5]at h0;have i:ac.part c=true:=(ac.J1 c).2 Z
 have e:∀d∈s.word++[c],ac.part d=true:=fun d O=>by
  rcases ff.1 O with O|O
  ·exact h.word d O
  rw[gd]at O;rw[O];exact i
 have f:gQ (s.out.map iZ)+dp (s.words.map NE)+(s.word++[c]).length≤k+1:=by have:=h.cost;simp;omega
 have g:0≤s.mp+1:=by have:=h.mp;omega
 split
 ·rename_i h6
  exact⟨e,fun _=>by show s.word++[c]≠[];simp,h.words,h.out,f,fun _=>h.had (.inr h6),h.most,g,fun k=>absurd h6 k⟩
 rename_i h6
 rw[E h6]at h0;split
 ·rename_i h7
  refine⟨e,fun _=>by show s.word++[c]≠[];simp,h.words,h.out,f,fun _=>?_,h.most,g,fun k=>absurd (by show 0<s.mp+1;have:=h.mp;omega) k⟩;unfold ey at h7;simp only[fI,n_,fE]at h7;rcases h7.2 with b|b
  ·exact h.had (.inl (List.ne_nil_of_length_pos b))
  exact b
 rename_i h7
 rw[E h7]at h0;cases h0
theorem run_wb:∀(t:Bs)(s:St)(k:Nat),Wb s k→(run s t).2=0→Wb (run s t).1 (k+t.length)
 |[],s,k,h,_=>h
 |c::t,s,k,h,h0=>by
  by_cases a:(takes s c).2=0
  ·rw[ac.ny a]at h0⊢;have:=run_wb t _ (k+1) (h.takes a) h0;exact this.mono aX
  rw[ac.ts a]at h0;exact absurd h0 a
theorem zwq(t:Bs):(∀l∈(ac.ej t).lines,∀w∈iZ l,Dz w)∧gQ ((ac.ej t).lines.map iZ)≤t.length+1∧(ac.ej t).lines.length≤2000:=by
 have d:(∀l∈([]:List Ln),∀w∈iZ l,Dz w)∧gQ (([]:List Ln).map iZ)≤t.length+1∧([]:List Ln).length≤2000:=⟨fun l hl=>Vb,by simp[gQ],ae⟩;rw[←ac.IH];unfold ac.lines;split
 ·exact d
 unfold ac.close;split
 ·rename_i h0
  have a:=run_wb t ac.st0 0 ⟨fun c e=>by simp[ac.st0]at e,fun k=>absurd k SO,fun x b=>by simp[ac.st0]at b,fun x b=>by simp[ac.st0]at b,aE _,fun _=>J8,J8,Gb _,fun _=>rfl⟩ h0;have a:=a.breaks;refine⟨fun l hl w hw=>?_,?_,a.most⟩
  ·obtain⟨x,b,rfl⟩:=gb.1 hw;exact a.out l hl x b
  have:=a.cost;show gQ ((ac.breaks (run ac.st0 t).1).out.map iZ)≤_;omega
 exact d
theorem zw6:∀ws:List ByteArray,Lib.lens (ws.map (·.data.toList))+ws.length=dp ws
 |[]=> rfl
 |x::r=>by have:=zw6 r;have e:x.data.toList.length=x.size:=em.len x;simp only[Lib.lens,dp,eU,List.sum_cons,fO]at this⊢;omega
theorem zqh{ws:List ByteArray}(h:ws≠[]):(e_ ws).data.toList.length+1=dp ws:=by
 cases ws with
 |nil=>exact absurd rfl h
 |cons x r=>have:=zw6 (x::r);rw[uf,eU,VF];simp only[fO,gi,tO,eU]at this⊢;omega
end
section
open Lib av cy
open ac (Wd Ln)
abbrev K5:=Bool×List ByteArray
def xd(q:K1):List ByteArray:=nZ::q.1::(if q.2=true then [D1] else [])
def qC(q:qF):List ByteArray:=n8::q.1::q.2
noncomputable def mf(star:dj→Bool)(d:ky):List ByteArray:=lF::(cI d.1++if star d.2.1=true then [] else oZ::cI d.2.1)
open Classical in
noncomputable def kC(d:ky):List ByteArray:=kv::(cI d.1++if d.2.1.1=fd then [] else rI::cI d.2.1)
def om(q:ut):List ByteArray:=lI::q.1::q.2.1
noncomputable def ip(star:dj→Bool)(p:ap):List K5 :=
 (false,[iK,p.name])::(p.rel.map (fun q=>(true,xd q))++(p.vars.map (fun q=>(true,qC q))++(p.cl.map (fun q=>(true,[kX,q]))++(p.gr.map (fun q=>(true,mf star q))++(p.ci.map (fun q=>(true,kC q))++p.files.map (fun q=>(true,[kY,q])))))))
noncomputable def gz(star:dj→Bool)(x:ch):List K5:=x.pk.flatMap (ip star)++x.pf.map fun q=>(false,om q)
def oo(star:dj→Bool):Prop:=∀s:dj,s.1=fd→(star s=true↔cI s=[ef])
def Dv(s:dj):Prop:=fW s.1.data.toList=true∧∀r',Stop r'→xv (cI s++r')=some (s,r')
def zg(s:dj):Prop:=s.1=fd∧∀r',Stop r'→vG (cI s++r')=some (s,r')
structure WfP(p:ap):Prop where
 name:eL p.name=true
 rel:∀q∈p.rel,tS q.1=true
 vars:∀q∈p.vars,eL q.1=true∧eQ qp q.2=some q.2
 cl:∀q∈p.cl,eL q=true
 gr:∀q∈p.gr,Dv q.1∧zg q.2.1
 ci:∀q∈p.ci,zg q.1∧(q.2.1=vD∨Dv q.2.1)
 files:∀q∈p.files,uk q=true
structure WfR(x:ch):Prop where
 pk:∀p∈x.pk,WfP p
 pf:∀q∈x.pf,eL q.1=true∧eQ eL q.2.1=some q.2.1
theorem zt3:cI um=[ef]:=by
 have a:dK um=fd:=by unfold dK um;rw[if_pos rfl]
 unfold cI;rw[a,M rfl];rfl
theorem znl:zg um:=⟨rfl,fun a _=>by
 rw[zt3]
 have e:vG (ef::a)=if ef=ef then some ((fd,gx,[]),a) else if nI ef=true then (if ib (lg ef)=true then (mb a []).map fun q=>((fd,o5 (lg ef),q.1),q.2) else none)
  else if hasB 61 ef=true then (mb (ef::a) []).map fun q=>((fd,gx,q.1),q.2) else none:=rfl
 exact e.trans (M rfl)⟩
theorem zr0{s:dj}(h:zg s)(e:cI s=[ef]):s=um:=by
 have h1:=h.2 [] (fun x hx=>wZ);have a:=znl.2 [] (fun x hx=>wZ);rw[e]at h1;rw[zt3,h1]at a;exact (Om (nt a)).1
theorem stop_when(r:List ByteArray):Stop (oZ::r):=fun x a=>by cases a;decide
theorem stop_with(r:List ByteArray):Stop (rI::r):=fun x a=>by cases a;decide
theorem Jr:Stop []:=fun x a=>by simp at a
theorem rest_rel(n:Int)(p:ap){q:K1}(h:tS q.1=true):dw nZ n p (q.1::(if q.2=true then [D1] else []))=some { p with rel:=p.rel++[q] }:=by
 obtain⟨v,o⟩:=q;have h:tS v=true:=h;unfold dw;rw[M rfl];cases o
 ·show (Fr [v]).map _=_
  unfold Fr;simp[h]
 show (Fr [v,D1]).map _=_
 unfold Fr;simp[h]
theorem rest_var(n:Int)(p:ap){q:qF}(h:eL q.1=true∧eQ qp q.2=some q.2):dw n8 n p (q.1::q.2)=some { p with vars:=p.vars++[q] }:=by
 unfold dw;rw[E D,M rfl];unfold varL;simp only;rw[M h.1,h.2];rfl
theorem rest_prov(n:Int)(p:ap)(h:eL q=true):dw kX n p [q]=some { p with cl:=p.cl++[q] }:=by
 unfold dw;rw[E D,E D,M rfl];unfold p8;simp only;rw[M h];rfl
theorem rest_file(n:Int)(p:ap)(h:uk q=true):dw kY n p [q]=some { p with files:=p.files++[q] }:=by
 unfold dw;rw[E D,E D,E D,E D,E D,M rfl];unfold p8;simp only;rw[M h];rfl
theorem rest_dep{star:dj→Bool}(b:oo star)(n:Int)(p:ap){q:ky}(h:Dv q.1∧zg q.2.1):dw lF n p (cI q.1++if star q.2.1=true then [] else oZ::cI q.2.1)=some { p with gr:=p.gr++[(q.1,q.2.1,n)] }:=by
 unfold dw;rw[E D,E D,E D,M rfl]
 have e:qx n (cI q.1++if star q.2.1=true then [] else oZ::cI q.2.1)=some (q.1,q.2.1,n):=by
  unfold qx;by_cases a:star q.2.1=true
  ·rw[M a,h.1.2 [] Jr];have:=zr0 h.2 ((b _ h.2.1).1 a);simp only;rw[this]
  rw[E a,h.1.2 _ (stop_when _)];simp only;rw[M trivial];have:=h.2.2 [] Jr;rw[h_]at this;rw[this]
 rw[e];rfl
theorem rest_conf(n:Int)(p:ap){q:ky}(h:zg q.1∧(q.2.1=vD∨Dv q.2.1)):dw kv n p ((kC q).drop 1)=some { p with ci:=p.ci++[(q.1,q.2.1,n)] }:=by
 unfold dw;rw[E D,E D,E D,E D,M rfl]
 have e:mP n ((kC q).drop 1)=some (q.1,q.2.1,n):=by
  unfold mP kC;simp only[List.drop_succ_cons,Sr];rcases h.2 with a|a
  ·rw[a,M (show vD.1=fd from rfl),h.1.2 [] Jr]
  rw[E (zts a.1),h.1.2 _ (stop_with _)];simp only;rw[M trivial];have:=a.2 [] Jr;rw[h_]at this;rw[this]
 rw[e];rfl
theorem Jn{f:ByteArray}(h1:f≠iK)(c:f≠lI)(n:Int)(r:List ByteArray)(a:List ap)(p:ap)(b:List ut):dy n (f::r) ⟨a++[p],b⟩=(dw f n p r).map fun q=>⟨a++[q],b⟩:=by
 unfold dy;simp only;rw[E h1,E c,List.getLast?_append];simp only[List.getLast?_singleton,Option.some_or];rw[XV]
theorem zot(l:Ln)(N:List Ln)(x:ch):goL (l::N) x=(dy l.1 (iZ l) x).bind fun y=>goL N y:=rfl
theorem FU{α:Type}(f:α→List ByteArray)(g:ap→α→ap)(m:∀p p' a,gh p=gh p'→gh (g p a)=gh (g p' a))(d:List ap)(e:List ut):∀(i:List α)(N:List Ln)(p j:ap),N.map iZ=i.map f→
  (∀a∈i,∀n p,∃q,dy n (f a) ⟨d++[p],e⟩=some ⟨d++[q],e⟩∧gh q=gh (g p a))→gh p=gh j→∃q,goL N ⟨d++[p],e⟩=some ⟨d++[q],e⟩∧gh q=gh (i.foldl g j)
 |[],N,p,j,c,_,k=>by have:N=[]:=Su.1 c;subst this;exact⟨p,rfl,k⟩
 |a::i,N,p,j,c,o,k=>by
  cases N with
  |nil=>simp at c
  |cons l N=>simp only[eU,nj]at c;obtain⟨q,h1,r⟩:=o a ae l.1 p;obtain⟨q2,h3,h4⟩:=FU f g m d e i N q (g j a) c.2 (fun b hb=>o b (by simp[hb])) (r.trans (m _ _ _ k));refine⟨q2,?_,h4⟩;rw[zot,c.1,h1];exact h3
noncomputable def pkWs(star:dj→Bool)(p:ap):List (List ByteArray) :=
 [iK,p.name]::(p.rel.map xd++(p.vars.map qC++(p.cl.map (fun q=>[kX,q])++(p.gr.map (mf star)++(p.ci.map kC++p.files.map (fun q=>[kY,q]))))))
theorem pkLs_ws(star:dj→Bool)(p:ap):(ip star p).map (·.2)=pkWs star p:=by
 unfold ip pkWs;simp only[eU,oP,wY];rfl
theorem goL_pk{star:dj→Bool}(i:oo star){p:ap}(h:WfP p)(f:List ap)(g:List ut){N:List Ln}(c:N.map iZ=pkWs star p):∃q,goL N ⟨f,g⟩=some ⟨f++[q],g⟩∧gh q=gh p:=by
 cases N with
 |nil=>simp[pkWs]at c
 |cons l N=>
  unfold pkWs at c;simp only[eU,nj]at c;obtain⟨j,c⟩:=c;obtain⟨N1,M1,rfl,n1,c⟩:=F9.1 c;obtain⟨N2,M2,rfl,n2,c⟩:=F9.1 c;obtain⟨N3,M3,rfl,n3,c⟩:=F9.1 c;obtain⟨N4,M4,rfl,n4,c⟩:=F9.1 c;obtain⟨N5,N6,rfl,n5,n6⟩:=F9.1 c;have h0:dy l.1 (iZ l) ⟨f,g⟩=some ⟨f++[vg p.name l.1],g⟩:=by rw[j];unfold dy;simp only;rw[M trivial];unfold p8;simp only;rw[M h.name];rfl
  obtain⟨k,m,o⟩:=FU xd (fun p a=>{ p with rel:=p.rel++[a] }) (fun p b a e=>by
    unfold gh at e⊢;simp only[ap.mk.injEq]at e⊢;simp[e]) f g p.rel N1 (vg p.name l.1) (vg p.name l.1) n1 (fun a d n b=>⟨_,by
    unfold xd;rw[Jn D D,rest_rel n b (h.rel a d)];rfl,rfl⟩) rfl
  obtain⟨r,e2,b2⟩:=FU qC (fun p a=>{ p with vars:=p.vars++[a] }) (fun p b a e=>by
    unfold gh at e⊢;simp only[ap.mk.injEq]at e⊢;simp[e]) f g p.vars N2 k _ n2 (fun a d n b=>⟨_,by
    unfold qC;rw[Jn D D,rest_var n b (h.vars a d)];rfl,rfl⟩) o
  obtain⟨s,t,b3⟩:=FU (fun q=>[kX,q]) (fun p a=>{ p with cl:=p.cl++[a] }) (fun p b a e=>by
    unfold gh at e⊢;simp only[ap.mk.injEq]at e⊢;simp[e]) f g p.cl N3 r _ n3 (fun a d n b=>⟨_,by
    rw[Jn D D,rest_prov n b (h.cl a d)];rfl,rfl⟩) b2
  obtain⟨u,v,b4⟩:=FU (mf star) (fun p a=>{ p with gr:=p.gr++[a] }) (fun p b a e=>by
    unfold gh at e⊢;simp only[ap.mk.injEq]at e⊢;simp[e]) f g p.gr N4 s _ n4 (fun a d n b=>⟨_,by
    unfold mf;rw[Jn D D,rest_dep i n b (h.gr a d)];rfl,by unfold gh gn;simp⟩) b3
  obtain⟨w,x,b5⟩:=FU kC (fun p a=>{ p with ci:=p.ci++[a] }) (fun p b a e=>by
    unfold gh at e⊢;simp only[ap.mk.injEq]at e⊢;simp[e]) f g p.ci N5 u _ n5 (fun a d n b=>⟨_,by
    have y:=rest_conf n b (h.ci a d);have O:kC a=kv::(kC a).drop 1:=rfl;rw[O,Jn D D,y];rfl,by unfold gh gn;simp⟩) b4
  obtain⟨z,A,b6⟩:=FU (fun q=>[kY,q]) (fun p a=>{ p with files:=p.files++[a] }) (fun p b a e=>by
    unfold gh at e⊢;simp only[ap.mk.injEq]at e⊢;simp[e]) f g p.files N6 w _ n6 (fun a d n b=>⟨_,by
    rw[Jn D D,rest_file n b (h.files a d)];rfl,rfl⟩) b5
  refine⟨z,?_,?_⟩
  ·rw[zot,h0];show goL _ _=_;rw[Ds,m];show goL _ _=_;rw[Ds,e2];show goL _ _=_;rw[Ds,t];show goL _ _=_;rw[Ds,v];show goL _ _=_;rw[Ds,x];exact A
  rw[b6];have f1:∀(l:List K1)(p:ap),l.foldl (fun p a=>{ p with rel:=p.rel++[a] }) p={ p with rel:=p.rel++l }:=by exact Kv
  have f2:∀(l:List qF)(p:ap),l.foldl (fun p a=>{ p with vars:=p.vars++[a] }) p={ p with vars:=p.vars++l }:=by exact Kv
  have f3:∀(l:List ByteArray)(p:ap),l.foldl (fun p a=>{ p with cl:=p.cl++[a] }) p={ p with cl:=p.cl++l }:=by exact Kv
  have f4:∀(l:List ky)(p:ap),l.foldl (fun p a=>{ p with gr:=p.gr++[a] }) p={ p with gr:=p.gr++l }:=by exact Kv
  have f5:∀(l:List ky)(p:ap),l.foldl (fun p a=>{ p with ci:=p.ci++[a] }) p={ p with ci:=p.ci++l }:=by exact Kv
  have f6:∀(l:List ByteArray)(p:ap),l.foldl (fun p a=>{ p with files:=p.files++[a] }) p={ p with files:=p.files++l }:=by exact Kv
  rw[f1,f2,f3,f4,f5,f6];unfold gh vg;simp
theorem goL_pks{star:dj→Bool}(e:oo star)(c:List ut):∀(b:List ap)(N:List Ln)(a:List ap),N.map iZ=b.flatMap (pkWs star)→(∀p∈b,WfP p)→∃qs,goL N ⟨a,c⟩=some ⟨a++qs,c⟩∧qs.map gh=b.map gh
 |[],N,a,d,_=>by have:N=[]:=Su.1 d;subst this;exact⟨[],SM,rfl⟩
 |p::b,N,a,d,f=>by
  rw[oR]at d;obtain⟨_,g,rfl,n1,n2⟩:=F9.1 d;obtain⟨q,e1,b1⟩:=goL_pk e (f p ae) a c n1;obtain⟨qs,e2,b2⟩:=goL_pks e c b g (a++[q]) n2 (fun x hx=>f x Oc);refine⟨q::qs,?_,by rw[eU,eU,b1,b2]⟩;rw[Ds,e1];show goL g _=_;rw[e2,gq];rfl
theorem goL_pfs:∀(b:List ut)(N:List Ln)(x:ch),N.map iZ=b.map om→(∀q∈b,eL q.1=true∧eQ eL q.2.1=some q.2.1)→∃c,goL N x=some ⟨x.pk,x.pf++c⟩∧c.map pO=b.map pO
 |[],N,x,a,_=>by have:N=[]:=Su.1 a;subst this;exact⟨[],SM,rfl⟩
 |q::b,N,x,a,d=>by
  cases N with
  |nil=>simp at a
  |cons l N=>
   simp only[eU,nj]at a;obtain⟨h1,e⟩:=d q ae;have h0:dy l.1 (iZ l) x=some ⟨x.pk,x.pf++[(q.1,q.2.1,l.1)]⟩:=by rw[a.1];unfold om dy;simp only;rw[E D,M trivial];unfold wQ;simp only;rw[M h1,e];rfl
   obtain⟨c,e2,b2⟩:=goL_pfs b N ⟨x.pk,x.pf++[(q.1,q.2.1,l.1)]⟩ a.2 (fun y hy=>d y vy);refine⟨(q.1,q.2.1,l.1)::c,?_,by rw[eU,eU,b2];rfl⟩;rw[zot,h0];show goL N _=_;rw[e2,gq];rfl
noncomputable def rcWs(star:dj→Bool)(x:ch):List (List ByteArray):=x.pk.flatMap (pkWs star)++x.pf.map om
theorem rcLs_ws(star:dj→Bool)(x:ch):(gz star x).map (·.2)=rcWs star x:=by
 unfold gz rcWs;rw[oP,wY,List.map_flatMap];congr 1;congr 1
 funext p
 exact pkLs_ws star p
theorem reread{star:dj→Bool}(a:oo star){x:ch}(h:WfR x){N:List Ln}(b:N.map iZ=rcWs star x):∃y,goL N ⟨[],[]⟩=some y∧bare y=bare x:=by
 obtain⟨c,d,rfl,n1,n2⟩:=F9.1 b;obtain⟨qs,e1,b1⟩:=goL_pks a [] x.pk c [] n1 h.pk;obtain⟨fs,e2,b2⟩:=goL_pfs x.pf d ⟨[]++qs,[]⟩ n2 h.pf;refine⟨_,by rw[Ds,e1];exact e2,?_⟩;unfold bare;simp only[ig];rw[b1,b2]
theorem FO{α:Type}(R B:List α)(x:α):((R++[x])++B).Perm ((R++B)++[x]):=by
 rw[gq,gq];exact SE R XR
theorem rF{α:Type}(A:List α){X Kp:List α}{x:α}(h:X.Perm (Kp++[x])):(A++X).Perm ((A++Kp)++[x]):=by
 rw[gq];exact SE A h
theorem perm_tail{α:Type}{X Kp:List α}{x:α}(h:X.Perm (Kp++[x]))(B:List α):(X++B).Perm ((Kp++B)++[x]):=(h.append_right B).trans (FO Kp B x)
theorem verL_inv{r:K1}(h:Fr l=some r):tS r.1=true∧l=r.1::(if r.2=true then [D1] else []):=by
 unfold Fr at h;split at h
 ·exact apm
 ·split at h
  ·rename_i hk;cases h;exact⟨hk.1,by rw[hk.2];rfl⟩
  cases h
 cases h
theorem zs5{ok:ByteArray→Bool}{r:List ByteArray}(h:eQ ok l=some r):l=r∧eQ ok r=some r:=by
 have a:=h;unfold eQ at h;split at h
 ·cases h;exact⟨rfl,a⟩
 cases h
theorem varL_inv{r:qF}(h:varL l=some r):(eL r.1=true∧eQ qp r.2=some r.2)∧l=r.1::r.2:=by
 unfold varL at h;split at h
 ·split at h
  ·rename_i x t hk
   cases hq:eQ qp t with
   |none=>rw[hq]at h;cases h
   |some q=>exact anj
  cases h
 cases h
theorem ztq{ok:ByteArray→Bool}{r:ByteArray}(h:p8 ok l=some r):ok r=true∧l=[r]:=by
 unfold p8 at h;split at h
 ·exact apm
 cases h
theorem prefL_inv{n:Int}{r:ut}(h:wQ n l=some r):(eL r.1=true∧eQ eL r.2.1=some r.2.1)∧l=r.1::r.2.1:=by
 unfold wQ at h;split at h
 ·split at h
  ·rename_i x t hk
   cases hq:eQ eL t with
   |none=>rw[hq]at h;cases h
   |some q=>exact anj
  cases h
 cases h
theorem zsu{r:List ByteArray}{s:dj}(h:xv l=some (s,r)):Dv s∧l=cI s++r:=by
 obtain⟨h1,_,_,a,b⟩:=ycw h;exact⟨⟨a,b⟩,h1⟩
theorem zuc{r:List ByteArray}{s:dj}(h:vG l=some (s,r)):zg s∧l=cI s++r:=by
 obtain⟨h1,_,a,_,b,_⟩:=yf3 h;exact⟨⟨a,b⟩,h1⟩
theorem depL_inv{star:dj→Bool}(b:oo star){n:Int}{d:ky}(h:qx n l=some d):(Dv d.1∧zg d.2.1)∧(mf star d).Sublist (lF::l):=by
 unfold qx at h;split at h
 ·rename_i s hw
  cases h;obtain⟨h1,a⟩:=zsu hw;refine⟨⟨h1,znl⟩,?_⟩;unfold mf;rw[M ((b um rfl).2 zt3),a];exact zE _
 ·rename_i s x r hw
  split at h
  ·rename_i hx
   split at h
   ·rename_i c hc
    cases h;obtain⟨h1,a⟩:=zsu hw;obtain⟨h3,h4⟩:=zuc hc;refine⟨⟨h1,h3⟩,?_⟩;rw[h_]at h4;unfold mf;rw[a,hx,h4];refine List.Sublist.cons_cons _ (List.Sublist.append (zE _) ?_);split
    ·exact List.nil_sublist _
    exact zE _
   cases h
  cases h
 cases h
theorem confL_inv{n:Int}{d:ky}(h:mP n l=some d):(zg d.1∧(d.2.1=vD∨Dv d.2.1))∧kC d=kv::l:=by
 unfold mP at h;split at h
 ·rename_i s hw
  cases h;obtain⟨h1,a⟩:=zuc hw;refine⟨⟨h1,.inl rfl⟩,?_⟩;unfold kC;rw[M (show vD.1=fd from rfl),a]
 ·rename_i s x r hw
  split at h
  ·rename_i hx
   split at h
   ·rename_i c hc
    cases h;obtain⟨h1,a⟩:=zuc hw;obtain⟨h3,h4⟩:=zsu hc;refine⟨⟨h1,.inr h3⟩,?_⟩;rw[h_]at h4;unfold kC;rw[E (zts h3.1),a,hx,h4]
   cases h
  cases h
 cases h
theorem rest_wf{star:dj→Bool}(t:oo star){f:ByteArray}{n:Int}{p q:ap}(h:dw f n p l=some q)(b:WfP p):WfP q∧∃pl,(ip star q).Perm (ip star p++[(true,pl)])∧pl.Sublist (f::l):=by
 have d:∀{α:Type} {P:α→Prop} {A:List α} {a:α},(∀x∈A,P x)→P a→∀x∈A++[a],P x:=fun h1 g x e=>by
  rcases ff.1 e with e|e
  ·exact h1 x e
  rw[gd]at e;rw[e];exact g
 unfold dw at h;by_cases h1:f=nZ
 ·rw[M h1]at h
  cases hv:Fr l with
  |none=>rw[hv]at h;cases h
  |some r=>
   rw[hv]at h;cases h;obtain⟨c,e2⟩:=verL_inv hv;refine⟨{ b with rel:=d b.rel c },xd r,?_,?_⟩
   ·refine KG ?_;exact FO _ _ _
   unfold xd;rw[h1,e2];exact zE _
 rw[E h1]at h;by_cases g:f=n8
 ·rw[M g]at h
  cases hv:varL l with
  |none=>rw[hv]at h;cases h
  |some r=>
   rw[hv]at h;cases h;obtain⟨c,e2⟩:=varL_inv hv;refine⟨{ b with vars:=d b.vars c },qC r,?_,?_⟩
   ·refine KG ?_;exact rF _ (FO _ _ _)
   unfold qC;rw[g,e2];exact zE _
 rw[E g]at h;by_cases i:f=kX
 ·rw[M i]at h
  cases hv:p8 eL l with
  |none=>rw[hv]at h;cases h
  |some r=>
   rw[hv]at h;cases h;obtain⟨c,e2⟩:=ztq hv;refine⟨{ b with cl:=d b.cl c },[kX,r],?_,?_⟩
   ·refine KG ?_;exact rF _ (rF _ (FO _ _ _))
   rw[i,e2];exact zE _
 rw[E i]at h;by_cases j:f=lF
 ·rw[M j]at h
  cases hv:qx n l with
  |none=>rw[hv]at h;cases h
  |some r=>
   rw[hv]at h;cases h;obtain⟨c,e2⟩:=depL_inv t hv;refine⟨{ b with gr:=d b.gr c },mf star r,?_,?_⟩
   ·refine KG ?_;exact rF _ (rF _ (rF _ (FO _ _ _)))
   rw[j];exact e2
 rw[E j]at h;by_cases m:f=kv
 ·rw[M m]at h
  cases hv:mP n l with
  |none=>rw[hv]at h;cases h
  |some r=>
   rw[hv]at h;cases h;obtain⟨c,e2⟩:=confL_inv hv;refine⟨{ b with ci:=d b.ci c },kC r,?_,?_⟩
   ·refine KG ?_;exact rF _ (rF _ (rF _ (rF _ (FO _ _ _))))
   rw[m,e2];exact zE _
 rw[E m]at h;by_cases s:f=kY
 ·rw[M s]at h
  cases hv:p8 uk l with
  |none=>rw[hv]at h;cases h
  |some r=>
   rw[hv]at h;cases h;obtain⟨c,e2⟩:=ztq hv;refine⟨{ b with files:=d b.files c },[kY,r],?_,?_⟩
   ·refine KG ?_;exact rF _ (rF _ (rF _ (rF _ (rF _ (List.Perm.refl _)))))
   rw[s,e2];exact zE _
 rw[E s]at h;cases h
theorem line_wf{star:dj→Bool}(t:oo star){n:Int}{x y:ch}(h:dy n l x=some y)(a:WfR x):WfR y∧∃m:K5,(gz star y).Perm (gz star x++[m])∧m.2.Sublist l:=by
 cases l with
 |nil=>cases h
 |cons f r=>
  refine agc ?_;intro e;rw[e]at h;by_cases h1:f=iK
  ·rw[M h1]at h
   cases hv:p8 eL r with
   |none=>rw[hv]at h;cases h
   |some s=>
    rw[hv]at h;cases h;obtain⟨g,e2⟩:=ztq hv;refine⟨⟨fun p c=>?_,a.pf⟩,(false,[iK,s]),?_,?_⟩
    ·rcases ff.1 c with c|c
     ·exact a.pk p c
     rw[gd]at c;rw[c];exact⟨g,fun q hq=>J9,fun q hq=>J9,fun q hq=>J9,fun q hq=>J9,fun q hq=>J9,fun q hq=>J9⟩
    ·have i:ip star (vg s n)=[(false,[iK,s])]:=rfl;unfold gz;simp only[rm,oR,Qy,i,h_];exact FO _ _ _
    rw[h1,e2];exact zE _
  rw[E h1]at h;by_cases j:f=lI
  ·rw[M j]at h
   cases hv:wQ n r with
   |none=>rw[hv]at h;cases h
   |some s=>
    rw[hv]at h;cases h;obtain⟨g,e2⟩:=prefL_inv hv;refine⟨⟨a.pk,fun q hq=>?_⟩,(false,om s),?_,?_⟩
    ·rcases ff.1 hq with hq|hq
     ·exact a.pf q hq
     rw[gd]at hq;rw[hq];exact g
    ·unfold gz;rw[oP,←gq];exact List.Perm.refl _
    unfold om;rw[j,e2];exact zE _
  rw[E j]at h;rcases A8 x.pk with b|⟨_,p,b⟩
  ·rw[b]at h;cases h
  rw[A9]at b;rw[b,List.getLast?_append]at h;simp only[List.getLast?_singleton,Option.some_or]at h
  cases hv:dw f n p r with
  |none=>rw[hv]at h;cases h
  |some q=>
   rw[hv]at h;simp only[Ss,Ka,XV]at h;subst h;obtain⟨g,v,e2,i⟩:=rest_wf t hv (a.pk p (by rw[b];simp));refine⟨⟨fun u d=>?_,a.pf⟩,(true,v),?_,i⟩
   ·rcases ff.1 d with d|d
    ·exact a.pk u (by rw[b];simp[d])
    rw[gd]at d;rw[d];exact g
   unfold gz;rw[b];simp only[rm,oR,Qy,h_];exact perm_tail (rF _ e2) _
theorem costW_sub{a b:List ByteArray}(h:a.Sublist b):dp a≤dp b:=by
 induction h with
 |slnil=>exact aE _
 |cons x _ c=>simp[dp]at c⊢;omega
 |cons_cons x _ c=>simp[dp]at c⊢;omega
theorem ybt{star:dj→Bool}(c:oo star):∀(N:List Ln)(x y:ch),goL N x=some y→WfR x→WfR y∧∃bE:List K5,(gz star y).Perm (gz star x++bE)∧bE.length=N.length∧(∀m∈bE,∃l∈N,m.2.Sublist (iZ l))∧gQ (bE.map (·.2))≤gQ (N.map iZ)
 |[],x,y,h,a=>by cases h;exact⟨a,[],by rw[h_],rfl,fun m e=>by simp at e,aE _⟩
 |l::N,x,y,h,a=>by
  rw[zot]at h
  cases hq:dy l.1 (iZ l) x with
  |none=>rw[hq]at h;cases h
  |some z=>
   rw[hq]at h;obtain⟨w1,m,f,d⟩:=line_wf c hq a;obtain⟨w2,bE,p2,l2,m2,c2⟩:=ybt c N z y h w1;refine⟨w2,m::bE,?_,by simp[l2],fun k b=>?_,?_⟩
   ·refine p2.trans ?_;have:=f.append_right bE;rw[gq]at this;exact this
   ·rcases iC.1 b with rfl|b
    ·exact⟨l,ae,d⟩
    obtain⟨g,h1,i⟩:=m2 k b;exact⟨g,by simp[h1],i⟩
   have:=costW_sub d;show dp m.2+gQ (bE.map (·.2))≤dp (iZ l)+gQ (N.map iZ);omega
theorem zyh{star:dj→Bool}{x:ch}:∀m∈gz star x,m.2≠[]:=by
 intro m a;unfold gz at a;rcases ff.1 a with a|a
 ·obtain⟨p,_,b⟩:=Sm.1 a;unfold ip at b;simp only[iC,ff,gb]at b;rcases b with rfl|⟨q,_,rfl⟩|⟨q,_,rfl⟩|⟨q,_,rfl⟩|⟨q,_,rfl⟩|⟨q,_,rfl⟩|⟨q,_,rfl⟩<;>simp[xd,qC,mf,kC]
 obtain⟨q,_,rfl⟩:=gb.1 a;simp[om]
theorem zxp:∀L:List K5,(∀m∈L,m.2≠[])→(nw L).length≤gQ (L.map (·.2))+2*L.length
 |[],_=>aE _
 |x::L,h=>by
  have h1:=zxp L fun m a=>h m (by simp[a]);have b:=zqh (h x ae);have e:nw (x::L)=lnT x++nw L:=rfl;have e2:gQ ((x::L).map (·.2))=dp x.2+gQ (L.map (·.2)):=rfl;rw[e,e2,bM,fO]
  have c:(lnT x).length≤dp x.2+2:=by
   unfold lnT;rw[bM,bM,rD];have:(if x.1=true then ([32,32]:List UInt8) else []).length≤2:=by split<;>simp
   omega
  omega
theorem yf1{a b:List K5}(h:a.Perm b):gQ (a.map (·.2))=gQ (b.map (·.2)):=by
 induction h with
 |nil=>rfl
 |cons x _ c=>show dp _+gQ _=dp _+gQ _;rw[c]
 |swap x y l=>show dp _+(dp _+gQ _)=dp _+(dp _+gQ _);omega
 |trans _ _ h1 d=>exact h1.trans d
theorem zvt{t:List UInt8}(_:t.length≤20000){x:ch}(h:mI t=some x){star:dj→Bool}(a:oo star):WfR x∧(nw (gz star x)).length≤24001∧∃y,mI (nw (gz star x))=some y∧bare y=bare x:=by
 unfold mI at h;split at h
 ·obtain⟨g1,_,c⟩:=zwq t;have g4:=(ac.abk t).1;obtain⟨w,bE,pm,lm,mm,cm⟩:=ybt a _ _ _ h ⟨fun p hp=>by simp at hp,fun p hp=>by simp at hp⟩;have pm:(gz star x).Perm bE:=pm;have d:(gz star x).length≤2000:=by rw[pm.length_eq,lm];exact c
  have f:(nw (gz star x)).length≤24001:=by have:=zxp _ (zyh (star:=star) (x:=x));rw[yf1 pm]at this;omega
  have g:OkT (gz star x):=fun m hm=>⟨zyh m hm,fun v hv=>by obtain⟨l,hl,Vm⟩:=mm m (pm.mem_iff.1 hm);exact g1 l hl v (Vm.subset hv)⟩;have i:∀m∈gz star x,m.2.length≤40:=fun m hm=>by exact ahu
  obtain⟨d1,d2⟩:=doc_txt g;have b:=d1 i d Z;obtain⟨y,hy,hb⟩:=reread a w ((d2 b).trans (rcLs_ws star x));refine⟨w,f,y,?_,hb⟩;unfold mI;rw[M b];exact hy
 cases h
theorem JN(s:dj):cI s≠[]:=by
 unfold cI;by_cases h:(if dK s=fd then [] else [dK s])++s.2.2.map j0=[]
 ·rw[M h];simp
 rw[E h];exact h
end
end Go.Proofs.YthgibhhbmmkjmaaGreatDoor
