/- Walks and plain facts. Condition: none beyond what each says. -/
import Derived.Test.YthgibhhbmmkjmaaGreatDoorPrW6
import Derived.Test.YthgibhhbmmkjmaaGreatDoorPrW7
import Derived.Test.YthgibhhbmmkjmaaGreatDoorPrW8
set_option linter.unusedVariables false
set_option linter.unusedSimpArgs false
set_option maxRecDepth 10000
set_option maxHeartbeats 40000000
namespace Go.Proofs.YthgibhhbmmkjmaaGreatDoor
open Go.Proofs.Tryz
variable {B N b bs c c1 c2 c3 c4 c5 c6 c7 d3 d4 d5 d6 d7 e2 f g i j k m m2 m3 m4 m5 m6 m7 n n1 n2 x:Nat}
variable {S T:Nat→Prop}
variable {W W' w w' w0 w3:World}
variable {a a1 a2 b2 b3 b4 b5 b6 b7 d2:Option Addr}
variable {cs:Array Value}
variable {bN:List (List Value)}
variable {e:TypeId}
variable {l:List ByteArray}
variable {li:Int}
variable {nm q s:ByteArray}
variable {u v v' v6 v7 vf vp y z:Value}
variable {p:List UInt8}
variable {t:Nat→Nat}
section
open Shelf RowKit Lib av cy
open ac (Wd Ln jT)
theorem yef{l:Ln}(dT:j7 w [.slice a n c] l.2)(b:jT 70000 l){h:Option Addr}{i j:Nat}{m:Option Addr}{o q:Nat}{x:ch}
  (aP:RcV w t B (.slice h i j) (.slice m o q) x) (d:∀p,a=some p→9<t p.block) (e:B≤w.heap.size) {k:Nat} (f:xu k x) (g:k≤70000)  :
  Calls prog 41 #[.agg #[.int .i64 l.1,.slice a n c],.agg #[.slice h i j,.slice m o q]] w (NV t B l.1 l.2 x w):=by
 by_cases h1:aD l.2 0=lF∨aD l.2 0=kv
 ·exact line06_U dT b aP d e f g h1
 by_cases r:aD l.2 0=nZ∨aD l.2 0=n8∨aD l.2 0=kX∨aD l.2 0=kY
 ·exact line06_B dT b aP d e f g r
 exact line06_A dT b aP d e f g ⟨h1,r⟩
end
section
open Shelf RowKit Lib av cy
open ac (Wd Ln jT)
attribute [local go_sem ↓] wp_at_zero wp_at_succ
abbrev R6Box(k:Nat)(u v:Value)(x y z:Int)(W:World):Prop:=W.heap[k]?=some (.cells #[u,v,.int .i64 x,.int .i64 y,.int .i64 z] 72 (0,0))
abbrev L5Bx(k:Nat)(v:Value)(x y z:Int)(W:World):Prop:=W.heap[k]?=some (.cells #[v,.int .i64 x,.int .i64 y,.int .i64 z] 111 (0,0))
def R6Post(w:World)(o:Option ch)(e:Ending)(w':World):Prop :=
 ∃(b1:Option Addr)(n1 c1:Nat)(b2:Option Addr)(n2 c2:Nat)(x1 x2 er:Int),e=.returned (.agg #[.slice b1 n1 c1,.slice b2 n2 c2,.int .i64 x1,.int .i64 x2,.int .i64 er])∧((∃y,o=some y∧er=0∧mg w' (.slice b1 n1 c1) (.slice b2 n2 c2) y)∨(o=none∧er≠0))∧Below w.heap.size w w'
theorem ztg{W:World}{v u':Value}{x y z x' y' z':Int}(a:w.heap.size≤g)(h:R6Box g u v x y z W)(b:Below w.heap.size w W):R6Box g u' v' x' y' z' (((((W.setCell ⟨g,0,none⟩ u').setCell ⟨g,1,none⟩ v').setCell ⟨g,2,none⟩ (.int .i64 x')).setCell ⟨g,3,none⟩ (.int .i64 y')).setCell ⟨g,4,none⟩ (.int .i64 z'))∧Below w.heap.size w (((((W.setCell ⟨g,0,none⟩ u').setCell ⟨g,1,none⟩ v').setCell ⟨g,2,none⟩ (.int .i64 x')).setCell ⟨g,3,none⟩ (.int .i64 y')).setCell ⟨g,4,none⟩ (.int .i64 z'))∧am (fun k=>k=g) W (((((W.setCell ⟨g,0,none⟩ u').setCell ⟨g,1,none⟩ v').setCell ⟨g,2,none⟩ (.int .i64 x')).setCell ⟨g,3,none⟩ (.int .i64 y')).setCell ⟨g,4,none⟩ (.int .i64 z')):=by
 have c:=ag W g 0 _ _ u' h;have d:=ag _ g 1 _ _ v' c;have e:=ag _ g 2 _ _ (.int .i64 x') d;have f:=ag _ g 3 _ _ (.int .i64 y') e;have i:=ag _ g 4 _ _ (.int .i64 z') f;exact⟨i,((((b.setCell (p:=⟨g,0,none⟩) a _).setCell (p:=⟨g,1,none⟩) a _).setCell (p:=⟨g,2,none⟩) a _).setCell (p:=⟨g,3,none⟩) a _).setCell (p:=⟨g,4,none⟩) a _,aN (aN (aN (aN (aN (am.refl _ _) 0 _) 1 _) 2 _) 3 _) 4 _⟩
section
variable {W W':World}{t t':Nat→Nat}{B:Nat}{vp vf:Value}{x:ch}{T:Nat→Prop}
theorem RcV.to(h:RcV W t B vp vf x)(hF:am T W W')(hT:∀k,k<W.heap.size→T k→9<t k∧¬Ty W k)(hG:∀k,k<W.heap.size→t k≤9→t' k=t k):RcV W' t' B vp vf x:=by
 obtain⟨⟨css,a⟩,b⟩:=h;refine⟨⟨css,a.to hF (fun k k1 k2=>arv) (fun k k1 k2=>SR) (fun k k1 k2=>SR)⟩,b.to hF (fun k k1 k2=>?_) fun k k1 k2=>hG k k1 ?_⟩
 ·exact WW
 rcases k2 with k|k|k
 ·omega
 ·exact k.2
 omega
theorem RcV.below(h:RcV W t B vp vf x)(a:Below W.heap.size W W')(b:∀k,k<W.heap.size→t' k=t k):RcV W' t' B vp vf x:=h.to (am.ce (S:=fun _=>False) a) (fun _ _ h=>h.elim) (fun k hk _=>b k hk)
theorem RcV.reads(h:RcV W t B vp vf x):mg W vp vf x:=by
 obtain⟨⟨css,a⟩,b⟩:=h;refine⟨?_,a.reads Z fun _ _ _=>len_pfM⟩;rcases b with⟨h1,c⟩|⟨_,p,bN,v2,v3,v4,v5,v6,v7,h1,L⟩
 ·rw[h1,c];exact⟨_,0,rfl,bj _,bj _,fun i x hi=>vm⟩
 rw[h1];exact L.reads
theorem rcV_nil:RcV W t B (.slice none 0 0) (.slice none 0 0) ⟨[],[]⟩:=⟨⟨[],RowL.nil⟩,.inl ⟨rfl,rfl⟩⟩
end
structure LcV where
 (b1 b2:Option Addr)
 (n1 c1 n2 c2:Nat)
 bad:Int
def L6Q(w3:World)(q B:Nat)(vp vf:Value)(ln:Int)(ws:List Wd)(x:ch)(K:List Nat)(v:LcV)(W:World):Prop :=
 Below w3.heap.size w3 W∧W.heap[q]?=some (.cells #[vp,vf] 25 (0,0))∧
  ((v.bad=0∧∃y t',dy ln (az ws 0) x=some y∧RcV W t' B (.slice v.b1 v.n1 v.c1) (.slice v.b2 v.n2 v.c2) y∧(∀k,k<w3.heap.size→t' k=10)∧t' q=10∧∀k∈K,k<W.heap.size∧t' k=10)∨(v.bad≠0∧dy ln (az ws 0) x=none))
section
variable {w3 wr W W':World}{q B:Nat}{vp vf:Value}{ln:Int}{ws:List Wd}{x:ch}{K:List Nat}{v:LcV}{t:Nat→Nat}
theorem L6Q.alloc(h:L6Q w3 q B vp vf ln ws x K v W)(_:w3.heap.size≤q)(o:Obj):L6Q w3 q B vp vf ln ws x (W.heap.size::K) v (W.alloc o):=by
 have b:Below W.heap.size W (W.alloc o):=aS W o;have d:=(bS.1 h.2.1).1;refine⟨h.1.trans (b.mono h.1.size),G b h.2.1,?_⟩;rcases h.2.2 with⟨h0,y,t',h1,e,f,g,i⟩|h0
 ·refine .inl ⟨h0,y,aJ t' W.heap.size 10,h1,e.below b fun k a=>aR a,fun k a=>?_,by rw[aR d,g],fun k a=>?_⟩
  ·rw[aR (jq a h.1.size),f k a]
  rcases iC.1 a with rfl|a
  ·exact⟨ae,pL (aE _)⟩
  obtain⟨c,j⟩:=i k a;exact⟨jq c b.size,by rw[aR c,j]⟩
 exact .inr h0
theorem L6Q.store(h:L6Q w3 q B vp vf ln ws x K v W)(b:k∈K){fr:Nat×Nat}(c:w3.heap.size≤k)(d:k≠q)(f:W.heap[k]?=some (.cells cs e fr))(g:e≠51∧e≠137)(hF:am (fun z=>z=k) W W'):L6Q w3 q B vp vf ln ws x K v W':=by
 refine⟨h.1.trans (hF.below h.1.size (by rintro z rfl;exact c)),bI h.2.1 hF (fun e=>d e.symm),?_⟩;rcases h.2.2 with⟨h0,y,t',h1,i,j,l,a⟩|h0
 ·refine .inl ⟨h0,y,t',h1,i.to hF (fun z _ e=>?_) (fun _ _ _=>rfl),j,l,fun z hz=>?_⟩
  ·subst e;have:=(a _ b).2;exact⟨Z,dF f g⟩
  obtain⟨m,n⟩:=a z hz;exact⟨jq m hF.size,n⟩
 exact .inr h0
theorem l6_call{e:Ending}(n:∀k,k<w3.heap.size→t k=10)(i:W.heap[q]?=some (.cells #[vp,vf] 25 (0,0)))(j:t q=10)(l:q<wr.heap.size)(c:Below w3.heap.size w3 W)(_:w3.heap.size≤wr.heap.size)(m:∀k∈K,wr.heap.size≤k∧k<W.heap.size)(h:NV (aJ t wr.heap.size 10) B ln ws x W e w'):
  ∃v:LcV,e=.returned (.tuple #[.agg #[.slice v.b1 v.n1 v.c1,.slice v.b2 v.n2 v.c2],.int .i64 v.bad])∧L6Q w3 q B vp vf ln ws x K v w'∧∀k∈K,w'.heap[k]?=W.heap[k]?:=by
 obtain⟨o,n1,c1,b2,n2,c2,bad,p,r,hF⟩:=h;have s:=(bS.1 i).1;have d:∀k,k<w3.heap.size→aJ t wr.heap.size 10 k=10:=fun k a=>by rw[aR Z,n k a]
 refine⟨⟨o,b2,n1,c1,n2,c2,bad⟩,p,⟨c.trans (hF.below c.size fun k a=>?_),bI i hF (by rw[aR l,j];omega),?_⟩,fun k a=>?_⟩
 ·apply Sy
  intro u;rw[d k u]at a;omega
 ·rcases r with⟨h0,y,t',h1,w,f⟩|h0
  ·refine .inl ⟨h0,y,t',h1,w,fun k a=>?_,?_,fun k a=>?_⟩
   ·rw[f k (jq a c.size) (by rw[d k a];omega),d k a]
   ·have e:aJ t wr.heap.size 10 q=10:=by rw[aR l,j]
    rw[f q s S7,e]
   obtain⟨g,b⟩:=m k a;have e:aJ t wr.heap.size 10 k=10:=pL g;exact⟨jq b hF.size,by rw[f k b S7,e]⟩
  exact .inr h0
 obtain⟨g,b⟩:=m k a;exact hF.block k b (by rw[pL g];omega)
end
def L6E(w3:World)(q B:Nat)(vp vf:Value)(ln:Int)(ws:List Wd)(x:ch)(v6 v7:Value)(W:World):Prop :=
 ∃(k6:Nat)(v:LcV),v6=.pointer (some ⟨k6,0,none⟩)∧v7=.int .i64 v.bad∧W.heap[k6]?=some (.cells #[.slice v.b1 v.n1 v.c1,.slice v.b2 v.n2 v.c2] 25 (0,0))∧w3.heap.size≤k6∧k6≠q∧L6Q w3 q B vp vf ln ws x [k6] v W
def P6I(w3:World)(q:Nat)(ls:List Ln)(o:Option ch)(k:Nat)(W:World):Prop :=
 ∃(x:ch)(t:Nat→Nat)(a1:Option Addr)(c1:Nat)(a2:Option Addr)(c2:Nat),W.heap[q]?=some (.cells #[.slice a1 x.pk.length c1,.slice a2 x.pf.length c2] 25 (0,0))∧RcV W t w3.heap.size (.slice a1 x.pk.length c1) (.slice a2 x.pf.length c2) x∧(∀k,k<w3.heap.size→t k=10)∧t q=10∧Below w3.heap.size w3 W∧xu k x∧o=goL (ls.drop k) x
set_option linter.unusedVariables false in
theorem zyo(t:ByteArray)(_:t.size≤140737488351232):Calls prog 21 #[.string t] w (R6Post w (mI t.data.toList)):=by
 have gJ:=ac.aat t.data.toList;have hL:=fun(W:World)=>zwr t Z W;revert gJ hL;refine aoq ?_;intro R gJ hL hR C6 fT;obtain⟨ro,aM⟩:=Y (mI t.data.toList);rw[←aM]at C6⊢;refine lM ?_;intro g hg;obtain⟨W1,aK⟩:=Y (w.alloc (.cells #[.slice none 0 0,.slice none 0 0,.int .i64 0,.int .i64 0,.int .i64 0] 72));have aC:Below w.heap.size w W1:=yF;have cb:R6Box g (.slice none 0 0) (.slice none 0 0) 0 0 0 W1:=IJ;have cM:W1.heap.size=g+1:=P0;refine ur ?_;intro bZ;have bc:=hL W1;unfold zun at bc;obtain⟨a1,ha1⟩:=Y R.at1;obtain⟨a2,ha2⟩:=Y R.at2;obtain⟨er,qj⟩:=Y R.e;obtain⟨ls,tP⟩:=Y R.lines;rw[←qj,←tP]at C6;rw[←ha1,←ha2,←qj,←tP]at bc;rw[←tP]at gJ;clear hL;revert hR fT aM aC cb ha1 ha2 qj gJ bc C6 tP;refine nL ?_;intro HR im bt aO dR Ha1 QK ayo yv iW QQ Hls;go_enter func21,ntmps21;go_upto_region 1 with (fail);refine iE ?_;clear aK hg;go_wp2_with fail;refine akl ?_;intro w2 af ad cp n dH hn;obtain⟨lb,G9⟩:=Y w2.heap.size;obtain⟨w3,ea⟩:=Y (w2.alloc (.cells #[.slice ad n cp,.int .i64 a1,.int .i64 a2,.int .i64 er] 111));have aP:Below w2.heap.size w2 w3:=Oh;have aT:=af.trans (aP.mono af.size);have bu:=aO.o.trans (aT.mono aO.o.size);have aa:L5Bx lb (.slice ad n cp) a1 a2 er w3:=by rw[ea,G9];exact dq _ _
 have cN:g<lb:=by have:=af.size;omega
 have bw:w3.heap.size=lb+1:=by rw[ea,G9];simp
 have A:=G aT dR.o;have bx:=zmg _ _ _ _ dH aP;have bA:=J aa 0;have bB:=J aa 1;have bC:=J aa 2;have bD:=J aa 3;simp only[aq,ar,aw]at bA bB bC bD;have al:=J A 0;have f0:=aG A 0;have an:=J A 1;have f1:=aG A 1;have ao:=J A 2;have f2:=aG A 2;have au:=J A 3;have f3:=aG A 3;have av:=J A 4;have f4:=aG A 4;simp only[aq,ar,aw]at al an ao au av;by_cases he:er=0
 ·refine apt ?_;intro k1 hq q eF w4 eM;have bd:Below w3.heap.size w3 w4:=My;have cc:P6I w3 q ls ro 0 w4:=⟨⟨[],[]⟩,fun _=>10,none,0,none,0,by rw[eM,eF];exact dq _ _,rcV_nil,fun _ _=>rfl,rfl,bd,zv5,by rw[Sr];exact hq⟩;have cO:n≤70001:=by have:=yv.o.2;omega
  have bE:w3.heap.size≤q:=jg eF.symm;have bF:=G bd aa;have bG:=J bF 0;simp only[aq,ar,aw]at bG;clear f0 f1 f2 f3 f4 al an ao au av;revert af dH hn aP aT bu aa bw A bx he hq bd cc bF;refine uv ?_;intro cd cf Hn cg ch ax be Mr aW bH bI bK V ck ns;go_upto_region 2 with (fail);rw[←ea,←G9];clear ea G9;go_upto_region 5 with (fail);rw[←eM,←eF];have bL:=aH bE;clear eM eF bE;go_wp2_with fail;clear bA bB bC bD bG;go_loopw [22] (fun v wr=>∃k:Nat,k≤n∧v=.int .i64 k∧P6I w3 q ls ro k wr) (fun v _=>n-(RowKit.intOf v).toNat)
  case atStart=>exact⟨0,bj _,rfl,ck.o⟩
  case round=>
   obtain⟨k,ay,rfl,x,bM,L,N,T,U,ah,aX,aD,bf,X,bg,aY⟩:=hrel;obtain⟨np,zP⟩:=Y x.pk.length;obtain⟨nf,Vn⟩:=Y x.pf.length;rw[←zP,←Vn]at ah aX;by_cases cP:k<n
   ·have aI:k<ls.length:=gl;obtain⟨l,hl⟩:=Y (ls[k]);obtain⟨-,-,aU⟩:=lns_at bH.o;obtain⟨b,off,Fv,n2,c2,rfl,c0,c1,hwd⟩:=aU k l aso;clear aU;obtain⟨ln,CU⟩:=Y l.1;rw[←CU]at c0;obtain⟨ad,had⟩:∃a:Option Addr,a=some ⟨b,off,none⟩:=⟨_,rfl⟩;have bh:jT 70000 l:=yv.o.1 l (by rw[hl];exact eZ aI);have bN:ls.drop k=l::ls.drop (k+1):=asp;rw[bN]at aY;have bO:q<wr.heap.size:=(bS.1 ah).1
    have bP:∀p:Addr,Fv=some p→p.block<w3.heap.size:=fun p bk=>by
     have h0:0<n2:=by
      have:=(pF hwd).1;have cl:=bh.2.1;rw[this]
      cases hq:l.2 with
      |nil=>exact absurd hq cl
      |cons _ _=>simp
     have cm:0<l.2.length:=by have:=(pF hwd).1;omega
     obtain⟨_,_,e,d0,-⟩:=(pF hwd).2.2 0 _ (bR cm);rw[bk]at e;cases e;exact wH _ _ d0
    have cn:∀(W:World)(K:List Nat),Below wr.heap.size wr W→(∀k∈K,wr.heap.size≤k∧k<W.heap.size)→Calls prog 41 #[.agg #[.int .i64 ln,.slice Fv n2 c2],.agg #[.slice L np N,.slice T nf U]] W (fun e w'=>∃v:LcV,e=.returned (.tuple #[.agg #[.slice v.b1 v.n1 v.c1,.slice v.b2 v.n2 v.c2],.int .i64 v.bad])∧L6Q w3 q w3.heap.size (.slice L np N) (.slice T nf U) ln l.2 x K v w'∧∀k∈K,w'.heap[k]?=W.heap[k]?):=fun W K ai hK=>by
     have bl:=X.trans (ai.mono X.size);rw[CU];exact (yef (t:=aJ bM wr.heap.size 10) (B:=w3.heap.size) (bz lz _ _ _ _ hwd bl) bh (aX.below ai fun k ay=>aR ay) (fun p bk=>by have:=bP p bk;rw[aR (jq this X.size),aD _ this];omega) bl.size bg Z).mono fun e w' h=>l6_call aD (G ai ah) bf bO bl X.size hK h
    have cq:∀W,Below w3.heap.size w3 W→W.heap[q]?=some (.cells #[.slice L np N,.slice T nf U] 25 (0,0))→W.cell? ⟨lb,0,none⟩=some (.slice (some ⟨b,off,none⟩) n cp)∧W.cell? ⟨b,off+k*2,none⟩=some (.int .i64 ln)∧W.cell? ⟨b,off+k*2+1,none⟩=some (.slice Fv n2 c2)∧W.cell? ⟨q,0,none⟩=some (.slice L np N)∧W.cell? ⟨q,1,none⟩=some (.slice T nf U):=fun W ai hq=>⟨J (G ai be.o) 0,ab ai c0,ab ai c1,J hq 0,J hq 1⟩;refine s_ ?_;intro k5 k6;have cr:=c0;clear c0 c1 had;revert aD bf X bg zP aX ah Vn aY hl hwd CU bh bN bO bP cn cq cr;refine zO ?_;intro Fy Htq I1 nW mj HV ee Hnf BV Hl wF avd yK Hdr Hqr aEv HC gj LS;go_upto_region 8 with (fail);have bQ:=aH k5;have bT:=aH k6;clear k5 k6;go_cut [6,7] (fun v6 v7 W=>L6E w3 q w3.heap.size (.slice L np N) (.slice T nf U) ln l.2 x v6 v7 W)
    case first=>
     have bm:=gj.o _ (I1.o.trans ((dA (aL wr.heap.size wr)).mono I1.o.size)) ee.o;refine I7 (n:=13) (S:=fun W=>W.cell? ⟨lb,0,none⟩=some (.slice (some ⟨b,off,none⟩) n cp)∧W.cell? ⟨b,off+k*2,none⟩=some (.int .i64 ln)∧W.cell? ⟨b,off+k*2+1,none⟩=some (.slice Fv n2 c2)∧W.cell? ⟨q,0,none⟩=some (.slice L np N)∧W.cell? ⟨q,1,none⟩=some (.slice T nf U)) aA rfl (by exact bm) (fun ops hops=>?_);have C:Below wr.heap.size wr wr.drew:=dA (aL _ _);have aV:=bm;clear bm;generalize wr.drew=aE at C aV⊢;have aj:=O C;clear C;refine lr hops 0 ?_;refine lr hops 1 ?_;refine lr hops 2 ?_;have k5:=bQ.o;have k6:=bT.o;refine lr hops 3 ?_;clear k5 k6;refine lr hops 4 ?_;refine lr hops 5 ?_;refine OY hops (rs:=[6,10]) aA ae ?_;refine xF hops rfl aA (fun K hK=>?_) (xF hops rfl aA (fun K hK=>?_) ij)
     ·go_simp;have aF:=HC.o aE [] aj.o (fun k ay=>by simp at ay);refine EL aF (fun v jh hE=>?_);clear aF;have aZ:=hE.1;have aB:=hE.2;clear aV;have aV:=gj.o _ aZ.1 aZ.2.1;obtain⟨yj,Pp⟩:=ak aZ aB;clear aZ aB;clear hE;refine cK ?_;refine hK.out _ _ aV (fun hHeld=>?_);clear hHeld hK K;refine iN ?_;refine pr hops 7 ?_;refine pr hops 8 ?_;refine pr hops 9 ?_;refine oz hops 10 fun K hK=>?_;go_simp;obtain⟨k6,nu⟩:=Y jh.heap.size;obtain⟨gB,hu⟩:=Y (jh.alloc (.cells #[.slice none 0 0,.slice none 0 0] 25));have a6:Below jh.heap.size jh gB:=D8;have kj:gB.heap[k6]?=some (.cells #[.slice none 0 0,.slice none 0 0] 25 (0,0)):=ate;have bn:w3.heap.size≤k6:=by rw[nu];exact yj.o.1.size
      have bo:k6≠q:=by have:=(bS.1 yj.o.2.1).1;omega
      have F:=yj.o.alloc bL.o (.cells #[.slice none 0 0,.slice none 0 0] 25);rw[←hu,←nu]at F;clear aV;have aV:=gj.o _ F.1 F.2.1;rw[←hu];clear hu;revert a6 kj bn bo F;refine bU ?_;intro ct ns UY UZ qk;refine hK.out _ _ aV (fun hHeld=>?_);clear hHeld hK K;refine iN ?_;try rw[←nu]
      clear nu;exact aqb
     go_simp;obtain⟨k6,nu⟩:=Y aE.heap.size;obtain⟨jh,hu⟩:=Y (aE.alloc (.cells #[.slice none 0 0,.slice none 0 0] 25));have a6:Below aE.heap.size aE jh:=D8;have kj:jh.heap[k6]?=some (.cells #[.slice none 0 0,.slice none 0 0] 25 (0,0)):=ate;have bn:w3.heap.size≤k6:=by rw[nu];exact fu I1.o.size aj.o.size
     have cu:wr.heap.size≤k6:=by rw[nu];exact aj.o.size
     have bo:k6≠q:=by have:=Hqr.o;omega
     have aC:=aj.o.trans (a6.mono aj.o.size);clear aV;have aV:=gj.o _ (I1.o.trans (aC.mono I1.o.size)) (G aC ee.o);rw[←hu];clear hu;revert a6 kj bn cu bo aC;refine bX ?_;intro ct ns UY cv UZ aO;refine hK.out _ _ aV (fun hHeld=>?_);clear hHeld hK K;refine iN ?_;try rw[←nu]
     clear nu;refine oz hops 6 fun K hK=>?_;go_simp;have bV:wr.heap.size≤k6∧k6<jh.heap.size:=⟨cv.o,(bS.1 ns.o).1⟩;have aF:=HC.o jh [k6] aO.o (fun k ay=>by rw[gd.1 ay];exact bV);refine EL aF (fun v gB hE=>?_);clear aF;have F:=hE.1;have aB:=hE.2;have kj:=(aB k6 ae).trans ns.o;clear bV;clear aV;have aV:=gj.o _ F.1 F.2.1;obtain⟨qk,Pp,ns⟩:=aQ F aB kj;clear F aB kj;clear hE;refine cK ?_;refine hK.out _ _ aV (fun hHeld=>?_);clear hHeld hK K;refine iN ?_;refine pr hops 7 ?_;refine pr hops 8 ?_;refine pr hops 9 ?_;exact aqb
    case rest=>
     obtain⟨cw,v,rfl,rfl,kj,bW,bY,hQ⟩:=hcut;obtain⟨wq,vX⟩:=Y wc;rw[←vX]at kj hQ⊢;clear vX;by_cases C:v.bad=0
     ·have k1:(v.bad !=0)=false:=by rw[C];rfl
      obtain⟨y,t',b0,b3,b4,bp,cx⟩:∃y t',dy ln (az l.2 0) x=some y∧RcV wq t' w3.heap.size (.slice v.b1 v.n1 v.c1) (.slice v.b2 v.n2 v.c2) y∧(∀k,k<w3.heap.size→t' k=10)∧t' q=10∧∀k∈[cw],k<wq.heap.size∧t' k=10:=by
       rcases hQ.2.2 with⟨_,h⟩|⟨h,_⟩
       ·exact h
       exact absurd C h
      have b5:=J kj 0;have b6:=J kj 1;have a7:=J hQ.2.1 0;have a8:=J hQ.2.1 1;have cy:=aG hQ.2.1 0;have g1:=aG hQ.2.1 1;simp only[aq,ar,aw]at b5 b6 a7 a8;obtain⟨ws,dT⟩:=Y ((wq.setCell ⟨q,0,none⟩ (.slice v.b1 v.n1 v.c1)).setCell ⟨q,1,none⟩ (.slice v.b2 v.n2 v.c2));have bq:am (fun z=>z=q) wq ws:=by rw[dT];exact aN (aN (am.refl _ _) 0 _) 1 _
      have br:ws.heap[q]?=some (.cells #[.slice v.b1 v.n1 v.c1,.slice v.b2 v.n2 v.c2] 25 (0,0)):=by rw[dT];exact ag _ q 1 _ _ _ (ag _ q 0 _ _ _ hQ.2.1)
      have ba:RcV ws t' w3.heap.size (.slice v.b1 v.n1 v.c1) (.slice v.b2 v.n2 v.c2) y:=b3.to bq (fun z _ e=>by rw[e,bp];exact⟨Z,dF hQ.2.1 D⟩) fun _ _ _=>rfl;have b7:Below w3.heap.size w3 ws:=hQ.1.trans (bq.below hQ.1.size (by rintro z rfl;exact bL.o))
      have cz:P6I w3 q ls ro (k+1) ws:=by
       obtain⟨h1,cA⟩:=ba.reads;obtain⟨_,_,bs⟩:=rE h1;obtain⟨_,_,e2⟩:=rE cA;have bs:v.n1=y.pk.length:=by injection bs
       have e2:v.n2=y.pf.length:=by injection e2
       rw[bs,e2]at br ba
       have b8:dy l.1 (l.2.map NE) x=some y:=by
        have e:az l.2 0=l.2.map NE:=by unfold az;rw[List.drop_zero]
        rw[←e,←avd.o];exact b0
       exact⟨y,t',v.b1,v.c1,v.b2,v.c2,br,ba,b4,bp,b7,zqf nW.o b8,by rw[BV.o,goL_on b8]⟩
      revert bW bY hQ kj C b0 b3 b4 bp cx bq br ba b7 cz;refine uv ?_;intro cB cC cD ns aj _ _ _ _ _ _ _ _ _ cE;go_upto_region 12 with (fail);rw[←dT];clear dT b5 b6 a7 a8 cy g1;go_wp2_with fail;go_roundw
      case rel=>exact⟨k+1,Z,cj,cE.o⟩
      case measure=>exact gT
     have k1:(v.bad !=0)=true:=by simpa using C
     have b9:dy l.1 (l.2.map NE) x=none:=by
      have e:az l.2 0=l.2.map NE:=by unfold az;rw[List.drop_zero]
      rcases hQ.2.2 with⟨h,_⟩|⟨_,h⟩
      ·exact absurd h C
      rw[←e,←avd.o];exact h
     have u:=G hQ.1 aW.o;have cF:=J (G hQ.1 be.o) 0;have t0:=ab hQ.1 LS.o;have cG:=ax.o.trans (hQ.1.mono ax.o.size);have al:=J u 0;have f0:=aG u 0;have an:=J u 1;have f1:=aG u 1;have ao:=J u 2;have f2:=aG u 2;have au:=J u 3;have f3:=aG u 3;have av:=J u 4;have f4:=aG u 4;simp only[aq,ar,aw]at cF al an ao au av;have k5:=bQ.o;have k6:=bT.o;have aM:ro=none:=by rw[BV.o,goL_off b9]
     revert bW bY hQ kj C b9 u cG aM;refine fK ?_;intro cB cC cD ns aj _ bb cH bt;go_wp2_with fail;have bJ:=ztg (u':=.slice none 0 0) (v':=.slice none 0 0) (x':=ln) (y':=v.bad) (z':=2) bZ bb.o cH.o;refine WY ?_;exact⟨none,0,0,none,0,0,ln,v.bad,2,rfl,.inr ⟨bt.o,D⟩,bJ.2.1⟩
   obtain rfl:k=n:=Z;have O:ls.drop k=[]:=F7 (jg Hn.o.symm);rw[O]at aY;have u:=G X aW.o;have a7:=J ah 0;have a8:=J ah 1;have al:=J u 0;have f0:=aG u 0;have an:=J u 1;have f1:=aG u 1;have ao:=J u 2;have f2:=aG u 2;have au:=J u 3;have f3:=aG u 3;have av:=J u 4;have f4:=aG u 4;simp only[aq,ar,aw]at a7 a8 al an ao au av;have cI:=ax.o.trans (X.mono ax.o.size);have ca:g<w3.heap.size:=Yk;have cJ:=aD g ca;revert aD bf X bg aY zP aX ah Vn O u cI ca cJ;refine Sa ?_;intro Fy Htq I1 nW BV mj HV ee Hnf Hd bb Yw UL azq;go_wp2_with fail;have bJ:=ztg (u':=.slice L np N) (v':=.slice T nf U) (x':=0) (y':=0) (z':=0) bZ bb.o Yw.o;refine WY ?_;have cL:=HV.o.to (t':=bM) bJ.2.2 (fun z _ e=>by rw[e,azq.o];exact⟨Z,dF bb.o D⟩) fun _ _ _=>rfl;exact⟨L,np,N,T,nf,U,0,0,0,rfl,.inl ⟨x,BV.o,rfl,cL.reads⟩,bJ.2.1⟩
 have k1:(er !=0)=true:=by simpa using he
 have hq:=QQ.o;rw[E he]at hq;revert af dH hn aP aT bu aa bw A bx he hq;refine nL ?_;intro cd cf Hn cg ch ax be Mr aW bH bI bK;go_upto_region 2 with (fail);rw[←ea,←G9];clear ea G9;go_wp2_with fail;have bJ:=ztg (u':=.slice none 0 0) (v':=.slice none 0 0) (x':=a1) (y':=a2) (z':=er) bZ aW.o ax.o;refine WY ?_;exact⟨none,0,0,none,0,0,a1,a2,er,rfl,.inr ⟨bK.o,bI.o⟩,bJ.2.1⟩
end
section
open RowKit Shelf Lib av cy
attribute [local go_sem ↓] wp_at_zero wp_at_succ
theorem pk_seg{star:dj→Bool}{p:ap}{y:K5}(h:(p.gr.map (fun q=>((true,mf star q):K5))++p.ci.map (fun q=>(true,kC q)))[j]?=some y):(ip star p)[1+p.rel.length+p.vars.length+p.cl.length+j]?=some y:=by
 rw[show 1+p.rel.length+p.vars.length+p.cl.length+j=p.rel.length+(p.vars.length+(p.cl.length+j))+1 from Z];unfold ip;rw[aw,oX,oX,oX];have a:=(ie.1 h).1;rw[←gq,pS a];exact h
set_option linter.unusedVariables false in
theorem znv{x:ch}(h:mg w (.slice a1 n1 c1) (.slice a2 n2 c2) x)(aX:SpR x)(ah:∀p∈x.pk,∀q∈p.vars,q.2.length≤70000∧∀y∈q.2,y.size≤70000)(aY:∀q∈x.pf,q.2.1.length≤70000∧∀y∈q.2.1,y.size≤70000)(az:(nw (gz gP x)).length≤4398046511104):
  Calls prog 9 #[.agg #[.slice a1 n1 c1,.slice a2 n2 c2]] w fun e w'=>e=.returned (.tuple #[.string (rcR gP x).1,.bool (rcR gP x).2])∧Below w.heap.size w w':=by
 refine lM ?_;intro g hg;obtain⟨w0,hw0⟩:=Y (w.alloc (.cells #[.slice a1 n1 c1,.slice a2 n2 c2] 25));refine aos ?_;intro cM p0;obtain⟨L,hL⟩:=Y (gz gP x);refine apr ?_;intro fe CC;obtain⟨_,_,e1,dD,PS⟩:=zti fe;obtain⟨_,_,e2,xJ,EO⟩:=ztj CC;obtain⟨rfl,cz,rfl⟩:=JV e1;obtain⟨rfl,cS,rfl⟩:=JV e2;clear e1 e2;rw[←cz]at dD;rw[←cS]at xJ;rw[←hL]at az;have aZ:=J p0 0;simp only[aq,ar,aw]at aZ;obtain⟨res,hres⟩:=Y (rcR gP x);rw[←hres];obtain⟨Hh,Cb,nW,ayx,gM,cr,dR,kV,Hpf,Yu,U6,oY,fV,HL,dv,Jc⟩:=ke h aX ah aY az cM p0 fe CC PS EO cz cS hL dD xJ;have aB:=O hres;clear h aX ah aY az cM p0 fe CC PS EO cz cS hL dD xJ hres;go_enter func9,ntmps9;go_upto_region 1 with (fail);rw[←hw0,←hg];clear hw0 hg;go_wp2_with fail;clear aZ;go_loopw [4,16] (fun v i wr=>∃k:Nat,k≤n1∧i=.int .i64 k∧v=.string (ul L (((x.pk.take k).flatMap (ip gP)).length))∧Below w0.heap.size w0 wr) (fun _ i _=>n1-(RowKit.intOf i).toNat)
 case atStart=>exact⟨0,bj _,rfl,sU,aL _ _⟩
 case round=>
  obtain⟨k,N,rfl,rfl,aF⟩:=hrel;by_cases T:k<n1
  ·refine kG ?_;intro k5;have k6:(k:Int)<(n1:Int):=Z;have ad:k<9223372036854775807:=by have:=dv.o;omega
   have aI:k<x.pk.length:=J5;obtain⟨ai,a6⟩:=Y k;rw[←a6]at N T k5 k6 ad aI⊢;clear a6;obtain⟨p,hp⟩:=Y (x.pk[ai]);obtain⟨b,off,b2,Lj,b3,c3,b4,c4,b5,c5,b6,c6,b7,c7,rfl,d0,d1,d2,d3,d4,d5,d6,d7,B⟩:=Yu.o ai p asq;have d0:=ab aF d0;have d1:=ab aF d1;have d2:=ab aF d2;have d3:=ab aF d3;have d4:=ab aF d4;have d5:=ab aF d5;have d6:=ab aF d6;have d7:=ab aF d7;refine We ?_;intro m2 jP m3 qV m4 pK m5 yH m6 yN m7 iJ;obtain⟨nm,dJ⟩:=mq p.name;obtain⟨li,yi⟩:=mq p.line;rw[←jP]at d2 B;rw[←qV]at d3 B;rw[←pK]at d4 B;rw[←yH]at d5 B;rw[←yN]at d6 B;rw[←iJ]at d7 B;rw[dJ]at d0;rw[yi]at d1;clear jP qV pK yH yN iJ;have a7:=NQ B.1;have a8:=ND B.2.1;have bG:=xn B.2.2.1;have bH:=vC B.2.2.2.1;have bI:=vC B.2.2.2.2.1;have bL:=xn B.2.2.2.2.2;have ba:m4≤9223372036854775807:=by obtain⟨_,_,e,h,_⟩:=lK B.2.2.1;cases e;exact h
   have bb:m7≤9223372036854775807:=by obtain⟨_,_,e,h,_⟩:=lK B.2.2.2.2.2;cases e;exact h
   have bc:=a7.2.1;have bd:=a8.2.1;obtain⟨bE,aC⟩:=Y (((x.pk.take ai).flatMap (ip gP)).length);rw[←aC];have aD:∀j y,(ip gP p)[j]?=some y→L[bE+j]?=some y:=fun j y aj=>by rw[HL.o,aC];exact flat_at aI (by rw[←hp];exact aj)
   have U:=nW.o p (by rw[hp];exact eZ aI)
   have bN:(nw (qzu p)).length≤4398046511104:=by
    have h1:=tx_seg (L:=L) (R:=qzu p) (m:=bE+(1+p.rel.length+p.vars.length+p.cl.length)) (fun j y aj=>by have h1:=aD _ _ (pk_seg (star:=gP) aj);rw[←rn]at h1;exact h1) (qzu p).length (aE _);have au:=uh gM.o (bE+(1+p.rel.length+p.vars.length+p.cl.length)+(qzu p).length);rw[h1,iU]at au;have cx:(ul (qzu p) (qzu p).length).size=(nw (qzu p)).length:=by unfold ul;rw[lH (aE _)];rfl
    omega
   have aU:L[bE]?=some (false,[iK,p.name]):=by have h1:=aD 0 _ rfl;rw[mL]at h1;exact h1
   have bJ:=xm aU;have a_:=Dq aU gM.o;rw[zvu,dJ]at bJ;rw[zvu,dJ]at a_;have cy:nm.size≤4398046511104:=by rw[iU,iU]at a_;omega
   have C:=uh gM.o (bE);obtain⟨A,bW⟩:=Y (ul L (bE));rw[←bW]at C⊢;rw[←bW]at bJ;have cq:ul L (bE+1+0)=A++⟨#[112,97,99,107,97,103,101,32]⟩++nm++⟨#[10]⟩:=by rw[mL,bJ];simp only[DK]
   refine aeu ?_;intro wa cW za ll b9 pa y0;have be:=J pa 2;have bP:=aF.trans (b9.mono aF.size);have z:=J (G aF dR.o) 0;simp only[aq,ar,aw]at y0 be z;have bQ:Below wa.heap.size wa wa:=aL _ _;have bS:=B;revert aF hp B dJ yi a7 a8 bG bH bI bL aC aD U bN aU a_ bJ bW cq b9 pa bP bQ bS;refine OU ?_;intro bO Hp HR B4 Hli ga gZ vi tF yw Fw HMM MI aG Hrz fS ir iS kd dV gk l8 Hb0a Hbra HR0;have bf:=aH aI;have bT:=aH bc;have bU:=aH bd;have bV:=aH ba;have bX:=aH bb;clear bc bd ba bb;go_upto_region 6 with (fail);rw[←cW,←ll];clear cW ll d0 d1 d2 d3 d4 d5 d6 d7 z;obtain⟨wo,B2⟩:=Y wr;go_wp2_with fail;clear y0 be;rw[←dV.o];go_loopw [4,33] (fun v i wr=>∃k:Nat,k≤m2∧i=.int .i64 k∧v=.string (ul L (bE+1+k))∧Below wa.heap.size wa wr) (fun _ i _=>m2-(RowKit.intOf i).toNat)
   case atStart=>exact⟨0,bj _,rfl,sU,Hbra.o⟩
   case round=>
    obtain⟨k,N,rfl,rfl,aF⟩:=hrel;by_cases T:k<m2
    ·refine kG ?_;intro k5;have k6:(k:Int)<(m2:Int):=Z;have ad:k<9223372036854775807:=by have:=bT.o;omega
     have aI:k<p.rel.length:=by have:=ga.o.1;omega
     obtain⟨q,hq⟩:=Y (p.rel[k]);obtain⟨e0,off,rfl,d0,d1⟩:=ga.o.2.2 k q S8;have d0:=ab (Hb0a.o.trans (aF.mono Hb0a.o.size)) d0;have d1:=ab (Hb0a.o.trans (aF.mono Hb0a.o.size)) d1;have aU:=MI.o _ _ (pk_rel (star:=gP) aI);rw[show bE+(1+k)=bE+1+k from S_]at aU;rw[←hq]at aU;obtain⟨v,o⟩:=q;dsimp only at d0 d1 aU;have bJ:=xm aU;have a_:=Dq aU gM.o;rw[rel_text]at bJ a_;have ae:v.size≤4398046511104:=by exact OI
     have C:=uh gM.o (bE+1+k);obtain⟨A,bW⟩:=Y (ul L (bE+1+k));rw[←bW]at C⊢;have z:=J (G aF l8.o) 2;simp only[aq,ar,aw]at z;rw[←bW]at bJ
     cases o with
     |true=>
      have cq:ul L (bE+1+k+1)=A++⟨#[32,32,118,101,114,115,105,111,110,32]⟩++v++⟨#[32,111,108,100]⟩++⟨#[10]⟩:=by rw[bJ];refine xC ?_;simp[fd]
      exact akz
     |false=>
      have cq:ul L (bE+1+k+1)=A++⟨#[32,32,118,101,114,115,105,111,110,32]⟩++v++⟨#[10]⟩:=by rw[bJ];refine xC ?_;simp[fd]
      exact akz
    obtain rfl:m2=k:=Z;clear T N;rw[show bE+1+m2=bE+(1+m2)+0 from Z];have z:=J (G aF l8.o) 3;simp only[aq,ar,aw]at z;have bO:=O aF;clear aF;go_wp2_with fail;clear z;go_loopw [4,59] (fun v i wr=>∃k:Nat,k≤m3∧i=.int .i64 k∧v=.string (ul L (bE+(1+m2)+k))∧Below wa.heap.size wa wr) (fun _ i _=>m3-(RowKit.intOf i).toNat)
    case atStart=>exact⟨0,bj _,rfl,sU,bO.o⟩
    case round=>
     obtain⟨k,N,rfl,rfl,aF⟩:=hrel;by_cases T:k<m3
     ·refine kG ?_;intro k5;have k6:(k:Int)<(m3:Int):=Z;have ad:k<9223372036854775807:=by have:=bU.o;omega
      have aI:k<p.vars.length:=by have:=gZ.o.1;omega
      obtain⟨q,hq⟩:=Y (p.vars[k]);obtain⟨e0,off,e1,g1,rfl,d0,d1,F⟩:=gZ.o.2.2 k q S8;have U:=aG.o q (by rw[hq];exact eZ aI);have af:=Hb0a.o.trans (aF.mono Hb0a.o.size);have d0:=ab af d0;have d1:=ab af d1;have F:=iY F af;have aU:=MI.o _ _ (pk_var (star:=gP) aI);rw[show bE+(1+p.rel.length+k)=bE+(1+m2)+k from S_]at aU;rw[←hq]at aU;obtain⟨v,l⟩:=q;dsimp only at d0 d1 aU F U;have bJ:=xm aU;have a_:=Dq aU gM.o;rw[var_text]at bJ a_;have C:=uh gM.o (bE+(1+m2)+k);obtain⟨A,bW⟩:=Y (ul L (bE+(1+m2)+k));rw[←bW]at C⊢;have z:=J (G aF l8.o) 3;simp only[aq,ar,aw]at z;have ae:v.size≤4398046511104∧(iM l).size≤4398046511104:=by exact OI
      obtain⟨bY,aJ⟩:=ae;obtain⟨nl,fp⟩:=Y l.length;rw[←fp]at d1 F;rw[←bW]at bJ;obtain⟨lw,Mt⟩:=Y (iM l);have al:=zpc (w:=wr.drew) (iY F (dA (aL _ _))) U.1 U.2;rw[←Mt]at bJ aJ al;have cq:ul L (bE+(1+m2)+k+1)=A++⟨#[32,32,118,97,114,105,97,110,116,32]⟩++v++lw++⟨#[10]⟩:=by rw[bJ];simp only[DK]
      have bZ:¬9223372036854775807<A.size+10:=Z;have b0:¬9223372036854775807<A.size+10+v.size:=Z;have b1:¬9223372036854775807<A.size+10+v.size+lw.size:=Z;have b8:¬9223372036854775807<A.size+10+v.size+lw.size+1:=Z;have aV:wr.drew.cell? ⟨za,3,none⟩=some (.slice (some ⟨e0,off,none⟩) m3 c3)∧wr.drew.cell? ⟨e0,off+k*2,none⟩=some (.string v)∧wr.drew.cell? ⟨e0,off+k*2+1,none⟩=some (.slice e1 nl g1):=⟨z,d0,d1⟩;have aK:=aF.trans ((dA (aL wr.heap.size wr)).mono aF.size);revert aF hq U aU a_ bW F fp bJ Mt al cq aK;refine zN ?_;intro bO Hq aG fS ir kd ca cb iS cc Bi dV dI;go_upto_region 18 with (fail);refine I7 (n:=19) (S:=fun W=>W.cell? ⟨za,3,none⟩=some (.slice (some ⟨e0,off,none⟩) m3 c3)∧W.cell? ⟨e0,off+k*2,none⟩=some (.string v)∧W.cell? ⟨e0,off+k*2+1,none⟩=some (.slice e1 nl g1)) aA rfl Oe (fun ops hops=>?_);revert aV Bi dI;refine adv ?_;intro w' Bi dI;go_wp2_with fail;go_roundw
      case rel=>exact⟨_,_,_,⟨k+1,Z,cj,Mo,dI.o⟩,rfl,rfl,rfl⟩
      case measure=>exact gT
     obtain rfl:m3=k:=Z;clear T N;rw[show bE+(1+m2)+m3=bE+(1+m2+m3)+0 from Z];have z:=J (G aF l8.o) 4;simp only[aq,ar,aw]at z;have bO:=O aF;clear aF;go_wp2_with fail;clear z;go_loopw [4,84] (fun v i wr=>∃k:Nat,k≤m4∧i=.int .i64 k∧v=.string (ul L (bE+(1+m2+m3)+k))∧Below wa.heap.size wa wr) (fun _ i _=>m4-(RowKit.intOf i).toNat)
     case atStart=>exact⟨0,bj _,rfl,sU,bO.o⟩
     case round=>
      obtain⟨k,N,rfl,rfl,aF⟩:=hrel;by_cases T:k<m4
      ·refine kG ?_;intro k5;have k6:(k:Int)<(m4:Int):=Z;have ad:k<9223372036854775807:=by have:=bV.o;omega
       have aI:k<p.cl.length:=by have:=vi.o.1;omega
       obtain⟨v,hv⟩:=Y (p.cl[k]);obtain⟨e0,off,rfl,d0⟩:=vi.o.2 k (.string v) SY;have d0:=ab (Hb0a.o.trans (aF.mono Hb0a.o.size)) d0;have aU:=MI.o _ _ (pk_prov (star:=gP) aI);rw[show bE+(1+p.rel.length+p.vars.length+k)=bE+(1+m2+m3)+k from S_]at aU;rw[←hv]at aU;have bJ:=xm aU;have a_:=Dq aU gM.o;rw[prov_text]at bJ a_;have ae:v.size≤4398046511104:=by rw[iU,iU]at a_;omega
       have C:=uh gM.o (bE+(1+m2+m3)+k);obtain⟨A,bW⟩:=Y (ul L (bE+(1+m2+m3)+k));rw[←bW]at C⊢;have z:=J (G aF l8.o) 4;simp only[aq,ar,aw]at z;rw[←bW]at bJ;have cq:ul L (bE+(1+m2+m3)+k+1)=A++⟨#[32,32,112,114,111,118,105,100,101,115,32]⟩++v++⟨#[10]⟩:=by rw[bJ];simp only[DK]
       exact amp
      obtain rfl:m4=k:=Z;clear T N;rw[show bE+(1+m2+m3)+m4=bE+(1+m2+m3+m4) from Z];have af:=Hb0a.o.trans (aF.mono Hb0a.o.size);have bg:=zy4 (w:=wr) (nm:=nm) (li:=li) (HR0.o.below af) (Cb.o p (by rw[Hp.o];exact eZ bf.o)) Hrz.o;have X:=G aF l8.o;have bh:=J X 0;have bk:=J X 1;have bl:=J X 2;have bm:=J X 3;have bn:=J X 4;have bo:=J X 5;have bp:=J X 6;have bq:=J X 7;simp only[aq,ar,aw]at bh bk bl bm bn bo bp bq;have aa:=tx_seg (L:=L) (R:=qzu p) (m:=bE+(1+m2+m3+m4)) (fun j y aj=>by have h1:=MI.o _ _ (pk_seg (star:=gP) aj);rw[←rn]at h1;rw[ga.o.1,gZ.o.1,vi.o.1];rw[show bE+(1+p.rel.length+p.vars.length+p.cl.length)+j=bE+(1+p.rel.length+p.vars.length+p.cl.length)+j from rfl];exact h1) (qzu p).length (aE _);have br:(qzu p).length=m5+m6:=by rw[tF.o.1,yw.o.1];unfold qzu;rw[bM,gi,gi]
      obtain⟨rt,bs⟩:=Y (ul (qzu p) (qzu p).length);rw[←bs]at bg aa;rw[br]at aa;have cA:rt.size≤4398046511104:=by have h1:=uh gM.o (bE+(1+m2+m3+m4)+(m5+m6));rw[aa,iU]at h1;omega
      have aa:ul L (bE+(1+m2+m3+m4+(m5+m6))+0)=ul L (bE+(1+m2+m3+m4))++rt:=by
       rw[←aa];congr 1;omega
      have C:=uh gM.o (bE+(1+m2+m3+m4));obtain⟨A,bW⟩:=Y (ul L (bE+(1+m2+m3+m4)));rw[←bW]at C⊢;rw[←bW]at aa;revert aF af X br bg bs aa bW;refine fg ?_;intro bO cU kU aDl HRl H_ L9 kd;go_wp2_with fail;refine HRl.o.mono ?_;rintro e w3 ⟨rfl,aM⟩;have aN:=bO.o.trans (aM.mono bO.o.size);have z:=J (G aN l8.o) 7;simp only[aq,ar,aw]at z;clear bh bk bl bm bn bo bp bq;obtain⟨bK,x_⟩:=ak aM aN;clear aM aN;go_wp2_with fail;clear z;rw[←L9.o];go_loopw [4,104] (fun v i wr=>∃k:Nat,k≤m7∧i=.int .i64 k∧v=.string (ul L (bE+(1+m2+m3+m4+(m5+m6))+k))∧Below wa.heap.size wa wr) (fun _ i _=>m7-(RowKit.intOf i).toNat)
      case atStart=>exact⟨0,bj _,rfl,sU,x_.o⟩
      case round=>
       obtain⟨k,N,rfl,rfl,aF⟩:=hrel;by_cases T:k<m7
       ·refine kG ?_;intro k5;have k6:(k:Int)<(m7:Int):=Z;have ad:k<9223372036854775807:=by have:=bX.o;omega
        have aI:k<p.files.length:=by have:=Fw.o.1;omega
        obtain⟨v,hv⟩:=Y (p.files[k]);obtain⟨e0,off,rfl,d0⟩:=Fw.o.2 k (.string v) SY;have d0:=ab (Hb0a.o.trans (aF.mono Hb0a.o.size)) d0;have aU:=MI.o _ _ (pk_file (star:=gP) aI);rw[show bE+(1+p.rel.length+p.vars.length+p.cl.length+p.gr.length+p.ci.length+k)=bE+(1+m2+m3+m4+(m5+m6))+k from S_]at aU;rw[←hv]at aU;have bJ:=xm aU;have a_:=Dq aU gM.o;rw[file_text]at bJ a_;have ae:v.size≤4398046511104:=by rw[iU,iU]at a_;omega
        have C:=uh gM.o (bE+(1+m2+m3+m4+(m5+m6))+k);obtain⟨A,bW⟩:=Y (ul L (bE+(1+m2+m3+m4+(m5+m6))+k));rw[←bW]at C⊢;have z:=J (G aF l8.o) 7;simp only[aq,ar,aw]at z;rw[←bW]at bJ;have cq:ul L (bE+(1+m2+m3+m4+(m5+m6))+k+1)=A++⟨#[32,32,102,105,108,101,32]⟩++v++⟨#[10]⟩:=by rw[bJ];simp only[DK]
        exact amp
       obtain rfl:m7=k:=Z;clear T N;have bt:=Hb0a.o.trans (aF.mono Hb0a.o.size);have aO:bE+(1+m2+m3+m4+(m5+m6))+m7=((x.pk.take (ai+1)).flatMap (ip gP)).length:=by rw[zwg bf.o,←Hp.o,ybf,←HMM.o,ga.o.1,gZ.o.1,vi.o.1,tF.o.1,yw.o.1,Fw.o.1];omega
       rw[aO];obtain⟨cd,_,bO⟩:=aQ bt aO aF;clear bt aO aF;go_wp2_with fail;go_roundw
       case rel=>exact⟨ai+1,Z,cj,rfl,cd.o⟩
       case measure=>exact gT
  obtain rfl:n1=k:=Z;clear T N;have bu:x.pk.take n1=x.pk:=lH (jg oY.o.symm);rw[bu];obtain⟨bE,hM⟩:=Y ((x.pk.flatMap (ip gP)).length);rw[←hM];have z:=J (G aF dR.o) 1;simp only[aq,ar,aw]at z;revert aF bu hM;refine fo ?_;intro bO jd HM;go_wp2_with fail;clear z;go_loopw [4,121] (fun v i wr=>∃k:Nat,k≤n2∧i=.int .i64 k∧v=.string (ul L (bE+k))∧Below w0.heap.size w0 wr) (fun _ i _=>n2-(RowKit.intOf i).toNat)
  case atStart=>exact⟨0,bj _,rfl,sU,bO.o⟩
  case round=>
   obtain⟨k,N,rfl,rfl,aF⟩:=hrel;by_cases T:k<n2
   ·refine Bn ?_;intro k5 k6;have ad:k<9223372036854775807:=by have:=Jc.o;omega
    have aI:k<x.pf.length:=EB;obtain⟨q,hq⟩:=Y (x.pf[k]);obtain⟨b,off,e1,g1,rfl,d0,d1,d2,F⟩:=U6.o k q S8;have U:=ayx.o q (by rw[hq];exact eZ aI);have d0:=ab aF d0;have d1:=ab aF d1;clear d2;have F:=iY F aF;have aU:L[bE+k]?=some (false,om q):=by rw[HL.o,HM.o,hq];exact rc_pref aI
    obtain⟨v,l,_⟩:=q;dsimp only at d0 d1 F aU U;have bJ:=xm aU;have a_:=Dq aU gM.o;rw[pref_text]at bJ a_;have C:=uh gM.o (bE+k);obtain⟨A,bW⟩:=Y (ul L (bE+k));rw[←bW]at C⊢;have z:=J (G aF dR.o) 1;simp only[aq,ar,aw]at z;have ae:v.size≤4398046511104∧(iM l).size≤4398046511104:=by exact OI
    obtain⟨bY,aJ⟩:=ae;obtain⟨nl,fp⟩:=Y l.length;rw[←fp]at d1 F;rw[←bW]at bJ;obtain⟨lw,Mt⟩:=Y (iM l);have al:=zpc (w:=wr.drew) (iY F (dA (aL _ _))) U.1 U.2;rw[←Mt]at bJ aJ al;have cq:ul L (bE+k+1)=A++⟨#[112,114,101,102,101,114,32]⟩++v++lw++⟨#[10]⟩:=by rw[bJ];simp only[DK]
    have bZ:¬9223372036854775807<A.size+7:=Z;have b0:¬9223372036854775807<A.size+7+v.size:=Z;have b1:¬9223372036854775807<A.size+7+v.size+lw.size:=Z;have b8:¬9223372036854775807<A.size+7+v.size+lw.size+1:=Z;have aV:wr.drew.cell? ⟨g,1,none⟩=some (.slice (some ⟨b,off,none⟩) n2 c2)∧wr.drew.cell? ⟨b,off+k*3,none⟩=some (.string v)∧wr.drew.cell? ⟨b,off+k*3+1,none⟩=some (.slice e1 nl g1):=⟨z,d0,d1⟩;have aK:=aF.trans ((dA (aL wr.heap.size wr)).mono aF.size);revert aF hq U aU a_ bW F fp bJ Mt al cq aK;refine zN ?_;intro bO Hq aG fS ir kd ca cb iS cc Bi dV dI;go_upto_region 35 with (fail);refine I7 (n:=19) (S:=fun W=>W.cell? ⟨g,1,none⟩=some (.slice (some ⟨b,off,none⟩) n2 c2)∧W.cell? ⟨b,off+k*3,none⟩=some (.string v)∧W.cell? ⟨b,off+k*3+1,none⟩=some (.slice e1 nl g1)) aA rfl Oe (fun ops hops=>?_);revert aV Bi dI;refine adv ?_;intro w' Bi dI;go_wp2_with fail;go_roundw
    case rel=>exact⟨k+1,Z,cj,Mo,dI.o⟩
    case measure=>exact gT
   obtain rfl:n2=k:=Z;clear T N;have ag:=G aF dR.o;have cf:L.length=bE+n2:=asr;obtain⟨s,hs⟩:=Y (rcT gP x);have aP:ul L (bE+n2)=s:=by rw[hs];unfold ul rcT;rw[lH Z,HL.o]
   rw[aP];have a_:s.size≤4398046511104:=by rw[←aP];exact uh gM.o _
   have aR:=zyo s Z (w:=wr);have e2:mI s.data.toList=mI (nw (gz gP x)):=by rw[hs];rfl
   rw[e2]at aR;unfold R6Post at aR;revert aF ag cf hs aP aR e2;refine eb ?_;intro bO aT _ cg _ HP _;go_wp2_with fail;refine qJ ?_;rintro e w4 ⟨a3,m3,c3,a4,m4,c4,x1,x2,er,rfl,hc,bA⟩;obtain⟨w5,eT⟩:=Y (w4.alloc (.cells #[.slice a3 m3 c3,.slice a4 m4 c4,.int .i64 x1,.int .i64 x2,.int .i64 er] 72));obtain⟨zy,sO⟩:=Y w4.heap.size;have an:Below w4.heap.size w4 w5:=Mx;have ao:w5.heap[zy]?=some (.cells #[.slice a3 m3 c3,.slice a4 m4 c4,.int .i64 x1,.int .i64 x2,.int .i64 er] 72 (0,0)):=by rw[eT,sO];exact dq _ _
   have av:=bA.trans (an.mono bA.size);have aW:=bO.o.trans (av.mono bO.o.size);have ax:=cr.o.trans (aW.mono cr.o.size);have ag:=G av aT.o;have y0:=J ao 0;have bw:=J ao 1;have bx:=J ao 4;have bB:=J ag 0;have bC:=J ag 1;simp only[aq,ar,aw]at y0 bw bx bB bC;go_upto_region 38 with (fail);rw[←eT,←sO];clear eT sO;rcases hc with⟨y,hy,rfl,B⟩|⟨ho,bD⟩
   ·have ck:((0:Int) !=0)=false:=rfl;have bF:=zlq (w:=w5) (x:=y) (y:=x) ⟨bz Fk _ _ _ _ B.1 an,bz AI _ _ _ _ B.2 an⟩ ⟨bz Fk _ _ _ _ Hh.o.1 ax,bz AI _ _ _ _ Hh.o.2 ax⟩;obtain⟨sm,ah⟩:=Y (zd y x);rw[←ah]at bF;revert bA an av aW ax ag hy B ao bF ah;refine kH ?_;intro cm cn cp cu oL aT Hy HR cv U2 nW;go_wp2_with fail;refine U2.o.mono ?_;rintro e w6 ⟨rfl,cX⟩;have Zt:=oL.o.trans (cX.mono oL.o.size);clear y0 bw bx bB bC
    cases sm with
    |true=>
     have hr:res=(s,true):=by rw[aB.o,AS ⟨y,Hy.o,JK.1 nW.o.symm⟩,cg.o]
     exact Ry
    |false=>
     have hr:res=(fd,false):=by rw[aB.o,Be];rintro⟨y',ay,cw⟩;have h1:=Hy.o;rw[ay]at h1;cases h1;have au:=JK.2 cw;rw[←nW.o]at au;cases au
     exact Ry
   have ck:(er !=0)=true:=by simpa using bD
   have hr:res=(fd,false):=by rw[aB.o,Be];rintro⟨y',ay,_⟩;rw[ho]at ay;cases ay
   revert bA an av aW ax ag ao ho bD hr;refine dE ?_;intro cm cn cv cp cu oL aT _ _ Hr;exact RR
end
end Go.Proofs.YthgibhhbmmkjmaaGreatDoor
