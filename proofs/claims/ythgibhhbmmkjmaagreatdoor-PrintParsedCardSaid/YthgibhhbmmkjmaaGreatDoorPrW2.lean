/- Walks and plain facts. Condition: none beyond what each says. -/
import Derived.Test.YthgibhhbmmkjmaaGreatDoorPrW1
import Derived.Test.YthgibhhbmmkjmaaGreatDoorRows
set_option linter.unusedVariables false
set_option linter.unusedSimpArgs false
set_option maxRecDepth 10000
set_option maxHeartbeats 40000000
namespace Go.Proofs.YthgibhhbmmkjmaaGreatDoor
open Go.Proofs.Tryz
variable {B N b bs c c1 c2 c3 c4 c5 c6 c7 cap d3 d4 e2 f g hi i j k lo m m2 m3 m4 m5 n n1 n2 r sz x:Nat}
variable {S T:Nat→Prop}
variable {W W' w w' w0 w1 w3 w9:World}
variable {a a1 a2 b2 b3 b4 b5 b6 d2:Option Addr}
variable {args cs tmps:Array Value}
variable {bN:List (List Value)}
variable {e:TypeId}
variable {l pre:List ByteArray}
variable {q s:ByteArray}
variable {ov sv u u2 v v' v1 v2 v3 v4 v5 v7 v9 y z:Value}
variable {p:List UInt8}
variable {t:Nat→Nat}
section
open RowKit Lib av
set_option linter.unusedSimpArgs false
theorem size0(h:s.size=0):s=⟨#[]⟩:=em.ext ((mc s).2 h)
theorem jn_lo(lo hi a b:ByteArray)(c:eg (lo.data.toList,hi.data.toList)=true)(m2:eg (a.data.toList,b.data.toList)=true):(jnV lo hi a b).1=if a.size=0∨(lo.size≠0∧oy a.data.toList lo.data.toList=true) then a else lo:=by
 unfold jnV;rw[M ⟨c,m2⟩];show (if lo.size≠0∧a.size≠0 then mR lo a else ⟨#[]⟩)=_;by_cases h1:a.size=0
 ·exact apf
 by_cases h2:lo.size=0
 ·rw[E (fun h=>h.1 h2),E atx];exact (size0 h2).symm
 rw[M ⟨h2,h1⟩];unfold mR;have e:ja a.data.toList lo.data.toList=oy a.data.toList lo.data.toList:=by rw[Np,aO (show a.data.toList≠[] from fun e=>h1 ((mc a).1 e)),aO (show lo.data.toList≠[] from fun e=>h2 ((mc lo).1 e))];rfl
 rw[e];simp[h1,h2]
theorem jn_hi(lo hi b a:ByteArray)(c:eg (lo.data.toList,hi.data.toList)=true)(m2:eg (b.data.toList,a.data.toList)=true):(jnV lo hi b a).2=if a.size=0∨(hi.size≠0∧oy hi.data.toList a.data.toList=true) then a else hi:=by
 unfold jnV;rw[M ⟨c,m2⟩];show (if hi.size≠0∧a.size≠0 then mN hi a else ⟨#[]⟩)=_;by_cases h1:a.size=0
 ·exact apf
 by_cases h2:hi.size=0
 ·rw[E (fun h=>h.1 h2),E atx];exact (size0 h2).symm
 rw[M ⟨h2,h1⟩];unfold mN;have e:ja hi.data.toList a.data.toList=oy hi.data.toList a.data.toList:=by rw[Np,aO (show hi.data.toList≠[] from fun e=>h2 ((mc hi).1 e)),aO (show a.data.toList≠[] from fun e=>h1 ((mc a).1 e))];rfl
 rw[e];simp[h1,h2]
theorem zye(lo hi lp hj:ByteArray)(t:lo.size≤1000000)(u:hi.size≤1000000)(v:lp.size≤1000000)(y:hj.size≤1000000)(n:eg (lo.data.toList,hi.data.toList)=true)(m2:eg (lp.data.toList,hj.data.toList)=true)(w:World):Calls prog 135 #[.agg #[.string lo,.string hi],.agg #[.string lp,.string hj]] w fun e w'=>e=.returned (.agg #[.string (jnV lo hi lp hj).1,.string (jnV lo hi lp hj).2])∧Below w.heap.size w w':=by
 refine RT ?_;intro w0 bw nb ck hw cM ha a0 a1 a2 a3 hb b0 b1 b2 b3 hr r0 r1 r2 r3;have q:=fun(W:World)(_:Below w0.heap.size w0 W)=>Jo lp lo v t W;have r:=fun(W:World)(_:Below w0.heap.size w0 W)=>Jo hi hj u y W;have l:=jn_lo lo hi lp hj n m2;have m:=jn_hi lo hi lp hj n m2;obtain⟨rx,EV⟩:=Y (oy lp.data.toList lo.data.toList);obtain⟨ry,FA⟩:=Y (oy hi.data.toList hj.data.toList);refine ala ?_;intro d1 k1 d2 k2 d3 k3 d4 k4;rw[←EV]at l;rw[←FA]at m;have l:(jnV lo hi lp hj).1=if d1=true∨(d2=false∧rx=true) then lp else lo:=by rw[l,←k1,←k2];simp only[em.ii,pQ,vw,fE]
 have m:(jnV lo hi lp hj).2=if d3=true∨(d4=false∧ry=true) then hj else hi:=by rw[m,←k3,←k4];simp only[em.ii,pQ,vw,fE]
 have z:w.heap.size≤nb+1+1:=Z;obtain⟨_,s⟩:=Y ((jnV lo hi lp hj).1);obtain⟨vv2,auu⟩:=Y ((jnV lo hi lp hj).2);rw[←s]at l⊢;rw[←auu]at m⊢;rw[←EV]at q;rw[←FA]at r;clear EV FA n m2 s auu;revert hw cM ha hb hr q r z l m;refine dE ?_;intro Hw cr Ha Hb Hr HX HY iP Hlv abs;go_enter func135,ntmps135;go_upto_region 1 with (fail);refine mn ?_;clear bw ck;go_upto_region 2 with (fail);obtain⟨w1,hv⟩:=Y (w0.alloc (.cells #[.string lo,.string hi] 51));obtain⟨go,hg⟩:=Y w0.heap.size;have hs:Below w0.heap.size w0 w1:=YZ;have A:=cr.o.trans (hs.mono cr.o.size);have B:w0.heap.size≤go:=by rw[hg];exact cr.o.size
 have C:nb≠go:=aun;have F:nb+1≠go:=auo;have K:nb+1+1≠go:=aup;revert a0 a1 a2 a3 b0 b1 b2 b3 r0 r1 r2 r3 Ha Hb Hr;refine Bj ?_;intro ha a0 a1 a2 a3 hb b0 b1 b2 b3 hr r0 r1 r2 r3;have ho:w1.heap[go]?=some (.cells #[.string lo,.string hi] 51 (0,0)):=Td;obtain⟨o0,o1,o2,o3⟩:=cP ho;rw[←hv,←hg];clear hv hg;revert hs A B C F K ha hb hr ho;refine dE ?_;intro Hs aB vh YB YC YD Ha Hb Hr Ho
 cases d1 with
 |false=>
  cases d2 with
  |false=>
   go_wp2_with fail
   refine (HX.o _ aB.o).mono ?_;refine OD ?_;intro w2 hs af;revert a0 a1 a2 a3 b0 b1 b2 b3 r0 r1 r2 r3 o0 o1 o2 o3 Ha Hb Hr Ho;refine tc ?_;intro ha a0 a1 a2 a3 hb b0 b1 b2 b3 hr r0 r1 r2 r3 ho o0 o1 o2 o3;revert hs af ha hb hr ho;refine bX ?_;intro Hs bh Ha Hb Hr Ho
   cases rx with
   |false=>
    cases d3 with
    |false=>
     cases d4 with
     |false=>
      go_wp2_with fail
      refine (HY.o _ bh.o).mono ?_;rintro e w3 ⟨rfl,hs⟩;have aM:=bh.o.trans (hs.mono bh.o.size);revert a0 a1 a2 a3 b0 b1 b2 b3 r0 r1 r2 r3 o0 o1 o2 o3 Ha Hb Hr Ho;refine tc ?_;intro ha a0 a1 a2 a3 hb b0 b1 b2 b3 hr r0 r1 r2 r3 ho o0 o1 o2 o3;revert hs aM ha hb hr ho;refine bX ?_;intro Hs bK Ha Hb Hr Ho
      cases ry with
      |false=>exact Ru
      |true=>
       go_upto_region 6 with (fail)
       refine Xj ?_;intro w4 hv bA;revert a0 a1 a2 a3 b0 b1 b2 b3 r0 r1 r2 r3 Ha Hb Hr;refine R3 ?_;intro ha a0 a1 a2 a3 hb b0 b1 b2 b3 hr r0 r1 r2 r3;have ho:w4.heap[go]?=some (.cells #[.string lo,.string hj] 51 (0,0)):=tL;exact agi
     |true=>exact RC
    |true=>exact aqd
   |true=>
    go_upto_region 4 with (fail)
    obtain⟨w3,hv⟩:=Y (w2.setCell ⟨go,0,none⟩ (.string lp));have aM:Below w0.heap.size w0 w3:=by rw[hv];exact bh.o.setCell (p:=⟨go,0,none⟩) vh.o _
    revert a0 a1 a2 a3 b0 b1 b2 b3 Ha Hb;refine VT ?_;intro ha a0 a1 a2 a3 hb b0 b1 b2 b3 hr;clear Hr r0 r1 r2 r3;obtain⟨r0,r1,r2,r3⟩:=cP hr;have ho:w3.heap[go]?=some (.cells #[.string lp,.string hi] 51 (0,0)):=OR;revert o0 o1 o2 o3 Ho hv;refine pV ?_;intro o0 o1 o2 o3;revert aM ha hb hr ho;refine bU ?_;intro bK Ha Hb Hr Ho
    cases d3 with
    |false=>
     cases d4 with
     |false=>
      go_wp2_with fail
      refine (HY.o _ bK.o).mono ?_;revert a0 a1 a2 a3 b0 b1 b2 b3 r0 r1 r2 r3 o0 o1 o2 o3 Ha Hb Hr Ho;refine Gn ?_;intro w4 a0 a1 a2 a3 b0 b1 b2 b3 r0 r1 r2 r3 o0 o1 o2 o3 Hs dL Ha Hb Hr Ho
      cases ry with
      |false=>exact ank
      |true=>
       go_upto_region 6 with (fail)
       refine Xk ?_;intro w5 hv aW;revert a0 a1 a2 a3 b0 b1 b2 b3 r0 r1 r2 r3 Ha Hb Hr;refine KO ?_;intro ha a0 a1 a2 a3 hb b0 b1 b2 b3 hr r0 r1 r2 r3;have ho:w5.heap[go]?=some (.cells #[.string lp,.string hj] 51 (0,0)):=tL;revert o0 o1 o2 o3 Ho hv;refine pV ?_;intro o0 o1 o2 o3;revert aW ha hb hr ho;refine bU ?_;intro cQ Ha Hb Hr Ho;go_wp2_with fail;refine zG ?_;exact⟨zZ PC PD,ik _ _ (eG Hw.o cQ.o) iP.o⟩
     |true=>exact Ru
    |true=>exact aek
  |true=>
   cases d3 with
   |false=>
    cases d4 with
    |false=>
     go_wp2_with fail
     refine (HY.o _ aB.o).mono ?_;refine OD ?_;intro w2 hs af;revert a0 a1 a2 a3 b0 b1 b2 b3 r0 r1 r2 r3 o0 o1 o2 o3 Ha Hb Hr Ho;refine tc ?_;intro ha a0 a1 a2 a3 hb b0 b1 b2 b3 hr r0 r1 r2 r3 ho o0 o1 o2 o3;revert hs af ha hb hr ho;refine bX ?_;intro Hs bh Ha Hb Hr Ho
     cases ry with
     |false=>exact RC
     |true=>exact aqd
    |true=>
     go_wp2_with fail
     refine zG ?_;exact⟨zZ PC PD,ik _ _ (eG Hw.o aB.o) iP.o⟩
   |true=>
    go_upto_region 6 with (fail)
    obtain⟨w2,hv⟩:=Y (w1.setCell ⟨go,1,none⟩ (.string hj));have af:Below w0.heap.size w0 w2:=by rw[hv];exact aB.o.setCell (p:=⟨go,1,none⟩) vh.o _
    revert a0 a1 a2 a3 b0 b1 b2 b3 Ha Hb;refine amw ?_;intro ha a0 a1 a2 a3 hb b0 b1 b2 b3 hr;clear Hr r0 r1 r2 r3;obtain⟨r0,r1,r2,r3⟩:=cP hr;have ho:w2.heap[go]?=some (.cells #[.string lo,.string hj] 51 (0,0)):=tL;revert o0 o1 o2 o3 Ho hv;refine pV ?_;intro o0 o1 o2 o3;revert af ha hb hr ho;refine bU ?_;intro bh Ha Hb Hr Ho;exact RC
 |true=>
  go_upto_region 4 with (fail)
  obtain⟨w2,hv⟩:=Y (w1.setCell ⟨go,0,none⟩ (.string lp));have af:Below w0.heap.size w0 w2:=by rw[hv];exact aB.o.setCell (p:=⟨go,0,none⟩) vh.o _
  revert a0 a1 a2 a3 b0 b1 b2 b3 Ha Hb;refine amw ?_;intro ha a0 a1 a2 a3 hb b0 b1 b2 b3 hr;clear Hr r0 r1 r2 r3;obtain⟨r0,r1,r2,r3⟩:=cP hr;have ho:w2.heap[go]?=some (.cells #[.string lp,.string hi] 51 (0,0)):=OR;revert o0 o1 o2 o3 Ho hv;refine pV ?_;intro o0 o1 o2 o3;revert af ha hb hr ho;refine bU ?_;intro bh Ha Hb Hr Ho
  cases d3 with
  |false=>
   cases d4 with
   |false=>
    go_wp2_with fail
    refine (HY.o _ bh.o).mono ?_;rintro e w3 ⟨rfl,hs⟩;have aM:=bh.o.trans (hs.mono bh.o.size);revert a0 a1 a2 a3 b0 b1 b2 b3 r0 r1 r2 r3 o0 o1 o2 o3 Ha Hb Hr Ho;refine tc ?_;intro ha a0 a1 a2 a3 hb b0 b1 b2 b3 hr r0 r1 r2 r3 ho o0 o1 o2 o3;revert hs aM ha hb hr ho;refine bX ?_;intro Hs bK Ha Hb Hr Ho
    cases ry with
    |false=>exact Ru
    |true=>exact aek
   |true=>exact RC
  |true=>
   go_upto_region 6 with (fail)
   obtain⟨w3,hv⟩:=Y (w2.setCell ⟨go,1,none⟩ (.string hj));have aM:Below w0.heap.size w0 w3:=auq;revert a0 a1 a2 a3 b0 b1 b2 b3 Ha Hb;refine VT ?_;intro ha a0 a1 a2 a3 hb b0 b1 b2 b3 hr;clear Hr r0 r1 r2 r3;obtain⟨r0,r1,r2,r3⟩:=cP hr;have ho:w3.heap[go]?=some (.cells #[.string lp,.string hj] 51 (0,0)):=tL;exact ajp
end
section
open RowKit
open m8
def wr(xs:List Value):Nat→List Value→List Value
 |_,[]=> xs
 |o,v::vs=>wr (xs.set o v) (o+1) vs
theorem zow{α:Type}(f:α→List Value)(k:Nat)(b:∀x,(f x).length=k)(l:List α)(i:Nat)(h:i<l.length)(j:Nat)(_:j<k):(l.flatMap f)[i*k+j]?=(f l[i])[j]?:=by
 induction l generalizing i with
 |nil=>simp at h
 |cons a l c=>
  rw[oR]
  match i,h with
  |0,_=>rw[pS (by rw[b];omega)];simp
  |i+1,h=>
   have d:(f a).length≤(i+1)*k+j:=by rw[b,F8];omega
   rw[nC d,b,show (i+1)*k+j-k=i*k+j from Tf];exact c i w_
end
section
open RowKit Shelf
def dd(x:h8):List Value:=[.string x.1,.string x.2]
theorem ui:up prog 52 51 (.agg #[.string ⟨#[]⟩,.string ⟨#[]⟩]) 2 32:=⟨Ok,by kernel_rfl,rfl,by decide⟩
def RSpn:Rd h8:=fun _ cs x=>cs=[.string x.1,.string x.2]∧x.1.size≤maxLen∧x.2.size≤maxLen
theorem jm:nJ RSpn:=fun _ _ _ _ h _=>h
abbrev gy:Rd (List h8):=ct 2 RSpn
theorem Nf(x:h8):(dd x).length=2:=rfl
theorem Nc:∀(l:List h8),(l.flatMap dd).length=l.length*2
 |[]=> rfl
 |x::l=>by rw[oR,bM,Nc l,Nf,fO];omega
theorem Vv(l:List h8):∀u∈l.flatMap dd,u.oneCell'=true:=by
 intro u a;obtain⟨x,_,h⟩:=Sm.1 a;simp[dd]at h;rcases h with rfl|rfl<;>rfl
theorem NG(f:List h8)(i:Nat)(h:i<f.length)(j:Nat)(a:j<2):(f.flatMap dd)[i*2+j]?=(dd f[i])[j]?:=zow dd 2 Nf f i h j a
theorem sps_news{o:Option Addr}{f:List h8}(h:gy w [.slice o n c] f):∀j u,(f.flatMap dd)[j]?=some u→∃b off,o=some ⟨b,off,none⟩∧w.cell? ⟨b,off+j,none⟩=some u:=by
 obtain⟨a,cap,d,_,_,i⟩:=h;simp only[nj,lv,rL]at d;obtain⟨rfl,_,_⟩:=d;intro j u hu;have k:=(ie.1 hu).1;rw[Nc]at k;have hi:j / 2<f.length:=Z;have e:=NG f (j / 2) hi (j % 2) Z;have g:j / 2*2+j % 2=j:=Z;rw[g,hu]at e;obtain⟨b,off,hH,h1,h2,h3,h4,_⟩:=i (j / 2) f[j / 2] (bR hi);subst h4;refine⟨b,off,h1,?_⟩;have:=h3 (j % 2) u e.symm
 rwa [rn,g]at this
theorem qz{f:List h8}(h:gy w [v] f):∃a c,v=.slice a f.length c:=by
 exact RD
theorem NM(h:B≤w.heap.size):(w.alloc (.cells #[] 51)).ownsRow B 51 2 (.slice (some ⟨w.heap.size,0,none⟩) 0 0) 0 []:=wG (base:=B) (e:=51) (size:=2) w #[] 0 h (by decide) rfl
def zrb(w:World)(n:Nat)(N:List Value)(e:Ending)(w':World):Prop:=∃o,e=.returned o∧w'.ownsRow w.heap.size 51 2 o n N∧Below w.heap.size w w'
theorem zx7{l:List h8}(h:gy w [v] l)(C:l.length≤1000000):Calls prog 125 #[v] w (zrb w l.length (l.flatMap dd)):=by
 obtain⟨a,c,rfl⟩:=qz h;have q:∀j u,(l.flatMap dd)[j]?=some u→∃b off,a=some ⟨b,off,none⟩∧(w.alloc (.cells #[] 51)).cell? ⟨b,off+j,none⟩=some u:=fun j u hu=>by obtain⟨b,off,h1,h2⟩:=sps_news h j u hu;exact⟨b,off,h1,ab (aS _ _) h2⟩
 have h1:=Vv l;have k:=Nc l;have s:=NM (w:=w) (B:=w.heap.size) (aE _);obtain⟨n,m⟩:=Y l.length;obtain⟨N,FF⟩:=Y (l.flatMap dd);rw[←FF]at q h1 k;rw[←m]at k C h⊢;rw[←FF]
 cases a with
 |none=>
  have t:l=[]:=by
   cases l with
   |nil=>rfl
   |cons x r=>obtain⟨_,_,z,_,_,F⟩:=h;simp only[nj,lv,rL]at z;obtain⟨rfl,_,_⟩:=z;obtain⟨b,off,hH,h1,_⟩:=F 0 x rfl;cases h1
  have K:n=0:=by rw[m,t];rfl
  have A:N=[]:=by rw[FF,t];rfl
  subst K;have L:∀W,(binOp .eql 52 (.slice none 0 c) (.slice none 0 0)).run prog W=.ok (.bool true) W:=fun W=>Lib.run_eql_slice_nil W 52 51 none 0 c 0 0 Ok;obtain⟨Hh,HN,H1,II,Ch,Hn,HNN,Uj,xx⟩:=K7 h q h1 k s m FF t A;clear h q h1 k s m FF t A;go_enter func125,ntmps125;go_wp2_with fail;go_ret;exact⟨_,rfl,by rw[xx.o];exact pd _ _ _ _,aL _ _⟩
 |some p=>
  have L:∀W,(binOp .eql 52 (.slice (some p) n c) (.slice none 0 0)).run prog W=.ok (.bool false) W:=fun W=>Lib.run_eql_slice_nil W 52 51 (some p) n c 0 0 Ok;obtain⟨Hh,HN,H1,II,Ch,Hn,HNN⟩:=oD h q h1 k s m FF;clear h q h1 k s m FF;go_enter func125,ntmps125;go_wp2_with (at_builtin;(refine vB ui rfl (.tmp 5) (.tmp 6) rfl w.heap.size (.slice (some ⟨w.heap.size,0,none⟩) 0 0) 0 [] rfl Ch.o (some p) n c N rfl II.o HN.o H1.o Z cY ae ?_;intro v1 w1 R4 oM pI;obtain⟨oa,oc,rfl⟩:=bg R4;generalize hN7:0+n=R at R4⊢;obtain⟨Hown1,sq,HN7⟩:=aQ R4 oM hN7;clear R4 oM pI hN7));go_ret;have S:Below w.heap.size w w1:=iX (aS w _) Ch.o (aE _) sq.o ae;refine⟨_,rfl,?_,S⟩;have y:=Hown1.o;have e:R=n:=by have:=HN7.o;omega
  rw[ig]at y;rw[e]at y⊢;exact y
theorem Dm{f:List h8}(g:∀x∈f,x.1.size≤maxLen∧x.2.size≤maxLen)(h:w.ownsRow B 51 2 v f.length (f.flatMap dd)):gy w [v] f:=by
 obtain⟨a,cap,rfl,h1,k,l⟩:=Sl.abh h;refine⟨a,cap,rfl,h1,k,fun i x hi=>?_⟩;have m:=(ie.1 hi).1;have n:=(ie.1 hi).2;have e:∀c,c<2→∀u,(dd x)[c]?=some u→∃b off,a=some ⟨b,off,none⟩∧w.cell? ⟨b,off+(i*2+c),none⟩=some u:=fun c e u d=>l (i*2+c) u (by rw[NG f i m c e,n];exact d);obtain⟨b,off,ha,h4⟩:=e 0 Z _ rfl;obtain⟨b',gK,ha',h5⟩:=e 1 Z _ rfl;rw[ha]at ha';cases ha';refine⟨b,off,dd x,ha,rfl,fun j u d=>?_,rfl,(g x (uQ hi)).1,(g x (uQ hi)).2⟩
 match j,d with
 |0,d=>simp[dd]at d;subst d;rw[←rn]at h4;exact h4
 |1,d=>simp[dd]at d;subst d;rw[←rn]at h5;exact h5
theorem qA{l:List h8}(h:gy w [v] l):∃a cap,v=.slice a l.length cap∧l.length≤9223372036854775807∧∀i x,l[i]?=some x→∃b off,a=some ⟨b,off,none⟩∧w.cell? ⟨b,off+i*2,none⟩=some (.string x.1)∧w.cell? ⟨b,off+i*2+1,none⟩=some (.string x.2)∧x.1.size≤9223372036854775807∧x.2.size≤9223372036854775807:=by
 exact aho
theorem sps_size{l:List h8}(h:gy w [v] l):∀x∈l,x.1.size≤maxLen∧x.2.size≤maxLen:=by
 obtain⟨a,cap,_,_,g⟩:=qA h;intro x hx;obtain⟨i,hi,rfl⟩:=oS hx;obtain⟨b,off,_,_,_,h1,h2⟩:=g i _ (bR hi);exact⟨h1,h2⟩
theorem zqk(a:Value)(w:World):Calls prog 165 #[.slice none 0 0,.int .i64 0,.int .i64 0,a] w fun e w'=>e=.returned (.tuple #[])∧w=w':=by
 go_enter func165,ntmps165;exact ali
theorem zux(b:Value)(w:World):Calls prog 151 #[.slice none 0 0,.int .i64 0,b] w fun e w'=>e=.returned (.tuple #[])∧w=w':=by
 have h:=zqk b;have c:=O h;clear h;go_enter func151,ntmps151;go_wp2_with fail;refine wp_loop_rounds 1 ?_;rw[rounds_succ];go_wp2_with fail;refine (c.o _).mono ?_;rintro e d ⟨rfl,rfl⟩;exact ali
theorem zo7(b:Value)(w:World):Calls prog 126 #[.slice none 0 0,b] w fun e w'=>e=.returned (.tuple #[])∧w=w':=by
 have h:=zux b;have c:=O h;clear h;go_enter func126,ntmps126;go_wp2_with fail;refine (c.o _).mono ?_;rintro e d ⟨rfl,rfl⟩;go_wp2_with fail;go_end0
 exact Gz
abbrev el:=ByteArray×ByteArray
def setCells(x:el):List Value:=[.string x.1,.string x.2]
theorem ybw:up prog 53 137 (.agg #[.string ⟨#[]⟩,.string ⟨#[]⟩]) 2 32:=⟨underlying53,by kernel_rfl,rfl,by decide⟩
def RSet:Rd el:=fun _ cs x=>cs=[.string x.1,.string x.2]∧x.1.size≤maxLen∧x.2.size≤maxLen
theorem kR:nJ RSet:=fun _ _ _ _ h _=>h
abbrev fm:Rd (List el):=ct 2 RSet
theorem zvc(x:el):(setCells x).length=2:=rfl
theorem yfb(f:List el)(i:Nat)(h:i<f.length)(j:Nat)(a:j<2):(f.flatMap setCells)[i*2+j]?=(setCells f[i])[j]?:=zow setCells 2 zvc f i h j a
theorem CH{f:List el}(h:fm w [v] f):∃a c,v=.slice a f.length c:=by
 exact RD
theorem zl0{f:List el}(g:∀x∈f,x.1.size≤maxLen∧x.2.size≤maxLen)(h:w.ownsRow B 137 2 v f.length (f.flatMap setCells)):fm w [v] f:=by
 obtain⟨a,cap,rfl,h1,k,l⟩:=Sl.abh h;refine⟨a,cap,rfl,h1,k,fun i x hi=>?_⟩;have m:=(ie.1 hi).1;have n:=(ie.1 hi).2;have e:∀c,c<2→∀u,(setCells x)[c]?=some u→∃b off,a=some ⟨b,off,none⟩∧w.cell? ⟨b,off+(i*2+c),none⟩=some u:=fun c e u d=>l (i*2+c) u (by rw[yfb f i m c e,n];exact d);obtain⟨b,off,ha,h4⟩:=e 0 Z _ rfl;obtain⟨b',gK,ha',h5⟩:=e 1 Z _ rfl;rw[ha]at ha';cases ha';refine⟨b,off,setCells x,ha,rfl,fun j u d=>?_,rfl,(g x (uQ hi)).1,(g x (uQ hi)).2⟩
 match j,d with
 |0,d=>simp[setCells]at d;subst d;rw[←rn]at h4;exact h4
 |1,d=>simp[setCells]at d;subst d;rw[←rn]at h5;exact h5
theorem sD{l:List el}(h:fm w [v] l):∃a cap,v=.slice a l.length cap∧l.length≤9223372036854775807∧∀i x,l[i]?=some x→∃b off,a=some ⟨b,off,none⟩∧w.cell? ⟨b,off+i*2,none⟩=some (.string x.1)∧w.cell? ⟨b,off+i*2+1,none⟩=some (.string x.2)∧x.1.size≤9223372036854775807∧x.2.size≤9223372036854775807:=by
 exact aho
def GT{α:Type}(sz:Nat)(R:Rd α)(e:TypeId)(W:World)(v:Value)(L:List α):Prop:=ct sz R W [v] L∧(L≠[]→∀k,v.ownBlock=some k→∃cs fr,W.heap[k]?=some (.cells cs e fr))
abbrev hU:World→Value→List h8→Prop:=GT 2 RSpn 51
abbrev iy:World→Value→List el→Prop:=GT 2 RSet 137
theorem GT.gc{α:Type}{R:Rd α}{W W':World}{L:List α}(o:∀W W' cs x,R W cs x→R W' cs x)(h:GT sz R e W v L)(hF:am T W W')(f:∀k,T k→∀cs fr,W.heap[k]?≠some (.cells cs e fr)):GT sz R e W' v L:=by
 obtain⟨⟨a,cap,g,h1,q,r⟩,l⟩:=h;have m:=g;simp only[nj,lv]at m;refine⟨⟨a,cap,g,h1,q,fun i x hi=>?_⟩,fun d k hk=>?_⟩
 ·obtain⟨b,off,s,n,e2,t,w⟩:=r i x hi;have d:L≠[]:=by rintro rfl;simp at hi
  obtain⟨cs,fr,c⟩:=l d b (by rw[m,n];rfl);have y:¬T b:=fun k=>f b k cs fr c;refine⟨b,off,s,n,e2,fun j u hu=>?_,o _ _ _ _ w⟩;have k:=t j u hu;exact (hF.cell (p:=⟨b,off+i*sz+j,none⟩) (wH W _ k) y).trans k
 obtain⟨cs,fr,c⟩:=l d k hk;exact⟨cs,fr,bI c hF fun kT=>f k kT cs fr c⟩
theorem GT.below{α:Type}{R:Rd α}{L:List α}(b:nJ R)(h:GT sz R e W v L)(a:Below W.heap.size W W'):GT sz R e W' v L :=
 ⟨bz b _ _ _ _ h.1 a,fun c k d=>by obtain⟨cs,fr,h2⟩:=h.2 c k d;exact⟨cs,fr,G a h2⟩⟩
theorem pG{L:List h8}(h:hU W v L)(a:Below W.heap.size W W'):hU W' v L:=GT.below jm h a
theorem LV{L:List el}(h:iy W v L)(a:Below W.heap.size W W'):iy W' v L:=GT.below kR h a
def No2(W:World)(T:Nat→Prop):Prop:=∀k,T k→∃cs e fr,W.heap[k]?=some (.cells cs e fr)∧e≠51∧e≠137
theorem jf{cs:Array Value}{t:TypeId}{fr:Nat×Nat}(h:W.heap[k]?=some (.cells cs t fr))(h1:t≠51)(a:t≠137):∃cs e fr,W.heap[k]?=some (.cells cs e fr)∧e≠51∧e≠137:=⟨_,_,_,h,h1,a⟩
theorem lA{L:List h8}(h:hU W v L)(hF:am T W W')(a:No2 W T):hU W' v L :=
 GT.gc (fun _ _ _ _ h=>h) h hF fun k hk cs fr hc=>by obtain⟨cs',e,aqv,h1,h2,_⟩:=a k hk;rw[hc]at h1;cases h1;exact h2 rfl
theorem uK{L:List el}(h:iy W v L)(hF:am T W W')(a:No2 W T):iy W' v L :=
 GT.gc (fun _ _ _ _ h=>h) h hF fun k hk cs fr hc=>by obtain⟨cs',e,aqv,h1,_,h2⟩:=a k hk;rw[hc]at h1;cases h1;exact h2 rfl
theorem yan(h:gy W [v] []):hU W v []:=⟨h,fun h=>absurd rfl h⟩
theorem zv7(h:fm W [v] []):iy W v []:=⟨h,fun h=>absurd rfl h⟩
theorem NF{size:Nat}{xs:List Value}(h:W.ownsRow B e size v n xs):∀k,v.ownBlock=some k→∃cs fr,W.heap[k]?=some (.cells cs e fr):=fun k a=>by
 obtain⟨cs,b⟩:=tH h k a;exact⟨cs,(0,0),b⟩
end
namespace StbB
open Go.Sort m8 StbA
variable {α:Type}{lt:α→α→Bool}
def P1(lt:α→α→Bool)(l0:List α)(bs a:Nat)(d:Array α):Prop:=∃(cs:List (List α)) (rest:List α),l0=cs.flatten++rest∧d.toList=(cs.map (cV lt)).flatten++rest∧(∀c∈cs,c.length=bs)∧a=cs.flatten.length
def P2(lt:α→α→Bool)(l0:List α)(bs:Nat)(d:Array α):Prop:=∃(cs:List (List α)) (rest:List α),l0=cs.flatten++rest∧d.toList=(cs.map (cV lt)).flatten++cV lt rest∧(∀c∈cs,c.length=bs)∧rest.length<bs
def P3(lt:α→α→Bool)(l0:List α)(bs a:Nat)(d:Array α):Prop:=∃(ds cs:List (List α)) (rest:List α),l0=ds.flatten++(cs.flatten++rest)∧d.toList=(ds.map (cV lt)).flatten++((cs.map (cV lt)).flatten++cV lt rest)∧(∀c∈ds,c.length=2*bs)∧(∀c∈cs,c.length=bs)∧rest.length<bs∧a=ds.flatten.length
theorem kz(h:ww lt)(cs:List (List α)):((cs.map (cV lt)).flatten).length=cs.flatten.length:=by
 induction cs with
 |nil=>rfl
 |cons c cs a=>simp only[eU,Sn,bM,zq h,a]
theorem zuy:cV lt ([]:List α)=[]:=rfl
theorem P1.start(b:List α)(bs:Nat){d:Array α}(O:d.toList=b):P1 lt b bs 0 d:=⟨[],b,rfl,O,by simp,rfl⟩
theorem P1.size(h:ww lt){b:List α}{a:Nat}{d:Array α}(c:P1 lt b bs a d):d.size=b.length:=by
 obtain⟨cs,rest,h1,e,_,_⟩:=c;rw[←ou,e,h1,bM,bM,kz h]
theorem P1.step[Inhabited α](h:ww lt){e:List α}{a:Nat}{d:Array α}(k:P1 lt e bs a d)(g:a+bs≤e.length):P1 lt e bs (a+bs) (insertionSort lt d a (a+bs)):=by
 obtain⟨cs,rest,h1,h2,l,i⟩:=k;have f:rest=rest.take bs++rest.drop bs:=(mi _ _).symm;have j:(rest.take bs).length=bs:=by simp;rw[h1]at g;simp at g;simp at i;omega
 generalize rest.take bs=x at f j;generalize rest.drop bs=y at f;subst f;refine⟨cs++[x],y,sV,?_,fun c b=>?_,aqw⟩
 ·rw[zo0 h (d:=d) (p:=(cs.map (cV lt)).flatten) (x:=x) (q:=y) DD (by rw[kz h];exact i) (by rw[kz h];omega)];simp
 rcases ff.1 b with b|b
 ·exact l c b
 simp at b;subst b;exact j
theorem P1.last[Inhabited α](h:ww lt){b:List α}{a:Nat}{d:Array α}(c:P1 lt b bs a d)(e:n=b.length)(_:n<a+bs):P2 lt b bs (insertionSort lt d a n):=by
 obtain⟨cs,rest,h1,h2,f,g⟩:=c;have i:n=a+rest.length:=by rw[e,h1,bM];omega
 refine⟨cs,rest,h1,?_,f,Z⟩;rw[zo0 h (d:=d) (p:=(cs.map (cV lt)).flatten) (x:=rest) (q:=[]) DD (by rw[kz h];exact g) (by rw[kz h];omega)];simp
theorem P1.le{b:List α}{a:Nat}{d:Array α}(c:P1 lt b bs a d):a≤b.length:=by
 obtain⟨cs,rest,h1,_,_,_⟩:=c;rw[h1,bM];omega
theorem P2.size(h:ww lt){a:List α}{d:Array α}(b:P2 lt a bs d):d.size=a.length:=by
 obtain⟨cs,rest,h1,c,_,_⟩:=b;rw[←ou,c,h1,bM,bM,kz h,zq h]
theorem P3.start{a:List α}{d:Array α}(b:P2 lt a bs d):P3 lt a bs 0 d:=by
 obtain⟨cs,rest,h1,c,e,f⟩:=b;exact⟨[],cs,rest,h1,c,ae,e,f,rfl⟩
theorem P3.size(h:ww lt){b:List α}{a:Nat}{d:Array α}(e:P3 lt b bs a d):d.size=b.length∧a≤d.size:=by
 obtain⟨c,cs,rest,h1,f,_,_,_,_⟩:=e;have g:d.size=c.flatten.length+(cs.flatten.length+rest.length):=by rw[←ou,f,bM,bM,kz h,kz h,zq h]
 have e2:b.length=c.flatten.length+(cs.flatten.length+rest.length):=by rw[h1,bM,bM]
 omega
theorem P3.step(h:ww lt){e:List α}{a:Nat}{d:Array α}(k:P3 lt e bs a d)(_:a+2*bs≤e.length)(h0:0<bs):
  ∃p u v q,d.toList=p++u++v++q∧gg lt u∧gg lt v∧a=p.length∧u.length=bs∧v.length=bs∧∀d':Array α,d'.toList=p++cV lt (u++v)++q→P3 lt e bs (a+2*bs) d':=by
 obtain⟨g,cs,rest,h1,h2,l,f,m,i⟩:=k;have j:e.length=a+(cs.flatten.length+rest.length):=by rw[h1,bM,bM,i]
 match cs with
 |[]=> simp at j;omega
 |[c]=> have:=f c ae;simp at j;omega
 |c1::c2::cs=>
  have n:=f c1 ae;have o:=f c2 ae;refine⟨(g.map (cV lt)).flatten,cV lt c1,cV lt c2,(cs.map (cV lt)).flatten++cV lt rest,DD,zl h _,zl h _,by rw[kz h];exact i,by rw[zq h];exact n,by rw[zq h];exact o,fun d' r=>?_⟩;refine⟨g++[c1++c2],cs,rest,sV,?_,fun c b=>?_,fun c b=>f c (by simp[b]),m,aqw⟩
  ·rw[r,zuz h];simp
  rcases ff.1 b with b|b
  ·exact l c b
  simp at b;subst b;rw[bM];omega
theorem P3.last1(h:ww lt){b:List α}{a:Nat}{d:Array α}(i:P3 lt b bs a d)(hn:n=b.length)(_:n<a+2*bs)(_:a+bs<n):
  ∃p u v,d.toList=p++u++v++[]∧gg lt u∧gg lt v∧a=p.length∧u.length=bs∧a+bs+v.length=n∧∀d':Array α,d'.toList=p++cV lt (u++v)++[]→P2 lt b (2*bs) d':=by
 obtain⟨f,cs,rest,h1,h2,j,e,_,h6⟩:=i;have hl:n=a+(cs.flatten.length+rest.length):=aqx
 match cs with
 |[]=> simp at hl;omega
 |c1::c2::cs=>have g:=e c1 ae;have l:=e c2 ae;simp at hl;omega
 |[c]=>have g:=e c ae;have m:n=a+(c.length+rest.length):=F4;refine⟨(f.map (cV lt)).flatten,cV lt c,cV lt rest,DD,zl h _,zl h _,by rw[kz h];exact h6,by rw[zq h];exact g,by rw[zq h];omega,fun d' k=>?_⟩;refine⟨f,c++rest,sV,?_,j,by rw[bM];omega⟩;rw[k,zuz h];simp
theorem P3.last2{b:List α}{a:Nat}{d:Array α}(i:P3 lt b bs a d)(hn:n=b.length)(_:n<a+2*bs)(_:¬a+bs<n)(h0:0<bs):P2 lt b (2*bs) d:=by
 obtain⟨f,cs,rest,h1,h2,g,e,_,h6⟩:=i;have hl:n=a+(cs.flatten.length+rest.length):=aqx
 match cs with
 |[]=> exact⟨f,rest,sV,DD,g,Z⟩
 |c1::c2::cs=>have j:=e c1 ae;have l:=e c2 ae;simp at hl;omega
 |[c]=>have j:=e c ae;have m:n=a+(c.length+rest.length):=F4;have k:rest=[]:=oT Z;subst k;exact⟨f,c,sV,by rw[h2,zuy];simp,g,Z⟩
theorem P2.done{l0:List α}{d:Array α}(e:P2 lt l0 bs d)(_:¬bs<l0.length):d.toList=cV lt l0:=by
 obtain⟨cs,rest,h1,b,a,_⟩:=e
 match cs with
 |[]=> rw[b,h1];simp
 |[c]=>have f:=a c ae;have g:l0.length=c.length+rest.length:=sV;have i:rest=[]:=oT Z;subst i;rw[b,h1,zuy];simp
 |c1::c2::cs=>have f:=a c1 ae;have j:=a c2 ae;have g:l0.length=c1.length+(c2.length+(cs.flatten.length+rest.length)):=sV;omega
end StbB
section
open RowKit Lib Go.Sort
namespace aax
theorem yap(g:Nat)(t:TypeId):∀(a:List Value)(o:Nat)(w:World)(cs:Array Value),w.heap[g]?=some (.cells cs t (0,0))→
  ∃b:Array Value,(w.setCells g o a).heap[g]?=some (.cells b t (0,0))∧b.size=cs.size∧∀p,p<cs.size→b[p]?=if o≤p∧p<o+a.length then a[p-o]? else cs[p]?
 |[],o,w,cs,h=>⟨cs,h,rfl,fun p hp=>by rw[E ae]⟩
 |v::a,o,w,cs,h=>by
  have h1:=ag w g o cs t v h;obtain⟨b,d,f,i⟩:=yap g t a (o+1) _ _ h1;refine⟨b,d,by rw[f];simp,fun p hp=>?_⟩;rw[i p Mz,fO];by_cases e:p=o
  ·subst e;rw[E Z,M Z,sS];simp[hp]
  by_cases c:o+1≤p∧p<o+1+a.length
  ·rw[M c,M Z,show p-o=(p-(o+1))+1 from Z,aw]
  rw[E c,E Z];exact Array.getElem?_setIfInBounds_ne (fun j=>e j.symm)
theorem yaq(g:Nat){w0:World}:∀(a:List Value)(o:Nat)(w:World),am (fun b=>b=g) w0 w→am (fun b=>b=g) w0 (w.setCells g o a)
 |[],_,_,h=>h
 |v::a,o,w,h=>yaq g a (o+1) _ (aN h o v)
def szOf(w:World)(b:Nat):Nat:=match w.heap[b]? with
 |some (.cells cs _ _)=>cs.size
 |_=>0
theorem szOf_is{t:TypeId}{fr:Nat×Nat}(h:w.heap[b]?=some (.cells cs t fr)):szOf w b=cs.size:=by unfold szOf;rw[h]
variable {α:Type}[Inhabited α]{e9:α→List Value}{k:Nat}{t:TypeId}{aC off:Nat}{w0:World}
structure SRW(t:TypeId)(e9:α→List Value)(k:Nat)(w0:World)(aC off:Nat)(d:Array α)(W:World):Prop where
 gc:am (fun b=>b=aC) w0 W
 row:∃cs:Array Value,W.heap[aC]?=some (.cells cs t (0,0))∧cs.size=szOf w0 aC∧∀i,i<d.size→∀c,c<k→off+(i*k+c)<szOf w0 aC∧cs[off+(i*k+c)]?=(e9 d[i]!)[c]?
theorem SRW.below{d:Array α}(h:SRW t e9 k w0 aC off d W)(a:Below W.heap.size W W'):SRW t e9 k w0 aC off d W':=by
 obtain⟨cs,h1,c,f⟩:=h.row;exact⟨h.gc.trans (am.ce (S:=fun b=>b=aC) a) (fun _ _ e=>e),cs,G a h1,c,f⟩
theorem SRW.drew{d:Array α}(h:SRW t e9 k w0 aC off d W):SRW t e9 k w0 aC off d W.drew:=by
 obtain⟨cs,h1,a,b⟩:=h.row;exact⟨h.gc.drew,cs,h1,a,b⟩
theorem SRW.cell{d:Array α}(h:SRW t e9 k w0 aC off d W)(hi:i<d.size)(a:c<k)(b:(e9 d[i]!)[c]?=some v):W.cell? ⟨aC,off+(i*k+c),none⟩=some v∧W.frozen? ⟨aC,off+(i*k+c),none⟩=false:=by
 obtain⟨cs,h1,_,e⟩:=h.row;exact⟨by rw[J h1,(e i hi c a).2,b],aG h1 _⟩
theorem mul_apart{k:Nat}(h:i≠j)(_:c<k):i*k+c<j*k∨j*k+k≤i*k+c:=by
 rcases Nat.lt_or_gt_of_ne h with h|h
 ·have:=NX k (show i+1≤j from Z);rw[F8]at this;exact .inl Z
 have:=NX k (show j+1≤i from Z);rw[F8]at this;exact .inr Z
theorem SRW.put{d:Array α}(h:SRW t e9 k w0 aC off d W)(g:∀x,(e9 x).length=k)(hi:i<d.size)(x:α):SRW t e9 k w0 aC off (d.setIfInBounds i x) (W.setCells aC (off+i*k) (e9 x)):=by
 obtain⟨cs,h1,f,l⟩:=h.row;obtain⟨cs',g1,g2,g3⟩:=yap aC t (e9 x) (off+i*k) W cs h1;refine⟨yaq aC _ _ _ h.gc,cs',g1,by rw[g2,f],fun j hj c hc=>?_⟩;have a:j<d.size:=by simpa using hj
 have b:=l j a c hc;refine⟨b.1,?_⟩;rw[g3 _ (by rw[f];exact b.1),g];by_cases e:j=i
 ·subst e;rw[M Z,show off+(j*k+c)-(off+j*k)=c from Z];have:(d.setIfInBounds j x)[j]! =x:=by rw[xe _ j (by simpa using a)];simp
  rw[this]
 have n:=mul_apart e hc;rw[E Z,b.2];have:(d.setIfInBounds i x)[j]! =d[j]!:=by rw[xe _ j (by simpa using a),xe d j a];exact Array.getElem_setIfInBounds_ne a (fun m=>e m.symm)
 rw[this]
theorem SRW.exch{d:Array α}(h:SRW t e9 k w0 aC off d W)(a:∀x,(e9 x).length=k)(hi:i<d.size)(b:j<d.size):
  SRW t e9 k w0 aC off (swp d i j) ((W.setCells aC (off+i*k) (e9 d[j]!)).setCells aC (off+j*k) (e9 d[i]!)) :=
 (h.put a hi d[j]!).put a (by simpa using b) d[i]!
theorem abb(j:∀x,(e9 x).length=k){base:Nat}{l:List α}(h:w.ownsRow base e k (.slice (some ⟨g,0,none⟩) n cap) n (l.flatMap e9))(_:l.length=n):SRW e e9 k w g 0 l.toArray w:=by
 rcases h.2 with⟨a,_⟩|⟨_,_,m,a,_,b,o,_,p,q⟩
 ·cases a
 injection a with e1 _ e3;injection e1 with e1;injection e1 with e1;subst e1;subst e3;have d:=szOf_is b;refine⟨am.refl _ _,m,b,d.symm,fun i hi c r=>?_⟩;have s:i<l.length:=Te;have h1:=NX k (show i+1≤n from Z);rw[F8]at h1;have t:=NX k o;refine⟨by rw[d,p];omega,?_⟩;have f:=zow e9 k j l i s c r;rw[←q,List.getElem?_take,M Z,Array.getElem?_toList]at f;rw[og,f];have:l.toArray[i]! =l[i]:=by rw[xe l.toArray i hi];simp
 rw[this]
theorem aba(c:∀x,(e9 x).length=k)(r:0<k){base:Nat}{xs:List Value}{d:Array α}(h:w.ownsRow base e k (.slice (some ⟨g,0,none⟩) n cap) n xs)(S:SRW e e9 k w g 0 d W)(f:d.size=n):
  W.ownsRow base e k (.slice (some ⟨g,0,none⟩) n cap) n (d.toList.flatMap e9)∧∀w0,Below base w0 w→base≤w.heap.size→Below base w0 W:=by
 rcases h.2 with⟨b,_⟩|⟨_,_,_,b,i,s,t,u,v,_⟩
 ·cases b
 injection b with e1 _ e3;injection e1 with e1;injection e1 with e1;subst e1;subst e3;obtain⟨cs,h1,y,z⟩:=S.row;have A:=szOf_is s
 have B:∀l:List α,(l.flatMap e9).length=l.length*k:=fun l=>by
  induction l with
  |nil=>simp
  |cons x l C=>rw[oR,bM,C,c,fO,F8];omega
 have O:(d.toList.flatMap e9).length=n*k:=by rw[B];simp[f]
 refine⟨⟨O,.inr ⟨g,cap,cs,rfl,i,h1,t,u,by rw[y,A,v],?_⟩⟩,fun w0 F K=>F.trans (S.gc.below K (fun k e=>by rw[e];exact i))⟩;apply List.ext_getElem?;intro p;rw[List.getElem?_take];by_cases j:p<n*k
 ·rw[M j,Array.getElem?_toList];have hi:p / k<d.size:=by rw[f];exact Nat.div_lt_of_lt_mul (by rwa [Nat.mul_comm])
  have m:p % k<k:=Nat.mod_lt _ r;have o:=(z (p / k) hi (p % k) m).2;have q:=zow e9 k c d.toList (p / k) Te (p % k) m;rw[og,Nat.div_add_mod']at o;rw[Nat.div_add_mod']at q;rw[o,q,xe d _ hi,Array.getElem_toList]
 rw[E j,J4 Z]
end aax
end
section
open RowKit Lib av
def Mrg(w0:World)(x:Nat)(bT:List h8)(w:World):Prop:=∃v,w.heap[x]?=some (.cells #[v,.func (.func 128) #[] #[],.func (.func 129) #[] #[]] 186 (0,0))∧w.ownsRow w0.heap.size 51 2 v bT.length (bT.flatMap dd)∧Below w0.heap.size w0 w∧w0.heap.size≤x
theorem own_sp{bT:List h8}(h:w.ownsRow B 51 2 (.slice (some ⟨g,0,none⟩) n cap) n (bT.flatMap dd))(i:Nat)(hi:i<bT.length):w.cell? ⟨g,i*2,none⟩=some (.string bT[i].1)∧w.cell? ⟨g,i*2+1,none⟩=some (.string bT[i].2):=by
 have h0:=h.cells (g:=g) rfl (i*2+0) (.string bT[i].1) (by rw[NG bT i hi 0 Z];rfl);have h1:=h.cells (g:=g) rfl (i*2+1) (.string bT[i].2) (by rw[NG bT i hi 1 Z];rfl);rw[tX,og]at h0 h1;exact⟨h0,h1⟩
theorem zop{size:Nat}{xs:List Value}(h:w.ownsRow B e size (.slice (some ⟨g,0,none⟩) n cap) n xs)(i:Nat):w.frozen? ⟨g,i,none⟩=false:=by
 rcases h.2 with⟨a,_⟩|⟨_,_,_,a,_,b,_⟩
 ·cases a
 injection a with e1 _ _;injection e1 with e1;injection e1 with e1;subst e1;exact aG b i
theorem ydp{bT:List h8}(h:w.ownsRow B 51 2 (.slice (some ⟨g,0,none⟩) n cap) n (bT.flatMap dd))(c:bT.length=n)(hi:i<n)(x:h8):
  ((w.setCell ⟨g,i*2,none⟩ (.string x.1)).setCell ⟨g,i*2+1,none⟩ (.string x.2)).ownsRow B 51 2 (.slice (some ⟨g,0,none⟩) n cap) n ((bT.set i x).flatMap dd):=by
 have S:=aax.abb Nf h c;have d:=S.put Nf (i:=i) aX x;have a:=aax.aba Nf D h d aX;have e:(bT.toArray.setIfInBounds i x).toList=bT.set i x:=ae;rw[e]at a;have b:=a.1;rw[og]at b;exact b
theorem mrg_end{a:World}{b c:Nat}{O':List h8}(d:a.heap[x]?=some (.cells #[v,.func (.func 128) #[] #[],.func (.func 129) #[] #[]] 186 (0,0)))
  (f:a.ownsRow w0.heap.size 51 2 (.slice (some ⟨b,0,none⟩) n c) n (O'.flatMap dd)) (j:O'.length=n) (g:Below w0.heap.size w0 a) (i:w0.heap.size≤x):Mrg w0 x O' (a.setCell ⟨x,0,none⟩ (.slice (some ⟨b,0,none⟩) n c)):=by
 subst j;have f8:am (fun k=>k=x) a (a.setCell ⟨x,0,none⟩ (.slice (some ⟨b,0,none⟩) O'.length c)):=aN (am.refl _ a) 0 _;refine⟨_,ag _ x 0 _ _ _ d,f8.owns f (fun k hk e=>dM f d D we),g.trans (f8.below g.size (fun k hk=>by rw[hk];exact i)),i⟩
theorem ztu(h:Mrg w0 x [] w)(s:h8)(hs:s.1.size≤9000∧s.2.size≤9000)(y:dN w0):
  Calls prog 130 #[.pointer (some ⟨x,0,none⟩),.agg #[.string s.1,.string s.2]] w fun e w'=>e=.returned (.tuple #[])∧Mrg w0 x (H9 [] s) w':=by
 obtain⟨bT,n⟩:∃bT:List h8,bT=[]:=⟨_,rfl⟩;rw[←n]at h;have A:∀z∈bT,z.1.size≤9000∧z.2.size≤9000:=by rw[n];simp
 have B:bT.length≤100000:=by rw[n];simp
 obtain⟨v,hx,dG,fL,C⟩:=h;obtain⟨s1,s2⟩:=s;refine VK ?_;intro eV gH W0 bw nb ck hw dt lT lE B6;obtain⟨m,hm⟩:=Y bT.length;obtain⟨c0,c1,c2,f0,_,_⟩:=y9 dt;obtain⟨b0,b1,_,_⟩:=cP lT;have F:=dM lE dt D;rw[←hm]at lE B;have K:∀j,v.ownBlock=some j→j<nb:=fun j e=>auf;clear hx dG fL;subst n;obtain⟨a,cap,rfl⟩:=bg lE;simp only[tO]at hm;subst hm;revert y hw lT B6 A dt F K lE;refine fK ?_;intro HD Hw Fj Ek HO vR cJ atz yZ;go_enter func130,ntmps130;go_upto_region 1 with (fail);refine mn ?_;clear bw ck;go_upto_region 2 with (fail);go_quiet (fail)
 go_upto_region 4 with (fail)
 have l:Below W0.heap.size W0 (W0.drewN (nq+1)):=dU (aL _ _) (nq+1);have q:Below W0.heap.size W0 ((W0.drewN (nq+1)).alloc (.cells #[.string s1,.string s2] 51)):=l.alloc l.size _;have T:=ab q c0;have L:=fh yZ.o l;have N:=G l vR.o;have r:=Ek.o.trans (l.mono Ek.o.size);have t:=r.size;have U:=ab l b0;have W:=ab l b1;have X:=ab l c0;revert l q L N r;refine bU ?_;intro _ _ u R S;go_region_law (refine xl ui (w:=W0.drewN (nq+1)) rfl (.tmp 53) (.tmp 55) rfl w0.heap.size (.slice a 0 cap) 0 [] rfl u.o 1 D #[.string s1,.string s2] rfl rfl dW Z cY t ?_;intro g8 c8 w8 lu iG qU;have p:=bI R.o (eS iG) cJ.o;have d0:=J p 0;have aa:=aG p 0;simp only[aq,ar]at d0)
 all_goals
  go_end0
  exact⟨rfl,mrg_end (O':=H9 [] (s1,s2)) p lu rfl (iX S.o u.o (aE _) iG t) C⟩
theorem zw2{Q:List h8}{z1 z2:ByteArray}(h:Mrg w0 x (Q++[(z1,z2)]) w)(hO:∀z∈Q++[(z1,z2)],z.1.size≤9000∧z.2.size≤9000)(L:(Q++[(z1,z2)]).length≤100000)(s:h8)(hs:s.1.size≤9000∧s.2.size≤9000)(A:jS (dS (z1,z2)) (dS s)=false)(hD:dN w0):
  Calls prog 130 #[.pointer (some ⟨x,0,none⟩),.agg #[.string s.1,.string s.2]] w fun e w'=>e=.returned (.tuple #[])∧Mrg w0 x (Q++[(z1,z2)]++[s]) w':=by
 obtain⟨v,hx,dG,fL,N⟩:=h;obtain⟨s1,s2⟩:=s;refine VK ?_;intro eV gH W0 bw nb ck hw dt lT lE B6;obtain⟨m,hm⟩:=Y ((Q++[(z1,z2)]).length);obtain⟨c0,c1,c2,f0,_,_⟩:=y9 dt;obtain⟨b0,b1,_,_⟩:=cP lT;have bL:=dM lE dt D;rw[←hm]at lE L;revert v hx dG fL dt lE c0 bL;refine ajq ?_;intro k hk Cg g cap dt lE c0 bL km m_ ez xJ dD cc hS jk IS pY MR hJ hK;have B:jS (z1.data.toList,z2.data.toList) (s1.data.toList,s2.data.toList)=false:=A;rw[B]at hJ;refine alw ?_;intro aI Zl kw kp kn Tr kt;clear A B m_ ez;revert hO hD hw lT B6 hm hk Cg dt lE bL km xJ hS jk IS pY MR hJ hK;refine OT ?_;intro HO HD Hw Fj Ek Hm Hk EW vR yZ cJ atz Jc HS yK Hgn gC HFz HJ HK;go_enter func130,ntmps130;go_upto_region 1 with (fail);refine mn ?_;clear bw ck;go_upto_region 2 with (fail);have U:prog.follows .mixedOrders=true:=aA;have H:=dU (aL W0.heap.size W0) 1;have di:=HS.o _ H;go_region_held3 (fun w'=>w'.cell? ⟨x,0,none⟩=some (.slice (some ⟨g,0,none⟩) m cap)∧w'.cell? ⟨x,1,none⟩=some (.func (.func 128) #[] #[])∧w'.cell? ⟨x,2,none⟩=some (.func (.func 129) #[] #[])∧w'.cell? ⟨nb,0,none⟩=some (.string s1)∧w'.cell? ⟨nb,1,none⟩=some (.string s2)∧w'.cell? ⟨g,k*2,none⟩=some (.string z1)∧w'.cell? ⟨g,k*2+1,none⟩=some (.string z2)) (first|exact di|go_keep) (first|(go_at_call 128;refine (HJ.o _ od).mono ?_;rintro e wz ⟨rfl,a_⟩;replace H:=H.trans (a_.mono H.size);replace di:=HS.o _ H));go_upto_region 4 with (fail)
 have u:Below W0.heap.size W0 wz.drew:=dA H;have R:Below W0.heap.size W0 (wz.drew.alloc (.cells #[.string s1,.string s2] 51)):=u.alloc u.size _;have C:Below W0.heap.size W0 (wz.alloc (.cells #[.string s1,.string s2] 51)):=H.alloc H.size _;have X:=ab C c0;have S:=fh yZ.o u;have T:=G u vR.o;have F:=Ek.o.trans (u.mono Ek.o.size);have K:=F.size;obtain⟨_,_,_,_,_,_,_⟩:=HS.o _ H;have aa:m+1≤100001:=Z;clear di;revert u R C S T F;refine bX ?_;intro dI gk aEc acg Hxd aBs;go_region_law (refine xl ui (w:=wz.drew) rfl (.tmp 53) (.tmp 55) rfl w0.heap.size (.slice (some ⟨g,0,none⟩) m cap) m ((Q++[(z1,z2)]).flatMap dd) rfl acg.o 1 D #[.string s1,.string s2] rfl rfl dW Z cY K ?_;intro g8 c8 w8 lu iG qU;have y:=bI Hxd.o (eS iG) cJ.o;have d0:=J y 0;have ad:=aG y 0;simp only[aq,ar]at d0)
 all_goals
  go_end0
  exact⟨rfl,mrg_end (O':=Q++[(z1,z2)]++[(s1,s2)]) y (by rw[rm];exact lu) (by rw[bM,←Hm.o];rfl) (iX aBs.o acg.o (aE _) iG K) N⟩
theorem mrg_put{Q:List h8}{z j:h8}(c:((W.setCell ⟨g,k*2,none⟩ (.string j.1)).setCell ⟨g,k*2+1,none⟩ (.string j.2)).ownsRow w0.heap.size 51 2 (.slice (some ⟨g,0,none⟩) m cap) m (((Q++[z]).set k j).flatMap dd))
  (h:W.heap[x]?=some (.cells #[.slice (some ⟨g,0,none⟩) m cap,.func (.func 128) #[] #[],.func (.func 129) #[] #[]] 186 (0,0))) (i:x≠g) (d:Below w0.heap.size w0 W) (l:m=(Q++[z]).length) (a:k=Q.length) (n:W.ownsRow w0.heap.size 51 2 (.slice (some ⟨g,0,none⟩) m cap) m ((Q++[z]).flatMap dd)) (o:w0.heap.size≤x) :
  Mrg w0 x (Q++[j]) ((W.setCell ⟨g,k*2,none⟩ (.string j.1)).setCell ⟨g,k*2+1,none⟩ (.string j.2)):=by
 have f:=aN (aN (am.refl (fun b=>b=g) W) (k*2) (.string j.1)) (k*2+1) (.string j.2);have e:(Q++[z]).set k j=Q++[j]:=by rw[a,yy _ _ (aE _)];simp
 rw[e]at c;have p:(Q++[j]).length=m:=by rw[l];simp
 have q:=(n.lt g rfl).1;refine⟨_,bI h f i,by rw[p];exact c,d.trans (f.below d.size fun k a=>by rw[a];exact q),o⟩
theorem ztt{Q:List h8}{z1 z2:ByteArray}(h:Mrg w0 x (Q++[(z1,z2)]) w)(hO:∀z∈Q++[(z1,z2)],z.1.size≤9000∧z.2.size≤9000)(hl:(Q++[(z1,z2)]).length≤100000)(s:h8)(hs:s.1.size≤9000∧s.2.size≤9000)(u:jS (dS (z1,z2)) (dS s)=true)(hD:dN w0):
  Calls prog 130 #[.pointer (some ⟨x,0,none⟩),.agg #[.string s.1,.string s.2]] w fun e w'=>e=.returned (.tuple #[])∧Mrg w0 x (Q++[jnV z1 z2 s.1 s.2]) w':=by
 obtain⟨v,hx,dG,fL,A⟩:=h;obtain⟨s1,s2⟩:=s;refine VK ?_;intro eV gH W0 bw nb ck hw dt lT lE B6;obtain⟨m,hm⟩:=Y ((Q++[(z1,z2)]).length);obtain⟨c0,c1,c2,f0,_,_⟩:=y9 dt;obtain⟨b0,b1,_,_⟩:=cP lT;have bL:=dM lE dt D;rw[←hm]at lE hl;revert v hx dG fL dt lE c0 bL;refine ajq ?_;intro k hk Cg g cap dt lE c0 bL km m_ ez xJ dD cc hS jk IS pY MR hJ hK;have y:jS (z1.data.toList,z2.data.toList) (s1.data.toList,s2.data.toList)=true:=u;rw[y]at hJ;refine alw ?_;intro aI Zl kw kp kn Tr kt;clear u y m_ ez;revert hO hD hw lT B6 hm hk Cg dt lE bL km xJ hS jk IS pY MR hJ hK;refine OT ?_;intro HO HD Hw Fj Ek Hm Hk EW vR yZ cJ atz Jc HS yK Hgn gC HFz HJ HK;go_enter func130,ntmps130;go_upto_region 1 with (fail);refine mn ?_;clear bw ck;go_upto_region 2 with (fail);have F:prog.follows .mixedOrders=true:=aA;have H:=dU (aL W0.heap.size W0) 1;have di:=HS.o _ H;go_region_held3 (fun w'=>w'.cell? ⟨x,0,none⟩=some (.slice (some ⟨g,0,none⟩) m cap)∧w'.cell? ⟨x,1,none⟩=some (.func (.func 128) #[] #[])∧w'.cell? ⟨x,2,none⟩=some (.func (.func 129) #[] #[])∧w'.cell? ⟨nb,0,none⟩=some (.string s1)∧w'.cell? ⟨nb,1,none⟩=some (.string s2)∧w'.cell? ⟨g,k*2,none⟩=some (.string z1)∧w'.cell? ⟨g,k*2+1,none⟩=some (.string z2)) (first|exact di|go_keep) (first|(go_at_call 128;refine (HJ.o _ od).mono ?_;rintro e wz ⟨rfl,a_⟩;replace H:=H.trans (a_.mono H.size);replace di:=HS.o _ H));go_upto_region 3 with (fail)
 have B:=H;replace H:=dA H;obtain⟨_,_,_,_,_,_,_⟩:=HS.o _ B;obtain⟨_,_,_,_,_,q7,q8⟩:=HS.o _ H;replace di:_∧_∧_∧_:=⟨(HS.o _ H).1,(HS.o _ H).2.2.1,(HS.o _ H).2.2.2.1,(HS.o _ H).2.2.2.2.1⟩;refine xZ (S:=fun w'=>w'.cell? ⟨x,0,none⟩=some (.slice (some ⟨g,0,none⟩) m cap)∧w'.cell? ⟨x,2,none⟩=some (.func (.func 129) #[] #[])∧w'.cell? ⟨nb,0,none⟩=some (.string s1)∧w'.cell? ⟨nb,1,none⟩=some (.string s2)) aA (by exact di) (fun hHeld=>?_);refine Rn ?_;refine OM ?_;refine bB 13 ?_;refine bB 14 ?_;refine bB 15 ?_;refine bB 16 ?_;refine bB 18 ?_;refine c_ 17 fun K hK=>?_;go_simp;refine hK.out _ _ (by exact di) (fun hHeld=>?_);clear hK K;refine iN ?_;refine c_ 19 fun K hK=>?_;go_simp;refine (HK.o _ od).mono ?_;rintro e wy ⟨rfl,aym⟩;replace H:=H.trans (aym.mono H.size);replace di:_∧_∧_∧_:=⟨(HS.o _ H).1,(HS.o _ H).2.2.1,(HS.o _ H).2.2.2.1,(HS.o _ H).2.2.2.2.1⟩;have L:=(HFz.o _ H).1;have N:=(HFz.o _ H).2;have R:=(HS.o _ H).2.2.2.2.2.1;have T:=(HS.o _ H).2.2.2.2.2.2;clear hHeld;refine cK ?_;refine hK.out _ _ (by exact di) (fun hHeld=>?_);clear hK K;refine iN ?_;refine bB 20 ?_;refine c_ 21 fun K hK=>?_;go_simp;refine hK.out _ _ (by exact gC.o _ H _ _) (fun hHeld=>?_);clear hK K;refine iN ?_;refine lq ?_;go_wp2_with fail;refine fZ (v:=.tuple #[]) (results_none rfl _ _ _) rfl ?_;have C:=ydp (fh yZ.o H) (by rw[←Hm.o]) (i:=k) Tr (jnV z1 z2 s1 s2);exact⟨rfl,mrg_put C (G H vR.o) yK.o (Ek.o.trans (H.mono Ek.o.size)) Hm.o Hk.o (fh yZ.o H) A⟩
theorem ztv{bT:List h8}(h:Mrg w0 x bT w)(c:∀z∈bT,z.1.size≤9000∧z.2.size≤9000)(d:bT.length≤100000)(s:h8)(a:s.1.size≤9000∧s.2.size≤9000)(b:dN w0):
  Calls prog 130 #[.pointer (some ⟨x,0,none⟩),.agg #[.string s.1,.string s.2]] w fun e w'=>e=.returned (.tuple #[])∧Mrg w0 x (H9 bT s) w':=by
 rcases A8 bT with rfl|⟨Q,z,rfl⟩
 ·exact ztu h s a b
 rw[A9]at *;rw[zn8];obtain⟨f,g⟩:=z
 cases dz:jS (dS (f,g)) (dS s) with
 |true=>rw[M rfl];exact ztt h c d s a dz b
 |false=>rw[E ae];exact zw2 h c d s a dz b
end
def zj{α:Type}(p:α→Bool)(l:List α):Int:=match l.findIdx? p with
 |some i=>i
 |none=>-1
def Jl{α:Type}(p:α→Bool)(l:List α)(k:Nat):Prop:=∀i (h:i<l.length),i<k→p l[i]=false
theorem zyy{α:Type}(p:α→Bool)(l:List α):Jl p l 0:=fun _ _ h=>by omega
theorem zyz{α:Type}{p:α→Bool}{l:List α}(h:k<l.length)(a:Jl p l k)(b:p l[k]=false):Jl p l (k+1):=fun i hi c=>by
 by_cases e:i=k
 ·subst e;exact b
 exact a i hi Z
theorem idxOf_at{α:Type}{p:α→Bool}{l:List α}(h:k<l.length)(a:Jl p l k)(b:p l[k]=true):zj p l=k:=by
 have:l.findIdx? p=some k:=by rw[List.findIdx?_eq_some_iff_getElem];exact⟨h,b,fun j c=>by simpa using a j Z c⟩
 unfold zj;rw[this]
theorem yem{α:Type}{p:α→Bool}{l:List α}(h:l.length≤k)(a:Jl p l k):zj p l= -1:=by
 have:l.findIdx? p=none:=by rw[List.findIdx?_eq_none_iff];intro x b;obtain⟨i,hi,e⟩:=DJ.1 b;rw[←e];exact a i hi Z
 unfold zj;rw[this]
theorem idxOf_any{α:Type}(p:α→Bool)(l:List α):l.any p=true↔0≤zj p l:=by
 unfold zj
 cases h:l.findIdx? p with
 |none=>
  rw[List.findIdx?_eq_none_iff]at h;simp only[List.any_eq_true];constructor
  ·rintro⟨x,b,a⟩;rw[h x b]at a;cases a
  intro _;omega
 |some i=>rw[List.findIdx?_eq_some_iff_getElem]at h;obtain⟨hi,a,_⟩:=h;simp only[List.any_eq_true];exact⟨fun _=>Z,fun _=>⟨l[i],eZ hi,a⟩⟩
section
open RowKit
namespace IdxSpan
theorem cells_2{a:List Value}(h:a.length=2):∃u0 u1,a=[u0,u1]:=by
 match a,h with
 |[u0,u1],_=>exact⟨u0,u1,rfl⟩
def Pred{α:Type}(R:Rd α)(p:α→Bool)(g:Nat)(cb:Array Value)(l:List α)(w:World):Prop :=
 ∀W u0 u1 x,Below w.heap.size w W→x∈l→R W [u0,u1] x→Calls prog g (#[.agg #[u0,u1]]++cb) W fun e w'=>e=.returned (.bool (p x))∧Below W.heap.size W w'
theorem idx_any{α:Type}{R:Rd α}(N:nJ R)(p:α→Bool)(g:Nat)(cb:Array Value)(_:∀args w,(callFunc g args).run prog w=.ok (.enter g args) w){w:World}{l:List α}(S:ct 2 R w [v] l)(C:Pred R p g cb l w):
  Calls prog 148 #[v,.func (.func g) #[] cb] w fun e w'=>e=.returned (.int .i64 (zj p l))∧Below w.heap.size w w':=by
 obtain⟨a,cap,F,T,U,K⟩:=S;simp only[nj,lv]at F;subst F;unfold maxLen at U;obtain⟨n,hn⟩:=Y l.length;rw[←hn]at T⊢;have ai:n≤9223372036854775807:=Z;obtain⟨Hn,Hel,Hp⟩:=aQ hn K C;clear hn K C;go_enter func148,ntmps148;go_wp2_with fail;go_loopw [8] (fun i wr=>∃k:Nat,k≤n∧i=.int .i64 k∧Jl p l k∧Below w.heap.size w wr) (fun i _=>n-(intOf i).toNat)
 case atStart=>exact⟨0,bj _,rfl,zyy p l,aL _ _⟩
 case round=>
  obtain⟨k,_,rfl,q,m⟩:=hrel;by_cases aj:k<n
  ·have aI:k<l.length:=gl;obtain⟨x,hx⟩:=Y (l[k]'aI);obtain⟨b,off,hH,rfl,h4,h5,h6⟩:=Hel.o k x lD;obtain⟨u0,u1,rfl⟩:∃u0 u1,hH=[u0,u1]:=cells_2 h4;have y:x∈l:=EP;have al:wr.cell? ⟨b,off+k*2,none⟩=some u0:=ab m (by simpa using h5 0 u0 rfl);have c1:wr.cell? ⟨b,off+k*2+1,none⟩=some u1:=ab m (by simpa using h5 1 u1 rfl);have u:=Hp.o wr u0 u1 x m y (N _ _ _ _ h6 m);have an:(0:Int)≤(k:Int):=Z;have ao:(k:Int)<(n:Int):=Z;by_cases s:p x=true
   ·rw[s]at u;have hi:zj p l=k:=idxOf_at aI q (by rw[←hx];exact s);revert q m hx h5 h6 y u s hi;refine fK ?_;intro L r W X aa ad z ae A;clear h4;go_wp2_with fail;refine z.o.mono ?_;rintro e w2 ⟨rfl,af⟩;have t:=r.o.trans (af.mono r.o.size);obtain⟨bh,bK⟩:=ak af t;clear af t;go_wp2_with fail;go_ret;exact⟨E2 A.o.symm,bK.o⟩
   have B:p x=false:=by simpa using s
   rw[B]at u;have ag:=zyz aI q (by rw[←hx];exact B);revert q m hx h5 h6 y u s B ag;refine dE ?_;intro L r W X aa ad z ae _ ah;clear h4;go_wp2_with fail;refine z.o.mono ?_;rintro e w2 ⟨rfl,af⟩;have t:=r.o.trans (af.mono r.o.size);obtain⟨bh,bK⟩:=ak af t;clear af t;go_wp2_with fail;go_roundw
   case rel=>exact⟨k+1,Z,cj,ah.o,bK.o⟩
   case measure=>simp[intOf];omega
  have hi:zj p l= -1:=yem gl q;obtain⟨L,A,r⟩:=aQ q hi m;clear q hi m;go_wp2_with fail;go_ret;exact⟨E2 A.o.symm,r.o⟩
theorem has_any{α:Type}{R:Rd α}(j:nJ R)(p:α→Bool)(g:Nat)(cb:Array Value)(r:∀args w,(callFunc g args).run prog w=.ok (.enter g args) w){w:World}{l:List α}(m:ct 2 R w [v] l)(n:Pred R p g cb l w):
  Calls prog 122 #[v,.func (.func g) #[] cb] w fun e w'=>e=.returned (.bool (l.any p))∧Below w.heap.size w w':=by
 have q:=idx_any j p g cb r m n;have f:=idxOf_any p l;obtain⟨i,hi⟩:=Y (zj p l);rw[←hi]at q f;revert j m n q hi;refine bU ?_;intro HR Hl Hp HI Hi
 cases hq:l.any p with
 |true=>
  have y:0≤i:=f.1 hq;obtain⟨s,t⟩:=ak hq f;clear hq f;go_enter func122,ntmps122;go_wp2_with fail;refine HI.o.mono ?_;refine KS ?_;intro w2 bh;go_wp2_with fail;go_ret;exact⟨rfl,bh.o⟩
 |false=>
  have u:i<0:=by
   rcases Int.lt_or_le i 0 with h|h
   ·exact h
   have:=f.2 h;rw[hq]at this;cases this
  obtain⟨s,t⟩:=ak hq f;clear hq f;go_enter func122,ntmps122;go_wp2_with fail;refine HI.o.mono ?_;refine KS ?_;intro w2 bh;go_wp2_with fail;go_ret;exact⟨mu (by simpa using u),bh.o⟩
end IdxSpan
end
section
open Shelf RowKit Lib Go.Sort m8 StbA StbB
namespace io
variable {α:Type}{f0:α→ByteArray}{f1:α→ByteArray}{w0:World}{aC off:Nat}{d0:Array α}
def e9(f0:α→ByteArray)(f1:α→ByteArray)(x:α):List Value:=[.string (f0 x),.string (f1 x)]
theorem enc_len:∀x,(e9 f0 f1 x).length=2:=fun _=>rfl
def su(P:Program)(g:Nat)(cb:Array Value)(f:α→List Value)(_k:Nat)(cf:α→α→Int)(aC _off _size:Nat)(w:World):Prop :=
 ∀W,am (fun b=>b=aC) w W→∀x y:α,Calls P g (#[.agg (f x).toArray,.agg (f y).toArray]++cb) W fun e w'=>e=.returned (.int .i64 (cf x y))∧Below W.heap.size W w'
variable [Inhabited α]
abbrev N7(f:α→List Value)(k:Nat)(w0:World)(aC off:Nat)(d:Array α)(W:World):Prop:=aax.SRW 51 f k w0 aC off d W
abbrev RowK(f:α→List Value)(k:Nat)(w0:World)(aC off:Nat)(d:Array α):Prop:=N7 f k w0 aC off d w0
theorem cells{a:Array α}(S:N7 (e9 f0 f1) 2 w0 aC off a W)(_R:RowK (e9 f0 f1) 2 w0 aC off d0)(_hs:a.size=d0.size)(i:Nat)(hi:i<a.size):
  W.cell? ⟨aC,off+i*2,none⟩=some (.string (f0 a[i]!))∧W.frozen? ⟨aC,off+i*2,none⟩=false∧W.cell? ⟨aC,off+i*2+1,none⟩=some (.string (f1 a[i]!))∧W.frozen? ⟨aC,off+i*2+1,none⟩=false:=by
 have h0:=S.cell hi (show 0<2 from D) rfl;rw[mL]at h0;have h1:=S.cell hi (show 1<2 from D) rfl;rw[←rn]at h1;exact⟨h0.1,h0.2,h1.1,h1.2⟩
theorem exch{a:Array α}(S:N7 (e9 f0 f1) 2 w0 aC off a W)(_R:RowK (e9 f0 f1) 2 w0 aC off d0)(i j:Nat)(hi:i<a.size)(b:j<a.size):
  N7 (e9 f0 f1) 2 w0 aC off (swp a i j) (((((W).setCell ⟨aC,off+i*2,none⟩ (.string (f0 a[j]!))).setCell ⟨aC,off+i*2+1,none⟩ (.string (f1 a[j]!))).setCell ⟨aC,off+j*2,none⟩ (.string (f0 a[i]!))).setCell ⟨aC,off+j*2+1,none⟩ (.string (f1 a[i]!))).drew:=by
 have h:=(aax.SRW.exch S enc_len hi b).drew;exact h
end io
end
section
open Shelf RowKit Lib Go.Sort m8 StbA StbB
namespace io
variable {α:Type}[Inhabited α]{f0:α→ByteArray}{f1:α→ByteArray}{w0:World}{aC off:Nat}{d0:Array α}
theorem zt1{d:Array α}(R:RowK (e9 f0 f1) 2 w0 aC off d0)(t:d.size=d0.size)(S:N7 (e9 f0 f1) 2 w0 aC off d w)(a b m cap:Nat)(_:a+m≤b)(u:b+m≤d0.size)(v:d0.size≤1000000)(z:Value):
  Calls prog 193 #[.slice (some ⟨aC,off,none⟩) d0.size cap,.int .i64 a,.int .i64 b,.int .i64 m,z] w fun e w'=>e=.returned (.tuple #[])∧N7 (e9 f0 f1) 2 w0 aC off (swr d a b m) w':=by
 have q:=size_swr d a b;obtain⟨N,A⟩:=Y d0.size;rw[←A]at u v t⊢;obtain⟨l,im⟩:=ak S q;clear S q;go_enter func193,ntmps193;go_wp2_with fail;go_loopw [10] (fun i wr=>∃k:Nat,k≤m∧i=.int .i64 k∧N7 (e9 f0 f1) 2 w0 aC off (swr d a b k) wr) (fun i _=>m-(intOf i).toNat)
 case atStart=>exact⟨0,bj _,rfl,l.o⟩
 case round=>
  obtain⟨k,_,rfl,S⟩:=hrel;by_cases B:k<m
  ·have r:=im.o k;obtain⟨n,p⟩:=Y (swr d a b k);rw[←p]at S r;have s:swr d a b (k+1)=swp n (a+k) (b+k):=by rw[swr,←p]
   have kq:=exch S R (a+k) (b+k) Z Z;obtain⟨p0,_,p1,_⟩:=cells S R Z (a+k) Z;obtain⟨q0,qf0,q1,qf1⟩:=cells S R Z (b+k) Z;obtain⟨x,hx⟩:=Y (n[a+k]!);obtain⟨y,hy⟩:=Y (n[b+k]!);revert kq p0 p1 q0 q1 hx y hy;refine RA ?_;intro hx y hy x0 p0 dt y0 q0 gm x1 p1 dB y1 kq q1 dX;have C:¬off+(a+k)*2=off+(b+k)*2:=Z;have F:¬off+(b+k)*2=off+(a+k)*2:=Z;have K:¬off+(a+k)*2=off+(b+k)*2+1:=Z;have L:¬off+(b+k)*2=off+(a+k)*2+1:=Z;have T:¬off+(a+k)*2+1=off+(b+k)*2:=Z;have U:¬off+(b+k)*2+1=off+(a+k)*2:=Z;have W:¬off+(a+k)*2+1=off+(b+k)*2+1:=Z;have X:¬off+(b+k)*2+1=off+(a+k)*2+1:=Z;have w1:IntKind.i64.wrap ((a:Int)+(k:Int))=(a:Int)+(k:Int):=i_ _ Z;have aa:IntKind.i64.wrap ((b:Int)+(k:Int))=(b:Int)+(k:Int):=i_ _ Z;have n1:((a:Int)+(k:Int)).toNat=a+k:=Z;have n2:((b:Int)+(k:Int)).toNat=b+k:=Z;have ab:(0:Int)≤(a:Int)+(k:Int):=Z;have u2:(0:Int)≤(b:Int)+(k:Int):=Z;have v1:(a:Int)+(k:Int)<(N:Int):=Z;have v2:(b:Int)+(k:Int)<(N:Int):=Z;rw[←s]at kq;clear S;revert r p s hx hy dt gm dB kq dX;refine dE ?_;intro Hl Hdk dV Hx Hy vR awz gD Fp Le;go_wp2_with fail;go_region
   all_goals
    go_wp2_with fail
    go_roundw
    case rel=>exact⟨k+1,Z,cj,Fp.o⟩
    case measure=>simp[intOf];omega
  obtain rfl:k=m:=Z;have l:=O S;clear S;go_wp2_with fail;go_end0
  exact⟨rfl,l.o⟩
end io
end
section
open Shelf RowKit Lib Go.Sort m8 StbA StbB
namespace io
variable {α:Type}[Inhabited α]{f0:α→ByteArray}{f1:α→ByteArray}{w0:World}{aC off:Nat}{d0:Array α}
def Now(f:α→List Value)(k:Nat)(w0:World)(aC off:Nat)(l:List α)(e:Ending)(w':World):Prop:=e=.returned (.tuple #[])∧∃d:Array α,N7 f k w0 aC off d w'∧d.toList=l
theorem ydc{d:Array α}(R:RowK (e9 f0 f1) 2 w0 aC off d0)(S:N7 (e9 f0 f1) 2 w0 aC off d w){p u v q:List α}(O:d.toList=p++u++v++q)(C:d.size=d0.size){a:Nat}(aj:a=p.length)(L:m=a+u.length)(T:b=m+v.length)(U:0<u.length)(W:0<v.length)(cap:Nat)(X:d0.size≤1000000)(aa:Value):
  Calls prog 181 #[.slice (some ⟨aC,off,none⟩) d0.size cap,.int .i64 a,.int .i64 m,.int .i64 b,aa] w (Now (e9 f0 f1) 2 w0 aC off (p++v++u++q)):=by
 have z:=KW.start O (m:=m) (i:=u.length) (j:=v.length) rfl rfl Z;have F:(p++v++u++q).length=d0.size:=by rw[←C,←z.size]
 have K:=z.le;obtain⟨ab,ad⟩:=Y u.length;obtain⟨af,IT⟩:=Y v.length;obtain⟨tgt,lR⟩:=Y (p++v++u++q);rw[←lR]at z F⊢;rw[←ad]at z L U K;rw[←IT]at z T W K;have ag:=fun (n:Array α) (wr:World) (C:n.size=d0.size) (S:N7 (e9 f0 f1) 2 w0 aC off n wr) (a b m:Nat) (h1:a+m≤b) (ak:b+m≤d0.size)=>zt1 R C S a b m cap h1 ak X aa;obtain⟨N,hN⟩:=Y d0.size;rw[←hN]at X F C ag⊢;have al:IntKind.i64.wrap ((m:Int)-(a:Int))=(ab:Int):=sR;have an:IntKind.i64.wrap ((b:Int)-(m:Int))=(af:Int):=sR;clear O aj L T K;revert S ad IT z lR ag F hN;refine fg ?_;intro HS Hiu Hjv iS Fy HC MA HN;go_enter func181,ntmps181;go_wp2_with fail;go_loopw [10,11] (fun x y wr=>∃(i j:Nat)(n:Array α),x=.int .i64 i∧y=.int .i64 j∧0<i∧0<j∧KW tgt m i j n∧N7 (e9 f0 f1) 2 w0 aC off n wr) (fun x y _=>(intOf x).toNat+(intOf y).toNat)
 case atStart=>exact⟨ab,af,d,rfl,rfl,U,W,iS.o,HS.o⟩
 case round=>
  clear al an;obtain⟨i,j,n,rfl,rfl,hi,ao,r,S⟩:=hrel;have l:=r.size;rw[MA.o]at l;have aq:=r.le;rw[l]at aq;have w1:IntKind.i64.wrap ((m:Int)-(i:Int))=((m-i:Nat):Int):=sR;rcases SC i j with A|A|A
  ·have ah:((i:Int)==(j:Int))=false:=l9;have ar:decide ((j:Int)<(i:Int))=false:=be Z;have w2:IntKind.i64.wrap ((m:Int)+(j:Int))=(m:Int)+(j:Int):=i_ _ Z;have w3:IntKind.i64.wrap ((m:Int)+(j:Int)-(i:Int))=((m+j-i:Nat):Int):=sR;have au:IntKind.i64.wrap ((j:Int)-(i:Int))=((j-i:Nat):Int):=sR;have s:=HC.o n wr l S (m-i) (m+j-i) i Z Z;have t:=r.lt A;clear S r;obtain⟨Hc,B,ai⟩:=aQ s t l;clear s t l;go_wp2_with fail;refine RW ?_;intro w2 HS;go_wp2_with fail;go_roundw
   case rel=>exact⟨i,j-i,_,rfl,rfl,hi,Z,B.o,HS.o⟩
   case measure=>simp[intOf];omega
  ·subst A;have ah:((i:Int)==(i:Int))=true:=ae;have s:=HC.o n wr l S (m-i) m i Z Z;have t:=r.eq;clear S r;obtain⟨Hc,B,ai⟩:=aQ s t l;clear s t l;go_wp2_with fail;refine RW ?_;intro w2 HS;go_wp2_with fail;go_end0
   exact⟨rfl,_,HS.o,B.o⟩
  have ah:((i:Int)==(j:Int))=false:=l9;have ar:decide ((j:Int)<(i:Int))=true:=aO Z;have au:IntKind.i64.wrap ((i:Int)-(j:Int))=((i-j:Nat):Int):=sR;have s:=HC.o n wr l S (m-i) m j Z Z;have t:=r.gt A;clear S r;obtain⟨Hc,B,ai⟩:=aQ s t l;clear s t l;go_wp2_with fail;refine RW ?_;intro w2 HS;go_wp2_with fail;go_roundw
  case rel=>exact⟨i-j,j,_,rfl,rfl,Z,ao,B.o,HS.o⟩
  case measure=>simp[intOf];omega
end io
end
section
open Shelf RowKit Lib Go.Sort m8 StbA StbB
namespace io
variable {α:Type}[Inhabited α]{f0:α→ByteArray}{f1:α→ByteArray}{w0:World}{aC off:Nat}{d0:Array α}
variable {cf:α→α→Int}{g:Nat}{cb:Array Value}
theorem ye6{dk:Array α}{w:World}(R:RowK (e9 f0 f1) 2 w0 aC off d0)(S:N7 (e9 f0 f1) 2 w0 aC off dk w)(C:su prog g cb (e9 f0 f1) 2 cf aC off d0.size w0)(_:∀args w,(callFunc g args).run prog w=.ok (.enter g args) w)(z:ww (ltOf cf))
  {p v q:List α} {x:α} (O:dk.toList=p++x::(v++q)) (hs:dk.size=d0.size) (T:gg (ltOf cf) v) {a m b:Nat} (X:a=p.length) (aa:m=a+1) (ad:b=m+v.length) (cap:Nat) (az:d0.size≤1000000) :
  Calls prog 166 #[.slice (some ⟨aC,off,none⟩) d0.size cap,.int .i64 a,.int .i64 m,.int .i64 b,.func (.func g) #[] cb] w (Now (e9 f0 f1) 2 w0 aC off (p++cV (ltOf cf) (x::v)++q)):=by
 have aA:b≤d0.size:=X0;have af:FR (ltOf cf) m b dk:=zja z (p:=p++[x]) (u:=v) (q:=q) F6 T aX aX;have aB:=mono_left z (a:=a) af;have ag:=fun i (s:BS (fun c=>ltOf cf dk[c]! dk[a]!) m b i i)=>one_left z O T X aa ad s;have ah:m≤b:=Z;have aD:=BS.start (fun c=>ltOf cf dk[c]! dk[a]!) ah;have aF:IntKind.i64.wrap ((m:Int)-(a:Int))=1:=sR;have aN:((1:Int)==1)=true:=ae;obtain⟨tgt,lR⟩:=Y (p++cV (ltOf cf) (x::v)++q);rw[←lR]at ag⊢;obtain⟨N,hN⟩:=Y d0.size;rw[←hN]at az hs aA⊢;have aO:a<m:=Z;clear af O T X aa ad;revert R S C z aB ah aD ag lR hs hN;refine kH ?_;intro HR HS HC HO HM Hmb Fo ya Fy Hs HN;go_enter func166,ntmps166;go_wp2_with fail;clear aF;go_loopw [10,11] (fun x y wr=>∃(i j:Nat),x=.int .i64 i∧y=.int .i64 j∧BS (fun c=>ltOf cf dk[c]! dk[a]!) m b i j∧N7 (e9 f0 f1) 2 w0 aC off dk wr) (fun x y _=>(intOf y).toNat-(intOf x).toNat)
 case atStart=>exact⟨m,b,rfl,rfl,Fo.o,HS.o⟩
 case round=>
  obtain⟨i,j,rfl,rfl,s,S⟩:=hrel;have ai:=s.l1;have aG:=s.l2;have aj:=s.l3;by_cases aH:i<j
  ·have R:=HR.o;have C:=HC.o;have hs:=Hs.o;rw[HN.o]at hs;have U:=HN.o;refine Wm ?_;intro h hh w1 w2;obtain⟨p0,_,p1,_⟩:=cells S R hs (h) Z;obtain⟨x,hx⟩:=Y (dk[h]!);revert p0 p1 hx;refine R1 ?_;intro hx x0 p0 dt x1 p1 dB;obtain⟨q0,_,q1,_⟩:=cells S R hs (a) Z;obtain⟨y,hy⟩:=Y (dk[a]!);revert q0 q1 hy;refine R6 ?_;intro hy y0 q0 gm y1 q1 dX lf;have A:∀bP,Below wr.heap.size wr bP→bP.cell? ⟨aC,off+(h)*2,none⟩=some (.string (x0))∧bP.cell? ⟨aC,off+(h)*2+1,none⟩=some (.string (x1))∧bP.cell? ⟨aC,off+(a)*2,none⟩=some (.string (y0))∧bP.cell? ⟨aC,off+(a)*2+1,none⟩=some (.string (y1)):=fun bP hV=>⟨ab hV p0,ab hV p1,ab hV q0,ab hV q1⟩;obtain⟨cv,hcv⟩:=Y (cf x y);rw[←hcv]at lf;have B:=S;have F:(h:Int)<(N:Int):=Z;have aP:(a:Int)<(N:Int):=Z;have ak:i≤h:=Z;have al:h<j:=Z;clear S hs R C U
   cases hdec:decide (cv<0) with
   |true=>
    have t:=s.left HM.o ak al aqy;have aI:cv<0:=ed hdec;obtain⟨an,vY,ao,aq,ar,au,av,aw,GX,W,qo,aJ,aK,aM⟩:=O3 s t hx hy dt gm dB dX B lf A hcv hh hdec;clear s t hx hy dt gm dB dX B lf A hcv hh hdec;go_wp2_with fail;refine OJ ?_;intro H di;go_region_held3 (fun w'=>w'.cell? ⟨aC,off+(h)*2,none⟩=some (.string (x0))∧w'.cell? ⟨aC,off+(h)*2+1,none⟩=some (.string (x1))∧w'.cell? ⟨aC,off+(a)*2,none⟩=some (.string (y0))∧w'.cell? ⟨aC,off+(a)*2+1,none⟩=some (.string (y1))) (first|exact di|go_keep) (first|(go_at_fn g;refine (W.o _ od).mono ?_;rintro e wz ⟨rfl,a_⟩;replace H:=H.trans (a_.mono H.size);replace di:=qo.o _ H));exact V6
   |false=>
    have t:=s.right HM.o ak al aqy;have aI:¬cv<0:=lC hdec;obtain⟨an,vY,ao,aq,ar,au,av,aw,GX,W,qo,aJ,aK,aM⟩:=O3 s t hx hy dt gm dB dX B lf A hcv hh hdec;clear s t hx hy dt gm dB dX B lf A hcv hh hdec;go_wp2_with fail;refine OJ ?_;intro H di;go_region_held3 (fun w'=>w'.cell? ⟨aC,off+(h)*2,none⟩=some (.string (x0))∧w'.cell? ⟨aC,off+(h)*2+1,none⟩=some (.string (x1))∧w'.cell? ⟨aC,off+(a)*2,none⟩=some (.string (y0))∧w'.cell? ⟨aC,off+(a)*2+1,none⟩=some (.string (y1))) (first|exact di|go_keep) (first|(go_at_fn g;refine (W.o _ od).mono ?_;rintro e wz ⟨rfl,a_⟩;replace H:=H.trans (a_.mono H.size);replace di:=qo.o _ H));exact V8
  obtain rfl:i=j:=Z;have ax:=ya.o i s;have aR:m≤i:=ai;have aS:i≤b:=aj;clear ai aG aj;obtain⟨an,HS,HE⟩:=aQ s S ax;clear s S ax;have w1:IntKind.i64.wrap ((i:Int)-1)=(i:Int)-1:=i_ _ Z;go_wp2_with fail;clear w1;go_loopw [13] (fun x wr=>∃r:Nat,x=.int .i64 r∧a≤r∧r≤i-1∧N7 (e9 f0 f1) 2 w0 aC off (upN dk a (r-a)) wr) (fun x _=>i-(intOf x).toNat)
  case atStart=>exact⟨a,rfl,aE _,Z,by rw[sS];exact HS.o⟩
  case round=>
   obtain⟨r,rfl,_,_,S⟩:=hrel;by_cases aH:r<i-1
   ·obtain⟨K,L⟩:=Y (upN dk a (r-a));rw[←L]at S;have ay:upN dk a (r+1-a)=swp K r (r+1):=by rw[show r+1-a=(r-a)+1 from Z,upN,←L,show a+(r-a)=r from Z]
    have R:=HR.o;have F:K.size=d0.size:=by rw[L,size_upN,Hs.o,HN.o]
    have U:=HN.o;have kq:=exch S R (r) (r+1) Z Z;obtain⟨p0,_,p1,_⟩:=cells S R F (r) Z;obtain⟨q0,qf0,q1,qf1⟩:=cells S R F (r+1) Z;obtain⟨x,hx⟩:=Y (K[r]!);obtain⟨y,hy⟩:=Y (K[r+1]!);revert kq p0 p1 q0 q1 hx y hy;refine RA ?_;intro hx y hy x0 p0 dt y0 q0 gm x1 p1 dB y1 kq q1 dX;have aT:¬off+(r)*2=off+(r+1)*2:=Z;have aU:¬off+(r+1)*2=off+(r)*2:=Z;have aV:¬off+(r)*2=off+(r+1)*2+1:=Z;have aW:¬off+(r+1)*2=off+(r)*2+1:=Z;have aY:¬off+(r)*2+1=off+(r+1)*2:=Z;have aZ:¬off+(r+1)*2+1=off+(r)*2:=Z;have a1:¬off+(r)*2+1=off+(r+1)*2+1:=Z;have a6:¬off+(r+1)*2+1=off+(r)*2+1:=Z;have w1:IntKind.i64.wrap ((r:Int)+1)=(r:Int)+1:=i_ _ Z;have w2:IntKind.i64.wrap ((i:Int)-1)=(i:Int)-1:=i_ _ Z;have n2:((r:Int)+1).toNat=r+1:=Z;have u2:(0:Int)≤(r:Int)+1:=Z;have v1:(r:Int)<(N:Int):=Z;have v2:(r:Int)+1<(N:Int):=Z;have v3:(r:Int)<(i:Int)-1:=Z;rw[←ay]at kq;clear S R U;revert L ay F hx hy dt gm dB kq dX;refine dE ?_;intro Hek dV Hl ao aq ar au av Fp aw;go_wp2_with fail;go_region
    all_goals
     go_wp2_with fail
     go_roundw
     case rel=>exact⟨r+1,cj,Z,Z,Fp.o⟩
     case measure=>simp[intOf];omega
   obtain rfl:r=i-1:=Z;have v3:¬((i-1:Nat):Int)<(i:Int)-1:=Z;have w2:IntKind.i64.wrap ((i:Int)-1)=(i:Int)-1:=i_ _ Z;exact anu
end io
end
section
open Shelf RowKit Lib Go.Sort m8 StbA StbB
namespace io
variable {α:Type}[Inhabited α]{f0:α→ByteArray}{f1:α→ByteArray}{w0:World}{aC off:Nat}{d0:Array α}
variable {cf:α→α→Int}{g:Nat}{cb:Array Value}
theorem zzb{dk:Array α}{w:World}(R:RowK (e9 f0 f1) 2 w0 aC off d0)(S:N7 (e9 f0 f1) 2 w0 aC off dk w)(C:su prog g cb (e9 f0 f1) 2 cf aC off d0.size w0)(_:∀args w,(callFunc g args).run prog w=.ok (.enter g args) w)(t:ww (ltOf cf))
  {p u q:List α} {x:α} (O:dk.toList=p++u++x::q) (hs:dk.size=d0.size) (B:gg (ltOf cf) u) {a m b:Nat} (F:a=p.length) (T:m=a+u.length) (au:b=m+1) (av:2≤u.length) (cap:Nat) (aw:d0.size≤1000000) :
  Calls prog 166 #[.slice (some ⟨aC,off,none⟩) d0.size cap,.int .i64 a,.int .i64 m,.int .i64 b,.func (.func g) #[] cb] w (Now (e9 f0 f1) 2 w0 aC off (p++cV (ltOf cf) (u++[x])++q)):=by
 have ax:b≤d0.size:=X0;have U:FR (ltOf cf) a m dk:=zja t (p:=p) (u:=u) (q:=x::q) O B F Z;have ay:=ye4 t U;have W:=fun i (r:BS (fun c=>!ltOf cf dk[m]! dk[c]!) a m i i)=>one_right t O B F T r;have X:a≤m:=Z;have az:=BS.start (fun c=>!ltOf cf dk[m]! dk[c]!) X;have aA:IntKind.i64.wrap ((m:Int)-(a:Int))=(m:Int)-(a:Int):=i_ _ Z;have aB:((m:Int)-(a:Int)==1)=false:=l9;have aD:IntKind.i64.wrap ((b:Int)-(m:Int))=1:=sR;have aO:((1:Int)==1)=true:=ae;obtain⟨tgt,lR⟩:=Y (p++cV (ltOf cf) (u++[x])++q);rw[←lR]at W⊢;obtain⟨N,hN⟩:=Y d0.size;rw[←hN]at aw hs ax⊢;have aP:m<N:=Z;clear U O B F T au av;revert R S C t ay X az W lR hs hN;refine kH ?_;intro HR HS HC HO HM Hmb Fo ya Fy Hs HN;go_enter func166,ntmps166;go_wp2_with fail;clear aA aB aD;go_loopw [14,15] (fun x y wr=>∃(i j:Nat),x=.int .i64 i∧y=.int .i64 j∧BS (fun c=>!ltOf cf dk[m]! dk[c]!) a m i j∧N7 (e9 f0 f1) 2 w0 aC off dk wr) (fun x y _=>(intOf y).toNat-(intOf x).toNat)
 case atStart=>exact⟨a,m,rfl,rfl,Fo.o,HS.o⟩
 case round=>
  obtain⟨i,j,rfl,rfl,r,S⟩:=hrel;have aa:=r.l1;have aF:=r.l2;have ad:=r.l3;by_cases aG:i<j
  ·have R:=HR.o;have C:=HC.o;have hs:=Hs.o;rw[HN.o]at hs;have K:=HN.o;refine Wm ?_;intro h hh w1 w2;obtain⟨p0,_,p1,_⟩:=cells S R hs (m) Z;obtain⟨x,hx⟩:=Y (dk[m]!);revert p0 p1 hx;refine R1 ?_;intro hx x0 p0 dt x1 p1 dB;obtain⟨q0,_,q1,_⟩:=cells S R hs (h) Z;obtain⟨y,hy⟩:=Y (dk[h]!);revert q0 q1 hy;refine R6 ?_;intro hy y0 q0 gm y1 q1 dX lf;have v:∀bP,Below wr.heap.size wr bP→bP.cell? ⟨aC,off+(m)*2,none⟩=some (.string (x0))∧bP.cell? ⟨aC,off+(m)*2+1,none⟩=some (.string (x1))∧bP.cell? ⟨aC,off+(h)*2,none⟩=some (.string (y0))∧bP.cell? ⟨aC,off+(h)*2+1,none⟩=some (.string (y1)):=fun bP hV=>⟨ab hV p0,ab hV p1,ab hV q0,ab hV q1⟩;obtain⟨cv,hcv⟩:=Y (cf x y);rw[←hcv]at lf;have z:=S;have A:(h:Int)<(N:Int):=Z;have aR:(m:Int)<(N:Int):=Z;have af:i≤h:=Z;have ag:h<j:=Z;clear S hs R C K
   cases hdec:decide (cv<0) with
   |true=>
    have s:=r.right HM.o af ag (by show (!ltOf cf dk[m]! dk[h]!)=false;rw[←hx,←hy];unfold ltOf;rw[←hcv,hdec];rfl);have aH:cv<0:=ed hdec;have aI:¬0≤cv:=Z;obtain⟨ah,vY,ai,aj,ak,al,an,ao,GX,L,qo,aJ,aK,aM⟩:=O3 r s hx hy dt gm dB dX z lf v hcv hh hdec;clear r s hx hy dt gm dB dX z lf v hcv hh hdec;go_wp2_with fail;refine OJ ?_;intro H di;go_region_held3 (fun w'=>w'.cell? ⟨aC,off+(m)*2,none⟩=some (.string (x0))∧w'.cell? ⟨aC,off+(m)*2+1,none⟩=some (.string (x1))∧w'.cell? ⟨aC,off+(h)*2,none⟩=some (.string (y0))∧w'.cell? ⟨aC,off+(h)*2+1,none⟩=some (.string (y1))) (first|exact di|go_keep) (first|(go_at_fn g;refine (L.o _ od).mono ?_;rintro e wz ⟨rfl,a_⟩;replace H:=H.trans (a_.mono H.size);replace di:=qo.o _ H));exact V8
   |false=>
    have s:=r.left HM.o af ag (by show (!ltOf cf dk[m]! dk[h]!)=true;rw[←hx,←hy];unfold ltOf;rw[←hcv,hdec];rfl);have aH:¬cv<0:=lC hdec;have aI:0≤cv:=Z;have aS:(!decide (cv<0))=true:=by rw[hdec];rfl
    obtain⟨ah,vY,ai,aj,ak,al,an,ao,GX,L,qo,aJ,aK,aM⟩:=O3 r s hx hy dt gm dB dX z lf v hcv hh hdec;clear r s hx hy dt gm dB dX z lf v hcv hh hdec;go_wp2_with fail;refine OJ ?_;intro H di;go_region_held3 (fun w'=>w'.cell? ⟨aC,off+(m)*2,none⟩=some (.string (x0))∧w'.cell? ⟨aC,off+(m)*2+1,none⟩=some (.string (x1))∧w'.cell? ⟨aC,off+(h)*2,none⟩=some (.string (y0))∧w'.cell? ⟨aC,off+(h)*2+1,none⟩=some (.string (y1))) (first|exact di|go_keep) (first|(go_at_fn g;refine (L.o _ od).mono ?_;rintro e wz ⟨rfl,a_⟩;replace H:=H.trans (a_.mono H.size);replace di:=qo.o _ H));exact V6
  obtain rfl:i=j:=Z;have aq:=ya.o i r;have aT:a≤i:=aa;have aN:i≤m:=ad;clear aa aF ad;obtain⟨ah,HS,HE⟩:=aQ r S aq;clear r S aq;go_wp2_with fail;go_loopw [17] (fun x wr=>∃kk:Nat,x=.int .i64 kk∧i≤kk∧kk≤m∧N7 (e9 f0 f1) 2 w0 aC off (dnN dk m (m-kk)) wr) (fun x _=>(intOf x).toNat)
  case atStart=>exact⟨m,rfl,aN,aE _,by rw[sS];exact HS.o⟩
  case round=>
   obtain⟨kk,rfl,_,_,S⟩:=hrel;by_cases aG:i<kk
   ·obtain⟨jp,rfl⟩:∃jp,kk=jp+1:=⟨kk-1,Z⟩;obtain⟨ek,PN⟩:=Y (dnN dk m (m-(jp+1)));rw[←PN]at S;have ar:dnN dk m (m-jp)=swp ek (jp+1) jp:=by rw[show m-jp=(m-(jp+1))+1 from Z,dnN,←PN,show m-(m-(jp+1))=jp+1 from Z,SA]
    have R:=HR.o;have A:ek.size=d0.size:=by rw[PN,size_dnN,Hs.o,HN.o]
    have K:=HN.o;have kq:=exch S R (jp+1) (jp) Z Z;obtain⟨p0,_,p1,_⟩:=cells S R A (jp+1) Z;obtain⟨q0,qf0,q1,qf1⟩:=cells S R A (jp) Z;obtain⟨x,hx⟩:=Y (ek[jp+1]!);obtain⟨y,hy⟩:=Y (ek[jp]!);revert kq p0 p1 q0 q1 hx y hy;refine RA ?_;intro hx y hy x0 p0 dt y0 q0 gm x1 p1 dB y1 kq q1 dX;refine age ?_;intro Y5 Y9 Y6 Y_ Y7 Za Y8 Zb;have w1:IntKind.i64.wrap (jp:Int)=(jp:Int):=i_ _ Z;have n2:((jp:Int)+1).toNat=jp+1:=Z;have u2:(0:Int)≤(jp:Int)+1:=Z;have v1:(jp:Int)<(N:Int):=Z;have v2:(jp:Int)+1<(N:Int):=Z;have v3:(i:Int)<(jp:Int)+1:=Z;rw[←ar]at kq;clear S R K;revert PN ar A hx hy dt gm dB kq dX;refine dE ?_;intro Hek dV Hl ai aj ak al an Fp ao;go_wp2_with fail;go_region
    all_goals
     go_wp2_with fail
     go_roundw
     case rel=>exact⟨jp,rfl,Z,Z,Fp.o⟩
     case measure=>simp[intOf]<;>omega
   obtain rfl:i=kk:=Z;have v3:¬(i:Int)<(i:Int):=Z;exact anu
end io
end
section
open Shelf RowKit Lib Go.Sort m8 StbA StbB
namespace io
variable {α:Type}[Inhabited α]{f0:α→ByteArray}{f1:α→ByteArray}{w0:World}{aC off:Nat}{d0:Array α}
variable {cf:α→α→Int}{g:Nat}{cb:Array Value}
theorem and_no{P Q:Prop}[Decidable P][Decidable Q]{x y:Bool}(c:x=decide P)(d:y=decide Q)(h:(x&&y)=false):¬P∨¬Q:=by
 subst c d;by_cases a:P
 ·by_cases b:Q
  ·simp[a,b]at h
  exact .inr b
 exact .inl a
theorem JE{P Q:Prop}[Decidable P][Decidable Q]{x y:Bool}(a:x=decide P)(b:y=decide Q)(h:(x&&y)=true):P∧Q:=by
 subst a b;simp only[fI,fE]at h;exact h
def zuj(cf:α→α→Int)(f:α→List Value)(g:Nat)(cb:Array Value)(w0:World)(aC off cap:Nat)(d0:Array α)(n:Nat):Prop :=
 ∀(dk:Array α)(w:World)(p u v q:List α)(a m b:Nat),N7 f 2 w0 aC off dk w→dk.toList=p++u++v++q→dk.size=d0.size→gg (ltOf cf) u→gg (ltOf cf) v→a=p.length→m=a+u.length→b=m+v.length→0<u.length→0<v.length→b-a≤n→
  Calls prog 166 #[.slice (some ⟨aC,off,none⟩) d0.size cap,.int .i64 a,.int .i64 m,.int .i64 b,.func (.func g) #[] cb] w (Now f 2 w0 aC off (p++cV (ltOf cf) (u++v)++q))
def At(f:α→List Value)(w0:World)(aC off:Nat)(l:List α)(w:World):Prop:=∃d:Array α,N7 f 2 w0 aC off d w∧d.toList=l
theorem merge_gen{nn:Nat}{z:Array α}{w:World}(R:RowK (e9 f0 f1) 2 w0 aC off d0)(S:N7 (e9 f0 f1) 2 w0 aC off z w)(C:su prog g cb (e9 f0 f1) 2 cf aC off d0.size w0)(_:∀args w,(callFunc g args).run prog w=.ok (.enter g args) w)(X:ww (ltOf cf))
  {p u v q:List α} (O:z.toList=p++u++v++q) (hs:z.size=d0.size) (al:gg (ltOf cf) u) (an:gg (ltOf cf) v) {a m b:Nat} (ag:a=p.length) (aw:m=a+u.length) (ax:b=m+v.length) (U:2≤u.length) (_:2≤v.length) (aU:b-a≤nn+1) (cap:Nat) (ay:d0.size≤1000000)
  (az:zuj cf (e9 f0 f1) g cb w0 aC off cap d0 nn) :
  Calls prog 166 #[.slice (some ⟨aC,off,none⟩) d0.size cap,.int .i64 a,.int .i64 m,.int .i64 b,.func (.func g) #[] cb] w (Now (e9 f0 f1) 2 w0 aC off (p++cV (ltOf cf) (u++v)++q)):=by
 have aV:b≤d0.size:=X0;obtain⟨mid,aD⟩:=Y ((a+b) / 2);obtain⟨n,G3⟩:=Y (mid+m);obtain⟨B,ah⟩:=Y (n-1)
 obtain⟨lo,hi,ai⟩:∃lo hi,(mid<m→lo=n-b∧hi=mid)∧(¬mid<m→lo=a∧hi=m):=by
  by_cases h:mid<m
  ·exact⟨n-b,mid,fun _=>⟨rfl,rfl⟩,fun ao=>absurd h ao⟩
  exact⟨a,m,fun ao=>absurd ao h,fun _=>⟨rfl,rfl⟩⟩
 have L:a≤lo∧lo≤hi∧hi≤m∧hi≤n∧m≤n-hi∧n-1-lo<b∧0<lo+m:=by
  by_cases h:mid<m
  ·have:=ai.1 h;omega
  have:=ai.2 h;omega
 have aE:=mono_sym X (d:=z) (a:=a) (m:=m) (b:=b) (n:=n) (lo:=lo) (hi:=hi) (zja X (p:=p) (u:=u) (q:=v++q) F6 al ag Z) (zja X (p:=p++u) (u:=v) (q:=q) O an aX aX) L.1 L.2.2.1 L.2.2.2.2.1 L.2.2.2.2.2.1 L.2.2.2.1;have aF:=fun s (A:BS (fun c=>!ltOf cf z[n-1-c]! z[c]!) lo hi s s)=>sym_cut X O al an ag aw ax aD G3 Z ai A;rw[←ah]at aE aF;have aW:=BS.start (fun c=>!ltOf cf z[B-c]! z[c]!) L.2.1;obtain⟨tgt,lR⟩:=Y (p++cV (ltOf cf) (u++v)++q);have aY:IntKind.i64.wrap ((m:Int)-(a:Int))=(m:Int)-(a:Int):=i_ _ Z;have aZ:((m:Int)-(a:Int)==1)=false:=l9;have a1:IntKind.i64.wrap ((b:Int)-(m:Int))=(b:Int)-(m:Int):=i_ _ Z;have a6:((b:Int)-(m:Int)==1)=false:=l9;have a7:IntKind.i64.wrap ((a:Int)+(b:Int))=(a:Int)+(b:Int):=i_ _ Z;have a8:((a:Int)+(b:Int)) / 2=(mid:Int):=Z;have bF:IntKind.i64.wrap ((mid:Int)+(m:Int))=(n:Int):=sR;have ba:IntKind.i64.wrap ((n:Int)-1)=(B:Int):=sR;have bG:a<m:=Z;have bH:m<b:=Z;have bI:a<mid:=Z;have bJ:mid<b:=Z;rw[←lR];obtain⟨N,hN⟩:=Y d0.size;rw[←hN]at ay hs aV⊢;have bb:zuj cf (e9 f0 f1) g cb w0 aC off cap d0 nn:=az;clear az;have bc:p.length=a:=ag.symm;revert R S C X O al an ag aw ax aU aD G3 ah ai L aE aF aW lR hs hN bb bc;refine aqu ?_;intro HR HS HC HO Hd Hu Hv Ha Hm Hb oY Hmid L8 Bg Hlo aB HM ya Fo Fy Hs HN awb GZ;go_enter func166,ntmps166;go_upto_if 140 with fail;clear aY aZ a1 a6 a7 a8;go_cut [20,21] from 141 to 146 (fun x y F=>x=.int .i64 lo∧y=.int .i64 hi∧F=w)
 case first=>
  by_cases hc:mid<m
  ·obtain⟨e1,e2⟩:=Hlo.o.1 hc;have bK:IntKind.i64.wrap ((n:Int)-(b:Int))=(lo:Int):=by rw[i_ _ (by have:=Hmid.o;have:=L8.o;omega)];have:=Hmid.o;have:=L8.o;omega
   have bd:decide ((mid:Int)<(m:Int))=true:=aO Z;exact alb
  obtain⟨e1,e2⟩:=Hlo.o.2 hc;have bd:decide ((mid:Int)<(m:Int))=false:=be Z;exact alb
 case rest=>
  obtain⟨rfl,rfl,rfl⟩:=hcut;go_wp2_with fail;clear ba;go_loopw [20,21] (fun x y wr=>∃(i j:Nat),x=.int .i64 i∧y=.int .i64 j∧BS (fun c=>!ltOf cf z[B-c]! z[c]!) lo hi i j∧N7 (e9 f0 f1) 2 w0 aC off z wr) (fun x y _=>(intOf y).toNat-(intOf x).toNat)
  case atStart=>exact⟨lo,hi,rfl,rfl,Fo.o,HS.o⟩
  case round=>
   obtain⟨i,j,rfl,rfl,A,S⟩:=hrel;have bf:=A.l1;have bg:=A.l2;have bh:=A.l3;by_cases bj:i<j
   ·have R:=HR.o;have C:=HC.o;have hs:=Hs.o;rw[HN.o]at hs;have bk:=HN.o;have bl:=aB.o;have ah:=Bg.o;have bm:z.size=N:=Hs.o;refine Wm ?_;intro h hh w1 w2;have bn:B-h<N:=Z;have bo:h<N:=Z;obtain⟨p0,_,p1,_⟩:=cells S R hs (B-h) Z;obtain⟨x,hx⟩:=Y (z[B-h]!);revert p0 p1 hx;refine R1 ?_;intro hx x0 p0 dt x1 p1 dB;obtain⟨q0,_,q1,_⟩:=cells S R hs (h) Z;obtain⟨y,hy⟩:=Y (z[h]!);revert q0 q1 hy;refine R6 ?_;intro hy y0 q0 gm y1 q1 dX lf;have aa:∀bP,Below wr.heap.size wr bP→bP.cell? ⟨aC,off+(B-h)*2,none⟩=some (.string (x0))∧bP.cell? ⟨aC,off+(B-h)*2+1,none⟩=some (.string (x1))∧bP.cell? ⟨aC,off+(h)*2,none⟩=some (.string (y0))∧bP.cell? ⟨aC,off+(h)*2+1,none⟩=some (.string (y1)):=fun bP hV=>⟨ab hV p0,ab hV p1,ab hV q0,ab hV q1⟩;obtain⟨cv,hcv⟩:=Y (cf x y);rw[←hcv]at lf;have aj:=S;have bL:(h:Int)<(N:Int):=Z;have w3:IntKind.i64.wrap ((B:Int)-(h:Int))=((B-h:Nat):Int):=sR;obtain⟨ad,JG⟩:=Y (B-h);have bN:(ad:Int)<(N:Int):=Z;rw[←JG]at w3;rw[←JG]at p0 p1 aa;have aG:i≤h:=Z;have aH:h<j:=Z;clear S hs R C bk bl ah bm bn bo
    cases hdec:decide (cv<0) with
    |true=>
     have ae:=A.right HM.o aG aH (by show (!ltOf cf z[B-h]! z[h]!)=false;rw[←hx,←hy];unfold ltOf;rw[←hcv,hdec];rfl);have aq:cv<0:=ed hdec;have bp:(!decide (cv<0))=false:=by rw[hdec];rfl
     obtain⟨af,vY,bq,br,bs,bt,bu,bw,GX,ar,qo,bx,bz,bA,bB⟩:=xI A ae hx hy dt gm dB dX aj lf aa hcv hh hdec JG;clear A ae hx hy dt gm dB dX aj lf aa hcv hh hdec JG;go_wp2_with fail;refine RH ?_;intro mixed H di;go_region_held3 (fun w'=>w'.cell? ⟨aC,off+(ad)*2,none⟩=some (.string (x0))∧w'.cell? ⟨aC,off+(ad)*2+1,none⟩=some (.string (x1))∧w'.cell? ⟨aC,off+(h)*2,none⟩=some (.string (y0))∧w'.cell? ⟨aC,off+(h)*2+1,none⟩=some (.string (y1))) (first|exact di|go_keep) (first|(go_at_fn g;refine (ar.o _ od).mono ?_;rintro e wz ⟨rfl,T⟩;replace H:=H.trans (T.mono H.size);replace di:=qo.o _ H));exact V8
    |false=>
     have ae:=A.left HM.o aG aH (by show (!ltOf cf z[B-h]! z[h]!)=true;rw[←hx,←hy];unfold ltOf;rw[←hcv,hdec];rfl);have aq:¬cv<0:=lC hdec;have bp:(!decide (cv<0))=true:=by rw[hdec];rfl
     obtain⟨af,vY,bq,br,bs,bt,bu,bw,GX,ar,qo,bx,bz,bA,bB⟩:=xI A ae hx hy dt gm dB dX aj lf aa hcv hh hdec JG;clear A ae hx hy dt gm dB dX aj lf aa hcv hh hdec JG;go_wp2_with fail;refine RH ?_;intro mixed H di;go_region_held3 (fun w'=>w'.cell? ⟨aC,off+(ad)*2,none⟩=some (.string (x0))∧w'.cell? ⟨aC,off+(ad)*2+1,none⟩=some (.string (x1))∧w'.cell? ⟨aC,off+(h)*2,none⟩=some (.string (y0))∧w'.cell? ⟨aC,off+(h)*2+1,none⟩=some (.string (y1))) (first|exact di|go_keep) (first|(go_at_fn g;refine (ar.o _ od).mono ?_;rintro e wz ⟨rfl,T⟩;replace H:=H.trans (T.mono H.size);replace di:=qo.o _ H));exact V6
   obtain rfl:i=j:=Z;have aI:=ya.o i A;obtain⟨af,HS,HE⟩:=aQ A S aI;clear A S aI;obtain⟨x1,x2,y1,y2,e1,e2,e3,e4,e5⟩:=HE.o;have bC:IntKind.i64.wrap ((n:Int)-(i:Int))=((n-i:Nat):Int):=by have:=aB.o;have:=L8.o;have:=Hmid.o;rw[i_ _ Z];omega
   have c1:i<m↔0<x2.length:=by have:=Hm.o;rw[e1,bM]at this;omega
   have c2:m<n-i↔0<y1.length:=Z;have bD:x1.length+y1.length=mid-a:=by have:=L8.o;omega
   have c3:a<i↔0<x1.length:=Z;have c4:i<mid↔0<y1.length:=Z;have aq:m+(y1.length+y2.length)=b:=by have:=Hb.o;rw[e2,bM]at this;omega
   have bE:a+(x1.length+x2.length)=m:=by have:=Hm.o;rw[e1,bM]at this;omega
   have c5:mid<n-i↔0<x2.length:=by have:=L8.o;omega
   have c6:n-i<b↔0<y2.length:=Z;obtain⟨K,au⟩:=Y (n-i)
   rw[←au]at bC c2 c5 c6 e4
   have aJ:∀wr,N7 (e9 f0 f1) 2 w0 aC off z wr→0<x2.length→0<y1.length→Calls prog 181 #[.slice (some ⟨aC,off,none⟩) N cap,.int .i64 i,.int .i64 m,.int .i64 K,.func (.func g) #[] cb] wr (Now (e9 f0 f1) 2 w0 aC off (p++x1++y1++x2++(y2++q))):=fun wr S h1 U=>by have:=ydc (p:=p++x1) (u:=x2) (v:=y1) (q:=y2++q) (a:=i) (m:=m) (b:=K) HR.o S (by rw[Hd.o,e1,e2];simp) (by rw[Hs.o,HN.o]) (by rw[bM,GZ.o];omega) Z Z h1 U cap (by rw[←HN.o];exact ay) (.func (.func g) #[] cb);rw[←HN.o]at this;exact this
   have aK:(¬0<x2.length∨¬0<y1.length)→At (e9 f0 f1) w0 aC off (p++x1++y1++x2++(y2++q)) wr:=fun h=>by
    refine⟨z,HS.o,?_⟩;rw[Hd.o,e1,e2];rcases h with h|h
    ·have:x2=[]:=oT Z;subst this;simp
    have:y1=[]:=oT Z;subst this;simp
   have T:∀d:Array α,d.toList=p++x1++y1++x2++(y2++q)→d.size=d0.size:=fun d h=>by rw[←HN.o,←Hs.o,←ou,←ou,h,Hd.o,e1,e2];simp only[bM];omega
   have av:∀d:Array α,d.toList=p++cV (ltOf cf) (x1++y1)++x2++(y2++q)→d.size=d0.size:=fun d h=>by rw[←HN.o,←Hs.o,←ou,←ou,h,Hd.o,e1,e2];simp only[bM,zq HO.o];omega
   have W:gg (ltOf cf) x1∧gg (ltOf cf) x2:=by have:=Hu.o;rw[e1]at this;exact⟨(sT.1 this).1,(sT.1 this).2.1⟩
   have sv:gg (ltOf cf) y1∧gg (ltOf cf) y2:=by have:=Hv.o;rw[e2]at this;exact⟨(sT.1 this).1,(sT.1 this).2.1⟩
   have aM:∀wr,At (e9 f0 f1) w0 aC off (p++x1++y1++x2++(y2++q)) wr→0<x1.length→0<y1.length→Calls prog 166 #[.slice (some ⟨aC,off,none⟩) N cap,.int .i64 a,.int .i64 i,.int .i64 mid,.func (.func g) #[] cb] wr (Now (e9 f0 f1) 2 w0 aC off (p++cV (ltOf cf) (x1++y1)++(x2++(y2++q)))):=fun wr ⟨d,S,h⟩ h1 U=>by have:=awb.o d wr p x1 y1 (x2++(y2++q)) a i mid S zC (T d h) W.1 sv.1 GZ.o.symm Z Z h1 U J5;rw[←HN.o]at this;exact this
   have aN:∀wr,At (e9 f0 f1) w0 aC off (p++x1++y1++x2++(y2++q)) wr→(¬0<x1.length∨¬0<y1.length)→At (e9 f0 f1) w0 aC off (p++cV (ltOf cf) (x1++y1)++(x2++(y2++q))) wr:=fun wr ⟨d,S,h⟩ h1=>by
    refine⟨d,S,?_⟩;rw[h];rcases h1 with h1|h1
    ·have:x1=[]:=oT Z;subst this;simp only[h_,ig,zoj HO.o sv.1,gq]
    have:y1=[]:=oT Z;subst this;simp only[h_,ig,zoj HO.o W.1,gq]
   have aP:∀wr,At (e9 f0 f1) w0 aC off (p++cV (ltOf cf) (x1++y1)++(x2++(y2++q))) wr→0<x2.length→0<y2.length→Calls prog 166 #[.slice (some ⟨aC,off,none⟩) N cap,.int .i64 mid,.int .i64 K,.int .i64 b,.func (.func g) #[] cb] wr (Now (e9 f0 f1) 2 w0 aC off tgt):=fun wr ⟨d,S,h⟩ h1 U=>by have:=awb.o d wr (p++cV (ltOf cf) (x1++y1)) x2 y2 q mid K b S zC (av d zC) W.2 sv.2 (by rw[bM,zq HO.o,bM,GZ.o];omega) Z Z h1 U J5;rw[←HN.o]at this;rw[Fy.o,e5];exact uu
   have aR:∀wr,At (e9 f0 f1) w0 aC off (p++cV (ltOf cf) (x1++y1)++(x2++(y2++q))) wr→(¬0<x2.length∨¬0<y2.length)→At (e9 f0 f1) w0 aC off tgt wr:=fun wr ⟨d,S,h⟩ h1=>by
    refine⟨d,S,?_⟩;rw[h,Fy.o,e5];rcases h1 with h1|h1
    ·have:x2=[]:=oT Z;subst this;simp only[h_,ig,zoj HO.o sv.2,gq]
    have:y2=[]:=oT Z;subst this;simp only[h_,ig,zoj HO.o W.2,gq]
   obtain⟨X1,Zc⟩:=Y (decide (0<x1.length));obtain⟨X2,hX2⟩:=Y (decide (0<x2.length));obtain⟨Y1,hY1⟩:=Y (decide (0<y1.length));obtain⟨Y2,hY2⟩:=Y (decide (0<y2.length));have g1:decide ((i:Int)<(m:Int))=X2:=SG;have bO:decide ((m:Int)<(K:Int))=Y1:=SH;have bQ:decide ((a:Int)<(i:Int))=X1:=aqz;have bR:decide ((i:Int)<(mid:Int))=Y1:=SH;have bS:decide ((mid:Int)<(K:Int))=X2:=SG;have bT:decide ((K:Int)<(b:Int))=Y2:=ara;have bU:decide (i<m)=X2:=SG;have bV:decide (m<K)=Y1:=SH;have bW:decide (a<i)=X1:=aqz;have bX:decide (i<mid)=Y1:=SH;have bY:decide (mid<K)=X2:=SG;have bZ:decide (K<b)=Y2:=ara;clear c1 c2 c3 c4 c5 c6 e1 e2 e3 e4 e5 bD aq bE bf bg bh bj;obtain⟨HA0,Cm,Fo,ER,HD0,HD1,HX1,IZ,I0,HY2,ir,aEt,Hsu,abs,Hen⟩:=xI aJ aK aM aN aP aR Zc hX2 hY1 hY2 T av W sv au;clear aJ aK aM aN aP aR Zc hX2 hY1 hY2 T av W sv au;go_upto_region 39 with fail;go_cut [185] from 178 to 185 (fun x F=>x=.bool (X2&&Y1)∧F=wr)
   case first=>cases X2<;>cases Y1<;>(go_wp2_with fail;go_meet;exact⟨rfl,rfl⟩)
   case rest=>
   obtain⟨rfl,rfl⟩:=hcut;go_upto_if 185 with fail;go_cut [] from 178 to 191 (fun F=>At (e9 f0 f1) w0 aC off (p++x1++y1++x2++(y2++q)) F)
   case first=>
    cases hc:(X2&&Y1) with
    |true=>have gX:=HA0.o _ HS.o (JE IZ.o I0.o hc).1 (JE IZ.o I0.o hc).2;exact ahr
    |false=>have gX:=Cm.o (and_no IZ.o I0.o hc);exact ani
   case rest=>
   have aS:=hcut;clear hcut;have aT:=O aS;clear aS;go_upto_region 41 with fail;go_cut [199] from 192 to 199 (fun x F=>x=.bool (X1&&Y1)∧F=wc)
   case first=>cases X1<;>cases Y1<;>(go_wp2_with fail;go_meet;exact⟨rfl,rfl⟩)
   case rest=>
   obtain⟨rfl,rfl⟩:=hcut;go_upto_if 199 with fail;go_cut [] from 192 to 205 (fun F=>At (e9 f0 f1) w0 aC off (p++cV (ltOf cf) (x1++y1)++(x2++(y2++q))) F)
   case first=>
    cases hc:(X1&&Y1) with
    |true=>have gX:=Fo.o _ aT.o (JE HX1.o I0.o hc).1 (JE HX1.o I0.o hc).2;exact ahr
    |false=>have gX:=ER.o _ aT.o (and_no HX1.o I0.o hc);exact ani
   case rest=>
   have A:=hcut;clear hcut;have af:=O A;clear A;go_upto_region 43 with fail;go_cut [213] from 206 to 213 (fun x F=>x=.bool (X2&&Y2)∧F=wc)
   case first=>cases X2<;>cases Y2<;>(go_wp2_with fail;go_meet;exact⟨rfl,rfl⟩)
   case rest=>
   obtain⟨rfl,rfl⟩:=hcut;go_upto_if 213 with fail
   cases hc:(X2&&Y2) with
   |true=>
    have gX:=HD0.o _ af.o (JE IZ.o HY2.o hc).1 (JE IZ.o HY2.o hc).2;obtain⟨Hc,uL⟩:=ak hc gX;clear hc gX;go_wp2_with fail;refine uL.o.mono ?_;exact als
   |false=>have gX:=HD1.o _ af.o (and_no IZ.o HY2.o hc);obtain⟨Hc,uL⟩:=ak hc gX;clear hc gX;refine vJ ?_;exact⟨rfl,uL.o⟩
end io
end
section
open Shelf RowKit Lib Go.Sort m8 StbA StbB
namespace io
variable {α:Type}[Inhabited α]{f0:α→ByteArray}{f1:α→ByteArray}{w0:World}{aC off:Nat}{d0:Array α}
variable {cf:α→α→Int}{g:Nat}{cb:Array Value}
theorem zu3{d:Array α}{w:World}(R:RowK (e9 f0 f1) 2 w0 aC off d0)(S:N7 (e9 f0 f1) 2 w0 aC off d w)(C:su prog g cb (e9 f0 f1) 2 cf aC off d0.size w0)(_:∀args w,(callFunc g args).run prog w=.ok (.enter g args) w)
  (A:d.size=d0.size) {a b:Nat} (_:a≤b) (aq:b≤d0.size) (cap:Nat) (ar:d0.size≤1000000) :
  Calls prog 165 #[.slice (some ⟨aC,off,none⟩) d0.size cap,.int .i64 a,.int .i64 b,.func (.func g) #[] cb] w fun e w'=>e=.returned (.tuple #[])∧N7 (e9 f0 f1) 2 w0 aC off (Sort.insertionSort (ltOf cf) d a b) w':=by
 obtain⟨N,X⟩:=Y d0.size;rw[←X]at ar A aq⊢;revert R S C A X;refine bU ?_;intro HR t HC Hs HN;go_enter func165,ntmps165;go_wp2_with fail;go_loopw [8] (fun x wr=>∃(i:Nat)(dk:Array α),x=.int .i64 i∧a<i∧i≤b+1∧dk.size=N∧N7 (e9 f0 f1) 2 w0 aC off dk wr∧insOuter (ltOf cf) a b i dk=insOuter (ltOf cf) a b (a+1) d) (fun x _=>b+1-(intOf x).toNat)
 case atStart=>exact⟨a+1,d,cj,Z,Z,Hs.o,t.o,rfl⟩
 case round=>
  obtain⟨i,dk,rfl,_,_,aa,S,v⟩:=hrel;by_cases L:i<b
  ·have w1:IntKind.i64.wrap ((i:Int)+1)=(i:Int)+1:=i_ _ Z;have au:(i:Int)<(b:Int):=Z;obtain⟨ad,t,av⟩:=aQ v S aa;clear v S aa;go_wp2_with fail;go_loopw [9] (fun x wq=>∃(j:Nat)(p:Array α),x=.int .i64 j∧a≤j∧j≤i∧p.size=N∧N7 (e9 f0 f1) 2 w0 aC off p wq∧insInner (ltOf cf) a j p=insInner (ltOf cf) a i dk) (fun x _=>(intOf x).toNat)
   case atStart=>exact⟨i,dk,rfl,Z,aE _,av.o,t.o,rfl⟩
   case round=>
    obtain⟨j,p,rfl,_,_,q,S,r⟩:=hrel;have out:(j≤a∨ltOf cf p[j]! p[j-1]! =false)→insOuter (ltOf cf) a b (i+1) p=insOuter (ltOf cf) a b (a+1) d:=fun A=>by rw[←ad.o,insOuter_go _ _ _ _ _ L,←r,insInner_stop _ _ _ _ A]
    by_cases aw:a<j
    ·obtain⟨jp,rfl⟩:∃jp,j=jp+1:=⟨j-1,Z⟩;have aF:=L;have R:=HR.o;have C:=HC.o;rw[HN.o]at q;have T:=HN.o;obtain⟨p0,_,p1,_⟩:=cells S R q (jp+1) Z;obtain⟨x,hx⟩:=Y (p[jp+1]!);revert p0 p1 hx;refine R1 ?_;intro hx x0 p0 dt x1 p1 dB;obtain⟨q0,_,q1,_⟩:=cells S R q (jp) Z;obtain⟨y,hy⟩:=Y (p[jp]!);revert q0 q1 hy;refine R6 ?_;intro hy y0 q0 gm y1 q1 dX lf;have B:∀bP,Below wr.heap.size wr bP→bP.cell? ⟨aC,off+(jp+1)*2,none⟩=some (.string (x0))∧bP.cell? ⟨aC,off+(jp+1)*2+1,none⟩=some (.string (x1))∧bP.cell? ⟨aC,off+(jp)*2,none⟩=some (.string (y0))∧bP.cell? ⟨aC,off+(jp)*2+1,none⟩=some (.string (y1)):=fun bP hV=>⟨ab hV p0,ab hV p1,ab hV q0,ab hV q1⟩;obtain⟨cv,hcv⟩:=Y (cf x y);rw[←hcv]at lf;have u:=S;have ax:IntKind.i64.wrap (jp:Int)=(jp:Int):=i_ _ Z;have n2:((jp:Int)+1).toNat=jp+1:=Z;have u2:(0:Int)≤(jp:Int)+1:=Z;have v1:(jp:Int)<(N:Int):=Z;have v2:(jp:Int)+1<(N:Int):=Z;have v3:(a:Int)<(jp:Int)+1:=Z;clear S R C T
     cases hdec:decide (cv<0) with
     |true=>
      have ay:cv<0:=ed hdec;have ae:insInner (ltOf cf) a jp (swp p (jp+1) jp)=insInner (ltOf cf) a i dk:=by rw[←r];have:=insInner_go (ltOf cf) a (jp+1) p aw arb;simp only[SA]at this;exact this.symm
      obtain⟨af,az,s,ag,ah,ai,aj,ak,al,an,z,F,qo,aB,aD⟩:=xI r ae q out hx hy dt gm dB dX u lf B hcv hdec;clear r ae q out hx hy dt gm dB dX u lf B hcv hdec;go_wp2_with fail;refine RH ?_;intro mixed H di;go_region_held3 (fun w'=>w'.cell? ⟨aC,off+(jp+1)*2,none⟩=some (.string (x0))∧w'.cell? ⟨aC,off+(jp+1)*2+1,none⟩=some (.string (x1))∧w'.cell? ⟨aC,off+(jp)*2,none⟩=some (.string (y0))∧w'.cell? ⟨aC,off+(jp)*2+1,none⟩=some (.string (y1))) (first|exact di|go_keep) (first|(go_at_fn g;refine (F.o _ od).mono ?_;rintro e wz ⟨rfl,a_⟩;replace H:=H.trans (a_.mono H.size);replace di:=qo.o _ H))
      all_goals
       go_wp2_with fail
       have S:=z.o.below H;clear F qo p0 q0 p1 q1;obtain⟨ax,ao⟩:=Y wz;rw[←ao]at S⊢;have R:=HR.o;have q:=s.o;have T:=HN.o;have kq:=exch S R (jp+1) (jp) Z Z;obtain⟨p0,pf0,p1,pf1⟩:=cells S R q (jp+1) Z;obtain⟨q0,qf0,q1,qf1⟩:=cells S R q (jp) Z;obtain⟨x,hx⟩:=Y (p[jp+1]!);obtain⟨y,hy⟩:=Y (p[jp]!);revert kq p0 p1 q0 q1 hx y hy;refine RA ?_;intro hx y hy x0 p0 dt y0 q0 gm x1 p1 dB y1 kq q1 dX;refine age ?_;intro Y5 Y9 Y6 Y_ Y7 Za Y8 Zb;clear S R T;revert ao q hx hy dt gm dB kq dX;refine fK ?_;intro yh s ah ai aj ak al Fp an;refine cK ?_;go_region
       all_goals
        go_wp2_with fail
        go_roundw
        case rel=>exact⟨jp,_,rfl,Z,Z,by rw[size_swp,s.o,HN.o],Fp.o,az.o⟩
        case measure=>simp[intOf]<;>omega
     |false=>
      have ay:¬cv<0:=lC hdec;have K:=out (Or.inr arb);obtain⟨af,U,s,ag,ah,ai,aj,ak,al,an,z,F,qo,aB,aD⟩:=xI r K q out hx hy dt gm dB dX u lf B hcv hdec;clear r K q out hx hy dt gm dB dX u lf B hcv hdec;go_wp2_with fail;refine RH ?_;intro mixed H di;go_region_held3 (fun w'=>w'.cell? ⟨aC,off+(jp+1)*2,none⟩=some (.string (x0))∧w'.cell? ⟨aC,off+(jp+1)*2+1,none⟩=some (.string (x1))∧w'.cell? ⟨aC,off+(jp)*2,none⟩=some (.string (y0))∧w'.cell? ⟨aC,off+(jp)*2+1,none⟩=some (.string (y1))) (first|exact di|go_keep) (first|(go_at_fn g;refine (F.o _ od).mono ?_;rintro e wz ⟨rfl,a_⟩;replace H:=H.trans (a_.mono H.size);replace di:=qo.o _ H))
      all_goals
       go_wp2_with fail
       go_roundw
       case rel=>exact⟨i+1,p,cj,Z,Z,by rw[s.o,HN.o],z.o.below H,U.o⟩
       case measure=>simp[intOf];omega
    have v3:¬(a:Int)<(j:Int):=Z;have v4:decide ((a:Int)<(j:Int))=false:=be v3;have K:=out (Or.inl Z);have u:=S.drew;revert q S r out K u;refine bX ?_;intro s t af ag U z;go_wp2_with fail;go_region
    all_goals
     go_wp2_with fail
     go_roundw
     case rel=>exact⟨i+1,p,cj,Z,Z,s.o,z.o,U.o⟩
     case measure=>simp[intOf];omega
  have au:¬(i:Int)<(b:Int):=Z;have W:dk=Sort.insertionSort (ltOf cf) d a b:=by unfold Sort.insertionSort;rw[←v,insOuter_stop _ _ _ _ _ L]
  rw[W]at S;obtain⟨t,ad,_⟩:=aQ S v W;clear S v W;go_wp2_with fail;go_end0
  exact⟨rfl,t.o⟩
end io
end
section
open Shelf RowKit Lib Go.Sort m8 StbA StbB
namespace io
variable {α:Type}[Inhabited α]{f0:α→ByteArray}{f1:α→ByteArray}{w0:World}{aC off:Nat}{d0:Array α}
variable {cf:α→α→Int}{g:Nat}{cb:Array Value}
theorem merge_any(R:RowK (e9 f0 f1) 2 w0 aC off d0)(C:su prog g cb (e9 f0 f1) 2 cf aC off d0.size w0)(k:∀args w,(callFunc g args).run prog w=.ok (.enter g args) w)(l:ww (ltOf cf))(cap:Nat)(o:d0.size≤1000000):∀n,zuj cf (e9 f0 f1) g cb w0 aC off cap d0 n:=by
 intro n
 induction n with
 |zero=>intro s w p u v q a m b S O i d e j c hb h1 f r;omega
 |succ n t=>
  intro s w p u v q a m b S O i d e j c hb h1 f r
  match u,O,d,c,h1 with
  |[],_,_,_,h1=>simp at h1
  |[x],O,d,c,h1=>exact ye6 R S C k l (p:=p) (v:=v) (q:=q) (x:=x) F6 i e j (by simpa using c) hb cap o
  |x::z::u,O,d,c,h1=>
   match v,O,e,hb,f with
   |[],_,_,_,f=>simp at f
   |[y],O,e,hb,f=>exact zzb R S C k l (p:=p) (u:=x::z::u) (q:=q) (x:=y) F6 i d j c Tg ae cap o
   |y::A::v,O,e,hb,f=>exact merge_gen R S C k l O i d e j c hb ae ae r cap o t
theorem yd3(R:RowK (e9 f0 f1) 2 w0 aC off d0)(C:su prog g cb (e9 f0 f1) 2 cf aC off d0.size w0)(ae:∀args w,(callFunc g args).run prog w=.ok (.enter g args) w)(af:ww (ltOf cf))(cap:Nat)(W:d0.size≤1000000):
  Calls prog 151 #[.slice (some ⟨aC,off,none⟩) d0.size cap,.int .i64 d0.size,.func (.func g) #[] cb] w0 (Now (e9 f0 f1) 2 w0 aC off (cV (ltOf cf) d0.toList)):=by
 have X:=merge_any R C ae af cap W d0.size;have ao:N7 (e9 f0 f1) 2 w0 aC off d0 w0:=R;have ag:=fun (m:Array α) (wr:World) (a b:Nat) (S:N7 (e9 f0 f1) 2 w0 aC off m wr) (aq:m.size=d0.size) (ar:a≤b) (au:b≤d0.size)=>zu3 R S C ae aq ar au cap W;obtain⟨l0,Bz⟩:=Y d0.toList;have ah:l0.length=d0.size:=by rw[Bz,ou]
 have av:P1 (ltOf cf) l0 20 0 d0:=P1.start l0 20 Bz.symm;rw[←Bz];unfold zuj at X;obtain⟨N,ai⟩:=Y d0.size;rw[←ai]at W ah ag X⊢;revert R C af ao Bz av X ag ah ai;refine dE ?_;intro HR HC HO HS Uj HP0 HM HI im HN;go_enter func151,ntmps151;go_wp2_with fail;go_loopw [7,8] (fun x y wr=>∃(a:Nat)(m:Array α),x=.int .i64 a∧y=.int .i64 ((a:Int)+20)∧P1 (ltOf cf) l0 20 a m∧N7 (e9 f0 f1) 2 w0 aC off m wr) (fun x _ _=>N+20-(intOf x).toNat)
 case atStart=>exact⟨0,d0,rfl,rfl,HP0.o,HS.o⟩
 case round=>
  obtain⟨a,m,rfl,rfl,l,S⟩:=hrel;have z:=l.le;rw[im.o]at z;have r:=l.size HO.o;rw[im.o]at r;by_cases ay:a+20≤N
  ·have v1:decide ((a:Int)+20≤(N:Int))=true:=aO Z;have v2:(a:Int)+20≤(N:Int):=Z;have w1:IntKind.i64.wrap ((a:Int)+20+20)=(a:Int)+20+20:=i_ _ Z;have t:=HI.o m wr a (a+20) S (by rw[r]) Z Z;rw[show ((a+20:Nat):Int)=(a:Int)+20 from Z]at t;have s:=l.step HO.o (by rw[im.o];omega);revert l S z r t s;refine bX ?_;intro A HS T U Hc rk;go_wp2_with fail;refine RW ?_;intro w2 HS;go_wp2_with fail;go_roundw
   case rel=>exact⟨a+20,_,cj,cj,rk.o,HS.o⟩
   case measure=>simp[intOf];omega
  have v1:decide ((a:Int)+20≤(N:Int))=false:=be Z;have v2:¬(a:Int)+20≤(N:Int):=Z;have t:=HI.o m wr a N S (by rw[r]) Z Z;have s:=l.last HO.o (n:=N) im.o.symm Z;clear HI;revert l S z r t s;refine bX ?_;intro A HS T U Hc rk;go_wp2_with fail;refine Hc.o.mono ?_;rintro e w2 ⟨rfl,S⟩;clear v1 v2;have HS:=O S;clear S;go_wp2_with fail;go_loopw [6] (fun x wr=>∃(bs:Nat)(m:Array α),x=.int .i64 bs∧20≤bs∧bs≤2*N+20∧P2 (ltOf cf) l0 bs m∧N7 (e9 f0 f1) 2 w0 aC off m wr) (fun x _=>N-(intOf x).toNat)
  case atStart=>exact⟨20,_,rfl,aE _,Z,rk.o,HS.o⟩
  case round=>
   obtain⟨bs,m,rfl,_,_,l,S⟩:=hrel;by_cases az:bs<N
   ·have v2:(bs:Int)<(N:Int):=Z;have w1:IntKind.i64.wrap (2*(bs:Int))=2*(bs:Int):=i_ _ Z;have aA:IntKind.i64.wrap ((bs:Int)*2)=2*(bs:Int):=sR;have aj:=P3.start l;obtain⟨A,HS,aw⟩:=aQ l S aj;clear l S aj;go_wp2_with fail;go_loopw [7,8] (fun x y wr=>∃(a:Nat)(m:Array α),x=.int .i64 a∧y=.int .i64 ((a:Int)+2*(bs:Int))∧P3 (ltOf cf) l0 bs a m∧N7 (e9 f0 f1) 2 w0 aC off m wr) (fun x _ _=>N+2*bs-(intOf x).toNat)
    case atStart=>exact⟨0,m,rfl,cj,aw.o,HS.o⟩
    case round=>
     obtain⟨a,m,rfl,rfl,l,S⟩:=hrel;have r:=l.size HO.o;rw[im.o]at r;obtain⟨r,z⟩:=r;rw[r]at z;have w2:IntKind.i64.wrap ((a:Int)+(bs:Int))=(a:Int)+(bs:Int):=i_ _ Z;by_cases aB:a+2*bs≤N
     ·have v3:decide ((a:Int)+2*(bs:Int)≤(N:Int))=true:=aO Z;have v4:(a:Int)+2*(bs:Int)≤(N:Int):=Z;have w3:IntKind.i64.wrap ((a:Int)+2*(bs:Int)+2*(bs:Int))=(a:Int)+2*(bs:Int)+2*(bs:Int):=i_ _ Z;obtain⟨p,u,v,q,B,F,K,L,aa,ab,ad⟩:=l.step HO.o (by rw[im.o];omega) Z;have t:=HM.o m wr p u v q a (a+bs) (a+2*bs) S B (by rw[r,HN.o]) F K L Z Z Z Z Z;rw[show ((a+bs:Nat):Int)=(a:Int)+(bs:Int) from Z,show ((a+2*bs:Nat):Int)=(a:Int)+2*(bs:Int) from Z]at t;clear B F K L aa ab;revert l S r z ad t;refine bX ?_;intro A HS U T Hq7 Hc;go_wp2_with fail;refine Hc.o.mono ?_;rintro e w2 ⟨rfl,d2,S,ak⟩;have s:=Hq7.o d2 ak;clear ak;obtain⟨HS,rk⟩:=ak S s;clear S s;go_wp2_with fail;go_roundw
      case rel=>exact⟨a+2*bs,_,cj,cj,rk.o,HS.o⟩
      case measure=>simp[intOf];omega
     have v3:decide ((a:Int)+2*(bs:Int)≤(N:Int))=false:=be Z;have v4:¬(a:Int)+2*(bs:Int)≤(N:Int):=Z;by_cases al:a+bs<N
     ·have v5:(a:Int)+(bs:Int)<(N:Int):=Z;obtain⟨p,u,v,B,F,K,L,aa,ab,ad⟩:=l.last1 HO.o (n:=N) im.o.symm Z al;have t:=HM.o m wr p u v [] a (a+bs) N S B (by rw[r,HN.o]) F K L Z Z Z Z Z;rw[show ((a+bs:Nat):Int)=(a:Int)+(bs:Int) from Z]at t;clear B F K L aa ab;revert l S r z ad t;refine bX ?_;intro A HS U T Hq7 Hc;go_wp2_with fail;refine Hc.o.mono ?_;rintro e w2 ⟨rfl,d2,S,ak⟩;have s:=Hq7.o d2 ak;clear ak;obtain⟨HS,rk⟩:=ak S s;clear S s;exact akt
     have v5:¬(a:Int)+(bs:Int)<(N:Int):=Z;have s:=l.last2 (n:=N) im.o.symm Z al Z;revert l S r z s;refine bU ?_;intro A HS U T rk;exact akt
   have v2:¬(bs:Int)<(N:Int):=Z;have an:=l.done (by rw[im.o];omega);obtain⟨A,HS,ax⟩:=aQ l S an;clear l S an;go_wp2_with fail;go_end0
   exact⟨rfl,m,HS.o,ax.o⟩
theorem abo(R:RowK (e9 f0 f1) 2 w0 aC off d0)(C:su prog g cb (e9 f0 f1) 2 cf aC off d0.size w0)(n:∀args w,(callFunc g args).run prog w=.ok (.enter g args) w)(j:ww (ltOf cf))(cap:Nat)(k:d0.size≤1000000):
  Calls prog 126 #[.slice (some ⟨aC,off,none⟩) d0.size cap,.func (.func g) #[] cb] w0 (Now (e9 f0 f1) 2 w0 aC off (cV (ltOf cf) d0.toList)):=by
 have i:=yd3 R C n j cap k;obtain⟨l,m⟩:=Y (cV (ltOf cf) d0.toList);rw[←m]at i⊢;obtain⟨N,hN⟩:=Y d0.size;rw[←hN]at k i⊢;revert R C j m i hN;refine bX ?_;intro HR HC HO Hl Hc HN;go_enter func126,ntmps126;go_wp2_with fail;refine Hc.o.mono ?_;exact als
end io
end
section
open Shelf RowKit Lib Go.Sort m8 av
abbrev tB(l:List Tp):List h8:=l.map (·.1)
abbrev spEnc:Tp→List Value:=io.e9 (fun x:Tp=>x.1.1) fun x=>x.1.2
theorem zrw(l:List Tp):l.flatMap spEnc=(tB l).flatMap dd:=by
 induction l with
 |nil=>rfl
 |cons x l a=>rw[oR,a];rfl
theorem yex:∀args w,(callFunc 127 args).run prog w=.ok (.enter 127 args) w:=mQ func127 (by kernel_rfl) rfl
theorem yd6{w:World}{l:List Tp}(h:w.ownsRow w0.heap.size 51 2 (.slice (some ⟨g,0,none⟩) l.length cap) l.length ((tB l).flatMap dd))(b:Below w0.heap.size w0 w)(i:dN w0)(j:l.length≤80000):
  Calls prog 126 #[.slice (some ⟨g,0,none⟩) l.length cap,.func (.func 127) #[] #[]] w fun e w'=>e=.returned (.tuple #[])∧w'.ownsRow w0.heap.size 51 2 (.slice (some ⟨g,0,none⟩) l.length cap) l.length ((tB (nH l)).flatMap dd)∧Below w0.heap.size w0 w':=by
 rw[←zrw]at h;have m:=aax.abb io.enc_len h rfl;have n:w0.heap.size≤g:=(h.lt g rfl).1
 have o:io.su prog 127 #[] spEnc 2 aas g 0 l.toArray.size w:=fun W p x y=>
  zrd x.1.1 x.1.2 y.1.1 y.1.2 (by have:=x.2.1;omega) (by have:=y.2.1;omega) (i.below (b.trans (p.below b.size (fun k e=>by rw[e];exact n))))
 have f:=io.abo m o yex FI cap (by simpa using fu j D);have e:l.toArray.size=l.length:=ae;rw[e]at f;refine f.mono ?_;rintro e w' ⟨rfl,d,S,O⟩;have q:d.size=l.length:=by rw[←ou,O,zq FI]
 have c:=aax.aba io.enc_len D h S q;rw[O,zrw]at c;exact⟨rfl,c.1,c.2 _ b b.size⟩
theorem ye1(lo hi:ByteArray)(j:lo.size≤1000000)(l:hi.size≤1000000)(f:dN w):Calls prog 123 #[.agg #[.string lo,.string hi]] w fun e w'=>e=.returned (.bool (!eg (lo.data.toList,hi.data.toList)))∧Below w.heap.size w w':=by
 obtain⟨W0,bw⟩:=Y (w.alloc (.cells #[.string lo,.string hi] 51));refine RZ ?_;intro nb ck hw;have g:W0.heap[nb]?=some (.cells #[.string lo,.string hi] 51 (0,0)):=avm;obtain⟨b0,b1,_,_⟩:=cP g;have i:=sW hw (E4 lo hi j l (f.below hw));refine KN ?_;intro p hp;rw[←hp]at i⊢;revert f hw g i hp;refine bU ?_;intro HD Hw Fj HM Hp;go_enter func123,ntmps123;go_upto_region 1 with (fail);refine mn ?_;clear bw ck;go_wp2_with fail;refine mU ?_;exact Ri
theorem zu8:∀args w,(callFunc 123 args).run prog w=.ok (.enter 123 args) w:=mQ func123 (by kernel_rfl) rfl
theorem zyw(l:List Tp)(a:dN w):IdxSpan.Pred RSpn (fun s=>!eg (dS s)) 123 #[] (tB l) w:=by
 intro W _ _ s b c d;obtain⟨h1,_,_⟩:=d;injection h1 with h1 h2;injection h2 with h2 _;subst h1 h2;obtain⟨x,_,rfl⟩:=gb.1 c;exact ye1 _ _ (by have:=x.2.1;omega) (by have:=x.2.2;omega) (a.below b)
theorem yfa(l:List h8):(l.any fun s=>!eg (dS s))= !rM l:=by
 unfold rM;rw[List.not_all_eq_any_not]
theorem jn_size{a b:h8}(ha:a.1.size≤9000∧a.2.size≤9000)(hb:b.1.size≤9000∧b.2.size≤9000):(jnV a.1 a.2 b.1 b.2).1.size≤9000∧(jnV a.1 a.2 b.1 b.2).2.size≤9000:=by
 have h0:(ByteArray.mk #[]).size≤9000:=D;unfold jnV;split
 ·exact agx
 exact⟨h0,h0⟩
def sY(bT:List h8):Prop:=∀z∈bT,z.1.size≤9000∧z.2.size≤9000
theorem sY.add{bT:List h8}(h:sY bT){x:h8}(a:x.1.size≤9000∧x.2.size≤9000):sY (H9 bT x):=by
 rcases A8 bT with rfl|⟨Q,z,rfl⟩
 ·rw[ycp];intro y hy;rw[gd.1 hy];exact a
 rw[A9]at *;rw[zn8];have b:∀y∈Q,y.1.size≤9000∧y.2.size≤9000:=fun y hy=>h y vy;have c:=h z ae;split
 ·intro y hy;rcases ff.1 hy with k|k
  ·exact b y k
  rw[gd.1 k];exact jn_size c a
 intro y hy;rcases ff.1 hy with k|k
 ·exact h y k
 rw[gd.1 k];exact a
theorem zlo:∀(r bT:List h8),sY bT→sY r→sY (r.foldl H9 bT)
 |[],_,h,_=>h
 |x::r,bT,h,a=>zlo r (H9 bT x) (h.add (a x ae)) fun y hy=>a y vy
theorem zjz(l:List Tp):sY (tB l):=fun z a=>by
 obtain⟨x,_,rfl⟩:=gb.1 a;exact x.2
theorem ye5{r:List h8}(h:k<r.length):xr (r.take (k+1))=H9 (xr (r.take k)) r[k]:=by
 unfold xr;rw[pP h,List.foldl_append];rfl
theorem Mrg.below{bT:List h8}(h:Mrg w0 x bT w)(a:Below w.heap.size w w'):Mrg w0 x bT w':=by
 obtain⟨v,h1,c,b,d⟩:=h;exact⟨v,G a h1,fh c a,b.trans (a.mono b.size),d⟩
theorem zxy{w:World}{o:Value}{l:List Tp}(h:w.ownsRow w0.heap.size 51 2 o l.length ((tB l).flatMap dd))(a:Below w0.heap.size w0 w)(d:dN w0)(f:l.length≤80000):
  Calls prog 126 #[o,.func (.func 127) #[] #[]] w fun e w'=>e=.returned (.tuple #[])∧w'.ownsRow w0.heap.size 51 2 o l.length ((tB (nH l)).flatMap dd)∧Below w0.heap.size w0 w':=by
 rcases h.2 with⟨rfl,h0⟩|⟨g,c,_,rfl,_⟩
 ·have i:l=[]:=List.length_eq_zero_iff.1 h0;subst i;exact (zo7 _ w).mono fun e w' ⟨j,b⟩=>⟨j,b ▸ pd _ _ _ _,b ▸ a⟩
 exact yd6 h a d f
theorem yd5(l:List Tp):(tB (nH l)).length=l.length:=by rw[gi];exact (AV l).length_eq
theorem Bb{c:Option Addr}{d:Nat}{R:List h8}(h:gy w [.slice c n d] R):∀i x,R[i]?=some x→∃b off,c=some ⟨b,off,none⟩∧w.cell? ⟨b,off+i*2,none⟩=some (.string x.1)∧w.cell? ⟨b,off+i*2+1,none⟩=some (.string x.2):=by
 obtain⟨a,cap,f,_,g⟩:=qA h;injection f with h1 _ _;subst h1;intro i x hi;obtain⟨b,off,e,c0,c1,_⟩:=g i x hi;exact⟨b,off,e,c0,c1⟩
theorem zqd(R:List h8)(k:Nat):(xr (R.take k)).length≤k:=by
 have h:=zng (R.take k) [];rw[tZ]at h;unfold xr;simp only[tO]at h;omega
def gN(l:List Tp):Bool:=rM (tB l)&&decide ((fJ l).length≤16)
def zum(l:List Tp)(w:World)(e:Ending)(w':World):Prop :=
 ∃o,e=.returned (.tuple #[o,.bool (gN l)])∧(gN l=true→w'.ownsRow w.heap.size 51 2 o (fJ l).length ((fJ l).flatMap dd))∧(gN l=false→o=.slice none 0 0)∧Below w.heap.size w w'
theorem form_no{l:List Tp}(h:gN l=false)(a:Below w.heap.size w w'):zum l w (.returned (.tuple #[.slice none 0 0,.bool false])) w' :=
 ⟨_,by rw[h],(fun k=>by rw[h]at k;cases k),(fun _=>rfl),a⟩
theorem form_any{l:List Tp}(h:gy w [v] (tB l))(_:l.length≤80000)(u:dN w):Calls prog 99 #[v] w (zum l w):=by
 have m:=IdxSpan.has_any jm (fun s=>!eg (dS s)) 123 #[] zu8 h (zyw l u);rw[yfa]at m;have A:=fun(W:World)(k:Below w.heap.size w W)=>zx7 (bz jm _ _ _ _ h k) (by rw[gi];omega);obtain⟨a,cap,rfl⟩:=qz h;obtain⟨n,hn⟩:=Y ((tB l).length);have F:n=l.length:=X3;rw[←hn]at m A h⊢;have bb:n≤80000:=Z;obtain⟨p,hp⟩:=Y (rM (tB l));rw[←hp]at m
 cases p with
 |false=>
  have K:gN l=false:=by unfold gN;rw[←hp];rfl
  obtain⟨aJ,S,al,aK,mG,T,U,X⟩:=awj h m A hn F hp u K;clear h m A hn F hp u K;go_enter func99,ntmps99;go_wp2_with fail;refine S.o.mono ?_;rintro e w1 ⟨rfl,ai⟩;have B:=O ai;clear ai;go_wp2_with fail;go_ret2
  exact form_no X.o B.o
 |true=>
  obtain⟨aJ,S,al,aK,mG,T,U⟩:=oD h m A hn F hp u;clear h m A hn F hp u;go_enter func99,ntmps99;go_wp2_with fail;refine S.o.mono ?_;rintro e w1 ⟨rfl,ai⟩;have aa:=al.o w1 ai;unfold zrb at aa;obtain⟨B,HK1⟩:=ak ai aa;clear ai aa;go_wp2_with fail;refine HK1.o.mono ?_;rintro e w2 ⟨o,rfl,ho,af⟩;have an:w2.ownsRow w1.heap.size 51 2 o l.length ((tB l).flatMap dd):=by rw[←mG.o];exact ho
  have ad:=zxy an af (U.o.below B.o) J6;rw[←mG.o]at ad;obtain⟨aL,aN,rfl⟩:=bg ho;clear an;obtain⟨Ho,bh,HS⟩:=aQ ho af ad;clear ho af ad;go_wp2_with fail;refine HS.o.mono ?_;rintro e w3 ⟨rfl,XA,aM⟩;have L:=yd5 l;rw[←mG.o]at L;obtain⟨R,hR⟩:=Y (tB (nH l));rw[←hR]at XA L;have ao:sY R:=by rw[hR];exact zjz _
  have aq:gy w3 [.slice aL n aN] R:=Dm (fun x C=>by have:=ao x C;unfold maxLen;omega) (by rw[L];exact XA);have aP:=Bb aq;have ar:=B.o.trans (aM.mono B.o.size);have aR:=U.o.below ar;have aT:xr R=fJ l:=by rw[hR];rfl
  revert aM L XA hR ao aq aP ar aR aT;refine dE ?_;intro _ au _ _ av _ aU ae aV aW;go_upto_region 6 with (fail);have aw:Mrg w3 w3.heap.size [] (w3.alloc (.cells #[.slice none 0 0,.func (.func 128) #[] #[],.func (.func 129) #[] #[]] 186)):=⟨_,dq _ _,pd _ _ _ _,aS _ _,aE _⟩;have aX:=O aw;clear aw;go_wp2_with fail;go_loopw [17] (fun i wr=>∃k:Nat,k≤n∧i=.int .i64 k∧Mrg w3 w3.heap.size (xr (R.take k)) wr) (fun i _=>n-(RowKit.intOf i).toNat)
  case atStart=>exact⟨0,bj _,rfl,aX.o⟩
  case round=>
   obtain⟨k,_,rfl,r⟩:=hrel;have t:Below w3.heap.size w3 wr:=by obtain⟨_,_,_,hb,_⟩:=r;exact hb
   by_cases bc:k<n
   ·have ag:k<R.length:=by have:=au.o;omega
    obtain⟨y,N⟩:=Y (R[k]);obtain⟨b,off,rfl,c0,c1⟩:=aU.o k y (by rw[N];exact bR ag);have d0:=ab t c0;have d1:=ab t c1;have ax:=av.o y (by rw[N];exact eZ ag);have ah:=ye5 ag;rw[←N]at ah;obtain⟨bT,hO⟩:=Y (xr (R.take k));rw[←hO]at r ah;have ay:sY bT:=by rw[hO];exact zlo _ _ (fun z hz=>by simp at hz) fun z hz=>av.o z (List.mem_of_mem_take hz)
    have aY:bT.length≤100000:=by rw[hO];have:=zqd R k;omega
    obtain⟨az,aA⟩:=y;have aZ:=ztv (r.below (aS wr (.cells #[.string az,.string aA] 51))) ay aY (az,aA) ax aV.o;refine s_ ?_;intro k5 k6;clear c0 c1;revert t r hO ay N ax ah aZ;refine fg ?_;intro aB HM HO HOs Hy PL qQ HA;go_wp2_with fail;refine HA.o.mono ?_;rintro e w5 ⟨rfl,FE⟩;rw[←qQ.o]at FE;have a1:=O FE;clear FE;go_wp2_with fail;go_roundw
    case rel=>exact⟨k+1,Z,cj,a1.o⟩
    case measure=>exact gT
   obtain rfl:k=n:=Z;rw[lH (jg au.o),aW.o]at r;obtain⟨ov,C,dG,_,_⟩:=r;obtain⟨c0,_,_,_⟩:=y9 C;obtain⟨oa2,oc2,rfl⟩:=bg dG;have aC:=ae.o.trans (t.mono ae.o.size);obtain⟨q,hq⟩:=Y ((fJ l).length);have aD:=ET dG ae.o.size;rw[←hq]at c0;by_cases bd:16<q
   ·have a6:decide ((16:Int)<(q:Int))=true:=aO Z;have K:gN l=false:=by unfold gN;rw[←T.o,←hq,decide_eq_false Z];rfl
    revert t C dG aC hq aD K;refine eb ?_;intro aB a7 a8 aj aF aG X;go_wp2_with fail;go_ret2
    exact form_no X.o aj.o
   have a6:decide ((16:Int)<(q:Int))=false:=be Z;have ba:gN l=true:=by unfold gN;rw[←T.o,←hq,decide_eq_true Z];rfl
   revert t C dG aC hq aD ba;refine eb ?_;intro aB a7 a8 aj aF aG aH;go_wp2_with fail;go_ret2
   exact⟨.slice oa2 q oc2,(by rw[aH.o];rfl),(fun _=>by have aI:=aG.o;rw[←aF.o]at aI⊢;exact aI),(fun k=>by rw[aH.o]at k;cases k),aj.o⟩
theorem Ag:up prog 41 9 (.string ⟨#[]⟩) 1 16:=⟨Sj,by kernel_rfl,rfl,by decide⟩
def lJ(s:h8):ByteArray:=txS s.1 s.2
theorem zq8{s:h8}(h:s.1.size≤9000∧s.2.size≤9000):(lJ s).size≤18001:=by
 unfold lJ txS;split
 ·have:=zsy s.1 s.2;omega
 decide
def Dx(F:List h8):ByteArray:=⟨(Lib.join ((F.map lJ).map (·.data.toList)) [44]).toArray⟩
theorem NN(B:Nat):∀(L:List (List UInt8)),(∀x∈L,x.length≤B)→Lib.lens L≤B*L.length
 |[],_=>by simp[Lib.lens]
 |x::L,h=>by have h1:=NN B L fun y hy=>h y vy;have a:=h x ae;simp only[Lib.lens,eU,List.sum_cons,fO]at *;rw[Nat.mul_add];omega
theorem yei{F:List h8}(h:sY F)(hl:F.length≤80000):(Lib.join ((F.map lJ).map (·.data.toList)) [44]).length≤140737488355328:=by
 have b:∀x∈(F.map lJ).map (·.data.toList),x.length≤18001:=by intro x c;obtain⟨y,hy,rfl⟩:=gb.1 c;obtain⟨z,hz,rfl⟩:=gb.1 hy;rw[em.len];exact zq8 (h z hz)
 have h1:=NN 18001 _ b;have d:((F.map lJ).map (·.data.toList)).length≤80000:=F4;obtain⟨L,e⟩:=Y ((F.map lJ).map (·.data.toList));rw[←e]at h1 d⊢;exact Wk
def oh(l:List Tp):ByteArray:=if gN l=false then ⟨#[]⟩ else if (fJ l).length=0 then ⟨#[33]⟩ else Dx (fJ l)
theorem Nd(l:List Tp):sY (fJ l):=zlo _ _ (fun z a=>by simp at a) (zjz _)
theorem zyj{F:List h8}(h:k<F.length):((F.take (k+1)).map fun s=>Value.string (lJ s))=((F.take k).map fun s=>Value.string (lJ s))++[Value.string (lJ F[k])]:=by
 rw[pP h,oP];rfl
theorem zpn{l:List Tp}(h:gy w [v] (tB l))(aA:l.length≤80000)(u:dN w):Calls prog 68 #[v] w fun e w'=>e=.returned (.string (oh l))∧Below w.heap.size w w':=by
 have hF:=form_any h aA u;unfold zum at hF;obtain⟨a,cap,rfl⟩:=qz h;obtain⟨ok,dz⟩:=Y (gN l);obtain⟨n,hn⟩:=Y ((tB l).length);obtain⟨F,FD⟩:=Y (fJ l);rw[←dz,←FD]at hF;rw[←hn]at hF h⊢
 cases ok with
 |false=>
  have r:oh l=⟨#[]⟩:=by unfold oh;rw[if_pos dz.symm]
  rw[r];obtain⟨aC,L,R,aD,S,an,Ht⟩:=oD h hF dz hn FD u r;clear h hF dz hn FD u r;go_enter func68,ntmps68;go_wp2_with fail;refine L.o.mono ?_;rintro e w1 ⟨o,rfl,_,m,ai⟩;obtain⟨ao,aB⟩:=ak m ai;clear m ai;exact RQ
 |true=>
  have aF:F.length≤80000:=by rw[FD];have:=ybu l;omega
  have aq:sY F:=by rw[FD];exact Nd l
  obtain⟨aC,L,R,aD,S,an,U⟩:=oD h hF dz hn FD u aq;clear h hF dz hn FD u aq;go_enter func68,ntmps68;go_wp2_with fail;refine L.o.mono ?_;rintro e w1 ⟨o,rfl,m,_,ai⟩;have m:=m trivial;obtain⟨oa,oc,rfl⟩:=bg m;have W:gy w1 [.slice oa F.length oc] F:=Dm (fun x hx=>by have:=U.o x hx;unfold maxLen;omega) m;have ar:=Bb W;obtain⟨q,hq⟩:=Y F.length;rw[←hq]at aF⊢;by_cases h0:q=0
  ·subst h0;have r:oh l=⟨#[33]⟩:=by unfold oh;rw[if_neg (by rw[←R.o];simp),←S.o,if_pos hq.symm]
   revert ai m W ar hq r;refine bX ?_;intro aB ao aG au Hq Ht;go_wp2_with fail;go_ret;exact⟨MC,aB.o⟩
  have aN:((q:Int)==0)=false:=l9;have r:oh l=Dx F:=by unfold oh;rw[if_neg (by rw[←R.o];simp),←S.o,if_neg (by rw[←hq];exact h0)]
  have aH:w1.ownsRow w1.heap.size 9 1 (.slice none 0 0) 0 ((F.take 0).map fun s=>Value.string (lJ s)):=pd _ _ _ _;revert ai m W ar hq r aH;refine eb ?_;intro aB ao aG au Hq Ht Em;go_wp2_with fail;go_loopw [5,22] (fun v i wr=>∃k:Nat,k≤q∧i=.int .i64 k∧wr.ownsRow w1.heap.size 9 1 v k ((F.take k).map fun s=>Value.string (lJ s))∧Below w1.heap.size w1 wr) (fun _ i _=>q-(RowKit.intOf i).toNat)
  case atStart=>exact⟨0,bj _,rfl,Em.o,aL _ _⟩
  case round=>
   obtain⟨k,_,rfl,p,t⟩:=hrel;obtain⟨ra,rc,rfl⟩:=bg p;by_cases aO:k<q
   ·have JF:k<F.length:=J7;obtain⟨y,hy⟩:=Y (F[k]);obtain⟨b,off,rfl,c0,c1⟩:=au.o k y X4;have d0:=ab t c0;have d1:=ab t c1;have X:=U.o y X5;have B:=zyj JF;rw[←hy]at B;obtain⟨N,hN⟩:=Y ((F.take k).map fun s=>Value.string (lJ s));rw[←hN]at p B;obtain⟨y1,y2⟩:=y;have av:Below wr.heap.size wr (wr.alloc (.cells #[.string y1,.string y2] 51)):=aS _ _;have C:=aB.o.trans ((t.trans (av.mono t.size)).mono aB.o.size);have A:=zjw y1 y2 (by have:=X.1;simp only at this;omega) (by have:=X.2;simp only at this;omega) (an.o.below C);obtain⟨P,hP⟩:=Y (txS y1 y2);rw[←hP]at A;have aw:lJ (y1,y2)=P:=hP.symm;rw[aw]at B;refine kG ?_;intro k5;have aP:(k:Int)<(q:Int):=Z;clear c0 c1;revert t p hN hy X av C B A hP aw;refine kH ?_;intro aa ax HN Hy PL gk ad qQ ae HP HPp;go_wp2_with fail;refine ae.o.mono ?_;rintro e w5 ⟨rfl,aW⟩;have af:=aa.o.trans ((gk.o.trans (aW.mono gk.o.size)).mono aa.o.size);have ay:=fh (fh ax.o gk.o) aW;have aR:=af.size;obtain⟨cQ,aAo,tK⟩:=aQ aW af ay;clear aW af ay;go_wp2_with (at_builtin;(refine kZ Ag rfl (.tmp 26) (.tmp 29) rfl w1.heap.size (.slice ra k rc) k N rfl tK.o 1 #[.string P] rfl rfl dW Z cY Z ?_;intro v9 w9 aZ aT cg;obtain⟨a9,c9,rfl⟩:=bg aZ;have az:=(iX aAo.o tK.o (aE _) aT Z:Below w1.heap.size w1 w9);obtain⟨dY,d_⟩:=ak aZ az;clear aZ aT cg az));go_roundw
    case rel=>exact⟨k+1,Z,cj,by rw[qQ.o];exact dY.o,d_.o⟩
    case measure=>(simp[RowKit.intOf])<;>omega
   obtain rfl:k=q:=Z;rw[lH (jg Hq.o.symm)]at p
   obtain⟨K,_,ag⟩:∃g c,Value.slice ra k rc=.slice (some ⟨g,0,none⟩) k c:=by
    rcases p.2 with⟨h1,_⟩|⟨g,cap,_,h1,_⟩
    ·omega
    exact⟨_,cap,h1⟩
   injection ag with ag _ sk;subst ag sk
   have ah:=Tryz.strings_Join K 0 rc (F.map lJ) ⟨#[44]⟩ wr (fun j x aj=>by
    have aU:=(ie.1 aj).1;have:=p.cells (g:=K) rfl j (.string x) (by rw[rC]at aj⊢;obtain⟨z,aI,rfl⟩:=Je.1 aj;rw[aI];rfl);rw[tX]at this
    exact this) (p.lt K rfl).2 (by rw[gi];have:=Hq.o;omega) (by
     rw[gi,←Hq.o];rcases p.2 with⟨al,_⟩|⟨_,_,_,al,_,_,_,_⟩
     ·cases al
     injection al with _ _ e3;omega) (yei U.o J7)
   rw[gi,←Hq.o]at ah;have C:=aB.o.trans (t.mono aB.o.size);obtain⟨T,A⟩:=Y (Dx F);have aJ:Calls prog 38 #[.slice (some ⟨K,0,none⟩) k rc,.string ⟨#[44]⟩] wr fun e w'=>e=.returned (.string T)∧Below wr.heap.size wr w':=by rw[A];exact ah
   clear ah;revert t p C A aJ;refine bU ?_;intro aa ax ad ae aK;go_wp2_with fail;refine aK.o.mono ?_;rintro e w6 ⟨rfl,cX⟩;have aM:=O cX;clear cX;go_wp2_with fail;go_ret;exact⟨by rw[Ht.o,←ae.o];rfl,ad.o.trans (aM.o.mono ad.o.size)⟩
end
section
open RowKit Lib av
set_option linter.unusedSimpArgs false
theorem refMt_val(lo hi a hj:ByteArray):(if a.size≠0∧(lo.size=0∨oy lo.data.toList a.data.toList=true) then a else lo)=mN lo a∧(if hj.size≠0∧(hi.size=0∨oy hj.data.toList hi.data.toList=true) then hj else hi)=mR hi hj:=by
 have h:=ydg (lo.data.toList,hi.data.toList) (a.data.toList,hj.data.toList);have h1:=iB Prod.fst h;have b:=iB Prod.snd h;refine⟨em.ext ?_,em.ext ?_⟩
 ·rw[zji,zu4];simp only[←mc,vw];exact h1
 rw[zi3,zu4];simp only[←mc,vw];exact b
theorem zyd(lo hi lp hj:ByteArray)(hl:lo.size≤1000000)(hh:hi.size≤1000000)(gG:lp.size≤1000000)(zW:hj.size≤1000000)(w:World):Calls prog 134 #[.agg #[.string lo,.string hi],.agg #[.string lp,.string hj]] w fun e w'=>e=.returned (.tuple #[.agg #[.string (mtV lo hi lp hj).1,.string (mtV lo hi lp hj).2],.bool (jS (lo.data.toList,hi.data.toList) (lp.data.toList,hj.data.toList))])∧Below w.heap.size w w':=by
 refine RT ?_;intro w0 bw nb ck hw cM ha a0 a1 a2 a3 hb b0 b1 b2 b3 hr r0 r1 r2 r3;have t:=fun(W:World)(_:Below w0.heap.size w0 W)=>Ng lo hi hl hh W;have u:=fun(W:World)(_:Below w0.heap.size w0 W)=>Ng lp hj gG zW W;have v:=fun(W:World)(_:Below w0.heap.size w0 W)=>Jo lo lp hl gG W;have z:=fun(W:World)(_:Below w0.heap.size w0 W)=>Jo hj hi zW hh W;have C:=fun(x y:ByteArray)(F:x.size≤1000000)(K:y.size≤1000000)(W:World)(_:Below w0.heap.size w0 W)=>Ng x y F K W;have n:=refMt_val lo hi lp hj;refine KN ?_;intro p hp;obtain⟨q,hq⟩:=Y (eg (lp.data.toList,hj.data.toList));obtain⟨rx,EV⟩:=Y (oy lo.data.toList lp.data.toList);obtain⟨ry,FA⟩:=Y (oy hj.data.toList hi.data.toList);refine ala ?_;intro d1 k1 d2 k2 d3 k3 d4 k4;rw[←EV,←FA]at n;have A:mN lo lp=if d1=false∧(d2=true∨rx=true) then lp else lo:=by rw[←n.1,←k1,←k2];simp only[em.ii,pQ,vw,fE]
 have B:mR hi hj=if d3=false∧(d4=true∨ry=true) then hj else hi:=by rw[←n.2,←k3,←k4];simp only[em.ii,pQ,vw,fE]
 have dz:jS (lo.data.toList,hi.data.toList) (lp.data.toList,hj.data.toList)=(p&&q&&eg ((mN lo lp).data.toList,(mR hi hj).data.toList)):=by unfold jS FK;rw[hp,hq,zji,zi3]
 have DX:mtV lo hi lp hj=if (p&&q&&eg ((mN lo lp).data.toList,(mR hi hj).data.toList))=true then (mN lo lp,mR hi hj) else (⟨#[]⟩,⟨#[]⟩):=by unfold mtV;rw[dz]
 have L:w.heap.size≤nb+1+1:=Z;rw[←hp]at t;rw[←hq]at u;rw[←EV]at v;rw[←FA]at z;rw[A,B]at dz DX;clear hp hq EV FA n A B;revert hw cM ha hb hr C t u v z dz DX L;refine zN ?_;intro Hw cr Ha Hb Hr HO HA N R r ev oB iP;go_enter func134,ntmps134;go_upto_region 1 with (fail);refine mn ?_;clear bw ck;go_wp2_with fail;refine Xq ?_;intro w1 hs ai;revert a0 a1 a2 a3 b0 b1 b2 b3 r0 r1 r2 r3 Ha Hb Hr;refine Bj ?_;intro ha a0 a1 a2 a3 hb b0 b1 b2 b3 hr r0 r1 r2 r3;revert hs ai ha hb hr;refine bU ?_;intro Hs aB Ha Hb Hr
 cases p with
 |false=>
  go_wp2_with fail
  refine zI ?_;exact⟨tf gU gU GM,ik _ _ (eG Hw.o aB.o) iP.o⟩
 |true=>
  go_wp2_with fail
  refine (N.o _ aB.o).mono ?_;refine OD ?_;intro w2 hs af;revert a0 a1 a2 a3 b0 b1 b2 b3 r0 r1 r2 r3 Ha Hb Hr;refine Bj ?_;intro ha a0 a1 a2 a3 hb b0 b1 b2 b3 hr r0 r1 r2 r3;revert hs af ha hb hr;refine bU ?_;intro Hs bh Ha Hb Hr
  cases q with
  |false=>
   go_wp2_with fail
   refine zI ?_;exact⟨tf gU gU GM,ik _ _ (eG Hw.o bh.o) iP.o⟩
  |true=>
   go_upto_region 4 with (fail)
   obtain⟨w3,hv⟩:=Y (w2.alloc (.cells #[.string lo,.string hi] 51));refine alo ?_;intro go hg hs aM Mf Mh Mi Mj;revert a0 a1 a2 a3 b0 b1 b2 b3 r0 r1 r2 r3 Ha Hb Hr;refine Bj ?_;intro ha a0 a1 a2 a3 hb b0 b1 b2 b3 hr r0 r1 r2 r3;have ho:w3.heap[go]?=some (.cells #[.string lo,.string hi] 51 (0,0)):=Td;obtain⟨o0,o1,o2,o3⟩:=cP ho;rw[←hv,←hg];clear hv hg;revert hs aM Mf Mh Mi Mj ha hb hr ho;refine dE ?_;intro Hs bK vh YB YC YD Ha Hb Hr Ho
   cases d1 with
   |false=>
    cases d2 with
    |false=>
     go_wp2_with fail
     refine (R.o _ bK.o).mono ?_;revert a0 a1 a2 a3 b0 b1 b2 b3 r0 r1 r2 r3 o0 o1 o2 o3 Ha Hb Hr Ho;refine Gn ?_;intro w4 a0 a1 a2 a3 b0 b1 b2 b3 r0 r1 r2 r3 o0 o1 o2 o3 Hs dL Ha Hb Hr Ho
     cases rx with
     |false=>
      cases d3 with
      |false=>
       cases d4 with
       |false=>
        go_wp2_with fail
        refine (r.o _ dL.o).mono ?_;rintro e w5 ⟨rfl,hs⟩;have aW:=dL.o.trans (hs.mono dL.o.size);revert a0 a1 a2 a3 b0 b1 b2 b3 r0 r1 r2 r3 o0 o1 o2 o3 Ha Hb Hr Ho;refine tc ?_;intro ha a0 a1 a2 a3 hb b0 b1 b2 b3 hr r0 r1 r2 r3 ho o0 o1 o2 o3;revert hs aW ha hb hr ho;refine bX ?_;intro Hs cQ Ha Hb Hr Ho
        cases ry with
        |false=>refine RO ?_;intro hZ s hs;exact Ov
        |true=>
         go_upto_region 8 with (fail)
         revert a0 a1 a2 a3 b0 b1 b2 b3 Ha Hb;refine aie ?_;intro w6 hv cX ha a0 a1 a2 a3 hb b0 b1 b2 b3 hr;clear Hr r0 r1 r2 r3;obtain⟨r0,r1,r2,r3⟩:=cP hr;have ho:w6.heap[go]?=some (.cells #[.string lo,.string hj] 51 (0,0)):=tL;revert o0 o1 o2 o3 Ho hv;refine pV ?_;intro o0 o1 o2 o3;revert cX ha hb hr ho;refine bU ?_;intro je Ha Hb Hr Ho;refine Xy ?_;intro hZ s hs;exact Wt
       |true=>exact adp
      |true=>refine RO ?_;intro hZ s hs;exact RJ
     |true=>
      go_upto_region 6 with (fail)
      obtain⟨w5,hv⟩:=Y (w4.setCell ⟨go,0,none⟩ (.string lp));have aW:Below w0.heap.size w0 w5:=atw;revert a0 a1 a2 a3 b0 b1 b2 b3 r0 r1 r2 r3 Ha Hb Hr;refine KO ?_;intro ha a0 a1 a2 a3 hb b0 b1 b2 b3 hr r0 r1 r2 r3;have ho:w5.heap[go]?=some (.cells #[.string lp,.string hi] 51 (0,0)):=OR;revert o0 o1 o2 o3 Ho hv;refine pV ?_;intro o0 o1 o2 o3;revert aW ha hb hr ho;refine bU ?_;intro cQ Ha Hb Hr Ho
      cases d3 with
      |false=>
       cases d4 with
       |false=>
        go_wp2_with fail
        refine (r.o _ cQ.o).mono ?_;rintro e w6 ⟨rfl,hs⟩;have cX:=cQ.o.trans (hs.mono cQ.o.size);revert a0 a1 a2 a3 b0 b1 b2 b3 r0 r1 r2 r3 o0 o1 o2 o3 Ha Hb Hr Ho;refine tc ?_;intro ha a0 a1 a2 a3 hb b0 b1 b2 b3 hr r0 r1 r2 r3 ho o0 o1 o2 o3;revert hs cX ha hb hr ho;refine bX ?_;intro Hs je Ha Hb Hr Ho
        cases ry with
        |false=>refine RN ?_;intro hZ s hs;exact Wt
        |true=>
         go_upto_region 8 with (fail)
         obtain⟨w7,hv⟩:=Y (w6.setCell ⟨go,1,none⟩ (.string hj));revert a0 a1 a2 a3 b0 b1 b2 b3 Ha Hb;refine akm ?_;intro lP ha a0 a1 a2 a3 hb b0 b1 b2 b3 hr;clear Hr r0 r1 r2 r3;obtain⟨r0,r1,r2,r3⟩:=cP hr;have ho:w7.heap[go]?=some (.cells #[.string lp,.string hj] 51 (0,0)):=tL;revert o0 o1 o2 o3 Ho hv;refine pV ?_;intro o0 o1 o2 o3;revert lP ha hb hr ho;refine bU ?_;intro kM Ha Hb Hr Ho;refine Xv ?_;intro hZ s hs;revert ev oB hZ hs;refine Ou ?_;intro HZ ev oB;go_wp2_with fail;refine (HZ.o _ kM.o).mono ?_;rintro e w8 ⟨rfl,hs⟩;have S:=kM.o.trans (hs.mono kM.o.size);revert a0 a1 a2 a3 b0 b1 b2 b3 r0 r1 r2 r3 o0 o1 o2 o3 Ha Hb Hr Ho;refine tc ?_;intro ha a0 a1 a2 a3 hb b0 b1 b2 b3 hr r0 r1 r2 r3 ho o0 o1 o2 o3;revert hs S ha hb hr ho;refine bX ?_;intro Hs si Ha Hb Hr Ho
         cases s with
         |false=>exact anb
         |true=>exact anb
       |true=>exact aqe
      |true=>refine RN ?_;intro hZ s hs;exact Ov
    |true=>
     go_upto_region 6 with (fail)
     obtain⟨w4,hv⟩:=Y (w3.setCell ⟨go,0,none⟩ (.string lp));have bA:Below w0.heap.size w0 w4:=by rw[hv];exact bK.o.setCell (p:=⟨go,0,none⟩) vh.o _
     revert a0 a1 a2 a3 b0 b1 b2 b3 r0 r1 r2 r3 Ha Hb Hr;refine R3 ?_;intro ha a0 a1 a2 a3 hb b0 b1 b2 b3 hr r0 r1 r2 r3;have ho:w4.heap[go]?=some (.cells #[.string lp,.string hi] 51 (0,0)):=OR;revert o0 o1 o2 o3 Ho hv;refine pV ?_;intro o0 o1 o2 o3;revert bA ha hb hr ho;refine bU ?_;intro dL Ha Hb Hr Ho
     cases d3 with
     |false=>
      cases d4 with
      |false=>
       go_wp2_with fail
       refine (r.o _ dL.o).mono ?_;rintro e w5 ⟨rfl,hs⟩;have aW:=dL.o.trans (hs.mono dL.o.size);revert a0 a1 a2 a3 b0 b1 b2 b3 r0 r1 r2 r3 o0 o1 o2 o3 Ha Hb Hr Ho;refine tc ?_;intro ha a0 a1 a2 a3 hb b0 b1 b2 b3 hr r0 r1 r2 r3 ho o0 o1 o2 o3;revert hs aW ha hb hr ho;refine bX ?_;intro Hs cQ Ha Hb Hr Ho
       cases ry with
       |false=>refine RN ?_;intro hZ s hs;exact Ov
       |true=>exact aqe
      |true=>
       go_upto_region 8 with (fail)
       refine Xk ?_;intro w5 hv aW;revert a0 a1 a2 a3 b0 b1 b2 b3 r0 r1 r2 r3 Ha Hb Hr;refine KO ?_;intro ha a0 a1 a2 a3 hb b0 b1 b2 b3 hr r0 r1 r2 r3;have ho:w5.heap[go]?=some (.cells #[.string lp,.string hj] 51 (0,0)):=tL;revert o0 o1 o2 o3 Ho hv;refine pV ?_;intro o0 o1 o2 o3;revert aW ha hb hr ho;refine bU ?_;intro cQ Ha Hb Hr Ho;refine Xv ?_;intro hZ s hs;exact Ov
     |true=>refine RN ?_;intro hZ s hs;exact RJ
   |true=>
    cases d3 with
    |false=>
     cases d4 with
     |false=>
      go_wp2_with fail
      refine (r.o _ bK.o).mono ?_;revert a0 a1 a2 a3 b0 b1 b2 b3 r0 r1 r2 r3 o0 o1 o2 o3 Ha Hb Hr Ho;refine Gn ?_;intro w4 a0 a1 a2 a3 b0 b1 b2 b3 r0 r1 r2 r3 o0 o1 o2 o3 Hs dL Ha Hb Hr Ho
      cases ry with
      |false=>refine RO ?_;intro hZ s hs;exact RJ
      |true=>exact adp
     |true=>
      go_upto_region 8 with (fail)
      refine Xj ?_;intro w4 hv bA;revert a0 a1 a2 a3 b0 b1 b2 b3 r0 r1 r2 r3 Ha Hb Hr;refine R3 ?_;intro ha a0 a1 a2 a3 hb b0 b1 b2 b3 hr r0 r1 r2 r3;have ho:w4.heap[go]?=some (.cells #[.string lo,.string hj] 51 (0,0)):=tL;revert o0 o1 o2 o3 Ho hv;refine pV ?_;intro o0 o1 o2 o3;revert bA ha hb hr ho;refine bU ?_;intro dL Ha Hb Hr Ho;refine Xy ?_;intro hZ s hs;exact RJ
    |true=>
     refine RO ?_;intro hZ s hs;revert ev oB hZ hs;refine Ou ?_;intro HZ ev oB;go_wp2_with fail;refine (HZ.o _ bK.o).mono ?_;revert a0 a1 a2 a3 b0 b1 b2 b3 r0 r1 r2 r3 o0 o1 o2 o3 Ha Hb Hr Ho;refine Gn ?_;intro w4 a0 a1 a2 a3 b0 b1 b2 b3 r0 r1 r2 r3 o0 o1 o2 o3 Hs dL Ha Hb Hr Ho
     cases s with
     |false=>exact anc
     |true=>exact anc
end
section
open Shelf RowKit Lib Go.Sort m8 av
instance:Inhabited Tp:=⟨⟨(⟨#[]⟩,⟨#[]⟩),by decide⟩⟩
def yfd(l:List Tp)(v:Value)(w:World)(e:Ending)(w':World):Prop :=
 Below w.heap.size w w'∧((∃o l',e=.returned (.tuple #[o,.bool true])∧MStep l l'∧w'.ownsRow w.heap.size 51 2 o l'.length ((tB l').flatMap dd))∨(e=.returned (.tuple #[v,.bool false])∧Jm l))
def NoneUp(l:List Tp)(k:Nat):Prop:=∀i j (hi:i<l.length) (hj:j<l.length),i<k→i<j→mtT l[i] l[j]=false
def ycu(l:List Tp)(x:Tp)(i k:Nat):Prop:=∀j (hj:j<l.length),j<k→i<j→mtT x l[j]=false
theorem zyx{l:List Tp}(hi:i<l.length)(h:NoneUp l i)(d:ycu l l[i] i l.length):NoneUp l (i+1):=fun a j f b g c=>by
 by_cases e:a=i
 ·subst e;exact d j b b c
 exact h a j f b Z c
theorem zz8{l:List Tp}{x:Tp}(h:ycu l x i k)(c:∀hk:k<l.length,i<k→mtT x l[k]=false):ycu l x i (k+1):=fun j a d b=>by
 by_cases e:j=k
 ·subst e;exact c a b
 exact h j a Z b
theorem tB_pick{l:List Tp}(a:n<l.length)(h:n≠i∧n≠k):(tB (gp l i k (n+1))).flatMap dd=(tB (gp l i k n)).flatMap dd++[.string l[n].1.1,.string l[n].1.2]:=by
 have e:gp l i k (n+1)=gp l i k n++[l[n]]:=by
  show (if n≠i∧n≠k then gp l i k n++[l[n]!] else gp l i k n)=_
  rw[M h,xe l n a]
 rw[e,tB,oP,rm];rfl
theorem pick_skip{l:List Tp}(h:¬(n≠i∧n≠k)):gp l i k (n+1)=gp l i k n:=by
 show (if n≠i∧n≠k then gp l i k n++[l[n]!] else gp l i k n)=_
 rw[E h]
theorem ztd{l:List Tp}(h:gy w [v] (tB l))(s:mayT l)(_:l.length≤2000):Calls prog 104 #[v] w (yfd l v w):=by
 have aq:=fun a c (e:v=.slice a (tB l).length c)=>Bb X6;obtain⟨a,cap,rfl⟩:=qz h;have aK:=aq a cap rfl;clear aq;obtain⟨n,hn⟩:=Y ((tB l).length);have aM:n=l.length:=X3;rw[←hn]at h⊢;have ba:n≤2000:=Z;revert s aK h hn aM;refine bU ?_;intro ad fS Hh Hn mG;go_enter func104,ntmps104;go_wp2_with fail;go_loopw [12] (fun i wr=>∃k:Nat,k≤n∧i=.int .i64 k∧NoneUp l k∧Below w.heap.size w wr) (fun i _=>n-(RowKit.intOf i).toNat)
 case atStart=>exact⟨0,bj _,rfl,fun _ _ _ _ h _=>absurd h (Nat.not_lt_zero _),aL _ _⟩
 case round=>
  obtain⟨i,hi,rfl,ae,K⟩:=hrel;by_cases bb:i<n
  ·have ar:i<l.length:=J6;obtain⟨x,au⟩:=Y (l[i]);obtain⟨b,off,rfl,c0,c1⟩:=fS.o i x.1 (by rw[au,rC,bR ar];rfl);refine OE ?_;intro k5 k6;have d0:=ab K c0;have d1:=ab K c1;revert ae K au c0 c1;refine bU ?_;intro cd bO Hx LS Tv;go_wp2_with fail;go_loopw [17] (fun j wq=>∃k:Nat,k≤n∧j=.int .i64 k∧ycu l x i k∧Below w.heap.size w wq) (fun j _=>n-(RowKit.intOf j).toNat)
   case atStart=>exact⟨0,bj _,rfl,fun _ _ h _=>absurd h (Nat.not_lt_zero _),bO.o⟩
   case round=>
    obtain⟨k,_,rfl,C,t⟩:=hrel;by_cases bc:k<n
    ·have aI:k<l.length:=J6;obtain⟨y,hy⟩:=Y (l[k]);obtain⟨b2,nY,e2,d2,d3⟩:=fS.o k y.1 arc;injection e2 with e2;injection e2 with e2 e3 _;subst e2 e3;have av:=x.2;have aw:=y.2;have af:=ad.o x (by rw[Hx.o];exact eZ _);have ag:=ad.o y (by rw[hy];exact eZ _);have L:=fun(W:World)(_:Below w.heap.size w W)=>zyd x.1.1 x.1.2 y.1.1 y.1.2 Z Z Z Z W;have R:=fun(W:World)(_:Below w.heap.size w W)=>zye x.1.1 x.1.2 y.1.1 y.1.2 Z Z Z Z af ag W
     have u:∀W,Below w.heap.size w W→W.cell? ⟨b,off+i*2,none⟩=some (.string x.1.1)∧W.cell? ⟨b,off+i*2+1,none⟩=some (.string x.1.2)∧W.cell? ⟨b,off+k*2,none⟩=some (.string y.1.1)∧W.cell? ⟨b,off+k*2+1,none⟩=some (.string y.1.2) :=
      fun W S=>⟨ab S LS.o,ab S Tv.o,ab S d2,ab S d3⟩
     have ah:=fun (aN:¬(i<k∧mtT x y=true))=>zz8 C fun eE A=>by
      have:mtT x y=false:=by cases hmt:mtT x y with
       |false=>rfl
       |true=>exact absurd ⟨A,hmt⟩ aN
      rw[hy]at this;exact this
     obtain⟨_,m2,ai⟩:∃p q,(p,q)=mtV x.1.1 x.1.2 y.1.1 y.1.2:=⟨_,_,rfl⟩;obtain⟨j1,j2,IT⟩:∃p q,(p,q)=jnV x.1.1 x.1.2 y.1.1 y.1.2:=⟨_,_,rfl⟩;obtain⟨ok,dz⟩:=Y (mtT x y);have ax:jS (x.1.1.data.toList,x.1.2.data.toList) (y.1.1.data.toList,y.1.2.data.toList)=ok:=dz.symm;rw[←ai,ax]at L;rw[←IT]at R;rw[←dz]at ah;obtain⟨x1,dB⟩:=Y x.1.1;obtain⟨x2,nR⟩:=Y x.1.2;obtain⟨y1,dX⟩:=Y y.1.1;obtain⟨y2,iV⟩:=Y y.1.2;rw[←dB,←nR,←dX,←iV]at L R;simp only[←dB,←nR,←dX,←iV]at u;have bd:(0:Int)≤(k:Int):=Z;have bf:(k:Int)<(n:Int):=Z;have H:=dU (aL wr.heap.size wr) 1;have di:=u _ (t.trans (H.mono t.size));obtain⟨e0,e1,e4,e5⟩:=u _ t;clear d0 d1 d2 d3 ax;obtain⟨Hna,ee,Hy,Hxs,PL,Hxm,Hym,HM,HJ,dV,Hmv,Hjv,ev,gD,vU,Le⟩:=ke C t hy av aw af ag L R ah ai IT dz dB nR dX;have bh:=O iV;clear C t hy av aw af ag L R ah ai IT dz dB nR dX iV;have r:=aH u;clear u;go_upto_region 7 with (fail);go_cut [7] (fun v W=>v=.bool ok∧Below w.heap.size w W)
     case first=>
      have T:∀o,Below wr.heap.size wr ((wr.alloc o).drew):=fun o=>((aL _ _).alloc (aE _) o).drew;go_region_held3 (fun w'=>w'.cell? ⟨b,off+i*2,none⟩=some (.string x1)∧w'.cell? ⟨b,off+i*2+1,none⟩=some (.string x2)∧w'.cell? ⟨b,off+k*2,none⟩=some (.string y1)∧w'.cell? ⟨b,off+k*2+1,none⟩=some (.string y2)) (first|exact di|exact r.o _ (ee.o.trans ((T _).mono ee.o.size))|exact r.o _ (ee.o.trans ((H.alloc H.size _).mono ee.o.size))|exact r.o _ (ee.o.trans ((ik _ _ H H.size).mono ee.o.size))|exact r.o _ (ee.o.trans ((ik _ _ H (aE _)).mono ee.o.size))|go_keep) (first|(go_at_call 134;refine (HM.o _ ard).mono ?_;rintro e wz ⟨rfl,a_⟩;replace H:=H.trans (a_.mono H.size);replace di:=r.o _ (ee.o.trans (H.mono ee.o.size)))|(go_at_call 134;refine (HM.o _ (by exact ee.o.trans ((T _).mono ee.o.size))).mono ?_;rintro e wz ⟨rfl,a_⟩;obtain⟨zz0,zz1,zz2,aDg⟩:=cP (G a_ (dq _ _));replace H:=(T _).trans (a_.mono (T _).size);replace di:=r.o _ (ee.o.trans (H.mono ee.o.size))))
      all_goals
       go_wp2_with fail
       go_meet
       exact⟨rfl,ee.o.trans (Below.mono (by first|exact H.alloc H.size _|exact ik _ _ H (aE _)|exact ik _ _ (H.alloc H.size _) H.size) ee.o.size)⟩
     case rest=>
      obtain⟨rfl,F⟩:=hcut;by_cases A:i<k∧ok=true
      ·obtain⟨A,rfl⟩:=A;have aj:decide ((k:Int)≤(i:Int))=false:=be Z;have u:=r.o _ F;obtain⟨g0,g1,g2,g3⟩:=u;clear e0 e1 e4 e5;have nA:=O F;clear F;go_upto_region 9 with (fail);have H:=dU (aL wc.heap.size wc) 1;have di:=r.o _ (nA.o.trans (H.mono nA.o.size));go_region_held3 (fun w'=>w'.cell? ⟨b,off+i*2,none⟩=some (.string x1)∧w'.cell? ⟨b,off+i*2+1,none⟩=some (.string x2)∧w'.cell? ⟨b,off+k*2,none⟩=some (.string y1)∧w'.cell? ⟨b,off+k*2+1,none⟩=some (.string y2)) (first|exact di|exact r.o _ (nA.o.trans ((H.alloc H.size _).mono nA.o.size))|go_keep) (first|(go_at_call 135;refine (HJ.o _ (by exact nA.o.trans (H.mono nA.o.size))).mono ?_;rintro e wz ⟨rfl,a_⟩;replace H:=H.trans (a_.mono H.size);replace di:=r.o _ (nA.o.trans (H.mono nA.o.size))));have U:=nA.o.trans (H.mono nA.o.size);have aP:(wz.alloc (.cells #[.string j1,.string j2] 51)).ownsRow w.heap.size 51 2 (.slice (some ⟨wz.heap.size,0,none⟩) 1 1) 1 [.string j1,.string j2]:=wG (base:=w.heap.size) (e:=51) (size:=2) wz #[.string j1,.string j2] 1 U.size D rfl;have aR:=U.alloc U.size (.cells #[.string j1,.string j2] 51);revert U aP aR;refine fo ?_;intro eI cZ yC
       have ay:(tB (jnT x y::gp l i k 0)).flatMap dd=[.string j1,.string j2]:=by
        show dd (jnV x.1.1 x.1.2 y.1.1 y.1.2)++[]=_
        rw[←Hjv.o];rfl
       have az:MStep l (jnT x y::gp l i k l.length):=by have aA:=step_of (l:=l) A aI (by rw[←Hx.o,←Hy.o];exact ev.o.symm);rw[←Hx.o,←Hy.o]at aA;exact aA
       obtain⟨aS,aU⟩:=ak ay az;clear ay az;go_wp2_with fail;go_loopw [8,51] (fun v m wr=>∃q:Nat,q≤n∧m=.int .i64 q∧wr.ownsRow w.heap.size 51 2 v (jnT x y::gp l i k q).length ((tB (jnT x y::gp l i k q)).flatMap dd)∧Below w.heap.size w wr) (fun _ m _=>n-(RowKit.intOf m).toNat)
       case atStart=>exact⟨0,bj _,rfl,by rw[aS.o];exact cZ.o,yC.o⟩
       case round=>
        obtain⟨q,_,rfl,B,H⟩:=hrel;obtain⟨ra,rc,rfl⟩:=bg B;by_cases bk:q<n
        ·by_cases X:q≠i∧q≠k
         ·have al:q<l.length:=J6;obtain⟨z,aa⟩:=Y (l[q]);obtain⟨b3,aEy,e3,f0,f1⟩:=fS.o q z.1 (by rw[aa,rC,bR al];rfl);injection e3 with e3;injection e3 with e3 e4 _;subst e3 e4;have f2:=ab H f0;have f3:=ab H f1;have an:=tB_pick (l:=l) (i:=i) (k:=k) al X
          have aB:gp l i k (q+1)=gp l i k q++[z]:=by
           show (if q≠i∧q≠k then gp l i k q++[l[q]!] else gp l i k q)=_
           rw[M X,xe l q al,aa]
          have aV:=ybg l i k q;rw[←aa]at an;obtain⟨N,ao⟩:=Y ((tB (jnT x y::gp l i k q)).flatMap dd);obtain⟨m,s⟩:=Y ((jnT x y::gp l i k q).length);obtain⟨z1,dD⟩:=Y z.1.1;obtain⟨z2,cc⟩:=Y z.1.2
          have aW:(tB (jnT x y::gp l i k (q+1))).flatMap dd=N++[.string z1,.string z2]:=by
           rw[ao,dD,cc];show dd _++(tB (gp l i k (q+1))).flatMap dd=(dd _++(tB (gp l i k q)).flatMap dd)++_;rw[an,gq]
          have aX:(jnT x y::gp l i k (q+1)).length=m+1:=by rw[s,aB];simp
          have bl:m≤2001:=by rw[s];simp only[fO];omega
          rw[←ao,←s]at B;rw[←dD]at f2;rw[←cc]at f3;have t1:((q:Int) !=(i:Int))=true:=N_;have t2:((q:Int) !=(k:Int))=true:=N_;have t3:(0:Int)≤(q:Int):=Z;have t4:(q:Int)<(n:Int):=Z;have t5:=H.size;clear f0 f1 X;rw[←s];revert H aa an aB aV ao B s dD cc aW aX;refine nL ?_;intro gV _ _ _ _ _ bY ad _ _ aY a1;go_wp2_with (at_builtin;(refine kZ ui rfl (.tmp 62) (.tmp 67) rfl w.heap.size (.slice ra m rc) m N rfl bY.o 1 #[.string z1,.string z2] rfl rfl dW Z cY Z ?_;intro v9 w9 aZ aT cg;obtain⟨a9,c9,rfl⟩:=bg aZ;have aC:=(iX gV.o bY.o (aE _) aT Z:Below w.heap.size w w9);obtain⟨dY,d_⟩:=ak aZ aC;clear aZ aT cg aC));go_roundw
          case rel=>exact⟨q+1,Z,cj,by rw[aY.o,a1.o];exact dY.o,d_.o⟩
          case measure=>(simp[RowKit.intOf])<;>omega
         have aD:=pick_skip (l:=l) X;rw[←aD]at B⊢;revert H B aD;refine fo ?_;intro gV bY _;by_cases bm:q=i
         ·have t1:((q:Int) !=(i:Int))=false:=by rw[bne_eq_false_iff_eq];omega
          exact akr
         have t1:((q:Int) !=(i:Int))=true:=N_;have t2:((q:Int) !=(k:Int))=false:=by rw[bne_eq_false_iff_eq];omega
         exact akr
        obtain rfl:q=n:=Z;have aF:=B;rw[mG.o]at aF;revert H B aF;refine fo ?_;intro gV bY ql;go_wp2_with fail;go_ret2
        exact⟨gV.o,.inl ⟨_,_,rfl,aU.o,by have:=bY.o;rw[mG.o]at this⊢;exact this⟩⟩
      have aj:i<k→ok=false:=fun h=>by cases ok with
       |false=>rfl
       |true=>exact absurd ⟨h,rfl⟩ A
      have aG:=dV.o (by rw[←ev.o]at *;exact A);obtain⟨nA,UG⟩:=ak F aG;clear F aG;by_cases a6:i<k
      ·obtain rfl:=aj a6;have a7:decide ((k:Int)≤(i:Int))=false:=be Z;exact akj
      have a7:decide ((k:Int)≤(i:Int))=true:=aO Z;clear aj;exact akj
    obtain rfl:k=n:=Z;have aJ:=zyx ar cd.o (by rw[←Hx.o,←mG.o];exact C);obtain⟨Hna,ee,qQ⟩:=aQ C t aJ;clear C t aJ;go_wp2_with fail;go_roundw
    case rel=>exact⟨i+1,Z,cj,qQ.o,ee.o⟩
    case measure=>(simp[RowKit.intOf])<;>omega
  obtain rfl:i=n:=Z;have a8:Jm l:=ydo fun a b ha hb hab=>ae a b ha hb J6 hab;revert ae K a8;refine fo ?_;intro cd bO B4;go_wp2_with fail;go_ret2
  exact⟨bO.o,.inr ⟨rfl,B4.o⟩⟩
end
section
open m8
theorem zwa{α:Type}{lt:α→α→Bool}(x:α):∀(p q:List α),(∀y∈p,lt x y=false)→(∀y∈q,lt x y=true)→ins lt x (p++q)=p++x::q
 |[],[],_,_=>rfl
 |[],y::r,_,a=>by
  show ins lt x (y::r)=x::y::r
  unfold ins;rw[M (a y ae)]
 |y::p,q,b,a=>by
  show ins lt x (y::(p++q))=y::(p++x::q)
  unfold ins;rw[E (by rw[b y ae];simp),zwa x p q (fun z c=>b z (by simp[c])) a]
theorem zwb{α:Type}{lt:α→α→Bool}(h:ww lt){x:α}{l:List α}(b:gg lt l){at_:Nat}(_:at_≤l.length)(c:∀i (hi:i<l.length),at_≤i→lt x l[i]=true)(d:∀h0:0<at_,lt x (l[at_-1]'(by omega))=false):
  ins lt x l=l.take at_++x::l.drop at_:=by
 have e:=zwa (lt:=lt) x (l.take at_) (l.drop at_) ?_ ?_
 ·rw[mi]at e;exact e
 ·intro y a;obtain⟨i,hi,rfl⟩:=DJ.1 a;rw[tZ]at hi;rw[List.getElem_take];have f:0<at_:=Z;have h1:=d f;by_cases g:i=at_-1
  ·subst g;exact h1
  have j:=J_.1 b i (at_-1) Z Z Z;exact h.ntrans _ _ _ j h1
 intro y a;obtain⟨i,hi,rfl⟩:=DJ.1 a;rw[xf]at hi;rw[List.getElem_drop];exact c _ Z Z
end
section
open Shelf RowKit Lib Go.Sort m8 av
theorem zoq{size:Nat}{xs:List Value}(h:w.ownsRow B e size (.slice (some ⟨g,0,none⟩) n cap) n xs):n≤cap:=by
 rcases h.2 with⟨a,_⟩|⟨_,_,_,a,_,_,_,_⟩
 ·cases a
 injection a with _ _ e3;omega
theorem zhc{size:Nat}{xs:List Value}(h:w.ownsRow B e size v n xs)(_:0<n):∃g cap,v=.slice (some ⟨g,0,none⟩) n cap:=by
 rcases h.2 with⟨h1,_⟩|⟨g,cap,_,h1,_⟩
 ·omega
 exact⟨_,cap,h1⟩
theorem ins_span(l:List Tp)(x:Tp):nH (l++[x])=ins (Go.Proofs.ltOf aas) x (nH l):=yd4 l x
theorem zxx(l:List Tp):gg (Go.Proofs.ltOf aas) (nH l):=zl FI l
def InsI(w2:World)(l:List Tp)(k:Nat)(v:Value)(W:World):Prop:=∃g c,v=.slice (some ⟨g,0,none⟩) k c∧W.ownsRow w2.heap.size 51 2 v k ((tB (nH (l.take k))).flatMap dd)∧Below w2.heap.size w2 W
theorem zmx{a wr bP:World}{l:List Tp}{bE:Nat}{P:List Tp}{x:Tp}{b d:ByteArray}{f T2:List Value}(m:k<l.length)(o:x=l[k])(p:P=nH (l.take k))(q:ins (Go.Proofs.ltOf aas) x P=P.take bE++x::P.drop bE)(r:b=x.1.1)(s:d=x.1.2)(t:f=(tB (P.take bE)).flatMap dd)(u:T2=(tB (P.drop bE)).flatMap dd)(j:Below a.heap.size a wr)(v:Below wr.heap.size wr W)(w:Below W.heap.size W bP)(y:bP.ownsRow W.heap.size 51 2 (.slice (some ⟨g,0,none⟩) n c) n (f++[.string b,.string d]++T2))(z:n=k+1):InsI a l (k+1) (.slice (some ⟨g,0,none⟩) n c) bP:=by
 subst z;have i:Below a.heap.size a W:=j.trans (v.mono j.size);refine⟨g,c,rfl,?_,i.trans (w.mono i.size)⟩;have e:l.take (k+1)=l.take k++[x]:=by rw[o];exact (List.take_append_getElem m).symm
 rw[e,ins_span,←p,q];have h:=ET y i.size;have e2:(tB (P.take bE++x::P.drop bE)).flatMap dd=f++[.string b,.string d]++T2:=by rw[t,u,r,s];unfold tB;rw[oP,rm,eU,oR,gq];rfl
 rw[e2];exact h
def slLen:Value→Nat
 |.slice _ n _=>n
 |_=>0
def boN:Value→Nat
 |.bool true=>1
 |_=>0
def zjo(l:List Tp)(w:World)(e:Ending)(w':World):Prop :=
 ∃o,e=.returned (.tuple #[o,.bool (gN l)])∧(gN l=true→w'.ownsRow w.heap.size 51 2 o (fJ l).length ((fJ l).flatMap dd))∧Below w.heap.size w w'
theorem zs3{l:List Tp}{o:Value}(h:gN l=false)(a:Below w.heap.size w w'):zjo l w (.returned (.tuple #[o,.bool false])) w' :=
 ⟨_,by rw[h],(fun k=>by rw[h]at k;cases k),a⟩
structure Left(l L:List Tp):Prop where
 may:mayT L
 Do:∀p,abj L p↔abj l p
 len:L.length≤l.length
theorem Left.step{l L bE:List Tp}(h:Left l L)(a:MStep L bE):Left l bE∧bE.length<L.length:=by
 obtain⟨h1,b,_⟩:=yd2 h.may a;exact⟨⟨h1,fun p=>(b p).trans (h.Do p),by have:=h.len;omega⟩,Z⟩
theorem formOk_of{l:List Tp}(h:rM (tB l)=true){L:List Tp}(a:fJ l=tB (nH L)):gN l=decide (L.length≤16):=by
 unfold gN;rw[h,a,gi,(AV L).length_eq];rfl
theorem zzf(x y:Tp):aau x.1.1.data.toList y.1.1.data.toList=Go.Proofs.ltOf aas x y:=(ltSp x y).symm
theorem zpz{l:List Tp}(h:gy w [v] (tB l))(_:l.length≤2000):Calls prog 71 #[v] w (zjo l w):=by
 have bB:=fun a c (e:v=.slice a (tB l).length c)=>Bb X6;obtain⟨a,cap,rfl⟩:=qz h;have b7:=bB a cap rfl;clear bB;obtain⟨n,hn⟩:=Y ((tB l).length);have b8:n=l.length:=X3;rw[←hn]at h⊢;have cG:n≤2000:=Z;revert b7 h hn b8;refine bV ?_;intro fS Hh Hn mG;go_enter func71,ntmps71;go_wp2_with fail;go_loopw [12] (fun i wr=>∃k:Nat,k≤n∧i=.int .i64 k∧mayT (l.take k)∧Below w.heap.size w wr) (fun i _=>n-(RowKit.intOf i).toNat)
 case atStart=>exact⟨0,bj _,rfl,(fun s aa=>by simp at aa),aL _ _⟩
 case round=>
  obtain⟨k,b9,rfl,X,t⟩:=hrel;by_cases ca:k<n
  ·have aI:k<l.length:=J6;obtain⟨y,hy⟩:=Y (l[k]);obtain⟨b,off,rfl,c0,c1⟩:=fS.o k y.1 arc;have d0:=ab t c0;have d1:=ab t c1;have ar:=y.2;have C:=Ng y.1.1 y.1.2 Z Z wr;obtain⟨r,hr⟩:=Y (eg (dS y.1));have bC:eg (y.1.1.data.toList,y.1.2.data.toList)=r:=hr.symm;rw[bC]at C
   have ad:r=true→mayT (l.take (k+1)):=fun h s aa=>by
    rw[pP aI]at aa;rcases ff.1 aa with aa|aa
    ·exact X s aa
    rw[gd.1 aa,←hy,←hr];exact h
   have af:r=false→gN l=false:=fun h=>by
    unfold gN
    cases ha:rM (tB l) with
    |false=>rfl
    |true=>have aJ:=ztw.2 ha y (by rw[hy];exact eZ _);rw[←hr,h]at aJ;cases aJ
   obtain⟨bD,R⟩:=Y y.1.1;obtain⟨y2,iV⟩:=Y y.1.2;rw[←R]at d0;rw[←iV]at d1;rw[←R,←iV]at C;refine s_ ?_;intro k5 k6;clear c0 c1 bC
   cases r with
   |true=>
    have ad:=ad rfl;obtain⟨a1,bO,bF,bG,HM,bH,aK,aM,bI,bJ⟩:=GD X t hy ar C hr ad af R iV;clear X t hy ar C hr ad af R iV;go_wp2_with fail;refine mU ?_;refine W_ ?_;intro w5 cQ eI;go_wp2_with fail;go_roundw
    case rel=>exact⟨k+1,Z,cj,aK.o,eI.o⟩
    case measure=>(simp[RowKit.intOf])<;>omega
   |false=>
    have af:=af rfl;obtain⟨a1,bO,bF,bG,HM,bH,aK,aM,bI,bJ⟩:=GD X t hy ar C hr ad af R iV;clear X t hy ar C hr ad af R iV;go_wp2_with fail;refine mU ?_;rintro e w5 ⟨rfl,aW⟩;have cR:=bO.o.trans (aW.mono bO.o.size);have bK:=cR.alloc cR.size (.cells #[] 51);obtain⟨cQ,eI,yC⟩:=aQ aW cR bK;clear aW cR bK;go_wp2_with fail;go_ret2
    exact zs3 aM.o yC.o
  obtain rfl:k=n:=Z;rw[lH (jg mG.o.symm)]at X;have cb:rM (tB l)=true:=ztw.1 X;have F:=bz jm _ _ _ _ Hh.o t;have cc:Left l l:=⟨X,fun _=>Iff.rfl,aE _⟩;revert X t cb F cc;refine bU ?_;intro a1 bO Ff aN Uj;go_wp2_with fail;go_loopw [0,5] (fun v m wq=>∃(L:List Tp)(b:Bool),m=.bool b∧gy wq [v] (tB L)∧Left l L∧(b=false→Jm L)∧Below w.heap.size w wq) (fun v m _=>2*slLen v+boN m)
  case atStart=>exact⟨l,true,rfl,aN.o,Uj.o,(fun h=>tm),bO.o⟩
  case round=>
   obtain⟨L,b,rfl,F,ag,av,S⟩:=hrel;obtain⟨La,Lc,rfl⟩:=qz F;have cd:L.length≤2000:=by have:=ag.len;omega
   cases b with
   |true=>
    have a6:=ztd F ag.may cd;have a8:(tB L).length=L.length:=gi _;obtain⟨bE,C⟩:=Y ((tB L).length);rw[←C]at F a6 a8⊢;obtain⟨aN,ba,cf,ee,HME,iH,HM⟩:=oD F ag av S a6 a8 C;clear F ag av S a6 a8 C;go_wp2_with fail;refine HME.o.mono ?_;intro e w5 tD;obtain⟨aW,tD⟩:=tD;rcases tD with⟨o,bb,rfl,aw,bc⟩|⟨rfl,ch⟩
    ·obtain⟨ax,ck⟩:=ba.o.step aw;have cR:=ee.o.trans (aW.mono ee.o.size);have bd:gy w5 [o] (tB bb):=Dm (fun x aP=>by have:=zjz bb x aP;unfold maxLen;omega) (by rw[List.length_map];exact bc);obtain⟨oa,oc,rfl⟩:=bg bc;revert aW aw ax ck cR bc bd;refine eb ?_;intro cQ bL ks aBa eI Ho bf;go_wp2_with fail;go_roundw
     case rel=>exact⟨bb,true,rfl,bf.o,ks.o,(fun h=>tm),eI.o⟩
     case measure=>have:=iH.o;have:=aBa.o;simp[slLen,boN];omega
    have cR:=ee.o.trans (aW.mono ee.o.size);have bd:=bz jm _ _ _ _ aN.o aW;revert aW ch cR bd;refine bV ?_;intro cQ cl eI bf;go_wp2_with fail;go_roundw
    case rel=>exact⟨L,false,rfl,bf.o,ba.o,(fun _=>cl.o),eI.o⟩
    case measure=>simp[slLen,boN]
   |false=>
    have bh:=ydh a1.o ag.may ag.Do (av rfl);have bM:=formOk_of Ff.o bh;have bk:=Bb F;obtain⟨aR,aj⟩:=Y wr;obtain⟨m,hm⟩:=Y ((tB L).length);have bN:m=L.length:=by rw[hm,gi]
    have cH:m≤2000:=Z;rw[←hm]at F⊢;rw[←aj]at bk S F⊢;have aw:InsI aR L 0 (.slice (some ⟨aR.heap.size,0,none⟩) 0 0) (aR.alloc (.cells #[] 51)):=⟨_,_,rfl,NM (aE _),aS _ _⟩;obtain⟨aN,ba,cf,ee,bQ,bS,cm,_,ay,bL⟩:=GD F ag av S bh bM bk hm bN aw;clear F ag av S bh bM bk hm bN aw;clear aj;go_wp2_with fail;go_loopw [6,32] (fun v i wr=>∃k:Nat,k≤m∧i=.int .i64 k∧InsI aR L k v wr) (fun _ i _=>m-(RowKit.intOf i).toNat)
    case atStart=>exact⟨0,bj _,rfl,bL.o⟩
    case round=>
     obtain⟨k,b9,rfl,gw,z,rfl,ah,t⟩:=hrel;obtain⟨wo,B2⟩:=Y wr;rw[←B2]at ah t⊢;clear B2;by_cases ca:k<m
     ·have aI:k<L.length:=by have:=ay.o;omega
      obtain⟨x,aP⟩:=Y (L[k]);obtain⟨b,off,rfl,f0,f1⟩:=cm.o k x.1 (by rw[aP,rC,bR aI];rfl);have f0:=ab t f0;have f1:=ab t f1;obtain⟨P,hP⟩:=Y (nH (L.take k));have cn:P.length=k:=by rw[hP,(AV _).length_eq,tZ];omega
      have cp:gg (Go.Proofs.ltOf aas) P:=by rw[hP];exact zxx _
      rw[←hP]at ah;refine kG ?_;intro k5;have k6:(k:Int)<(m:Int):=Z;have cq:∀j u,((tB P).flatMap dd)[j]?=some u→wo.cell? ⟨gw,j,none⟩=some u:=fun j u hu=>by have:=ah.cells (g:=gw) rfl j u hu;rw[tX,og]at this;exact this
      have cr:=x.2;obtain⟨T,bT⟩:=Y x.1.1;obtain⟨x2,nR⟩:=Y x.1.2;rw[←bT]at f0;rw[←nR]at f1;revert t aP ah hP cn cp cq cr f0 bT f1 nR;refine nL ?_;intro bO Hx bY HP HPl ZW Az Hxs Hf0 gD GV vU;go_wp2_with fail;go_loopw [8] (fun v wq=>∃q:Nat,q≤k∧v=.int .i64 q∧(∀i (hi:i<P.length),q≤i→Go.Proofs.ltOf aas x P[i]=true)∧Below wo.heap.size wo wq) (fun v _=>(RowKit.intOf v).toNat)
      case atStart=>exact⟨k,aE _,rfl,(fun i hi h=>DA),aL _ _⟩
      case round=>
       obtain⟨q,_,rfl,az,S⟩:=hrel;by_cases cI:0<q
       ·obtain⟨p,rfl⟩:∃p,q=p+1:=⟨q-1,Z⟩;have bW:p<P.length:=DA;obtain⟨y,hy⟩:=Y (P[p]);have bX:(tB P)[p]'(by rw[gi];exact bW)=y.1:=by rw[hy];exact DI _
        have aU:=NG (tB P) p (by rw[gi];exact bW);rw[bX]at aU;have d2:=Az.o _ _ ((aU 0 D).trans (show (dd y.1)[0]?=some (Value.string y.1.1) from rfl));have d3:=Az.o _ _ ((aU 1 D).trans (show (dd y.1)[1]?=some (Value.string y.1.2) from rfl));have ar:=y.2
        have aV:∀W,Below wo.heap.size wo W→W.cell? ⟨gw,p*2,none⟩=some (.string y.1.1)∧W.cell? ⟨gw,p*2+1,none⟩=some (.string y.1.2)∧W.cell? ⟨b,off+k*2,none⟩=some (.string T)∧W.cell? ⟨b,off+k*2+1,none⟩=some (.string x2) :=
         fun W aX=>⟨ab aX d2,ab aX d3,ab aX Hf0.o,ab aX GV.o⟩
        have aY:=fun(W:World)(_:Below wo.heap.size wo W)=>yf8 y.1.1 y.1.2 T x2 Z (by rw[gD.o];have:=Hxs.o;omega) W;have bZ:aau T.data.toList y.1.1.data.toList=Go.Proofs.ltOf aas x y:=by rw[gD.o];exact zzf x y
        rw[bZ]at aY;obtain⟨bD,R⟩:=Y y.1.1;obtain⟨y2,iV⟩:=Y y.1.2;rw[←R,←iV]at aY;simp only[←R,←iV]at aV;have u2:IntKind.i64.wrap ((p:Int)+1-1)=(p:Int):=sR;have cJ:IntKind.i64.wrap (p:Int)=(p:Int):=i_ _ Z;have v1:decide ((0:Int)<(p:Int)+1)=true:=aO Z;have v2:(0:Int)<(p:Int)+1:=Z;have v3:(p:Int)<(k:Int):=Z;have v4:(0:Int)≤(p:Int):=Z;obtain⟨r,hr⟩:=Y (Go.Proofs.ltOf aas x y);rw[←hr]at aY;have H:=dU (aL wr.heap.size wr) 1;have di:=aV _ (S.trans (H.mono S.size));clear bZ d2 d3 aU bX
        have ad:r=true→∀i (hi:i<P.length),p≤i→Go.Proofs.ltOf aas x P[i]=true:=fun h i hi cL=>by
         by_cases e:i=p
         ·subst e;rw[←hy,←hr];exact h
         exact az i hi Z
        have au:r=false→_:=fun h=>zwb FI (x:=x) ZW.o (at_:=p+1) DA az (fun _=>by rw[show P[p+1-1]' DA=y by rw[hy];rfl,←hr];exact h);revert S az hy ar R iV aY hr ad au;refine dE ?_;intro ee jd bF bG bI bJ HL bH aK HR;have ct:=aH aV;clear aV;go_upto_region 15 with (fail);go_region_held3 (fun w'=>w'.cell? ⟨gw,p*2,none⟩=some (.string bD)∧w'.cell? ⟨gw,p*2+1,none⟩=some (.string y2)∧w'.cell? ⟨b,off+k*2,none⟩=some (.string T)∧w'.cell? ⟨b,off+k*2+1,none⟩=some (.string x2)) (first|exact di|go_keep) (first|(go_at_call 105;refine (HL.o _ ard).mono ?_;rintro e wz ⟨rfl,a_⟩;replace H:=H.trans (a_.mono H.size);replace di:=ct.o _ (ee.o.trans (H.mono ee.o.size))))
        have al:=ee.o.trans (H.mono ee.o.size)
        cases r with
        |true=>
         have b0:=aK.o rfl;obtain⟨d_,cu⟩:=ak al b0;clear al b0;go_wp2_with fail;go_roundw
         case rel=>exact⟨p,Z,cj,cu.o,d_.o⟩
         case measure=>(simp[RowKit.intOf])<;>omega
        |false=>
         have au:=HR.o rfl;clear HR;obtain⟨d_,HR⟩:=ak al au;clear al au;go_upto_region 18 with (fail);obtain⟨T1,xG⟩:=Y ((tB (P.take (p+1))).flatMap dd);obtain⟨T2,vL⟩:=Y ((tB (P.drop (p+1))).flatMap dd);have C:p+1≤P.length:=DA;have bl:T1.length=(p+1)*2:=are;have ax:T2.length=(k-(p+1))*2:=arf;refine aey ?_;intro CV MV MW pA
         have bm:∀bP,Below wz.heap.size wz bP→∀j u,T2[j]?=some u→∃b off,some (⟨gw,(p+1)*2,none⟩:Addr)=some ⟨b,off,none⟩∧bP.cell? ⟨b,off+j,none⟩=some u:=fun bP hV j u hu=>
          ⟨gw,(p+1)*2,rfl,ab hV (ab d_.o (Az.o _ u (by rw[CV,nC Z,show (p+1)*2+j-T1.length=j from Z];exact hu)))⟩
         have bn:=NM (w:=wz) (B:=wz.heap.size) (aE _);have aA:Below wz.heap.size wz (wz.alloc (.cells #[] 51)):=aS _ _;have bo:=pA _ aA;have cv:p+1≤k:=DA;have cw:(p:Int)+1≤(z:Int):=by have:=zoq bY.o;omega
         have cM:((p:Int)+1).toNat=p+1:=Z;have cN:(0:Int)≤(p:Int)+1:=Z;revert xG vL C bl ax CV MV MW pA bm bn aA bo;refine zN ?_;intro Ea Ep HM bp ks cx bq aB cy br aC aD bs;go_upto_region 19 with (at_builtin;(refine vB ui rfl (.tmp 54) (.tmp 57) rfl wz.heap.size (.slice (some ⟨wz.heap.size,0,none⟩) 0 0) 0 [] rfl aC.o (some ⟨gw,0,none⟩) (p+1) z T1 rfl bp.o bs.o bq.o Z cY ae ?_;intro v7 w7 FB M_ iJ;obtain⟨a7,c7,rfl⟩:=bg FB;have aF:=(iX aD.o aC.o (aE _) M_ (by have:=aD.o.size;omega):Below wz.heap.size wz w7);obtain⟨Hown7,kM⟩:=ak FB aF;clear FB M_ iJ aF));have an:w7.ownsRow wz.heap.size 51 2 (.slice a7 (p+1) c7) (p+1) T1:=by simpa using Hown7.o
         obtain⟨ai,U⟩:=Y (p+1);rw[←U]at an;rw[←U];have cz:ai≤2000:=Z;clear Hown7;have cA:=kM.o.size;have f2:=ab (d_.o.trans (kM.o.mono d_.o.size)) Hf0.o;have f3:=ab (d_.o.trans (kM.o.mono d_.o.size)) GV.o;obtain⟨EG,HN8⟩:=ak an U;clear an U;go_upto_region 20 with (at_builtin;(refine kZ ui rfl (.tmp 59) (.tmp 64) rfl wz.heap.size (.slice a7 ai c7) ai T1 rfl EG.o 1 #[.string T,.string x2] rfl rfl dW Z cY Z ?_;intro v9 w9 aZ aT cg;obtain⟨a9,c9,rfl⟩:=bg aZ;have aG:=(iX kM.o EG.o (aE _) aT (by have:=kM.o.size;omega):Below wz.heap.size wz w9);obtain⟨dY,wI⟩:=ak aZ aG;clear aZ aT cg aG));by_cases cB:p+1<z
         ·have bt:decide ((p:Int)+1<(z:Int))=true:=aO Z;have bu:(p:Int)+1≤(k:Int):=Z;go_upto_region 21 with (at_builtin;(refine vB ui rfl (.tmp 66) (.tmp 69) rfl wz.heap.size (.slice a9 (ai+1) c9) (ai+1) (T1++[.string T,.string x2]) rfl dY.o (some ⟨gw,(p+1)*2,none⟩) (k-(p+1)) (z-(p+1)) T2 rfl ks.o (br.o _ wI.o) aB.o Z cY DB ?_;intro bw ao A K aq;obtain⟨a11,c11,rfl⟩:=zhc A Z;have N:=(iX wI.o dY.o (aE _) K DB:Below wz.heap.size wz ao);obtain⟨Hown11,ED⟩:=ak A N;clear A K aq N));exact Rk
         have bt:decide ((p:Int)+1<(z:Int))=false:=be Z;have bu:(p:Int)+1≤(k:Int):=Z;refine agz ?_;intro GF T4 Gc;go_upto_region 21 with (at_builtin;(refine vB ui rfl (.tmp 66) (.tmp 69) rfl wz.heap.size (.slice a9 (ai+1) c9) (ai+1) (T1++[.string T,.string x2]) rfl dY.o (some ⟨gw,0,none⟩) (k-(p+1)) (z-(p+1)) T2 rfl ks.o (Gc.o w9) aB.o Z cY DB ?_;intro bw ao A K aq;obtain⟨a11,c11,rfl⟩:=zhc A Z;have N:=(iX wI.o dY.o (aE _) K DB:Below wz.heap.size wz ao);obtain⟨Hown11,ED⟩:=ak A N;clear A K aq N));exact Rk
       obtain rfl:q=0:=Z;have au:=zwb FI (x:=x) ZW.o (at_:=0) (bj _) az (fun h=>absurd h (Nat.lt_irrefl 0));have v1:decide ((0:Int)<((0:Nat):Int))=false:=ae;revert S az au;refine fo ?_;intro ee jd HR;go_upto_region 15 with (fail);go_quiet (fail)
       obtain⟨wz,bx⟩:=Y (wr.drewN nq);have al:Below wo.heap.size wo wz:=by rw[bx];exact dU ee.o nq
       rw[←bx];have d_:=O al;clear al;clear bx;go_upto_region 18 with (fail);obtain⟨T1,xG⟩:=Y ((tB (P.take (0))).flatMap dd);obtain⟨T2,vL⟩:=Y ((tB (P.drop (0))).flatMap dd);have C:0≤P.length:=DA;have bl:T1.length=(0)*2:=are;have ax:T2.length=(k-(0))*2:=arf;refine aey ?_;intro CV MV MW pA
       have bm:∀bP,Below wz.heap.size wz bP→∀j u,T2[j]?=some u→∃b off,some (⟨gw,(0)*2,none⟩:Addr)=some ⟨b,off,none⟩∧bP.cell? ⟨b,off+j,none⟩=some u:=fun bP hV j u hu=>
        ⟨gw,(0)*2,rfl,ab hV (ab d_.o (Az.o _ u (by rw[CV,nC Z,show (0)*2+j-T1.length=j from Z];exact hu)))⟩
       have bn:=NM (w:=wz) (B:=wz.heap.size) (aE _);have aA:Below wz.heap.size wz (wz.alloc (.cells #[] 51)):=aS _ _;have bo:=pA _ aA;have cv:0≤k:=DA;have cw:(0:Int)≤(z:Int):=by have:=zoq bY.o;omega
       revert xG vL C bl ax CV MV MW pA bm bn aA bo;refine zN ?_;intro Ea Ep HM bp ks cx bq aB cy br aC aD bs;go_upto_region 19 with (at_builtin;(refine vB ui rfl (.tmp 54) (.tmp 57) rfl wz.heap.size (.slice (some ⟨wz.heap.size,0,none⟩) 0 0) 0 [] rfl aC.o (some ⟨gw,0,none⟩) (0) z T1 rfl bp.o bs.o bq.o Z cY ae ?_;intro v7 w7 FB M_ iJ;obtain⟨a7,c7,rfl⟩:=bg FB;have aF:=(iX aD.o aC.o (aE _) M_ (by have:=aD.o.size;omega):Below wz.heap.size wz w7);obtain⟨Hown7,kM⟩:=ak FB aF;clear FB M_ iJ aF));have an:w7.ownsRow wz.heap.size 51 2 (.slice a7 (0) c7) (0) T1:=by simpa using Hown7.o
       obtain⟨ai,U⟩:=Y 0;rw[←U]at an;obtain rfl:=U;have U:(0:Nat)=0:=rfl;have cz:0≤2000:=Z;clear Hown7;have cA:=kM.o.size;have f2:=ab (d_.o.trans (kM.o.mono d_.o.size)) Hf0.o;have f3:=ab (d_.o.trans (kM.o.mono d_.o.size)) GV.o;obtain⟨EG,HN8⟩:=ak an U;clear an U;go_upto_region 20 with (at_builtin;(refine kZ ui rfl (.tmp 59) (.tmp 64) rfl wz.heap.size (.slice a7 0 c7) 0 T1 rfl EG.o 1 #[.string T,.string x2] rfl rfl dW Z cY Z ?_;intro v9 w9 aZ aT cg;obtain⟨a9,c9,rfl⟩:=bg aZ;have aG:=(iX kM.o EG.o (aE _) aT (by have:=kM.o.size;omega):Below wz.heap.size wz w9);obtain⟨dY,wI⟩:=ak aZ aG;clear aZ aT cg aG));by_cases cB:0<z
       ·have bt:decide ((0:Int)<(z:Int))=true:=aO Z;have bu:(0:Int)≤(k:Int):=Z;go_upto_region 21 with (at_builtin;(refine vB ui rfl (.tmp 66) (.tmp 69) rfl wz.heap.size (.slice a9 (0+1) c9) (0+1) (T1++[.string T,.string x2]) rfl dY.o (some ⟨gw,(0)*2,none⟩) (k) (z) T2 rfl ks.o (br.o _ wI.o) aB.o Z cY DB ?_;intro bw ao A K aq;obtain⟨a11,c11,rfl⟩:=zhc A Z;have N:=(iX wI.o dY.o (aE _) K DB:Below wz.heap.size wz ao);obtain⟨Hown11,ED⟩:=ak A N;clear A K aq N));exact Rk
       have bt:decide ((0:Int)<(z:Int))=false:=be Z;have bu:(0:Int)≤(k:Int):=Z;refine agz ?_;intro GF T4 Gc;go_upto_region 21 with (at_builtin;(refine vB ui rfl (.tmp 66) (.tmp 69) rfl wz.heap.size (.slice a9 (0+1) c9) (0+1) (T1++[.string T,.string x2]) rfl dY.o (some ⟨gw,0,none⟩) (k) (z) T2 rfl ks.o (Gc.o w9) aB.o Z cY DB ?_;intro bw ao A K aq;obtain⟨a11,c11,rfl⟩:=zhc A Z;have N:=(iX wI.o dY.o (aE _) K DB:Below wz.heap.size wz ao);obtain⟨Hown11,ED⟩:=ak A N;clear A K aq N));exact Rk
     obtain rfl:k=m:=Z;have cC:L.take k=L:=lH (jg ay.o.symm);rw[cC]at ah;have aj:=ee.o.trans (t.mono ee.o.size);have b1:=aj.alloc aj.size (.cells #[] 51);have bA:=ET ah ee.o.size;rw[show tB (nH L)=fJ l from bQ.o.symm]at bA;have b2:(fJ l).length=k:=by rw[bQ.o,gi,(AV L).length_eq];exact ay.o.symm
     by_cases cO:16<k
     ·have cD:decide ((16:Int)<(k:Int))=true:=aO Z;have af:gN l=false:=by rw[bS.o,be];have:=ay.o;omega
      revert t ah aj b1 bA b2 af;refine eb ?_;intro bO bY b3 b4 b5 b6 aM;go_wp2_with fail;go_ret2
      exact zs3 aM.o b4.o
     have cD:decide ((16:Int)<(k:Int))=false:=be Z;have cE:gN l=true:=by rw[bS.o,aO];have:=ay.o;omega
     revert t ah aj b1 bA b2 cE;refine eb ?_;intro bO bY b3 b4 b5 b6 cF;go_wp2_with fail;go_ret2
     exact⟨.slice (some ⟨gw,0,none⟩) k z,(by rw[cF.o];rfl),(fun _=>by have aJ:=b5.o;rw[b6.o];exact aJ),b3.o⟩
end
section
open RowKit Shelf Lib av
attribute [local go_sem] Oper.semAt_some
def rJ(pre:List ByteArray):List Value:=pre.flatMap fun p=>dd (spV p)
theorem zs0(pre:List ByteArray)(x:ByteArray):rJ (pre++[x])=rJ pre++dd (spV x):=by simp[rJ]
theorem zpv(pre:List ByteArray):rJ pre=(pre.map spV).flatMap dd:=by rw[List.flatMap_map];rfl
structure SI(w W:World)(pre:List ByteArray):Prop where
 bm:Below w.heap.size w W
 r2:W.heap[w.heap.size]?=some (.cells #[.slice none 0 0] 52 (0,0))
 r3:W.heap[w.heap.size+1]?=some (.cells #[.bool false] 4 (0,0))
 out:∃v,W.heap[w.heap.size+1+1]?=some (.cells #[v] 52 (0,0))∧W.ownsRow (w.heap.size+6) 51 2 v pre.length (rJ pre)
 ok:∀p∈pre,n0 p.data.toList=true
structure SX(w W:World)(pre:List ByteArray):Prop where
 bm:Below w.heap.size w W
 r2:W.heap[w.heap.size]?=some (.cells #[.slice none 0 0] 52 (0,0))
 r3:W.heap[w.heap.size+1]?=some (.cells #[.bool false] 4 (0,0))
 bad:∃p∈pre,n0 p.data.toList=false
theorem SI.own(_:w.heap.size+6≤B):OwnFrom B (fun (pre:List ByteArray) W=>SI w W pre):=by
 rintro pre W W' row h a hr;have uM:∀r,row=some r→B≤r:=fun r e=>(hr r e).1;obtain⟨v,hv,aY⟩:=h.out;refine⟨h.bm.grown a h.bm.size (fun k e=>YS),CJ a uM Z h.r2,CJ a uM Z h.r3,⟨v,CJ a uM Z hv,aY.kept a ?_⟩,h.ok⟩;exact ahw
theorem SX.own(_:w.heap.size+6≤B):OwnFrom B (fun (pre:List ByteArray) W=>SX w W pre):=by
 exact ahg
theorem SI.lets(w:World):Lets (w.heap.size+1+1+1) (fun (pre:List ByteArray) W=>SI w W pre):=by
 rintro pre W i u h;obtain⟨v,hv,aY⟩:=h.out;exact⟨h.bm.setCell (p:=⟨w.heap.size+1+1+1,i,none⟩) YT _,ah h.r2 Z,ah h.r3 Z,⟨v,ah hv Z,sr aY Z i u⟩,h.ok⟩
theorem SX.lets(w:World):Lets (w.heap.size+1+1+1) (fun (pre:List ByteArray) W=>SX w W pre):=by
 exact akb
theorem SI.size(h:SI w W pre)(_:w.heap.size+6≤W.heap.size):∀k,sb w k→k<W.heap.size:=by
 rintro k (rfl|rfl|rfl)<;>omega
theorem SI.add{W3:World}{x:ByteArray}{tmp:Obj}(h:SI w W pre)(hs:w.heap.size+6≤W.heap.size)(a:Below W.heap.size W W3) 
  (b:W.heap[w.heap.size+1+1]?=some (.cells #[v] 52 (0,0))) (c:W.ownsRow (w.heap.size+6) 51 2 v pre.length (rJ pre))
  (d:w1.ownsRow (w.heap.size+6) 51 2 v' (pre.length+1) (rJ pre++dd (spV x))) (hg:(W3.alloc tmp).grownBy w1 v.ownBlock) (hx:n0 x.data.toList=true) :
  KeepsFrom B W (w1.setCell ⟨w.heap.size+1+1,0,none⟩ v')∧ot (sb w) W (w1.setCell ⟨w.heap.size+1+1,0,none⟩ v')∧SI w (w1.setCell ⟨w.heap.size+1+1,0,none⟩ v') (pre++[x])∧w1.heap[w.heap.size+1+1]?=some (.cells #[v] 52 (0,0))∧w.heap.size+6≤(w1.setCell ⟨w.heap.size+1+1,0,none⟩ v').heap.size:=by
 have aM:Below W.heap.size W (W3.alloc tmp):=a.alloc a.size _;have To:(W3.alloc tmp).ownsRow (w.heap.size+6) 51 2 v pre.length (rJ pre):=fh c aM;refine aji ?_;intro old;refine⟨?_,?_,⟨?_,ah (old Z h.r2) Z,ah (old Z h.r3) Z,⟨v',ag _ _ 0 _ _ _ (old Z b),?_⟩,?_⟩,old Z b,ata⟩
 ·exact aff
 ·exact agq
 ·exact aih
 ·rw[zs0,bM];exact sr d Z 0 v'
 exact amk
theorem SI.no{a:World}{x:ByteArray}(h:SI w W pre)(_:w.heap.size+6≤W.heap.size)(hb:Below W.heap.size W a)(b:n0 x.data.toList=false):
  KeepsFrom B W ((a.setCell ⟨w.heap.size,0,none⟩ (.slice none 0 0)).setCell ⟨w.heap.size+1,0,none⟩ (.bool false))∧SX w ((a.setCell ⟨w.heap.size,0,none⟩ (.slice none 0 0)).setCell ⟨w.heap.size+1,0,none⟩ (.bool false)) (pre++[x]):=by
 refine aew ?_;exact⟨x,ae,b⟩
def PP(t:ByteArray):List h8:=(ex 44 t).map spV
theorem spV_size(s:ByteArray):(spV s).1.size≤s.size∧(spV s).2.size≤s.size:=by
 have h:=zqs s;refine Xo ?_;intro e;unfold spV spB;split
 ·split
  ·exact⟨by rw[e];exact h.1,by rw[e];exact h.2⟩
  exact⟨by rw[e];exact h.1,by rw[e];exact h.1⟩
 exact⟨bj _,bj _⟩
theorem spV_small{p:ByteArray}(h:n0 p.data.toList=true):(spV p).1.size≤40∧(spV p).2.size≤40:=by
 have c:eg (spO p.data.toList)=true:=by have a:=h;unfold n0 at a;simp only[fI]at a;exact a.1
 have h1:=nE.1 c
 have b:∀x:ByteArray,gO x.data.toList=true→x.size≤40:=fun x d=>by
  rw[←em.len];rcases Ns.1 d with h|h
  ·rw[h];simp
  exact ((qB _).1 h).2.1
 rw[←zol p]at h1;unfold spV;rw[M h];exact⟨b _ h1.1,b _ h1.2.1⟩
theorem FJ(t:ByteArray)(a:∀p∈ex 44 t,n0 p.data.toList=true):∃l:List Tp,tB l=PP t:=by
 have b:∀s∈ex 44 t,(spV s).1.size≤9000∧(spV s).2.size≤9000:=fun s h=>by have h1:=spV_small (a s h);omega
 refine⟨(ex 44 t).pmap (fun s h=>(⟨spV s,h⟩:Tp)) b,?_⟩;unfold PP tB;rw[List.map_pmap];simp
theorem lit2(w:World)(x y:Value)(t:TypeId)(a:w.heap.size=n):∀j u,[x,y][j]?=some u→(w.alloc (.cells #[x,y] t)).cell? ((⟨n,0,none⟩:Addr).add j)=some u:=by
 intro j u b;subst a;rw[tX,og,SD];simpa using b
def RdPost(t:ByteArray)(w:World)(e:Ending)(w':World):Prop :=
 ((∃v,e=.returned (.tuple #[v,.bool true])∧((t=⟨#[33]⟩∧v=.slice none 0 0)∨(t≠⟨#[33]⟩∧(∀p∈ex 44 t,n0 p.data.toList=true)∧(∀l,tB l=PP t→oh l=t)∧w'.ownsRow w.heap.size 51 2 v (PP t).length ((PP t).flatMap dd))))∨
  (e=.returned (.tuple #[.slice none 0 0,.bool false])∧t≠⟨#[33]⟩∧((∃p∈ex 44 t,n0 p.data.toList=false)∨∀l,tB l=PP t→oh l≠t)))∧Below w.heap.size w w'
theorem info_span:(prog.info? 51).map (fun i=>(i.zero,i.size,i.bytes))=some (some (.agg #[.string ⟨#[]⟩,.string ⟨#[]⟩]),2,32):=by kernel_rfl
theorem zxv(s:ByteArray)(_:s.size≤70000)(r:dN w):Calls prog 119 #[.string s] w (RdPost s w):=by
 refine (AP (n:=8)).1 ?_;refine callsIn_of_wp_marks func119 rfl trivial ?_ rfl;simp only[ntmps119,Ad,fO,tO,Nat.reduceAdd,Nat.reduceSub,Rc,Re,Rf,Rg,ig,ru];have Fq:(⟨#[33]⟩:ByteArray).toList=[33]:=by rw[DL]
 by_cases h0:s=⟨#[33]⟩
 ·have k1:(s.toList==[33])=true:=arg;clear Fq;obtain⟨S,t⟩:=ak r h0;clear r h0
  gi_wp2
  refine⟨_,IB rfl rfl rfl (G (aS _ _) (G (aS _ _) (dx rfl))) (G (aS _ _) (dx ae)) (isAgg52 _) (IP _),?_⟩;exact⟨.inl ⟨_,rfl,.inl ⟨t.o,rfl⟩⟩,(((aL _ w).alloc (aE _) _).alloc ae _).alloc aX _⟩
 have k1:(s.toList==[33])=false:=arh;clear Fq;have av:=znr s 44 (((w.alloc (.cells #[.slice none 0 0] 52)).alloc (.cells #[.bool false] 4)).alloc (.cells #[.slice none 0 0] 52));obtain⟨aw,S,t⟩:=aQ av r h0;clear av r h0
 gi_wp2
 refine⟨trivial,(AP.2 aw.o).mono ?_⟩;rintro e bF ⟨rfl,rfl⟩
 gi_wp2
 have ax:H8 (w.heap.size+1+1+1) (w.heap.size+1+1+1+1) (w.heap.size+1+1+1+1+1) 44 s ((((((w.alloc (.cells #[.slice none 0 0] 52)).alloc (.cells #[.bool false] 4)).alloc (.cells #[.slice none 0 0] 52)).alloc (.cells #[.string s] 9)).alloc (.cells #[.string ⟨#[44]⟩] 9)).alloc (.cells #[.int .i64 0] 3)):=by have a1:=dx (w:=(((w.alloc (.cells #[.slice none 0 0] 52)).alloc (.cells #[.bool false] 4)).alloc (.cells #[.slice none 0 0] 52))) (o:=.cells #[.string s] 9) (n:=w.heap.size+1+1+1) ae;have a2:=dx (w:=((((w.alloc (.cells #[.slice none 0 0] 52)).alloc (.cells #[.bool false] 4)).alloc (.cells #[.slice none 0 0] 52)).alloc (.cells #[.string s] 9))) (o:=.cells #[.string ⟨#[44]⟩] 9) (n:=w.heap.size+1+1+1+1) ae;have a3:=dx (w:=(((((w.alloc (.cells #[.slice none 0 0] 52)).alloc (.cells #[.bool false] 4)).alloc (.cells #[.slice none 0 0] 52)).alloc (.cells #[.string s] 9)).alloc (.cells #[.string ⟨#[44]⟩] 9))) (o:=.cells #[.int .i64 0] 3) (n:=w.heap.size+1+1+1+1+1) ae;exact ape
 obtain⟨y,z⟩:=Y (((((((w.alloc (.cells #[.slice none 0 0] 52)).alloc (.cells #[.bool false] 4)).alloc (.cells #[.slice none 0 0] 52)).alloc (.cells #[.string s] 9)).alloc (.cells #[.string ⟨#[44]⟩] 9)).alloc (.cells #[.int .i64 0] 3)));have bG:y.heap.size=w.heap.size+6:=by rw[z];simp
 rw[←z]at ax⊢;have aV:SI w y []:=by rw[z];refine Wn ?_;intro k1;refine⟨(((((((aL _ w).alloc (aE _) _).alloc ae _).alloc aX _).alloc aX _).alloc aX _).alloc aX _),k1 (k1 (k1 (k1 (k1 (dx rfl))))),k1 (k1 (k1 (k1 (dx ae)))),⟨_,k1 (k1 (k1 (dx ae))),pd _ _ _ _⟩,(fun p A=>by cases A)⟩
 have bH:=O z;clear z
 refine zle rfl Z (gf:=NT) rfl trivial (mQ func172 aA rfl) (zpo 7 Z _ _ _ 44 s Z y Z Z Z Z Z ax)
  (fun k hk=>YV) Z (aL _ _) rfl
  (fun pre W=>w.heap.size+6≤W.heap.size∧SI w W pre) (fun pre W=>w.heap.size+6≤W.heap.size∧SX w W pre) (OwnFrom.and (zia _) (SI.own Z)) (OwnFrom.and (zia _) (SX.own Z)) (fun pre W i u h=>⟨Ta,SI.lets w pre W i u h.2⟩) (fun pre W i u h=>⟨Ta,SX.lets w pre W i u h.2⟩) ⟨Z,aV⟩
  (fun x=>{ tmps:=#[.string s,undef,.pointer (some ⟨w.heap.size,0,none⟩),.pointer (some ⟨w.heap.size+1,0,none⟩),.pointer (some ⟨w.heap.size+1+1,0,none⟩),.string x,undef,undef,.string s,.bool false,.string s,
   .func (.func NT) #[] #[.pointer (some ⟨w.heap.size+1+1+1+1,0,none⟩),.pointer (some ⟨w.heap.size+1+1+1,0,none⟩),.pointer (some ⟨w.heap.size+1+1+1+1+1,0,none⟩)],.string x,undef,undef,undef,undef,undef,undef,undef,undef,undef,undef,undef,undef,undef,undef,undef,undef],defers:=[] }) ?assign ?body ?done ?stop
 case assign=>
  intro l x W K hK
  gi_wp2
  exact hK
 case body=>
  rintro l pre x W ⟨F,h⟩ ⟨U,ay⟩;obtain⟨v,hv,aY⟩:=h.out;obtain⟨a,cap,rfl⟩:=bg aY;have az:=zv2 x Z (S.o.below h.bm);obtain⟨b,hb⟩:=Y (n0 x.data.toList);obtain⟨y1,dX⟩:=Y ((spV x).1);obtain⟨y2,iV⟩:=Y ((spV x).2);have c0:W.cell? ⟨w.heap.size+1+1,0,none⟩=some (.slice a pre.length cap):=J hv 0;rw[←hb,←dX,←iV]at az;have bI:pre.length≤70000:=by have h1:=ay.length_le;have aZ:(ex 44 s).length≤s.size+1:=ari;rw[bM,rD]at h1;omega
  revert h U ay hv aY dX az iV c0;refine fK ?_;intro Hh _ _ X bY a6 a7 a8 ba
  gi_wp2
  refine⟨trivial,(CallsIn.inRound l (AP.2 a7.o)).mono ?_⟩;rintro e m ⟨rfl,aa⟩;have L:Below W.heap.size W (m.alloc (.cells #[.string y1,.string y2] 51)):=aa.alloc aa.size _;have r2:=G L Hh.o.r2;have r3:=G L Hh.o.r3;have d0:(m.alloc (.cells #[.string y1,.string y2] 51)).cell? ⟨w.heap.size+1+1,0,none⟩=some (.slice a pre.length cap):=ab L ba.o;have d1:(m.alloc (.cells #[.string y1,.string y2] 51)).cell? ⟨w.heap.size,0,none⟩=some (.slice none 0 0):=J r2 0;have d2:(m.alloc (.cells #[.string y1,.string y2] 51)).cell? ⟨w.heap.size+1,0,none⟩=some (.bool false):=J r3 0;have f1:=aG r2 0;have f2:=aG r3 0;revert hb aa L r2 r3;refine bU ?_;intro Hb bh bK ga gZ;clear aw
  cases b with
  |false=>have aB:=Hh.o.no (B:=y.heap.size) F bK.o Hb.o.symm;have oE:w.heap.size+6≤(((m.alloc (.cells #[.string y1,.string y2] 51)).setCell ⟨w.heap.size,0,none⟩ (.slice none 0 0)).setCell ⟨w.heap.size+1,0,none⟩ (.bool false)).heap.size:=aum;have cd:=O aB;clear aB;exact Xw
  |true=>
   have bb:=fh bY.o bK.o;obtain⟨bc,hi,bd,bf,bj⟩:=F_ info_span;have aC:=fun(w1:World)(v':Value)=>Hh.o.add (B:=y.heap.size) F bK.o X.o bY.o (w1:=w1) (v':=v') (x:=x) (tmp:=.cells #[.string y1,.string y2] 51);have aD:dd (spV x)=[.string y1,.string y2]:=by rw[a6.o,a8.o];rfl
   rw[aD]at aC;have aF:w.heap.size+6≤(m.alloc (.cells #[.string y1,.string y2] 51)).heap.size:=by have:=bK.o.size;omega
   have g1:pre.length+1≤maxLen:=cY;have bk:(pre.length+1)*32≤140737488355328:=Z;have bl:w.heap.size+6≤((m.alloc (.cells #[.string y1,.string y2] 51)).alloc (.cells #[.string y1,.string y2] 51)).heap.size:=by simp at aF⊢;omega
   have bn:=lit2 (m.alloc (.cells #[.string y1,.string y2] 51)) (.string y1) (.string y2) 51 (n:=m.heap.size+1) ae;have bo:∀u∈[Value.string y1,.string y2],u.oneCell'=true:=dW;revert bb aC aD aF g1 bk bl bn bo;refine fK ?_;intro bp bq _ _ br bs bt bu bw
   gi_wp2_with (gi_at_builtin;refine wpListIn_append_own _ rfl _ _ 52 rfl (w.heap.size+6) 51 bc (.agg #[.string ⟨#[]⟩,.string ⟨#[]⟩]) 2 32 Ok hi bd bf bj rfl D _ _ _ rfl (bp.o.alloc _) ⟨m.heap.size+1,0,none⟩ 1 1 [.string y1,.string y2] rfl rfl bu.o bw.o br.o bs.o bt.o ?_;intro v' w1 ad aI _;obtain⟨g',cap',rfl⟩:=ownsRow_succ ad;have eH:=bq.o w1 _ ad aI Hb.o.symm;clear ad aI;refine Hid.o ?_)
   exact ahq
 case done=>
  rintro ml bJ W r rfl ⟨F,h⟩ hK;obtain⟨v,hv,aY⟩:=h.out;obtain⟨a,cap,rfl⟩:=bg aY;have c0:W.cell? ⟨w.heap.size+1+1,0,none⟩=some (.slice a (ex 44 s).length cap):=J hv 0;obtain⟨l,hl⟩:=FJ s h.ok;have aJ:l.length=(ex 44 s).length:=by have:=iB List.length hl;simpa [PP] using this
  have bL:(ex 44 s).length≤s.size+1:=ari;have af:(PP s).length=(ex 44 s).length:=by simp[PP]
  have ai:gy W [.slice a (ex 44 s).length cap] (tB l):=by
   rw[hl];refine Dm (B:=w.heap.size+6) (fun x U=>?_) ?_
   ·obtain⟨p,A,rfl⟩:=gb.1 U;have h1:=Nn A;have aZ:=spV_size p;unfold maxLen;omega
   rw[af];have aK:=aY;rw[zpv]at aK;exact aK
  have aj:=zpn ai Z (S.o.below h.bm);have aM:=h.ok;have aN:∀q,tB q=PP s→q=l:=fun q C=>(XQ fun _ _ e=>Subtype.ext e).1 (C.trans hl.symm);obtain⟨T,Av⟩:=Y (oh l);rw[←Av]at aj;have N:(T.toList==s.toList)=decide (T=s):=em.gu _ _;by_cases R:T=s
  ·have bx:(T.toList==s.toList)=true:=by rw[N,aO R]
   clear N;revert h hv aY hl aJ af ai aM aN aj Av R;refine nL ?_;intro Hh X bY bz bA aP bB aR al HT an ao
   gi_wp2
   refine aip ?_;intro W5 O1 c5 f1 f2 c1 c2 cQ ga gZ tK
   gi_wp2
   have O0:((W5.setCell ⟨w.heap.size,0,none⟩ (.slice a (ex 44 s).length cap)).setCell ⟨w.heap.size+1,0,none⟩ (.bool true)).heap[ml]?=some (.deferred (some [])):=ah (ah O1 Z) Z;have x1:=ah (b:=w.heap.size+1) (i:=0) (u:=.bool true) (ag W5 w.heap.size 0 _ _ (.slice a (ex 44 s).length cap) ga.o) Z;have x2:=ag _ (w.heap.size+1) 0 _ _ (.bool true) (ah (b:=w.heap.size) (i:=0) (u:=.slice a (ex 44 s).length cap) gZ.o Z);have au:Below w.heap.size w ((W5.setCell ⟨w.heap.size,0,none⟩ (.slice a (ex 44 s).length cap)).setCell ⟨w.heap.size+1,0,none⟩ (.bool true)):=((Hh.o.bm.trans (cQ.o.mono Hh.o.bm.size)).setCell (p:=⟨w.heap.size,0,none⟩) (aE _) _).setCell (p:=⟨w.heap.size+1,0,none⟩) R_ _;have aT:((W5.setCell ⟨w.heap.size,0,none⟩ (.slice a (ex 44 s).length cap)).setCell ⟨w.heap.size+1,0,none⟩ (.bool true)).ownsRow (w.heap.size+6) 51 2 (.slice a (ex 44 s).length cap) (ex 44 s).length (rJ (ex 44 s)):=sr (sr tK.o (p:=w.heap.size) Z 0 (.slice a (ex 44 s).length cap)) (p:=w.heap.size+1) Z 0 (.bool true);refine alm ?_;refine⟨.inl ⟨_,rfl,.inr ⟨t.o,aR.o,fun q C=>by rw[al.o q C,←an.o,ao.o],?_⟩⟩,au.trans (belowK_b (w:=w) (aE _) _ ml _ _ Z O0 rfl rfl)⟩;have bC:(PP s).flatMap dd=rJ (ex 44 s):=(zpv _).symm;rw[bC,aP.o];exact ET (ownsRow_putObj aT _ O0 rfl) Z
  have bx:(T.toList==s.toList)=false:=by rw[N,be R]
  clear N;revert h hv aY hl aJ af ai aM aN aj Av R;refine nL ?_;intro Hh X bY bz bA aP bB aR al HT an ao
  gi_wp2
  refine aip ?_;intro W5 O1 c5 f1 f2 c1 c2 cQ ga gZ tK
  gi_wp2
  have O0:((W5.setCell ⟨w.heap.size,0,none⟩ (.slice none 0 0)).setCell ⟨w.heap.size+1,0,none⟩ (.bool false)).heap[ml]?=some (.deferred (some [])):=ah (ah O1 Z) Z;have x1:=ah (b:=w.heap.size+1) (i:=0) (u:=.bool false) (ag W5 w.heap.size 0 _ _ (.slice none 0 0) ga.o) Z;have x2:=ag _ (w.heap.size+1) 0 _ _ (.bool false) (ah (b:=w.heap.size) (i:=0) (u:=.slice none 0 0) gZ.o Z);have au:Below w.heap.size w ((W5.setCell ⟨w.heap.size,0,none⟩ (.slice none 0 0)).setCell ⟨w.heap.size+1,0,none⟩ (.bool false)):=((Hh.o.bm.trans (cQ.o.mono Hh.o.bm.size)).setCell (p:=⟨w.heap.size,0,none⟩) (aE _) _).setCell (p:=⟨w.heap.size+1,0,none⟩) R_ _;have aT:((W5.setCell ⟨w.heap.size,0,none⟩ (.slice none 0 0)).setCell ⟨w.heap.size+1,0,none⟩ (.bool false)).ownsRow (w.heap.size+6) 51 2 (.slice a (ex 44 s).length cap) (ex 44 s).length (rJ (ex 44 s)):=sr (sr tK.o (p:=w.heap.size) Z 0 (.slice none 0 0)) (p:=w.heap.size+1) Z 0 (.bool false);refine alm ?_;refine⟨.inr ⟨rfl,t.o,.inr fun q C=>by rw[al.o q C,←an.o];exact ao.o⟩,au.trans (belowK_b (w:=w) (aE _) _ ml _ _ Z O0 rfl rfl)⟩
 case stop=>
  rintro ml pre W r bD ⟨F,h⟩ hK;obtain⟨p,A,hf⟩:=h.bad;have aU:∃p∈ex 44 s,n0 p.data.toList=false:=⟨p,bD.subset A,hf⟩;have bE:=O aU;clear aU
  gi_wp2
  refine⟨ae,.inl ⟨_,_,rfl,Rh hK,?_⟩⟩;refine⟨_,IB rfl rfl rfl ((tV Z).trans h.r2) ((tV Z).trans h.r3) (isAgg52 _) (IP _),?_⟩;exact⟨.inr ⟨rfl,t.o,.inl bE.o⟩,h.bm.trans (belowK_b (w:=w) (aE _) _ ml _ _ Z hK rfl rfl)⟩
end
section
open RowKit Lib av
def rfB(s:ByteArray):ByteArray×ByteArray:=if (ex 58 s).length=1 then (s,s) else ((ex 58 s).getD 0 qD,(ex 58 s).getD 1 qD)
def abf(s:ByteArray):Bool:=if 2<(ex 58 s).length then false else JB s.data.toList
theorem yb8(s:ByteArray):((rfB s).1.data.toList,(rfB s).2.data.toList)=Bc s.data.toList:=by
 unfold rfB Bc;rw[rG];split
 ·rfl
 exact zA (zmz 58 s 0) (zmz 58 s 1)
def zlv(s:ByteArray)(w:World)(e:Ending)(w':World):Prop :=
 ∃x y,e=.returned (.tuple #[.agg #[.string x,.string y],.bool (abf s)])∧(abf s=true→(x,y)=rfB s)∧Below w.heap.size w w'
theorem zyc(s:ByteArray)(_:s.size≤100000)(w:World):Calls prog 171 #[.string s] w (zlv s w):=by
 unfold zlv;obtain⟨w0,bw⟩:=Y (w.alloc (.cells #[.string ⟨#[]⟩,.string ⟨#[]⟩] 51));obtain⟨nb,ck⟩:=Y w.heap.size;have ag:Below w.heap.size w w0:=LH;have ah:w0.heap[nb]?=some (.cells #[.string ⟨#[]⟩,.string ⟨#[]⟩] 51 (0,0)):=by rw[bw,ck];exact pbox1_0 _ _ _
 have aj:w.heap.size≤nb:=Z;have K:=NK s Z 58 Z w0;rw[show UInt8.ofNat 58=(58:UInt8) from rfl]at K;obtain⟨j,B⟩:=Y (ex 58 s);rw[←B]at K
 have al:∀i,(j.getD i qD).size≤100000:=fun i=>by
  by_cases h:i<j.length
  ·rw[List.getD,bR h];have:=Nn (c:=58) (s:=s) (by rw[←B];exact eZ h);show j[i].size≤100000;omega
  rw[List.getD,J4 Z];decide
 have an:1≤j.length∧j.length≤1000000:=by have:=Jq 58 s.data.toList;rw[B,rG,←em.len]at *;omega
 revert ag ah aj K B al an;refine eb ?_;intro Hw ao iP aq A S ar;go_enter func171,ntmps171;go_upto_region 1 with (fail);refine mn ?_;clear bw ck;go_wp2_with fail;refine aq.o.mono ?_;rintro e w1 ⟨v,rfl,dG,ai⟩;obtain⟨a,cap,rfl⟩:=bg dG;obtain⟨n,hn⟩:=Y j.length;rw[←hn]at dG⊢;have aD:1≤n∧n≤1000000:=by rw[hn];exact ar.o
 revert ai dG hn;refine fo ?_;intro T au C;go_upto_region 3 with (fail);obtain⟨w2,hv⟩:=Y (w1.alloc (.cells #[.string ⟨#[]⟩,.string ⟨#[]⟩] 51));obtain⟨g,hg⟩:=Y w1.heap.size;have L:Below w1.heap.size w1 w2:=YZ;have U:=T.o.trans (L.mono T.o.size);have X:w2.heap[g]?=some (.cells #[.string ⟨#[]⟩,.string ⟨#[]⟩] 51 (0,0)):=Td;have aa:=G U ao.o;have av:=fh au.o L;rw[←hv,←hg];clear hv hg;obtain⟨o0,o1,o2,o3⟩:=cP X;obtain⟨r0,r1,r2,r3⟩:=cP aa;revert L U X aa av;refine bU ?_;intro tM bh Ho ga aca;by_cases aw:2<n
 ·have ax:decide ((2:Int)<(n:Int))=true:=aX;have l:abf s=false:=by unfold abf;rw[←A.o,←C.o,if_pos aw]
  have m:=O l;clear l;go_wp2_with fail;refine OZ rfl rfl rfl (GC _ _ ga.o) rfl ?_;exact⟨_,_,tf rfl rfl m.o.symm,(fun h=>by rw[m.o]at h;cases h),ik _ _ (eG Hw.o bh.o) iP.o⟩
 have ax:decide ((2:Int)<(n:Int))=false:=aX;by_cases h1:n=1
 ·subst h1;have l:abf s=gs s.data.toList:=by unfold abf JB;rw[←rG,←A.o,←C.o];rfl
  have r:rfB s=(s,s):=by unfold rfB;rw[←A.o,←C.o];rfl
  have N:=NI s Z w2;obtain⟨p,t⟩:=Y (gs s.data.toList);rw[←t]at l N;clear t;obtain⟨m,HB,HM⟩:=aQ l r N;clear l r N;go_wp2_with fail;refine mU ?_;rintro e w3 ⟨rfl,q⟩;have R:=bh.o.trans (q.mono bh.o.size);have u:=G q ga.o;obtain⟨r0,r1,r2,r3⟩:=cP u;revert q R u;refine fo ?_;intro ay bK gZ;go_wp2_with fail;refine OZ rfl rfl rfl (GC _ _ gZ.o) rfl ?_;exact⟨_,_,tf rfl rfl m.o.symm,fun _=>HB.o.symm,ik _ _ (eG Hw.o bK.o) iP.o⟩
 obtain rfl:n=2:=Z;have az:j.length=2:=C.o.symm;obtain⟨b0,aEx,qm,c0⟩:=zkt aca.o 0 Z;obtain⟨b1,azy,aut,c1⟩:=zkt aca.o 1 Z;simp only[rL]at qm aut;obtain⟨rfl,-,rfl⟩:=qm;obtain⟨kW,-,rfl⟩:=aut;simp only[Ka,Addr.mk.injEq,lv]at kW;subst kW;obtain⟨x,hx⟩:=Y (j.getD 0 qD);obtain⟨y,hy⟩:=Y (j.getD 1 qD);have aA:=S.o 0;have aB:=S.o 1;rw[←hx]at aA;rw[←hy]at aB;rw[show j[0]' Z=x by rw[hx,List.getD,bR Z];rfl]at c0;rw[show j[1]' Z=y by rw[hy,List.getD,bR Z];rfl]at c1;have r:rfB s=(x,y):=by unfold rfB;rw[←A.o,if_neg Z,←hx,←hy]
 have l:abf s=(eg (x.data.toList,y.data.toList)&&decide (txR x y=s)):=by unfold abf JB;rw[←rG,←A.o,E Z,E Z,←yb8,r,←yah];exact iB _ (rz.2 ba_eq.symm)
 clear hx hy az;obtain⟨HB,m⟩:=ak r l;clear r l;go_upto_region 7 with (fail);go_cut [6] (fun v W=>CutBox w2 x y v W)
 case first=>
  have di:(w2.drewN 1).cell? ⟨b0,0,none⟩=some (.string x)∧(w2.drewN 1).cell? ⟨b0,1,none⟩=some (.string y):=⟨c0,c1⟩;have z:∀W,Below w2.heap.size w2 W→W.cell? ⟨b0,0,none⟩=some (.string x)∧W.cell? ⟨b0,1,none⟩=some (.string y):=fun W k=>⟨ab k c0,ab k c1⟩;have H:=dU (aL w2.heap.size w2) 1;have BC:=aH z;clear z;go_region_held3 (fun w'=>w'.cell? ⟨b0,0,none⟩=some (.string x)∧w'.cell? ⟨b0,1,none⟩=some (.string y)) (first|exact di|exact BC.o _ (H.alloc H.size _)|exact BC.o _ (ik _ _ H H.size)|go_keep) (fail)
  all_goals
   go_wp2_with fail
   go_meet
   exact⟨_,rfl,dq _ _,H.alloc H.size _⟩
 case rest=>
  obtain⟨ad,rfl,F,q⟩:=hcut;have R:=bh.o.trans (q.mono bh.o.size);have u:=G q ga.o;clear o0 o1 o2 o3 r0 r1 r2 r3 c0 c1;obtain⟨z0,z1,z2,z3⟩:=cP F;obtain⟨r0,r1,r2,r3⟩:=cP u;have ae:=fun(W:World)(_:Below wc.heap.size wc W)=>Ng x y Z Z W;have af:=fun(W:World)(_:Below wc.heap.size wc W)=>zpy x y Z Z W;have z:∀W,Below wc.heap.size wc W→(W.cell? ⟨ad,0,none⟩=some (.string x)∧W.cell? ⟨ad,1,none⟩=some (.string y))∧W.cell? ⟨nb,0,none⟩=some (.string ⟨#[]⟩)∧W.cell? ⟨nb,1,none⟩=some (.string ⟨#[]⟩)∧W.frozen? ⟨nb,0,none⟩=false∧W.frozen? ⟨nb,1,none⟩=false:=fun W k=>⟨⟨(cP (G k F)).1,(cP (G k F)).2.1⟩,cP (G k u)⟩;obtain⟨p,t⟩:=Y (eg (x.data.toList,y.data.toList));obtain⟨tx,tC⟩:=Y (txR x y);obtain⟨d,k3⟩:=mq ((tx.toList==s.toList));have aC:abf s=(p&&d):=by rw[m.o,←t,←tC,←k3,em.gu]
  rw[←t]at ae;rw[←tC]at af;have H:=dU (aL wc.heap.size wc) 1;have di:=z _ H;clear t tC m;revert F q R u ae af aC;refine eb ?_;intro _ ay bK gZ HP HT YF;have BC:=aH z;clear z
  cases p with
  |false=>
   go_wp2_with fail
   first
    |go_region_with (go_at_call 103;refine (HP.o _ od).mono ?_;rintro e wz ⟨rfl,a_⟩;replace H:=H.trans (a_.mono H.size);obtain⟨⟨q0,q1⟩,q2,q3,q4,q5⟩:=BC.o _ H;replace di:=BC.o _ H)
    |fail "the region"
   all_goals
    exact aft
  |true=>
   cases d with
   |false=>exact aqn
   |true=>exact aqn
end
section
open Lib av
theorem ydl(h:eu p=true):(44:UInt8) ∉ p:=by
 intro a;unfold eu at h;rcases n_ _ _ ▸ h with h|h
 ·unfold fk at h;simp only[fI,qy]at h;have:=(Fl _).1 (h.2 44 a);simp at this
 unfold lL at h;simp only[fI,qy]at h;have:=(ug _).1 (h.1.1.2 44 a);simp at this
theorem may_comma{l:List UInt8}(h:gs l=true):(44:UInt8) ∉ l:=by
 intro a;have b:=Jy 46 l [];rw[ig]at b;rw[←b]at a;rcases zu7 _ _ _ a with e|⟨p,c,a⟩
 ·exact absurd e D
 exact ydl (((qB l).1 h).2.2.1 p c) a
theorem zm6{l:List UInt8}(h:gO l=true):(44:UInt8) ∉ l:=by
 rcases Ns.1 h with h|h
 ·rw[h];simp
 exact may_comma h
theorem zyk{s:h8}(h:eg (dS s)=true):(44:UInt8) ∉ (lJ s).data.toList:=by
 have e:(lJ s).data.toList=textS (dS s):=zsx _ _;have h1:=nE.1 h;rw[e,zsz h];unfold FH;split
 ·exact zm6 h1.1
 intro k;rcases ff.1 k with k|k
 ·exact zm6 h1.1 k
 rcases iC.1 k with k|k
 ·exact absurd k D
 exact zm6 h1.2.1 k
theorem yc9:∀(r:List (List UInt8)) (x:List UInt8),(44:UInt8) ∉ x→(∀p∈r,(44:UInt8) ∉ p)→ge 44 (x++Lib.joinTail [44] r)=x::r
 |[],x,a,_=>by have:Lib.joinTail [44] []=[]:=rfl;rw[this,h_];exact zqu 44 x [] (fun y b e=>a (e ▸ b))
 |y::r,x,a,c=>by have:Lib.joinTail [44] (y::r)=44::(y++Lib.joinTail [44] r):=X7;rw[this,zww,yc9 r y (c y ae) fun p d=>c p (by simp[d])];have:ge 44 x=[x]:=zqu 44 x [] (fun y b e=>a (e ▸ b));rw[this];rfl
theorem yez{L:List (List UInt8)}(h0:L≠[])(h:∀p∈L,(44:UInt8) ∉ p):ge 44 (Lib.join L [44])=L:=by
 cases L with
 |nil=>exact absurd rfl h0
 |cons x r=>rw[zD,yc9 r x (h x ae) fun p a=>h p (by simp[a])]
def vF(F:List h8):ByteArray:=if F.length=0 then ⟨#[33]⟩ else Dx F
theorem JL{l:List Tp}:gN l=true↔rM (tB l)=true∧(fJ l).length≤16:=by unfold gN;simp
theorem yeg{l:List Tp}{t:ByteArray}(a:gN l=true)(h0:(fJ l).length≠0)(h:Dx (fJ l)=t):(ex 44 t).length=(fJ l).length:=by
 have b:=(zov (JL.1 a).1).1.1;rw[rG,←h];show (ge 44 (Lib.join (((fJ l).map lJ).map (·.data.toList)) [44])).length=_;rw[yez]
 ·simp
 ·intro e;have:=iB List.length e;simp at this;exact h0 (by rw[this];rfl)
 intro p c;obtain⟨y,hy,rfl⟩:=gb.1 c;obtain⟨z,hz,rfl⟩:=gb.1 hy;exact zyk (b _ (gb.2 ⟨z,hz,rfl⟩))
theorem zq4{t:ByteArray}{l:List Tp}(h0:t≠⟨#[33]⟩)(b:∀p∈ex 44 t,n0 p.data.toList=true):oh l=t↔((ex 44 t).length≤40∧gN l=true∧vF (fJ l)=t):=by
 constructor
 ·intro h;unfold oh at h;split at h
  ·exfalso
   subst h;have:=b ⟨#[]⟩ (by rw[show ex 44 ⟨#[]⟩=[⟨#[]⟩] from rfl];exact gd.2 rfl);revert this;decide
  rename_i a
  have a:gN l=true:=by simpa using a
  split at h
  ·exact absurd h.symm h0
  rename_i hn
  refine⟨?_,a,by unfold vF;rw[if_neg hn];exact h⟩;rw[yeg a hn h];have:=(JL.1 a).2;omega
 rintro⟨_,a,h⟩;unfold vF at h;split at h
 ·exact absurd h.symm h0
 rename_i hn
 unfold oh;rw[E (by rw[a];simp),E hn];exact h
end
section
open Shelf RowKit Lib av
theorem join_snoc(L:List (List UInt8))(y:List UInt8):Lib.join (L++[y]) [44]=if L=[] then y else Lib.join L [44]++44::y:=by
 cases L with
 |nil=>rw[M rfl,ig,Lib.join_one]
 |cons x r=>rw[E ae,ru,zD,zD];have:Lib.joinTail [44] (r++[y])=Lib.joinTail [44] r++44::y:=X7;rw[this,gq]
def sX(F:List h8):ByteArray:=⟨(Lib.join ((F.map fun s=>txR s.1 s.2).map (·.data.toList)) [44]).toArray⟩
theorem zje(F:List h8):(sX F).data.toList=Lib.join ((F.map fun s=>txR s.1 s.2).map (·.data.toList)) [44]:=rfl
theorem yde(x:h8):⟨#[]⟩++txR x.1 x.2=sX [x]:=by
 apply em.ext
 rw[fz,zje,eU,eU,Aq,Aq,Lib.join_one];rfl
theorem zya{F:List h8}(h:F≠[])(x:h8):sX F++⟨#[44]⟩++txR x.1 x.2=sX (F++[x]):=by
 apply em.ext
 rw[fz,fz,zje,zje,oP,oP,eU,eU,Aq,Aq,join_snoc,E w_,gq];rfl
theorem ydf{F:List h8}(h:rM F=true):sX F=Dx F:=by
 unfold sX Dx
 have:(F.map fun s=>txR s.1 s.2)=F.map lJ:=by
  apply Ol
  intro s a;unfold lJ txS;rw[M];exact No.1 h _ (gb.2 ⟨s,a,rfl⟩)
 rw[this]
theorem zyb{F:List h8}(h:sY F):(sX F).size≤18002*F.length:=by
 have a:Lib.lens ((F.map fun s=>txR s.1 s.2).map (·.data.toList))≤18001*F.length:=by
  have:=NN 18001 ((F.map fun s=>txR s.1 s.2).map (·.data.toList)) (fun x hx=>by obtain⟨y,hy,rfl⟩:=gb.1 hx;obtain⟨z,hz,rfl⟩:=gb.1 hy;have h1:=zsy z.1 z.2;have b:=h z hz;rw[em.len];omega);exact uu
 rw[←em.len,zje]
 cases F with
 |nil=>simp[Lib.join_nil]
 |cons x r=>simp only[eU,fO]at a⊢;rw[VF];simp only[gi,rD,Nat.one_mul];omega
theorem znu{F:List h8}(h:gy w [v] F)(L:sY F)(u:rM F=true)(aa:F.length≤2000):Calls prog 72 #[v] w fun e w'=>e=.returned (.string (vF F))∧Below w.heap.size w w':=by
 have N:=fun a c (e:v=.slice a F.length c)=>Bb X6;obtain⟨a,cap,rfl⟩:=qz h;have R:=N a cap rfl;clear N;obtain⟨q,hq⟩:=Y F.length;rw[←hq]at aa h⊢;by_cases h0:q=0
 ·subst h0;have n:vF F=⟨#[33]⟩:=by unfold vF;rw[if_pos hq.symm]
  rw[n];revert L u R h hq;refine bU ?_;intro A ad T af Hq;go_enter func72,ntmps72;go_wp2_with fail;exact Gv
 have aw:((q:Int)==0)=false:=l9;have n:vF F=sX F:=by unfold vF;rw[if_neg (by rw[←hq];exact h0),ydf u]
 rw[n];revert L u R h hq n;refine bX ?_;intro A ad T af Hq _;go_enter func72,ntmps72;go_wp2_with fail;go_loopw [3,10] (fun v i wr=>∃k:Nat,k≤q∧i=.int .i64 k∧v=.string (sX (F.take k))∧Below w.heap.size w wr) (fun _ i _=>q-(RowKit.intOf i).toNat)
 case atStart=>exact⟨0,bj _,rfl,rfl,aL _ _⟩
 case round=>
  obtain⟨k,_,rfl,rfl,m⟩:=hrel;by_cases ax:k<q
  ·have JF:k<F.length:=J7;obtain⟨y,hy⟩:=Y (F[k]);obtain⟨b,off,rfl,c0,c1⟩:=T.o k y X4;have d0:=ab m c0;have d1:=ab m c1;have U:=A.o y X5;have p:=zpy y.1 y.2 Z Z wr;have r:F.take (k+1)=F.take k++[y]:=by rw[hy];exact (List.take_append_getElem JF).symm
   have B:=zsy y.1 y.2;have s:=zyb (F:=F.take k) (fun z ag=>A.o z (List.mem_of_mem_take ag));rw[tZ,Nat.min_eq_left Z]at s;obtain⟨P,hP⟩:=Y (txR y.1 y.2);obtain⟨y1,dX⟩:=Y y.1;obtain⟨y2,iV⟩:=Y y.2;rw[←hP]at p B;rw[←dX,←iV]at p;rw[←dX]at d0;rw[←iV]at d1;have ay:P.size≤70000:=Z;refine kG ?_;intro k5;have az:(k:Int)<(q:Int):=Z;clear c0 c1;by_cases W:k=0
   ·subst W;simp only[AQ,mL]at d0 d1;have t:(⟨#[]⟩:ByteArray)++P=sX (F.take (0+1)):=by rw[r,hP,Sq,ig];exact yde y
    have ah:sX (F.take 0)=⟨#[]⟩:=rfl;have ai:decide ((0:Int)<((0:Nat):Int))=false:=ae;rw[ah];revert m U B hP dX p iV hy r s t;refine kH ?_;intro bO aj al an ao C aq ar au av K;go_wp2_with fail;refine C.o.mono ?_;refine W_ ?_;intro w5 cQ eI;go_wp2_with fail;go_roundw
    case rel=>exact⟨0+1,Z,cj,by rw[←K.o],eI.o⟩
    case measure=>(simp[RowKit.intOf])<;>omega
   have t:sX (F.take k)++⟨#[44]⟩++P=sX (F.take (k+1)):=by rw[r,hP];refine zya (fun e=>?_) y;have:=iB List.length e;rw[tZ,Nat.min_eq_left Z]at this;exact W this
   have ai:decide ((0:Int)<(k:Int))=true:=aO Z;obtain⟨S,X⟩:=Y (sX (F.take k));rw[←X]at t s⊢;have aA:S.size≤40000000:=Z;revert m hy U r B hP dX p iV s t X;refine nL ?_;intro bO ar aj au al an ao C aq av K HS;go_wp2_with fail;refine C.o.mono ?_;refine W_ ?_;intro w5 cQ eI;go_wp2_with fail;go_roundw
   case rel=>exact⟨k+1,Z,cj,by rw[←K.o],eI.o⟩
   case measure=>(simp[RowKit.intOf])<;>omega
  obtain rfl:k=q:=Z;rw[lH (jg Hq.o.symm)];have bO:=O m;clear m;go_wp2_with fail;go_ret;exact⟨rfl,bO.o⟩
theorem rfOk_is(s:ByteArray):abf s=n0 s.data.toList∧(n0 s.data.toList=true→rfB s=spV s):=by
 by_cases h:2<(ex 58 s).length
 ·have h1:n0 s.data.toList=false:=read_many (by rw[←rG];exact h);refine⟨by unfold abf;rw[if_pos h,h1],fun e=>by rw[h1]at e;cases e⟩
 have h1:=refOk_is s.data.toList (by rw[←rG];omega);refine⟨by unfold abf;rw[if_neg h,h1.1],fun e=>?_⟩;unfold spV;rw[M e];have a:=yb8 s;rw[h1.2,←zol]at a;have b:=Om a;exact zA (em.ext b.1) (em.ext b.2)
def Rd3(t:ByteArray):Prop:=t=⟨#[33]⟩∨((∀p∈ex 44 t,n0 p.data.toList=true)∧∀l,tB l=PP t→oh l=t)
def o5(t:ByteArray):List h8:=if t=⟨#[33]⟩ then [] else PP t
def Nv(t:ByteArray)(w:World)(e:Ending)(w':World):Prop :=
 ((∃v,e=.returned (.tuple #[v,.bool true])∧Rd3 t∧hU w' v (o5 t))∨(∃v,e=.returned (.tuple #[v,.bool false])∧¬Rd3 t∧gy w' [v] []))∧Below w.heap.size w w'
theorem yal(w:World)(g:Nat):gy w [.slice (some ⟨g,0,none⟩) 0 0] []:=⟨_,0,rfl,bj _,bj _,fun i x hi=>by simp at hi⟩
theorem ydb{a:List ByteArray}(h:k<a.length):rJ (a.take (k+1))=rJ (a.take k)++[.string (spV a[k]).1,.string (spV a[k]).2]:=by
 rw[pP h,zs0];rfl
theorem zvm(t:ByteArray)(_:t.size≤70000)(w:World):Calls prog 158 #[.string t] w (Nv t w):=by
 have Fq:(⟨#[33]⟩:ByteArray).toList=[33]:=by rw[DL]
 obtain⟨aP,ck⟩:=Y w.heap.size;obtain⟨w0,bw⟩:=Y (w.alloc (.cells #[] 51));have X:Below w.heap.size w w0:=LH;by_cases h0:t=⟨#[33]⟩
 ·have bq:(t.toList==[33])=true:=arg;clear Fq;have aR:Nv t w (.returned (.tuple #[.slice (some ⟨aP,0,none⟩) 0 0,.bool true])) w0:=⟨.inl ⟨_,rfl,.inl h0,by unfold o5;rw[if_pos h0];exact yan (yal _ _)⟩,X⟩;obtain⟨aa,aB,br⟩:=aQ h0 X aR;clear h0 X aR;go_enter func158,ntmps158;go_upto_region 2 with (fail);refine mn ?_;clear bw ck;go_wp2_with fail;go_ret2
  exact br.o
 have bq:(t.toList==[33])=false:=arh;clear Fq;obtain⟨ps,av⟩:=Y (ex 44 t);have aU:=fun(W:World)=>NK t Z 44 Z W;rw[show UInt8.ofNat 44=(44:UInt8) from rfl,←av]at aU;have bs:∀p∈ps,p.size≤70000:=fun p z=>by have:=Nn (c:=44) (s:=t) (by rw[←av];exact z);omega
 have bt:1≤ps.length∧ps.length≤70001:=by have:=Jq 44 t.data.toList;rw[av,rG,←em.len]at *;omega
 have bu:¬Rd3 t→∀W,Below w0.heap.size w0 W→Nv t w (.returned (.tuple #[.slice (some ⟨aP,0,none⟩) 0 0,.bool false])) W:=fun h W bx=>⟨.inr ⟨_,rfl,h,yal _ _⟩,X.trans (bx.mono X.size)⟩;have bV:w.heap.size≤w0.heap.size:=X.size;revert X h0 av aU bs bt bu;refine eb ?_;intro aB aa Eg HC aai fG iQ;go_enter func158,ntmps158;go_upto_region 2 with (fail);refine mn ?_;clear bw ck;go_wp2_with fail;refine (HC.o w0).mono ?_;rintro e w1 ⟨v,rfl,dG,ai⟩;obtain⟨a,cap,rfl⟩:=bg dG;have bA:∀i (hi:i<ps.length),∃b off,a=some ⟨b,off,none⟩∧w1.cell? ⟨b,off+i,none⟩=some (.string ps[i]):=fun i hi=>by obtain⟨a',cap',aw,_,hg⟩:=lK (L_ dG (fun x hx=>by have:=aai.o x hx;unfold maxLen;omega));injection aw with h1 _ _;subst h1;obtain⟨b,off,e1,e2,_⟩:=hg i hi;exact⟨b,off,e1,e2⟩
 obtain⟨n,aC⟩:=Y ps.length;rw[←aC]at dG⊢;have bW:1≤n∧n≤70001:=by rw[aC];exact fG.o
 have bB:(w1.alloc (.cells #[] 51)).ownsRow w1.heap.size 51 2 (.slice (some ⟨w1.heap.size,0,none⟩) 0 0) 0 (rJ (ps.take 0)):=NM (aE _);have bC:=ai.alloc ai.size (.cells #[] 51);revert ai bA dG aC bB bC;refine bX ?_;intro aV bD _ Hn bE _;go_wp2_with fail;go_loopw [6,21] (fun v i wr=>∃k:Nat,k≤n∧i=.int .i64 k∧wr.ownsRow w1.heap.size 51 2 v k (rJ (ps.take k))∧(∀p∈ps.take k,n0 p.data.toList=true)∧Below w1.heap.size w1 wr) (fun _ i _=>n-(RowKit.intOf i).toNat)
 case atStart=>exact⟨0,bj _,rfl,bE.o,(fun p z=>by simp at z),aS _ _⟩
 case round=>
  obtain⟨k,aX,rfl,u,dz,A⟩:=hrel;have K:=aV.o.trans (A.mono aV.o.size);obtain⟨ra,rc,rfl⟩:=bg u;by_cases bY:k<n
  ·have aD:k<ps.length:=gl;obtain⟨p,z⟩:=Y (ps[k]);obtain⟨b,off,rfl,c0⟩:=bD.o k aD;have d0:=ab A c0;rw[←z]at d0;have ae:p∈ps:=by rw[z];exact eZ _
   have ax:=aai.o p ae;have af:=zyc p Z wr;unfold zlv at af;have ag:=rfOk_is p;have ah:=ydb aD;rw[←z]at ah;obtain⟨r,R⟩:=Y (n0 p.data.toList);rw[ag.1,←R]at af;refine s_ ?_;intro k5 k6;clear c0
   cases r with
   |false=>
    have L:¬Rd3 t:=by
     rintro (h|h)
     ·exact aa.o h
     have:=h.1 p (by rw[←Eg.o];exact ae);rw[←R]at this;cases this
    obtain⟨aq,ay,B,aj,bF,bG,bH,aF,bI,aY,bJ,ad⟩:=Bx u dz K A z ae ax af ag ah R L;clear u dz K A z ae ax af ag ah R L;go_wp2_with fail;refine aF.o.mono ?_;rintro e w5 ⟨x,y,rfl,_,aW⟩;have C:=B.o.trans (aW.mono B.o.size);have S:=C.alloc C.size (.cells #[.string x,.string y] 51);obtain⟨ar,U,yC⟩:=aQ aW C S;clear aW C S;go_wp2_with fail;go_ret2
    exact iQ.o ad.o _ yC.o
   |true=>
    have a1:∀q∈ps.take (k+1),n0 q.data.toList=true:=fun q F=>by
     rw[pP aD]at F;rcases ff.1 F with F|F
     ·exact dz q F
     rw[gd.1 F,←z];exact R.symm
    have a6:=ag.2 R.symm;obtain⟨N,aG⟩:=Y (rJ (ps.take k));rw[←aG]at u ah;obtain⟨aq,ay,B,aj,bF,bG,bH,aF,bI,aY,bJ,YF,azo,HN⟩:=O3 u dz K A z ae ax af ag ah R a1 a6 aG;clear u dz K A z ae ax af ag ah R a1 a6 aG;go_wp2_with fail;refine aF.o.mono ?_;rintro e w5 ⟨x,y,rfl,az,aW⟩;have az:=(az trivial).trans azo.o;have a7:=aY.o;rw[←az]at a7;have aH:=aj.o.trans (aW.mono aj.o.size);have a8:=fh (fh aq.o aW) (aS w5 (.cells #[.string x,.string y] 51));have aI:=aH.alloc aH.size (.cells #[.string x,.string y] 51);obtain⟨z0,z1,z2,z3⟩:=cP (dq w5 (.cells #[.string x,.string y] 51));obtain⟨w6,cL⟩:=Y (w5.alloc (.cells #[.string x,.string y] 51));rw[←cL]at a8 aI z0 z1 z2 z3;have bZ:=aI.size;revert aW az a7 aH aI a8;refine bX ?_;intro ar VB UG aEg P4 tK;go_upto_region 10 with (fail);rw[←cL];clear cL;go_wp2_with (at_builtin;(refine kZ ui rfl (.tmp 35) (.tmp 37) rfl w1.heap.size (.slice ra k rc) k N rfl tK.o 1 #[.string x,.string y] rfl rfl dW Z cY Z ?_;intro v9 w9 aZ aT cg;obtain⟨a9,c9,rfl⟩:=bg aZ;have ba:=(iX P4.o tK.o (aE _) aT Z:Below w1.heap.size w1 w9);obtain⟨dY,d_⟩:=ak aZ ba;clear aZ aT cg ba));go_roundw
    case rel=>exact⟨k+1,Z,cj,by rw[UG.o];exact dY.o,YF.o,d_.o⟩
    case measure=>(simp[RowKit.intOf])<;>omega
  obtain rfl:k=n:=Z;rw[lH (jg Hn.o.symm)]at u dz;by_cases b0:40<k
  ·have bK:decide ((40:Int)<(k:Int))=true:=aO Z
   have L:¬Rd3 t:=by
    rintro (h|⟨_,h⟩)
    ·exact aa.o h
    obtain⟨l,al⟩:=FJ t Oa;have:=((zq4 aa.o Oa).1 (h l al)).1;rw[←Eg.o,←Hn.o]at this;omega
   revert dz A K u L;refine bU ?_;intro ay aj B aq ad;go_wp2_with fail;go_ret2
   exact iQ.o ad.o _ B.o
  have bK:decide ((40:Int)<(k:Int))=false:=be Z;obtain⟨l,al⟩:=FJ t Oa;have bb:tB l=ps.map spV:=by rw[al,Eg.o];rfl
  have bc:(tB l).length=k:=by rw[bb,gi];exact Hn.o.symm
  rw[zpv,←bb]at u;have au:gy wr [.slice ra k rc] (tB l):=Dm (fun x hx=>arj) (by rw[bc];exact u);have aA:=NF u;have hF:=zpz au (by rw[gi]at bc;omega);unfold zjo at hF;obtain⟨f,hf⟩:=Y (gN l);obtain⟨q,F⟩:=Y ((fJ l).length);rw[←hf,←F]at hF;have bd:=zq4 (l:=l) aa.o Oa
  have aJ:Rd3 t↔(f=true∧vF (fJ l)=t):=by
   rw[hf];constructor
   ·rintro (h|⟨_,h⟩)
    ·exact absurd h aa.o
    have:=bd.1 (h l al);exact this.2
   intro h;refine .inr ⟨Oa,fun l' hl'=>?_⟩
   have:l'=l:=by
    have e:tB l'=tB l:=by rw[hl',al]
    exact (XQ fun _ _ e=>Subtype.ext e).1 e
   rw[this];exact bd.2 ⟨by rw[←Eg.o,←Hn.o];omega,h⟩
  have aw:o5 t=tB l:=by unfold o5;rw[if_neg aa.o,al]
  cases f with
  |false=>
   have L:¬Rd3 t:=fun h=>by have:=(aJ.1 h).1;cases this
   obtain⟨aq,ay,B,aj,ad,aK,bf,bh,bk⟩:=K7 u dz K A L hF au hf aA;clear u dz K A L hF au hf aA;go_wp2_with fail;refine aK.o.mono ?_;rintro e w5 ⟨o,rfl,_,aW⟩;have C:=B.o.trans (aW.mono B.o.size);obtain⟨ar,U⟩:=ak aW C;clear aW C;go_wp2_with fail;go_ret2
   exact iQ.o ad.o _ U.o
  |true=>
   obtain⟨aq,ay,B,aj,aK,bf,bh,bl,bL,bM,bk⟩:=O2 u dz K A hF au hf aJ aw F aA;clear u dz K A hF au hf aJ aw F aA;go_wp2_with fail;refine aK.o.mono ?_;rintro e w5 ⟨o,rfl,an,aW⟩;have an:=an trivial;have C:=B.o.trans (aW.mono B.o.size);have aL:gy w5 [o] (fJ l):=Dm (fun x hx=>ark) (by rw[←bM.o];exact an);have bm:gN l=true:=bh.o.symm;have aM:=znu aL (Nd l) (No.2 (zov (JL.1 bm).1).1.1) (by have:=(JL.1 bm).2;omega);obtain⟨oa,oc,rfl⟩:=bg an;obtain⟨T,Av⟩:=Y (vF (fJ l));rw[←Av]at aM;have bn:=bz jm _ _ _ _ bf.o aW;by_cases ao:T=t
   ·have bN:(T.toList==t.toList)=true:=by rw[em.gu,aO ao]
    have bO:Rd3 t:=bl.o.2 ⟨sU,by rw[←Av];exact ao⟩;revert aW C an aL aM Av bn ao bO;refine fK ?_;intro ar U bP bQ aN bR bo bS bT;go_wp2_with fail;refine aN.o.mono ?_;rintro e w6 ⟨rfl,cX⟩;have S:=U.o.trans (cX.mono U.o.size);have bp:=bz jm _ _ _ _ bo.o cX;obtain⟨je,yC,YI⟩:=aQ cX S bp;clear cX S bp;go_wp2_with fail;go_ret2
    exact⟨.inl ⟨_,rfl,bT.o,by rw[bL.o];exact⟨YI.o,fun _ k aX=>by obtain⟨cs,fr,h⟩:=bk.o k aX;exact⟨cs,fr,G je.o (G ar.o h)⟩⟩⟩,aB.o.trans (yC.o.mono aB.o.size)⟩
   have bN:(T.toList==t.toList)=false:=by rw[em.gu,be ao]
   have L:¬Rd3 t:=fun h=>ao (by rw[Av];exact (bl.o.1 h).2);revert aW C an aL aM Av bn ao L;refine fK ?_;intro ar U bP bQ aN bR bo bS ad;go_wp2_with fail;refine aN.o.mono ?_;rintro e w6 ⟨rfl,cX⟩;have S:=U.o.trans (cX.mono U.o.size);obtain⟨je,yC⟩:=ak cX S;clear cX S;go_wp2_with fail;go_ret2
   exact iQ.o ad.o _ yC.o
end
namespace cy
def pB(n:Nat):Bool:=decide (97≤n)&&decide (n≤122)
def rr(n:Nat):Bool:=decide (48≤n)&&decide (n≤57)
def okN(n:Nat):Bool:=pB n || rr n || decide (n=45)
abbrev Bs:=List UInt8
def okB(c:UInt8):Bool:=okN c.toNat
def W7(c:UInt8):Bool:=rr c.toNat
def zk(l:Bs):Nat:=(l.headD 0).toNat
def fW(l:Bs):Bool:=l.all okB&&(decide (0<l.length)&&(decide (l.length≤24)&&pB (zk l)))
def Du(l:Bs):Bool:=l.all W7&&decide (0<l.length)
def pM(l:Bs):Bool:=fW l || (Du l&&decide (l.length≤3))
theorem all_succ{p:UInt8→Bool}{l:Bs}(h:k<l.length)(h1:(l.take k).all p=true)(a:p l[k]=true):(l.take (k+1)).all p=true:=by
 rw[pP h,CX,h1];simp[a]
theorem all_no{p:UInt8→Bool}{l:Bs}(h:k<l.length)(a:p l[k]=false):l.all p=false:=by
 rw[qw];intro b;have:=qy.1 b _ (eZ h);rw[a]at this;cases this
theorem name_no{l:Bs}(h:l.all okB=false):fW l=false:=by unfold fW;rw[h];rfl
theorem name_all{l:Bs}(h:l.all okB=true):fW l=(decide (0<l.length)&&(decide (l.length≤24)&&pB (zk l))):=by unfold fW;rw[h];rfl
theorem IR{l:Bs}(h:fW l=true):0<l.length∧l.length≤24:=by
 unfold fW at h;simp only[fI,fE]at h;exact⟨h.2.1,h.2.2.1⟩
theorem okN_let(h:pB n=true):okN n=true:=by unfold okN;rw[h];rfl
theorem okN_dig(h:rr n=true):okN n=true:=by unfold okN;rw[h];simp
theorem okN_no(h1:pB n=false)(a:rr n=false)(b:n≠45):okN n=false:=by unfold okN;rw[h1,a];simp[b]
theorem name_head{l:Bs}(h:pB (zk l)=false):fW l=false:=by unfold fW;rw[h];simp
end cy
section
open RowKit
open cy (pB rr okN okB W7 fW pM Du zk)
theorem dl(s:ByteArray):s.data.toList.length=s.size:=by rw[ou];rfl
theorem zs8(n:Nat)(h:n<256)(w:World):Calls prog 84 #[.int .u8 (n:Int)] w fun e w'=>e=.returned (.bool (pB n))∧w=w':=by
 obtain⟨r,hr⟩:=Y (pB n);rw[←hr];rcases rB n 97 with h1|h1
 ·have hf:r=false:=by rw[hr];unfold pB;rw[decide_eq_false Z];rfl
  exact Wq
 rcases rB 122 n with c|c
 ·have hf:r=false:=by rw[hr];unfold pB;rw[decide_eq_false (p:=n≤122) Z];simp
  have d:decide ((n:Int)≤122)=false:=aX;exact Wq
 have hf:r=true:=by rw[hr];unfold pB;rw[decide_eq_true h1,decide_eq_true c];rfl
 have d:decide ((n:Int)≤122)=true:=aX;exact Wq
theorem zws(n:Nat)(h:n<256)(w:World):Calls prog 85 #[.int .u8 (n:Int)] w fun e w'=>e=.returned (.bool (rr n))∧w=w':=by
 obtain⟨r,hr⟩:=Y (rr n);rw[←hr];rcases rB n 48 with h1|h1
 ·have hf:r=false:=by rw[hr];unfold rr;rw[decide_eq_false Z];rfl
  exact Wr
 rcases rB 57 n with c|c
 ·have hf:r=false:=by rw[hr];unfold rr;rw[decide_eq_false (p:=n≤57) Z];simp
  have d:decide ((n:Int)≤57)=false:=aX;exact Wr
 have hf:r=true:=by rw[hr];unfold rr;rw[decide_eq_true h1,decide_eq_true c];rfl
 have d:decide ((n:Int)≤57)=true:=aX;exact Wr
theorem head_is(s:ByteArray)(h:0<s.size):zk s.data.toList=s[0].toNat:=by
 unfold zk;have e:s.data.toList=s[0]::s.data.toList.drop 1:=by have:=rK (l:=s.data.toList) (i:=0) (by rw[dl];exact h);rw[Sr]at this;exact this
 rw[e];rfl
theorem zor(s:ByteArray)(_:s.size≤9223372036854775807)(w:World):Calls prog 47 #[.string s] w fun e w'=>e=.returned (.bool (fW s.data.toList))∧w=w':=by
 refine OF ?_;intro l hl dH;obtain⟨r,hr⟩:=Y (fW l);rw[←hl,←hr];have A:=head_is s;rw[←hl]at A;revert hl dH hr A;refine bV ?_;intro Hl iH Hr Hh;go_enter Kc,ntmps47;go_wp2_with fail;go_loop [6] (fun i=>∃k:Nat,k≤s.size∧i=.int .i64 k∧(l.take k).all okB=true) (fun i=>s.size-(intOf i).toNat)
 case atStart=>exact⟨0,bj _,rfl,ae⟩
 case round=>
  obtain⟨k,_,rfl,eC⟩:=hrel;by_cases N:k<s.size
  ·refine Gs ?_;intro aI n hn sC;have A5:okB l[k]=okN n:=by have e:l[k]=s[k]:=Fs;unfold okB;rw[e,hn]
   have j:=fun W=>zs8 n sC W;have p:=fun W=>zws n sC W;have F:s[k].toNat=n:=hn.symm;have m:okN n=true→(l.take (k+1)).all okB=true:=fun h=>cy.all_succ aI eC MM;have q:okN n=false→r=false:=fun h=>by rw[Hr.o];exact cy.name_no (cy.all_no aI MM)
   clear hn A5;clear aI
   cases h1:pB n with
   |true=>
    have t:=m (cy.okN_let h1);rw[h1]at j;obtain⟨jd,HL,HD,v,y,qQ,z⟩:=oD eC j p m q t h1;clear eC j p m q t h1;go_wp2_with fail;refine (HL.o _).mono ?_;refine mT ?_;exact VG
   |false=>
    rw[h1]at j
    cases h2:rr n with
    |true=>have t:=m (cy.okN_dig h2);rw[h2]at p;obtain⟨jd,HL,HD,v,y,qQ,z,B⟩:=awj eC j p m q t h1 h2;clear eC j p m q t h1 h2;exact aoy
    |false=>
     rw[h2]at p;by_cases u:n=45
     ·have t:=m (by unfold okN;simp[u]);have K:((n:Int) !=45)=false:=by rw[u];rfl
      obtain⟨jd,HL,HD,v,y,qQ,z,B,L⟩:=K7 eC j p m q t h1 h2 u;clear eC j p m q t h1 h2 u;exact aoy
     have hf:=q (cy.okN_no h1 h2 u);have K:((n:Int) !=45)=true:=N_;obtain⟨jd,HL,HD,v,y,Hf,z,B,L⟩:=K7 eC j p m q hf h1 h2 u;clear eC j p m q hf h1 h2 u;go_wp2_with fail;refine (HL.o _).mono ?_;refine mT ?_;exact WL
  obtain rfl:k=s.size:=Z;have xK:l.all okB=true:=F3;have fw:r=(decide (0<s.size)&&(decide (s.size≤24)&&pB (zk l))):=by rw[Hr.o,cy.name_all xK,iH.o]
  by_cases h0:0<s.size
  ·by_cases C:s.size≤24
   ·have hf:r=pB (zk l):=by rw[fw,aO h0,aO C];rfl
    rw[Hh.o h0]at hf;obtain⟨n,hn⟩:=Y (s[0].toNat);have sC:n<256:=Yh;have j:=fun W=>zs8 n sC W;rw[←hn]at hf;rw[←hf]at j;have F:s[0].toNat=n:=hn.symm;have R:(0:Int)<(s.size:Int):=Z;have k2:(s.size:Int)≤24:=Z;have k3:decide ((s.size:Int)≤24)=true:=Ob;clear hn;revert eC xK fw hf j;refine bU ?_;intro jd TP yd Hf HL;go_wp2_with fail;refine (HL.o _).mono ?_;refine mT ?_;exact DO
   have hf:r=false:=by rw[fw,be C];simp
   have k2:(24:Int)<(s.size:Int):=Z;have k3:decide ((s.size:Int)≤24)=false:=Ob;exact Kx
  exact akc
theorem zut(s:ByteArray)(q:s.size≤9223372036854775807)(w:World):Calls prog 88 #[.string s] w fun e w'=>e=.returned (.bool (pM s.data.toList))∧w=w':=by
 have j:=fun W=>zor s q W;refine OF ?_;intro l hl dH;obtain⟨r,hr⟩:=Y (pM l);rw[←hl]at j;rw[←hl,←hr]
 cases hq:fW l with
 |true=>
  rw[hq]at j;have hf:r=true:=by rw[hr];unfold pM;rw[hq];rfl
  revert j hl dH hr hq hf;refine bX ?_;intro HN Hl iH t u Hf;go_enter func88,ntmps88;exact aoz
 |false=>
  rw[hq]at j;have v:r=(l.all W7&&decide (0<l.length)&&decide (l.length≤3)):=by rw[hr];unfold pM Du;rw[hq];rfl
  revert j hl dH hr hq v;refine bX ?_;intro HN Hl iH t u Hv;go_enter func88,ntmps88;go_wp2_with fail;refine (HN.o _).mono ?_;refine mT ?_;go_wp2_with fail;go_loop [8] (fun i=>∃k:Nat,k≤s.size∧i=.int .i64 k∧(l.take k).all W7=true) (fun i=>s.size-(intOf i).toNat)
  case atStart=>exact⟨0,bj _,rfl,ae⟩
  case round=>
   obtain⟨k,_,rfl,eC⟩:=hrel;by_cases B:k<s.size
   ·refine Gs ?_;intro aI n hn sC;have A5:W7 l[k]=rr n:=by have e:l[k]=s[k]:=Fs;unfold W7;rw[e,hn]
    have g:=fun W=>zws n sC W;refine aom ?_;intro fj fF aj;clear hn A5;clear aI
    cases h2:rr n with
    |true=>have m:=fF h2;rw[h2]at g;obtain⟨jd,HD,y,z,qQ,A⟩:=By eC g fF aj m h2;clear eC g fF aj m h2;exact ajz
    |false=>have hf:=aj h2;rw[h2]at g;obtain⟨jd,HD,y,z,Hf,A⟩:=By eC g fF aj hf h2;clear eC g fF aj hf h2;exact WL
   obtain rfl:k=s.size:=Z;have xK:l.all W7=true:=F3;have fw:r=(decide (0<s.size)&&decide (s.size≤3)):=by rw[Hv.o,xK,iH.o];rfl
   by_cases h0:0<s.size
   ·by_cases p:s.size≤3
    ·have hf:r=true:=by rw[fw,aO h0,aO p];rfl
     have C:(0:Int)<(s.size:Int):=Z;have k2:(s.size:Int)≤3:=Z;have k3:decide ((s.size:Int)≤3)=true:=Ob;exact Kx
    have hf:r=false:=by rw[fw,be p];simp
    have k2:(3:Int)<(s.size:Int):=Z;have k3:decide ((s.size:Int)≤3)=false:=Ob;exact Kx
   exact akc
theorem zf(s:ByteArray):s.toList=[]↔s.size=0:=by
 rw[DL,←dl];exact List.length_eq_zero_iff.symm
theorem yey(s:ByteArray)(_:s.size≤9223372036854775807)(w:World):Calls prog 136 #[.string s] w fun e w'=>e=.returned (.bool (Du s.data.toList))∧w=w':=by
 refine OF ?_;intro l hl dH;obtain⟨r,hr⟩:=Y (Du l);rw[←hl,←hr];have q:r=(l.all W7&&decide (0<l.length)):=hr;revert hl dH hr q;refine bV ?_;intro Hl iH Hr Hv;go_enter func136,ntmps136;go_wp2_with fail;go_loop [3] (fun i=>∃k:Nat,k≤s.size∧i=.int .i64 k∧(l.take k).all W7=true) (fun i=>s.size-(intOf i).toNat)
 case atStart=>exact⟨0,bj _,rfl,ae⟩
 case round=>
  obtain⟨k,_,rfl,eC⟩:=hrel;by_cases t:k<s.size
  ·refine Gs ?_;intro aI n hn sC;have A5:W7 l[k]=rr n:=by have e:l[k]=s[k]:=Fs;unfold W7;rw[e,hn]
   refine aom ?_;intro fj fF aj;clear hn A5;clear aI;rcases rB n 48 with h1|h1
   ·have hf:=aj (by unfold rr;rw[decide_eq_false Z];rfl);have f:decide ((n:Int)<48)=true:=aO Z;exact Gp
   rcases rB 57 n with g|g
   ·have hf:=aj (by unfold rr;rw[decide_eq_false (p:=n≤57) Z];simp);have f:decide ((n:Int)<48)=false:=be Z;have j:decide (57<(n:Int))=true:=aO Z;exact Gp
   have uw:=fF (by unfold rr;rw[decide_eq_true h1,decide_eq_true g];rfl);have f:decide ((n:Int)<48)=false:=be Z;have j:decide (57<(n:Int))=false:=be Z;exact RF
  obtain rfl:k=s.size:=Z;have xK:l.all W7=true:=F3;have fw:r=decide (0<s.size):=by rw[Hv.o,xK,iH.o];rfl
  by_cases h0:0<s.size
  ·have hf:r=true:=by rw[fw,aO h0]
   have f:s.toList.isEmpty=false:=arl;have j:(!s.toList.isEmpty)=true:=by rw[f];rfl
   have m:¬s.toList=[]:=SJ;exact Kx
  have hf:r=false:=by rw[fw,be h0]
  have m:s.toList=[]:=SJ;have f:s.toList.isEmpty=true:=by rw[m];rfl
  exact Kx
theorem CG(s:ByteArray)(_:s.size≤9223372036854775807)(w:World):Calls prog 76 #[.string s] w fun e w'=>e=.returned (.bool (fW s.data.toList))∧w=w':=by
 refine OF ?_;intro l hl dH;obtain⟨r,hr⟩:=Y (fW l);have hh:=head_is s;rw[←hl]at hh;have fT:∀(P:Prop),(fW l=true→P)→(¬P)→r=false:=fun P h hp=>by rw[hr,qw];exact fun j=>hp (h j)
 rw[←hl,←hr];by_cases h0:0<s.size
 ·have q:¬s.toList=[]:=SJ;have F:s.toList.isEmpty=false:=arl;by_cases t:s.size≤24
  ·obtain⟨n,hn⟩:=Y (s[0].toNat);have sC:n<256:=Yh;have u:s[0].toNat=n:=hn.symm;have Qh:zk l=n:=by rw[hh h0,u]
   have v:decide (24<(s.size:Int))=false:=be Z;have Qg:pB n=false→r=false:=fun h=>by rw[hr];exact cy.name_head (by rw[Qh];exact h)
   clear hn;rcases rB n 97 with h1|h1
   ·have hf:=Qg (by unfold pB;rw[decide_eq_false Z];rfl);have y:decide ((n:Int)<97)=true:=aO Z;exact ajn
   have y:decide ((n:Int)<97)=false:=be Z;rcases rB 122 n with j|j
   ·have hf:=Qg (by unfold pB;rw[decide_eq_false (p:=n≤122) Z];simp);have z:decide (122<(n:Int))=true:=aO Z;exact ajn
   have z:decide (122<(n:Int))=false:=be Z;have A:pB n=true:=by unfold pB;rw[decide_eq_true h1,decide_eq_true j];rfl
   have K:r=l.all okB:=by rw[hr];unfold fW;rw[Qh,A,dH,aO h0,aO t];simp
   revert hl dH hr hh fT Qh Qg A K;refine fK ?_;intro Hl iH Hr Hh im axs azv _ B;go_enter func76,ntmps76;go_wp2_with fail;clear v y z u h1 j sC;go_loop [3] (fun i=>∃k:Nat,k≤s.size∧i=.int .i64 k∧(l.take k).all okB=true) (fun i=>s.size-(intOf i).toNat)
   case atStart=>exact⟨0,bj _,rfl,ae⟩
   case round=>
    obtain⟨k,_,rfl,eC⟩:=hrel;by_cases N:k<s.size
    ·refine Gs ?_;intro aI n hn sC;have A5:okB l[k]=okN n:=by have e:l[k]=s[k]:=Fs;unfold okB;rw[e,hn]
     have R:s[k].toNat=n:=hn.symm;have fF:okN n=true→(l.take (k+1)).all okB=true:=fun h=>cy.all_succ aI eC MM;have aj:okN n=false→r=false:=fun h=>by rw[B.o];exact cy.all_no aI MM
     clear hn A5;clear aI;have L:(97≤n∧n≤122)∨(48≤n∧n≤57)∨n=45∨(n<45)∨(45<n∧n<48)∨(57<n∧n<97)∨122<n:=Z;rcases L with⟨c1,c2⟩|⟨c1,c2⟩|rfl|c1|⟨c1,c2⟩|⟨c1,c2⟩|c1
     ·have uw:=fF (cy.okN_let (by unfold pB;rw[decide_eq_true c1,decide_eq_true c2];rfl));have m:decide (97≤(n:Int))=true:=aO Z;have m2:decide ((n:Int)≤122)=true:=aO Z;exact RF
     ·have uw:=fF (cy.okN_dig (by unfold rr;rw[decide_eq_true c1,decide_eq_true c2];rfl));have m:decide (97≤(n:Int))=false:=be Z;have m3:decide (48≤(n:Int))=true:=aO Z;have m4:decide ((n:Int)≤57)=true:=aO Z;exact RF
     ·have uw:=fF rfl;exact RF
     all_goals
      have hf:=aj (cy.okN_no (by unfold pB;first|(rw[decide_eq_false (p:=97≤n) Z];rfl)|(rw[decide_eq_false (p:=n≤122) Z];simp)) (by unfold rr;first|(rw[decide_eq_false (p:=48≤n) Z];rfl)|(rw[decide_eq_false (p:=n≤57) Z];simp)) Z);have m5:((n:Int)==45)=false:=l9
      first
       |(have m:decide (97≤(n:Int))=false:=be Z)
       |(have m:decide (97≤(n:Int))=true:=aO Z)
      first
       |(have m2:decide ((n:Int)≤122)=true:=aO Z)
       |(have m2:decide ((n:Int)≤122)=false:=be Z)
      first
       |(have m3:decide (48≤(n:Int))=true:=aO Z)
       |(have m3:decide (48≤(n:Int))=false:=be Z)
      first
       |(have m4:decide ((n:Int)≤57)=true:=aO Z)
       |(have m4:decide ((n:Int)≤57)=false:=be Z)
      exact Gp
    obtain rfl:k=s.size:=Z;have C:l.all okB=true:=F3;have hf:r=true:=by rw[B.o,C]
    revert eC C hf;refine fo ?_;intro jd _ Hf;exact zK
  have hf:=fT (s.size≤24) (fun h=>by have:=(cy.IR h).2;omega) t;have k2:(24:Int)<(s.size:Int):=Z;have v:decide (24<(s.size:Int))=true:=Ob;exact akn
 have hf:=fT (0<s.size) (fun h=>by have:=(cy.IR h).1;omega) h0;have q:s.toList=[]:=SJ;have F:s.toList.isEmpty=true:=by rw[q];rfl
 exact akn
theorem acu(s:ByteArray)(q:s.size≤9223372036854775807)(w:World):Calls prog 108 #[.string s] w fun e w'=>e=.returned (.bool (pM s.data.toList))∧w=w':=by
 have j:=fun W=>CG s q W;have m:=fun W=>yey s q W;refine OF ?_;intro l hl dH;obtain⟨r,hr⟩:=Y (pM l);rw[←hl]at j m;rw[←hl,←hr]
 cases hq:fW l with
 |true=>
  rw[hq]at j;have n:r=true:=by rw[hr];unfold pM;rw[hq];rfl
  obtain⟨t,u,v,HN,HD,Hf,y⟩:=oD hl dH hr j m n hq;clear hl dH hr j m n hq;go_enter func108,ntmps108;exact aoz
 |false=>
  rw[hq]at j;have p:r=(Du l&&decide (s.size≤3)):=by rw[hr];unfold pM;rw[hq,dH];rfl
  cases O:Du l with
  |false=>
   have n:r=false:=by rw[p,O];rfl
   rw[O]at m;revert m j hl dH hr hq p O n;refine fK ?_;intro HD HN t u v y z A Hf;go_enter func108,ntmps108;go_wp2_with fail;refine (HN.o _).mono ?_;refine mT ?_;exact WL
  |true=>
   rw[O]at m;have n:r=decide (s.size≤3):=by rw[p,O];rfl
   revert m j hl dH hr hq p O n;refine fK ?_;intro HD HN t u v y z A Hf;go_enter func108,ntmps108;go_wp2_with fail;refine (HN.o _).mono ?_;refine mT ?_;go_wp2_with fail;refine (HD.o _).mono ?_;refine mT ?_;go_wp2_with fail;go_ret;exact⟨mu (by rw[Hf.o,rz];omega),rfl⟩
end
section
open RowKit Shelf cy
attribute [local go_sem ↓] wp_at_zero wp_at_succ
theorem aad{P:Program}{f:FuncId} 
  (h:Calls P f args (w.drewN n) fun e w'=>e=.returned v∧∃q,w'=(w.drewN n).drewN q):Calls P f args (w.drewN n) fun e w''=>e=.returned v∧∃m,w''=w.drewN m :=
 h.mono fun _ _ ⟨a,q,b⟩=>⟨a,n+q,by rw[b,OV]⟩
theorem aac{P:Program}{f:FuncId}{a:Nat} 
  (h:Calls P f args (w.drewN (a+n)) fun e w'=>e=.returned v∧∃m,w'=(w.drewN (a+n)).drewN m) :
  Calls P f args (w.drewN (a+n)) fun e b=>e=.returned v∧∃m,b=w.drewN (a+m) :=
 h.mono fun _ _ ⟨c,m,d⟩=>⟨c,n+m,by rw[d,OV,rn]⟩
def uV(l:List el)(i:Nat):Bool:=match l[i]? with
 |none=>true
 |some x=>fW x.1.data.toList&&pM x.2.data.toList&&(decide (i=0) || Op.bytesLess (l.getD (i-1) (⟨#[]⟩,⟨#[]⟩)).1.toList x.1.toList)
def nz(l:List el):Bool:=(List.range l.length).all (uV l)
theorem zur{l:List el}(h:i<l.length):uV l i=(fW l[i].1.data.toList&&pM l[i].2.data.toList&&(decide (i=0) || Op.bytesLess (l.getD (i-1) (⟨#[]⟩,⟨#[]⟩)).1.toList l[i].1.toList)):=by
 unfold uV;rw[bR h]
theorem zup{l:List el}(h:i<l.length)(hi:uV l i=false):nz l=false:=by
 unfold nz;rw[List.all_eq_false];exact⟨i,List.mem_range.2 h,(by rw[hi];simp)⟩
theorem zro{l:List el}(h:∀i,i<l.length→uV l i=true):nz l=true:=by
 unfold nz;rw[qy];exact fun i hi=>h i (List.mem_range.1 hi)
theorem ycv{l:List el}(h:fm w [v] l):Calls prog 159 #[v] w fun e w'=>e=.returned (.bool (nz l))∧∃q,w'=w.drewN q:=by
 obtain⟨a,cap,rfl,B,g⟩:=sD h;obtain⟨n,hn⟩:=Y l.length;obtain⟨r,hr⟩:=Y (nz l);rw[←hr];rw[←hn]at B h⊢;obtain⟨Hh,Hg,Hn,Hr⟩:=kg h g hn hr;clear h g hn hr;go_enter func159,ntmps159;go_wp2_with fail;go_loopw [6] (fun i wr=>∃k:Nat,k≤n∧i=.int .i64 k∧(∀j,j<k→uV l j=true)∧∃q,wr=w.drewN q) (fun i _=>n-(intOf i).toNat)
 case atStart=>exact⟨0,bj _,rfl,fun _ h=>Z,0,rfl⟩
 case round=>
  obtain⟨k,_,rfl,aj,q,rfl⟩:=hrel;by_cases C:k<n
  ·revert a Hh Hg;refine aiw ?_;intro aI b off Hh Hg cq bQ x hx s eV d0 hs t cW gH d1 ht;have y:=fun(W:World)=>(CG s eV W).mono (fun e w' (⟨he,hw⟩:_∧W=w')=>(⟨he,0,hw.symm⟩:e=_∧∃m,w'=W.drewN m));have A:=fun(W:World)=>(acu t gH W).mono (fun e w' (⟨he,hw⟩:_∧W=w')=>(⟨he,0,hw.symm⟩:e=_∧∃m,w'=W.drewN m));obtain⟨p1,eA⟩:=Y (fW s.data.toList);obtain⟨p2,oI⟩:=Y (pM t.data.toList);rw[←eA]at y cW;rw[←oI]at A cW;refine s_ ?_;intro k5 k6;clear hx aI hs ht;revert aj cq bQ y eA cW A oI;refine fg ?_;intro cd dV dI HN fG MO HV q9
   cases p1 with
   |false=>exact agk
   |true=>
    cases p2 with
    |false=>exact agk
    |true=>
     by_cases h0:0<k
     ·obtain⟨k',rfl⟩:∃k',k=k'+1:=⟨k-1,Z⟩;have R9:k'<l.length:=gl;obtain⟨b2,nY,e2,f0,f1,oE,hs4⟩:=Hg.o k' _ (bR R9);injection e2 with e2;injection e2 with e3 e4;subst e3 e4;obtain⟨z,wh⟩:=Y (l[k'].1);rw[←wh]at f0 oE;have p:uV l (k'+1)=Op.bytesLess z.toList s.toList:=arn;obtain⟨Rb,AO⟩:=ak wh p;clear wh p;clear f1 hs4;refine aim ?_;intro k7 k8 Zn k9 Zm;go_wp2_with fail;refine Xf ?_;intro nq;obtain⟨bl,pZ⟩:=Y (Op.bytesLess z.toList s.toList);have p:=AO.o;rw[←pZ]at p⊢;obtain⟨vZ,AO⟩:=ak pZ p;clear pZ p
      cases bl with
      |true=>
       have u:=dV.o AO.o;have Hq:=O u;clear u;go_wp2_with fail;go_roundw
       case rel=>exact⟨k'+1+1,Z,cj,Hq.o,_,rfl⟩
       case measure=>simp[intOf];omega
      |false=>
       have hf:r=false:=by rw[Hr.o];exact dI.o AO.o
       have Hf:=O hf;clear hf;go_wp2_with fail;go_ret;exact⟨mu Hf.o.symm,_,(by rw[OV])⟩
     have k7:decide ((0:Int)<(k:Int))=false:=by rw[pQ];omega
     have u:=dV.o (by rw[MO.o,show k=0 from Z];rfl);have Hq:=O u;clear u;go_wp2_with fail;refine Xf ?_;intro nq;exact alj
  obtain rfl:n=k:=Z;have hf:r=true:=aro;obtain⟨cd,Hf⟩:=ak aj hf;clear aj hf;exact V9
theorem ycz{l:List el}(h:fm w [v] l):Calls prog 121 #[v] w fun e w'=>e=.returned (.bool (nz l))∧Below w.heap.size w w':=by
 obtain⟨a,cap,rfl,L,g⟩:=sD h;obtain⟨n,hn⟩:=Y l.length;obtain⟨r,hr⟩:=Y (nz l);rw[←hr];rw[←hn]at L h⊢;obtain⟨Hh,Hg,Hn,Hr⟩:=kg h g hn hr;clear h g hn hr;go_enter func121,ntmps121;go_wp2_with fail;go_loopw [7] (fun i wr=>∃k:Nat,k≤n∧i=.int .i64 k∧(∀j,j<k→uV l j=true)∧Below w.heap.size w wr) (fun i _=>n-(intOf i).toNat)
 case atStart=>exact⟨0,bj _,rfl,fun _ h=>Z,aL _ _⟩
 case round=>
  obtain⟨k,_,rfl,aj,p⟩:=hrel;by_cases T:k<n
  ·revert a Hh Hg;refine aiw ?_;intro aI b off Hh Hg cq bQ x hx s eV d0 hs t cW gH d1 ht;have C:=fun(W:World)=>(zor s eV W).mono (fun e w' (⟨he,hw⟩:_∧W=w')=>(⟨he,0,hw.symm⟩:e=_∧∃m,w'=W.drewN m));have F:=fun(W:World)=>(zut t gH W).mono (fun e w' (⟨he,hw⟩:_∧W=w')=>(⟨he,0,hw.symm⟩:e=_∧∃m,w'=W.drewN m));obtain⟨p1,eA⟩:=Y (fW s.data.toList);obtain⟨p2,oI⟩:=Y (pM t.data.toList);rw[←eA]at C cW;rw[←oI]at F cW;have N:=ab p d0;have R:=ab p d1;obtain⟨W1,aK⟩:=Y (wr.alloc (.cells #[.string s,.string t] 137));have K:Below wr.heap.size wr W1:=yF;have S:=p.trans (K.mono p.size);obtain⟨ml,hD⟩:=Y wr.heap.size;have y:W1.heap[ml]?=some (.cells #[.string s,.string t] 137 (0,0)):=by rw[aK,hD];exact dq _ _
   have f0:=J y 0;have f1:=J y 1;simp only[aq,ar,aw]at f0 f1;refine s_ ?_;intro k5 k6;clear hx hs ht;revert aj p cq bQ C eA cW F oI K S y;refine nL ?_;intro cd Hb dV dI HN fG MO HV q9 yY aB Hdb;go_upto_region 4 with (fail);rw[←aK,←hD];obtain⟨C0,HD⟩:=ak aK hD;clear aK hD;clear N R
   cases p1 with
   |false=>exact agt
   |true=>
    cases p2 with
    |false=>exact agt
    |true=>
     by_cases h0:0<k
     ·obtain⟨k',rfl⟩:∃k',k=k'+1:=⟨k-1,Z⟩;have R9:k'<l.length:=gl;obtain⟨b2,nY,e2,A,_,_,_⟩:=Hg.o k' _ (bR R9);injection e2 with e2;injection e2 with e3 e4;subst e3 e4;obtain⟨z,wh⟩:=Y (l[k'].1);rw[←wh]at A;have A:=ab aB.o A;have q:uV l (k'+1)=Op.bytesLess z.toList s.toList:=arn;obtain⟨Rb,AO⟩:=ak wh q;clear wh q;refine aim ?_;intro k7 k8 Zn k9 Zm;refine Xi ?_;intro nq;obtain⟨bl,pZ⟩:=Y (Op.bytesLess z.toList s.toList);have q:=AO.o;rw[←pZ]at q⊢;obtain⟨vZ,AO⟩:=ak pZ q;clear pZ q
      cases bl with
      |true=>
       have u:=dV.o AO.o;have B:=O u;clear u;go_wp2_with fail;go_roundw
       case rel=>exact⟨k'+1+1,Z,cj,B.o,dU aB.o _⟩
       case measure=>simp[intOf];omega
      |false=>
       have hf:r=false:=by rw[Hr.o];exact dI.o AO.o
       have Hf:=O hf;clear hf;exact aps
     have k7:decide ((0:Int)<(k:Int))=false:=by rw[pQ];omega
     have u:=dV.o (by rw[MO.o,show k=0 from Z];rfl);have B:=O u;clear u;refine Xi ?_;intro nq;go_wp2_with fail;go_roundw
     case rel=>exact⟨k+1,Z,cj,B.o,dU aB.o _⟩
     case measure=>simp[intOf];omega
  obtain rfl:n=k:=Z;have hf:r=true:=aro;obtain⟨cd,Hf,Hb⟩:=aQ aj hf p;clear aj hf p;go_wp2_with fail;go_ret;exact⟨mu Hf.o.symm,Hb.o⟩
end
namespace ac
abbrev Bs:=List UInt8
abbrev Wd:=Int×Bs
abbrev Ln:=Int×List Wd
structure St where
 line:Int
 mp:Int
 gc:Int
 off:Bool
 word:Bs
 words:List Wd
 out:List Ln
def ends(s:St):St:={ s with gc:=0,word:=[],words:=if 0<s.gc then s.words++[(s.gc,s.word)] else s.words }
def breaks(s:St):St :=
 { (ends s) with out:=if (ends s).words=[] then s.out else s.out++[(s.line,(ends s).words)],words:=[],off:=false,line:=s.line+1,mp:=0 }
def ey(s:St):Bool:=decide (s.words.length<40)&&(decide (0<s.words.length) || decide (s.out.length<2000))
def ay(s:St):St:={ s with mp:=s.mp+1 }
def takes(s:St)(c:UInt8):St×Int :=
 if c.toNat=10 then (breaks (ay s),0)
 else if c.toNat<32∨126<c.toNat then (ay s,3)
 else if s.off=true then (ay s,0)
 else if c.toNat=35 then ({ ends (ay s) with off:=true },0)
 else if c.toNat=32 then (ends (ay s),0)
 else if 0<s.gc then ({ ay s with word:=s.word++[c] },0)
 else if ey s=true then ({ ay s with gc:=s.mp+1,word:=s.word++[c] },0)
 else ({ ay s with gc:=s.mp+1 },4)
def run:St→Bs→St×Int
 |s,[]=> (s,0)
 |s,c::r=>if (takes s c).2=0 then run (takes s c).1 r else takes s c
def st0:St:=⟨1,0,0,false,[],[],[]⟩
structure Res where
 lines:List Ln
 at1:Int
 at2:Int
 e:Int
def close(r:St×Int):Res:=if r.2=0 then ⟨(breaks r.1).out,0,0,0⟩ else ⟨[],r.1.line,r.1.mp,r.2⟩
def lines(t:Bs):Res:=if 65536<t.length then ⟨[],0,0,4⟩ else close (run st0 t)
def part(c:UInt8):Bool:=decide (32<c.toNat)&&decide (c.toNat<127)&&!decide (c.toNat=35)
def wl(t:Bs)(i:Nat):Bs:=(t.drop i).takeWhile part
structure RS where
 off:Bool
 out:List Wd
def Nm(s:RS)(c:UInt8):Bool:=s.off || decide (c.toNat=35)
def ko(t:Bs)(s:RS)(i:Nat)(c:UInt8):Bool:=Nm s c || !part c || (decide (0<i)&&part (t.getD (i-1) 0))
def iu(t:Bs)(s:RS)(i:Nat)(c:UInt8):RS:=⟨Nm s c,if ko t s i c=true then s.out else s.out++[((i:Int)+1,wl t i)]⟩
def EQ(t:Bs)(room:Bool)(s:RS)(i:Nat)(c:UInt8):Int :=
 if c.toNat<32∨126<c.toNat then 3
 else if ko t s i c=true then 0
 else if s.out.length=40∨room=false then 4 else 0
def rgo(t:Bs)(room:Bool)(s:RS)(i:Nat):Bs→List Wd×Int×Int
 |[]=> (s.out,0,0)
 |c::r=>if EQ t room s i c=0 then rgo t room (iu t s i c) (i+1) r else (s.out,(i:Int)+1,EQ t room s i c)
def ms(t:Bs)(room:Bool):List Wd×Int×Int:=rgo t room ⟨false,[]⟩ 0 t
def tg(out:List Ln)(n:Int)(ws:List Wd):List Ln:=if ws=[] then out else out++[(n,ws)]
def m9(n:Int)(cur:Bs)(out:List Ln):Bs→Res
 |[]=> let r:=ms cur (decide (out.length<2000));if r.2.2=0 then ⟨tg out n r.1,0,0,0⟩ else ⟨[],n,r.2.1,r.2.2⟩
 |c::r=>
  if c.toNat=10 then
   let q:=ms cur (decide (out.length<2000))
   if q.2.2=0 then m9 (n+1) [] (tg out n q.1) r else ⟨[],n,q.2.1,q.2.2⟩
  else m9 n (cur++[c]) out r
def ej(t:Bs):Res:=if 65536<t.length then ⟨[],0,0,4⟩ else m9 1 [] [] t
theorem ny{s:St}{c:UInt8}{r:Bs}(h:(takes s c).2=0):run s (c::r)=run (takes s c).1 r:=by simp[run,h]
theorem ts{s:St}{c:UInt8}{r:Bs}(h:(takes s c).2≠0):run s (c::r)=takes s c:=by simp[run,h]
theorem o7(a b:Bs):∀s,run s (a++b)=if (run s a).2=0 then run (run s a).1 b else run s a:=by
 induction a with
 |nil=>intro s;simp[run]
 |cons c r d=>
  intro s;by_cases h:(takes s c).2=0
  ·rw[ru,ny h,d,ny h]
  rw[ru,ts h,ts h,E h]
theorem zuo{t:Bs}{c:UInt8}{r:Bs}(h:t.drop i=c::r)(a:part c=true):wl t i=c::r.takeWhile part:=by
 unfold wl;rw[h];simp[a]
structure Inv(t:Bs)(room:Bool)(p:St)(s:RS)(i:Nat):Prop where
 mp:p.mp=i
 off:p.off=s.off
 none:p.gc=0→p.word=[]∧s.out=p.words∧(p.off=true∨i=0∨part (t.getD (i-1) 0)=false)
 some:p.gc≠0→p.off=false∧0<i∧part (t.getD (i-1) 0)=true∧∃j:Nat,p.gc=(j:Int)+1∧s.out=p.words++[((j:Int)+1,p.word++(t.drop i).takeWhile part)]
 nonneg:0≤p.gc
 room:room=decide (p.out.length<2000)
 had:p.words≠[]∨p.gc≠0→p.out.length<2000
 le:s.out.length≤40
theorem J1(c:UInt8):part c=true↔32<c.toNat∧c.toNat<127∧c.toNat≠35:=by
 unfold part;simp[and_assoc]
theorem zk9{t:Bs}{c:UInt8}{r:Bs}(h:t.drop i=c::r):t.getD i 0=c∧t.drop (i+1)=r∧i<t.length:=by
 have hi:i<t.length:=by
  rcases rB i t.length with hi|hi
  ·exact hi
  rw[F7 hi]at h;cases h
 rw[rK hi]at h;injection h with h1 h2;refine⟨?_,h2,hi⟩;simp[List.getD,hi,h1]
theorem step_inv{t:Bs}{l:Bool}{p:St}{s:RS}{i:Nat}{c:UInt8}{r:Bs}(h:Inv t l p s i)(O:t.drop i=c::r)(L:c.toNat≠10):
  (takes p c).2=EQ t l s i c∧(takes p c).1.mp=(i:Int)+1∧(takes p c).1.line=p.line∧(takes p c).1.out=p.out∧((takes p c).2=0→Inv t l (takes p c).1 (iu t s i c) (i+1)):=by
 obtain⟨N,ak,hi⟩:=zk9 O;have y:t.getD (i+1-1) 0=c:=by rw[SA];exact N
 have pw:=h.mp;unfold takes;rw[E L];by_cases u:c.toNat<32∨126<c.toNat
 ·rw[M u];have R:EQ t l s i c=3:=by unfold EQ;rw[if_pos u]
  exact⟨R.symm,DC,rfl,rfl,fun h=>tm⟩
 rw[E u];have hr:EQ t l s i c=if ko t s i c=true then 0 else if s.out.length=40∨l=false then 4 else 0:=by unfold EQ;rw[if_neg u]
 by_cases m:p.off=true
 ·rw[M m];have o:s.off=true:=by rw[←h.off];exact m
  have f:Nm s c=true:=by unfold Nm;rw[o];rfl
  have fj:ko t s i c=true:=by unfold ko;rw[f];rfl
  have C:p.gc=0:=XS fun g=>by have:=(h.some g).1;rw[m]at this;cases this
  refine⟨SK,DC,rfl,rfl,fun _=>?_⟩;have g:=h.none C;exact⟨DC,by simp[ay,iu,f,m],fun _=>⟨g.1,by simp[iu,fj];exact g.2.1,.inl m⟩,fun k=>absurd C k,h.nonneg,h.room,h.had,X8⟩
 rw[E m];have n:p.off=false:=by simpa using m
 have o:s.off=false:=by rw[←h.off];exact n
 have F:∀b:Bool,b=Nm s c→part c=false→ko t s i c=true→Inv t l { ends (ay p) with off:=b } (iu t s i c) (i+1):=by
  intro b z d fj;refine⟨X9,by simp[iu,z],fun _=>⟨rfl,?_,.inr (.inr ?_)⟩,fun k=>absurd rfl k,Gb _,h.room,?_,X8⟩
  ·simp only[iu,M fj];by_cases h0:p.gc=0
   ·rw[(h.none h0).2.1];simp[ends,ay,h0]
   obtain⟨_,_,_,j,A,o⟩:=h.some h0;rw[o,O];have B:0<(j:Int)+1:=Z;simp[ends,ay,B,A,d]
  ·rw[y];exact d
  intro S;apply h.had;by_cases h0:p.gc=0
  ·left
   simpa [ends,ay,h0] using S
  exact .inr h0
 by_cases v:c.toNat=35
 ·rw[M v];have d:part c=false:=by exact apk
  have f:Nm s c=true:=by unfold Nm;simp[v]
  have fj:ko t s i c=true:=by unfold ko;rw[f];rfl
  exact⟨SK,X9,rfl,rfl,fun _=>F true f.symm d fj⟩
 rw[E v];have f:Nm s c=false:=by unfold Nm;simp[o,v]
 by_cases K:c.toNat=32
 ·rw[M K];have d:part c=false:=by exact apk
  have fj:ko t s i c=true:=by unfold ko;rw[d];simp
  refine⟨SK,X9,rfl,rfl,fun _=>?_⟩;have:=F false f.symm d fj;have e:ends (ay p)={ ends (ay p) with off:=false }:=by simp[ends,ay,n]
  rw[e];exact this
 rw[E K];have d:part c=true:=(J1 c).2 Z;by_cases h0:p.gc=0
 ·have g:=h.none h0
  have T:(decide (0<i)&&part (t.getD (i-1) 0))=false:=by
   rcases g.2.2 with h1|h1|h1
   ·rw[n]at h1;cases h1
   ·simp[h1]
   rw[h1];simp
  have fj:ko t s i c=false:=by unfold ko;rw[f,d,T];rfl
  have w:¬ko t s i c=true:=by rw[fj];simp
  rw[E Z];by_cases q:ey p=true
  ·rw[M q];have x:=q;unfold ey at x;simp only[fI,n_,fE]at x
   have U:p.out.length<2000:=by
    rcases x.2 with h1|h1
    ·exact h.had (.inl (List.ne_nil_of_length_pos h1))
    exact h1
   have ad:s.out.length<40:=by rw[g.2.1];exact x.1
   refine⟨?_,DC,rfl,rfl,fun _=>⟨DC,by simp[ay,iu,f,n],fun k=>?_,fun _=>⟨n,Z,by rw[y];exact d,i,by simp[pw],?_⟩,aX,h.room,fun _=>U,?_⟩⟩
   ·rw[hr,E w,E];rintro (h1|h1)
    ·omega
    rw[h.room]at h1;simp at h1;omega
   ·exfalso
    simp at k;omega
   ·simp only[iu,E w,ak,g.1,g.2.1,ay];rw[zuo O d];rfl
   simp only[iu,E w,bM,rD];omega
  rw[E q];refine⟨?_,DC,rfl,rfl,fun k=>by cases k⟩;rw[hr,E w,M];unfold ey at q;simp only[fI,n_,fE]at q;have W:=h.le;rw[g.2.1]at W⊢;by_cases X:p.words.length=40
  ·exact .inl X
  right
  rw[h.room];simp;omega
 obtain⟨_,z,aa,j,A,ab⟩:=h.some h0;have fj:ko t s i c=true:=by unfold ko;rw[aa];simp[z]
 have B:0<p.gc:=Z;rw[M B];refine⟨SK,DC,rfl,rfl,fun _=>⟨DC,by simp[ay,iu,f,n],fun k=>absurd k h0,fun _=>⟨n,Z,by rw[y];exact d,j,A,?_⟩,h.nonneg,h.room,h.had,X8⟩⟩;simp only[iu,M fj,ay];rw[ab,O,ak];simp[d]
theorem line_inv{t:Bs}{d:Bool}(r:Bs):∀(p:St)(s:RS)(i:Nat),Inv t d p s i→t.drop i=r→(∀c∈r,c.toNat≠10)→
  (run p r).2=(rgo t d s i r).2.2∧(run p r).1.line=p.line∧(run p r).1.out=p.out∧((run p r).2≠0→(run p r).1.mp=(rgo t d s i r).2.1)∧((run p r).2=0→(ends (run p r).1).words=(rgo t d s i r).1):=by
 induction r with
 |nil=>
  intro p s i h O _;refine⟨rfl,rfl,rfl,fun hx=>absurd rfl hx,fun _=>?_⟩;simp only[run,rgo];by_cases h0:p.gc=0
  ·rw[(h.none h0).2.1];simp[ends,h0]
  obtain⟨_,_,_,j,f,g⟩:=h.some h0;have k:0<(j:Int)+1:=Z;rw[g,O];simp[ends,f,k]
 |cons c r l=>
  intro p s i h O e;obtain⟨e1,e2,e3,e4,e5⟩:=step_inv h O (e c ae);simp only[rgo,←e1];by_cases b:(takes p c).2=0
  ·rw[ny b,M b];obtain⟨f1,f2,f3,f4,f5⟩:=l _ _ (i+1) (e5 b) (zk9 O).2.1 (fun x hx=>e x Oc);exact⟨f1,f2.trans e3,f3.trans e4,f4,f5⟩
  rw[ts b,E b];exact⟨rfl,e3,e4,fun _=>e2,fun hx=>absurd hx b⟩
def qE(n:Int)(out:List Ln):St:=⟨n,0,0,false,[],[],out⟩
theorem inv0(t:Bs)(n:Int)(out:List Ln):Inv t (decide (out.length<2000)) (qE n out) ⟨false,[]⟩ 0 :=
 ⟨rfl,rfl,fun _=>⟨rfl,rfl,.inr (.inl rfl)⟩,fun h=>absurd rfl h,Gb _,rfl,fun h=>by rcases h with h|h<;>exact absurd rfl h,ae⟩
theorem ybl(t:Bs)(n:Int)(out:List Ln)(h:∀c∈t,c.toNat≠10):
  (run (qE n out) t).2=(ms t (decide (out.length<2000))).2.2∧(run (qE n out) t).1.line=n∧(run (qE n out) t).1.out=out∧((run (qE n out) t).2≠0→(run (qE n out) t).1.mp=(ms t (decide (out.length<2000))).2.1)∧
  ((run (qE n out) t).2=0→(ends (run (qE n out) t).1).words=(ms t (decide (out.length<2000))).1) :=
 line_inv t _ _ 0 (inv0 t n out) rfl h
theorem zx9(p:St)(n:Int)(out:List Ln)(ws:List Wd)(a:p.line=n)(b:p.out=out)(c:(ends p).words=ws):breaks p=qE (n+1) (tg out n ws):=by
 subst a;subst b;subst c;rfl
theorem rlines_eq(r:Bs):∀(n:Int)(a:Bs)(out:List Ln),(∀c∈a,c.toNat≠10)→m9 n a out r=close (run (qE n out) (a++r)):=by
 induction r with
 |nil=>
  intro n a out e;obtain⟨g,e2,i,j,k⟩:=ybl a n out e;rw[h_];unfold m9 close;dsimp only;rw[←g];by_cases b:(run (qE n out) a).2=0
  ·rw[M b,M b,zx9 _ n out _ e2 i (k b)];rfl
  rw[E b,E b,e2,j b]
 |cons c r l=>
  intro n a out e;unfold m9;by_cases f:c.toNat=10
  ·rw[M f];dsimp only;obtain⟨g,e2,i,j,k⟩:=ybl a n out e;rw[o7,←g];by_cases b:(run (qE n out) a).2=0
   ·rw[M b,M b,l _ _ _ ae]
    have:run (run (qE n out) a).1 (c::r)=run (qE (n+1) (tg out n (ms a (decide (out.length<2000))).1)) r:=by
     have h1:takes (run (qE n out) a).1 c=(breaks (ay (run (qE n out) a).1),0):=by unfold takes;rw[if_pos f]
     rw[ny (by rw[h1]),h1];rw[zx9 (ay (run (qE n out) a).1) n out (ms a (decide (out.length<2000))).1 e2 i (k b)]
    rw[this];rfl
   rw[E b,E b];unfold close;rw[E b,e2,j b]
  rw[E f,l _ _ _ (by
   intro x d;rcases ff.1 d with d|d
   ·exact e x d
   simp at d;rw[d];exact f)]
  simp
theorem IH(t:Bs):lines t=ej t:=by
 unfold lines ej;by_cases h:65536<t.length
 ·rw[M h,M h]
 rw[E h,E h,rlines_eq t 1 [] [] ae];rfl
def Dy(N:Nat)(x:Wd):Prop:=1≤x.1∧x.1≤(N:Int)∧x.2≠[]∧x.2.length≤N
def jT(N:Nat)(l:Ln):Prop:=1≤l.1∧l.2≠[]∧l.2.length≤40∧∀x∈l.2,Dy N x
theorem Dy.mono{bE:Nat}(h:N≤bE){x:Wd}(g:Dy N x):Dy bE x:=⟨g.1,by have:=g.2.1;omega,g.2.2.1,fu g.2.2.2 h⟩
theorem rerr_room{t:Bs}{a:Bool}{s:RS}{c:UInt8}(h:EQ t a s i c=0)(b:ko t s i c=false):s.out.length≠40:=by
 intro e;unfold EQ at h;rw[b]at h;split at h
 ·cases h
 simp[e]at h
theorem yb1{t:Bs}{f:Bool}:∀(r:Bs)(s:RS)(i:Nat),t.drop i=r→s.out.length≤40→(∀x∈s.out,Dy t.length x)→(∀x∈(rgo t f s i r).1,Dy t.length x)∧(rgo t f s i r).1.length≤40
 |[],s,i,_,e,h=>⟨h,e⟩
 |c::r,s,i,O,e,h=>by
  obtain⟨_,ak,hi⟩:=zk9 O;unfold rgo;by_cases g:EQ t f s i c=0
  ·rw[M g];refine yb1 r _ (i+1) ak ?_ ?_
   ·unfold iu;dsimp only;split
    ·exact e
    rename_i hk
    have:=rerr_room g (by simpa using hk);rw[bM,rD];omega
   intro x d;unfold iu at d;dsimp only at d;split at d
   ·exact h x d
   rename_i hk
   rcases ff.1 d with d|d
   ·exact h x d
   rw[gd]at d;subst d;have j:part c=true:=by unfold ko at hk;simp only[n_,not_or,Ga,Bool.not_eq_false]at hk;exact hk.1.2
   refine⟨by show (1:Int)≤(i:Int)+1;omega,by show (i:Int)+1≤(t.length:Int);omega,?_,?_⟩
   ·show wl t i≠[]
    rw[zuo O j];simp
   show (wl t i).length≤t.length
   unfold wl;refine fu (List.takeWhile_sublist _).length_le ?_;rw[xf];omega
  rw[E g];exact⟨h,e⟩
theorem zs1(t:Bs)(a:Bool):(∀x∈(ms t a).1,Dy t.length x)∧(ms t a).1.length≤40:=yb1 t _ 0 rfl (bj _) (fun x b=>by simp at b)
theorem zsp{out:List Ln}{n:Int}{ws:List Wd}(h:∀l∈out,jT N l)(b:1≤n)(c:ws.length≤40)(d:∀x∈ws,Dy N x):∀l∈tg out n ws,jT N l:=by
 unfold tg;split
 ·exact h
 rename_i h0
 intro l a;rcases ff.1 a with a|a
 ·exact h l a
 rw[gd]at a;subst a;exact⟨b,h0,c,d⟩
theorem zxg(out:List Ln)(n:Int)(ws:List Wd):(tg out n ws).length≤out.length+1:=by
 unfold tg;split<;>simp
theorem zlt:∀(r:Bs)(n:Int)(a:Bs)(out:List Ln),1≤n→a.length+r.length≤N→(∀l∈out,jT N l)→(∀l∈(m9 n a out r).lines,jT N l)∧(m9 n a out r).lines.length≤out.length+r.length+1
 |[],n,a,out,d,e,h=>by
  have b:=zs1 a (decide (out.length<2000));simp only[tO]at e;unfold m9;dsimp only;split
  ·exact⟨zsp h d b.2 (fun x f=>(b.1 x f).mono Z),by have:=zxg out n (ms a (decide (out.length<2000))).1;simp;omega⟩
  exact R0
 |c::r,n,a,out,d,e,h=>by
  have b:=zs1 a (decide (out.length<2000));simp only[fO]at e⊢;unfold m9;split
  ·dsimp only
   split
   ·have:=zlt r (n+1) [] (tg out n (ms a (decide (out.length<2000))).1) Z aX (zsp h d b.2 (fun x f=>(b.1 x f).mono Z));have g:=zxg out n (ms a (decide (out.length<2000))).1;exact⟨this.1,Z⟩
   exact R0
  have:=zlt r n (a++[c]) out d aX h;exact⟨this.1,Z⟩
theorem abk(t:Bs):(∀l∈(ej t).lines,jT t.length l)∧(ej t).lines.length≤t.length+1:=by
 unfold ej;split
 ·exact R0
 have:=zlt (N:=t.length) t 1 [] [] Z ae (fun l hl=>Vb);exact uu
theorem aat(t:Bs):(∀l∈(ej t).lines,jT 70000 l)∧(ej t).lines.length≤70001:=by
 by_cases h:65536<t.length
 ·unfold ej;rw[M h];exact R0
 have h1:=abk t;exact⟨fun l hl=>by obtain⟨k1,k2,k3,k4⟩:=h1.1 l hl;exact⟨k1,k2,k3,fun x hx=>(k4 x hx).mono Z⟩,Z⟩
end ac
section
open Lib av cy
open ac (Wd Ln)
abbrev dj:=ByteArray×List h8×List el
def aD(ws:List Wd)(i:Nat):ByteArray:=match ws[i]? with
 |some x=>⟨x.2.toArray⟩
 |none=>⟨#[]⟩
def cO(ws:List Wd)(fin:Int)(i:Nat):Int:=match ws[i]? with
 |some x=>x.1
 |none=>fin
def jv(c:UInt8)(s:ByteArray):ByteArray×ByteArray×Bool:=(⟨(cut s.data.toList [c]).1.toArray⟩,⟨(cut s.data.toList [c]).2.1.toArray⟩,(cut s.data.toList [c]).2.2)
def hasB(c:UInt8)(s:ByteArray):Bool:=decide (0≤indexByte s.data.toList c)
def lG(s:ByteArray):el:=((jv 61 s).1,(jv 61 s).2.1)
def zi(ws:List Wd):Nat→Nat→List el→Option (List el)×Nat
 |0,i,out=>(some out,i)
 |f+1,i,out=>if hasB 61 (aD ws i)=true then (if nz (out++[lG (aD ws i)])=true then zi ws f (i+1) (out++[lG (aD ws i)]) else (none,i)) else (some out,i)
theorem uJ{ws:List Wd}(h:ws.length≤i):aD ws i=⟨#[]⟩:=by unfold aD;rw[List.getElem?_eq_none h]
theorem Ec{ws:List Wd}(h:i<ws.length):aD ws i=⟨ws[i].2.toArray⟩:=by unfold aD;rw[List.getElem?_eq_getElem h]
theorem zuf{ws:List Wd}{fin:Int}(h:ws.length≤i):cO ws fin i=fin:=by unfold cO;rw[List.getElem?_eq_none h]
theorem zue{ws:List Wd}{fin:Int}(h:i<ws.length):cO ws fin i=ws[i].1:=by unfold cO;rw[List.getElem?_eq_getElem h]
theorem zu5:hasB 61 ⟨#[]⟩=false:=by decide
def dm(ws:List Wd)(i:Nat)(out:List el):Option (List el)×Nat:=zi ws (ws.length-i) i out
theorem znd{ws:List Wd}{out:List el}(h:hasB 61 (aD ws i)=false):dm ws i out=(some out,i):=by
 unfold dm
 cases hf:ws.length-i with
 |zero=>rfl
 |succ f=>unfold zi;rw[if_neg zC]
theorem NS{ws:List Wd}(h:hasB 61 (aD ws i)=true):i<ws.length:=by
 apply JU
 intro a;rw[uJ a,zu5]at h;cases h
theorem zk0{ws:List Wd}{out:List el}(h:hasB 61 (aD ws i)=true)(a:nz (out++[lG (aD ws i)])=true):dm ws i out=dm ws (i+1) (out++[lG (aD ws i)]):=by
 have c:=NS h;unfold dm;obtain⟨f,b⟩:∃f,ws.length-i=f+1:=⟨ws.length-i-1,Z⟩;rw[b,show ws.length-(i+1)=f from Z];refine Bq ?_;rw[M h,M a]
theorem zk1{ws:List Wd}{out:List el}(h:hasB 61 (aD ws i)=true)(hw:nz (out++[lG (aD ws i)])=false):dm ws i out=(none,i):=by
 have b:=NS h;unfold dm;obtain⟨f,a⟩:∃f,ws.length-i=f+1:=⟨ws.length-i-1,Z⟩;rw[a];refine Bq ?_;rw[M h,E Od]
open Classical in
noncomputable def ib(t:ByteArray):Bool:=decide (Rd3 t∧o5 t≠[]∧(o5 t).head?≠some (⟨#[]⟩,⟨#[]⟩))
def gx:List h8:=[(⟨#[]⟩,⟨#[]⟩)]
noncomputable def jC(s:ByteArray):Bool:=fW (jv 64 s).1.data.toList&&(!(jv 64 s).2.2 || ib (jv 64 s).2.1)
noncomputable def oj(s:ByteArray):List h8:=if (jv 64 s).2.2=true then o5 (jv 64 s).2.1 else gx
noncomputable def eR(ws:List Wd)(i:Nat):Option dj×Nat :=
 if jC (aD ws i)=true then ((dm ws (i+1) []).1.map fun l=>((jv 64 (aD ws i)).1,oj (aD ws i),l),(dm ws (i+1) []).2) else (none,i)
def NE(x:Wd):ByteArray:=⟨x.2.toArray⟩
def az(ws:List Wd)(i:Nat):List ByteArray:=(ws.drop i).map NE
theorem mA{ws:List Wd}(h:ws.length≤i):az ws i=[]:=by unfold az;rw[List.drop_eq_nil_of_le h];rfl
theorem fy{ws:List Wd}(h:i<ws.length):az ws i=aD ws i::az ws (i+1):=by
 unfold az;rw[rK h,Ec h];rfl
theorem zf5(ws:List Wd)(i:Nat):(az ws i).length=ws.length-i:=by unfold az;simp
def mb:List ByteArray→List el→Option (List el×List ByteArray)
 |[],out=>some (out,[])
 |x::r,out=>if hasB 61 x=true then (if nz (out++[lG x])=true then mb r (out++[lG x]) else none) else some (out,x::r)
noncomputable def xv:List ByteArray→Option (dj×List ByteArray)
 |[]=> none
 |x::r=>if jC x=true then (mb r []).map fun q=>(((jv 64 x).1,oj x,q.1),q.2) else none
def ef:ByteArray:=⟨#[42]⟩
def fd:ByteArray:=⟨#[]⟩
def nI(s:ByteArray):Bool:=decide (s.data.toList.head?=some 64)
def lg(s:ByteArray):ByteArray:=⟨(s.data.toList.drop 1).toArray⟩
noncomputable def db(ws:List Wd)(i:Nat):Option dj×Nat :=
 if aD ws i=ef then (some (fd,gx,[]),i+1)
 else if nI (aD ws i)=true then
  (if ib (lg (aD ws i))=true then ((dm ws (i+1) []).1.map fun l=>(fd,o5 (lg (aD ws i)),l),(dm ws (i+1) []).2) else (none,i))
 else if hasB 61 (aD ws i)=true then ((dm ws i []).1.map fun l=>(fd,gx,l),(dm ws i []).2)
 else (none,i)
noncomputable def vG:List ByteArray→Option (dj×List ByteArray)
 |[]=> none
 |x::r=>if x=ef then some ((fd,gx,[]),r)
  else if nI x=true then (if ib (lg x)=true then (mb r []).map fun q=>((fd,o5 (lg x),q.1),q.2) else none)
  else if hasB 61 x=true then (mb (x::r) []).map fun q=>((fd,gx,q.1),q.2)
  else none
def NO{α:Type}(ws:List Wd):Option α×Nat→Option (α×List ByteArray)
 |(some l,j)=>some (l,az ws j)
 |(none,_)=>none
theorem yas(ws:List Wd):∀(f i:Nat)(out:List el),ws.length-i=f→mb (az ws i) out=NO ws (zi ws f i out)
 |0,i,out,h=>by
  rw[mA Z];show some (out,[])=some (out,az ws i);rw[mA Z]
 |f+1,i,out,h=>by
  rw[fy Z];show (if _ then _ else _)=NO ws (if _ then _ else _);by_cases h1:hasB 61 (aD ws i)=true
  ·rw[M h1,M h1];by_cases a:nz (out++[lG (aD ws i)])=true
   ·rw[M a,M a];exact yas ws f (i+1) _ Z
   rw[E a,E a];rfl
  rw[E h1,E h1,←fy Z];rfl
theorem zlp(ws:List Wd)(i:Nat)(out:List el):mb (az ws i) out=NO ws (dm ws i out):=yas ws _ i out rfl
theorem yar(ws:List Wd):∀(f i:Nat)(out:List el),i≤(zi ws f i out).2∧(zi ws f i out).2≤max i ws.length
 |0,i,out=>⟨aE _,Nat.le_max_left _ _⟩
 |f+1,i,out=>by
  by_cases h1:hasB 61 (aD ws i)=true
  ·have b:=NS h1;by_cases a:nz (out++[lG (aD ws i)])=true
   ·have e:zi ws (f+1) i out=zi ws f (i+1) (out++[lG (aD ws i)]):=by
     refine Bq ?_;rw[M h1,M a]
    rw[e];have:=yar ws f (i+1) (out++[lG (aD ws i)]);omega
   have e:zi ws (f+1) i out=(none,i):=by refine Bq ?_;rw[M h1,E a]
   rw[e];exact⟨aE _,Nat.le_max_left _ _⟩
  have e:zi ws (f+1) i out=(some out,i):=by refine Bq ?_;rw[E h1]
  rw[e];exact⟨aE _,Nat.le_max_left _ _⟩
theorem FN(ws:List Wd)(i:Nat)(out:List el):i≤(dm ws i out).2∧(dm ws i out).2≤max i ws.length:=yar ws _ i out
theorem zw1:jC ⟨#[]⟩=false:=by
 unfold jC;rw[show (jv 64 (⟨#[]⟩:ByteArray))=(⟨#[]⟩,⟨#[]⟩,false) from aA];rfl
theorem zpe(ws:List Wd)(i:Nat):xv (az ws i)=NO ws (eR ws i):=by
 by_cases h:i<ws.length
 ·rw[fy h];refine Bq ?_;unfold eR;by_cases h1:jC (aD ws i)=true
  ·rw[M h1,M h1,zlp];rcases dm ws (i+1) [] with⟨_|l,j⟩<;>rfl
  rw[E h1,E h1];rfl
 rw[mA Z];unfold eR;rw[uJ Z,E (by rw[zw1];simp)];rfl
theorem zof{ws:List Wd}{s:dj}(h:eR ws i=(some s,j)):i<j∧j≤ws.length:=by
 have hi:i<ws.length:=by
  apply JU
  intro a;unfold eR at h;rw[uJ a,E (by rw[zw1];simp)]at h;cases h
 unfold eR at h;by_cases h1:jC (aD ws i)=true
 ·rw[M h1]at h;have b:=FN ws (i+1) [];have c:(dm ws (i+1) []).2=j:=iB Prod.snd h;omega
 rw[E h1]at h;cases h
theorem zr1(ws:List Wd)(i:Nat):vG (az ws i)=NO ws (db ws i):=by
 by_cases h:i<ws.length
 ·rw[fy h];refine Bq ?_;unfold db;by_cases h1:aD ws i=ef
  ·rw[M h1,M h1];rfl
  rw[E h1,E h1];by_cases b:nI (aD ws i)=true
  ·rw[M b,M b];by_cases a:ib (lg (aD ws i))=true
   ·rw[M a,M a,zlp];rcases dm ws (i+1) [] with⟨_|l,j⟩<;>rfl
   rw[E a,E a];rfl
  rw[E b,E b];by_cases a:hasB 61 (aD ws i)=true
  ·rw[M a,M a,←fy h,zlp];rcases dm ws i [] with⟨_|l,j⟩<;>rfl
  rw[E a,E a];rfl
 rw[mA Z];unfold db;rw[uJ Z,E D,E D,E (by rw[zu5];simp)];rfl
theorem zqt(c:UInt8)(s:ByteArray):(∃k:Nat,indexByte s.data.toList c=k∧k<s.data.toList.length∧s.data.toList[k]?=some c∧hasB c s=true∧jv c s=(⟨(s.data.toList.take k).toArray⟩,⟨(s.data.toList.drop (k+1)).toArray⟩,true))∨
  (hasB c s=false∧jv c s=(s,⟨#[]⟩,false)):=by
 obtain⟨l,d⟩:=Y s.data.toList;have e:s=⟨l.toArray⟩:=em.ext (by rw[d]);unfold hasB jv cut;rw[←d,index_one];have f:=J0 l c;by_cases h:0≤indexByte l c
 ·left
  obtain⟨k,b⟩:∃k:Nat,indexByte l c=k:=⟨(indexByte l c).toNat,Z⟩;have h1:=(indexByte_some b).1;refine⟨k,b,(ie.1 h1).1,h1,aO h,?_⟩;rw[M h,b];rfl
 right
 refine⟨be h,?_⟩;rw[E h,e]
theorem yca{c:UInt8}(h:(jv c s).2.2=true):(jv c s).1++⟨#[c]⟩++(jv c s).2.1=s:=by
 rcases zqt c s with⟨k,_,a,b,_,e⟩|⟨_,e⟩
 ·rw[e];apply em.ext;rw[fz,fz];show s.data.toList.take k++[c]++s.data.toList.drop (k+1)=s.data.toList;rw[gq,On];have h1:s.data.toList[k]=c:=(ie.1 b).2;rw[←h1,←rK a,mi]
 rw[e]at h;cases h
theorem cut_flag(c:UInt8)(s:ByteArray):(jv c s).2.2=hasB c s:=by
 rcases zqt c s with⟨k,_,_,_,h,e⟩|⟨h,e⟩<;>rw[h,e]
theorem UV{c:UInt8}(h:(jv c s).2.2=false):(jv c s).1=s:=by
 rcases zqt c s with⟨k,_,_,_,_,e⟩|⟨_,e⟩
 ·rw[e]at h;cases h
 rw[e]
def j0(x:el):ByteArray:=x.1++⟨#[61]⟩++x.2
theorem setT_of{x:ByteArray}(h:hasB 61 x=true):j0 (lG x)=x:=yca (by rw[cut_flag];exact h)
open Classical in
noncomputable def spT(L:List h8):ByteArray:=if h:∃l,tB l=L then oh h.choose else ⟨#[]⟩
theorem tB_inj:∀{a b:List Tp},tB a=tB b→a=b
 |[],[],_=>rfl
 |[],_::_,h=>by simp[tB]at h
 |_::_,[],h=>by simp[tB]at h
 |x::a,y::b,h=>by
  have h1:x.1=y.1∧tB a=tB b:=by simpa [tB] using h
  rw[Subtype.ext h1.1,tB_inj h1.2]
theorem Jh(l:List Tp):spT (tB l)=oh l:=by
 unfold spT;have h:∃k,tB k=tB l:=⟨l,rfl⟩;rw[dif_pos h,tB_inj h.choose_spec]
theorem spT_rd{t:ByteArray}(h:Rd3 t):spT (o5 t)=t:=by
 by_cases h0:t=⟨#[33]⟩
 ·rw[h0,show o5 ⟨#[33]⟩=tB [] from by unfold o5;rw[if_pos rfl];rfl,Jh];decide
 rcases h with h|h
 ·exact absurd h h0
 obtain⟨l,a⟩:=FJ t h.1;rw[show o5 t=tB l from by unfold o5;rw[if_neg h0,a],Jh];exact h.2 l a
open Classical in
noncomputable def dK(s:dj):ByteArray:=if s.2.1=gx then s.1 else s.1++(⟨#[64]⟩++spT s.2.1)
open Classical in
noncomputable def cI(s:dj):List ByteArray :=
 if (if dK s=fd then [] else [dK s])++s.2.2.map j0=[] then [ef] else (if dK s=fd then [] else [dK s])++s.2.2.map j0
def Stop(r:List ByteArray):Prop:=∀x,r.head?=some x→hasB 61 x=false
theorem Nj:∀(l:List ByteArray)(out q:List el)(r:List ByteArray),mb l out=some (q,r)→∃p,q=out++p∧l=p.map j0++r∧Stop r∧(∀r',Stop r'→mb (p.map j0++r') out=some (q,r'))
 |[],out,q,r,h=>by cases h;refine⟨[],ae,rfl,fun x hx=>wZ,fun r' hr=>?_⟩;exact amv
 |x::l,out,q,r,h=>by
  refine ano ?_;intro e;by_cases h1:hasB 61 x=true
  ·by_cases a:nz (out++[lG x])=true
   ·rw[e,M h1,M a]at h;obtain⟨p,b,c,d,hr⟩:=Nj l _ q r h;refine⟨lG x::p,by rw[b];simp,by rw[eU,setT_of h1,c];rfl,d,fun r' uM=>?_⟩;rw[eU,setT_of h1,ru];refine Bq ?_;rw[M h1,M a];exact hr r' uM
   rw[e,M h1,E a]at h;cases h
  rw[e,E h1]at h;cases h;refine⟨[],ae,rfl,fun y f=>?_,fun r' hr=>?_⟩
  ·cases f;simpa using h1
  exact amv
open Classical in
theorem zml{t:ByteArray}:ib t=true↔Rd3 t∧o5 t≠[]∧(o5 t).head?≠some (⟨#[]⟩,⟨#[]⟩):=by
 unfold ib;exact decide_eq_true_iff
theorem zrz{t:ByteArray}(h:ib t=true):o5 t≠gx:=by
 intro e;have:=(zml.1 h).2.2;rw[e]at this;exact this rfl
theorem zts(h:fW s.data.toList=true):s≠fd:=by
 intro e;have:=(IR h).1;rw[e]at this;exact absurd this D
theorem ne_app{a b:ByteArray}(h:a≠fd):a++b≠fd:=by
 intro e;apply h;have h1:=iB (fun x:ByteArray=>x.data.toList) e;simp only[fz]at h1;exact em.ext (XT.1 h1).1
theorem ycw{r:List ByteArray}{s:dj}(h:xv l=some (s,r)):l=cI s++r∧Stop r∧cI s≠[]∧fW s.1.data.toList=true∧∀a,Stop a→xv (cI s++a)=some (s,a):=by
 cases l with
 |nil=>cases h
 |cons x l=>
  have e:∀t,xv (x::t)=if jC x=true then (mb t []).map fun q=>(((jv 64 x).1,oj x,q.1),q.2) else none:=fun _=>rfl
  by_cases h1:jC x=true
  ·rw[e,M h1]at h
   cases hq:mb l [] with
   |none=>rw[hq]at h;cases h
   |some q=>
    rw[hq]at h;obtain⟨q,i⟩:=q;simp only[Ss,Ka,t_]at h;obtain⟨hs,rfl⟩:=h;obtain⟨p,hp,hl,bJ,hr⟩:=Nj l [] q i hq;rw[ig]at hp;subst hp;have b:fW (jv 64 x).1.data.toList=true∧(!(jv 64 x).2.2 || ib (jv 64 x).2.1)=true:=by unfold jC at h1;rw[fI]at h1;exact h1
    have d:dK s=x:=by
     rw[←hs];unfold dK;show (if oj x=gx then (jv 64 x).1 else (jv 64 x).1++(⟨#[64]⟩++spT (oj x)))=x
     cases qX:(jv 64 x).2.2 with
     |true=>
      have f:ib (jv 64 x).2.1=true:=by have:=b.2;rw[qX]at this;simpa using this
      have c:oj x=o5 (jv 64 x).2.1:=by unfold oj;rw[if_pos qX]
      rw[c,E (zrz f),spT_rd (zml.1 f).1,←DK];exact yca qX
     |false=>
      have c:oj x=gx:=by unfold oj;rw[if_neg (by rw[qX];simp)]
      rw[M c];exact UV qX
    have j:x≠fd:=by
     rw[←d];unfold dK;have g:s.1≠fd:=by rw[←hs];exact zts b.1
     split
     ·exact g
     exact ne_app g
    have hw:cI s=x::q.map j0:=by unfold cI;rw[d,E j,E ae];rw[←hs];rfl
    refine⟨by rw[hw,hl];rfl,bJ,Od,by rw[←hs];exact b.1,fun a k=>?_⟩;rw[hw,ru,e,M h1,hr a k,←hs];rfl
  rw[e,E h1]at h;cases h
theorem ya6{x:ByteArray}(h:nI x=true):(⟨#[64]⟩++lg x:ByteArray)=x:=by
 apply em.ext
 rw[fz];unfold nI at h;have h:=ed h;show [64]++x.data.toList.drop 1=x.data.toList
 cases hl:x.data.toList with
 |nil=>rw[hl]at h;simp at h
 |cons c r=>rw[hl]at h;simp at h;rw[h];rfl
theorem yf3{r:List ByteArray}{s:dj}(h:vG l=some (s,r)):l=cI s++r∧cI s≠[]∧s.1=fd∧(Stop r∨cI s=[ef])∧(∀b,Stop b→vG (cI s++b)=some (s,b))∧(∃x t,cI s=x::t∧(x=ef→s=(fd,gx,[]))):=by
 cases l with
 |nil=>cases h
 |cons x l=>
  have e:∀t,vG (x::t)=if x=ef then some ((fd,gx,[]),t)
    else if nI x=true then (if ib (lg x)=true then (mb t []).map fun q=>((fd,o5 (lg x),q.1),q.2) else none)
    else if hasB 61 x=true then (mb (x::t) []).map fun q=>((fd,gx,q.1),q.2) else none:=fun _=>rfl
  by_cases h1:x=ef
  ·rw[e,M h1]at h;cases h;have d:dK (fd,gx,[])=fd:=by unfold dK;rw[if_pos rfl]
   have hw:cI (fd,gx,[])=[ef]:=by unfold cI;rw[d,if_pos rfl];rfl
   refine⟨by rw[hw,h1];rfl,Od,rfl,.inr hw,fun b _=>?_,_,[],hw,fun _=>rfl⟩;rw[hw,On,←h1,e,M h1]
  rw[e,E h1]at h;by_cases c:nI x=true
  ·rw[M c]at h;by_cases a:ib (lg x)=true
   ·rw[M a]at h
    cases hq:mb l [] with
    |none=>rw[hq]at h;cases h
    |some q=>
     rw[hq]at h;obtain⟨q,f⟩:=q;simp only[Ss,Ka,t_]at h;obtain⟨hs,rfl⟩:=h;obtain⟨p,hp,hl,bJ,hr⟩:=Nj l [] q f hq;rw[ig]at hp;subst hp
     have d:dK s=x:=by
      rw[←hs];unfold dK;show (if o5 (lg x)=gx then fd else fd++(⟨#[64]⟩++spT (o5 (lg x))))=x;rw[E (zrz a),spT_rd (zml.1 a).1,ya6 c];exact em.ext (by rw[fz];rfl)
     have m:x≠fd:=by intro k;rw[k]at c;exact absurd c D
     have hw:cI s=x::q.map j0:=by unfold cI;rw[d,E m,E ae];rw[←hs];rfl
     refine⟨by rw[hw,hl];rfl,Od,by rw[←hs],.inl bJ,fun b g=>?_,x,_,hw,fun k=>absurd k h1⟩;rw[hw,ru,e,E h1,M c,M a,hr b g,←hs];rfl
   rw[E a]at h;cases h
  rw[E c]at h;by_cases a:hasB 61 x=true
  ·rw[M a]at h
   cases hq:mb (x::l) [] with
   |none=>rw[hq]at h;cases h
   |some q=>
    rw[hq]at h;obtain⟨q,f⟩:=q;simp only[Ss,Ka,t_]at h;obtain⟨hs,rfl⟩:=h;obtain⟨p,hp,hl,bJ,hr⟩:=Nj (x::l) [] q f hq;rw[ig]at hp;subst hp
    cases q with
    |nil=>rw[Aq,ig]at hl;have:=bJ x (by rw[←hl];rfl);rw[a]at this;cases this
    |cons y q=>
     have i:j0 y=x:=by rw[eU,ru]at hl;exact (List.cons.inj hl).1.symm
     have d:dK s=fd:=by rw[←hs];unfold dK;exact M rfl
     have hw:cI s=(y::q).map j0:=by unfold cI;rw[d,M rfl,←hs,ig];exact E ae
     refine⟨by rw[hw,hl],Od,by rw[←hs],.inl bJ,fun b g=>?_,j0 y,q.map j0,by rw[hw];rfl,fun k=>absurd (i.symm.trans k) h1⟩;have j:=hr b g;rw[hw];rw[eU,ru,i]at j⊢;rw[e,E h1,E c,M a,j,←hs];rfl
  rw[E a]at h;cases h
abbrev K1:=ByteArray×Bool
abbrev qF:=ByteArray×List ByteArray
abbrev ky:=dj×dj×Int
abbrev ut:=ByteArray×List ByteArray×Int
structure ap where
 name:ByteArray
 line:Int
 rel:List K1
 vars:List qF
 cl:List ByteArray
 gr:List ky
 ci:List ky
 files:List ByteArray
structure ch where
 pk:List ap
 pf:List ut
def vg(s:ByteArray)(n:Int):ap:=⟨s,n,[],[],[],[],[],[]⟩
def iK:ByteArray:=⟨#[112,97,99,107,97,103,101]⟩
def lI:ByteArray:=⟨#[112,114,101,102,101,114]⟩
def nZ:ByteArray:=⟨#[118,101,114,115,105,111,110]⟩
def n8:ByteArray:=⟨#[118,97,114,105,97,110,116]⟩
def kX:ByteArray:=⟨#[112,114,111,118,105,100,101,115]⟩
def lF:ByteArray:=⟨#[100,101,112,101,110,100,115]⟩
def kv:ByteArray:=⟨#[99,111,110,102,108,105,99,116,115]⟩
def kY:ByteArray:=⟨#[102,105,108,101]⟩
def D1:ByteArray:=⟨#[111,108,100]⟩
def oZ:ByteArray:=⟨#[119,104,101,110]⟩
def rI:ByteArray:=⟨#[119,105,116,104]⟩
def eL(s:ByteArray):Bool:=fW s.data.toList
def qp(s:ByteArray):Bool:=pM s.data.toList
def uk(s:ByteArray):Bool:=decide (s.size≤60)
def tS(s:ByteArray):Bool:=gs s.data.toList
def um:dj:=(fd,gx,[])
def vD:dj:=(fd,[],[])
def eQ(ok:ByteArray→Bool)(l:List ByteArray):Option (List ByteArray):=if l≠[]∧l.all ok=true then some l else none
def Fr(l:List ByteArray):Option K1:=match l with
 |[v]=> if tS v=true then some (v,false) else none
 |[v,o]=> if tS v=true∧o=D1 then some (v,true) else none
 |_=>none
def varL(l:List ByteArray):Option qF:=match l with
 |x::r=>if eL x=true then (eQ qp r).map fun q=>(x,q) else none
 |[]=> none
def p8(ok:ByteArray→Bool)(l:List ByteArray):Option ByteArray:=match l with
 |[x]=> if ok x=true then some x else none
 |_=>none
noncomputable def qx(n:Int)(l:List ByteArray):Option ky:=match xv l with
 |some (s,[])=>some (s,um,n)
 |some (s,x::r)=>if x=oZ then (match vG r with
  |some (c,[])=>some (s,c,n)
  |_=>none) else none
 |none=>none
noncomputable def mP(n:Int)(l:List ByteArray):Option ky:=match vG l with
 |some (s,[])=>some (s,vD,n)
 |some (s,x::r)=>if x=rI then (match xv r with
  |some (c,[])=>some (s,c,n)
  |_=>none) else none
 |none=>none
noncomputable def dw(first:ByteArray)(n:Int)(p:ap)(l:List ByteArray):Option ap :=
 if first=nZ then (Fr l).map fun q=>{ p with rel:=p.rel++[q] }
 else if first=n8 then (varL l).map fun q=>{ p with vars:=p.vars++[q] }
 else if first=kX then (p8 eL l).map fun q=>{ p with cl:=p.cl++[q] }
 else if first=lF then (qx n l).map fun q=>{ p with gr:=p.gr++[q] }
 else if first=kv then (mP n l).map fun q=>{ p with ci:=p.ci++[q] }
 else if first=kY then (p8 uk l).map fun q=>{ p with files:=p.files++[q] }
 else none
def wQ(n:Int)(l:List ByteArray):Option ut:=match l with
 |x::r=>if eL x=true then (eQ eL r).map fun q=>(x,q,n) else none
 |[]=> none
noncomputable def dy(n:Int)(l:List ByteArray)(x:ch):Option ch:=match l with
 |[]=> none
 |f::r=>if f=iK then (p8 eL r).map fun s=>{ x with pk:=x.pk++[vg s n] }
  else if f=lI then (wQ n r).map fun q=>{ x with pf:=x.pf++[q] }
  else match x.pk.getLast? with
  |none=>none
  |some p=>(dw f n p r).map fun q=>{ x with pk:=x.pk.dropLast++[q] }
noncomputable def goL:List Ln→ch→Option ch
 |[],x=>some x
 |l::r,x=>(dy l.1 (l.2.map NE) x).bind fun y=>goL r y
noncomputable def mI(t:List UInt8):Option ch:=if (ac.ej t).e=0 then goL (ac.ej t).lines ⟨[],[]⟩ else none
def gn(d:ky):ky:=(d.1,d.2.1,0)
def gh(p:ap):ap:={ p with line:=0,gr:=p.gr.map gn,ci:=p.ci.map gn }
def pO(p:ut):ut:=(p.1,p.2.1,0)
def bare(x:ch):ch:=⟨x.pk.map gh,x.pf.map pO⟩
def both(x y:ch):ch:=⟨x.pk++y.pk,x.pf++y.pf⟩
theorem Ds:∀(L bE:List Ln)(x:ch),goL (L++bE) x=(goL L x).bind fun y=>goL bE y
 |[],bE,x=>rfl
 |l::L,bE,x=>by
  show (dy l.1 (l.2.map NE) x).bind _=((dy l.1 (l.2.map NE) x).bind _).bind _
  rw[Option.bind_assoc];congr 1;funext y
  exact Ds L bE y
end
section
open Lib av cy
def e_(L:List ByteArray):ByteArray:=⟨(Lib.join (L.map (·.data.toList)) [32]).toArray⟩
theorem uf(L:List ByteArray):(e_ L).data.toList=Lib.join (L.map (·.data.toList)) [32]:=rfl
theorem zqi:e_ []=fd:=rfl
theorem FP(x:ByteArray):e_ [x]=x:=by
 apply em.ext
 rw[uf,eU,Aq,Lib.join_one]
theorem yek{L:List ByteArray}(h:L≠[])(x:ByteArray):e_ (L++[x])=e_ L++⟨#[32]⟩++x:=by
 apply em.ext
 rw[fz,fz,uf,uf]
 cases L with
 |nil=>exact absurd rfl h
 |cons y r=>rw[ru,eU,eU,zD,zD];have:Lib.joinTail [32] ((r++[x]).map (·.data.toList))=Lib.joinTail [32] (r.map (·.data.toList))++(32::x.data.toList):=X7;rw[this];simp
def nx(o:ByteArray)(x:el):ByteArray:=(if o=fd then o else o++⟨#[32]⟩)++x.1++⟨#[61]⟩++x.2
noncomputable def k_(s:dj):ByteArray:=if s.2.2.foldl nx (dK s)=fd then ef else s.2.2.foldl nx (dK s)
theorem setT_ne(x:el):j0 x≠fd:=by
 intro e;have h:=iB (fun x:ByteArray=>x.data.toList) e;unfold j0 at h;simp only[fz]at h;simp[fd]at h
theorem app_ne{a b:ByteArray}(h:b≠fd):a++b≠fd:=by
 intro e;apply h;have h1:=iB (fun x:ByteArray=>x.data.toList) e;simp only[fz]at h1;exact em.ext (XT.1 h1).2
theorem noT_app(a:ByteArray):fd++a=a:=em.ext (by rw[fz];rfl)
theorem ya8{L:List ByteArray}(h:L=[]∨e_ L≠fd)(x:el):nx (e_ L) x=e_ (L++[j0 x])∧e_ (L++[j0 x])≠fd:=by
 unfold nx;rcases h with h|h
 ·subst h;rw[zqi,M rfl,noT_app,ig,FP];exact⟨rfl,setT_ne x⟩
 have a:L≠[]:=by rintro rfl;exact h zqi
 rw[E h,yek a];exact⟨by unfold j0;rw[←ByteArray.append_assoc,←ByteArray.append_assoc],app_ne (setT_ne x)⟩
theorem zsd:∀(xs:List el)(L:List ByteArray),(L=[]∨e_ L≠fd)→xs.foldl nx (e_ L)=e_ (L++xs.map j0)∧(L++xs.map j0=[]∨e_ (L++xs.map j0)≠fd)
 |[],L,h=>w_
 |x::xs,L,h=>by obtain⟨h1,a⟩:=ya8 h x;have b:=zsd xs (L++[j0 x]) (.inr a);rw[EJ,h1,eU];simpa using b
theorem Jt(s:dj):k_ s=e_ (cI s):=by
 obtain⟨L,a,b,h0⟩:∃L,L=(if dK s=fd then [] else [dK s])∧dK s=e_ L∧(L=[]∨e_ L≠fd):=by
  refine⟨_,rfl,?_⟩;by_cases h:dK s=fd
  ·rw[M h];exact⟨h,.inl rfl⟩
  rw[E h,FP];exact⟨rfl,.inr h⟩
 obtain⟨h1,c⟩:=zsd s.2.2 L h0;unfold k_ cI;rw[←a,b,h1];by_cases h:L++s.2.2.map j0=[]
 ·rw[M h,h,zqi,M rfl,FP]
 rw[E h,E (c.resolve_left h)]
end
end Go.Proofs.YthgibhhbmmkjmaaGreatDoor
