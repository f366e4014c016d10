/- Walks and plain facts. Condition: none beyond what each says. -/
import Derived.Test.YthgibhhbmmkjmaaGreatDoorPrW3
set_option linter.unusedVariables false
set_option linter.unusedSimpArgs false
set_option maxRecDepth 10000
set_option maxHeartbeats 40000000
namespace Go.Proofs.YthgibhhbmmkjmaaGreatDoor
open Go.Proofs.Tryz
variable {B N b bs c c1 c2 c3 c4 c5 c6 c7 cap d3 d4 d5 d6 d7 e2 f g hi i j k m m2 m3 m4 m5 m6 m7 n n1 n2 n3 n4 n5 n6 n7 pb r sz x xb:Nat}
variable {S T:Nat→Prop}
variable {W W' w w' w0 w1 w3 w9:World}
variable {a a1 a2 b2 b3 b4 b5 b6 b7 d2:Option Addr}
variable {args cs:Array Value}
variable {bN css:List (List Value)}
variable {e:TypeId}
variable {l:List ByteArray}
variable {li:Int}
variable {nm q s:ByteArray}
variable {u u2 v v' v1 v2 v3 v4 v5 v6 v7 v9 vf vp y z:Value}
variable {p:List UInt8}
variable {rv:List Value}
variable {t:Nat→Nat}
section
open RowKit
def Ft(W:World)(F:Nat→Prop)(P:World→Prop):Prop:=∀W':World,W.heap.size≤W'.heap.size→(∀k,k<W.heap.size→F k→W'.heap[k]?=W.heap[k]?)→P W'
section
variable {W W':World}{F gR T:Nat→Prop}{P Q:World→Prop}
theorem Ft.here(h:Ft W F P):P W:=h W (aE _) fun _ _ _=>rfl
theorem Ft.gc(h:Ft W F P)(hF:am T W W')(a:∀k,k<W.heap.size→F k→¬T k)(b:∀k,k<W.heap.size→F k→gR k):Ft W' gR P :=
 fun bP c d=>h bP (fu hF.size c) fun k k1 k2=>(d k (jq k1 hF.size) (b k k1 k2)).trans (hF.block k k1 (a k k1 k2))
theorem Ft.and(h:Ft W F P)(a:Ft W F Q):Ft W F fun W=>P W∧Q W:=fun bP hV hk=>⟨h bP hV hk,a bP hV hk⟩
theorem Ft.imp(h:Ft W F P)(hi:∀bP,P bP→Q bP):Ft W F Q:=fun bP a b=>hi bP (h bP a b)
theorem Ft.mono(h:Ft W F P)(a:∀k,k<W.heap.size→F k→gR k):Ft W gR P:=fun bP b c=>h bP b fun k k1 k2=>c k k1 (a k k1 k2)
end
theorem zou{W:World}{F:Nat→Prop}{p:Prop}(h:p):Ft W F fun _=>p:=fun _ _ _=>h
theorem GT.ft{α:Type}{R:Rd α}{e:TypeId}{W:World}{v:Value}{L:List α}(m:∀W W' cs x,R W cs x→R W' cs x)(h:GT sz R e W v L):Ft W (fun k=>L≠[]∧v.ownBlock=some k) fun W'=>GT sz R e W' v L:=by
 intro bP _ f;obtain⟨⟨a,cap,hv,h1,h2,se⟩,ht⟩:=h;have g:=hv;simp only[nj,lv]at g;refine⟨⟨a,cap,hv,h1,h2,fun i x hi=>?_⟩,fun c k eE=>?_⟩
 ·obtain⟨b,off,n,l,e2,o,p⟩:=se i x hi;have c:L≠[]:=by rintro rfl;simp at hi
  refine⟨b,off,n,l,e2,fun j u q=>?_,m _ _ _ _ p⟩;have k:=o j u q;have d:=wH W _ k;exact (yk (f b d ⟨c,by rw[g,l];rfl⟩)).trans k
 obtain⟨cs,fr,d⟩:=ht c k eE;exact⟨cs,fr,(f k (bS.1 d).1 ⟨c,eE⟩).trans d⟩
theorem spsT_ft{W:World}{v:Value}{L:List h8}(h:hU W v L):Ft W (fun k=>L≠[]∧v.ownBlock=some k) fun W'=>hU W' v L:=GT.ft (fun _ _ _ _ h=>h) h
theorem setsT_ft{W:World}{v:Value}{L:List el}(h:iy W v L):Ft W (fun k=>L≠[]∧v.ownBlock=some k) fun W'=>iy W' v L:=GT.ft (fun _ _ _ _ h=>h) h
def Ty(W:World)(k:Nat):Prop:=∃cs e fr,W.heap[k]?=some (.cells cs e fr)∧(e=51∨e=137)
theorem Ty.o8{W W':World}{T:Nat→Prop}(h:Ty W k)(hF:am T W W')(a:¬T k):Ty W' k:=by
 obtain⟨cs,e,fr,h1,b⟩:=h;exact⟨cs,e,fr,(hF.block k (bS.1 h1).1 a).trans h1,b⟩
theorem dF{W:World}{e:TypeId}{fr:Nat×Nat}(h:W.heap[k]?=some (.cells cs e fr))(h1:e≠51∧e≠137):¬Ty W k:=by
 rintro⟨_,_,_,a,b⟩;rw[h]at a;cases a;exact b.elim h1.1 h1.2
def Fx(W:World)(t:Nat→Nat)(k:Nat):Prop:=t k=3∨Ty W k
structure RowL{α:Type}(W:World)(t:Nat→Nat)(c B:Nat)(e:TypeId)(size:Nat)(R:Rd α)(v:Value)(l:List α)(css:List (List Value)):Prop where
 row:W.ownsRow B e size v l.length css.flatten
 len:css.length=l.length
 els:Ft W (Fx W t) fun W'=>∀(i:Nat) cs x,css[i]?=some cs→l[i]?=some x→R W' cs x
 tag:∀k,v.ownBlock=some k→t k=c
def aJ(t:Nat→Nat)(n c:Nat):Nat→Nat:=fun k=>if k<n then t k else c
theorem aR{t:Nat→Nat}{c:Nat}(h:k<n):aJ t n c k=t k:=M h
theorem pL{t:Nat→Nat}{c:Nat}(h:n≤k):aJ t n c k=c:=E (by omega)
section
variable {α:Type}{W W':World}{t t':Nat→Nat}{c B:Nat}{e:TypeId}{size:Nat}{R:Rd α}{v:Value}{l:List α}{css:List (List Value)}{T:Nat→Prop}{P:World→Prop}
theorem Ft.fx(h:Ft W (Fx W t) P)(hF:am T W W')(c:∀k,k<W.heap.size→T k→t k≠3∧¬Ty W k)(e:∀k,k<W.heap.size→t k=3→t' k=3):Ft W' (Fx W' t') P :=
 h.gc hF (fun k a d b=>d.elim (c k a b).1 (c k a b).2) fun k a d=>d.elim (fun h=>.inl (e k a h)) fun h=>.inr (h.o8 hF fun b=>(c k a b).2 h)
theorem RowL.to(h:RowL W t c B e size R v l css)(hF:am T W W')(b:∀k,k<W.heap.size→T k→t k≠c∧t k≠3∧¬Ty W k)(d:∀k,k<W.heap.size→t k=3→t' k=3)(f:∀k,k<W.heap.size→t k=c→t' k=c):RowL W' t' c B e size R v l css :=
 ⟨hF.owns h.row fun k a g=>(b k (h.row.lt k a).2 g).1 (h.tag k a),h.len,h.els.fx hF (fun k k1 k2=>(b k k1 k2).2) d,fun k a=>f k (h.row.lt k a).2 (h.tag k a)⟩
theorem RowL.below(h:RowL W t c B e size R v l css)(a:Below W.heap.size W W'):RowL W' t c B e size R v l css :=
 h.to (am.ce (S:=fun _=>False) a) (fun _ _ h=>h.elim) (fun _ _ h=>h) (fun _ _ h=>h)
theorem RowL.nil:RowL W t c B e size R (.slice none 0 0) [] []:=⟨pd _ _ _ _,rfl,fun _ _ _ i cs x h=>by simp at h,fun k h=>by simp[Value.ownBlock]at h⟩
theorem RowL.all(h:RowL W t c B e size R v l css):∀cs∈css,∃x,R W cs x:=fun cs a=>by
 obtain⟨i,hi,e⟩:=oS a;exact⟨l[i]' SP,h.els.here i cs _ SQ (bR SP)⟩
theorem RowL.reads(h:RowL W t c B e size R v l css)(a:0<size)(hk:∀W cs x,R W cs x→cs.length=size):ct size R W [v] l :=
 zih a h.len (fun cs pC=>aru) h.row h.els.here
theorem RowL.ft(h:RowL W t c B e size R v l css)(d:0<size)(hk:∀W cs x,R W cs x→cs.length=size):Ft W (fun k=>t k=c∨Fx W t k) fun W'=>ct size R W' [v] l:=by
 intro bP f a;refine zih (B:=B) (e:=e) d h.len (fun cs pC=>aru) ?_ (h.els bP f fun k k1 k2=>a k k1 (.inr k2));refine⟨h.row.1,?_⟩;rcases h.row.2 with i|⟨g,cap,j,rfl,m,b,rest⟩
 ·exact .inl i
 exact .inr ⟨g,cap,j,rfl,m,by rw[a g (bS.1 b).1 (.inl (h.tag g rfl))];exact b,rest⟩
theorem ly(h:RowL W t c B e size R v l css)(a:e≠51∧e≠137)(b:v.ownBlock=some k):¬Ty W k:=by
 obtain⟨cs,d⟩:=tH h.row k b;exact dF d a
theorem RowL.push{x:α}{cs:List Value}(h:RowL W t c B e size R v l css)(f:e≠51∧e≠137)(g:c≠3)(j:Ft W (Fx W t) fun W'=>R W' cs x)(n:m=l.length)
  (o:w9.ownsRow B e size v9 (m+1) (css.flatten++cs)) (p:W.grownBy w9 v.ownBlock) (q:mh W v v9):RowL w9 (aJ t W.heap.size c) c B e size R v9 (l++[x]) (css++[cs]):=by
 have hF:=eS p;have r:∀k,k<W.heap.size→v.ownBlock=some k→t k≠3∧¬Ty W k:=fun k _ a=>⟨fun h3=>g (by rw[←h.tag k a,h3]),ly h f a⟩;have s:∀k,k<W.heap.size→t k=3→aJ t W.heap.size c k=3:=fun k a h3=>by rw[aR a,h3]
 refine⟨by rw[bM,←n,XW];simpa using o,by simp[h.len],?_,fun k a=>?_⟩
 ·refine ((h.els.and j).fx hF r s).imp fun bP d i u y b e2=>?_;by_cases hi:i<css.length
  ·rw[pS hi]at b;rw[pS SP]at e2;exact d.1 i u y b e2
  have e8:=(ie.1 b).1;have e:i=css.length:=Ya;rw[nC Z,e,sS]at b;rw[nC (by rw[←h.len];omega),e,h.len,sS]at e2;simp at b e2;subst b e2;exact d.2
 rcases q k a with a|a
 ·rw[aR (h.row.lt k a).2];exact h.tag k a
 exact pL a
end
end
section
open RowKit
def o_:Rd K1:=fun _ cs x=>cs=[.string x.1,.bool x.2]
def n9:Rd qF:=fun W cs x=>∃v,cs=[.string x.1,v]∧Hj W [v] x.2
def nK(W:World)(a b c:Value)(s:dj):Prop:=a=.string s.1∧gy W [b] s.2.1∧fm W [c] s.2.2
def fX:Rd ky:=fun W cs x=>∃a1 a2 a3 b1 b2 b3,cs=[a1,a2,a3,b1,b2,b3,.int .i64 x.2.2]∧nK W a1 a2 a3 x.1∧nK W b1 b2 b3 x.2.1
def AC:Rd ut:=fun W cs x=>∃v,cs=[.string x.1,v,.int .i64 x.2.2]∧Hj W [v] x.2.1
def GE:Rd ap:=fun W cs x=>∃v2 v3 v4 v5 v6 v7,cs=[.string x.name,.int .i64 x.line,v2,v3,v4,v5,v6,v7]∧ct 2 o_ W [v2] x.rel∧ct 2 n9 W [v3] x.vars∧Hj W [v4] x.cl∧ct 7 fX W [v5] x.gr∧ct 7 fX W [v6] x.ci∧Hj W [v7] x.files
def mg(W:World)(vp vf:Value)(x:ch):Prop:=ct 8 GE W [vp] x.pk∧ct 3 AC W [vf] x.pf
theorem zkv:nJ o_:=fun _ _ _ _ h _=>h
theorem Ni:nJ n9:=fun _ _ _ _ ⟨v,e,h⟩ a=>⟨v,e,iY h a⟩
theorem nK.below{W W':World}{a b c:Value}{s:dj}(h:nK W a b c s)(d:Below W.heap.size W W'):nK W' a b c s:=⟨h.1,bz jm _ _ _ _ h.2.1 d,bz kR _ _ _ _ h.2.2 d⟩
theorem zn:nJ fX:=fun _ _ _ _ ⟨a1,a2,b,c,b2,b3,e,h1,d⟩ a=>⟨a1,a2,b,c,b2,b3,e,h1.below a,d.below a⟩
theorem AI:nJ AC:=fun _ _ _ _ ⟨v,e,h⟩ a=>⟨v,e,iY h a⟩
theorem Fk:nJ GE:=fun _ _ _ _ ⟨v2,v3,v4,v5,v6,v7,e,b,c,d,f,g,h⟩ a=>
 ⟨v2,v3,v4,v5,v6,v7,e,bz zkv _ _ _ _ b a,bz Ni _ _ _ _ c a,iY d a,bz zn _ _ _ _ f a,bz zn _ _ _ _ g a,iY h a⟩
theorem mg.below{W W':World}{vp vf:Value}{x:ch}(h:mg W vp vf x)(a:Below W.heap.size W W'):mg W' vp vf x:=⟨bz Fk _ _ _ _ h.1 a,bz AI _ _ _ _ h.2 a⟩
theorem len_rlsM{W:World}{cs:List Value}{x:K1}(h:o_ W cs x):cs.length=2:=by rw[show cs=_ from h];rfl
theorem len_varM{W:World}{cs:List Value}{x:qF}(h:n9 W cs x):cs.length=2:=by obtain⟨v,e,_⟩:=h;rw[e];rfl
theorem ybn{W:World}{cs:List Value}{x:ky}(h:fX W cs x):cs.length=7:=by obtain⟨a1,a2,_,_,b2,b3,e,_⟩:=h;rw[e];rfl
theorem len_pfM{W:World}{cs:List Value}{x:ut}(h:AC W cs x):cs.length=3:=by obtain⟨v,e,_⟩:=h;rw[e];rfl
theorem len_pkM{W:World}{cs:List Value}{x:ap}(h:GE W cs x):cs.length=8:=by obtain⟨v2,v3,v4,v5,v6,v7,e,_⟩:=h;rw[e];rfl
theorem len_str{W:World}{cs:List Value}{x:ByteArray}(h:qr W cs x):cs.length=1:=by rw[h.1];rfl
structure zz(W:World)(t:Nat→Nat)(B:Nat)(p:ap)(v2 v3 v4 v5 v6 v7:Value):Prop where
 rel:∃css,RowL W t 4 B 66 2 o_ v2 p.rel css
 vars:∃css,RowL W t 5 B 68 2 n9 v3 p.vars css
 cl:∃css,RowL W t 6 B 9 1 qr v4 p.cl css
 gr:∃css,RowL W t 7 B 96 7 fX v5 p.gr css
 ci:∃css,RowL W t 8 B 98 7 fX v6 p.ci css
 files:∃css,RowL W t 9 B 9 1 qr v7 p.files css
def Live(n:Nat):Prop:=4≤n∧n≤9
section
variable {W W':World}{t t':Nat→Nat}{B:Nat}{p:ap}{v2 v3 v4 v5 v6 v7:Value}{T:Nat→Prop}
theorem zz.to(h:zz W t B p v2 v3 v4 v5 v6 v7)(hF:am T W W')(b:∀k,k<W.heap.size→T k→¬Live (t k)∧t k≠3∧¬Ty W k)(d:∀k,k<W.heap.size→(t k=3∨Live (t k))→t' k=t k):zz W' t' B p v2 v3 v4 v5 v6 v7:=by
 have a:∀{α:Type} {c:Nat} {e:TypeId} {size:Nat} {R:Rd α} {v:Value} {l:List α},Live c→(∃css,RowL W t c B e size R v l css)→∃css,RowL W' t' c B e size R v l css:=by rintro α c e size R v l hc ⟨css,h⟩;exact⟨css,h.to hF (fun k k1 k2=>⟨fun e=>(b k k1 k2).1 (by rw[e];exact hc),(b k k1 k2).2⟩) (fun k k1 k2=>by rw[d k k1 (.inl k2),k2]) (fun k k1 k2=>by rw[d k k1 (.inr (by rw[k2];exact hc)),k2])⟩
 exact⟨a ⟨Z,Z⟩ h.rel,a ⟨Z,Z⟩ h.vars,a ⟨Z,Z⟩ h.cl,a ⟨Z,Z⟩ h.gr,a ⟨Z,Z⟩ h.ci,a ⟨Z,Z⟩ h.files⟩
theorem zz.below(h:zz W t B p v2 v3 v4 v5 v6 v7)(a:Below W.heap.size W W'):zz W' t B p v2 v3 v4 v5 v6 v7:=h.to (am.ce (S:=fun _=>False) a) (fun _ _ h=>h.elim) (fun _ _ _=>rfl)
theorem zz.ft(h:zz W t B p v2 v3 v4 v5 v6 v7):Ft W (fun k=>Fx W t k∨Live (t k)) fun W'=>GE W' [.string p.name,.int .i64 p.line,v2,v3,v4,v5,v6,v7] p:=by
 obtain⟨⟨c2,b⟩,⟨c3,d⟩,⟨c4,f⟩,⟨c5,g⟩,⟨c6,i⟩,⟨c7,j⟩⟩:=h;have a:∀{c:Nat} {P:World→Prop},Live c→Ft W (fun k=>t k=c∨Fx W t k) P→Ft W (fun k=>Fx W t k∨Live (t k)) P:=fun hc h=>h.mono fun k _ hk=>hk.elim (fun e=>.inr (by rw[e];exact hc)) .inl;have e2:=a ⟨Z,Z⟩ (b.ft Z fun _ _ _=>len_rlsM);have l:=a ⟨Z,Z⟩ (d.ft Z fun _ _ _=>len_varM);have m:=a ⟨Z,Z⟩ (f.ft Z fun _ _ _=>len_str);have n:=a ⟨Z,Z⟩ (g.ft Z fun _ _ _=>ybn);have o:=a ⟨Z,Z⟩ (i.ft Z fun _ _ _=>ybn);have q:=a ⟨Z,Z⟩ (j.ft Z fun _ _ _=>len_str);exact ((((((e2.and l).and m).and n).and o).and q)).imp fun bP ⟨⟨⟨⟨⟨k2,k3⟩,k4⟩,k5⟩,k6⟩,k7⟩=>⟨_,_,_,_,_,_,rfl,k2,k3,k4,k5,k6,k7⟩
end
structure eW(W:World)(t:Nat→Nat)(B:Nat)(vp:Value)(ps:List ap)(p:ap)(bN:List (List Value))(v2 v3 v4 v5 v6 v7:Value):Prop where
 row:W.ownsRow B 45 8 vp (ps.length+1) (bN.flatten++[.string p.name,.int .i64 p.line,v2,v3,v4,v5,v6,v7])
 len:bN.length=ps.length
 fix:Ft W (Fx W t) (fun W'=>∀(i:Nat) cs x,bN[i]?=some cs→ps[i]?=some x→GE W' cs x)
 tag:∀k,vp.ownBlock=some k→t k=1
 last:zz W t B p v2 v3 v4 v5 v6 v7
def PkRow(W:World)(t:Nat→Nat)(B:Nat)(vp:Value)(zv:List ap):Prop :=
 (zv=[]∧vp=.slice none 0 0)∨∃(ps:List ap) (p:ap) (bN:List (List Value)) (v2 v3 v4 v5 v6 v7:Value),zv=ps++[p]∧eW W t B vp ps p bN v2 v3 v4 v5 v6 v7
structure gv(W:World)(t:Nat→Nat)(B xb:Nat)(vp vf:Value)(x:ch):Prop where
 box:W.heap[xb]?=some (.cells #[vp,vf] 25 (0,0))
 o9:t xb=0
 pf:∃css,RowL W t 2 B 47 3 AC vf x.pf css
 pk:PkRow W t B vp x.pk
section
variable {W W':World}{t t':Nat→Nat}{B xb:Nat}{vp vf:Value}{x:ch}{zv:List ap}{T:Nat→Prop}
theorem eW.to{d:List ap}{p:ap}{v2 v3 v4 v5 v6 v7:Value}(h:eW W t B vp d p bN v2 v3 v4 v5 v6 v7)(hF:am T W W')(a:∀k,k<W.heap.size→T k→¬Live (t k)∧t k≠3∧t k≠1∧¬Ty W k)(c:∀k,k<W.heap.size→(t k=3∨Live (t k)∨t k=1)→t' k=t k):eW W' t' B vp d p bN v2 v3 v4 v5 v6 v7 :=
 ⟨hF.owns h.row fun k b e=>(a k (h.row.lt k b).2 e).2.2.1 (h.tag k b),h.len,h.fix.fx hF (fun k k1 k2=>⟨(a k k1 k2).2.1,(a k k1 k2).2.2.2⟩) (fun k k1 k2=>by rw[c k k1 (.inl k2),k2]),fun k b=>by rw[c k (h.row.lt k b).2 (.inr (.inr (h.tag k b))),h.tag k b],h.last.to hF (fun k k1 k2=>⟨(a k k1 k2).1,(a k k1 k2).2.1,(a k k1 k2).2.2.2⟩) fun k k1 k2=>c k k1 (k2.elim .inl fun h=>.inr (.inl h))⟩
theorem PkRow.to(h:PkRow W t B vp zv)(hF:am T W W')(a:∀k,k<W.heap.size→T k→¬Live (t k)∧t k≠3∧t k≠1∧¬Ty W k)(b:∀k,k<W.heap.size→(t k=3∨Live (t k)∨t k=1)→t' k=t k):PkRow W' t' B vp zv:=by
 rcases h with h|⟨c,p,bN,v2,v3,v4,v5,v6,v7,h1,L⟩
 ·exact .inl h
 exact .inr ⟨c,p,bN,v2,v3,v4,v5,v6,v7,h1,L.to hF a b⟩
theorem gv.to(h:gv W t B xb vp vf x)(hF:am T W W')(hT:∀k,k<W.heap.size→T k→9<t k∧¬Ty W k)(hG:∀k,k<W.heap.size→t k≤9→t' k=t k):gv W' t' B xb vp vf x:=by
 have a:=(bS.1 h.box).1;refine⟨bI h.box hF fun k=>by have:=(hT xb a k).1;have:=h.o9;omega,by rw[hG xb a (by rw[h.o9];omega),h.o9],?_,h.pk.to hF (fun k k1 k2=>?_) fun k k1 k2=>hG k k1 ?_⟩
 ·obtain⟨css,b⟩:=h.pf;exact⟨css,b.to hF (fun k k1 k2=>arv) (fun k k1 k2=>SR) (fun k k1 k2=>SR)⟩
 ·exact WW
 rcases k2 with k|k|k
 ·omega
 ·exact k.2
 omega
theorem gv.below(h:gv W t B xb vp vf x)(a:Below W.heap.size W W'):gv W' t B xb vp vf x:=h.to (am.ce (S:=fun _=>False) a) (fun _ _ h=>h.elim) (fun _ _ _=>rfl)
theorem eW.reads{a:List ap}{p:ap}{v2 v3 v4 v5 v6 v7:Value}(h:eW W t B vp a p bN v2 v3 v4 v5 v6 v7):ct 8 GE W [vp] (a++[p]):=by
 have b:∀(i:Nat) cs y,(bN++[[.string p.name,.int .i64 p.line,v2,v3,v4,v5,v6,v7]])[i]?=some cs→(a++[p])[i]?=some y→GE W cs y:=fun i cs y e1 e2=>by
  by_cases hi:i<bN.length
  ·rw[pS hi]at e1;rw[pS SP]at e2;exact h.fix.here i cs y e1 e2
  have e8:=(ie.1 e1).1;have e:i=bN.length:=Ya;rw[nC Z,e,sS]at e1;rw[nC (by rw[←h.len];omega),e,h.len,sS]at e2;simp at e1 e2;subst e1 e2;exact h.last.ft.here
 refine zih (B:=B) (e:=45) (css:=bN++[[.string p.name,.int .i64 p.line,v2,v3,v4,v5,v6,v7]]) D (by simp[h.len]) (fun cs c=>?_) (by simpa using h.row) b;obtain⟨i,hi,e⟩:=oS c;exact len_pkM (b i cs ((a++[p])[i]'(by have:=h.len;simp at hi⊢;omega)) SQ (bR _))
theorem gv.reads(h:gv W t B xb vp vf x):mg W vp vf x:=by
 obtain⟨css,a⟩:=h.pf;refine⟨?_,a.reads Z fun _ _ _=>len_pfM⟩;rcases h.pk with⟨h1,b⟩|⟨_,p,bN,v2,v3,v4,v5,v6,v7,h1,L⟩
 ·rw[h1,b];exact⟨_,0,rfl,bj _,bj _,fun i x hi=>vm⟩
 rw[h1];exact L.reads
theorem gv.nil(h:W.heap[xb]?=some (.cells #[.slice none 0 0,.slice none 0 0] 25 (0,0)))(a:t xb=0):gv W t B xb (.slice none 0 0) (.slice none 0 0) ⟨[],[]⟩ :=
 ⟨h,a,⟨[],RowL.nil⟩,.inl ⟨rfl,rfl⟩⟩
theorem AJ{W:World}{B:Nat}{a:List Value}{b a1 a2 c d f g i:Value}(h:W.ownsRow B e 8 v (n+1) (a++[b,a1,a2,c,d,f,g,i])):a.length=n*8:=by
 have:=h.1;simp at this;omega
theorem gv.step{b:List ap}{p c:ap}{v2 v3 v4 v5 v6 v7:Value}(h:gv W t B xb vp vf x)(f:eW W' t' B vp b c bN v2 v3 v4 v5 v6 v7)(hF:am T W W')(d:∀k,k<W.heap.size→T k→(Live (t k)∨t k=1)∧¬Ty W k)(a:∀k,k<W.heap.size→t' k=t k):gv W' t' B xb vp vf ⟨b++[c],x.pf⟩:=by
 have e:=(bS.1 h.box).1;refine⟨bI h.box hF fun k=>by have:=(d xb e k).1;have:=h.o9;unfold Live at *;omega,by rw[a xb e,h.o9],?_,.inr ⟨_,_,_,_,_,_,_,_,_,rfl,f⟩⟩;obtain⟨css,hp⟩:=h.pf;exact⟨css,hp.to hF (fun k k1 k2=>by have:=d k k1 k2;unfold Live at this;exact⟨Z,Z,this.2⟩) (fun k k1 k2=>by rw[a k k1,k2]) (fun k k1 k2=>by rw[a k k1,k2])⟩
end
theorem eW.aaj{W:World}{t:Nat→Nat}{B:Nat}{c:List ap}{p:ap}{v2 v3 v4 v5 v6 v7:Value}{cs:List Value}{q:K1}
  (L:eW W t B (.slice (some ⟨pb,0,none⟩) (c.length+1) cap) c p bN v2 v3 v4 v5 v6 v7) (hr:RowL W t 4 B 66 2 o_ v2 p.rel css) (i:Ft W (Fx W t) fun W'=>o_ W' cs q)
  (j:w9.ownsRow B 66 2 v9 (p.rel.length+1) (css.flatten++cs)) (hg:W.grownBy w9 v2.ownBlock) (l:mh W v2 v9) :
  eW (w9.setCell ⟨pb,c.length*8+2,none⟩ v9) (aJ t W.heap.size 4) B (.slice (some ⟨pb,0,none⟩) (c.length+1) cap) c { p with rel:=p.rel++[q] } bN v9 v3 v4 v5 v6 v7:=by
 refine KC ?_;intro eP oA re;have d:am (fun k=>k=pb) w9 (w9.setCell ⟨pb,c.length*8+2,none⟩ v9):=aN (am.refl _ _) _ _;have f:∀k,k<W.heap.size→t k=3→aJ t W.heap.size 4 k=3:=fun k hk h=>vx;have g:∀k,v2.ownBlock=some k→∀{c'},4≠c'→t k≠c'∧t k≠3∧¬Ty W k:=fun k hk c' hc=>by exact vI
 refine Kz ?_;intro tN;have Ic:¬Ty w9 pb:=by exact KF
 have t9:aJ t W.heap.size 4 pb=1:=JQ;have b:∀k,k=pb→∀{c'},1≠c'→aJ t W.heap.size 4 k≠c'∧aJ t W.heap.size 4 k≠3∧¬Ty w9 k:=fun k hk c' hc=>by exact KP
 have fT:=AJ L.row;refine⟨?_,L.len,((L.fix.fx eP (fun k a kT=>⟨(g k kT (c':=3) Z).1,ly hr D kT⟩) f).fx d (fun k _ kT=>⟨(b k kT (c':=3) Z).1,(b k kT (c':=3) Z).2.2⟩) (fun _ _ h=>h)),fun k hk=>JR,?_⟩
 ·have h1:=(tN.stored (c.length*8+2) v9).1;exact KJ
 exact⟨⟨_,(hr.push D Z i rfl j hg l).to d (fun k _ kT=>b k kT Z ) (fun _ _ h=>h) (fun _ _ h=>h)⟩,(L.last.vars.elim fun css hq=>⟨css,(hq.to eP (fun k a kT=>g k kT Z) f (fun k a e=>(aR a).trans e)).to d (fun k _ kT=>b k kT Z) (fun _ _ h=>h) (fun _ _ h=>h)⟩),(L.last.cl.elim fun css hq=>⟨css,(hq.to eP (fun k a kT=>g k kT Z) f (fun k a e=>(aR a).trans e)).to d (fun k _ kT=>b k kT Z) (fun _ _ h=>h) (fun _ _ h=>h)⟩),(L.last.gr.elim fun css hq=>⟨css,(hq.to eP (fun k a kT=>g k kT Z) f (fun k a e=>(aR a).trans e)).to d (fun k _ kT=>b k kT Z) (fun _ _ h=>h) (fun _ _ h=>h)⟩),(L.last.ci.elim fun css hq=>⟨css,(hq.to eP (fun k a kT=>g k kT Z) f (fun k a e=>(aR a).trans e)).to d (fun k _ kT=>b k kT Z) (fun _ _ h=>h) (fun _ _ h=>h)⟩),(L.last.files.elim fun css hq=>⟨css,(hq.to eP (fun k a kT=>g k kT Z) f (fun k a e=>(aR a).trans e)).to d (fun k _ kT=>b k kT Z) (fun _ _ h=>h) (fun _ _ h=>h)⟩)⟩
theorem eW.aaw{W:World}{t:Nat→Nat}{B:Nat}{d:List ap}{p:ap}{v2 v3 v4 v5 v6 v7:Value}{cs:List Value}{q:qF}
  (L:eW W t B (.slice (some ⟨pb,0,none⟩) (d.length+1) cap) d p bN v2 v3 v4 v5 v6 v7) (hr:RowL W t 5 B 68 2 n9 v3 p.vars css) (j:Ft W (Fx W t) fun W'=>n9 W' cs q)
  (l:w9.ownsRow B 68 2 v9 (p.vars.length+1) (css.flatten++cs)) (hg:W.grownBy w9 v3.ownBlock) (m:mh W v3 v9) :
  eW (w9.setCell ⟨pb,d.length*8+3,none⟩ v9) (aJ t W.heap.size 5) B (.slice (some ⟨pb,0,none⟩) (d.length+1) cap) d { p with vars:=p.vars++[q] } bN v2 v9 v4 v5 v6 v7:=by
 refine KC ?_;intro eP oA re;have f:am (fun k=>k=pb) w9 (w9.setCell ⟨pb,d.length*8+3,none⟩ v9):=aN (am.refl _ _) _ _;have g:∀k,k<W.heap.size→t k=3→aJ t W.heap.size 5 k=3:=fun k hk h=>vx;have i:∀k,v3.ownBlock=some k→∀{c'},5≠c'→t k≠c'∧t k≠3∧¬Ty W k:=fun k hk c' hc=>by exact vI
 refine Kz ?_;intro tN;have Ic:¬Ty w9 pb:=by exact KF
 have t9:aJ t W.heap.size 5 pb=1:=JQ;have c:∀k,k=pb→∀{c'},1≠c'→aJ t W.heap.size 5 k≠c'∧aJ t W.heap.size 5 k≠3∧¬Ty w9 k:=fun k hk c' hc=>by exact KP
 have fT:=AJ L.row;refine⟨?_,L.len,((L.fix.fx eP (fun k a kT=>⟨(i k kT (c':=3) Z).1,ly hr D kT⟩) g).fx f (fun k _ kT=>⟨(c k kT (c':=3) Z).1,(c k kT (c':=3) Z).2.2⟩) (fun _ _ h=>h)),fun k hk=>JR,?_⟩
 ·have h1:=(tN.stored (d.length*8+3) v9).1;exact KJ
 exact⟨(L.last.rel.elim fun css b=>⟨css,(b.to eP (fun k a kT=>i k kT Z) g (fun k a e=>(aR a).trans e)).to f (fun k _ kT=>c k kT Z) (fun _ _ h=>h) (fun _ _ h=>h)⟩),⟨_,(hr.push D Z j rfl l hg m).to f (fun k _ kT=>c k kT Z ) (fun _ _ h=>h) (fun _ _ h=>h)⟩,(L.last.cl.elim fun css b=>⟨css,(b.to eP (fun k a kT=>i k kT Z) g (fun k a e=>(aR a).trans e)).to f (fun k _ kT=>c k kT Z) (fun _ _ h=>h) (fun _ _ h=>h)⟩),(L.last.gr.elim fun css b=>⟨css,(b.to eP (fun k a kT=>i k kT Z) g (fun k a e=>(aR a).trans e)).to f (fun k _ kT=>c k kT Z) (fun _ _ h=>h) (fun _ _ h=>h)⟩),(L.last.ci.elim fun css b=>⟨css,(b.to eP (fun k a kT=>i k kT Z) g (fun k a e=>(aR a).trans e)).to f (fun k _ kT=>c k kT Z) (fun _ _ h=>h) (fun _ _ h=>h)⟩),(L.last.files.elim fun css b=>⟨css,(b.to eP (fun k a kT=>i k kT Z) g (fun k a e=>(aR a).trans e)).to f (fun k _ kT=>c k kT Z) (fun _ _ h=>h) (fun _ _ h=>h)⟩)⟩
theorem eW.aav{W:World}{t:Nat→Nat}{B:Nat}{d:List ap}{p:ap}{v2 v3 v4 v5 v6 v7:Value}{cs:List Value} 
  (L:eW W t B (.slice (some ⟨pb,0,none⟩) (d.length+1) cap) d p bN v2 v3 v4 v5 v6 v7) (hr:RowL W t 6 B 9 1 qr v4 p.cl css) (j:Ft W (Fx W t) fun W'=>qr W' cs q)
  (l:w9.ownsRow B 9 1 v9 (p.cl.length+1) (css.flatten++cs)) (hg:W.grownBy w9 v4.ownBlock) (m:mh W v4 v9) :
  eW (w9.setCell ⟨pb,d.length*8+4,none⟩ v9) (aJ t W.heap.size 6) B (.slice (some ⟨pb,0,none⟩) (d.length+1) cap) d { p with cl:=p.cl++[q] } bN v2 v3 v9 v5 v6 v7:=by
 refine KC ?_;intro eP oA re;have f:am (fun k=>k=pb) w9 (w9.setCell ⟨pb,d.length*8+4,none⟩ v9):=aN (am.refl _ _) _ _;have g:∀k,k<W.heap.size→t k=3→aJ t W.heap.size 6 k=3:=fun k hk h=>vx;have i:∀k,v4.ownBlock=some k→∀{c'},6≠c'→t k≠c'∧t k≠3∧¬Ty W k:=fun k hk c' hc=>by exact vI
 refine Kz ?_;intro tN;have Ic:¬Ty w9 pb:=by exact KF
 have t9:aJ t W.heap.size 6 pb=1:=JQ;have c:∀k,k=pb→∀{c'},1≠c'→aJ t W.heap.size 6 k≠c'∧aJ t W.heap.size 6 k≠3∧¬Ty w9 k:=fun k hk c' hc=>by exact KP
 have fT:=AJ L.row;refine⟨?_,L.len,((L.fix.fx eP (fun k a kT=>⟨(i k kT (c':=3) Z).1,ly hr D kT⟩) g).fx f (fun k _ kT=>⟨(c k kT (c':=3) Z).1,(c k kT (c':=3) Z).2.2⟩) (fun _ _ h=>h)),fun k hk=>JR,?_⟩
 ·have h1:=(tN.stored (d.length*8+4) v9).1;exact KJ
 exact⟨(L.last.rel.elim fun css b=>⟨css,(b.to eP (fun k a kT=>i k kT Z) g (fun k a e=>(aR a).trans e)).to f (fun k _ kT=>c k kT Z) (fun _ _ h=>h) (fun _ _ h=>h)⟩),(L.last.vars.elim fun css b=>⟨css,(b.to eP (fun k a kT=>i k kT Z) g (fun k a e=>(aR a).trans e)).to f (fun k _ kT=>c k kT Z) (fun _ _ h=>h) (fun _ _ h=>h)⟩),⟨_,(hr.push D Z j rfl l hg m).to f (fun k _ kT=>c k kT Z ) (fun _ _ h=>h) (fun _ _ h=>h)⟩,(L.last.gr.elim fun css b=>⟨css,(b.to eP (fun k a kT=>i k kT Z) g (fun k a e=>(aR a).trans e)).to f (fun k _ kT=>c k kT Z) (fun _ _ h=>h) (fun _ _ h=>h)⟩),(L.last.ci.elim fun css b=>⟨css,(b.to eP (fun k a kT=>i k kT Z) g (fun k a e=>(aR a).trans e)).to f (fun k _ kT=>c k kT Z) (fun _ _ h=>h) (fun _ _ h=>h)⟩),(L.last.files.elim fun css b=>⟨css,(b.to eP (fun k a kT=>i k kT Z) g (fun k a e=>(aR a).trans e)).to f (fun k _ kT=>c k kT Z) (fun _ _ h=>h) (fun _ _ h=>h)⟩)⟩
theorem eW.WP{W:World}{t:Nat→Nat}{B:Nat}{d:List ap}{p:ap}{v2 v3 v4 v5 v6 v7:Value}{cs:List Value}{q:ky}
  (L:eW W t B (.slice (some ⟨pb,0,none⟩) (d.length+1) cap) d p bN v2 v3 v4 v5 v6 v7) (hr:RowL W t 7 B 96 7 fX v5 p.gr css) (j:Ft W (Fx W t) fun W'=>fX W' cs q)
  (l:w9.ownsRow B 96 7 v9 (p.gr.length+1) (css.flatten++cs)) (hg:W.grownBy w9 v5.ownBlock) (m:mh W v5 v9) :
  eW (w9.setCell ⟨pb,d.length*8+5,none⟩ v9) (aJ t W.heap.size 7) B (.slice (some ⟨pb,0,none⟩) (d.length+1) cap) d { p with gr:=p.gr++[q] } bN v2 v3 v4 v9 v6 v7:=by
 refine KC ?_;intro eP oA re;have f:am (fun k=>k=pb) w9 (w9.setCell ⟨pb,d.length*8+5,none⟩ v9):=aN (am.refl _ _) _ _;have g:∀k,k<W.heap.size→t k=3→aJ t W.heap.size 7 k=3:=fun k hk h=>vx;have i:∀k,v5.ownBlock=some k→∀{c'},7≠c'→t k≠c'∧t k≠3∧¬Ty W k:=fun k hk c' hc=>by exact vI
 refine Kz ?_;intro tN;have Ic:¬Ty w9 pb:=by exact KF
 have t9:aJ t W.heap.size 7 pb=1:=JQ;have c:∀k,k=pb→∀{c'},1≠c'→aJ t W.heap.size 7 k≠c'∧aJ t W.heap.size 7 k≠3∧¬Ty w9 k:=fun k hk c' hc=>by exact KP
 have fT:=AJ L.row;refine⟨?_,L.len,((L.fix.fx eP (fun k a kT=>⟨(i k kT (c':=3) Z).1,ly hr D kT⟩) g).fx f (fun k _ kT=>⟨(c k kT (c':=3) Z).1,(c k kT (c':=3) Z).2.2⟩) (fun _ _ h=>h)),fun k hk=>JR,?_⟩
 ·have h1:=(tN.stored (d.length*8+5) v9).1;exact KJ
 exact⟨(L.last.rel.elim fun css b=>⟨css,(b.to eP (fun k a kT=>i k kT Z) g (fun k a e=>(aR a).trans e)).to f (fun k _ kT=>c k kT Z) (fun _ _ h=>h) (fun _ _ h=>h)⟩),(L.last.vars.elim fun css b=>⟨css,(b.to eP (fun k a kT=>i k kT Z) g (fun k a e=>(aR a).trans e)).to f (fun k _ kT=>c k kT Z) (fun _ _ h=>h) (fun _ _ h=>h)⟩),(L.last.cl.elim fun css b=>⟨css,(b.to eP (fun k a kT=>i k kT Z) g (fun k a e=>(aR a).trans e)).to f (fun k _ kT=>c k kT Z) (fun _ _ h=>h) (fun _ _ h=>h)⟩),⟨_,(hr.push D Z j rfl l hg m).to f (fun k _ kT=>c k kT Z ) (fun _ _ h=>h) (fun _ _ h=>h)⟩,(L.last.ci.elim fun css b=>⟨css,(b.to eP (fun k a kT=>i k kT Z) g (fun k a e=>(aR a).trans e)).to f (fun k _ kT=>c k kT Z) (fun _ _ h=>h) (fun _ _ h=>h)⟩),(L.last.files.elim fun css b=>⟨css,(b.to eP (fun k a kT=>i k kT Z) g (fun k a e=>(aR a).trans e)).to f (fun k _ kT=>c k kT Z) (fun _ _ h=>h) (fun _ _ h=>h)⟩)⟩
theorem eW.J3{W:World}{t:Nat→Nat}{B:Nat}{d:List ap}{p:ap}{v2 v3 v4 v5 v6 v7:Value}{cs:List Value}{q:ky}
  (L:eW W t B (.slice (some ⟨pb,0,none⟩) (d.length+1) cap) d p bN v2 v3 v4 v5 v6 v7) (hr:RowL W t 8 B 98 7 fX v6 p.ci css) (j:Ft W (Fx W t) fun W'=>fX W' cs q)
  (l:w9.ownsRow B 98 7 v9 (p.ci.length+1) (css.flatten++cs)) (hg:W.grownBy w9 v6.ownBlock) (m:mh W v6 v9) :
  eW (w9.setCell ⟨pb,d.length*8+6,none⟩ v9) (aJ t W.heap.size 8) B (.slice (some ⟨pb,0,none⟩) (d.length+1) cap) d { p with ci:=p.ci++[q] } bN v2 v3 v4 v5 v9 v7:=by
 refine KC ?_;intro eP oA re;have f:am (fun k=>k=pb) w9 (w9.setCell ⟨pb,d.length*8+6,none⟩ v9):=aN (am.refl _ _) _ _;have g:∀k,k<W.heap.size→t k=3→aJ t W.heap.size 8 k=3:=fun k hk h=>vx;have i:∀k,v6.ownBlock=some k→∀{c'},8≠c'→t k≠c'∧t k≠3∧¬Ty W k:=fun k hk c' hc=>by exact vI
 refine Kz ?_;intro tN;have Ic:¬Ty w9 pb:=by exact KF
 have t9:aJ t W.heap.size 8 pb=1:=JQ;have c:∀k,k=pb→∀{c'},1≠c'→aJ t W.heap.size 8 k≠c'∧aJ t W.heap.size 8 k≠3∧¬Ty w9 k:=fun k hk c' hc=>by exact KP
 have fT:=AJ L.row;refine⟨?_,L.len,((L.fix.fx eP (fun k a kT=>⟨(i k kT (c':=3) Z).1,ly hr D kT⟩) g).fx f (fun k _ kT=>⟨(c k kT (c':=3) Z).1,(c k kT (c':=3) Z).2.2⟩) (fun _ _ h=>h)),fun k hk=>JR,?_⟩
 ·have h1:=(tN.stored (d.length*8+6) v9).1;exact KJ
 exact⟨(L.last.rel.elim fun css b=>⟨css,(b.to eP (fun k a kT=>i k kT Z) g (fun k a e=>(aR a).trans e)).to f (fun k _ kT=>c k kT Z) (fun _ _ h=>h) (fun _ _ h=>h)⟩),(L.last.vars.elim fun css b=>⟨css,(b.to eP (fun k a kT=>i k kT Z) g (fun k a e=>(aR a).trans e)).to f (fun k _ kT=>c k kT Z) (fun _ _ h=>h) (fun _ _ h=>h)⟩),(L.last.cl.elim fun css b=>⟨css,(b.to eP (fun k a kT=>i k kT Z) g (fun k a e=>(aR a).trans e)).to f (fun k _ kT=>c k kT Z) (fun _ _ h=>h) (fun _ _ h=>h)⟩),(L.last.gr.elim fun css b=>⟨css,(b.to eP (fun k a kT=>i k kT Z) g (fun k a e=>(aR a).trans e)).to f (fun k _ kT=>c k kT Z) (fun _ _ h=>h) (fun _ _ h=>h)⟩),⟨_,(hr.push D Z j rfl l hg m).to f (fun k _ kT=>c k kT Z ) (fun _ _ h=>h) (fun _ _ h=>h)⟩,(L.last.files.elim fun css b=>⟨css,(b.to eP (fun k a kT=>i k kT Z) g (fun k a e=>(aR a).trans e)).to f (fun k _ kT=>c k kT Z) (fun _ _ h=>h) (fun _ _ h=>h)⟩)⟩
theorem eW.Pi{W:World}{t:Nat→Nat}{B:Nat}{d:List ap}{p:ap}{v2 v3 v4 v5 v6 v7:Value}{cs:List Value} 
  (L:eW W t B (.slice (some ⟨pb,0,none⟩) (d.length+1) cap) d p bN v2 v3 v4 v5 v6 v7) (hr:RowL W t 9 B 9 1 qr v7 p.files css) (j:Ft W (Fx W t) fun W'=>qr W' cs q)
  (l:w9.ownsRow B 9 1 v9 (p.files.length+1) (css.flatten++cs)) (hg:W.grownBy w9 v7.ownBlock) (m:mh W v7 v9) :
  eW (w9.setCell ⟨pb,d.length*8+7,none⟩ v9) (aJ t W.heap.size 9) B (.slice (some ⟨pb,0,none⟩) (d.length+1) cap) d { p with files:=p.files++[q] } bN v2 v3 v4 v5 v6 v9:=by
 refine KC ?_;intro eP oA re;have f:am (fun k=>k=pb) w9 (w9.setCell ⟨pb,d.length*8+7,none⟩ v9):=aN (am.refl _ _) _ _;have g:∀k,k<W.heap.size→t k=3→aJ t W.heap.size 9 k=3:=fun k hk h=>vx;have i:∀k,v7.ownBlock=some k→∀{c'},9≠c'→t k≠c'∧t k≠3∧¬Ty W k:=fun k hk c' hc=>by exact vI
 refine Kz ?_;intro tN;have Ic:¬Ty w9 pb:=by exact KF
 have t9:aJ t W.heap.size 9 pb=1:=JQ;have c:∀k,k=pb→∀{c'},1≠c'→aJ t W.heap.size 9 k≠c'∧aJ t W.heap.size 9 k≠3∧¬Ty w9 k:=fun k hk c' hc=>by exact KP
 have fT:=AJ L.row;refine⟨?_,L.len,((L.fix.fx eP (fun k a kT=>⟨(i k kT (c':=3) Z).1,ly hr D kT⟩) g).fx f (fun k _ kT=>⟨(c k kT (c':=3) Z).1,(c k kT (c':=3) Z).2.2⟩) (fun _ _ h=>h)),fun k hk=>JR,?_⟩
 ·have h1:=(tN.stored (d.length*8+7) v9).1;exact KJ
 exact⟨(L.last.rel.elim fun css b=>⟨css,(b.to eP (fun k a kT=>i k kT Z) g (fun k a e=>(aR a).trans e)).to f (fun k _ kT=>c k kT Z) (fun _ _ h=>h) (fun _ _ h=>h)⟩),(L.last.vars.elim fun css b=>⟨css,(b.to eP (fun k a kT=>i k kT Z) g (fun k a e=>(aR a).trans e)).to f (fun k _ kT=>c k kT Z) (fun _ _ h=>h) (fun _ _ h=>h)⟩),(L.last.cl.elim fun css b=>⟨css,(b.to eP (fun k a kT=>i k kT Z) g (fun k a e=>(aR a).trans e)).to f (fun k _ kT=>c k kT Z) (fun _ _ h=>h) (fun _ _ h=>h)⟩),(L.last.gr.elim fun css b=>⟨css,(b.to eP (fun k a kT=>i k kT Z) g (fun k a e=>(aR a).trans e)).to f (fun k _ kT=>c k kT Z) (fun _ _ h=>h) (fun _ _ h=>h)⟩),(L.last.ci.elim fun css b=>⟨css,(b.to eP (fun k a kT=>i k kT Z) g (fun k a e=>(aR a).trans e)).to f (fun k _ kT=>c k kT Z) (fun _ _ h=>h) (fun _ _ h=>h)⟩),⟨_,(hr.push D Z j rfl l hg m).to f (fun k _ kT=>c k kT Z ) (fun _ _ h=>h) (fun _ _ h=>h)⟩⟩
end
section
open RowKit
def q_{α:Type}(f:α→α→Bool)(l m:List α):Bool:=decide (l.length=m.length)&&(l.zip m).all fun p=>f p.1 p.2
section
variable {α:Type}{f:α→α→Bool}{l m:List α}
theorem zkb(h:l.length≠m.length):q_ f l m=false:=by unfold q_;rw[decide_eq_false h];rfl
theorem azh(h1:k<l.length)(_:k<m.length)(h:f l[k] m[k]=false):q_ f l m=false:=by
 unfold q_;rw[XZ];right;rw[List.all_eq_false];refine⟨(l[k],m[k]),?_,by simp[h]⟩;rw[DJ];exact⟨k,by rw[List.length_zip];omega,ae⟩
theorem abt(a:l.length=m.length)(h:∀j (h1:j<l.length) (_:j<m.length),f l[j] m[j]=true):q_ f l m=true:=by
 unfold q_;rw[aO a,x8,qy];intro p b;obtain⟨j,hj,rfl⟩:=oS b;rw[List.length_zip]at hj;rw[List.getElem_zip];exact h j Z Z
theorem eqAll_map{β:Type}{g:α→β}(b:∀x∈l,∀y∈m,f x y=true↔g x=g y):q_ f l m=true↔l.map g=m.map g:=by
 constructor
 ·intro h;unfold q_ at h;rw[fI,fE,qy]at h;refine Ia (by simpa using h.1) fun j h1 a=>?_;rw[gi]at h1 a;rw[DI,DI];refine (b _ (eZ h1) _ (eZ a)).1 (h.2 (l[j],m[j]) ?_);rw[DJ];exact⟨j,by rw[List.length_zip];omega,ae⟩
 intro h;have d:l.length=m.length:=by have:=iB List.length h;simpa using this
 refine abt d fun j h1 a=>(b _ (eZ h1) _ (eZ a)).2 ?_;have c:(l.map g)[j]?=(m.map g)[j]?:=by rw[h]
 rw[rC,rC,bR h1,bR a]at c;simpa using c
end
theorem ZY{α:Type}{R:Rd α}{l:List α}(h:ct sz R w [.slice a n c] l):n=l.length∧n≤9223372036854775807∧∀i x,l[i]?=some x→∃b off hH,a=some ⟨b,off,none⟩∧hH.length=sz∧(∀j u,hH[j]?=some u→w.cell? ⟨b,off+i*sz+j,none⟩=some u)∧R w hH x:=by
 obtain⟨_,cap,d,_,e,f⟩:=h;simp only[nj,lv,rL]at d;obtain⟨rfl,hn,_⟩:=d;unfold maxLen at e;exact⟨hn,Z,f⟩
theorem rE{α:Type}{R:Rd α}{l:List α}(h:ct sz R w [v] l):∃a c,v=.slice a l.length c:=by
 exact RD
end
section
open RowKit Shelf Lib av
attribute [local go_sem ↓] wp_at_zero wp_at_succ
def ycq(cs:List Value):Prop:=∃(p0:ByteArray)(p1:Option Addr)(oW:Nat)(oV:Nat),cs=[.string p0,.slice p1 oW oV]
theorem yeq{α:Type}{R:Rd α}(hR:nJ R)(qm:∀W cs x,R W cs x→ycq cs){w:World}{l m:List α}(h:ct 2 R w [v] l)(hm:ct 2 R w [u] m)
  {f:FuncId} (_:∀args w,(callFunc f args).run prog w=.ok (.enter f args) w) {g:α→α→Bool}
  (hf:∀W cs ds x y,Below w.heap.size w W→R W cs x→R W ds y→x∈l→y∈m→Calls prog f #[.agg cs.toArray,.agg ds.toArray] W fun e w'=>e=.returned (.bool (g x y))∧Below W.heap.size W w') :
  Calls prog 56 #[v,u,.func (.func f) #[] #[]] w fun e w'=>e=.returned (.bool (q_ g l m))∧Below w.heap.size w w':=by
 obtain⟨a,cap,rfl⟩:=rE h;obtain⟨a2,tY,rfl⟩:=rE hm;revert hR qm hf h hm;refine OP ?_;intro n hz n2 cc r HR qI Hf sq lB Hh Hn Hm fV Hr;go_enter func56,ntmps56;refine ON ?_;intro k1 cJ;go_wp2_with fail;clear k1;go_loopw [17] (fun i wr=>∃k:Nat,k≤n∧i=.int .i64 k∧(∀j (h1:j<l.length) (h2:j<m.length),j<k→g l[j] m[j]=true)∧Below w.heap.size w wr) (fun i _=>n-(RowKit.intOf i).toNat)
 case atStart=>exact⟨0,bj _,rfl,fun _ _ _ h=>Z,aL _ _⟩
 case round=>
  obtain⟨k,_,rfl,aj,aF⟩:=hrel;by_cases z:k<n
  ·refine Bo ?_;intro aI gY;obtain⟨b,off,hH,rfl,-,jI,hp⟩:=sq.o k _ (bR aI);obtain⟨b2,nY,Sc,rfl,-,lU,hq⟩:=lB.o k _ (bR gY);obtain⟨p0,p1,oW,oV,rfl⟩:=qI.o _ _ _ hp;obtain⟨q0,q1,xh,xg,rfl⟩:=qI.o _ _ _ hq;have p:=ab aF (jI 0 _ rfl);have s:=ab aF (jI 1 _ rfl);rw[mL]at p;obtain⟨wa,cW⟩:=Y (wr.alloc (.cells #[.string p0,.slice p1 oW oV] 68));obtain⟨ba,b9⟩:=Y wr.heap.size;have pa:wa.heap[ba]?=some (.cells #[.string p0,.slice p1 oW oV] 68 (0,0)):=DE;refine OB ?_;intro ai dC;have q:=ab dC (lU 0 _ rfl);have t:=ab dC (lU 1 _ rfl);rw[mL]at q;obtain⟨wb,eB⟩:=Y (wa.alloc (.cells #[.string q0,.slice q1 xh xg] 68));obtain⟨bb,kW⟩:=Y wa.heap.size;have pb:wb.heap[bb]?=some (.cells #[.string q0,.slice q1 xh xg] 68 (0,0)):=DF;refine Rw ?_;intro af iq eK y0 z0 y1 z1;simp only[aq,ar,aw]at y0 z0 y1 z1;refine RI ?_;intro hC;have cq:g l[k] m[k]=true→∀j (h1:j<l.length) (h2:j<m.length),j<k+1→g l[j] m[j]=true:=fun h j h1 h2 hjk=>by exact DP
   revert aj aF jI hp lU hq pa ai dC pb af iq eK hC cq;refine Rv ?_;intro e k5 k6 k7 cd bO Hp Hq l8 aB LB kU bh x_ yE dI dV HC He;go_upto_region 6 with (fail);rw[←cW,←b9];clear cW b9 p s;go_upto_region 7 with (fail);rw[←eB,←kW];clear eB kW q t;go_wp2_with fail;refine HC.o.mono ?_;refine KM ?_;intro w9 ca jN;clear y0 z0 y1 z1;exact R2
  exact OO
def ycs(cs:List Value):Prop:=∃(p0:ByteArray)(p1:Option Addr)(oW:Nat)(oV:Nat)(p2:Option Addr)(sJ:Nat)(sP:Nat)(p3:ByteArray)(p4:Option Addr)(sK:Nat)(sQ:Nat)(p5:Option Addr)(sL:Nat)(sI:Nat)(p6:Int),cs=[.string p0,.slice p1 oW oV,.slice p2 sJ sP,.string p3,.slice p4 sK sQ,.slice p5 sL sI,.int .i64 p6]
theorem yet{α:Type}{R:Rd α}(hR:nJ R)(qm:∀W cs x,R W cs x→ycs cs){w:World}{l m:List α}(h:ct 7 R w [v] l)(hm:ct 7 R w [u] m)
  {f:FuncId} (_:∀args w,(callFunc f args).run prog w=.ok (.enter f args) w) {g:α→α→Bool}
  (hf:∀W cs ds x y,Below w.heap.size w W→R W cs x→R W ds y→x∈l→y∈m→Calls prog f #[.agg cs.toArray,.agg ds.toArray] W fun e w'=>e=.returned (.bool (g x y))∧Below W.heap.size W w') :
  Calls prog 58 #[v,u,.func (.func f) #[] #[]] w fun e w'=>e=.returned (.bool (q_ g l m))∧Below w.heap.size w w':=by
 obtain⟨a,cap,rfl⟩:=rE h;obtain⟨a2,tY,rfl⟩:=rE hm;revert hR qm hf h hm;refine OP ?_;intro n hz n2 cc r HR qI Hf sq lB Hh Hn Hm fV Hr;go_enter func58,ntmps58;refine ON ?_;intro k1 cJ;go_wp2_with fail;clear k1;go_loopw [17] (fun i wr=>∃k:Nat,k≤n∧i=.int .i64 k∧(∀j (h1:j<l.length) (h2:j<m.length),j<k→g l[j] m[j]=true)∧Below w.heap.size w wr) (fun i _=>n-(RowKit.intOf i).toNat)
 case atStart=>exact⟨0,bj _,rfl,fun _ _ _ h=>Z,aL _ _⟩
 case round=>
  obtain⟨k,_,rfl,aj,aF⟩:=hrel;by_cases p:k<n
  ·refine Bo ?_;intro aI gY;obtain⟨b,off,hH,rfl,-,jI,hp⟩:=sq.o k _ (bR aI);obtain⟨b2,nY,Sc,rfl,-,lU,hq⟩:=lB.o k _ (bR gY);obtain⟨p0,p1,oW,oV,p2,sJ,sP,p3,p4,sK,sQ,p5,sL,sI,p6,rfl⟩:=qI.o _ _ _ hp;obtain⟨q0,q1,xh,xg,q2,Dc,C_,q3,q4,Dd,Da,q5,De,Db,q6,rfl⟩:=qI.o _ _ _ hq;refine V7 ?_;intro Am Ir IQ ID Kj Kk Kl;rw[mL]at Am;obtain⟨wa,cW⟩:=Y (wr.alloc (.cells #[.string p0,.slice p1 oW oV,.slice p2 sJ sP,.string p3,.slice p4 sK sQ,.slice p5 sL sI,.int .i64 p6] 96));obtain⟨ba,b9⟩:=Y wr.heap.size;have pa:wa.heap[ba]?=some (.cells #[.string p0,.slice p1 oW oV,.slice p2 sJ sP,.string p3,.slice p4 sK sQ,.slice p5 sL sI,.int .i64 p6] 96 (0,0)):=DE;refine VS ?_;intro ai dC An Lt I5 Km Kn Ko IE;rw[mL]at An;obtain⟨wb,eB⟩:=Y (wa.alloc (.cells #[.string q0,.slice q1 xh xg,.slice q2 Dc C_,.string q3,.slice q4 Dd Da,.slice q5 De Db,.int .i64 q6] 96));obtain⟨bb,kW⟩:=Y wa.heap.size;have pb:wb.heap[bb]?=some (.cells #[.string q0,.slice q1 xh xg,.slice q2 Dc C_,.string q3,.slice q4 Dd Da,.slice q5 De Db,.int .i64 q6] 96 (0,0)):=DF;exact ajx
  exact OO
def zxi(cs:List Value):Prop:=∃(p0:ByteArray)(p1:Option Addr)(oW:Nat)(oV:Nat)(p2:Option Addr)(sJ:Nat)(sP:Nat)(p3:ByteArray)(p4:Option Addr)(sK:Nat)(sQ:Nat)(p5:Option Addr)(sL:Nat)(sI:Nat)(p6:Int),cs=[.string p0,.slice p1 oW oV,.slice p2 sJ sP,.string p3,.slice p4 sK sQ,.slice p5 sL sI,.int .i64 p6]
theorem zzq{α:Type}{R:Rd α}(hR:nJ R)(qm:∀W cs x,R W cs x→zxi cs){w:World}{l m:List α}(h:ct 7 R w [v] l)(hm:ct 7 R w [u] m)
  {f:FuncId} (_:∀args w,(callFunc f args).run prog w=.ok (.enter f args) w) {g:α→α→Bool}
  (hf:∀W cs ds x y,Below w.heap.size w W→R W cs x→R W ds y→x∈l→y∈m→Calls prog f #[.agg cs.toArray,.agg ds.toArray] W fun e w'=>e=.returned (.bool (g x y))∧Below W.heap.size W w') :
  Calls prog 61 #[v,u,.func (.func f) #[] #[]] w fun e w'=>e=.returned (.bool (q_ g l m))∧Below w.heap.size w w':=by
 obtain⟨a,cap,rfl⟩:=rE h;obtain⟨a2,tY,rfl⟩:=rE hm;revert hR qm hf h hm;refine OP ?_;intro n hz n2 cc r HR qI Hf sq lB Hh Hn Hm fV Hr;go_enter func61,ntmps61;refine ON ?_;intro k1 cJ;go_wp2_with fail;clear k1;go_loopw [17] (fun i wr=>∃k:Nat,k≤n∧i=.int .i64 k∧(∀j (h1:j<l.length) (h2:j<m.length),j<k→g l[j] m[j]=true)∧Below w.heap.size w wr) (fun i _=>n-(RowKit.intOf i).toNat)
 case atStart=>exact⟨0,bj _,rfl,fun _ _ _ h=>Z,aL _ _⟩
 case round=>
  obtain⟨k,_,rfl,aj,aF⟩:=hrel;by_cases p:k<n
  ·refine Bo ?_;intro aI gY;obtain⟨b,off,hH,rfl,-,jI,hp⟩:=sq.o k _ (bR aI);obtain⟨b2,nY,Sc,rfl,-,lU,hq⟩:=lB.o k _ (bR gY);obtain⟨p0,p1,oW,oV,p2,sJ,sP,p3,p4,sK,sQ,p5,sL,sI,p6,rfl⟩:=qI.o _ _ _ hp;obtain⟨q0,q1,xh,xg,q2,Dc,C_,q3,q4,Dd,Da,q5,De,Db,q6,rfl⟩:=qI.o _ _ _ hq;refine V7 ?_;intro Am Ir IQ ID Kj Kk Kl;rw[mL]at Am;obtain⟨wa,cW⟩:=Y (wr.alloc (.cells #[.string p0,.slice p1 oW oV,.slice p2 sJ sP,.string p3,.slice p4 sK sQ,.slice p5 sL sI,.int .i64 p6] 98));obtain⟨ba,b9⟩:=Y wr.heap.size;have pa:wa.heap[ba]?=some (.cells #[.string p0,.slice p1 oW oV,.slice p2 sJ sP,.string p3,.slice p4 sK sQ,.slice p5 sL sI,.int .i64 p6] 98 (0,0)):=DE;refine VS ?_;intro ai dC An Lt I5 Km Kn Ko IE;rw[mL]at An;obtain⟨wb,eB⟩:=Y (wa.alloc (.cells #[.string q0,.slice q1 xh xg,.slice q2 Dc C_,.string q3,.slice q4 Dd Da,.slice q5 De Db,.int .i64 q6] 98));obtain⟨bb,kW⟩:=Y wa.heap.size;have pb:wb.heap[bb]?=some (.cells #[.string q0,.slice q1 xh xg,.slice q2 Dc C_,.string q3,.slice q4 Dd Da,.slice q5 De Db,.int .i64 q6] 98 (0,0)):=DF;exact ajx
  exact OO
def zxh(cs:List Value):Prop:=∃(p0:ByteArray)(p1:Option Addr)(oW:Nat)(oV:Nat)(p2:Int),cs=[.string p0,.slice p1 oW oV,.int .i64 p2]
theorem zzp{α:Type}{R:Rd α}(hR:nJ R)(qm:∀W cs x,R W cs x→zxh cs){w:World}{l m:List α}(h:ct 3 R w [v] l)(hm:ct 3 R w [u] m)
  {f:FuncId} (_:∀args w,(callFunc f args).run prog w=.ok (.enter f args) w) {g:α→α→Bool}
  (hf:∀W cs ds x y,Below w.heap.size w W→R W cs x→R W ds y→x∈l→y∈m→Calls prog f #[.agg cs.toArray,.agg ds.toArray] W fun e w'=>e=.returned (.bool (g x y))∧Below W.heap.size W w') :
  Calls prog 30 #[v,u,.func (.func f) #[] #[]] w fun e w'=>e=.returned (.bool (q_ g l m))∧Below w.heap.size w w':=by
 obtain⟨a,cap,rfl⟩:=rE h;obtain⟨a2,tY,rfl⟩:=rE hm;revert hR qm hf h hm;refine OP ?_;intro n hz n2 cc r HR qI Hf sq lB Hh Hn Hm fV Hr;go_enter func30,ntmps30;refine ON ?_;intro k1 cJ;go_wp2_with fail;clear k1;go_loopw [17] (fun i wr=>∃k:Nat,k≤n∧i=.int .i64 k∧(∀j (h1:j<l.length) (h2:j<m.length),j<k→g l[j] m[j]=true)∧Below w.heap.size w wr) (fun i _=>n-(RowKit.intOf i).toNat)
 case atStart=>exact⟨0,bj _,rfl,fun _ _ _ h=>Z,aL _ _⟩
 case round=>
  obtain⟨k,_,rfl,aj,aF⟩:=hrel;by_cases F:k<n
  ·refine Bo ?_;intro aI gY;obtain⟨b,off,hH,rfl,-,jI,hp⟩:=sq.o k _ (bR aI);obtain⟨b2,nY,Sc,rfl,-,lU,hq⟩:=lB.o k _ (bR gY);obtain⟨p0,p1,oW,oV,p2,rfl⟩:=qI.o _ _ _ hp;obtain⟨q0,q1,xh,xg,q2,rfl⟩:=qI.o _ _ _ hq;have p:=ab aF (jI 0 _ rfl);have z:=ab aF (jI 1 _ rfl);have A:=ab aF (jI 2 _ rfl);rw[mL]at p;obtain⟨wa,cW⟩:=Y (wr.alloc (.cells #[.string p0,.slice p1 oW oV,.int .i64 p2] 47));obtain⟨ba,b9⟩:=Y wr.heap.size;have pa:wa.heap[ba]?=some (.cells #[.string p0,.slice p1 oW oV,.int .i64 p2] 47 (0,0)):=DE;refine OB ?_;intro ai dC;have q:=ab dC (lU 0 _ rfl);have B:=ab dC (lU 1 _ rfl);have C:=ab dC (lU 2 _ rfl);rw[mL]at q;obtain⟨wb,eB⟩:=Y (wa.alloc (.cells #[.string q0,.slice q1 xh xg,.int .i64 q2] 47));obtain⟨bb,kW⟩:=Y wa.heap.size;have pb:wb.heap[bb]?=some (.cells #[.string q0,.slice q1 xh xg,.int .i64 q2] 47 (0,0)):=DF;refine Rw ?_;intro af iq eK y0 z0 y1 z1;have s:=J eK 2;have t:=J pb 2;simp only[aq,ar,aw]at y0 z0 y1 z1 s t;refine RI ?_;intro hC;have cq:g l[k] m[k]=true→∀j (h1:j<l.length) (h2:j<m.length),j<k+1→g l[j] m[j]=true:=fun h j h1 h2 hjk=>by exact DP
   revert aj aF jI hp lU hq pa ai dC pb af iq eK hC cq;refine Rv ?_;intro e k5 k6 k7 cd bO Hp Hq l8 aB LB kU bh x_ yE dI dV HC He;go_upto_region 6 with (fail);rw[←cW,←b9];clear cW b9 p z A;go_upto_region 7 with (fail);rw[←eB,←kW];clear eB kW q B C;go_wp2_with fail;refine HC.o.mono ?_;refine KM ?_;intro w9 ca jN;clear y0 z0 y1 z1 s t;exact R2
  exact OO
def ycr(cs:List Value):Prop:=∃(p0:ByteArray)(p1:Int)(p2:Option Addr)(sJ:Nat)(sP:Nat)(p3:Option Addr)(pn3:Nat)(pc3:Nat)(p4:Option Addr)(sK:Nat)(sQ:Nat)(p5:Option Addr)(sL:Nat)(sI:Nat)(p6:Option Addr)(pn6:Nat)(pc6:Nat)(p7:Option Addr)(pn7:Nat)(pc7:Nat),cs=[.string p0,.int .i64 p1,.slice p2 sJ sP,.slice p3 pn3 pc3,.slice p4 sK sQ,.slice p5 sL sI,.slice p6 pn6 pc6,.slice p7 pn7 pc7]
theorem yer{α:Type}{R:Rd α}(hR:nJ R)(qm:∀W cs x,R W cs x→ycr cs){w:World}{l m:List α}(h:ct 8 R w [v] l)(hm:ct 8 R w [u] m)
  {f:FuncId} (_:∀args w,(callFunc f args).run prog w=.ok (.enter f args) w) {g:α→α→Bool}
  (hf:∀W cs ds x y,Below w.heap.size w W→R W cs x→R W ds y→x∈l→y∈m→Calls prog f #[.agg cs.toArray,.agg ds.toArray] W fun e w'=>e=.returned (.bool (g x y))∧Below W.heap.size W w') :
  Calls prog 28 #[v,u,.func (.func f) #[] #[]] w fun e w'=>e=.returned (.bool (q_ g l m))∧Below w.heap.size w w':=by
 obtain⟨a,cap,rfl⟩:=rE h;obtain⟨a2,tY,rfl⟩:=rE hm;revert hR qm hf h hm;refine OP ?_;intro n hz n2 cc r HR qI Hf sq lB Hh Hn Hm fV Hr;go_enter func28,ntmps28;refine ON ?_;intro k1 cJ;go_wp2_with fail;clear k1;go_loopw [17] (fun i wr=>∃k:Nat,k≤n∧i=.int .i64 k∧(∀j (h1:j<l.length) (h2:j<m.length),j<k→g l[j] m[j]=true)∧Below w.heap.size w wr) (fun i _=>n-(RowKit.intOf i).toNat)
 case atStart=>exact⟨0,bj _,rfl,fun _ _ _ h=>Z,aL _ _⟩
 case round=>
  obtain⟨k,_,rfl,aj,aF⟩:=hrel;by_cases U:k<n
  ·refine Bo ?_;intro aI gY;obtain⟨b,off,hH,rfl,-,jI,hp⟩:=sq.o k _ (bR aI);obtain⟨b2,nY,Sc,rfl,-,lU,hq⟩:=lB.o k _ (bR gY);obtain⟨p0,p1,p2,sJ,sP,p3,pn3,pc3,p4,sK,sQ,p5,sL,sI,p6,pn6,pc6,p7,pn7,pc7,rfl⟩:=qI.o _ _ _ hp;obtain⟨q0,q1,q2,Dc,C_,q3,qn3,qc3,q4,Dd,Da,q5,De,Db,q6,qn6,qc6,q7,qn7,qc7,rfl⟩:=qI.o _ _ _ hq;refine V7 ?_;intro Am Ir IQ ID Kj Kk Kl;have S:=ab aF (jI 7 _ rfl);rw[mL]at Am;obtain⟨wa,cW⟩:=Y (wr.alloc (.cells #[.string p0,.int .i64 p1,.slice p2 sJ sP,.slice p3 pn3 pc3,.slice p4 sK sQ,.slice p5 sL sI,.slice p6 pn6 pc6,.slice p7 pn7 pc7] 45));obtain⟨ba,b9⟩:=Y wr.heap.size;have pa:wa.heap[ba]?=some (.cells #[.string p0,.int .i64 p1,.slice p2 sJ sP,.slice p3 pn3 pc3,.slice p4 sK sQ,.slice p5 sL sI,.slice p6 pn6 pc6,.slice p7 pn7 pc7] 45 (0,0)):=DE;refine VS ?_;intro ai dC An Lt I5 Km Kn Ko IE;have T:=ab dC (lU 7 _ rfl);rw[mL]at An;obtain⟨wb,eB⟩:=Y (wa.alloc (.cells #[.string q0,.int .i64 q1,.slice q2 Dc C_,.slice q3 qn3 qc3,.slice q4 Dd Da,.slice q5 De Db,.slice q6 qn6 qc6,.slice q7 qn7 qc7] 45));obtain⟨bb,kW⟩:=Y wa.heap.size;have pb:wb.heap[bb]?=some (.cells #[.string q0,.int .i64 q1,.slice q2 Dc C_,.slice q3 qn3 qc3,.slice q4 Dd Da,.slice q5 De Db,.slice q6 qn6 qc6,.slice q7 qn7 qc7] 45 (0,0)):=DF;refine Rw ?_;intro af iq eK y0 z0 y1 z1;have p:=J eK 2;have q:=J pb 2;have s:=J eK 3;have t:=J pb 3;have z:=J eK 4;have A:=J pb 4;have B:=J eK 5;have C:=J pb 5;have F:=J eK 6;have K:=J pb 6;have L:=J eK 7;have N:=J pb 7;simp only[aq,ar,aw]at y0 z0 y1 z1 p q s t z A B C F K L N;refine RI ?_;intro hC;have cq:g l[k] m[k]=true→∀j (h1:j<l.length) (h2:j<m.length),j<k+1→g l[j] m[j]=true:=fun h j h1 h2 hjk=>by exact DP
   revert aj aF jI hp lU hq pa ai dC pb af iq eK hC cq;refine Rv ?_;intro e k5 k6 k7 cd bO Hp Hq l8 aB LB kU bh x_ yE dI dV HC He;go_upto_region 6 with (fail);rw[←cW,←b9];clear cW b9 Am Ir IQ ID Kj Kk Kl S;go_upto_region 7 with (fail);rw[←eB,←kW];clear eB kW An Lt I5 Km Kn Ko IE T;go_wp2_with fail;refine HC.o.mono ?_;refine KM ?_;intro w9 ca jN;clear y0 z0 y1 z1 p q s t z A B C F K L N;exact R2
  exact OO
end
section
open RowKit Shelf Lib av cy
theorem JC{α β:Type}{f:α→β}{l m:List α}(a:l.length=m.length)(h:∀j (h1:j<l.length) (h2:j<m.length),f l[j]=f m[j]):l.map f=m.map f :=
 Ia (by simp[a]) fun j h1 h2=>by rw[DI,DI];exact h j (by simpa using h1) SN
theorem ztx{α β:Type}{f:α→β}{l m:List α}(h:l.length≠m.length):l.map f≠m.map f:=fun e=>h (by have:=iB List.length e;simpa using this)
theorem Ji{α β:Type}{f:α→β}{l m:List α}(h1:k<l.length)(h2:k<m.length)(h:f l[k]≠f m[k]):l.map f≠m.map f:=fun e=>h (by
 have a:(l.map f)[k]'(by simpa using h1)=f l[k]:=DI _;have e2:(m.map f)[k]' SN=f m[k]:=DI _;rw[←a,←e2];simp only[e])
def J2(p:ap):ByteArray×List K1×List qF×List ByteArray×List ky×List ky×List ByteArray:=(p.name,p.rel,p.vars,p.cl,p.gr.map gn,p.ci.map gn,p.files)
theorem zoi{p q:ap}:gh p=gh q↔J2 p=J2 q:=by
 unfold gh J2;simp only[ap.mk.injEq,t_,Zx]
theorem bare_iff{x y:ch}:bare x=bare y↔x.pk.map J2=y.pk.map J2∧x.pf.map pO=y.pf.map pO:=by
 unfold bare;rw[ch.mk.injEq];constructor
 ·rintro⟨h1,a⟩;have b:x.pk.length=y.pk.length:=arw;refine⟨JC b fun j k1 k2=>zoi.1 (XS fun bL=>Ji k1 k2 bL h1),a⟩
 rintro⟨h1,a⟩;have b:x.pk.length=y.pk.length:=arw;refine⟨JC b fun j k1 k2=>zoi.2 (XS fun bL=>Ji k1 k2 bL h1),a⟩
instance decDepM:DecidableEq ky:=@instDecidableEqProd dj (dj×Int) inferInstance (@instDecidableEqProd dj Int inferInstance inferInstance)
instance decTupP:DecidableEq (ByteArray×List K1×List qF×List ByteArray×List ky×List ky×List ByteArray) :=
 @instDecidableEqProd _ _ inferInstance (@instDecidableEqProd _ _ inferInstance (@instDecidableEqProd _ _ inferInstance (@instDecidableEqProd _ _ inferInstance (@instDecidableEqProd _ _ inferInstance (@instDecidableEqProd _ _ inferInstance inferInstance)))))
def nF(l m:List ky):Bool:=decide (l.map gn=m.map gn)
def sF(p q:ap):Bool:=decide (J2 p=J2 q)
def xp(l m:List ut):Bool:=decide (l.map pO=m.map pO)
def Dr(l m:List ap):Bool:=decide (l.map J2=m.map J2)
def zd(x y:ch):Bool:=Dr x.pk y.pk&&xp x.pf y.pf
theorem JK{x y:ch}:zd x y=true↔bare x=bare y:=by
 unfold zd Dr xp;rw[bare_iff];simp
theorem zvf(p q:ap):sF p q=(decide (p.name=q.name)&&(decide (p.rel=q.rel)&&(decide (p.vars=q.vars)&&(decide (p.cl=q.cl)&&(decide (p.files=q.files)&&(nF p.gr q.gr&&nF p.ci q.ci)))))):=by
 unfold sF nF J2;rw[Cs];simp only[t_,fE,fI];constructor
 ·rintro⟨h1,a,b,c,d,e,f⟩;exact⟨h1,a,b,c,f,d,e⟩
 rintro⟨h1,a,b,c,f,d,e⟩;exact⟨h1,a,b,c,d,e,f⟩
theorem zom{l:List K1}(h:ct 2 o_ w [v] l):∃a cap,v=.slice a l.length cap∧l.length≤9223372036854775807∧∀i x,l[i]?=some x→∃b off,a=some ⟨b,off,none⟩∧w.cell? ⟨b,off+i*2,none⟩=some (.string x.1)∧w.cell? ⟨b,off+i*2+1,none⟩=some (.bool x.2):=by
 revert h;refine KA ?_;intro a cap BR z_ se hv i x hi;obtain⟨b,off,hH,h1,h2,h3,h4⟩:=se i x hi;have c:hH=[.string x.1,.bool x.2]:=h4;subst c;exact⟨b,off,h1,CY,Fu⟩
theorem zrq{l:List qF}(h:ct 2 n9 w [v] l):∃a cap,v=.slice a l.length cap∧l.length≤9223372036854775807∧∀i x,l[i]?=some x→∃b off b1 c1,a=some ⟨b,off,none⟩∧w.cell? ⟨b,off+i*2,none⟩=some (.string x.1)∧w.cell? ⟨b,off+i*2+1,none⟩=some (.slice b1 x.2.length c1)∧Hj w [.slice b1 x.2.length c1] x.2:=by
 revert h;refine KA ?_;intro a cap BR z_ se hv i x hi;obtain⟨b,off,hH,h1,h2,h3,v1,h4,h5⟩:=se i x hi;obtain⟨a1,c1,rfl,-,-⟩:=lK h5;subst h4;exact⟨b,off,a1,c1,h1,CY,Fu,h5⟩
theorem ztj{l:List ut}(h:ct 3 AC w [v] l):∃a cap,v=.slice a l.length cap∧l.length≤9223372036854775807∧∀i x,l[i]?=some x→∃b off b1 c1,a=some ⟨b,off,none⟩∧w.cell? ⟨b,off+i*3,none⟩=some (.string x.1)∧w.cell? ⟨b,off+i*3+1,none⟩=some (.slice b1 x.2.1.length c1)∧w.cell? ⟨b,off+i*3+2,none⟩=some (.int .i64 x.2.2)∧Hj w [.slice b1 x.2.1.length c1] x.2.1:=by
 revert h;refine KA ?_;intro a cap BR z_ se hv i x hi;obtain⟨b,off,hH,h1,h2,h3,v1,h4,h5⟩:=se i x hi;obtain⟨a1,c1,rfl,-,-⟩:=lK h5;subst h4;exact⟨b,off,a1,c1,h1,CY,Fu,Yb,h5⟩
theorem u_{a b c:Value}{s:dj}(h:nK w a b c s):∃b1 c1 b2 c2,a=.string s.1∧b=.slice b1 s.2.1.length c1∧c=.slice b2 s.2.2.length c2∧gy w [.slice b1 s.2.1.length c1] s.2.1∧fm w [.slice b2 s.2.2.length c2] s.2.2:=by
 obtain⟨h1,d,e⟩:=h;obtain⟨a1,c1,rfl,-,-⟩:=qA d;obtain⟨a2,c2,rfl,-,-⟩:=sD e;exact⟨a1,c1,a2,c2,h1,rfl,rfl,d,e⟩
theorem zqr{l:List ky}(h:ct 7 fX w [v] l):∃a cap,v=.slice a l.length cap∧l.length≤9223372036854775807∧∀i x,l[i]?=some x→∃b off b1 c1 b2 c2 b3 c3 b4 c4,a=some ⟨b,off,none⟩∧
  w.cell? ⟨b,off+i*7,none⟩=some (.string x.1.1)∧w.cell? ⟨b,off+i*7+1,none⟩=some (.slice b1 x.1.2.1.length c1)∧w.cell? ⟨b,off+i*7+2,none⟩=some (.slice b2 x.1.2.2.length c2)∧
  w.cell? ⟨b,off+i*7+3,none⟩=some (.string x.2.1.1)∧w.cell? ⟨b,off+i*7+4,none⟩=some (.slice b3 x.2.1.2.1.length c3)∧w.cell? ⟨b,off+i*7+5,none⟩=some (.slice b4 x.2.1.2.2.length c4)∧w.cell? ⟨b,off+i*7+6,none⟩=some (.int .i64 x.2.2)∧
  (gy w [.slice b1 x.1.2.1.length c1] x.1.2.1∧fm w [.slice b2 x.1.2.2.length c2] x.1.2.2)∧gy w [.slice b3 x.2.1.2.1.length c3] x.2.1.2.1∧fm w [.slice b4 x.2.1.2.2.length c4] x.2.1.2.2:=by
 revert h;refine KA ?_;intro a cap BR z_ se hv i x hi;obtain⟨b,off,hH,h1,h2,h3,a1,a2,a3,a4,a5,a6,h4,h5,h6⟩:=se i x hi;obtain⟨b1,c1,b2,c2,rfl,rfl,rfl,k1,k2⟩:=u_ h5;obtain⟨b3,c3,b4,c4,rfl,rfl,rfl,k3,k4⟩:=u_ h6;subst h4;exact⟨b,off,b1,c1,b2,c2,b3,c3,b4,c4,h1,CY,Fu,Yb,by simpa using h3 3 _ rfl,by simpa using h3 4 _ rfl,by simpa using h3 5 _ rfl,by simpa using h3 6 _ rfl,⟨k1,k2⟩,k3,k4⟩
def xa(w:World)(v2 v3 v4 v5 v6 v7:Value)(x:ap):Prop:=ct 2 o_ w [v2] x.rel∧ct 2 n9 w [v3] x.vars∧Hj w [v4] x.cl∧ct 7 fX w [v5] x.gr∧ct 7 fX w [v6] x.ci∧Hj w [v7] x.files
theorem xa.below{x:ap}(h:xa w v2 v3 v4 v5 v6 v7 x)(a:Below w.heap.size w w'):xa w' v2 v3 v4 v5 v6 v7 x:=by
 obtain⟨b,c,d,e,f,g⟩:=h;exact⟨bz zkv _ _ _ _ b a,bz Ni _ _ _ _ c a,iY d a,bz zn _ _ _ _ e a,bz zn _ _ _ _ f a,iY g a⟩
theorem xa.shape{x:ap}(h:xa w v2 v3 v4 v5 v6 v7 x):∃b2 c2 b3 c3 b4 c4 b5 c5 b6 c6 b7 c7,v2=.slice b2 x.rel.length c2∧v3=.slice b3 x.vars.length c3∧v4=.slice b4 x.cl.length c4∧v5=.slice b5 x.gr.length c5∧v6=.slice b6 x.ci.length c6∧v7=.slice b7 x.files.length c7:=by
 obtain⟨a,b,c,d,e,f⟩:=h;obtain⟨b2,c2,rfl,-,-⟩:=zom a;obtain⟨b3,c3,rfl,-,-⟩:=zrq b;obtain⟨b4,c4,rfl,-,-⟩:=lK c;obtain⟨b5,c5,rfl,-,-⟩:=zqr d;obtain⟨b6,c6,rfl,-,-⟩:=zqr e;obtain⟨b7,c7,rfl,-,-⟩:=lK f;exact⟨b2,c2,b3,c3,b4,c4,b5,c5,b6,c6,b7,c7,rfl,rfl,rfl,rfl,rfl,rfl⟩
theorem zti{l:List ap}(h:ct 8 GE w [v] l):∃a cap,v=.slice a l.length cap∧l.length≤9223372036854775807∧∀i x,l[i]?=some x→∃b off b2 c2 b3 c3 b4 c4 b5 c5 b6 c6 b7 c7,a=some ⟨b,off,none⟩∧
  w.cell? ⟨b,off+i*8,none⟩=some (.string x.name)∧w.cell? ⟨b,off+i*8+1,none⟩=some (.int .i64 x.line)∧w.cell? ⟨b,off+i*8+2,none⟩=some (.slice b2 x.rel.length c2)∧w.cell? ⟨b,off+i*8+3,none⟩=some (.slice b3 x.vars.length c3)∧
  w.cell? ⟨b,off+i*8+4,none⟩=some (.slice b4 x.cl.length c4)∧w.cell? ⟨b,off+i*8+5,none⟩=some (.slice b5 x.gr.length c5)∧w.cell? ⟨b,off+i*8+6,none⟩=some (.slice b6 x.ci.length c6)∧w.cell? ⟨b,off+i*8+7,none⟩=some (.slice b7 x.files.length c7)∧
  xa w (.slice b2 x.rel.length c2) (.slice b3 x.vars.length c3) (.slice b4 x.cl.length c4) (.slice b5 x.gr.length c5) (.slice b6 x.ci.length c6) (.slice b7 x.files.length c7) x:=by
 revert h;refine KA ?_;intro a cap BR z_ se hv i x hi;obtain⟨b,off,hH,h1,h2,h3,v2,v3,v4,v5,v6,v7,h4,c⟩:=se i x hi;have c:xa w v2 v3 v4 v5 v6 v7 x:=c;obtain⟨b2,c2,b3,c3,b4,c4,b5,c5,b6,c6,b7,c7,rfl,rfl,rfl,rfl,rfl,rfl⟩:=c.shape;subst h4;exact⟨b,off,b2,c2,b3,c3,b4,c4,b5,c5,b6,c6,b7,c7,h1,CY,Fu,Yb,by simpa using h3 3 _ rfl,by simpa using h3 4 _ rfl,by simpa using h3 5 _ rfl,by simpa using h3 6 _ rfl,by simpa using h3 7 _ rfl,c⟩
theorem NQ{l:List K1}(h:ct 2 o_ w [.slice a n c] l):n=l.length∧n≤9223372036854775807∧∀i x,l[i]?=some x→∃b off,a=some ⟨b,off,none⟩∧w.cell? ⟨b,off+i*2,none⟩=some (.string x.1)∧w.cell? ⟨b,off+i*2+1,none⟩=some (.bool x.2):=by
 obtain⟨_,cap,e,hz,g⟩:=zom h;exact OG
theorem ND{l:List qF}(h:ct 2 n9 w [.slice a n c] l):n=l.length∧n≤9223372036854775807∧∀i x,l[i]?=some x→∃b off b1 c1,a=some ⟨b,off,none⟩∧w.cell? ⟨b,off+i*2,none⟩=some (.string x.1)∧w.cell? ⟨b,off+i*2+1,none⟩=some (.slice b1 x.2.length c1)∧Hj w [.slice b1 x.2.length c1] x.2:=by
 obtain⟨_,cap,e,hz,g⟩:=zrq h;exact OG
theorem pfs_at{l:List ut}(h:ct 3 AC w [.slice a n c] l):n=l.length∧n≤9223372036854775807∧∀i x,l[i]?=some x→∃b off b1 c1,a=some ⟨b,off,none⟩∧w.cell? ⟨b,off+i*3,none⟩=some (.string x.1)∧w.cell? ⟨b,off+i*3+1,none⟩=some (.slice b1 x.2.1.length c1)∧w.cell? ⟨b,off+i*3+2,none⟩=some (.int .i64 x.2.2)∧Hj w [.slice b1 x.2.1.length c1] x.2.1:=by
 obtain⟨_,cap,e,hz,g⟩:=ztj h;exact OG
theorem vC{l:List ky}(h:ct 7 fX w [.slice a n c] l):n=l.length∧n≤9223372036854775807∧∀i x,l[i]?=some x→∃b off b1 c1 b2 c2 b3 c3 b4 c4,a=some ⟨b,off,none⟩∧
  w.cell? ⟨b,off+i*7,none⟩=some (.string x.1.1)∧w.cell? ⟨b,off+i*7+1,none⟩=some (.slice b1 x.1.2.1.length c1)∧w.cell? ⟨b,off+i*7+2,none⟩=some (.slice b2 x.1.2.2.length c2)∧
  w.cell? ⟨b,off+i*7+3,none⟩=some (.string x.2.1.1)∧w.cell? ⟨b,off+i*7+4,none⟩=some (.slice b3 x.2.1.2.1.length c3)∧w.cell? ⟨b,off+i*7+5,none⟩=some (.slice b4 x.2.1.2.2.length c4)∧w.cell? ⟨b,off+i*7+6,none⟩=some (.int .i64 x.2.2)∧
  (gy w [.slice b1 x.1.2.1.length c1] x.1.2.1∧fm w [.slice b2 x.1.2.2.length c2] x.1.2.2)∧gy w [.slice b3 x.2.1.2.1.length c3] x.2.1.2.1∧fm w [.slice b4 x.2.1.2.2.length c4] x.2.1.2.2:=by
 obtain⟨_,cap,e,hz,g⟩:=zqr h;exact OG
theorem pks_at{l:List ap}(h:ct 8 GE w [.slice a n c] l):n=l.length∧n≤9223372036854775807∧∀i x,l[i]?=some x→∃b off b2 c2 b3 c3 b4 c4 b5 c5 b6 c6 b7 c7,a=some ⟨b,off,none⟩∧
  w.cell? ⟨b,off+i*8,none⟩=some (.string x.name)∧w.cell? ⟨b,off+i*8+1,none⟩=some (.int .i64 x.line)∧w.cell? ⟨b,off+i*8+2,none⟩=some (.slice b2 x.rel.length c2)∧w.cell? ⟨b,off+i*8+3,none⟩=some (.slice b3 x.vars.length c3)∧
  w.cell? ⟨b,off+i*8+4,none⟩=some (.slice b4 x.cl.length c4)∧w.cell? ⟨b,off+i*8+5,none⟩=some (.slice b5 x.gr.length c5)∧w.cell? ⟨b,off+i*8+6,none⟩=some (.slice b6 x.ci.length c6)∧w.cell? ⟨b,off+i*8+7,none⟩=some (.slice b7 x.files.length c7)∧
  xa w (.slice b2 x.rel.length c2) (.slice b3 x.vars.length c3) (.slice b4 x.cl.length c4) (.slice b5 x.gr.length c5) (.slice b6 x.ci.length c6) (.slice b7 x.files.length c7) x:=by
 obtain⟨_,cap,e,hz,g⟩:=zti h;exact OG
end
section
open RowKit Shelf Lib av cy
attribute [local go_sem ↓] wp_at_zero wp_at_succ
def Dw(l:List ByteArray):Prop:=l.length≤50∧∀x∈l,x.size≤100
structure zuh(p:ap):Prop where
 name:p.name.size≤100
 rel:p.rel.length≤30∧∀x∈p.rel,x.1.size≤100
 vars:p.vars.length≤20∧∀x∈p.vars,x.1.size≤100∧Dw x.2
 cl:Dw p.cl
 gr:p.gr.length≤40∧∀x∈p.gr,tQ x.1∧tQ x.2.1
 ci:p.ci.length≤40∧∀x∈p.ci,tQ x.1∧tQ x.2.1
 files:Dw p.files
def FY(x:ch):Prop:=(x.pk.length≤30∧∀p∈x.pk,zuh p)∧x.pf.length≤20∧∀q∈x.pf,q.1.size≤100∧Dw q.2.1
theorem F2{α:Type}{P:α→Prop}{l:List α}(_:n=l.length)(h:∀(j:Nat) x,j<n→l[j]?=some x→P x):∀x∈l,P x:=fun x hx=>by
 obtain⟨i,hi,e⟩:=oS hx;exact h i x Z SQ
theorem zjj(h:Hj w [.slice a n c] l):Calls prog 14 #[.slice a n c] w fun e w'=>(∃r,e=.returned (.bool r)∧(r=false→Dw l))∧w=w':=by
 obtain⟨_,cap,e,_,g⟩:=lK h;simp only[rL]at e;obtain⟨rfl,hn,rfl⟩:=e;obtain⟨Hh,Hg,Hn⟩:=aQ h g hn;clear h g hn;go_enter func14,ntmps14;by_cases t:50<n
 ·have m:decide ((50:Int)<(n:Int))=true:=aX;exact aop
 have m:decide ((50:Int)<(n:Int))=false:=aX;go_wp2_with fail;have z:n≤50:=Z;clear m t;go_loopw [9] (fun i wr=>∃k:Nat,k≤n∧i=.int .i64 k∧(∀(j:Nat) x,j<k→l[j]?=some x→x.size≤100)∧w=wr) (fun i _=>n-(RowKit.intOf i).toNat)
 case atStart=>exact⟨0,bj _,rfl,fun j x h=>Z,rfl⟩
 case round=>
  obtain⟨k,_,rfl,d,rfl⟩:=hrel;by_cases A:k<n
  ·have aI:k<l.length:=gl;obtain⟨b,off,rfl,d0,p⟩:=Hg.o k aI;obtain⟨x,hx⟩:=Y (l[k]);have f:l[k]?=some x:=lD;rw[←hx]at d0 p;refine s_ ?_;intro k5 k6;clear hx aI p;by_cases q:100<x.size
   ·have u:decide ((100:Int)<(x.size:Int))=true:=aX;obtain⟨cd,s⟩:=ak d f;clear d f;exact aop
   have u:decide ((100:Int)<(x.size:Int))=false:=aX;obtain⟨cd,s,v⟩:=aQ d f q;clear d f q;refine cK ?_;go_roundw
   case rel=>
    refine⟨k+1,Z,cj,fun j y B hy=>?_,sU⟩;by_cases e:j=k
    ·subst e;rw[s.o]at hy;obtain rfl:=nt hy;have:=v.o;omega
    exact OL
   case measure=>exact gT
  obtain rfl:k=n:=Z;have cd:=O d;clear d;go_wp2_with fail;go_ret;exact⟨⟨false,rfl,fun _=>⟨gl,F2 Hn.o cd.o⟩⟩,rfl⟩
set_option linter.unusedVariables false in
theorem zwd{p:ap}(af:p.name=nm)(z:xa w (.slice b2 n2 c2) (.slice b3 n3 c3) (.slice b4 n4 c4) (.slice b5 n5 c5) (.slice b6 n6 c6) (.slice b7 n7 c7) p):
  Calls prog 13 #[.agg #[.string nm,.int .i64 li,.slice b2 n2 c2,.slice b3 n3 c3,.slice b4 n4 c4,.slice b5 n5 c5,.slice b6 n6 c6,.slice b7 n7 c7]] w fun e w'=>(∃r,e=.returned (.bool r)∧(r=false→zuh p))∧Below w.heap.size w w':=by
 obtain⟨W0,bw⟩:=Y (w.alloc (.cells #[.string nm,.int .i64 li,.slice b2 n2 c2,.slice b3 n3 c3,.slice b4 n4 c4,.slice b5 n5 c5,.slice b6 n6 c6,.slice b7 n7 c7] 45));obtain⟨nb,ck⟩:=Y w.heap.size;have A:Below w.heap.size w W0:=LH;have q:W0.heap[nb]?=some (.cells #[.string nm,.int .i64 li,.slice b2 n2 c2,.slice b3 n3 c3,.slice b4 n4 c4,.slice b5 n5 c5,.slice b6 n6 c6,.slice b7 n7 c7] 45 (0,0)):=Tc;have t:=z.below A;obtain⟨cS,cc,mZ⟩:=NQ t.1;obtain⟨CL,hz3,hg3⟩:=ND t.2.1;obtain⟨ayl,kh,LL⟩:=vC t.2.2.2.1;obtain⟨hn6,kj,ayc⟩:=vC t.2.2.2.2.1;have ag:=zjj t.2.2.1;have ah:=zjj t.2.2.2.2.2;have sA:=aH (aL W0.heap.size W0);have B:=J q 0;have C:=J q 2;have F:=J q 3;have K:=J q 4;have L:=J q 5;have N:=J q 6;have R:=J q 7;simp only[aq,ar,aw]at B C F K L N R;revert af z A q t cS mZ CL hg3 ayl LL hn6 ayc ag ah;refine uv ?_;intro mj Hp cr cU GZ fV lB MF axp Vt axz Hn6 Hg6 wj Fe;go_enter func13,ntmps13;go_upto_region 1 with (fail);refine mn ?_;clear bw ck;by_cases ax:100<nm.size
 ·have S:decide ((100:Int)<(nm.size:Int))=true:=aX;exact td
 have S:decide ((100:Int)<(nm.size:Int))=false:=aX;by_cases ay:30<n2
 ·have T:decide ((30:Int)<(n2:Int))=true:=aX;exact td
 have T:decide ((30:Int)<(n2:Int))=false:=aX;by_cases e2:20<n3
 ·have U:decide ((20:Int)<(n3:Int))=true:=aX;exact td
 have U:decide ((20:Int)<(n3:Int))=false:=aX;by_cases az:40<n5
 ·have X:decide ((40:Int)<(n5:Int))=true:=aX;exact td
 have X:decide ((40:Int)<(n5:Int))=false:=aX;by_cases aA:40<n6
 ·have aa:decide ((40:Int)<(n6:Int))=true:=aX;exact td
 have aa:decide ((40:Int)<(n6:Int))=false:=aX;go_wp2_with fail;refine wj.o.mono ?_;rintro e w1 ⟨⟨r,rfl,ad⟩,rfl⟩;have ai:=O ad;clear ad
 cases r with
 |true=>exact td
 |false=>
  go_wp2_with fail
  refine Fe.o.mono ?_;rintro e w1 ⟨⟨r,rfl,ae⟩,rfl⟩;have al:=O ae;clear ae
  cases r with
  |true=>exact td
  |false=>
   go_wp2_with fail
   clear B C F K L N R S T U X aa;go_loopw [48] (fun i wr=>∃k:Nat,k≤n2∧i=.int .i64 k∧(∀(j:Nat) x,j<k→p.rel[j]?=some x→x.1.size≤100)∧Below W0.heap.size W0 wr) (fun i _=>n2-(RowKit.intOf i).toNat)
   case atStart=>exact⟨0,bj _,rfl,fun j x h=>Z,sA.o⟩
   case round=>
    obtain⟨k,u,rfl,aj,aF⟩:=hrel;have px:=J (G aF cU.o) 2;simp only[aq,ar,aw]at px;by_cases v:k<n2
    ·have aI:k<p.rel.length:=EB;obtain⟨x,hx⟩:=Y (p.rel[k]);have nO:p.rel[k]?=some x:=lD;refine Bn ?_;intro k5 k6;clear hx;obtain⟨b,off,rfl,d0,-⟩:=lB.o k x nO;obtain⟨s,hs⟩:=Y x.1;rw[←hs]at d0;have d0:=ab aF d0;by_cases TM:100<s.size
     ·have k7:decide ((100:Int)<(s.size:Int))=true:=aX;revert aj aF nO hs;refine bV ?_;intro cd bO vW Hs;exact Wj
     have k7:decide ((100:Int)<(s.size:Int))=false:=aX;revert aj aF nO hs TM;refine bU ?_;intro cd bO vW Hs Ur;refine cK ?_;go_roundw
     case rel=>
      refine⟨k+1,Z,cj,fun j y hj hy=>?_,bO.o⟩;by_cases e:j=k
      ·subst e;rw[vW.o]at hy;obtain rfl:=nt hy;rw[←Hs.o];have:=Ur.o;omega
      exact OL
     case measure=>exact gT
    obtain rfl:n2=k:=Z;have an:=F2 fV.o aj;clear px;have px:=J (G aF cU.o) 3;simp only[aq,ar,aw]at px;replace sA:=aH aF;obtain⟨cd,bO⟩:=ak aj aF;clear aj aF;go_wp2_with fail;clear px;go_loopw [63] (fun i wr=>∃k:Nat,k≤n3∧i=.int .i64 k∧(∀(j:Nat) x,j<k→p.vars[j]?=some x→x.1.size≤100∧Dw x.2)∧Below W0.heap.size W0 wr) (fun i _=>n3-(RowKit.intOf i).toNat)
    case atStart=>exact⟨0,bj _,rfl,fun j x h=>Z,sA.o⟩
    case round=>
     obtain⟨k,u,rfl,aj,aF⟩:=hrel;have px:=J (G aF cU.o) 3;simp only[aq,ar,aw]at px;by_cases v:k<n3
     ·have aI:k<p.vars.length:=by have:=MF.o;omega
      obtain⟨x,hx⟩:=Y (p.vars[k]);have nO:p.vars[k]?=some x:=lD;refine kG ?_;intro k5;have k6:(k:Int)<(n3:Int):=Z;clear hx;obtain⟨b,off,ua,uc,rfl,d0,d1,hu⟩:=axp.o k x nO;obtain⟨s,hs⟩:=Y x.1;obtain⟨un,PM⟩:=Y x.2.length;exact apw
     obtain rfl:n3=k:=Z;have ao:=F2 MF.o aj;clear px;have px:=J (G aF cU.o) 5;simp only[aq,ar,aw]at px;replace sA:=aH aF;obtain⟨cd,bO⟩:=ak aj aF;clear aj aF;go_wp2_with fail;clear px;go_loopw [87] (fun i wr=>∃k:Nat,k≤n5∧i=.int .i64 k∧(∀(j:Nat) x,j<k→p.gr[j]?=some x→tQ x.1∧tQ x.2.1)∧Below W0.heap.size W0 wr) (fun i _=>n5-(RowKit.intOf i).toNat)
     case atStart=>exact⟨0,bj _,rfl,fun j x h=>Z,sA.o⟩
     case round=>
      obtain⟨k,u,rfl,aj,aF⟩:=hrel;have px:=J (G aF cU.o) 5;simp only[aq,ar,aw]at px;by_cases v:k<n5
      ·have aI:k<p.gr.length:=by have:=Vt.o;omega
       obtain⟨x,hx⟩:=Y (p.gr[k]);have nO:p.gr[k]?=some x:=lD;refine kG ?_;intro k5;have k6:(k:Int)<(n5:Int):=Z;clear hx;obtain⟨b,off,ud,ue,FL,zw,CS,wL,CT,wM,rfl,x0,x1,x2,x3,x4,x5,-,⟨nr,uS⟩,uT,uU⟩:=axz.o k x nO;refine aqk ?_;intro pT l_ pU ma sZ mK uq oQ s8 nB s9 nD x0 x1 x2 fA E0 E6 gX;clear x3 x4 x5;revert aj aF nO nr uS uT uU l_ ma mK oQ nB nD E0 E6 gX;refine GB ?_;intro cd bO vW Vc YJ YK YL Qv Ve VC QR VD VE HG1 HG2 uL;go_wp2_with fail;refine HG1.o.mono ?_;rintro e w9 ⟨⟨r,rfl,hsm⟩,ca⟩;have jN:=bO.o.trans (ca.mono bO.o.size);have ack:=HG2.o _ jN;obtain⟨x3,x4,x5⟩:=uL.o _ jN;have T3:=J (G jN cU.o) 5;exact aqc
      obtain rfl:n5=k:=Z;have au:=F2 Vt.o aj;clear px;have px:=J (G aF cU.o) 6;simp only[aq,ar,aw]at px;replace sA:=aH aF;obtain⟨cd,bO⟩:=ak aj aF;clear aj aF;go_wp2_with fail;clear px;go_loopw [110] (fun i wr=>∃k:Nat,k≤n6∧i=.int .i64 k∧(∀(j:Nat) x,j<k→p.ci[j]?=some x→tQ x.1∧tQ x.2.1)∧Below W0.heap.size W0 wr) (fun i _=>n6-(RowKit.intOf i).toNat)
      case atStart=>exact⟨0,bj _,rfl,fun j x h=>Z,sA.o⟩
      case round=>
       obtain⟨k,u,rfl,aj,aF⟩:=hrel;have px:=J (G aF cU.o) 6;simp only[aq,ar,aw]at px;by_cases v:k<n6
       ·have aI:k<p.ci.length:=by have:=Hn6.o;omega
        obtain⟨x,hx⟩:=Y (p.ci[k]);have nO:p.ci[k]?=some x:=lD;refine kG ?_;intro k5;have k6:(k:Int)<(n6:Int):=Z;clear hx;obtain⟨b,off,ud,ue,FL,zw,CS,wL,CT,wM,rfl,x0,x1,x2,x3,x4,x5,-,⟨nr,uS⟩,uT,uU⟩:=Hg6.o k x nO;refine aqk ?_;intro pT l_ pU ma sZ mK uq oQ s8 nB s9 nD x0 x1 x2 fA E0 E6 gX;clear x3 x4 x5;revert aj aF nO nr uS uT uU l_ ma mK oQ nB nD E0 E6 gX;refine GB ?_;intro cd bO vW Vc YJ YK YL Qv Ve VC QR VD VE HG1 HG2 uL;go_wp2_with fail;refine HG1.o.mono ?_;rintro e w9 ⟨⟨r,rfl,hsm⟩,ca⟩;have jN:=bO.o.trans (ca.mono bO.o.size);have ack:=HG2.o _ jN;obtain⟨x3,x4,x5⟩:=uL.o _ jN;have T3:=J (G jN cU.o) 6;exact aqc
       obtain rfl:n6=k:=Z;have av:=F2 Hn6.o aj;clear px;obtain⟨cd,bO⟩:=ak aj aF;clear aj aF;go_wp2_with fail;go_ret;exact⟨⟨false,rfl,fun _=>⟨by rw[mj.o];omega,⟨EB,an⟩,⟨by have:=MF.o;omega,ao⟩,ai.o Iw,⟨by have:=Vt.o;omega,au⟩,⟨by have:=Hn6.o;omega,av⟩,al.o Iw⟩⟩,cr.o.trans (bO.o.mono cr.o.size)⟩
set_option linter.unusedVariables false in
theorem yeo{x0:ch}(u:mg w (.slice a1 n1 c1) (.slice a2 n2 c2) x0):
  Calls prog 6 #[.agg #[.slice a1 n1 c1,.slice a2 n2 c2]] w fun e w'=>(∃r,e=.returned (.bool r)∧(r=false→FY x0))∧Below w.heap.size w w':=by
 obtain⟨W0,bw⟩:=Y (w.alloc (.cells #[.slice a1 n1 c1,.slice a2 n2 c2] 25));obtain⟨nb,ck⟩:=Y w.heap.size;have v:Below w.heap.size w W0:=LH;have q:W0.heap[nb]?=some (.cells #[.slice a1 n1 c1,.slice a2 n2 c2] 25 (0,0)):=Tc;have t:=u.below v;obtain⟨lT,m_,hg0⟩:=pks_at t.1;obtain⟨cz,dD,oM⟩:=pfs_at t.2;have sA:=aH (aL W0.heap.size W0);have z:=J q 0;have A:=J q 1;simp only[aq,ar,aw]at z A;revert u v q t lT hg0 cz oM;refine fg ?_;intro Hp cr cU GZ Fj Q6 oY sq;go_enter func6,ntmps6;go_upto_region 1 with (fail);refine mn ?_;clear bw ck;by_cases T:30<n1
 ·have B:decide ((30:Int)<(n1:Int))=true:=aX;exact td
 have B:decide ((30:Int)<(n1:Int))=false:=aX;by_cases U:20<n2
 ·have C:decide ((20:Int)<(n2:Int))=true:=aX;exact td
 have C:decide ((20:Int)<(n2:Int))=false:=aX;go_wp2_with fail;clear z A B C;go_loopw [18] (fun i wr=>∃k:Nat,k≤n1∧i=.int .i64 k∧(∀(j:Nat) x,j<k→x0.pk[j]?=some x→zuh x)∧Below W0.heap.size W0 wr) (fun i _=>n1-(RowKit.intOf i).toNat)
 case atStart=>exact⟨0,bj _,rfl,fun j x h=>Z,sA.o⟩
 case round=>
  obtain⟨k,K,rfl,aj,aF⟩:=hrel;have n:=J (G aF cU.o) 0;simp only[aq,ar,aw]at n;by_cases L:k<n1
  ·have aI:k<x0.pk.length:=by have:=Fj.o;omega
   obtain⟨x,hx⟩:=Y (x0.pk[k]);have nO:x0.pk[k]?=some x:=lD;refine kG ?_;intro k5;have k6:(k:Int)<(n1:Int):=Z;clear hx;obtain⟨b,off,q2,s2,q3,s3,q4,s4,q5,s5,q6,s6,q7,s7,rfl,x0,x1,x2,x3,x4,x5,x6,p,rx⟩:=Q6.o k x nO;obtain⟨z2,cc⟩:=Y x.rel.length;rw[←cc]at x2;obtain⟨z3,hz3⟩:=Y x.vars.length;rw[←hz3]at x3;obtain⟨z4,wh⟩:=Y x.cl.length;rw[←wh]at x4;obtain⟨z5,kh⟩:=Y x.gr.length;rw[←kh]at x5;obtain⟨z6,kj⟩:=Y x.ci.length;rw[←kj]at x6;obtain⟨z7,Ud⟩:=Y x.files.length;rw[←Ud]at p;rw[←cc,←hz3,←wh,←kh,←kj,←Ud]at rx;obtain⟨nm,dJ⟩:=Y x.name;obtain⟨li,yi⟩:=Y x.line;rw[←dJ]at x0;rw[←yi]at x1;have N:=zwd (li:=li) dJ.symm (rx.below aF);refine WX ?_;intro x0 x1 x2 x3 x4 x5 x6;have p:=ab aF p;revert aj aF nO cc hz3 wh kh kj rx Ud dJ yi N;refine zN ?_;intro cd bO vW dZ Jb Rb G5 ns Hrx Hz7 B4 Hli HG;go_wp2_with fail;refine HG.o.mono ?_;rintro e w9 ⟨⟨r,rfl,hsm⟩,ca⟩;have F:=bO.o.trans (ca.mono bO.o.size);clear x0 x1 x2 x3 x4 x5 x6 p n;obtain⟨nW,d_,jH⟩:=aQ hsm ca F;clear hsm ca F
   cases r with
   |true=>exact aly
   |false=>
    go_wp2_with fail
    go_roundw
    case rel=>
     refine⟨k+1,Z,cj,fun j y hj hy=>?_,jH.o⟩;by_cases e:j=k
     ·subst e;rw[vW.o]at hy;obtain rfl:=nt hy;exact nW.o Iw
     exact OL
    case measure=>exact gT
  obtain rfl:n1=k:=Z;have R:=F2 Fj.o aj;clear n;have n:=J (G aF cU.o) 1;simp only[aq,ar,aw]at n;replace sA:=aH aF;obtain⟨cd,bO⟩:=ak aj aF;clear aj aF;go_wp2_with fail;clear n;go_loopw [31] (fun i wr=>∃k:Nat,k≤n2∧i=.int .i64 k∧(∀(j:Nat) x,j<k→x0.pf[j]?=some x→x.1.size≤100∧Dw x.2.1)∧Below W0.heap.size W0 wr) (fun i _=>n2-(RowKit.intOf i).toNat)
  case atStart=>exact⟨0,bj _,rfl,fun j x h=>Z,sA.o⟩
  case round=>
   obtain⟨k,K,rfl,aj,aF⟩:=hrel;have n:=J (G aF cU.o) 1;simp only[aq,ar,aw]at n;by_cases L:k<n2
   ·have aI:k<x0.pf.length:=J5;obtain⟨x,hx⟩:=Y (x0.pf[k]);have nO:x0.pf[k]?=some x:=lD;refine Bn ?_;intro k5 k6;clear hx;obtain⟨b,off,ua,uc,rfl,d0,d1,-,hu⟩:=sq.o k x nO;obtain⟨s,hs⟩:=Y x.1;obtain⟨un,PM⟩:=Y x.2.1.length;exact apw
   obtain rfl:n2=k:=Z;have S:=F2 oY.o aj;clear n;obtain⟨cd,bO⟩:=ak aj aF;clear aj aF;go_wp2_with fail;go_ret;exact⟨⟨false,rfl,fun _=>⟨⟨by have:=Fj.o;omega,R⟩,J5,S⟩⟩,cr.o.trans (bO.o.mono cr.o.size)⟩
def iM(l:List ByteArray):ByteArray:=l.foldl (fun s x=>s++⟨#[32]⟩++x) ⟨#[]⟩
theorem zpa(l:List ByteArray)(x:ByteArray):iM (l++[x])=iM l++⟨#[32]⟩++x:=by
 unfold iM;rw[List.foldl_append];rfl
theorem C5(l:List ByteArray):(iM l).data.toList=l.flatMap fun x=>32::x.data.toList:=by
 suffices h:∀(l:List ByteArray)(s:ByteArray),(l.foldl (fun s x=>s++⟨#[32]⟩++x) s).data.toList=s.data.toList++l.flatMap fun x=>32::x.data.toList by have:=h l ⟨#[]⟩;unfold iM;exact uu
 intro l
 induction l with
 |nil=>intro s;simp
 |cons x r a=>intro s;rw[EJ,a,fz,fz];simp
theorem ycn(a b:ByteArray):(a++b).size=a.size+b.size:=by rw[←em.len,fz,bM,em.len,em.len]
theorem zpb{l:List ByteArray}(h:∀x∈l,x.size≤70000):∀k,k≤l.length→(iM (l.take k)).size≤70001*k
 |0,_=>by rw[Sq];exact aE _
 |k+1,a=>by have h1:=zpb h k Z;have b:=h l[k] (eZ Z);rw[pP Z,zpa,ycn,ycn];have c:(⟨#[32]⟩:ByteArray).size=1:=rfl;omega
theorem zpc{l:List ByteArray}(h:Hj w [.slice a n c] l)(t:l.length≤70000)(r:∀x∈l,x.size≤70000):Calls prog 19 #[.slice a n c] w fun e w'=>e=.returned (.string (iM l))∧w'=w:=by
 obtain⟨_,cap,e,_,g⟩:=lK h;simp only[rL]at e;obtain⟨rfl,hn,rfl⟩:=e;have u:=zpb r;revert h t r g hn u;refine bX ?_;intro Hh Hl Hx Hg Hn ir;go_enter func19,ntmps19;go_wp2_with fail;go_loopw [3,7] (fun v i wr=>∃k:Nat,k≤n∧v=.string (iM (l.take k))∧i=.int .i64 k∧wr=w) (fun _ i _=>n-(RowKit.intOf i).toNat)
 case atStart=>exact⟨0,bj _,rfl,rfl,rfl⟩
 case round=>
  obtain⟨k,_,rfl,rfl,rfl⟩:=hrel;by_cases z:k<n
  ·have m:k<l.length:=gl;obtain⟨b,off,rfl,d0,-⟩:=Hg.o k m;obtain⟨x,yI⟩:=Y (l[k]);rw[←yI]at d0;refine s_ ?_;intro k5 k6;have p:iM (l.take (k+1))=iM (l.take k)++⟨#[32]⟩++x:=by rw[pP m,zpa,yI]
   have A:x.size≤70000:=by rw[yI];exact Hx.o _ (eZ m)
   have y:(iM (l.take k)).size≤5000000000:=fu (ir.o k Z) (by have:=Hl.o;omega);obtain⟨s,j⟩:=Y (iM (l.take k));rw[←j];rw[←j]at p y;obtain⟨VA,iS,Hs⟩:=aQ yI p j;clear yI p j;refine cK ?_;go_roundw
   case rel=>exact⟨k+1,Z,by rw[iS.o],cj,sU⟩
   case measure=>exact gT
  obtain rfl:k=n:=Z;have q:l.take k=l:=lH (jg Hn.o.symm);rw[q];obtain⟨s,j⟩:=Y (iM l);rw[←j];obtain⟨Hs,jd⟩:=ak j q;clear j q;go_wp2_with fail;go_ret;exact⟨by rw[Hs.o];rfl,rfl⟩
theorem zls{l m a m2:List ky}(h:l.map gn≠m.map gn):(nF l m&&nF a m2)=false:=by unfold nF;rw[decide_eq_false h];rfl
theorem zlr{l m a m2:List ky}(h:a.map gn≠m2.map gn):(nF l m&&nF a m2)=false:=by unfold nF;rw[decide_eq_false h,Bool.and_false]
theorem ztc{p q:ap}{nm2:ByteArray}{li2:Int}{d3:Option Addr}{e3:Nat}{d4:Option Addr}{e4:Nat}{d5:Option Addr}{e5:Nat}{d6:Option Addr}{e6:Nat}{d7:Option Addr}{e7:Nat}
  (K:xa w (.slice b2 n2 c2) (.slice b3 n3 c3) (.slice b4 n4 c4) (.slice b5 n5 c5) (.slice b6 n6 c6) (.slice b7 n7 c7) p) (L:xa w (.slice d2 m2 e2) (.slice d3 m3 e3) (.slice d4 m4 e4) (.slice d5 m5 e5) (.slice d6 m6 e6) (.slice d7 m7 e7) q) :
  Calls prog 54 #[.agg #[.string nm,.int .i64 li,.slice b2 n2 c2,.slice b3 n3 c3,.slice b4 n4 c4,.slice b5 n5 c5,.slice b6 n6 c6,.slice b7 n7 c7],.agg #[.string nm2,.int .i64 li2,.slice d2 m2 e2,.slice d3 m3 e3,.slice d4 m4 e4,.slice d5 m5 e5,.slice d6 m6 e6,.slice d7 m7 e7],.bool false] w fun e w'=>e=.returned (.bool (nF p.gr q.gr&&nF p.ci q.ci))∧Below w.heap.size w w':=by
 refine afn ?_;intro W1 aK g hg;have CK:Below w.heap.size w W1:=LF;have al:W1.heap[g]?=some (.cells #[.string nm,.int .i64 li,.slice b2 n2 c2,.slice b3 n3 c3,.slice b4 n4 c4,.slice b5 n5 c5,.slice b6 n6 c6,.slice b7 n7 c7] 45 (0,0)):=yz;have an:W1.heap[g+1]?=some (.cells #[.string nm2,.int .i64 li2,.slice d2 m2 e2,.slice d3 m3 e3,.slice d4 m4 e4,.slice d5 m5 e5,.slice d6 m6 e6,.slice d7 m7 e7] 45 (0,0)):=yq;obtain⟨l5,z5,g5⟩:=vC (K.below CK).2.2.2.1;obtain⟨r5,s,f5⟩:=vC (L.below CK).2.2.2.1;obtain⟨l6,z6,g6⟩:=vC (K.below CK).2.2.2.2.1;obtain⟨r6,t,f6⟩:=vC (L.below CK).2.2.2.2.1;obtain⟨L5,hL5⟩:=Y p.gr;obtain⟨M5,FE⟩:=Y q.gr;obtain⟨L6,hL6⟩:=Y p.ci;obtain⟨M6,hM6⟩:=Y q.ci;rw[←hL5]at l5 g5;rw[←FE]at r5 f5;rw[←hL6]at l6 g6;rw[←hM6]at r6 f6;rw[←hL5,←FE,←hL6,←hM6];obtain⟨r,fw⟩:=Y ((nF L5 M5&&nF L6 M6));rw[←fw];have x5:=J al 5;have x6:=J al 6;have aR:=J an 5;have aT:=J an 6;simp only[aq,ar,aw]at x5 x6 aR aT;have N:=l5;have R:=r5;have S:=l6;have T:=r6;clear l5 r5 l6 r6 hL5 FE hL6 hM6;have ao:=g5;have au:=f5;have av:=g6;have ax:=f6;clear g5 f5 g6 f6;have ay:=al;have az:=an;clear al an;have sA:=aH (aL W1.heap.size W1);by_cases U:n5=m5
 case neg=>
  have aU:((n5:Int) !=(m5:Int))=true:=aX;have lN:r=false:=by rw[fw];exact zls (ztx (by rw[←N,←R];exact U))
  have qR:=aH lN;clear lN K L N R S T ao au av ax ay az fw U;exact aia
 have aU:((n5:Int) !=(m5:Int))=false:=aX;by_cases aA:n6=m6
 case neg=>
  have aV:((n6:Int) !=(m6:Int))=true:=aX;have lN:r=false:=by rw[fw];exact zlr (ztx (by rw[←S,←T];exact aA))
  have qR:=aH lN;clear lN K L N R S T ao au av ax ay az fw U aA;exact aia
 have aV:((n6:Int) !=(m6:Int))=false:=aX;have bq:=aH K;have br:=aH L;have aD:=aH N;have aW:=aH R;have aE:=aH S;have aY:=aH T;have a6:=aH ao;have a7:=aH au;have a8:=aH av;have bc:=aH ax;have aG:=aH ay;have aB:=aH az;have X:=aH fw;have aJ:=aH U;have aM:=aH aA;clear K L N R S T ao au av ax ay az fw U aA;have Es:=aH CK;clear CK;go_enter func54,ntmps54;go_upto_region 1 with (fail);refine iE ?_;clear aK hg;go_wp2_with fail;clear aU aV x5 x6 aR aT;go_loopw [32] (fun i wr=>∃k:Nat,k≤n5∧i=.int .i64 k∧(∀j (h1:j<L5.length) (h2:j<M5.length),j<k→gn L5[j]=gn M5[j])∧Below W1.heap.size W1 wr) (fun i _=>n5-(RowKit.intOf i).toNat)
 case atStart=>exact⟨0,bj _,rfl,fun _ _ _ h=>Z,sA.o⟩
 case round=>
  obtain⟨k,bd,rfl,aj,aF⟩:=hrel;have C:=J (G aF aG.o) 5;have F:=J (G aF aB.o) 5;simp only[aq,ar,aw]at C F;by_cases be:k<n5
  ·have aI:k<L5.length:=by have:=aD.o;omega
   have gY:k<M5.length:=by have:=aW.o;have:=aJ.o;omega
   obtain⟨x,hx⟩:=Y (L5[k]);obtain⟨y,hy⟩:=Y (M5[k]);obtain⟨b,off,ud,ue,FL,zw,CS,wL,CT,wM,rfl,x0,x1,x2,x3,x4,x5,x6,⟨nr,uS⟩,uT,uU⟩:=a6.o k x lD;obtain⟨b',gK,xj,fb,Ny,fC,Nz,fD,NA,Dh,rfl,u,v,z,A,B,s,t,⟨rj,CP⟩,CQ,CR⟩:=a7.o k y Kh;have aa:x.1=y.1→x.2.1=y.2.1→∀j (h1:j<L5.length) (h2:j<M5.length),j<k+1→gn L5[j]=gn M5[j]:=fun h h' j h1 h2 hjk=>by exact aoc
   have ad:¬(x.1=y.1∧x.2.1=y.2.1)→L5.map gn≠M5.map gn:=fun h=>Ji aI gY (by rw[←hx,←hy];unfold gn;intro e;simp only[t_,lv]at e;exact h e);refine Wg ?_;intro pT l_ pU ma sZ mK uq oQ s8 nB s9 nD;obtain⟨Dg,yO⟩:=Y x.2.2;rw[←l_]at x0;rw[←ma]at x1 nr;rw[←mK]at x2 uS;rw[←oQ]at x3;rw[←nB]at x4 uT;rw[←nD]at x5 uU;rw[←yO]at x6;obtain⟨wO,wk⟩:=Y y.1.1;obtain⟨xk,uX⟩:=Y y.1.2.1.length;obtain⟨Dj,vo⟩:=Y y.1.2.2.length;obtain⟨I6,AA⟩:=Y y.2.1.1;obtain⟨C2,vq⟩:=Y y.2.1.2.1.length;obtain⟨C3,vr⟩:=Y y.2.1.2.2.length;obtain⟨Di,yP⟩:=Y y.2.2;rw[←wk]at u;rw[←uX]at v rj;rw[←vo]at z CP;rw[←AA]at A;rw[←vq]at B CQ;rw[←vr]at s CR;rw[←yP]at t;refine WX ?_;intro x0 x1 x2 x3 x4 x5 x6;obtain⟨wa,cW⟩:=Y (wr.alloc (.cells #[.string pT,.slice ud pU ue,.slice FL sZ zw,.string uq,.slice CS s8 wL,.slice CT s9 wM,.int .i64 Dg] 96));obtain⟨ba,b9⟩:=Y wr.heap.size;have pa:wa.heap[ba]?=some (.cells #[.string pT,.slice ud pU ue,.slice FL sZ zw,.string uq,.slice CS s8 wL,.slice CT s9 wM,.int .i64 Dg] 96 (0,0)):=DE;refine OB ?_;intro ai dC;have ae:=J (G dC aB.o) 5;simp only[aq,ar,aw]at ae;have u:=ab dC u;have v:=ab dC v;have z:=ab dC z;have A:=ab dC A;have B:=ab dC B;have s:=ab dC s;have t:=ab dC t;obtain⟨wb,eB⟩:=Y (wa.alloc (.cells #[.string wO,.slice xj xk fb,.slice Ny Dj fC,.string I6,.slice Nz C2 fD,.slice NA C3 Dh,.int .i64 Di] 96));obtain⟨bb,kW⟩:=Y wa.heap.size;have pb:wb.heap[bb]?=some (.cells #[.string wO,.slice xj xk fb,.slice Ny Dj fC,.string I6,.slice Nz C2 fD,.slice NA C3 Dh,.int .i64 Di] 96 (0,0)):=DF;refine ads ?_;intro af iq eK s1 BO eV s2 vN gH k5;have bf:(k:Int)<(n5:Int):=Z;have bg:(k:Int)<(m5:Int):=by have:=aJ.o;omega
   have w0:=J eK 0;have w1:=J eK 1;have ag:=J eK 2;have ah:=J pb 0;have v1:=J pb 1;have v2:=J pb 2;simp only[aq,ar,aw]at w0 w1 ag ah v1 v2;obtain⟨aN,dV,ak,bh,bk,ss,tM,aP,qW,bl,kU,yE,bm,bn,aC,bo⟩:=ke aj aa ad hx hy eV gH BO vN pa pb eK ai af aF dC;obtain⟨x_,Vc,YJ,YK,YL,aBx,Hry2,Hry3,Hry4,Qv,Ve,VC,QR,VD,VE,Hxln⟩:=ke iq nr uS uT uU rj CP CQ CR l_ ma mK oQ nB nD yO;obtain⟨Hyn1,aBz,Hyz2,Hyn2,Hyz3,Hyz4,Hyln⟩:=oD wk uX vo AA vq vr yP;clear aj aa ad hx hy eV gH BO vN pa pb eK ai af aF dC iq nr uS uT uU rj CP CQ CR l_ ma mK oQ nB nD yO wk uX vo AA vq vr yP;go_upto_region 7 with (fail);rw[←cW,←b9];clear cW b9 x0 x1 x2 x3 x4 x5 x6 C F;go_upto_region 8 with (fail);rw[←eB,←kW];clear eB kW u v z A B s t ae;go_wp2_with fail;refine aP.o.mono ?_;refine KM ?_;intro w9 ca jN;clear w0 w1 ag ah v1 v2
   cases s1 with
   |false=>
    have lN:r=false:=by rw[X.o];exact zls (ak.o fun h=>atf)
    exact ajv
   |true=>
    refine alt ?_;intro u3 u4 u5 t3 t4 t5 G0;obtain⟨d_,jH,yW⟩:=aQ ca jN G0;clear ca jN G0;go_wp2_with fail;refine yW.o.mono ?_;rintro e' cH ⟨rfl,lX⟩;have Eu:=jH.o.trans (lX.mono jH.o.size);clear u3 u4 u5 t3 t4 t5
    cases s2 with
    |false=>
     have lN:r=false:=by rw[X.o];exact zls (ak.o fun h=>atg)
     exact ajw
    |true=>exact agn
  obtain rfl:n5=k:=Z;have bp:nF L5 M5=true:=aO (JC (by rw[←aD.o,←aW.o,aJ.o]) (fun j h1 h2=>aj j h1 h2 (by have:=aD.o;omega)));have aZ:=J (G aF aG.o) 6;simp only[aq,ar,aw]at aZ;clear F;replace sA:=aH aF;revert aF aj bp;refine fo ?_;intro aC aN Q4;go_wp2_with fail;clear C aZ;go_loopw [73] (fun i wr=>∃k:Nat,k≤n6∧i=.int .i64 k∧(∀j (h1:j<L6.length) (h2:j<M6.length),j<k→gn L6[j]=gn M6[j])∧Below W1.heap.size W1 wr) (fun i _=>n6-(RowKit.intOf i).toNat)
  case atStart=>exact⟨0,bj _,rfl,fun _ _ _ h=>Z,sA.o⟩
  case round=>
   obtain⟨k,bd,rfl,aj,aF⟩:=hrel;have C:=J (G aF aG.o) 6;have F:=J (G aF aB.o) 6;simp only[aq,ar,aw]at C F;by_cases be:k<n6
   ·have aI:k<L6.length:=by have:=aE.o;omega
    have gY:k<M6.length:=by have:=aY.o;have:=aM.o;omega
    obtain⟨x,hx⟩:=Y (L6[k]);obtain⟨y,hy⟩:=Y (M6[k]);obtain⟨b,off,ud,ue,FL,zw,CS,wL,CT,wM,rfl,x0,x1,x2,x3,x4,x5,x6,⟨nr,uS⟩,uT,uU⟩:=a8.o k x lD;obtain⟨b',gK,xj,fb,Ny,fC,Nz,fD,NA,Dh,rfl,u,v,z,A,B,s,t,⟨rj,CP⟩,CQ,CR⟩:=bc.o k y Kh;have aa:x.1=y.1→x.2.1=y.2.1→∀j (h1:j<L6.length) (h2:j<M6.length),j<k+1→gn L6[j]=gn M6[j]:=fun h h' j h1 h2 hjk=>by exact aoc
    have ad:¬(x.1=y.1∧x.2.1=y.2.1)→L6.map gn≠M6.map gn:=fun h=>Ji aI gY (by rw[←hx,←hy];unfold gn;intro e;simp only[t_,lv]at e;exact h e);refine Wg ?_;intro pT l_ pU ma sZ mK uq oQ s8 nB s9 nD;obtain⟨Dg,yO⟩:=Y x.2.2;rw[←l_]at x0;rw[←ma]at x1 nr;rw[←mK]at x2 uS;rw[←oQ]at x3;rw[←nB]at x4 uT;rw[←nD]at x5 uU;rw[←yO]at x6;obtain⟨wO,wk⟩:=Y y.1.1;obtain⟨xk,uX⟩:=Y y.1.2.1.length;obtain⟨Dj,vo⟩:=Y y.1.2.2.length;obtain⟨I6,AA⟩:=Y y.2.1.1;obtain⟨C2,vq⟩:=Y y.2.1.2.1.length;obtain⟨C3,vr⟩:=Y y.2.1.2.2.length;obtain⟨Di,yP⟩:=Y y.2.2;rw[←wk]at u;rw[←uX]at v rj;rw[←vo]at z CP;rw[←AA]at A;rw[←vq]at B CQ;rw[←vr]at s CR;rw[←yP]at t;refine WX ?_;intro x0 x1 x2 x3 x4 x5 x6;obtain⟨wa,cW⟩:=Y (wr.alloc (.cells #[.string pT,.slice ud pU ue,.slice FL sZ zw,.string uq,.slice CS s8 wL,.slice CT s9 wM,.int .i64 Dg] 98));obtain⟨ba,b9⟩:=Y wr.heap.size;have pa:wa.heap[ba]?=some (.cells #[.string pT,.slice ud pU ue,.slice FL sZ zw,.string uq,.slice CS s8 wL,.slice CT s9 wM,.int .i64 Dg] 98 (0,0)):=DE;refine OB ?_;intro ai dC;have ae:=J (G dC aB.o) 6;simp only[aq,ar,aw]at ae;have u:=ab dC u;have v:=ab dC v;have z:=ab dC z;have A:=ab dC A;have B:=ab dC B;have s:=ab dC s;have t:=ab dC t;obtain⟨wb,eB⟩:=Y (wa.alloc (.cells #[.string wO,.slice xj xk fb,.slice Ny Dj fC,.string I6,.slice Nz C2 fD,.slice NA C3 Dh,.int .i64 Di] 98));obtain⟨bb,kW⟩:=Y wa.heap.size;have pb:wb.heap[bb]?=some (.cells #[.string wO,.slice xj xk fb,.slice Ny Dj fC,.string I6,.slice Nz C2 fD,.slice NA C3 Dh,.int .i64 Di] 98 (0,0)):=DF;refine ads ?_;intro af iq eK s1 BO eV s2 vN gH k5;have bf:(k:Int)<(n6:Int):=Z;have bg:(k:Int)<(m6:Int):=by have:=aM.o;omega
    have w0:=J eK 0;have w1:=J eK 1;have ag:=J eK 2;have ah:=J pb 0;have v1:=J pb 1;have v2:=J pb 2;simp only[aq,ar,aw]at w0 w1 ag ah v1 v2;obtain⟨aN,dV,ak,bh,bk,ss,tM,aP,qW,bl,kU,yE,bm,bn,aC,bo⟩:=ke aj aa ad hx hy eV gH BO vN pa pb eK ai af aF dC;obtain⟨x_,Vc,YJ,YK,YL,aBx,Hry2,Hry3,Hry4,Qv,Ve,VC,QR,VD,VE,Hxln⟩:=ke iq nr uS uT uU rj CP CQ CR l_ ma mK oQ nB nD yO;obtain⟨Hyn1,aBz,Hyz2,Hyn2,Hyz3,Hyz4,Hyln⟩:=oD wk uX vo AA vq vr yP;clear aj aa ad hx hy eV gH BO vN pa pb eK ai af aF dC iq nr uS uT uU rj CP CQ CR l_ ma mK oQ nB nD yO wk uX vo AA vq vr yP;go_upto_region 15 with (fail);rw[←cW,←b9];clear cW b9 x0 x1 x2 x3 x4 x5 x6 C F;go_upto_region 16 with (fail);rw[←eB,←kW];clear eB kW u v z A B s t ae;go_wp2_with fail;refine aP.o.mono ?_;refine KM ?_;intro w9 ca jN;clear w0 w1 ag ah v1 v2
    cases s1 with
    |false=>
     have lN:r=false:=by rw[X.o];exact zlr (ak.o fun h=>atf)
     exact ajv
    |true=>
     refine alt ?_;intro u3 u4 u5 t3 t4 t5 G0;obtain⟨d_,jH,yW⟩:=aQ ca jN G0;clear ca jN G0;go_wp2_with fail;refine yW.o.mono ?_;rintro e' cH ⟨rfl,lX⟩;have Eu:=jH.o.trans (lX.mono jH.o.size);clear u3 u4 u5 t3 t4 t5
     cases s2 with
     |false=>
      have lN:r=false:=by rw[X.o];exact zlr (ak.o fun h=>atg)
      exact ajw
     |true=>exact agn
   obtain rfl:n6=k:=Z;have a1:nF L6 M6=true:=aO (JC (by rw[←aE.o,←aY.o,aM.o]) (fun j h1 h2=>aj j h1 h2 (by have:=aE.o;omega)));have lN:r=true:=by rw[X.o,Q4.o,a1];rfl
   clear C F;revert aF aj a1 lN;refine bV ?_;intro aC aN _ qR;go_wp2_with fail;go_ret;exact⟨GU,Es.o.trans (aC.o.mono Es.o.size)⟩
end
section
open Lib av cy
open ac (Wd Ln)
noncomputable def ei(s:dj):Bool:=decide ((cI s).head?=some ef)
noncomputable def gP(s:dj):Bool:=decide (k_ s=ef)
theorem yep{s:dj}(h:s.1=fd):dK s≠ef:=by
 unfold dK;split
 ·rw[h];decide
 rw[h,noT_app];intro e;have e2:=iB (fun x:ByteArray=>x.data.toList) e;simp only[fz]at e2;simp[ef]at e2
theorem setT_star(x:el):j0 x≠ef:=by
 intro e;have e2:=iB (fun x:ByteArray=>x.data.toList) e;unfold j0 at e2;simp only[fz]at e2;have:(61:UInt8)∈ef.data.toList:=by rw[←e2];simp
 revert this;decide
theorem FQ:oo ei:=fun s h=>by
 unfold ei;rw[fE];constructor
 ·intro e;unfold cI at e⊢;by_cases a:(if dK s=fd then [] else [dK s])++s.2.2.map j0=[]
  ·rw[M a]
  rw[E a]at e;exfalso;by_cases b:dK s=fd
  ·rw[M b,ig]at e
   cases hq:s.2.2 with
   |nil=>rw[hq]at e;simp at e
   |cons x r=>rw[hq,eU,List.head?_cons]at e;exact setT_star x (nt e)
  rw[E b,On,List.head?_cons]at e;exact yep h (nt e)
 intro e;rw[e];rfl
theorem yak:oo gP:=fun s h=>by
 have a:=FQ s h;unfold ei at a;rw[fE]at a;unfold gP;rw[fE];constructor
 ·intro e;apply a.1;rw[Jt]at e
  obtain⟨x,r,b⟩:∃x r,cI s=x::r:=by
   cases hq:cI s with
   |nil=>exact absurd hq (JN s)
   |cons x r=>exact⟨x,r,rfl⟩
  rw[b]at e⊢
  cases r with
  |nil=>rw[FP]at e;rw[e];rfl
  |cons y r=>
   exfalso
   have e2:=iB (fun x:ByteArray=>x.data.toList) e;simp only[uf]at e2;rw[eU,eU,ybp]at e2;have:(32:UInt8)∈ef.data.toList:=by rw[←e2];simp
   revert this;decide
 intro e;rw[Jt,e,FP]
theorem star_two{s t:dj→Bool}(a:oo s)(b:oo t){q:dj}(h:q.1=fd):s q=t q:=by rw[Cs,a q h,b q h]
theorem pkLs_two{s t:dj→Bool}(a:oo s)(b:oo t){p:ap}(h:WfP p):ip s p=ip t p:=by
 have e:p.gr.map (fun q=>(true,mf s q))=p.gr.map (fun q=>(true,mf t q)):=Ol fun q hq=>by unfold mf;rw[star_two a b (h.gr q hq).2.1]
 unfold ip;rw[e]
theorem ybc{s t:dj→Bool}(a:oo s)(b:oo t){x:ch}(h:WfR x):gz s x=gz t x:=by
 unfold gz;rw[Sv,Sv,Ol fun p c=>pkLs_two a b (h.pk p c)]
theorem pkLs_bare(s:dj→Bool)(p:ap):ip s (gh p)=ip s p:=by
 unfold ip gh;simp only[wY];rfl
theorem zvp(s:dj→Bool)(x:ch):gz s (bare x)=gz s x:=by
 unfold gz bare;simp only[List.flatMap_map,wY];congr 1;rw[Sv,Sv,Ol fun p _=>pkLs_bare s p]
theorem rcLs_same{s:dj→Bool}{x y:ch}(h:bare x=bare y):gz s x=gz s y:=by rw[←zvp s x,h,zvp]
theorem zp4{l m:List ky}(h:l.map gn=m.map gn){d:ky}(O:d∈l):∃e∈m,e.1=d.1∧e.2.1=d.2.1:=by
 have:gn d∈m.map gn:=by rw[←h];exact XX O
 obtain⟨e,c,b⟩:=gb.1 this;unfold gn at b;simp only[t_]at b;exact⟨e,c,b.1,b.2.1⟩
theorem wfP_bare{p q:ap}(h:gh p=gh q)(w:WfP q):WfP p:=by
 have h:=zoi.1 h;unfold J2 at h;simp only[t_]at h;obtain⟨f,e2,g,i,j,k,l⟩:=h;refine⟨by rw[f];exact w.name,by rw[e2];exact w.rel,by rw[g];exact w.vars,by rw[i];exact w.cl,fun d O=>?_,fun d O=>?_,by rw[l];exact w.files⟩
 ·obtain⟨e,b,h1,c⟩:=zp4 j O;rw[←h1,←c];exact w.gr e b
 obtain⟨e,b,h1,c⟩:=zp4 k O;rw[←h1,←c];exact w.ci e b
theorem wfR_bare{x y:ch}(h:bare x=bare y)(w:WfR y):WfR x:=by
 unfold bare at h;simp only[ch.mk.injEq]at h;constructor
 ·intro p hp;have:gh p∈y.pk.map gh:=arx;obtain⟨q,a,e⟩:=gb.1 this;exact wfP_bare e.symm (w.pk q a)
 intro p hp;have:pO p∈y.pf.map pO:=by rw[←h.2];exact XX hp
 obtain⟨q,a,e⟩:=gb.1 this;unfold pO at e;simp only[t_]at e;rw[←e.1,←e.2.1];exact w.pf q a
noncomputable def rcT(s:dj→Bool)(x:ch):ByteArray:=⟨(nw (gz s x)).toArray⟩
theorem ztf(s:dj→Bool)(x:ch):(rcT s x).data.toList=nw (gz s x):=rfl
def qG(s:dj→Bool)(x:ch):Prop:=∃y,mI (nw (gz s x))=some y∧bare y=bare x
open Classical in
noncomputable def rcR(s:dj→Bool)(x:ch):ByteArray×Bool:=if qG s x then (rcT s x,true) else (fd,false)
theorem AS{s:dj→Bool}{x:ch}(h:qG s x):rcR s x=(rcT s x,true):=by unfold rcR;rw[if_pos h]
theorem Be{s:dj→Bool}{x:ch}(h:¬qG s x):rcR s x=(fd,false):=by unfold rcR;rw[if_neg h]
theorem wf_nil:WfR ⟨[],[]⟩:=⟨fun p a=>by simp at a,fun p a=>by simp at a⟩
theorem rcp_wf{t:List UInt8}{x:ch}(h:mI t=some x):WfR x:=by
 unfold mI at h;split at h
 ·exact (ybt FQ _ _ _ h wf_nil).1
 cases h
theorem read_wf{s:dj→Bool}{x:ch}(h:qG s x):WfR x:=by
 obtain⟨y,a,b⟩:=h;exact wfR_bare b.symm (rcp_wf a)
theorem rcR_two{s t:dj→Bool}(b:oo s)(c:oo t)(x:ch):rcR s x=rcR t x:=by
 by_cases h:qG s x
 ·have e:=ybc b c (read_wf h);have a:qG t x:=by unfold qG;rw[←e];exact h
  rw[AS h,AS a];unfold rcT;rw[e]
 by_cases a:qG t x
 ·exact absurd (by unfold qG;rw[ybc b c (read_wf a)];exact a) h
 rw[Be h,Be a]
theorem zyn{t:List UInt8}{x:ch}(h:mI t=some x){star:dj→Bool}(a:oo star):(gz star x).length≤2000∧∀m∈gz star x,m.2.length≤40:=by
 unfold mI at h;split at h
 ·obtain⟨g1,_,b⟩:=zwq t;have g4:=(ac.abk t).1;obtain⟨w,bE,pm,lm,mm,cm⟩:=ybt a _ _ _ h wf_nil;have pm:(gz star x).Perm bE:=pm;refine⟨by rw[pm.length_eq,lm];exact b,fun m hm=>?_⟩;exact ahu
 cases h
theorem wish_good{l:List el}(h:nz l=true):∀x∈l,x.1.size≤24∧x.2.size≤24:=fun x d=>by
 obtain⟨i,hi,e⟩:=oS d;have h1:=qy.1 h i (List.mem_range.2 hi);unfold uV at h1;rw[bR hi,e]at h1;simp only[fI]at h1;have c:∀b:ByteArray,fW b.data.toList=true→b.size≤24:=fun b hb=>by have:=(IR hb).2;rw[em.len]at this;exact this
 refine⟨c _ h1.1.1,?_⟩;have a:=h1.1.2;unfold pM at a;rw[n_,fI,fE,em.len]at a;rcases a with a|a
 ·exact c _ a
 omega
theorem zl1:∀(l:List ByteArray)(out q:List el)(r:List ByteArray),mb l out=some (q,r)→(∀x∈out,x.1.size≤24∧x.2.size≤24)→∀x∈q,x.1.size≤24∧x.2.size≤24
 |[],out,q,r,h,a=>by cases h;exact a
 |x::l,out,q,r,h,a=>by
  refine ano ?_;intro e;rw[e]at h;split at h
  ·split at h
   ·rename_i h2
    exact zl1 l _ q r h (wish_good h2)
   cases h
  cases h;exact a
theorem yam{t:ByteArray}(h:ib t=true):∃l:List Tp,o5 t=tB l∧l.length≤1000:=by
 have a:=(zml.1 h).1;by_cases h0:t=⟨#[33]⟩
 ·exact⟨[],by unfold o5;rw[if_pos h0];rfl,Nat.zero_le _⟩
 rcases a with a|⟨h1,c⟩
 ·exact absurd a h0
 obtain⟨l,b⟩:=FJ t h1;have d:=((zq4 h0 h1).1 (c l b)).1;refine⟨l,by unfold o5;rw[if_neg h0,b],?_⟩;have e:l.length=(PP t).length:=by rw[←b];unfold tB;rw[List.length_map]
 rw[e];unfold PP;rw[gi];omega
theorem ya7:∃l:List Tp,gx=tB l∧l.length≤1000:=⟨[⟨(⟨#[]⟩,⟨#[]⟩),by decide⟩],rfl,by decide⟩
theorem ztb{r:List ByteArray}{q:List el}(h:mb l []=some (q,r)):q.length≤l.length:=by
 obtain⟨p,h1,a,_⟩:=Nj l [] q r h;rw[ig]at h1;rw[h1,a];simp
theorem sp_wish{s:dj}(h:Dv s)(a:(cI s).length≤1000):∃l,Sp s l:=by
 have h1:=h.2 [] Jr;have h0:=(IR h.1).2;rw[em.len]at h0;rw[h_]at h1
 cases hq:cI s with
 |nil=>exact absurd hq (JN s)
 |cons x r=>
  rw[hq]at h1 a;have e:xv (x::r)=if jC x=true then (mb r []).map fun q=>(((jv 64 x).1,oj x,q.1),q.2) else none:=rfl
  rw[e]at h1;split at h1
  ·rename_i hn
   obtain⟨q,b,e2⟩:=Je.1 h1;obtain⟨q,r2⟩:=q;simp only[t_]at e2;have d:s.2.1=oj x:=by rw[←e2.1]
   have c:s.2.2=q:=by rw[←e2.1]
   have f:∃l:List Tp,s.2.1=tB l∧l.length≤1000:=by
    rw[d];unfold oj;split
    ·rename_i hf
     unfold jC at hn;rw[hf,fI]at hn;exact yam (by simpa using hn.2)
    exact ya7
   obtain⟨l,g,i⟩:=f;have g1:=zl1 _ _ _ _ b (fun x hx=>wZ);have j:=ztb b;rw[fO]at a;refine⟨l,g,i,Z,by rw[c];omega,fun y hy=>?_⟩;rw[c]at hy;have:=g1 y hy;omega
  cases h1
theorem zxw{s:dj}(h:zg s)(b:(cI s).length≤1000):∃l,Sp s l:=by
 have h1:=h.2 [] Jr;have h0:s.1.size≤9000:=by rw[h.1];decide
 rw[h_]at h1
 cases hq:cI s with
 |nil=>exact absurd hq (JN s)
 |cons x r=>
  rw[hq]at h1 b
  have e:vG (x::r)=if x=ef then some ((fd,gx,[]),r)
   else if nI x=true then (if ib (lg x)=true then (mb r []).map fun q=>((fd,o5 (lg x),q.1),q.2) else none)
   else if hasB 61 x=true then (mb (x::r) []).map fun q=>((fd,gx,q.1),q.2)
   else none:=rfl
  rw[e]at h1;split at h1
  ·have h2:=(Om (nt h1)).1;obtain⟨l,l1,l2⟩:=ya7;exact⟨l,aug,l2,h0,by rw[←h2];exact bj _,fun y hy=>by rw[←h2]at hy;simp at hy⟩
  split at h1
  ·split at h1
   ·rename_i hk
    obtain⟨⟨q,c⟩,a,e2⟩:=Je.1 h1;have h2:=(Om e2).1;obtain⟨l,l1,l2⟩:=yam hk;have g1:=zl1 _ _ _ _ a (fun x hx=>wZ);have d:=ztb a;rw[fO]at b;exact ann
   cases h1
  split at h1
  ·obtain⟨⟨q,c⟩,a,e2⟩:=Je.1 h1;have h2:=(Om e2).1;obtain⟨l,l1,l2⟩:=ya7;have g1:=zl1 _ _ _ _ a (fun x hx=>wZ);have d:=ztb a;exact ann
  cases h1
theorem sp_none:∃l,Sp vD l:=⟨[],rfl,by decide,by decide,by decide,fun y a=>by simp[vD]at a⟩
theorem sp_all:∃l,Sp um l:=zxw znl (by rw[zt3];decide)
def SpP(p:ap):Prop:=(∀d∈p.gr,(∃l,Sp d.1 l)∧∃l,Sp d.2.1 l)∧∀d∈p.ci,(∃l,Sp d.1 l)∧∃l,Sp d.2.1 l
def SpR(x:ch):Prop:=∀p∈x.pk,SpP p
theorem spR_bare{x y:ch}(h:bare x=bare y)(f:SpR y):SpR x:=fun p hp=>by
 unfold bare at h;simp only[ch.mk.injEq]at h;have:gh p∈y.pk.map gh:=arx;obtain⟨q,g,e⟩:=gb.1 this;have e:=zoi.1 e;unfold J2 at e;simp only[t_]at e;refine⟨fun d O=>?_,fun d O=>?_⟩
 ·obtain⟨k,b,h1,c⟩:=zp4 e.2.2.2.2.1.symm O;rw[←h1,←c];exact (f q g).1 k b
 obtain⟨k,b,h1,c⟩:=zp4 e.2.2.2.2.2.1.symm O;rw[←h1,←c];exact (f q g).2 k b
theorem zy6{star:dj→Bool}{x:ch}{p:ap}(a:p∈x.pk){m:K5}(b:m∈ip star p):m∈gz star x:=by
 unfold gz;exact ff.2 (.inl (Sm.2 ⟨p,a,b⟩))
theorem parsed_sp{t:List UInt8}{x:ch}(h:mI t=some x):SpR x:=fun p c=>by
 obtain⟨-,g⟩:=zyn h FQ;have i:=(rcp_wf h).pk p c;refine⟨fun d O=>?_,fun d O=>?_⟩
 ·have e:(true,mf ei d)∈ip ei p:=by
   unfold ip;simp only[iC,ff,gb];exact .inr (.inr (.inr (.inr (.inl ⟨d,O,rfl⟩))))
  have h1:=g _ (zy6 c e);unfold mf at h1;simp only[fO,bM]at h1;obtain⟨f,b⟩:=i.gr d O;refine⟨sp_wish f Z,?_⟩
  cases bJ:ei d.2.1 with
  |true=>rw[zr0 b ((FQ _ b.1).1 bJ)];exact sp_all
  |false=>rw[bJ,E ae,fO]at h1;exact zxw b Z
 have e:(true,kC d)∈ip ei p:=by unfold ip;simp only[iC,ff,gb];exact .inr (.inr (.inr (.inr (.inr (.inl ⟨d,O,rfl⟩)))))
 have h1:=g _ (zy6 c e);unfold kC at h1;simp only[fO,bM]at h1;obtain⟨f,b⟩:=i.ci d O;refine⟨zxw f Z,?_⟩;rcases b with b|b
 ·rw[b];exact sp_none
 have j:d.2.1.1≠fd:=zts b.1;rw[E j,fO]at h1;exact sp_wish b Z
end
section
open RowKit Shelf Lib av cy
theorem AZ(f:ByteArray)(r:List ByteArray):(e_ ((⟨#[32,32]⟩++f:ByteArray)::r)).data.toList++[10]=lnT (true,f::r):=by
 unfold lnT;show _=[32,32]++((e_ (f::r)).data.toList++[10]);rw[uf,uf,eU,eU,zD,zD,fz];simp
theorem zwh(l:List ByteArray):(e_ l).data.toList++[10]=lnT (false,l):=rfl
theorem ybo:∀l:List ByteArray,l.length≤dp l∧∀x∈l,x.size≤dp l
 |[]=> ⟨aE _,fun x hx=>wZ⟩
 |x::l=>by
  obtain⟨h1,b⟩:=ybo l;have e:dp (x::l)=x.size+1+dp l:=rfl;rw[e,fO];refine⟨Z,fun y a=>?_⟩;rcases iC.1 a with rfl|a
  ·omega
  have:=b y a;omega
theorem zss{l:List ByteArray}(h0:l≠[]):l.length≤(e_ l).size+1∧∀x∈l,x.size≤(e_ l).size+1:=by
 have h1:=ybo l;have a:=zqh h0;rw[em.len]at a;exact⟨Z,fun x b=>by have:=h1.2 x b;omega⟩
theorem zsw{L:List K5}{m:Nat}{x:K5}(h:L[m]?=some x):nw (L.take (m+1))=nw (L.take m)++lnT x:=by
 obtain⟨a,e⟩:=ie.1 h;rw[pP a,e];unfold nw;rw[rm];simp
theorem tx_le{L:List K5}(m:Nat):(nw (L.take m)).length≤(nw L).length:=by
 have e:nw L=nw (L.take m)++nw (L.drop m):=by unfold nw;rw[←rm,mi]
 rw[e,bM];omega
structure PkT(w0 w1:World)(b:Nat)(L:List K5)(m:Nat)(W:World):Prop where
 bld:BT.Bld w0.heap.size b (nw (L.take m)) W
 bm:Below w0.heap.size w0 W
 o8:BT.pi w1 W
section
variable {w0 w1 wr W:World}{b m:Nat}{L:List K5}
theorem PkT.to(h:PkT w0 w1 b L m wr)(a:Below wr.heap.size wr W):PkT w0 w1 b L m W:=⟨BT.pu h.bld a,h.bm.trans (a.mono h.bm.size),h.o8.trans (BT.py a)⟩
theorem PkT.line(h:PkT w0 w1 b L m wr)(i:Below wr.heap.size wr W)(j:W.ownsRow B 9 1 (.slice a n c) n (l.map Value.string))(h0:l≠[]){x:K5}(d:L[m]?=some x)(f:(e_ l).data.toList++[10]=lnT x)(_:(nw L).length≤4398046511104):
  Calls prog 17 #[.pointer (some ⟨b,0,none⟩),.slice a n c] W fun e w'=>e=.returned (.tuple #[])∧PkT w0 w1 b L (m+1) w':=by
 have h1:=h.to i;have g:=zsw d;have k:=tx_le (L:=L) (m+1);rw[g,bM,←f,bM,em.len,rD]at k;obtain⟨g1,o⟩:=zss h0;refine (tline_any h1.bld (L_ j fun x d=>by have:=o x d;unfold maxLen;omega) h0 Z Z h1.bm.size).mono fun e w' ⟨k1,k2,k3,k4⟩=>⟨k1,?_,h1.bm.trans k3,h1.o8.trans k4⟩;rw[g,←f];exact k2
end
theorem xn(h:Hj w [.slice a n c] l):n=l.length∧∀(j:Nat) u,(l.map Value.string)[j]?=some u→∃b off,a=some ⟨b,off,none⟩∧w.cell? ⟨b,off+j,none⟩=some u:=by
 obtain⟨_,cap,e,_,g⟩:=lK h;cases e;refine⟨rfl,fun j u hu=>?_⟩;rw[rC,Je]at hu;obtain⟨x,hx,rfl⟩:=hu;obtain⟨hj,e⟩:=ie.1 hx;obtain⟨b,off,e1,e2,_⟩:=g j hj;exact⟨b,off,e1,by rw[e2,e]⟩
theorem rts_frm(h:Hj w [.slice a n c] l)(hF:am T w w')(d:∀p:Addr,a=some p→¬T p.block):n=l.length∧∀(j:Nat) u,(l.map Value.string)[j]?=some u→∃b off,a=some ⟨b,off,none⟩∧w'.cell? ⟨b,off+j,none⟩=some u:=by
 obtain⟨h1,e⟩:=xn h;refine⟨h1,fun j u hu=>?_⟩;obtain⟨b,off,e1,e2⟩:=e j u hu;exact⟨b,off,e1,(hF.cell (wH w _ e2) (d ⟨b,off,none⟩ e1)).trans e2⟩
theorem yag{L:List K5}{m:Nat}{x:K5}(h:L[m]?=some x):x.2.length≤(nw L).length+1:=by
 have h1:=tx_le (L:=L) (m+1);rw[zsw h,bM]at h1;by_cases h0:x.2=[]
 ·rw[h0];exact bj _
 have a:=(zss h0).1;have b:(e_ x.2).size+1≤(lnT x).length:=by unfold lnT;rw[bM,bM,em.len,rD];omega
 omega
theorem zoe{s:dj}{l:List Tp}{d e2:Option Addr}{f g1 g i:Nat}(b:Sp s l)(h1:gy w [.slice d f g1] s.2.1)(j:fm w [.slice e2 g i] s.2.2)(k:dN w):Calls prog 36 #[.agg #[.string s.1,.slice d f g1,.slice e2 g i]] w fun e w'=>
  ∃(a:Option Addr)(m c:Nat),e=.returned (.slice a m c)∧Hj w' [.slice a m c] (cI s)∧(∀p:Addr,a=some p→w.heap.size≤p.block)∧m≤1001∧Below w.heap.size w w':=by
 have n:=b.words.2.1;obtain⟨_,_,_⟩:=s;obtain rfl:=b.sp;refine (zlh h1 j k b.l1 b.sl b.nm b.sz).mono fun e w' h=>?_;obtain⟨a,c,k1,⟨k2,k3⟩,k4⟩:=h;exact⟨a,_,c,k1,k2,k3,n,k4⟩
section
variable {star:dj→Bool}{p:ap}{k:Nat}
theorem JD{α β:Type}{f:α→β}{l:List α}{r:List β}{k:Nat}(h:k<l.length):(l.map f++r)[k]?=some (f l[k]):=by
 rw[pS w_,rC,bR h];rfl
theorem oX{α β:Type}{f:α→β}{l:List α}{r:List β}{k:Nat}:(l.map f++r)[l.length+k]?=r[k]?:=by
 rw[nC ae];simp
theorem pk_rel(h:k<p.rel.length):(ip star p)[1+k]?=some (true,xd p.rel[k]):=by
 rw[Nat.add_comm];unfold ip;rw[aw];exact JD h
theorem pk_var(h:k<p.vars.length):(ip star p)[1+p.rel.length+k]?=some (true,qC p.vars[k]):=by
 rw[rn,Nat.add_comm];unfold ip;rw[aw,oX];exact JD h
theorem pk_prov(h:k<p.cl.length):(ip star p)[1+p.rel.length+p.vars.length+k]?=some (true,[kX,p.cl[k]]):=by
 rw[show 1+p.rel.length+p.vars.length+k=p.rel.length+(p.vars.length+k)+1 from Z];unfold ip;rw[aw,oX,oX];exact JD h
theorem pk_dep(h:k<p.gr.length):(ip star p)[1+p.rel.length+p.vars.length+p.cl.length+k]?=some (true,mf star p.gr[k]):=by
 rw[show 1+p.rel.length+p.vars.length+p.cl.length+k=p.rel.length+(p.vars.length+(p.cl.length+k))+1 from Z];unfold ip;rw[aw,oX,oX,oX];exact JD h
theorem pk_conf(h:k<p.ci.length):(ip star p)[1+p.rel.length+p.vars.length+p.cl.length+p.gr.length+k]?=some (true,kC p.ci[k]):=by
 rw[show 1+p.rel.length+p.vars.length+p.cl.length+p.gr.length+k=p.rel.length+(p.vars.length+(p.cl.length+(p.gr.length+k)))+1 from Z];unfold ip;rw[aw,oX,oX,oX,oX];exact JD h
theorem pk_file(h:k<p.files.length):(ip star p)[1+p.rel.length+p.vars.length+p.cl.length+p.gr.length+p.ci.length+k]?=some (true,[kY,p.files[k]]):=by
 rw[show 1+p.rel.length+p.vars.length+p.cl.length+p.gr.length+p.ci.length+k=p.rel.length+(p.vars.length+(p.cl.length+(p.gr.length+(p.ci.length+k))))+1 from Z];unfold ip;rw[aw,oX,oX,oX,oX,oX,rC,bR h];rfl
theorem ybf:(ip star p).length=1+p.rel.length+p.vars.length+p.cl.length+p.gr.length+p.ci.length+p.files.length:=by
 unfold ip;simp only[fO,bM,gi];omega
end
end
section
open RowKit Shelf Lib av cy
attribute [local go_sem ↓] wp_at_zero wp_at_succ
theorem A2:up prog 41 9 (.string ⟨#[]⟩) 1 16:=⟨Sj,by kernel_rfl,rfl,by decide⟩
set_option linter.unusedVariables false in
theorem pack_any{z:Nat}{L:List K5}(h:PkT w0 w1 b L z w){p:ap}(cb:p.name=nm)
  (R:xa w0 (.slice b2 n2 c2) (.slice b3 n3 c3) (.slice b4 n4 c4) (.slice b5 n5 c5) (.slice b6 n6 c6) (.slice b7 n7 c7) p) (rV:SpP p) (bp:∀j x,(ip ei p)[j]?=some x→L[z+j]?=some x) (cc:(nw L).length≤4398046511104) (cd:dN w0) :
  Calls prog 16 #[.pointer (some ⟨b,0,none⟩),.agg #[.string nm,.int .i64 li,.slice b2 n2 c2,.slice b3 n3 c3,.slice b4 n4 c4,.slice b5 n5 c5,.slice b6 n6 c6,.slice b7 n7 c7]] w fun e w'=>e=.returned (.tuple #[])∧PkT w0 w1 b L (z+(ip ei p).length) w':=by
 have bq:=NQ R.1;have br:=ND R.2.1;have cf:=xn R.2.2.1;have Pw:=vC R.2.2.2.1;have Py:=vC R.2.2.2.2.1;have cg:=xn R.2.2.2.2.2;have ch:n4≤9223372036854775807:=by obtain⟨_,_,e,h,_⟩:=lK R.2.2.1;cases e;exact h
 have ck:n7≤9223372036854775807:=by obtain⟨_,_,e,h,_⟩:=lK R.2.2.2.2.2;cases e;exact h
 have cm:=bq.2.1;have cp:=br.2.1;refine aev ?_;intro kh kj W1 aK bx de ai C9;have cq:PkT w0 W1 b L z W1:=⟨BT.pu h.bld ai,h.bm.trans (ai.mono h.bm.size),BT.Kb _⟩;have ct:∀W m,PkT w0 W1 b L m W→PkT w0 w1 b L m W:=fun W m hS=>⟨hS.bld,hS.bm,(h.o8.trans (BT.py ai)).trans hS.o8⟩;have cu:∀W m,PkT w0 W1 b L m W→W.heap[bx]?=some (.cells #[.string nm,.int .i64 li,.slice b2 n2 c2,.slice b3 n3 c3,.slice b4 n4 c4,.slice b5 n5 c5,.slice b6 n6 c6,.slice b7 n7 c7] 45 (0,0)):=fun W m hS=>hS.o8 bx _ _ _ C9 D D;have cv:=bp 0 _ rfl;have bs:=J C9 0;simp only[aq,ar,aw]at bs;revert h R rV bp cc cd bq br cf Pw Py cg ch ck cm cp kh kj ai C9 cq ct cu cv;refine aqu ?_;intro Hh Hp Cb HL gM HD ga gZ vi tF yw Fw Rb Hz7 dZ Jb G5 ns aB aDk nX ya Hbox Hat0;go_enter func16,ntmps16;go_upto_region 1 with (fail);rw[←aK,←de];clear aK de;obtain⟨wr,hwr⟩:=Y W1;obtain⟨wb,eB⟩:=Y (wr.alloc (.cells #[.string ⟨#[112,97,99,107,97,103,101]⟩,.string nm] 9));refine Wo ?_;intro zb hzb oO fL;have N:wb.ownsRow wr.heap.size 9 1 (.slice (some ⟨zb,0,none⟩) 2 2) 2 [.string ⟨#[112,97,99,107,97,103,101]⟩,.string nm]:=Yd;refine KU ?_;intro H;have hS:=(by rw[hwr];exact nX.o:PkT w0 W1 b L z wr);revert oO fL N H hS;refine bU ?_;intro I2 B cZ A HS;go_wp2_with fail;rw[←hwr,←eB,←hzb];clear hwr eB hzb bs;refine (HS.o.line B.o (l:=[iK,nm]) SU ae Hat0.o (by rw[cb];exact zwh [iK,nm]) gM.o).mono ?_;rintro e wz ⟨rfl,kI⟩;have df:=O kI;clear kI;have H:=Hbox.o _ _ df.o;have bt:=J H 2;simp only[aq,ar,aw]at bt;have A:=O H;clear H;go_wp2_with fail;clear bt;go_loopw [28] (fun i wr=>∃k:Nat,k≤n2∧i=.int .i64 k∧PkT w0 W1 b L (z+1+k) wr) (fun i _=>n2-(RowKit.intOf i).toNat)
 case atStart=>exact⟨0,bj _,rfl,df.o⟩
 case round=>
  obtain⟨k,T,rfl,hS⟩:=hrel;by_cases U:k<n2
  ·refine Bn ?_;intro k5 k6;have yr:k<9223372036854775807:=by have:=dZ.o;omega
   have aI:k<p.rel.length:=by have:=ga.o.1;omega
   obtain⟨x,hx⟩:=Y (p.rel[k]);obtain⟨e0,off,rfl,d0,d1⟩:=ga.o.2.2 k x lD;have d0:=ab hS.bm d0;have d1:=ab hS.bm d1;have aU:=HL.o _ _ (pk_rel (star:=ei) aI);rw[←hx]at aU;obtain⟨v,o⟩:=x;dsimp only at d0 d1 aU;obtain⟨Hx,fS⟩:=ak hx aU;clear hx aU;obtain⟨wa,cW⟩:=Y (wr.alloc (.cells #[.string v,.bool o] 66));refine KH ?_;intro za ll b9;have y:wa.heap[za]?=some (.cells #[.string v,.bool o] 66 (0,0)):=I9;have y0:=J y 0;have y1:=J y 1;simp only[aq,ar,aw]at y0 y1;obtain⟨HS,gk,l8⟩:=aQ hS b9 y;clear hS b9 y;go_upto_region 5 with (fail);rw[←cW,←ll];clear cW ll d0 d1;obtain⟨wb,eB⟩:=Y (wa.alloc (.cells #[.string ⟨#[32,32,118,101,114,115,105,111,110]⟩,.string v] 9));refine Xb ?_;intro zb hzb oO fL;have N:wb.ownsRow wr.heap.size 9 1 (.slice (some ⟨zb,0,none⟩) 2 2) 2 [.string ⟨#[32,32,118,101,114,115,105,111,110]⟩,.string v]:=by rw[eB,hzb];exact wG _ _ 2 gk.o.size cY ae
   refine KU ?_;intro H;revert oO fL N H;refine bV ?_;intro I2 B cZ A;have dc:=ab I2.o y1;go_upto_region 6 with (fail);rw[←eB,←hzb];clear eB hzb y0 y1
   cases o with
   |true=>
    go_wp2_with (at_builtin;(refine kZ A2 rfl (.tmp 37) (.tmp 38) rfl wr.heap.size (.slice (some ⟨zb,0,none⟩) 2 2) (2) ([.string ⟨#[32,32,118,101,114,115,105,111,110]⟩,.string v]) rfl cZ.o 1 #[.string ⟨#[111,108,100]⟩] rfl rfl dW Z cY A.o ?_;intro v9 w9 C F ag;obtain⟨a9,c9,rfl⟩:=bg C;have X:=(iX B.o cZ.o (aE _) F A.o:Below wr.heap.size wr w9);obtain⟨dY,d_,fq⟩:=aQ C X F;clear C F ag X))
    refine (HS.o.line d_.o (l:=[⟨#[32,32,118,101,114,115,105,111,110]⟩,v,D1]) SV ae A_ (AZ nZ [v,D1]) gM.o).mono ?_;exact Br
   |false=>
    go_wp2_with fail
    refine (HS.o.line B.o (l:=[⟨#[32,32,118,101,114,115,105,111,110]⟩,v]) SU ae A_ (AZ nZ [v]) gM.o).mono ?_;exact Br
  obtain rfl:n2=k:=Z;clear U df;have df:=aH hS;clear hS T;have df:=aH (by have e:=df.o;rw[show z+1+n2=z+(1+p.rel.length) by rw[ga.o.1];omega]at e;exact e:PkT w0 W1 b L (z+(1+p.rel.length)) wr);have H:=Hbox.o _ _ df.o;have bu:=J H 3;simp only[aq,ar,aw]at bu;have A:=O H;clear H;go_wp2_with fail;clear bu;go_loopw [47] (fun i wr=>∃k:Nat,k≤n3∧i=.int .i64 k∧PkT w0 W1 b L (z+(1+p.rel.length)+k) wr) (fun i _=>n3-(RowKit.intOf i).toNat)
  case atStart=>exact⟨0,bj _,rfl,df.o⟩
  case round=>
   obtain⟨k,T,rfl,hS⟩:=hrel;by_cases U:k<n3
   ·refine kG ?_;intro k5;have k6:(k:Int)<(n3:Int):=Z;have yr:k<9223372036854775807:=by have:=Jb.o;omega
    have aI:k<p.vars.length:=by have:=gZ.o.1;omega
    obtain⟨x,hx⟩:=Y (p.vars[k]);obtain⟨e0,off,e1,g1,rfl,d0,d1,av⟩:=gZ.o.2.2 k x lD;have d0:=ab hS.bm d0;have d1:=ab hS.bm d1;have av:=iY av hS.bm;have aU:=HL.o _ _ (pk_var (star:=ei) aI);rw[←hx]at aU;obtain⟨v,l⟩:=x;dsimp only at d0 d1 aU av;obtain⟨nl,fp⟩:=Y l.length;rw[←fp]at d1 av;have bw:l.length≤4398046511104:=by have h1:(qC (v,l)).length≤(nw L).length+1:=yag aU;have cy:(qC (v,l)).length=l.length+2:=rfl;have:=gM.o;omega
    have dd:nl≤4398046511104:=by rw[fp];exact bw
    revert hx aU av fp bw;refine bU ?_;intro Hx fS cz _ _;obtain⟨wa,cW⟩:=Y (wr.alloc (.cells #[.string v,.slice e1 nl g1] 68));refine KH ?_;intro za ll b9;have y:wa.heap[za]?=some (.cells #[.string v,.slice e1 nl g1] 68 (0,0)):=I9;have y0:=J y 0;have y1:=J y 1;simp only[aq,ar,aw]at y0 y1;obtain⟨HS,gk,l8⟩:=aQ hS b9 y;clear hS b9 y;go_upto_region 13 with (fail);rw[←cW,←ll];clear cW ll d0 d1;have fL:=gk.o.trans ((aS wa (.cells #[.string ⟨#[32,32,118,97,114,105,97,110,116]⟩,.string v] 9)).mono gk.o.size);have N:(wa.alloc (.cells #[.string ⟨#[32,32,118,97,114,105,97,110,116]⟩,.string v] 9)).ownsRow wr.heap.size 9 1 (.slice (some ⟨wa.heap.size,0,none⟩) 2 2) 2 [.string ⟨#[32,32,118,97,114,105,97,110,116]⟩,.string v]:=wG _ _ 2 gk.o.size cY ae;have H:wr.heap.size≤(wa.alloc (.cells #[.string ⟨#[32,32,118,97,114,105,97,110,116]⟩,.string v] 9)).heap.size:=fL.size;have ay:=xn (iY cz.o fL);have dh:=ab (aS wa (.cells #[.string ⟨#[32,32,118,97,114,105,97,110,116]⟩,.string v] 9)) y1;revert fL N H ay;refine bV ?_;intro B cZ A AN;go_wp2_with (at_builtin;(refine vB A2 rfl (.tmp 54) (.tmp 56) rfl wr.heap.size (.slice (some ⟨wa.heap.size,0,none⟩) 2 2) (2) ([.string ⟨#[32,32,118,97,114,105,97,110,116]⟩,.string v]) rfl cZ.o e1 nl g1 (l.map Value.string) rfl SW AN.o.2 dW Z cY A.o ?_;intro v9 w9 C F ag;obtain⟨a9,c9,rfl⟩:=bg C;have X:=(iX B.o cZ.o (aE _) F A.o:Below wr.heap.size wr w9);obtain⟨dY,d_,fq⟩:=aQ C X F;clear C F ag X));refine (HS.o.line d_.o (l:=(⟨#[32,32,118,97,114,105,97,110,116]⟩::v::l)) SV ae A_ (AZ n8 (v::l)) gM.o).mono ?_;exact Br
   obtain rfl:n3=k:=Z;clear U df;have df:=aH hS;clear hS T;have df:=aH (by have e:=df.o;rw[show z+(1+p.rel.length)+n3=z+(1+p.rel.length+p.vars.length) by rw[gZ.o.1];omega]at e;exact e:PkT w0 W1 b L (z+(1+p.rel.length+p.vars.length)) wr);have H:=Hbox.o _ _ df.o;have bB:=J H 4;simp only[aq,ar,aw]at bB;have A:=O H;clear H;go_wp2_with fail;clear bB;go_loopw [63] (fun i wr=>∃k:Nat,k≤n4∧i=.int .i64 k∧PkT w0 W1 b L (z+(1+p.rel.length+p.vars.length)+k) wr) (fun i _=>n4-(RowKit.intOf i).toNat)
   case atStart=>exact⟨0,bj _,rfl,df.o⟩
   case round=>
    obtain⟨k,T,rfl,hS⟩:=hrel;by_cases U:k<n4
    ·refine kG ?_;intro k5;have k6:(k:Int)<(n4:Int):=Z;have yr:k<9223372036854775807:=by have:=Rb.o;omega
     have aI:k<p.cl.length:=by have:=vi.o.1;omega
     obtain⟨v,hv⟩:=Y (p.cl[k]);obtain⟨e0,off,rfl,d0⟩:=vi.o.2 k (.string v) SY;have d0:=ab hS.bm d0;have aU:=HL.o _ _ (pk_prov (star:=ei) aI);rw[←hv]at aU;obtain⟨wb,eB⟩:=Y (wr.alloc (.cells #[.string ⟨#[32,32,112,114,111,118,105,100,101,115]⟩,.string v] 9));refine Wo ?_;intro zb hzb oO fL;have N:wb.ownsRow wr.heap.size 9 1 (.slice (some ⟨zb,0,none⟩) 2 2) 2 [.string ⟨#[32,32,112,114,111,118,105,100,101,115]⟩,.string v]:=Yd;refine KU ?_;intro H;revert hS hv aU oO fL N H;refine eb ?_;intro HS Hv fS I2 B cZ A;go_wp2_with fail;rw[←eB,←hzb];clear eB hzb d0;refine (HS.o.line B.o (l:=[⟨#[32,32,112,114,111,118,105,100,101,115]⟩,v]) SU ae A_ (AZ kX [v]) gM.o).mono ?_;exact Br
    obtain rfl:n4=k:=Z;clear U df;have df:=aH hS;clear hS T;have df:=aH (by have e:=df.o;rw[show z+(1+p.rel.length+p.vars.length)+n4=z+(1+p.rel.length+p.vars.length+p.cl.length) by rw[vi.o.1];omega]at e;exact e:PkT w0 W1 b L (z+(1+p.rel.length+p.vars.length+p.cl.length)) wr);have H:=Hbox.o _ _ df.o;have bC:=J H 5;simp only[aq,ar,aw]at bC;have A:=O H;clear H;go_wp2_with fail;clear bC;go_loopw [75] (fun i wr=>∃k:Nat,k≤n5∧i=.int .i64 k∧PkT w0 W1 b L (z+(1+p.rel.length+p.vars.length+p.cl.length)+k) wr) (fun i _=>n5-(RowKit.intOf i).toNat)
    case atStart=>exact⟨0,bj _,rfl,df.o⟩
    case round=>
     obtain⟨k,T,rfl,hS⟩:=hrel;by_cases U:k<n5
     ·refine ans ?_;intro k5 k6 yr aI x hx;obtain⟨e0,off,e1,g1,e2,g2,aa,g3,ad,g4,rfl,d0,d1,d2,d3,d4,d5,d6,⟨t1,t2⟩,t3,t4⟩:=tF.o.2.2 k x lD;refine Ww ?_;intro d0 d1 d2 d3 d4 d5 d6;have aU:=HL.o _ _ (pk_dep (star:=ei) aI);rw[←hx]at aU;have rV:=Cb.o.1 x EP;obtain⟨s,c,lk⟩:=x;dsimp only at d0 d1 d2 d3 d4 d5 d6 t1 t2 t3 t4 aU rV;revert hx t1 t2 t3 t4 d0 d1 d2 d3 d4 d5 aU rV;refine ado ?_;intro l1 l2 q1 d1 q2 d2 q3 d4 q4 d5 sw cw sn cn d0 d3 Hx fS nX uW iT qY Ht2 vQ Qu Ql Ht4 DM Hsw Gd Uv mE C0 LQ;obtain⟨wa,cW⟩:=Y (wr.alloc (.cells #[.string sn,.slice e1 q1 g1,.slice e2 q2 g2,.string cn,.slice aa q3 g3,.slice ad q4 g4,.int .i64 lk] 96));refine KH ?_;intro za ll b9;have y:wa.heap[za]?=some (.cells #[.string sn,.slice e1 q1 g1,.slice e2 q2 g2,.string cn,.slice aa q3 g3,.slice ad q4 g4,.int .i64 lk] 96 (0,0)):=I9;have y0:=J y 0;have y1:=J y 1;have y2:=J y 2;have y3:=J y 3;have y4:=J y 4;have y5:=J y 5;have y6:=J y 6;simp only[aq,ar,aw]at y0 y1 y2 y3 y4 y5 y6;obtain⟨HS,gk,l8⟩:=aQ hS b9 y;clear hS b9 y;go_upto_region 23 with (fail);rw[←cW,←ll];clear cW ll d0 d1 d2 d3 d4 d5 d6;obtain⟨wb,eB⟩:=Y (wa.alloc (.cells #[.string ⟨#[32,32,100,101,112,101,110,100,115]⟩] 9));refine Xb ?_;intro zb hzb oO fL;have N:wb.ownsRow wr.heap.size 9 1 (.slice (some ⟨zb,0,none⟩) 1 1) 1 [.string ⟨#[32,32,100,101,112,101,110,100,115]⟩]:=ary;refine KU ?_;intro H;have aX:=C0.o wb fL;have aY:=G oO l8.o;have aZ:=ab (aS wa (.cells #[.string ⟨#[32,32,100,101,112,101,110,100,115]⟩] 9)) y0;have a1:=ab (aS wa (.cells #[.string ⟨#[32,32,100,101,112,101,110,100,115]⟩] 9)) y1;have a6:=ab (aS wa (.cells #[.string ⟨#[32,32,100,101,112,101,110,100,115]⟩] 9)) y2;revert oO fL N H aX aY;refine bX ?_;intro I2 B cZ A Uk kU;go_wp2_with fail
      rw[←eB,←hzb];clear eB hzb;refine Uk.o.mono ?_;rintro e w3 ⟨a7,m3,c3,rfl,az,-,al,af⟩;have ay:=xn az;have ah:=B.o.trans (af.mono B.o.size);have aC:=fh cZ.o af;have a8:=G af kU.o;clear aZ a1 a6 y0 y1 y2 y3 y4 y5 y6 B cZ A;have H:=ah.size;have B:=aH ah;have cZ:=aH aC;revert az af ay a8 H;refine bU ?_;intro HT3 bK AN ES A;clear ah aC;go_upto_region 24 with (at_builtin;(refine vB A2 rfl (.tmp 79) (.tmp 82) rfl wr.heap.size (.slice (some ⟨zb,0,none⟩) 1 1) (1) ([.string ⟨#[32,32,100,101,112,101,110,100,115]⟩]) rfl cZ.o a7 m3 c3 (sw.map Value.string) rfl SW AN.o.2 dW Z cY A.o ?_;intro v9 w9 C F ag;obtain⟨a9,c9,rfl⟩:=bg C;have X:=(iX B.o cZ.o (aE _) F A.o:Below wr.heap.size wr w9);obtain⟨dY,d_,fq⟩:=aQ C X F;clear C F ag X));refine aod ?_;intro uN y0 y1 y2 y3 y4 y5 y6
      obtain⟨f,r,cA⟩:∃f r,cw=f::r:=by
       rw[Gd.o]
       cases hq:cI c with
       |nil=>exact absurd hq (JN c)
       |cons f r=>exact⟨f,r,rfl⟩
      have ba:=LQ.o w9 d_.o;have cB:m3≤1001:=al;revert al uN cA ba;refine bV ?_;intro cC an bb bc;go_wp2_with fail;refine bc.o.mono ?_;rintro e w4 ⟨a4,m4,c4,rfl,O9,azz,pK,bA⟩;have aD:=xn O9;obtain⟨ew,ow,rfl,qv⟩:=aD.2 0 (.string f) (by rw[bb.o];rfl);rw[mL]at qv;have cD:(0:Int)<(m4:Int):=by have h1:=aD.1;rw[bb.o,fO]at h1;omega
      obtain⟨st,bd⟩:=Y (ei c);have cE:(f.toList==[42])=st:=by rw[jb f [42] ef rfl,bd];unfold ei;rw[←Gd.o,bb.o];simp
      have bD:=d_.o.trans (bA.mono d_.o.size);have cF:=fh dY.o bA;have cG:=bD.size;have cH:∀w,w=(if st=true then [] else oZ::cw)→mf ei (s,c,lk)=lF::(sw++w):=fun w bf=>by rw[bf,bd,Hsw.o,Gd.o];rfl
      clear y0 y1 y2 y3 y4 y5 y6;revert bA O9 azz aD bd bD cF cG cH;refine fK ?_;intro aG bE cJ bh _ bF aJ bG bH;go_upto_if 90 with (fail);clear cE qv cD
      cases st with
      |true=>
       go_wp2_with fail
       refine (HS.o.line bF.o (l:=(⟨#[32,32,100,101,112,101,110,100,115]⟩::sw)) (by first|exact aJ.o|simpa using aJ.o) ae A_ (by rw[bH.o [] rfl,h_];exact AZ lF sw) gM.o).mono ?_;exact Br
      |false=>
       go_wp2_with (first|(at_builtin;(refine kZ A2 rfl (.tmp 91) (.tmp 92) rfl wr.heap.size (.slice a9 (1+m3) c9) (1+m3) (([.string ⟨#[32,32,100,101,112,101,110,100,115]⟩]++sw.map Value.string)) rfl aJ.o 1 #[.string ⟨#[119,104,101,110]⟩] rfl rfl dW Z cY bG.o ?_;intro _ bJ bk bl cL;obtain⟨a9x,c9x,rfl⟩:=bg bk;have bL:=(iX bF.o aJ.o (aE _) bl bG.o:Below wr.heap.size wr bJ);obtain⟨Hown9x,Hb9x,Hg9x⟩:=aQ bk bL bl;clear bk bl cL bL))|(at_builtin;(have bM:=rts_frm bE.o (eS Hg9x.o) (fun p R e=>by have h1:=cJ.o p R;have cy:=(dY.o.lt _ e).2;omega);have bN:wr.heap.size≤bJ.heap.size:=Hb9x.o.size;have bO:=O bM;clear bM;refine vB A2 rfl (.tmp 93) (.tmp 94) rfl wr.heap.size (.slice a9x (1+m3+1) c9x) (1+m3+1) (([.string ⟨#[32,32,100,101,112,101,110,100,115]⟩]++sw.map Value.string++[.string ⟨#[119,104,101,110]⟩])) rfl Hown9x.o (some ⟨ew,ow,none⟩) m4 c4 (cw.map Value.string) rfl (by rw[gi,Nat.mul_one];exact bO.o.1.symm) bO.o.2 dW Z cY bN ?_;intro v9z w9z hown9z hg9z hm9z;obtain⟨a9z,c9z,rfl⟩:=bg hown9z;have bP:=(iX Hb9x.o Hown9x.o (aE _) hg9z bN:Below wr.heap.size wr w9z);obtain⟨Hown9z,Zo,Hg9z⟩:=aQ hown9z bP hg9z;clear hown9z hg9z hm9z bP)))
       refine (HS.o.line Zo.o (l:=(⟨#[32,32,100,101,112,101,110,100,115]⟩::(sw++⟨#[119,104,101,110]⟩::cw))) (by first|exact Hown9z.o|simpa using Hown9z.o) ae A_ (by rw[bH.o _ rfl];exact AZ lF _) gM.o).mono ?_;exact Br
     obtain rfl:n5=k:=Z;clear U df;have df:=aH hS;clear hS T;have df:=aH (by have e:=df.o;rw[show z+(1+p.rel.length+p.vars.length+p.cl.length)+n5=z+(1+p.rel.length+p.vars.length+p.cl.length+p.gr.length) by rw[tF.o.1];omega]at e;exact e:PkT w0 W1 b L (z+(1+p.rel.length+p.vars.length+p.cl.length+p.gr.length)) wr);have H:=Hbox.o _ _ df.o;have bQ:=J H 6;simp only[aq,ar,aw]at bQ;have A:=O H;clear H;go_wp2_with fail;clear bQ;go_loopw [103] (fun i wr=>∃k:Nat,k≤n6∧i=.int .i64 k∧PkT w0 W1 b L (z+(1+p.rel.length+p.vars.length+p.cl.length+p.gr.length)+k) wr) (fun i _=>n6-(RowKit.intOf i).toNat)
     case atStart=>exact⟨0,bj _,rfl,df.o⟩
     case round=>
      obtain⟨k,T,rfl,hS⟩:=hrel;by_cases U:k<n6
      ·refine apl ?_;intro k5 k6 yr aI x hx;obtain⟨e0,off,e1,g1,e2,g2,aa,g3,ad,g4,rfl,d0,d1,d2,d3,d4,d5,d6,⟨t1,t2⟩,t3,t4⟩:=yw.o.2.2 k x lD;refine Ww ?_;intro d0 d1 d2 d3 d4 d5 d6;have aU:=HL.o _ _ (pk_conf (star:=ei) aI);rw[←hx]at aU;have rV:=Cb.o.2 x EP;obtain⟨s,c,lk⟩:=x;dsimp only at d0 d1 d2 d3 d4 d5 d6 t1 t2 t3 t4 aU rV;revert hx t1 t2 t3 t4 d0 d1 d2 d3 d4 d5 aU rV;refine ado ?_;intro l1 l2 q1 d1 q2 d2 q3 d4 q4 d5 sw cw sn cn d0 d3 Hx fS nX uW iT qY Ht2 vQ Qu Ql Ht4 DM Hsw Gd Uv mE C0 LQ;obtain⟨wa,cW⟩:=Y (wr.alloc (.cells #[.string sn,.slice e1 q1 g1,.slice e2 q2 g2,.string cn,.slice aa q3 g3,.slice ad q4 g4,.int .i64 lk] 98));refine KH ?_;intro za ll b9;have y:wa.heap[za]?=some (.cells #[.string sn,.slice e1 q1 g1,.slice e2 q2 g2,.string cn,.slice aa q3 g3,.slice ad q4 g4,.int .i64 lk] 98 (0,0)):=I9;have y0:=J y 0;have y1:=J y 1;have y2:=J y 2;have y3:=J y 3;have y4:=J y 4;have y5:=J y 5;have y6:=J y 6;simp only[aq,ar,aw]at y0 y1 y2 y3 y4 y5 y6;obtain⟨HS,gk,l8⟩:=aQ hS b9 y;clear hS b9 y;go_upto_region 32 with (fail);rw[←cW,←ll];clear cW ll d0 d1 d2 d3 d4 d5 d6;obtain⟨wb,eB⟩:=Y (wa.alloc (.cells #[.string ⟨#[32,32,99,111,110,102,108,105,99,116,115]⟩] 9));refine Xb ?_;intro zb hzb oO fL;have N:wb.ownsRow wr.heap.size 9 1 (.slice (some ⟨zb,0,none⟩) 1 1) 1 [.string ⟨#[32,32,99,111,110,102,108,105,99,116,115]⟩]:=ary;refine KU ?_;intro H;have aX:=C0.o wb fL;have aY:=G oO l8.o;have aZ:=ab (aS wa (.cells #[.string ⟨#[32,32,99,111,110,102,108,105,99,116,115]⟩] 9)) y0;have a1:=ab (aS wa (.cells #[.string ⟨#[32,32,99,111,110,102,108,105,99,116,115]⟩] 9)) y1;have a6:=ab (aS wa (.cells #[.string ⟨#[32,32,99,111,110,102,108,105,99,116,115]⟩] 9)) y2;revert oO fL N H aX aY;refine bX ?_;intro I2 B cZ A Uk kU;go_wp2_with fail
       rw[←eB,←hzb];clear eB hzb;refine Uk.o.mono ?_;rintro e w3 ⟨a7,m3,c3,rfl,az,-,al,af⟩;have ay:=xn az;have ah:=B.o.trans (af.mono B.o.size);have aC:=fh cZ.o af;have a8:=G af kU.o;clear aZ a1 a6 y0 y1 y2 y3 y4 y5 y6 B cZ A;have H:=ah.size;have B:=aH ah;have cZ:=aH aC;revert az af ay a8 H;refine bU ?_;intro HT3 bK AN ES A;clear ah aC;go_upto_region 33 with (at_builtin;(refine vB A2 rfl (.tmp 107) (.tmp 110) rfl wr.heap.size (.slice (some ⟨zb,0,none⟩) 1 1) (1) ([.string ⟨#[32,32,99,111,110,102,108,105,99,116,115]⟩]) rfl cZ.o a7 m3 c3 (sw.map Value.string) rfl SW AN.o.2 dW Z cY A.o ?_;intro v9 w9 C F ag;obtain⟨a9,c9,rfl⟩:=bg C;have X:=(iX B.o cZ.o (aE _) F A.o:Below wr.heap.size wr w9);obtain⟨dY,d_,fq⟩:=aQ C X F;clear C F ag X));refine aod ?_;intro uN y0 y1 y2 y3 y4 y5 y6;have aM:=em.ii cn;have cB:m3≤1001:=al;have bS:∀w,w=(if cn=fd then [] else rI::cw)→kC (s,c,lk)=kv::(sw++w):=fun w bf=>by rw[bf,mE.o,Hsw.o,Gd.o];rfl
       obtain⟨an,cC,bT⟩:=aQ uN al bS;clear uN al bS;by_cases aj:cn.size=0
       ·have bW:cn.toList.isEmpty=true:=by rw[aM];exact aO aj
        clear aM;have aN:cn=fd:=em.ext (oT (by rw[em.len];exact aj));obtain⟨cM,bn⟩:=ak aj aN;clear aj aN;go_wp2_with fail;refine (HS.o.line d_.o (l:=(⟨#[32,32,99,111,110,102,108,105,99,116,115]⟩::sw)) SV ae A_ (by rw[bT.o [] (by rw[M bn.o]),h_];exact AZ kv sw) gM.o).mono ?_;exact Br
       have bW:cn.toList.isEmpty=false:=by rw[aM];exact be aj
       clear aM;have aN:cn≠fd:=fun h=>aj (by rw[h];rfl);have cN:∀W,Below w9.heap.size w9 W→W.cell? ⟨za,3,none⟩=some (.string cn)∧W.cell? ⟨za,4,none⟩=some (.slice aa q3 g3)∧W.cell? ⟨za,5,none⟩=some (.slice ad q4 g4):=fun W hb=>⟨J (G hb an.o) 3,J (G hb an.o) 4,J (G hb an.o) 5⟩;have cO:∀W,Below w9.heap.size w9 W→(W.ownsRow wr.heap.size 9 1 (.slice a9 (1+m3) c9) (1+m3) ([.string ⟨#[32,32,99,111,110,102,108,105,99,116,115]⟩]++sw.map Value.string)):=fun W hb=>fh dY.o hb;revert aj aN cN cO;refine bV ?_;intro cM bn ao Ch;go_upto_region 34 with (fail);clear bW y0 y1 y2 y3 y4 y5 y6;go_cut [17] (fun v W=>∃a n c,v=.slice a n c∧Below wr.heap.size wr W∧W.ownsRow wr.heap.size 9 1 (.slice a n c) n ((⟨#[32,32,99,111,110,102,108,105,99,116,115]⟩::(sw++⟨#[119,105,116,104]⟩::cw)).map Value.string))
       case first=>
        have aV:=ao.o _ (dA (aL w9.heap.size w9));refine I7 (n:=8) (S:=fun W=>W.cell? ⟨za,3,none⟩=some (.string cn)∧W.cell? ⟨za,4,none⟩=some (.slice aa q3 g3)∧W.cell? ⟨za,5,none⟩=some (.slice ad q4 g4)) aA rfl Oe (fun ops hops=>?_);have aP:Below w9.heap.size w9 w9.drew:=dA (aL _ _);generalize w9.drew=cP at aP aV⊢;have cQ:=Ch.o _ aP;have cR:=d_.o.trans (aP.mono d_.o.size);revert aP cQ cR;refine fo ?_;intro cr yZ Yv;refine pr hops 0 ?_;refine pr hops 3 ?_;refine lr hops 4 ?_;refine oz hops 1 fun K hK=>?_;go_simp;have bY:=cr.o.trans ((aS cP (.cells #[.string ⟨#[119,105,116,104]⟩] 9)).mono cr.o.size);have cS:=O bY;clear bY;clear aV;have aV:=ao.o _ cS.o;revert K hK;refine pj ?_;refine oz hops 2 fun K hK=>?_;refine Eb A2 (.tmp 116) (.tmp 117) rfl wr.heap.size (.slice a9 (1+m3) c9) (1+m3) ([.string ⟨#[32,32,99,111,110,102,108,105,99,116,115]⟩]++sw.map Value.string) rfl yZ.o 1 #[.string ⟨#[119,105,116,104]⟩] rfl rfl dW Z cY Yv.o.size (fun v' wx awa jk hmx=>?_);obtain⟨ax,cx,rfl⟩:=bg awa;have de:=(iX Yv.o yZ.o (aE _) jk Yv.o.size:Below wr.heap.size wr wx);have aR:=bI (G cr.o an.o) (eS jk) (dM yZ.o (G cr.o an.o) D);have bZ:∀W,Below wx.heap.size wx W→W.cell? ⟨za,3,none⟩=some (.string cn)∧W.cell? ⟨za,4,none⟩=some (.slice aa q3 g3)∧W.cell? ⟨za,5,none⟩=some (.slice ad q4 g4):=fun W hb=>⟨J (G hb aR) 3,J (G hb aR) 4,J (G hb aR) 5⟩;have ba:=LQ.o wx de;clear ao;have ao:=aH bZ;clear bZ;revert jk awa hmx de aR ba;refine bX ?_;intro yK aBf Hmx cU ZO bc;clear aV;have aV:=ao.o _ (aL _ _);revert K hK;refine pj ?_;refine oz hops 5 fun K hK=>?_;go_simp;refine bc.o.mono ?_;rintro e w4 ⟨a4,m4,c4,rfl,O9,-,pK,bA⟩;have aD:=xn O9;have cT:=fh aBf.o bA;have cV:=cU.o.trans (bA.mono cU.o.size);revert O9 bA aD cT cV;refine bU ?_;intro bE aG bh YG Yx;refine cK ?_;clear aV;have aV:=ao.o _ aG.o;revert K hK;refine pj ?_;refine oz hops 6 fun K hK=>?_;refine zld A2 (.tmp 118) (.tmp 121) rfl wr.heap.size (.slice ax (1+m3+1) cx) (1+m3+1) (([.string ⟨#[32,32,99,111,110,102,108,105,99,116,115]⟩]++sw.map Value.string)++[.string ⟨#[119,105,116,104]⟩]) rfl YG.o a4 m4 c4 (cw.map Value.string) rfl (by rw[gi,Nat.mul_one];exact bh.o.1.symm) bh.o.2 dW Z cY Yx.o.size (fun v' wy au T0 hmy=>?_);obtain⟨b0,b1,rfl⟩:=bg au;have aF:=(iX Yx.o YG.o (aE _) T0 Yx.o.size:Below wr.heap.size wr wy);have aT:=bI (G aG.o ZO.o) (eS T0) (dM YG.o (G aG.o ZO.o) D)
        have b8:wy.cell? ⟨za,3,none⟩=some (.string cn)∧wy.cell? ⟨za,4,none⟩=some (.slice aa q3 g3)∧wy.cell? ⟨za,5,none⟩=some (.slice ad q4 g4):=⟨J aT 3,J aT 4,J aT 5⟩;revert T0 au hmy aF aT;refine bU ?_;intro _ aW _ bo _;clear aV;have aV:=b8;revert K hK;refine pj ?_;refine oz hops 7 fun K hK=>?_;go_simp;revert K hK;refine pj ?_;refine Pr hops aA ?_;go_simp;clear aV b8;go_wp2_with fail;go_meet
        exact⟨b0,_,b1,rfl,bo.o,by simpa using aW.o⟩
       case rest=>
        obtain⟨b0,_,b1,rfl,aF,au⟩:=hcut;obtain⟨wy,hwy⟩:=Y wc;rw[←hwy]at aF au⊢;clear hwy;obtain⟨bo,aW⟩:=ak aF au;clear aF au;go_wp2_with fail;refine (HS.o.line bo.o (l:=(⟨#[32,32,99,111,110,102,108,105,99,116,115]⟩::(sw++⟨#[119,105,116,104]⟩::cw))) (by first|exact aW.o|simpa using aW.o) ae A_ (by rw[bT.o _ (by rw[E bn.o])];exact AZ kv _) gM.o).mono ?_;exact Br
      obtain rfl:n6=k:=Z;clear U df;have df:=aH hS;clear hS T;have df:=aH (by have e:=df.o;rw[show z+(1+p.rel.length+p.vars.length+p.cl.length+p.gr.length)+n6=z+(1+p.rel.length+p.vars.length+p.cl.length+p.gr.length+p.ci.length) by rw[yw.o.1];omega]at e;exact e:PkT w0 W1 b L (z+(1+p.rel.length+p.vars.length+p.cl.length+p.gr.length+p.ci.length)) wr);have H:=Hbox.o _ _ df.o;have ca:=J H 7;simp only[aq,ar,aw]at ca;have A:=O H;clear H;go_wp2_with fail;clear ca;go_loopw [130] (fun i wr=>∃k:Nat,k≤n7∧i=.int .i64 k∧PkT w0 W1 b L (z+(1+p.rel.length+p.vars.length+p.cl.length+p.gr.length+p.ci.length)+k) wr) (fun i _=>n7-(RowKit.intOf i).toNat)
      case atStart=>exact⟨0,bj _,rfl,df.o⟩
      case round=>
       obtain⟨k,T,rfl,hS⟩:=hrel;by_cases U:k<n7
       ·refine kG ?_;intro k5;have k6:(k:Int)<(n7:Int):=Z;have yr:k<9223372036854775807:=by have:=Hz7.o;omega
        have aI:k<p.files.length:=by have:=Fw.o.1;omega
        obtain⟨v,hv⟩:=Y (p.files[k]);obtain⟨e0,off,rfl,d0⟩:=Fw.o.2 k (.string v) SY;have d0:=ab hS.bm d0;have aU:=HL.o _ _ (pk_file (star:=ei) aI);rw[←hv]at aU;obtain⟨wb,eB⟩:=Y (wr.alloc (.cells #[.string ⟨#[32,32,102,105,108,101]⟩,.string v] 9));refine Wo ?_;intro zb hzb oO fL;have N:wb.ownsRow wr.heap.size 9 1 (.slice (some ⟨zb,0,none⟩) 2 2) 2 [.string ⟨#[32,32,102,105,108,101]⟩,.string v]:=Yd;refine KU ?_;intro H;revert hS hv aU oO fL N H;refine eb ?_;intro HS Hv fS I2 B cZ A;go_wp2_with fail;rw[←eB,←hzb];clear eB hzb d0;refine (HS.o.line B.o (l:=[⟨#[32,32,102,105,108,101]⟩,v]) SU ae A_ (AZ kY [v]) gM.o).mono ?_;exact Br
       obtain rfl:n7=k:=Z;clear U df;have df:=aH hS;clear hS T;have cX:=ya.o _ _ df.o;have c1:=ybf (star:=ei) (p:=p);have e2:=ga.o.1;have aa:=gZ.o.1;have ad:=vi.o.1;have c8:=tF.o.1;have da:=yw.o.1;have db:=Fw.o.1;revert cX c1 e2 aa ad c8 da db;refine fg ?_;intro sB Hl9 T_ He3 He4 He5 He6 He7;go_wp2_with fail;go_end0
       refine⟨rfl,?_⟩;have e:=sB.o;rw[Hl9.o];have q:z+(1+p.rel.length+p.vars.length+p.cl.length+p.gr.length+p.ci.length+p.files.length)=z+(1+p.rel.length+p.vars.length+p.cl.length+p.gr.length+p.ci.length)+n7:=by rw[He7.o];omega
       rw[q];exact e
end
section
open RowKit Shelf Lib av
attribute [local go_sem ↓] wp_at_zero wp_at_succ
theorem yaz(s:ByteArray)(t:Bool)(a:ByteArray)(b:Bool)(W:World):(binOp .neq 66 (.agg #[.string s,.bool t]) (.agg #[.string a,.bool b])).run prog W=.ok (.bool (!(decide (s=a)&&decide (t=b)))) W:=by
 have g:=ox;have i:=YN;have c:prog.underlying 66=some (.struct (prog.fieldsOf 66)):=aA;have d:prog.stoodInHeld 66=false:=aA;rw[run_neq_struct,show (10000:Nat)=9999+1 from rfl,Sk W 9999 66 _ _ c d];simp only[Program.fieldsOf,underlying66];go_simp;have e:=em.gu s a;by_cases h1:s=a<;>by_cases f:t=b<;>simp[h1,f]at e⊢<;>simp_all
theorem zjb{m:List ByteArray}(h:Hj w [v] l)(p:Hj w [u] m):Calls prog 27 #[v,u] w fun e w'=>e=.returned (.bool (decide (l=m)))∧∃q,w'=w.drewN q:=by
 obtain⟨a,cap,rfl,s,g⟩:=lK h;obtain⟨a2,tY,rfl,cc,g2⟩:=lK p;refine Gq ?_;intro n hn n2 cS r hr;rw[←hr];rw[←hn]at s h⊢;rw[←cS]at cc p⊢;revert g g2 h hn p cS hr;refine eb ?_;intro Hg lB Hh Hn Hm fV Hr;go_enter func27,ntmps27;exact aix
theorem zid{m:List ByteArray}(h:Hj w [v] l)(p:Hj w [u] m):Calls prog 32 #[v,u] w fun e w'=>e=.returned (.bool (decide (l=m)))∧∃q,w'=w.drewN q:=by
 obtain⟨a,cap,rfl,s,g⟩:=lK h;obtain⟨a2,tY,rfl,cc,g2⟩:=lK p;refine Gq ?_;intro n hn n2 cS r hr;rw[←hr];rw[←hn]at s h⊢;rw[←cS]at cc p⊢;revert g g2 h hn p cS hr;refine eb ?_;intro Hg lB Hh Hn Hm fV Hr;go_enter func32,ntmps32;exact aix
theorem zwl{l m:List K1}(h:ct 2 o_ w [v] l)(p:ct 2 o_ w [u] m):Calls prog 55 #[v,u] w fun e w'=>e=.returned (.bool (decide (l=m)))∧∃q,w'=w.drewN q:=by
 obtain⟨a,cap,rfl,A,g⟩:=zom h;obtain⟨a2,tY,rfl,cc,g2⟩:=zom p;refine Gq ?_;intro n hn n2 cS r hr;have B:=fun s t a b=>yaz s t a b;rw[←hr];rw[←hn]at A h⊢;rw[←cS]at cc p⊢;revert g g2 h hn p cS hr B;refine fg ?_;intro Hg lB Hh Hn Hm fV Hr qY;go_enter func55,ntmps55;refine R8 ?_;intro k1 cJ;go_wp2_with fail;clear k1;go_loopw [13] (fun i wr=>∃k:Nat,k≤n∧i=.int .i64 k∧(∀j (h1:j<l.length) (h2:j<m.length),j<k→l[j]=m[j])∧∃q,wr=w.drewN q) (fun i _=>n-(RowKit.intOf i).toNat)
 case atStart=>exact⟨0,bj _,rfl,fun _ _ _ h=>Z,0,rfl⟩
 case round=>
  obtain⟨k,_,rfl,aj,q,rfl⟩:=hrel;by_cases W:k<n
  ·refine Bo ?_;intro aI gY;obtain⟨b,off,rfl,d0,d1⟩:=Hg.o k _ (bR aI);obtain⟨b2,nY,rfl,f0,f1⟩:=lB.o k _ (bR gY);have cq:l[k]=m[k]→∀j (h1:j<l.length) (h2:j<m.length),j<k+1→l[j]=m[j]:=fun h j h1 h2 hjk=>by exact DP
   have bQ:l[k]≠m[k]→l≠m:=fun h e=>h Qt;revert d0 d1 f0 f1 cq bQ;refine VJ ?_;intro x hx y bQ cq hy jK s d0 hs t d1 ht s' f0 lS t' f1 q2 nS;clear jK;obtain⟨c,hc⟩:=Y (decide (x=y));rw[←hc]at q2;refine s_ ?_;intro k5 k6;have X:(k:Int)<(n2:Int):=GN
   cases c with
   |true=>have z:=cq (ed hc.symm);simp only[QM]at q2;obtain⟨cd,C,F,K,L,N,R,S,T,U,Hq⟩:=O2 aj cq bQ hx hy hc hs ht lS nS z;clear aj cq bQ hx hy hc hs ht lS nS z;exact V5
   |false=>have hf:r=false:=aui;simp only[U8]at q2;obtain⟨cd,C,F,K,L,N,R,S,T,U,Hf⟩:=O2 aj cq bQ hx hy hc hs ht lS nS hf;clear aj cq bQ hx hy hc hs ht lS nS hf;exact Xz
  exact Rj
end
section
open Shelf RowKit Lib av cy
attribute [local go_sem ↓] wp_at_zero wp_at_succ
theorem zzr{n m:ByteArray}{l1 l2:List ByteArray}(h1:Hj w [.slice a1 n1 c1] l1)(h2:Hj w [.slice a2 n2 c2] l2):
  Calls prog 57 #[.agg #[.string n,.slice a1 n1 c1],.agg #[.string m,.slice a2 n2 c2]] w fun e w'=>e=.returned (.bool (decide (n=m)&&decide (l1=l2)))∧Below w.heap.size w w':=by
 obtain⟨W1,aK⟩:=Y ((w.alloc (.cells #[.string n,.slice a1 n1 c1] 68)).alloc (.cells #[.string m,.slice a2 n2 c2] 68));refine KR ?_;intro g hg ai;have p0:W1.heap[g]?=some (.cells #[.string n,.slice a1 n1 c1] 68 (0,0)):=yz;have p1:W1.heap[g+1]?=some (.cells #[.string m,.slice a2 n2 c2] 68 (0,0)):=yq;refine ajc ?_;intro x0 x1 y0 y1 bn dJ fR bs hS oF;revert h1 h2 ai p0 p1 fR hS oF;refine fg ?_;intro H1 H2 aB dR fG yY HS UJ;go_enter func57,ntmps57;exact afp
theorem yev{n m:ByteArray}{i j:Int}{l1 l2:List ByteArray}(h1:Hj w [.slice a1 n1 c1] l1)(h2:Hj w [.slice a2 n2 c2] l2):
  Calls prog 31 #[.agg #[.string n,.slice a1 n1 c1,.int .i64 i],.agg #[.string m,.slice a2 n2 c2,.int .i64 j]] w fun e w'=>e=.returned (.bool (decide (n=m)&&decide (l1=l2)))∧Below w.heap.size w w':=by
 obtain⟨W1,aK⟩:=Y ((w.alloc (.cells #[.string n,.slice a1 n1 c1,.int .i64 i] 47)).alloc (.cells #[.string m,.slice a2 n2 c2,.int .i64 j] 47));refine KR ?_;intro g hg ai;have p0:W1.heap[g]?=some (.cells #[.string n,.slice a1 n1 c1,.int .i64 i] 47 (0,0)):=yz;have p1:W1.heap[g+1]?=some (.cells #[.string m,.slice a2 n2 c2,.int .i64 j] 47 (0,0)):=yq;refine ajc ?_;intro x0 x1 y0 y1 bn dJ fR bs hS oF;revert h1 h2 ai p0 p1 fR hS oF;refine fg ?_;intro H1 H2 aB dR fG yY HS UJ;go_enter func31,ntmps31;exact afp
theorem zzs{s1 s2 t1 t2:ByteArray}{d1:Option Addr}{p q r s:Nat}{t u v y:Nat}{z d3:Option Addr}{A B C F:Nat}{K d4:Option Addr}{L N R S:Nat}{T U:Int}{l1 l2 l3 l4:List h8}{g1 g2 g3 g4:List el}
  (h1:gy w [.slice a1 p q] l1) (h2:fm w [.slice a2 t u] g1) (h3:gy w [.slice z A B] l2) (h4:fm w [.slice K L N] g2)
  (k1:gy w [.slice d1 r s] l3) (k2:fm w [.slice d2 v y] g3) (k3:gy w [.slice d3 C F] l4) (k4:fm w [.slice d4 R S] g4) :
  Calls prog 59 #[.agg #[.string s1,.slice a1 p q,.slice a2 t u,.string s2,.slice z A B,.slice K L N,.int .i64 T],.agg #[.string t1,.slice d1 r s,.slice d2 v y,.string t2,.slice d3 C F,.slice d4 R S,.int .i64 U]] w fun e w'=>e=.returned (.bool (decide ((s1,l1,g1)=(t1,l3,g3))&&decide ((s2,l2,g2)=(t2,l4,g4))))∧Below w.heap.size w w':=by
 obtain⟨W1,aK⟩:=Y ((w.alloc (.cells #[.string s1,.slice a1 p q,.slice a2 t u,.string s2,.slice z A B,.slice K L N,.int .i64 T] 96)).alloc (.cells #[.string t1,.slice d1 r s,.slice d2 v y,.string t2,.slice d3 C F,.slice d4 R S,.int .i64 U] 96));refine KR ?_;intro g hg ai;have p0:W1.heap[g]?=some (.cells #[.string s1,.slice a1 p q,.slice a2 t u,.string s2,.slice z A B,.slice K L N,.int .i64 T] 96 (0,0)):=yz;have p1:W1.heap[g+1]?=some (.cells #[.string t1,.slice d1 r s,.slice d2 v y,.string t2,.slice d3 C F,.slice d4 R S,.int .i64 U] 96 (0,0)):=yq;refine aef ?_;intro x0 x1 x2 y0 y1 y2 bn hS fR bs hT oF;revert h1 h2 h3 h4 k1 k2 k3 k4 ai p0 p1 hS fR hT oF;refine uv ?_;intro H1 H2 H3 H4 AM CE IA Hk4 aB dR fG HS yY HT UJ;go_enter func59,ntmps59;exact aqh
theorem zwm{s1 s2 t1 t2:ByteArray}{d1:Option Addr}{p q r s:Nat}{t u v y:Nat}{z d3:Option Addr}{A B C F:Nat}{K d4:Option Addr}{L N R S:Nat}{T U:Int}{l1 l2 l3 l4:List h8}{g1 g2 g3 g4:List el}
  (h1:gy w [.slice a1 p q] l1) (h2:fm w [.slice a2 t u] g1) (h3:gy w [.slice z A B] l2) (h4:fm w [.slice K L N] g2)
  (k1:gy w [.slice d1 r s] l3) (k2:fm w [.slice d2 v y] g3) (k3:gy w [.slice d3 C F] l4) (k4:fm w [.slice d4 R S] g4) :
  Calls prog 62 #[.agg #[.string s1,.slice a1 p q,.slice a2 t u,.string s2,.slice z A B,.slice K L N,.int .i64 T],.agg #[.string t1,.slice d1 r s,.slice d2 v y,.string t2,.slice d3 C F,.slice d4 R S,.int .i64 U]] w fun e w'=>e=.returned (.bool (decide ((s1,l1,g1)=(t1,l3,g3))&&decide ((s2,l2,g2)=(t2,l4,g4))))∧Below w.heap.size w w':=by
 obtain⟨W1,aK⟩:=Y ((w.alloc (.cells #[.string s1,.slice a1 p q,.slice a2 t u,.string s2,.slice z A B,.slice K L N,.int .i64 T] 98)).alloc (.cells #[.string t1,.slice d1 r s,.slice d2 v y,.string t2,.slice d3 C F,.slice d4 R S,.int .i64 U] 98));refine KR ?_;intro g hg ai;have p0:W1.heap[g]?=some (.cells #[.string s1,.slice a1 p q,.slice a2 t u,.string s2,.slice z A B,.slice K L N,.int .i64 T] 98 (0,0)):=yz;have p1:W1.heap[g+1]?=some (.cells #[.string t1,.slice d1 r s,.slice d2 v y,.string t2,.slice d3 C F,.slice d4 R S,.int .i64 U] 98 (0,0)):=yq;refine aef ?_;intro x0 x1 x2 y0 y1 y2 bn hS fR bs hT oF;revert h1 h2 h3 h4 k1 k2 k3 k4 ai p0 p1 hS fR hT oF;refine uv ?_;intro H1 H2 H3 H4 AM CE IA Hk4 aB dR fG HS yY HT UJ;go_enter func62,ntmps62;exact aqh
theorem zr4{f:FuncId}{b:Bool}(h:Calls prog f args W fun e w'=>e=.returned (.bool b)∧∃q,w'=W.drewN q):Calls prog f args W fun e w'=>e=.returned (.bool b)∧Below W.heap.size W w' :=
 h.mono fun e w' ⟨h1,q,a⟩=>⟨h1,by rw[a];exact dU (aL _ _) q⟩
theorem Q1{α β:Type}[DecidableEq β]{f:α→α→Bool}{g:α→β}(a:∀x y,f x y=true↔g x=g y)(l m:List α):q_ f l m=decide (l.map g=m.map g):=by
 rw[Cs,fE];exact eqAll_map fun x _ y _=>a x y
theorem yd7(W:World)(cs:List Value)(x:qF)(h:n9 W cs x):ycq cs:=by
 obtain⟨v,rfl,h1⟩:=h;obtain⟨a1,c1,rfl,-⟩:=lK h1;exact⟨_,_,_,_,rfl⟩
theorem yd8(W:World)(cs:List Value)(x:ky)(h:fX W cs x):ycs cs:=by
 exact agu
theorem zxz(W:World)(cs:List Value)(x:ky)(h:fX W cs x):zxi cs:=by
 exact agu
theorem shape_pfM(W:World)(cs:List Value)(x:ut)(h:AC W cs x):zxh cs:=by
 obtain⟨v,rfl,h1⟩:=h;obtain⟨a1,c1,rfl,-⟩:=lK h1;exact⟨_,_,_,_,_,rfl⟩
theorem shape_pkM(W:World)(cs:List Value)(x:ap)(h:GE W cs x):ycr cs:=by
 obtain⟨v2,v3,v4,v5,v6,v7,rfl,h⟩:=h;obtain⟨b2,c2,b3,c3,b4,c4,b5,c5,b6,c6,b7,c7,rfl,rfl,rfl,rfl,rfl,rfl⟩:=xa.shape h;exact⟨_,_,_,_,_,_,_,_,_,_,_,_,_,_,_,_,_,_,_,_,rfl⟩
theorem yeu{w:World}{l m:List qF}(h:ct 2 n9 w [v] l)(a:ct 2 n9 w [u] m):
  Calls prog 56 #[v,u,.func (.func 57) #[] #[]] w fun e w'=>e=.returned (.bool (decide (l=m)))∧Below w.heap.size w w':=by
 have h1:=yeq Ni yd7 h a (mQ func57 aA rfl) (g:=fun x y=>decide (x.1=y.1)&&decide (x.2=y.2)) fun W cs ds x y _ hx hy _ _=>by obtain⟨v,rfl,h1⟩:=hx;obtain⟨u,rfl,h2⟩:=hy;obtain⟨a1,c1,rfl,-⟩:=lK h1;obtain⟨a2,c2,rfl,-⟩:=lK h2;exact zzr h1 h2
 rw[Q1 (g:=fun x=>x) (fun x y=>by simp[Il])]at h1;simpa using h1
theorem yew{w:World}{l m:List ky}(h:ct 7 fX w [v] l)(a:ct 7 fX w [u] m):
  Calls prog 58 #[v,u,.func (.func 59) #[] #[]] w fun e w'=>e=.returned (.bool (nF l m))∧Below w.heap.size w w':=by
 have h1:=yet zn yd8 h a (mQ func59 aA rfl) (g:=fun x y=>decide (x.1=y.1)&&decide (x.2.1=y.2.1)) fun W cs ds x y _ hx hy _ _=>by obtain⟨a1,a2,a3,b1,b2,b3,rfl,h1,h2⟩:=hx;obtain⟨b1,c1,b2,c2,rfl,rfl,rfl,k1,k2⟩:=u_ h1;obtain⟨b3,c3,b4,c4,rfl,rfl,rfl,k3,k4⟩:=u_ h2;obtain⟨a1',Fv,a3',b1',b2',b3',rfl,Vl,h2'⟩:=hy;obtain⟨d1,e1,d2,e2,rfl,rfl,rfl,j1,j2⟩:=u_ Vl;obtain⟨d3,e3,d4,e4,rfl,rfl,rfl,j3,j4⟩:=u_ h2';exact zzs k1 k2 k3 k4 j1 j2 j3 j4
 exact apj
theorem zzt{w:World}{l m:List ky}(h:ct 7 fX w [v] l)(a:ct 7 fX w [u] m):
  Calls prog 61 #[v,u,.func (.func 62) #[] #[]] w fun e w'=>e=.returned (.bool (nF l m))∧Below w.heap.size w w':=by
 have h1:=zzq zn zxz h a (mQ func62 aA rfl) (g:=fun x y=>decide (x.1=y.1)&&decide (x.2.1=y.2.1)) fun W cs ds x y _ hx hy _ _=>by obtain⟨a1,a2,a3,b1,b2,b3,rfl,h1,h2⟩:=hx;obtain⟨b1,c1,b2,c2,rfl,rfl,rfl,k1,k2⟩:=u_ h1;obtain⟨b3,c3,b4,c4,rfl,rfl,rfl,k3,k4⟩:=u_ h2;obtain⟨a1',Fv,a3',b1',b2',b3',rfl,Vl,h2'⟩:=hy;obtain⟨d1,e1,d2,e2,rfl,rfl,rfl,j1,j2⟩:=u_ Vl;obtain⟨d3,e3,d4,e4,rfl,rfl,rfl,j3,j4⟩:=u_ h2';exact zwm k1 k2 k3 k4 j1 j2 j3 j4
 exact apj
theorem eqPfs_any{w:World}{l m:List ut}(h:ct 3 AC w [v] l)(a:ct 3 AC w [u] m):
  Calls prog 30 #[v,u,.func (.func 31) #[] #[]] w fun e w'=>e=.returned (.bool (xp l m))∧Below w.heap.size w w':=by
 have h1:=zzp AI shape_pfM h a (mQ func31 aA rfl) (g:=fun x y=>decide (x.1=y.1)&&decide (x.2.1=y.2.1)) fun W cs ds x y _ hx hy _ _=>by obtain⟨v,rfl,h1⟩:=hx;obtain⟨u,rfl,h2⟩:=hy;obtain⟨a1,c1,rfl,-⟩:=lK h1;obtain⟨a2,c2,rfl,-⟩:=lK h2;exact yev h1 h2
 rw[Q1 (g:=pO) (fun x y=>by unfold pO;simp)]at h1;exact h1
theorem zq5{p q:ap}{nm2:ByteArray}{li2:Int}{d3:Option Addr}{e3:Nat}{d4:Option Addr}{e4:Nat}{d5:Option Addr}{e5:Nat}{d6:Option Addr}{e6:Nat}{d7:Option Addr}{e7:Nat}
  (U:p.name=nm) (X:q.name=nm2) (hp:xa w (.slice b2 n2 c2) (.slice b3 n3 c3) (.slice b4 n4 c4) (.slice b5 n5 c5) (.slice b6 n6 c6) (.slice b7 n7 c7) p) (hq:xa w (.slice d2 m2 e2) (.slice d3 m3 e3) (.slice d4 m4 e4) (.slice d5 m5 e5) (.slice d6 m6 e6) (.slice d7 m7 e7) q) :
  Calls prog 29 #[.agg #[.string nm,.int .i64 li,.slice b2 n2 c2,.slice b3 n3 c3,.slice b4 n4 c4,.slice b5 n5 c5,.slice b6 n6 c6,.slice b7 n7 c7],.agg #[.string nm2,.int .i64 li2,.slice d2 m2 e2,.slice d3 m3 e3,.slice d4 m4 e4,.slice d5 m5 e5,.slice d6 m6 e6,.slice d7 m7 e7]] w fun e w'=>e=.returned (.bool (sF p q))∧Below w.heap.size w w':=by
 refine aqp ?_;intro W1 aK g hg ai jQ eA f_ eF;have y:=zvf p q;rw[U,X]at y;obtain⟨r,fw⟩:=Y (sF p q);rw[←fw];rw[←fw]at y;have aa:=em.gu nm nm2;obtain⟨bn,fR⟩:=Y (decide (nm=nm2));rw[←fR]at aa y;have ab:=fun(W:World)(k:Below W1.heap.size W1 W)=>zr4 (zwl (bz zkv _ _ _ _ f_.1 k) (bz zkv _ _ _ _ eF.1 k));obtain⟨c2,gX⟩:=Y (decide (p.rel=q.rel));rw[←gX]at y;simp only[←gX]at ab;have ad:=fun(W:World)(k:Below W1.heap.size W1 W)=>yeu (bz Ni _ _ _ _ f_.2.1 k) (bz Ni _ _ _ _ eF.2.1 k);obtain⟨c3,jj⟩:=Y (decide (p.vars=q.vars));rw[←jj]at y;simp only[←jj]at ad;have ae:=fun(W:World)(k:Below W1.heap.size W1 W)=>zr4 (zid (iY f_.2.2.1 k) (iY eF.2.2.1 k));obtain⟨c4,qv⟩:=Y (decide (p.cl=q.cl));rw[←qv]at y;simp only[←qv]at ae;have af:=fun(W:World)(k:Below W1.heap.size W1 W)=>zr4 (zid (iY f_.2.2.2.2.2 k) (iY eF.2.2.2.2.2 k));obtain⟨c7,tU⟩:=Y (decide (p.files=q.files));rw[←tU]at y;simp only[←tU]at af;have ag:=fun(W:World)(k:Below W1.heap.size W1 W)=>yew (bz zn _ _ _ _ f_.2.2.2.1 k) (bz zn _ _ _ _ eF.2.2.2.1 k);obtain⟨c5,tT⟩:=Y (nF p.gr q.gr);rw[←tT]at y;simp only[←tT]at ag;have ah:=fun(W:World)(k:Below W1.heap.size W1 W)=>zzt (bz zn _ _ _ _ f_.2.2.2.2.1 k) (bz zn _ _ _ _ eF.2.2.2.2.1 k);obtain⟨c6,XN⟩:=Y (nF p.ci q.ci);rw[←XN]at y;simp only[←XN]at ah;clear fw;have aj:=J jQ 0;have al:=J eA 0;simp only[aq,ar,aw]at aj al;revert U X hp hq ai jQ eA f_ eF fR gX ab jj ad qv ae tU af tT ag y XN ah;refine aqt ?_;intro mj Q7 Hp Hq aB dR fG GZ axk yY uL qW Gc yW Hc4 IY Hc7 HC7 Hc5 HC5 vj Hc6 HC6;go_enter func29,ntmps29;go_upto_region 1 with (fail);refine iE ?_;clear aK hg
 cases bn with
 |false=>
  go_wp2_with fail
  go_ret;exact⟨by rw[vj.o];rfl,aB.o⟩
 |true=>
  have an:=J (G (aL W1.heap.size W1) dR.o) 2;have ao:=J (G (aL W1.heap.size W1) fG.o) 2;simp only[aq,ar,aw]at an ao;have au:=qW.o _ (aL W1.heap.size W1);have aP:=O au;clear au;go_wp2_with fail;refine aP.o.mono ?_;rintro e a6 ⟨rfl,K⟩;have z:=((aL W1.heap.size W1)).trans (K.mono ((aL W1.heap.size W1)).size);clear an ao;clear aj al aa
  cases c2 with
  |false=>
   obtain⟨aQ,_⟩:=ak z K;clear z K;go_wp2_with fail;go_ret;exact⟨JS,aB.o.trans (aQ.o.mono aB.o.size)⟩
  |true=>
   have av:=J (G z dR.o) 3;have ax:=J (G z fG.o) 3;simp only[aq,ar,aw]at av ax;have ay:=yW.o _ z;have aR:=O ay;clear ay;go_wp2_with fail;refine aR.o.mono ?_;rintro e w3 ⟨rfl,L⟩;have A:=(z).trans (L.mono (z).size);clear av ax
   cases c3 with
   |false=>
    obtain⟨aT,_⟩:=ak A L;clear A L;go_wp2_with fail;go_ret;exact⟨JS,aB.o.trans (aT.o.mono aB.o.size)⟩
   |true=>
    have az:=J (G A dR.o) 4;have aA:=J (G A fG.o) 4;simp only[aq,ar,aw]at az aA;have aC:=IY.o _ A;have aU:=O aC;clear aC;go_wp2_with fail;refine aU.o.mono ?_;rintro e a7 ⟨rfl,N⟩;have B:=(A).trans (N.mono (A).size);clear az aA
    cases c4 with
    |false=>
     obtain⟨aV,_⟩:=ak B N;clear B N;go_wp2_with fail;go_ret;exact⟨JS,aB.o.trans (aV.o.mono aB.o.size)⟩
    |true=>
     have aD:=J (G B dR.o) 7;have aE:=J (G B fG.o) 7;simp only[aq,ar,aw]at aD aE;have aF:=HC7.o _ B;have aW:=O aF;clear aF;go_wp2_with fail;refine aW.o.mono ?_;rintro e a8 ⟨rfl,R⟩;have C:=(B).trans (R.mono (B).size);clear aD aE
     cases c7 with
     |false=>
      obtain⟨aX,_⟩:=ak C R;clear C R;go_wp2_with fail;go_ret;exact⟨JS,aB.o.trans (aX.o.mono aB.o.size)⟩
     |true=>
      have aG:=J (G C dR.o) 5;have aH:=J (G C fG.o) 5;simp only[aq,ar,aw]at aG aH;have aI:=HC5.o _ C;have aY:=O aI;clear aI;go_wp2_with fail;refine aY.o.mono ?_;rintro e ba ⟨rfl,S⟩;have F:=(C).trans (S.mono (C).size);clear aG aH
      cases c5 with
      |false=>
       obtain⟨aZ,_⟩:=ak F S;clear F S;go_wp2_with fail;go_ret;exact⟨JS,aB.o.trans (aZ.o.mono aB.o.size)⟩
      |true=>
       have aJ:=J (G F dR.o) 6;have aM:=J (G F fG.o) 6;simp only[aq,ar,aw]at aJ aM;have aN:=HC6.o _ F;have a1:=O aN;clear aN;go_wp2_with fail;refine a1.o.mono ?_;rintro e bb ⟨rfl,T⟩;have aO:=(F).trans (T.mono (F).size);clear aJ aM;obtain⟨je,aEe⟩:=ak aO T;clear aO T;go_wp2_with fail;go_ret;exact⟨JS,aB.o.trans (je.o.mono aB.o.size)⟩
theorem zli{x y:ch}{d1:Option Addr}{m1 e1:Nat}(hp:mg w (.slice a1 n1 c1) (.slice a2 n2 c2) x)(hq:mg w (.slice d1 m1 e1) (.slice d2 m2 e2) y):
  Calls prog 12 #[.agg #[.slice a1 n1 c1,.slice a2 n2 c2],.agg #[.slice d1 m1 e1,.slice d2 m2 e2]] w fun e w'=>e=.returned (.bool (zd x y))∧Below w.heap.size w w':=by
 refine afh ?_;intro W1 aK g hg ai jQ eA f_ eF;have l:=yer Fk shape_pkM f_.1 eF.1 (mQ func29 aA rfl) (g:=sF) fun W cs ds x y _ hx hy _ _=>by obtain⟨v2,v3,v4,v5,v6,v7,rfl,h⟩:=hx;obtain⟨b2,c2,b3,c3,b4,c4,b5,c5,b6,c6,b7,c7,rfl,rfl,rfl,rfl,rfl,rfl⟩:=xa.shape h;obtain⟨u2,u3,u4,u5,u6,u7,rfl,k⟩:=hy;obtain⟨d2,e2,d3,e3,d4,e4,d5,e5,d6,e6,d7,e7,rfl,rfl,rfl,rfl,rfl,rfl⟩:=xa.shape k;exact zq5 rfl rfl h k
 rw[Q1 (g:=J2) (fun x y=>by unfold sF;simp)]at l;have m:=fun(W:World)(k:Below W1.heap.size W1 W)=>eqPfs_any (bz AI _ _ _ _ f_.2 k) (bz AI _ _ _ _ eF.2 k);have n:=J jQ 0;have p:=J eA 0;simp only[aq,ar,aw]at n p;have q:zd x y=(decide (x.pk.map J2=y.pk.map J2)&&xp x.pf y.pf):=rfl;rw[q];obtain⟨Zr,pA⟩:=Y (decide (x.pk.map J2=y.pk.map J2));obtain⟨Lj,gX⟩:=Y (xp x.pf y.pf);rw[←pA]at l;simp only[←gX]at m;rw[←pA,←gX];clear q;revert hp hq ai jQ eA f_ eF l pA gX m;refine kH ?_;intro Hp Hq aB dR fG GZ axk TZ Tv uL qW;go_enter func12,ntmps12;go_upto_region 1 with (fail);refine iE ?_;clear aK hg;go_wp2_with fail;refine TZ.o.mono ?_;rintro e w2 ⟨rfl,af⟩;have cR:=aB.o.trans (af.mono aB.o.size);clear n p
 cases Zr with
 |false=>exact aml
 |true=>
  have s:=J (G af dR.o) 1;have t:=J (G af fG.o) 1;simp only[aq,ar,aw]at s t;have r:=qW.o _ af;obtain⟨bh,eI,u⟩:=aQ af cR r;clear af cR r;go_wp2_with fail;refine u.o.mono ?_;exact aii
theorem zn0{a:List el}(h:k<a.length)(o:ByteArray):(a.take (k+1)).foldl nx o=nx ((a.take k).foldl nx o) a[k]:=by
 rw[pP h,List.foldl_append];rfl
theorem zqn{a:List el}(h:∀x∈a,x.1.size≤9000∧x.2.size≤9000):∀(k:Nat)(o:ByteArray),k≤a.length→((a.take k).foldl nx o).size≤o.size+18002*k
 |0,o,_=>ae
 |k+1,o,b=>by
  have h1:=zqn h k o Z;have c:=h _ (eZ (show k<a.length from Z));rw[zn0 (show k<a.length from Z)]
  have d:(nx ((a.take k).foldl nx o) a[k]).size≤((a.take k).foldl nx o).size+1+a[k].1.size+1+a[k].2.size:=by
   unfold nx;rw[iU,iU,iU];have e:(⟨#[61]⟩:ByteArray).size=1:=rfl;have e2:(⟨#[32]⟩:ByteArray).size=1:=rfl;split
   ·omega
   rw[iU];omega
  omega
theorem tx_spT{l:List Tp}(h:gN l=true):vF (fJ l)=spT (tB l):=by
 rw[Jh];unfold oh vF;rw[E (show ¬gN l=false from zC)]
theorem tx_no{l:List Tp}(h:gN l=false):spT (tB l)=fd:=by
 rw[Jh];unfold oh;rw[M h];rfl
theorem zno{o:ByteArray}{x:el}(h:o=fd):o++x.1++⟨#[61]⟩++x.2=nx o x:=by unfold nx;rw[if_pos h]
theorem zm7{o:ByteArray}{x:el}(h:o≠fd):o++⟨#[32]⟩++x.1++⟨#[61]⟩++x.2=nx o x:=by unfold nx;rw[if_neg h]
theorem ziv(o:ByteArray):o.size=0↔o=fd:=⟨fun h=>em.ext (oT (by rw[em.len];exact h)),fun h=>by rw[h];rfl⟩
theorem zi8{L:List h8}{dP:List el}{l:List Tp}(h1:gy w [v1] L)(S:fm w [v2] dP)(z:Sp (nm,L,dP) l):
  Calls prog 39 #[.agg #[.string nm,v1,v2]] w fun e w'=>e=.returned (.string (k_ (nm,L,dP)))∧Below w.heap.size w w':=by
 have T:L=tB l:=z.sp;obtain⟨a1,c1,rfl,-,K⟩:=qA h1;obtain⟨a2,c2,rfl,cc,aU⟩:=sD S;obtain⟨n1,cz⟩:=Y L.length;obtain⟨n2,cS⟩:=Y dP.length;rw[←cz]at h1⊢;rw[←cS]at S cc⊢;refine VN ?_;intro W1 aK g hg ai p0 x0 x1 x2 r1;have hF:=zpz (l:=l) (by rw[←T];exact r1) (by have:=z.l1;omega);unfold zjo at hF;have au:=z.first;have ae:dK (nm,L,dP)=if L=gx then nm else nm++(⟨#[64]⟩++spT L):=rfl
 have U:k_ (nm,L,dP)=if dP.foldl nx (dK (nm,L,dP))=fd then ef else dP.foldl nx (dK (nm,L,dP)):=rfl
 have ag:∀x∈dP,x.1.size≤9000∧x.2.size≤9000:=z.sz;have az:dP.length≤1000:=z.sl;have aA:nm.size≤9000:=z.nm;have ah:=zt6 l z.l1;rw[←T]at ah;obtain⟨fi,aj⟩:=Y (dK (nm,L,dP));obtain⟨R,hR⟩:=Y (k_ (nm,L,dP));rw[←aj]at ae U au;rw[←hR]at U⊢;obtain⟨al,P8⟩:=Y (decide (L=gx));have av:=zqn ag;revert z T aU h1 cz S cS ai p0 r1 hF ag ae aj U hR P8 av;refine OS ?_;intro HS HLt fS H1 oY H2 fV aB dR kl B ir iS lV Cb HR Ff jR;go_enter func39,ntmps39;go_upto_region 1 with (fail);refine iE ?_;clear aK hg;go_upto_region 2 with (fail);go_cut [28] (fun v W=>v=.bool (!al)∧W=W1)
 case first=>
  by_cases hk:n1=1
  ·subst hk;obtain⟨x,hx⟩:∃x,L=[x]:=XU.1 oY.o.symm;obtain⟨b,off,rfl,d0,d1,-,-⟩:=K 0 x (by rw[hx];rfl);rw[AQ,mL]at d0 d1;have d0:=ab aB.o d0;have d1:=ab aB.o d1;have C:al=(decide (x.1.size=0)&&decide (x.2.size=0)):=by rw[Ff.o,hx,Cs];simp only[fE,fI,ziv];simp[gx,Il,fd]
   have e1:=em.ii x.1;have e2:=em.ii x.2;refine DQ ?_;intro s hs t ht;rw[←hs]at d0 e1 C;rw[←ht]at d1 e2 C;obtain⟨q1,sf⟩:=Y (decide (s.size=0));obtain⟨q2,mX⟩:=Y (decide (t.size=0));rw[←sf]at e1 C;rw[←mX]at e2 C;clear K;revert hx hs ht sf C mX;refine bX ?_;intro Hx Hs Ht qY aBp vQ
   cases q1 with
   |false=>exact WU
   |true=>
    cases q2 with
    |false=>exact WU
    |true=>exact WU
  have aC:((n1:Int) !=1)=true:=aX;have u:al=false:=by rw[Ff.o,pQ];intro e;have:=oY.o;rw[e]at this;exact hk this
  clear K;have Hf:=O u;clear u;go_wp2_with fail;go_meet
  exact⟨EA,rfl⟩
 case rest=>
  obtain⟨rfl,rfl⟩:=hcut;clear K
  cases al with
  |true=>have y:fi=nm:=ars;have U1:=aH y;clear y;have qq:=aB;have kV:=dR;exact VX
  |false=>
   have y:fi=nm++(⟨#[64]⟩++spT L):=art;obtain⟨f,u⟩:=Y (gN l);obtain⟨q,A⟩:=Y ((fJ l).length);have hF:=B.o;rw[←u,←A]at hF
   cases f with
   |false=>
    have ak:fi=nm++⟨#[64]⟩:=by rw[y,HLt.o,tx_no u.symm];exact iB (nm ++ ·) (em.ext (by rw[fz];simp[fd]))
    have U1:=aH ak;clear ak;obtain⟨B,Hf,X,aa⟩:=kg hF u A y;clear hF u A y;go_wp2_with fail;refine B.o.mono ?_;rintro e w2 ⟨o,rfl,-,af⟩;have qq:=aH (aB.o.trans (af.mono aB.o.size));have F:=G af dR.o;have kV:=aH F;clear F af x0 x1 x2;obtain⟨x0,x1,x2,-⟩:=cT kV.o;exact VX
   |true=>
    obtain⟨B,Hf,X,aa⟩:=kg hF u A y;clear hF u A y;go_wp2_with fail;refine B.o.mono ?_;rintro e w2 ⟨o,rfl,ho,af⟩;have u:=Hf.o;have A:=X.o;have y:=aa.o;have ho:=ho trivial;have an:gy w2 [o] (fJ l):=Dm (fun x hx=>ark) (by rw[←A];exact ho);have N:gN l=true:=u.symm;have ad:=znu an (Nd l) (No.2 (zov (JL.1 N).1).1.1) (by have:=(JL.1 N).2;omega);rw[tx_spT N,←HLt.o]at ad;obtain⟨oa,oc,rfl⟩:=bg ho;obtain⟨tx,tC⟩:=Y (spT L);rw[←tC]at ad ah y;have aw:=aB.o.trans (af.mono aB.o.size);have ao:=G af dR.o;clear x0 x1 x2;obtain⟨x0,x1,x2,-⟩:=cT ao;have aq:fi=nm++⟨#[64]⟩++tx:=by rw[y,DK]
    have U1:=aH aq;clear aq;revert af u A N ho an y ad tC aw ao;refine kH ?_;intro _ Hf X _ Ho _ aa ax _ ar ay;go_wp2_with fail;refine ax.o.mono ?_;rintro e w3 ⟨rfl,aM⟩;have qq:=aH (ar.o.trans (aM.mono ar.o.size));have F:=G aM ay.o;have kV:=aH F;clear F aM x0 x1 x2;obtain⟨x0,x1,x2,-⟩:=cT kV.o;exact VX
end
section
open RowKit Shelf av cy
open ac (Wd)
theorem zu9:up prog 39 66 (.agg #[.string ⟨#[]⟩,.bool false]) 2 24:=⟨underlying39,by kernel_rfl,rfl,by decide⟩
theorem Vu:up prog 40 68 (.agg #[.string ⟨#[]⟩,.slice none 0 0]) 2 40:=⟨underlying40,by kernel_rfl,rfl,by decide⟩
theorem zoz:up prog 42 96 (.agg #[.string ⟨#[]⟩,.slice none 0 0,.slice none 0 0,.string ⟨#[]⟩,.slice none 0 0,.slice none 0 0,.int .i64 0]) 7 136:=⟨underlying42,by kernel_rfl,rfl,by decide⟩
theorem zn3:up prog 43 98 (.agg #[.string ⟨#[]⟩,.slice none 0 0,.slice none 0 0,.string ⟨#[]⟩,.slice none 0 0,.slice none 0 0,.int .i64 0]) 7 136:=⟨underlying43,by kernel_rfl,rfl,by decide⟩
theorem zoy:up prog 22 45 (.agg #[.string ⟨#[]⟩,.int .i64 0,.slice none 0 0,.slice none 0 0,.slice none 0 0,.slice none 0 0,.slice none 0 0,.slice none 0 0]) 8 168:=⟨underlying22,by kernel_rfl,rfl,by decide⟩
theorem acw:up prog 23 47 (.agg #[.string ⟨#[]⟩,.slice none 0 0,.int .i64 0]) 3 48:=⟨underlying23,by kernel_rfl,rfl,by decide⟩
def z9(p:ap):Prop:=p.rel.length≤70000∧p.vars.length≤70000∧p.cl.length≤70000∧p.gr.length≤70000∧p.ci.length≤70000∧p.files.length≤70000
section
variable {W:World}{t:Nat→Nat}{B pb cap:Nat}{ps:List ap}{p:ap}{bN:List (List Value)}{v2 v3 v4 v5 v6 v7:Value}
theorem eW.cells(L:eW W t B (.slice (some ⟨pb,0,none⟩) (ps.length+1) cap) ps p bN v2 v3 v4 v5 v6 v7):
  (∃cur,W.heap[pb]?=some (.cells cur 45 (0,0)))∧W.cell? ⟨pb,ps.length*8+2,none⟩=some v2∧W.cell? ⟨pb,ps.length*8+3,none⟩=some v3∧W.cell? ⟨pb,ps.length*8+4,none⟩=some v4∧W.cell? ⟨pb,ps.length*8+5,none⟩=some v5∧W.cell? ⟨pb,ps.length*8+6,none⟩=some v6∧W.cell? ⟨pb,ps.length*8+7,none⟩=some v7:=by
 obtain⟨g,_,b,_,_,_,_,c⟩:=AH L.row Z;simp only[rL,Ka,Addr.mk.injEq,lv,Zx]at b;obtain⟨rfl,_⟩:=b;have d:=AJ L.row;have a:∀j u,([.string p.name,.int .i64 p.line,v2,v3,v4,v5,v6,v7]:List Value)[j]?=some u→W.cell? ⟨pb,ps.length*8+j,none⟩=some u:=fun j u hu=>c _ u (by rw[nC Z,d,v_];exact hu);exact⟨tH L.row pb rfl,a 2 _ rfl,a 3 _ rfl,a 4 _ rfl,a 5 _ rfl,a 6 _ rfl,a 7 _ rfl⟩
end
def zt(r:Nat)(a:Option Addr)(n c:Nat)(fin:Int)(ws:List Wd)(i:Nat)(t:Nat→Nat)(B xb:Nat)(vp vf:Value)(x:ch)(ps:List ap)(p:ap)(line:Int)(first:ByteArray)(w:World)(e:Ending)(w':World):Prop :=
 ((∃q j t',e=.returned (.tuple #[])∧gv w' t' B xb vp vf ⟨ps++[q],x.pf⟩∧(j=ws.length→dw first line p (az ws i)=some q)∧(j<ws.length→dw first line p (az ws i)=none)∧j≤ws.length∧l7 r (.slice a n c) j fin w'∧∀k,k<w.heap.size→t' k=t k)∨
  (dw first line p (az ws i)=none∧∃j,e=rH (cO ws fin j)))∧am (fun k=>k=r∨t k≤9) w w'
theorem G2{fin:Int}{ws:List Wd}{t:Nat→Nat}{B:Nat}{x:ch}{ps:List ap}{p:ap}{line:Int}{first:ByteArray}{e:Ending}(h:dw first line p (az ws i)=none)(b:e=rH (cO ws fin j))(hF:am (fun k=>k=r) w w'):zt r a n c fin ws i t B xb vp vf x ps p line first w e w' :=
 ⟨.inr ⟨h,j,b⟩,hF.mono fun _ _ h=>.inl h⟩
theorem Cf{fin:Int}{ws:List Wd}{t t1 t':Nat→Nat}{B pb cap off:Nat}{x:ch}{ps:List ap}{p q:ap}{line:Int}{first:ByteArray}{W:World}{e:Ending}{bN:List (List Value)}{s u y z A:Value}
  (h:gv W t1 B xb (.slice (some ⟨pb,0,none⟩) (ps.length+1) cap) vf x) (C:eW (w9.setCell ⟨pb,off,none⟩ v9) t' B (.slice (some ⟨pb,0,none⟩) (ps.length+1) cap) ps q bN u2 s u y z A)
  (hF:am (fun k=>k=r) w W) (F:W.grownBy w9 v.ownBlock) (g:∀k,k<w.heap.size→t1 k=t k) (l:∀k,k<W.heap.size→t' k=t1 k)
  (m:∀k,v.ownBlock=some k→Live (t1 k)∧¬Ty W k) (K:t1 pb=1) (L:¬Ty W pb) (o:l7 r (.slice a n c) j fin W) (_:t1 r=10)
  (N:j=ws.length→dw first line p (az ws i)=some q) (R:j<ws.length→dw first line p (az ws i)=none) (S:j≤ws.length) (T:e=.returned (.tuple #[])) :
  zt r a n c fin ws i t B xb (.slice (some ⟨pb,0,none⟩) (ps.length+1) cap) vf x ps p line first w e (w9.setCell ⟨pb,off,none⟩ v9):=by
 have U:=eS F;have X:am (fun k=>k=pb) w9 (w9.setCell ⟨pb,off,none⟩ v9):=aN (am.refl _ _) _ _;have d:am (fun k=>v.ownBlock=some k∨k=pb) W (w9.setCell ⟨pb,off,none⟩ v9):=(U.mono fun _ _ h=>.inl h).trans X fun _ _ h=>.inr h
 have f:∀k,k<W.heap.size→(v.ownBlock=some k∨k=pb)→(Live (t1 k)∨t1 k=1)∧¬Ty W k:=fun k _ b=>by
  rcases b with b|rfl
  ·exact⟨.inl (m k b).1,(m k b).2⟩
  exact⟨.inr K,L⟩
 have aa:=h.step (p:=p) C d f l;refine⟨.inl ⟨q,j,t',T,aa,N,R,S,bI o d fun b=>?_,fun k b=>(l k (jq b hF.size)).trans (g k b)⟩,?_⟩
 ·have ab:=(bS.1 o).1;have:=(f r ab b).1;exact OH
 refine (hF.mono fun _ _ h=>.inl h).trans d fun k b eE=>.inr ?_;have:=(f k (jq b hF.size) eE).1;rw[g k b]at this;exact OH
end
section
open Shelf RowKit Lib av cy
open ac (Wd)
attribute [local go_sem ↓] wp_at_zero wp_at_succ
theorem zy7{fin:Int}{ws:List Wd}{x:ch}{q:List ap}{p:ap}{line:Int}{first:ByteArray}(C:FS w0 r a n c fin ws)(S:na w0 r a n c fin i w)(_:i≤990)
  (aP:gv w t B xb (.slice (some ⟨pb,0,none⟩) (q.length+1) cap) vf x) (hx:x.pk=q++[p]) (tr:t r=10) (iO:B≤w.heap.size) (aU:z9 p) (_:q.length≤70000) (hf:first=nZ) :
  Calls prog 50 #[rp r,.string first,.int .i64 line,.pointer (some ⟨pb,q.length*8,none⟩)] w (zt r a n c fin ws i t B xb (.slice (some ⟨pb,0,none⟩) (q.length+1) cap) vf x q p line first w):=by
 have bF:(first.toList==[118,101,114,115,105,111,110])=true:=CM;refine zH ?_;intro nV hn cz km;obtain⟨bN,v2,v3,v4,v5,v6,v7,L⟩:∃bN v2 v3 v4 v5 v6 v7,eW w t B (.slice (some ⟨pb,0,none⟩) (q.length+1) cap) q p bN v2 v3 v4 v5 v6 v7:=by exact KX
 have kQ:=dF S.box D
 have aV:∀W,am (fun k=>k=r) w W→gv W (aJ t w.heap.size 3) B xb (.slice (some ⟨pb,0,none⟩) (q.length+1) cap) vf x∧eW W (aJ t w.heap.size 3) B (.slice (some ⟨pb,0,none⟩) (q.length+1) cap) q p bN v2 v3 v4 v5 v6 v7:=fun W hF=>
  ⟨aP.to hF (fun k _ hk=>Ba) (fun k hk _=>aR hk),L.to hF (fun k _ hk=>JT) (fun k hk _=>aR hk)⟩
 refine Ks ?_;intro jn fB pg;have R:=Dp C S Z (mQ func86 aA rfl) (ok:=tS) (fun s W hs k=>verOk_any s hs ((C.doors.below S.bm).below k));obtain⟨s,hs⟩:=Y (aD ws i);unfold sE at R;rw[←hs]at R;obtain⟨HC,HS,HH,HL,Hx,Hp,Hf,HT,Hs,Hn,pE,iT,kl,r9,H_,Ei⟩:=ke C S aP L hx aU hf R hs hn aV jn fB pg kQ tr;clear C S aP L hx aU hf R hs hn aV jn fB pg kQ tr;go_enter JW,JX;go_wp2_with fail;refine HT.o.mono ?_;rintro e w1 ⟨⟨rP,dz,rfl,de⟩|⟨aj,j,rfl⟩,bC⟩
 ·obtain⟨w2,eo⟩:=Y (w1.alloc (.cells #[.string s,.bool false] 66));obtain⟨b8,eD⟩:=Y w1.heap.size;have U:Below w1.heap.size w1 w2:=Yc;have aW:w2.heap[b8]?=some (.cells #[.string s,.bool false] 66 (0,0)):=by rw[eo,eD];exact dq _ _
  have ad:=kS bC U;have ae:=G U de;have af:na w0 r a n c fin (i+1) w2:=zc HS.o km ad ae;have X:=HC.o.more af;have bG:w.heap.size≤b8:=by rw[eD];exact bC.size
  by_cases aX:i+1<n
  ·rw[aO aX]at X;revert bC rP dz de U aW ad ae af X;refine dE ?_;intro ai a1 ev bh bj al an a6 a7 HM;go_upto_region 3 with (fail);rw[←eo,←eD];clear eo eD;go_wp2_with fail;refine mU ?_;rintro e w3 ⟨rfl,q3,rfl⟩;have u:Below w2.heap.size w2 (w2.drewN q3):=dU (aL _ _) q3;generalize w2.drewN q3=w3 at u⊢;have a8:=zu2 ⟨#[111,108,100]⟩ w3;obtain⟨bK,Ii⟩:=ak u a8;clear u a8;go_wp2_with fail;refine Xe ?_;intro w4 eM bo tI mw;have ba:w4.heap[bo]?=some (.cells #[.string ⟨#[111,108,100]⟩] 9 (0,0)):=Yg;have aa:=bK.o.trans (mw.mono bK.o.size);have bb:=a7.o.to aa;have bc:=zpj HC.o bb Z (mQ func114 aA rfl) (ok:=fun s=>decide (s=D1)) (cp:=.pointer (some ⟨bo,0,none⟩)) (fun s W _ k=>zzl s D1 (G k ba));have bk:=G aa al.o;have bl:=kS an.o aa;rw[←tI];clear tI;unfold sE at bc;revert eM mw ba aa bb bc bk bl;refine fg ?_;intro Hw4 V Hpo NB Ja wj auc sg;go_wp2_with fail;refine wj.o.mono ?_;rintro e w5 ⟨⟨Mg,CB,rfl,Cx⟩|⟨aj,j,rfl⟩,tu⟩
   ·have bn:aD ws (i+1)=D1:=ed CB;have bH:b8<w4.heap.size:=(bS.1 auc.o).1;have ab:=dh tu auc.o Z;refine RX ?_;intro Ae;obtain⟨w6,cL⟩:=Y (w5.setCell ⟨b8,1,none⟩ (.bool true));have bp:w6.heap[b8]?=some (.cells #[.string s,.bool true] 66 (0,0)):=by rw[cL];exact ag _ b8 1 _ _ _ ab
    have bq:am (fun k=>k=r) w w6:=by rw[cL];exact Ae.trans (T:=fun k=>k=b8) (aN (am.refl _ _) _ _) (fun k hk e=>Z)
    have br:l7 r (.slice a n c) (i+1+1) fin w6:=by rw[cL];exact ah Cx Z
    have z:=aG ab 1;have bd:=J ab 1;simp only[aq,ar,aw]at bd;revert tu Mg CB Cx bn ab Ae bp bq br;refine dE ?_;intro UK _ _ _ bs _ Ey bf ao bt;go_upto_region 6 with (fail);rw[←cL];clear cL z bd;obtain⟨H1,L1⟩:=pE.o _ ao.o;obtain⟨⟨cur,bW⟩,z2,z3,z4,z5,z6,z7⟩:=L1.cells;obtain⟨css,hr⟩:=L1.last.rel;obtain⟨ra,rc,gI⟩:=bg hr.row;rw[gI]at z2;have au:=aG bW (q.length*8+2);have A:v2.ownBlock≠some pb:=fun e=>by exact Bm
    have av:∀k,v2.ownBlock=some k→Live (aJ t w.heap.size 3 k)∧¬Ty w6 k:=fun k hk=>⟨Ar,ly hr D hk⟩;have mW:¬Ty w6 pb:=dF bW D;have hB:B≤w6.heap.size:=fu iO ao.o.size;have aY:=hr.row;obtain⟨m,hm⟩:=Y p.rel.length;rw[←hm]at aY gI z2;have bu:m≤70000:=by rw[hm];exact Hp.o.1
    rw[gI]at aY;obtain⟨N,F⟩:=Y css.flatten;rw[←F]at aY;have ax:Ft w6 (Fx w6 (aJ t w.heap.size 3)) (fun W'=>o_ W' [.string s,.bool true] (s,true)):=fun bP _ _=>rfl;have ay:=J bf.o 0;have z:=J bf.o 1;simp only[aq,ar,aw]at ay z;have aB:∀ob:Obj,(w6.alloc ob).cell? ⟨pb,q.length*8+2,none⟩=some (.slice ra m rc):=fun ob=>((am.refl (fun _=>False) w6).alloc ob).o8 z2;have aC:(w6.drew).ownsRow B 66 2 (.slice ra m rc) m N:=aY;have aE:B≤w6.drew.heap.size:=hB;clear z3 z4 z5 z6 z7 au aY;have cJ:=aH A;have K:=aH bW;revert H1 L1 hr av mW gI hm F ax aC;refine dE ?_;intro ku iW Hr jr iA CW Hm HN iz wJ;clear A bW;go_region_law (refine xl zu9 (w:=w6.drew) rfl (.tmp 28) (.tmp 30) rfl B (.slice ra m rc) m N rfl wJ.o 1 D #[.string s,.bool true] rfl rfl dW Z cY aE ?_;intro g9 c9 w9 aZ aT cg;have y:=bI K.o ((am.drew (am.refl _ w6)).grown aT (S:=fun k=>(Value.slice ra m rc).ownBlock=some k) (fun k hk=>.inr hk)) Ke;have d2:=aG y (q.length*8+2);have d1:=(yk (w:=w6) (w':=w9) (a:=⟨pb,q.length*8+2,none⟩) (y.trans K.o.symm)).trans z2)
    all_goals
     have aF:=iW.o.aaj Hr.o iz.o (v9:=.slice (some ⟨g9,0,none⟩) (m+1) c9) ye vu Kf;have aI:w6.grownBy w9 v2.ownBlock:=vu;revert aZ aT cg y aF aI;refine bX ?_;intro bw bx bz bA aK aM;clear aB;refine vJ ?_;refine Cf (v:=v2) (j:=i+1+1) ku.o aK.o ao.o aM.o iT.o (fun k hk=>aR hk) jr.o r9.o iA.o bt.o kl.o ?_ ?_ ?_ rfl
     ·intro aQ;refine ka ?_;rw[M rfl,yae Z G6 bs.o,←Hs.o];rfl
     ·intro aQ;refine ka ?_;rw[M rfl,zoh Z (.inr Z)];rfl
     have:=Hn.o;omega
   have iv:dw first line p (az ws i)=none:=by
    refine ka ?_
    rw[M rfl,zoh gl (.inl (by
     rcases aj with h|h
     ·have:=Hn.o;omega
     exact lC h))]
    rfl
   exact V0
  rw[be aX]at X;revert bC rP dz de U aW ad ae af X;refine dE ?_;intro ai a1 ev bh bj al an a6 a7 HM;go_upto_region 3 with (fail);rw[←eo,←eD];clear eo eD;go_wp2_with fail;refine mU ?_;rintro e w3 ⟨rfl,q3,rfl⟩;have u:Below w2.heap.size w2 (w2.drewN q3):=dU (aL _ _) q3;generalize w2.drewN q3=w3 at u⊢;have bB:=G u al.o;have bD:=kS an.o u;have bE:=G u a6.o;revert u bB bD bE;refine bV ?_;intro bK aub iI Fg;go_upto_region 6 with (fail);obtain⟨H1,L1⟩:=pE.o _ iI.o;obtain⟨⟨cur,bW⟩,z2,z3,z4,z5,z6,z7⟩:=L1.cells;obtain⟨css,hr⟩:=L1.last.rel;obtain⟨ra,rc,gI⟩:=bg hr.row;rw[gI]at z2;have au:=aG bW (q.length*8+2);have A:v2.ownBlock≠some pb:=fun e=>by exact Bm
  have av:∀k,v2.ownBlock=some k→Live (aJ t w.heap.size 3 k)∧¬Ty w3 k:=fun k hk=>⟨Ar,ly hr D hk⟩;refine XE ?_;intro mW hB aY;obtain⟨m,hm⟩:=Y p.rel.length;rw[←hm]at aY gI z2;have bu:m≤70000:=by rw[hm];exact Hp.o.1
  rw[gI]at aY;obtain⟨N,F⟩:=Y css.flatten;rw[←F]at aY;have ax:Ft w3 (Fx w3 (aJ t w.heap.size 3)) (fun W'=>o_ W' [.string s,.bool false] (s,false)):=fun bP _ _=>rfl;have ay:=J aub.o 0;have z:=J aub.o 1;simp only[aq,ar,aw]at ay z;have aB:∀ob:Obj,(w3.alloc ob).cell? ⟨pb,q.length*8+2,none⟩=some (.slice ra m rc):=fun ob=>((am.refl (fun _=>False) w3).alloc ob).o8 z2;have aC:(w3.drew).ownsRow B 66 2 (.slice ra m rc) m N:=aY;have aE:B≤w3.drew.heap.size:=hB;clear z3 z4 z5 z6 z7 au aY;have cJ:=aH A;have K:=aH bW;revert H1 L1 hr av mW gI hm F ax aC;refine dE ?_;intro ku iW Hr jr iA CW Hm HN iz wJ;clear A bW;go_region_law (refine xl zu9 (w:=w3.drew) rfl (.tmp 28) (.tmp 30) rfl B (.slice ra m rc) m N rfl wJ.o 1 D #[.string s,.bool false] rfl rfl dW Z cY aE ?_;intro g9 c9 w9 aZ aT cg;have y:=bI K.o ((am.drew (am.refl _ w3)).grown aT (S:=fun k=>(Value.slice ra m rc).ownBlock=some k) (fun k hk=>.inr hk)) Ke;have d2:=aG y (q.length*8+2);have d1:=(yk (w:=w3) (w':=w9) (a:=⟨pb,q.length*8+2,none⟩) (y.trans K.o.symm)).trans z2)
  all_goals
   have aF:=iW.o.aaj Hr.o iz.o (v9:=.slice (some ⟨g9,0,none⟩) (m+1) c9) ye vu Kf;have aI:w3.grownBy w9 v2.ownBlock:=vu;revert aZ aT cg y aF aI;refine bX ?_;intro bw bx bz bA aK aM;clear aB;refine vJ ?_;refine Cf (v:=v2) (j:=i+1) ku.o aK.o iI.o aM.o iT.o (fun k hk=>aR hk) jr.o r9.o iA.o Fg.o kl.o ?_ ?_ ?_ rfl
   ·intro aQ;refine ka ?_;rw[M rfl,yaf Z G6,←Hs.o];rfl
   ·intro aQ;have:=Hn.o;omega
   have:=a1.o;omega
 have iv:dw first line p (az ws i)=none:=by refine ka ?_;rw[M rfl,zpg (by rw[←Hs.o];exact aj)];rfl
 revert bC aj iv;refine fo ?_;intro ai cd iQ;refine cK ?_;exact⟨rfl,G2 iQ.o rfl ai.o⟩
theorem zvj{fin:Int}{ws:List Wd}{x:ch}{ps:List ap}{p:ap}{line:Int}{first:ByteArray}(C:FS w0 r a n c fin ws)(S:na w0 r a n c fin i w)(_:i≤990)
  (aP:gv w t B xb (.slice (some ⟨pb,0,none⟩) (ps.length+1) cap) vf x) (hx:x.pk=ps++[p]) (tr:t r=10) (iO:B≤w.heap.size) (U:z9 p) (_:ps.length≤70000) (hf:first=kX) :
  Calls prog 50 #[rp r,.string first,.int .i64 line,.pointer (some ⟨pb,ps.length*8,none⟩)] w (zt r a n c fin ws i t B xb (.slice (some ⟨pb,0,none⟩) (ps.length+1) cap) vf x ps p line first w):=by
 have ah:(first.toList==[118,101,114,115,105,111,110])=false:=CM;have ai:(first.toList==[118,97,114,105,97,110,116])=false:=IK;have ak:(first.toList==[112,114,111,118,105,100,101,115])=true:=QS;refine zH ?_;intro nV hn cz km;obtain⟨bN,v2,v3,v4,v5,v6,v7,L⟩:∃bN v2 v3 v4 v5 v6 v7,eW w t B (.slice (some ⟨pb,0,none⟩) (ps.length+1) cap) ps p bN v2 v3 v4 v5 v6 v7:=by exact KX
 have kQ:=dF S.box D
 have X:∀W,am (fun k=>k=r) w W→gv W (aJ t w.heap.size 3) B xb (.slice (some ⟨pb,0,none⟩) (ps.length+1) cap) vf x∧eW W (aJ t w.heap.size 3) B (.slice (some ⟨pb,0,none⟩) (ps.length+1) cap) ps p bN v2 v3 v4 v5 v6 v7:=fun W hF=>
  ⟨aP.to hF (fun k _ hk=>Ba) (fun k hk _=>aR hk),L.to hF (fun k _ hk=>JT) (fun k hk _=>aR hk)⟩
 refine Ks ?_;intro jn fB pg;have u:=fun(W:World)(k:Below w.heap.size w W)=>Dp C (S.to k) Z (mQ Kc aA rfl) (ok:=eL) (fun s W hs _=>Nk s hs W);obtain⟨s,hs⟩:=Y (aD ws i);unfold sE at u;simp only[←hs]at u;obtain⟨⟨aus,wV⟩,-,-,q,-,-,g7⟩:=L.cells;obtain⟨aur,yb⟩:=L.last.cl;obtain⟨ra,rc,sN⟩:=bg yb.row;rw[sN]at q;obtain⟨m,hm⟩:=Y p.cl.length;rw[←hm]at q sN;have aa:∀W,am (fun k=>k=r) w W→W.cell? ⟨pb,ps.length*8+4,none⟩=some (.slice ra m rc):=fun W hF=>(hF.cell (p:=⟨pb,ps.length*8+4,none⟩) (bS.1 wV).1 (fun e=>by have h1:pb=r:=e;have ab:=L.tag pb rfl;rw[h1,tr]at ab;cases ab)).trans q;clear g7;have oH:=aH aa;clear aa;obtain⟨HC,HS,HH,HL,Hx,Hp,Hf,ad,Hs,Hn,pE,iT,kl,r9,H_,Ei⟩:=ke C S aP L hx U hf u hs hn X jn fB pg kQ tr;obtain⟨Hcur0,Em,Hrv0,Hm⟩:=kg wV yb sN hm;clear C S aP L hx U hf u hs hn X jn fB pg kQ tr wV yb sN hm;go_enter JW,JX;go_upto_region 11 with (fail);have y:=dA (aL w.heap.size w);have z:=ad.o _ y;have af:w.drew.cell? ⟨pb,ps.length*8+4,none⟩=some (.slice ra m rc):=q;refine vH ?_;intro oU hHeld;have A:am (fun k=>k=r) w w.drew:=am.drew (am.refl _ w);generalize w.drew=al at y z A af⊢;clear q;obtain⟨dI,Ea,pD⟩:=aQ y z A;clear y z A;refine Gr ?_;refine bB 5 ?_;refine mr (rs:=[4,6]) aA ae ?_;refine dO rfl (fun K hK=>?_) (dO rfl (fun K hK=>?_) ij)
 ·revert K hK;refine gS ?_;intro hHeld;refine c_ 6 fun K hK=>?_;refine zJ ?_;rintro e w1 ⟨⟨F,R,rfl,T⟩|⟨aj,j,rfl⟩,bC⟩
  ·refine KE ?_;intro tE fA;revert bC F R T tE;refine bU ?_;intro iR qh ev cU r8;revert K hK;refine j_ ?_;intro hHeld;exact ais
  exact alc
 refine zJ ?_;rintro e w1 ⟨⟨F,R,rfl,T⟩|⟨aj,j,rfl⟩,bC⟩
 ·refine KE ?_;intro tE fA;revert bC F R T tE;refine bU ?_;intro iR qh ev cU r8;revert K hK;refine j_ ?_;intro hHeld;refine mr (rs:=[4,7]) aA ae ?_;refine dO rfl (fun K hK=>?_) (dO rfl (fun K hK=>?_) ij)
  ·revert K hK;refine gS ?_;intro hHeld;exact ais
  refine aok ?_;intro cur css hB iJ N a_ cJ kd ku iW Hr jr iA bY HN iz;revert K hK;refine gS ?_;intro hHeld;have ag:=oH.o _ (r8.o.alloc (.cells #[.string s] 9));refine Gu ?_;intro hHeld;clear ag;exact ahy
 exact alc
theorem zvk{fin:Int}{ws:List Wd}{x:ch}{ps:List ap}{p:ap}{line:Int}{first:ByteArray}(C:FS w0 r a n c fin ws)(S:na w0 r a n c fin i w)(_:i≤990)
  (aP:gv w t B xb (.slice (some ⟨pb,0,none⟩) (ps.length+1) cap) vf x) (hx:x.pk=ps++[p]) (tr:t r=10) (iO:B≤w.heap.size) (U:z9 p) (_:ps.length≤70000) (hf:first=kY) :
  Calls prog 50 #[rp r,.string first,.int .i64 line,.pointer (some ⟨pb,ps.length*8,none⟩)] w (zt r a n c fin ws i t B xb (.slice (some ⟨pb,0,none⟩) (ps.length+1) cap) vf x ps p line first w):=by
 refine VY ?_;intro k0 k1 k2;have ah:(first.toList==[100,101,112,101,110,100,115])=false:=Og;have ai:(first.toList==[99,111,110,102,108,105,99,116,115])=false:=asd;have ak:(first.toList==[102,105,108,101])=true:=ase;refine zH ?_;intro nV hn cz km;obtain⟨bN,v2,v3,v4,v5,v6,v7,L⟩:∃bN v2 v3 v4 v5 v6 v7,eW w t B (.slice (some ⟨pb,0,none⟩) (ps.length+1) cap) ps p bN v2 v3 v4 v5 v6 v7:=by exact KX
 have kQ:=dF S.box D
 have X:∀W,am (fun k=>k=r) w W→gv W (aJ t w.heap.size 3) B xb (.slice (some ⟨pb,0,none⟩) (ps.length+1) cap) vf x∧eW W (aJ t w.heap.size 3) B (.slice (some ⟨pb,0,none⟩) (ps.length+1) cap) ps p bN v2 v3 v4 v5 v6 v7:=fun W hF=>
  ⟨aP.to hF (fun k _ hk=>Ba) (fun k hk _=>aR hk),L.to hF (fun k _ hk=>JT) (fun k hk _=>aR hk)⟩
 refine Ks ?_;intro jn fB pg;have u:=fun(W:World)(k:Below w.heap.size w W)=>Dp C (S.to k) Z (mQ func90 aA rfl) (ok:=uk) (fun s W hs _=>path_any s hs W);obtain⟨s,hs⟩:=Y (aD ws i);unfold sE at u;simp only[←hs]at u;obtain⟨⟨aus,wV⟩,-,-,g4,-,-,q⟩:=L.cells;obtain⟨aur,yb⟩:=L.last.files;obtain⟨ra,rc,sN⟩:=bg yb.row;rw[sN]at q;obtain⟨m,hm⟩:=Y p.files.length;rw[←hm]at q sN;have aa:∀W,am (fun k=>k=r) w W→W.cell? ⟨pb,ps.length*8+7,none⟩=some (.slice ra m rc):=fun W hF=>(hF.cell (p:=⟨pb,ps.length*8+7,none⟩) (bS.1 wV).1 (fun e=>by have h1:pb=r:=e;have ab:=L.tag pb rfl;rw[h1,tr]at ab;cases ab)).trans q;clear g4;have oH:=aH aa;clear aa;obtain⟨HC,HS,HH,HL,Hx,Hp,Hf,ad,Hs,Hn,pE,iT,kl,r9,H_,Ei⟩:=ke C S aP L hx U hf u hs hn X jn fB pg kQ tr;obtain⟨Hcur0,Em,Hrv0,Hm⟩:=kg wV yb sN hm;clear C S aP L hx U hf u hs hn X jn fB pg kQ tr wV yb sN hm;go_enter JW,JX;go_upto_region 25 with (fail);have y:=dA (aL w.heap.size w);have z:=ad.o _ y;have af:w.drew.cell? ⟨pb,ps.length*8+7,none⟩=some (.slice ra m rc):=q;refine vH ?_;intro oU hHeld;have A:am (fun k=>k=r) w w.drew:=am.drew (am.refl _ w);generalize w.drew=al at y z A af⊢;clear q;obtain⟨dI,Ea,pD⟩:=aQ y z A;clear y z A;refine Gr ?_;refine bB 5 ?_;refine mr (rs:=[4,6]) aA ae ?_;refine dO rfl (fun K hK=>?_) (dO rfl (fun K hK=>?_) ij)
 ·revert K hK;refine gS ?_;intro hHeld;refine c_ 6 fun K hK=>?_;refine zJ ?_;rintro e w1 ⟨⟨F,R,rfl,T⟩|⟨aj,j,rfl⟩,bC⟩
  ·refine KE ?_;intro tE fA;revert bC F R T tE;refine bU ?_;intro iR qh ev cU r8;revert K hK;refine j_ ?_;intro hHeld;exact ait
  exact ajt
 refine zJ ?_;rintro e w1 ⟨⟨F,R,rfl,T⟩|⟨aj,j,rfl⟩,bC⟩
 ·refine KE ?_;intro tE fA;revert bC F R T tE;refine bU ?_;intro iR qh ev cU r8;revert K hK;refine j_ ?_;intro hHeld;refine mr (rs:=[4,7]) aA ae ?_;refine dO rfl (fun K hK=>?_) (dO rfl (fun K hK=>?_) ij)
  ·revert K hK;refine gS ?_;intro hHeld;exact ait
  refine aoe ?_;intro cur css hB iJ N a_ cJ kd ku iW Hr jr iA bY HN iz;revert K hK;refine gS ?_;intro hHeld;have ag:=oH.o _ (r8.o.alloc (.cells #[.string s] 9));refine Gu ?_;intro hHeld;clear ag;exact agw
 exact ajt
theorem Q0{ok:ByteArray→Bool}{r:List ByteArray}(h:eQ ok l=some r):r=l:=by
 unfold eQ at h;split at h
 ·cases h;rfl
 cases h
theorem Qj{l:List ByteArray}(h:W.ownsRow B 9 1 v l.length (l.map Value.string))(b:∀x∈l,x.size≤maxLen):Ft W (fun k=>v.ownBlock=some k) fun W'=>Hj W' [v] l:=by
 intro bP _ c;refine L_ (B:=B) (n:=l.length) ?_ b;refine⟨h.1,?_⟩;rcases h.2 with d|⟨g,cap,e,rfl,f,a,rest⟩
 ·exact .inl d
 exact .inr ⟨g,cap,e,rfl,f,by rw[c g (bS.1 a).1 rfl];exact a,rest⟩
theorem zy8{fin:Int}{ws:List Wd}{x:ch}{ps:List ap}{p:ap}{line:Int}{first:ByteArray}(C:FS w0 r a n c fin ws)(S:na w0 r a n c fin i w)(_:i≤990)
  (aP:gv w t B xb (.slice (some ⟨pb,0,none⟩) (ps.length+1) cap) vf x) (hx:x.pk=ps++[p]) (tr:t r=10) (iO:B≤w.heap.size) (X:z9 p) (_:ps.length≤70000) (hf:first=n8) :
  Calls prog 50 #[rp r,.string first,.int .i64 line,.pointer (some ⟨pb,ps.length*8,none⟩)] w (zt r a n c fin ws i t B xb (.slice (some ⟨pb,0,none⟩) (ps.length+1) cap) vf x ps p line first w):=by
 have aq:(first.toList==[118,101,114,115,105,111,110])=false:=CM;have ar:(first.toList==[118,97,114,105,97,110,116])=true:=IK;refine zH ?_;intro nV hn cz km;obtain⟨bN,v2,v3,v4,v5,v6,v7,L⟩:∃bN v2 v3 v4 v5 v6 v7,eW w t B (.slice (some ⟨pb,0,none⟩) (ps.length+1) cap) ps p bN v2 v3 v4 v5 v6 v7:=by exact KX
 have kQ:=dF S.box D
 have aa:∀W,am (fun k=>k=r) w W→gv W (aJ t w.heap.size 3) B xb (.slice (some ⟨pb,0,none⟩) (ps.length+1) cap) vf x∧eW W (aJ t w.heap.size 3) B (.slice (some ⟨pb,0,none⟩) (ps.length+1) cap) ps p bN v2 v3 v4 v5 v6 v7:=fun W hF=>
  ⟨aP.to hF (fun k _ hk=>Ba) (fun k hk _=>aR hk),L.to hF (fun k _ hk=>JT) (fun k hk _=>aR hk)⟩
 refine Ks ?_;intro jn fB pg;have u:=Dp C S Z (mQ Kc aA rfl) (ok:=eL) (fun s W hs _=>Nk s hs W);obtain⟨s,hs⟩:=Y (aD ws i);unfold sE at u;rw[←hs]at u;have z:=fun (W:World) (S:na w0 r a n c fin (i+1) W)=>zvz C S Z (mQ func88 aA rfl) (ok:=qp) (fun s W hs _=>zxo s hs W);unfold Nb at z;obtain⟨⟨aus,wV⟩,-,g3,-,-,-,-⟩:=L.cells;obtain⟨aur,yb⟩:=L.last.vars;obtain⟨ra,rc,sN⟩:=bg yb.row;rw[sN]at g3;obtain⟨m,hm⟩:=Y p.vars.length;rw[←hm]at g3 sN;have ab:∀W,am (fun k=>k=r) w W→W.cell? ⟨pb,ps.length*8+3,none⟩=some (.slice ra m rc):=fun W hF=>(hF.cell (p:=⟨pb,ps.length*8+3,none⟩) (bS.1 wV).1 (fun e=>by have h1:pb=r:=e;have ad:=L.tag pb rfl;rw[h1,tr]at ad;cases ad)).trans g3;clear g3;have oH:=aH ab;clear ab;obtain⟨HC,HS,HH,HL,Hx,Hp,Hf,HT,Hs,Hn,pE,iT,kl,r9,H_,Ei⟩:=ke C S aP L hx X hf u hs hn aa jn fB pg kQ tr;obtain⟨Hcur0,Em,Hrv0,Hm,Iy⟩:=K4 wV yb sN hm z;clear C S aP L hx X hf u hs hn aa jn fB pg kQ tr wV yb sN hm z;go_enter JW,JX;go_wp2_with fail;refine HT.o.mono ?_;rintro e wa ⟨⟨hia,aAb,rfl,avy⟩|⟨aj,j,rfl⟩,Qs⟩
 ·have ag:=zc HS.o km Qs avy;have af:=oH.o _ Qs;revert Qs hia aAb avy ag;refine bU ?_;intro A aby aBe _ ah;go_upto_region 9 with (fail);have y:=dA (aL wa.heap.size wa);have F:=Iy.o _ (ah.o.to y);have ai:wa.drew.cell? ⟨pb,ps.length*8+3,none⟩=some (.slice ra m rc):=af;refine vH ?_;intro oU hHeld;have R:am (fun k=>k=r) w wa.drew:=am.drew A.o;generalize wa.drew=au at y F R ai⊢;clear af;obtain⟨dI,Ea,pD⟩:=aQ y F R;clear y F R;refine Gr ?_;refine bB 5 ?_;refine bB 6 ?_;refine mr (rs:=[4,7]) aA ae ?_;refine dO rfl (fun K hK=>?_) (dO rfl (fun K hK=>?_) ij)
  ·revert K hK;refine gS ?_;intro hHeld;refine c_ 7 fun K hK=>?_;refine zJ ?_;rintro e w1 ⟨⟨ak,l,fp,rfl,q,T⟩|⟨fp,j,rfl⟩,bC⟩
   ·refine KE ?_;intro tE fA;obtain⟨la,lc,rfl⟩:=bg q;obtain⟨ln,dH⟩:=Y l.length;rw[←dH]at q⊢;have xY:=(Q0 fp).symm;have U:∀x∈l,x.size≤maxLen:=fun x hx=>by exact aid
    have al:=pD.o.size;revert bC fp T tE q dH xY U;refine fg ?_;intro iR mG cU r8 cZ iH an Ew;revert K hK;refine j_ ?_;intro hHeld;refine bB 8 ?_;exact aja
   exact afk
  refine zJ ?_;rintro e w1 ⟨⟨ak,l,fp,rfl,q,T⟩|⟨fp,j,rfl⟩,bC⟩
  ·refine KE ?_;intro tE fA;obtain⟨la,lc,rfl⟩:=bg q;obtain⟨ln,dH⟩:=Y l.length;rw[←dH]at q⊢;have xY:=(Q0 fp).symm;have U:∀x∈l,x.size≤maxLen:=fun x hx=>by exact aid
   have al:=pD.o.size;revert bC fp T tE q dH xY U;refine fg ?_;intro iR mG cU r8 cZ iH an Ew;revert K hK;refine j_ ?_;intro hHeld;refine bB 8 ?_;refine mr (rs:=[4,9]) aA ae ?_;refine dO rfl (fun K hK=>?_) (dO rfl (fun K hK=>?_) ij)
   ·revert K hK;refine gS ?_;intro hHeld;exact aja
   refine amy ?_;intro cur css hB iJ N cJ kd ku iW Hr jr iA bY HN iz;revert K hK;refine gS ?_;intro hHeld;have ao:=oH.o _ (r8.o.alloc (.cells #[.string s,.slice la ln lc] 68));refine Gu ?_;intro hHeld;clear ao;exact aig
  exact afk
 have iv:dw first line p (az ws i)=none:=by
  refine ka ?_;rw[E D,M rfl];by_cases hl:i<ws.length
  ·rw[Qf hl,E (by rw[←Hs.o,aj.resolve_left Z];simp)];rfl
  rw[mA Z];rfl
 revert Qs aj iv;refine fo ?_;intro A _ iQ;refine cK ?_;exact⟨rfl,G2 iQ.o rfl A.o⟩
end
section
open RowKit Shelf av cy
open ac (Wd)
section
variable {W W' w9:World}{t t':Nat→Nat}{B xb:Nat}{vp vf v9:Value}{x:ch}{zv:List ap}{T:Nat→Prop}
theorem PkRow.open(h:PkRow W t B vp zv):∃bN:List (List Value),W.ownsRow B 45 8 vp zv.length bN.flatten∧bN.length=zv.length∧Ft W (fun k=>Fx W t k∨Live (t k)) (fun W'=>∀(i:Nat) cs y,bN[i]?=some cs→zv[i]?=some y→GE W' cs y)∧∀k,vp.ownBlock=some k→t k=1:=by
 rcases h with⟨h1,a⟩|⟨_,p,bN,v2,v3,v4,v5,v6,v7,h1,L⟩
 ·rw[h1,a];exact⟨[],pd _ _ _ _,rfl,fun _ _ _ i cs y h=>by simp at h,fun k h=>by simp[Value.ownBlock]at h⟩
 rw[h1];refine⟨bN++[[.string p.name,.int .i64 p.line,v2,v3,v4,v5,v6,v7]],by rw[bM,XW];simpa using L.row,by simp[L.len],?_,L.tag⟩;refine ((L.fix.mono fun k _ b=>.inl b).and L.last.ft).imp fun bP hV i cs y e1 e2=>?_;by_cases hi:i<bN.length
 ·rw[pS hi]at e1;rw[pS (by rw[←L.len];exact hi)]at e2;exact hV.1 i cs y e1 e2
 have e8:=(ie.1 e1).1;have e:i=bN.length:=Ya;rw[nC Z,e,sS]at e1;rw[nC (by rw[←L.len];omega),e,L.len,sS]at e2;simp at e1 e2;subst e1 e2;exact hV.2
def Mv(t:Nat→Nat)(n:Nat):Nat→Nat:=fun k=>if k<n then (if 4≤t k∧t k≤9 then 3 else t k) else 1
theorem yd1(h:k<n)(a:Live (t k)):Mv t n k=3:=(M h).trans (M a)
theorem E5(h:k<n)(a:¬Live (t k)):Mv t n k=t k:=(M h).trans (E a)
theorem tagPk_new(h:n≤k):Mv t n k=1:=E (by omega)
theorem gv.pkg{line:Int}(h:gv W t B xb vp vf x)(g:W.ownsRow B 45 8 vp x.pk.length bN.flatten)(n:bN.length=x.pk.length)
  (o:Ft W (fun k=>Fx W t k∨Live (t k)) (fun W'=>∀(i:Nat) cs y,bN[i]?=some cs→x.pk[i]?=some y→GE W' cs y)) (d:∀k,vp.ownBlock=some k→t k=1)
  (p:w9.ownsRow B 45 8 v9 (x.pk.length+1) (bN.flatten++[.string s,.int .i64 line,.slice none 0 0,.slice none 0 0,.slice none 0 0,.slice none 0 0,.slice none 0 0,.slice none 0 0])) (q:W.grownBy w9 vp.ownBlock) (j:mh W vp v9) :
  gv (w9.setCell ⟨xb,0,none⟩ v9) (Mv t W.heap.size) B xb v9 vf ⟨x.pk++[vg s line],x.pf⟩:=by
 have l:=eS q;have r:=(bS.1 h.box).1;have m:am (fun k=>k=xb) w9 (w9.setCell ⟨xb,0,none⟩ v9):=aN (am.refl _ _) _ _;have hF:am (fun k=>vp.ownBlock=some k∨k=xb) W (w9.setCell ⟨xb,0,none⟩ v9):=(l.mono fun _ _ h=>.inl h).trans m fun _ _ h=>.inr h;have u:w9.heap[xb]?=some (.cells #[vp,vf] 25 (0,0)):=bI h.box l fun a=>by have e:=d xb a;have e2:=h.o9;omega
 have f:∀k,k<W.heap.size→(vp.ownBlock=some k∨k=xb)→(t k=0∨t k=1)∧¬Ty W k:=fun k _ a=>by
  rcases a with a|rfl
  ·obtain⟨cs,v⟩:=tH g k a;exact⟨.inr (d k a),dF v D⟩
  exact⟨.inl h.o9,dF h.box D⟩
 obtain⟨w,z⟩:=h.pf;refine⟨ag _ xb 0 _ _ v9 u,by rw[E5 r (by rw[h.o9];unfold Live;omega),h.o9],⟨w,z.to hF (fun k b k2=>?_) (fun k b k2=>?_) (fun k b k2=>?_)⟩,.inr ⟨x.pk,vg s line,bN,.slice none 0 0,.slice none 0 0,.slice none 0 0,.slice none 0 0,.slice none 0 0,.slice none 0 0,rfl,?_⟩⟩
 ·have:=f k b k2;exact⟨Z,Z,this.2⟩
 ·rw[E5 b Ye,k2]
 ·rw[E5 b Ye,k2]
 refine⟨?_,n,?_,fun k a=>?_,⟨⟨[],RowL.nil⟩,⟨[],RowL.nil⟩,⟨[],RowL.nil⟩,⟨[],RowL.nil⟩,⟨[],RowL.nil⟩,⟨[],RowL.nil⟩⟩⟩
 ·refine m.owns p fun k a c=>?_;subst c;rcases j k a with a|a
  ·have:=d k a;have e2:=h.o9;omega
  omega
 ·refine o.gc hF (fun k b k2 c=>?_) fun k b k2=>?_
  ·have h1:=f k b c;rcases k2 with (k2|k2)|k2
   ·omega
   ·exact h1.2 k2
   unfold Live at k2;omega
  rcases k2 with (k2|k2)|k2
  ·exact .inl (by rw[E5 b Ye,k2])
  ·by_cases c:vp.ownBlock=some k∨k=xb
   ·exact absurd k2 (f k b c).2
   exact .inr (k2.o8 hF c)
  exact .inl (yd1 b k2)
 rcases j k a with a|a
 ·rw[E5 (g.lt k a).2 (by rw[d k a];unfold Live;omega)];exact d k a
 exact tagPk_new a
theorem gv.pref{y:ut}{cs:List Value}(h:gv W t B xb vp vf x)(b:RowL W t 2 B 47 3 AC vf x.pf css)(j:Ft W (Fx W t) fun W'=>AC W' cs y)
  (l:w9.ownsRow B 47 3 v9 (x.pf.length+1) (css.flatten++cs)) (d:W.grownBy w9 vf.ownBlock) (m:mh W vf v9) :
  gv (w9.setCell ⟨xb,1,none⟩ v9) (aJ t W.heap.size 2) B xb vp v9 ⟨x.pk,x.pf++[y]⟩:=by
 have f:=eS d;have c:=(bS.1 h.box).1;have g:am (fun k=>k=xb) w9 (w9.setCell ⟨xb,1,none⟩ v9):=aN (am.refl _ _) _ _;have hF:am (fun k=>vf.ownBlock=some k∨k=xb) W (w9.setCell ⟨xb,1,none⟩ v9):=(f.mono fun _ _ h=>.inl h).trans g fun _ _ h=>.inr h;have i:w9.heap[xb]?=some (.cells #[vp,vf] 25 (0,0)):=bI h.box f fun a=>by have e:=b.tag xb a;have e2:=h.o9;omega
 have hT:∀k,k<W.heap.size→(vf.ownBlock=some k∨k=xb)→(t k=0∨t k=2)∧¬Ty W k:=fun k _ a=>by
  rcases a with a|rfl
  ·exact⟨.inr (b.tag k a),ly b D a⟩
  exact⟨.inl h.o9,dF h.box D⟩
 refine⟨ag _ xb 1 _ _ v9 i,by rw[aR c,h.o9],⟨css++[cs],(b.push D Z j rfl l d m).to g (fun k _ n=>?_) (fun _ _ h=>h) (fun _ _ h=>h)⟩,h.pk.to hF (fun k k1 k2=>?_) fun k k1 k2=>aR k1⟩
 ·subst n;exact⟨by rw[aR c,h.o9];omega,by rw[aR c,h.o9];omega,dF i D⟩
 exact WW
end
theorem QB{w:World}{ws:List Wd}{T:Nat→Prop}(h:j7 w [.slice a n c] ws)(hF:am T w w')(f:∀p,a=some p→¬T p.block):j7 w' [.slice a n c] ws:=by
 obtain⟨g,cap,d,h1,l,m⟩:=h;have e:=d;simp only[nj,lv,rL]at e;refine⟨g,cap,d,h1,l,fun i x hi=>?_⟩;obtain⟨b,off,hH,e1,e2,e3,e4⟩:=m i x hi;refine⟨b,off,hH,e1,e2,fun j u hu=>?_,e4⟩;have k:=e3 j u hu;exact (hF.cell (wH w _ k) (f ⟨b,off,none⟩ (e.1.trans e1))).trans k
def Dn(r:Nat)(fin:Int)(ws:List Wd)(i:Nat)(t:Nat→Nat)(B xb:Nat)(x:ch)(line:Int)(w:World)(e:Ending)(w':World):Prop :=
 ((∃y t' vp vf,e=.returned (.tuple #[])∧dy line (az ws i) x=some y∧gv w' t' B xb vp vf y∧∀k,k<w.heap.size→9<t k→t' k=t k)∨
  (dy line (az ws i) x=none∧∃j,e=rH (cO ws fin j)))∧am (fun k=>k=r∨t k≤9) w w'
section
variable {r:Nat}{fin:Int}{ws:List Wd}{i:Nat}{t t':Nat→Nat}{B xb:Nat}{x y:ch}{line:Int}{w W W':World}{e:Ending}{vp vf:Value}
theorem axv(b:dy line (az ws i) x=some y)(c:gv W t' B xb vp vf y)(hF:am (fun k=>k=r∨t k≤9) w W)(d:∀k,k<w.heap.size→9<t k→t' k=t k)(a:Below W.heap.size W W')(f:e=.returned (.tuple #[])):
  Dn r fin ws i t B xb x line w e W':=⟨.inl ⟨y,t',vp,vf,f,b,c.below a,d⟩,kS hF a⟩
theorem Pk(a:dy line (az ws i) x=none)(hF:am (fun k=>k=r∨t k≤9) w W)(b:Below W.heap.size W W')(c:e=rH (cO ws fin j)):
  Dn r fin ws i t B xb x line w e W':=⟨.inr ⟨a,j,c⟩,kS hF b⟩
end
theorem Iq{f:ByteArray}{n:Int}{x:ch}(h:f=iK):dy n (f::l) x=(p8 eL l).map fun s=>{ x with pk:=x.pk++[vg s n] }:=by
 show (if f=iK then _ else _)=_
 rw[M h]
theorem P6{f:ByteArray}{n:Int}{x:ch}(h:f=lI):dy n (f::l) x=(wQ n l).map fun q=>{ x with pf:=x.pf++[q] }:=by
 show (if f=iK then _ else if f=lI then _ else _)=_
 rw[E (by rw[h];decide),M h]
theorem Ip{f:ByteArray}{n:Int}{x:ch}{a:List ap}{p:ap}(h1:f≠iK)(b:f≠lI)(h:x.pk=a++[p]):dy n (f::l) x=(dw f n p l).map fun q=>{ x with pk:=a++[q] }:=by
 show (if f=iK then _ else if f=lI then _ else _)=_
 rw[E h1,E b,h,List.getLast?_concat,XV]
theorem zmu{f:ByteArray}{n:Int}{x:ch}(h1:f≠iK)(a:f≠lI)(h:x.pk=[]):dy n (f::l) x=none:=by
 show (if f=iK then _ else if f=lI then _ else _)=_
 rw[E h1,E a,h];rfl
end
section
open RowKit av cy
open ac (Wd)
section
variable {W W':World}{T:Nat→Prop}{P:World→Prop}{t:Nat→Nat}
theorem uY(h:Ft W (Ty W) P)(hF:am T W W')(d:∀k,k<W.heap.size→T k→¬Ty W k):Ft W' (Ty W') P :=
 h.gc hF (fun k b a c=>d k b c a) fun k b a=>a.o8 hF fun c=>d k b c a
theorem wi(h:Ft W (Ty W) P)(a:Below W.heap.size W W'):Ft W' (Ty W') P:=uY h (am.ce (S:=fun _=>False) a) fun _ _ h=>h.elim
theorem MD(h:Ft W (Ty W) P):Ft W (Fx W t) P:=h.mono fun _ _ h=>.inr h
end
theorem spsT_ty{W:World}{L:List h8}(h:hU W v L):Ft W (Ty W) fun W'=>gy W' [v] L :=
 ((spsT_ft h).mono fun k _ a=>by obtain⟨cs,fr,h1⟩:=h.2 a.1 k a.2;exact⟨cs,_,fr,h1,.inl rfl⟩).imp fun _ h=>h.1
theorem setsT_ty{W:World}{L:List el}(h:iy W v L):Ft W (Ty W) fun W'=>fm W' [v] L :=
 ((setsT_ft h).mono fun k _ a=>by obtain⟨cs,fr,h1⟩:=h.2 a.1 k a.2;exact⟨cs,_,fr,h1,.inr rfl⟩).imp fun _ h=>h.1
theorem Qi{W:World}{s:dj}(h1:hU W v1 s.2.1)(a:iy W v2 s.2.2):Ft W (Ty W) fun W'=>nK W' (.string s.1) v1 v2 s:=((spsT_ty h1).and (setsT_ty a)).imp fun _ h=>⟨rfl,h.1,h.2⟩
theorem zv6(W:World):fm W [.slice none 0 0] []:=⟨_,0,rfl,bj _,bj _,fun i x hi=>by simp at hi⟩
theorem all_ty(W:World):Ft (W.alloc (.cells #[.string ⟨#[]⟩,.string ⟨#[]⟩] 51)) (Ty (W.alloc (.cells #[.string ⟨#[]⟩,.string ⟨#[]⟩] 51))) fun W'=>nK W' (.string ⟨#[]⟩) (.slice (some ⟨W.heap.size,0,none⟩) 1 1) (.slice none 0 0) um :=
 (spsT_ty (Jp W)).imp fun bP h=>⟨rfl,h,zv6 bP⟩
theorem none_ty(W:World):Ft W (Ty W) fun W'=>nK W' (.string ⟨#[]⟩) (.slice none 0 0) (.slice none 0 0) vD:=fun bP _ _=>⟨rfl,zt4 bP,zv6 bP⟩
theorem zv8{ws:List Wd}{i j:Nat}{o:Option (List el)}(h:dm ws i []=(o,j))(hi:i≤ws.length):i≤j∧j≤ws.length:=by
 have:=FN ws i [];rw[h]at this;simp only at this;omega
theorem zp6{ws:List Wd}{i j:Nat}{s:dj}(h:db ws i=(some s,j)):i<j∧j≤ws.length:=by
 have hi:i<ws.length:=by
  apply JU
  intro f;unfold db at h;rw[uJ f,E D,E D,E (by rw[zu5];simp)]at h;cases h
 unfold db at h;by_cases h1:aD ws i=ef
 ·rw[M h1]at h;cases h;omega
 rw[E h1]at h;by_cases c:nI (aD ws i)=true
 ·rw[M c]at h;by_cases b:ib (lg (aD ws i))=true
  ·rw[M b]at h;have e:(dm ws (i+1) []).2=j:=iB Prod.snd h;have:=zv8 (o:=(dm ws (i+1) []).1) (j:=j) (by rw[←e]) Z;omega
  rw[E b]at h;cases h
 rw[E c]at h;by_cases b:hasB 61 (aD ws i)=true
 ·rw[M b]at h;have e:(dm ws i []).2=j:=iB Prod.snd h;have d:=iB Prod.fst h;have g:=zv8 (o:=(dm ws i []).1) (j:=j) (by rw[←e]) Z
  refine⟨?_,g.2⟩
  cases hw:nz ([]++[lG (aD ws i)]) with
  |false=>rw[zk1 b hw]at d;cases d
  |true=>rw[zk0 b hw]at e;have:=FN ws (i+1) ([]++[lG (aD ws i)]);omega
 rw[E b]at h;cases h
theorem FT{ws:List Wd}{i j:Nat}{s:dj}(h:eR ws i=(some s,j)):xv (az ws i)=some (s,az ws j):=by rw[zpe,h];rfl
theorem yab{ws:List Wd}{i j:Nat}(h:eR ws i=(none,j)):xv (az ws i)=none:=by rw[zpe,h];rfl
theorem FX{ws:List Wd}{i j:Nat}{s:dj}(h:db ws i=(some s,j)):vG (az ws i)=some (s,az ws j):=by rw[zr1,h];rfl
theorem ycf{ws:List Wd}{i j:Nat}(h:db ws i=(none,j)):vG (az ws i)=none:=by rw[zr1,h];rfl
section
variable {ws:List Wd}{i j j2:Nat}{s c:dj}{n:Int}
theorem ybz(h:eR ws i=(some s,j))(_:j=ws.length):qx n (az ws i)=some (s,um,n):=by
 unfold qx;rw[FT h,mA Z]
theorem yc8(h:eR ws i=(none,j)):qx n (az ws i)=none:=by
 unfold qx;rw[yab h]
theorem zwt(h:eR ws i=(some s,j))(a:j<ws.length)(b:aD ws j≠oZ):qx n (az ws i)=none:=by
 unfold qx;rw[FT h,fy a];simp only;rw[E b]
theorem zwv(h:eR ws i=(some s,j))(a:j<ws.length)(b:db ws (j+1)=(none,j2)):qx n (az ws i)=none:=by
 unfold qx;rw[FT h,fy a];simp only;split
 ·rw[ycf b]
 rfl
theorem yby(h:eR ws i=(some s,j))(a:j<ws.length)(b:aD ws j=oZ)(d:db ws (j+1)=(some c,j2))(_:j2=ws.length):qx n (az ws i)=some (s,c,n):=by
 unfold qx;rw[FT h,fy a];simp only;rw[M b,FX d,mA Z]
theorem zwu(h:eR ws i=(some s,j))(a:j<ws.length)(b:db ws (j+1)=(some c,j2))(d:j2<ws.length):qx n (az ws i)=none:=by
 unfold qx;rw[FT h,fy a];simp only;split
 ·rw[FX b,fy d]
 rfl
theorem zx0(h:db ws i=(some s,j))(_:j=ws.length):mP n (az ws i)=some (s,vD,n):=by
 unfold mP;rw[FX h,mA Z]
theorem zx1(h:db ws i=(none,j)):mP n (az ws i)=none:=by
 unfold mP;rw[ycf h]
theorem zsh(h:db ws i=(some s,j))(a:j<ws.length)(b:aD ws j≠rI):mP n (az ws i)=none:=by
 unfold mP;rw[FX h,fy a];simp only;rw[E b]
theorem zsj(h:db ws i=(some s,j))(a:j<ws.length)(b:eR ws (j+1)=(none,j2)):mP n (az ws i)=none:=by
 unfold mP;rw[FX h,fy a];simp only;split
 ·rw[yab b]
 rfl
theorem zwz(h:db ws i=(some s,j))(a:j<ws.length)(b:aD ws j=rI)(d:eR ws (j+1)=(some c,j2))(_:j2=ws.length):mP n (az ws i)=some (s,c,n):=by
 unfold mP;rw[FX h,fy a];simp only;rw[M b,FT d,mA Z]
theorem zsi(h:db ws i=(some s,j))(a:j<ws.length)(b:eR ws (j+1)=(some c,j2))(d:j2<ws.length):mP n (az ws i)=none:=by
 unfold mP;rw[FX h,fy a];simp only;split
 ·rw[FT b,fy d]
 rfl
end
end
section
open Shelf RowKit Lib av cy
open ac (Wd)
attribute [local go_sem ↓] wp_at_zero wp_at_succ
theorem zy9{fin:Int}{ws:List Wd}{x:ch}{u:List ap}{p:ap}{line:Int}{first:ByteArray}(C:FS w0 r a n c fin ws)(S:na w0 r a n c fin i w)(_:i≤990)
  (aP:gv w t B xb (.slice (some ⟨pb,0,none⟩) (u.length+1) cap) vf x) (hx:x.pk=u++[p]) (tr:t r=10) (iO:B≤w.heap.size) (av:z9 p) (_:u.length≤70000) (hf:first=lF) :
  Calls prog 50 #[rp r,.string first,.int .i64 line,.pointer (some ⟨pb,u.length*8,none⟩)] w (zt r a n c fin ws i t B xb (.slice (some ⟨pb,0,none⟩) (u.length+1) cap) vf x u p line first w):=by
 refine VY ?_;intro k0 k1 k2;have bY:(first.toList==[100,101,112,101,110,100,115])=true:=Og;refine zH ?_;intro nV hn cz km;obtain⟨bN,v2,v3,v4,v5,v6,v7,L⟩:∃bN v2 v3 v4 v5 v6 v7,eW w t B (.slice (some ⟨pb,0,none⟩) (u.length+1) cap) u p bN v2 v3 v4 v5 v6 v7:=by exact KX
 have kQ:=dF S.box D
 have ax:∀W,am (fun k=>k=r) w W→gv W (aJ t w.heap.size 3) B xb (.slice (some ⟨pb,0,none⟩) (u.length+1) cap) vf x∧eW W (aJ t w.heap.size 3) B (.slice (some ⟨pb,0,none⟩) (u.length+1) cap) u p bN v2 v3 v4 v5 v6 v7:=fun W hF=>
  ⟨aP.to hF (fun k _ hk=>Ba) (fun k hk _=>aR hk),L.to hF (fun k _ hk=>JT) (fun k hk _=>aR hk)⟩
 refine Ks ?_;intro jn fB pg;have ay:=yad C S Z;obtain⟨HC,HS,HH,HL,Hx,Hp,Hf,Fa,Hn,pE,iT,kl,r9,H_,Ei⟩:=xI C S aP L hx av hf ay hn ax jn fB pg kQ tr;clear C S aP L hx av hf ay hn ax jn fB pg kQ tr;go_enter JW,JX;go_wp2_with fail;refine Fa.o.mono ?_;rintro e w1 ⟨⟨s,j,u1,u2,hw,rfl,jo,hv2,de⟩|⟨j,hw,rfl⟩,bC⟩
 ·obtain⟨b1,d1,rfl⟩:=qz jo.1;obtain⟨b2,d2,rfl⟩:=CH hv2.1;have ba:=zof hw;obtain⟨wA,MT⟩:=Y (w1.alloc (.cells #[.string ⟨#[]⟩,.string ⟨#[]⟩] 51));obtain⟨sa,hsa⟩:∃z:Option Addr,z=some ⟨w1.heap.size,0,none⟩:=⟨_,rfl⟩;have yu:Below w1.heap.size w1 wA:=by rw[MT];exact aS _ _
  have eC:Ft wA (Ty wA) fun W'=>nK W' (.string ⟨#[]⟩) (.slice sa 1 1) (.slice none 0 0) um:=by rw[MT,hsa];exact all_ty w1
  obtain⟨wB,C8⟩:=Y (wA.alloc (.cells #[.string s.1,.slice b1 s.2.1.length d1,.slice b2 s.2.2.length d2,.string ⟨#[]⟩,.slice sa 1 1,.slice none 0 0,.int .i64 line] 96));obtain⟨bx,FG⟩:=Y (w1.heap.size+1);have Nx:wA.heap.size=bx:=by rw[FG];rw[MT];simp
  have Ci:Below wA.heap.size wA wB:=by rw[C8];exact aS _ _
  have Et:=yu.trans (Ci.mono yu.size);have U:wB.heap[bx]?=some (.cells #[.string s.1,.slice b1 s.2.1.length d1,.slice b2 s.2.2.length d2,.string ⟨#[]⟩,.slice sa 1 1,.slice none 0 0,.int .i64 line] 96 (0,0)):=asf;refine apq ?_;intro Cz Cy Cw hM cR AB zY;clear Nx;go_upto_region 14 with (fail);rw[←hsa,←MT,←C8,←FG];clear C8 FG;obtain⟨m1,pI⟩:=Y s.2.1.length;obtain⟨m2,jP⟩:=Y s.2.2.length;obtain⟨nm,dJ⟩:=Y s.1;rw[←pI,←jP,←dJ]at U AB;rw[←pI,←jP,←dJ];clear MT hsa;by_cases aB:j<n
  ·rw[aO aB]at hM;revert bC hw de jo hv2 yu eC Ci Et Cz Cy Cw hM zY pI jP AB U dJ;refine zO ?_;intro iR Hw bb bc bd bf bh bj bk X aC aE HM aF bl bm aa ab bn;go_wp2_with fail;refine Rt ?_;intro q3 w3 aM;have aI:=zu2 ⟨#[119,104,101,110]⟩ w3;obtain⟨bK,Ii⟩:=ak aM aI;clear aM aI;go_wp2_with fail;refine Xe ?_;intro w4 eM bo tI mw;have aK:w4.heap[bo]?=some (.cells #[.string ⟨#[119,104,101,110]⟩] 9 (0,0)):=Yg;have F:=bK.o.trans (mw.mono bK.o.size);have aQ:=aE.o.to F;have aU:=zpj HC.o aQ Z (mQ func114 aA rfl) (ok:=fun s=>decide (s=oZ)) (cp:=.pointer (some ⟨bo,0,none⟩)) (fun s W _ k=>zzl s oZ (G k aK));have bp:=G F ab.o;have bq:=kS X.o F;have br:=wi aa.o F;rw[←tI];clear tI;unfold sE at aU;revert eM mw aK F aQ aU bp bq br;refine fK ?_;intro Hw4 V Hpo aAs Ja wj C1 sg Yr;go_wp2_with fail;refine wj.o.mono ?_;rintro e w5 ⟨⟨Mg,CB,rfl,Cx⟩|⟨aj,j',rfl⟩,tu⟩
   ·have bs:aD ws j=oZ:=ed CB;have bZ:bx<w4.heap.size:=(bS.1 C1.o).1;have bt:=dh tu C1.o Z;refine RX ?_;intro Ae;have aV:=zc Ja.o km tu Cx;have bu:=uY Yr.o tu (fun k _ hk=>asg);have bw:=zud HC.o aV Z;revert tu Mg CB Cx bs bt Ae aV bu bw;refine dE ?_;intro UK Hi5 azw aCb wF Hp5 Ey avk Ys UI;go_wp2_with fail;refine UI.o.mono ?_;rintro e w6 ⟨⟨s2,j2,u3,u4,eo,rfl,hv3,hv4,LY⟩|⟨j2,eo,rfl⟩,yf⟩
    ·obtain⟨b3,d3,rfl⟩:=qz hv3.1;obtain⟨b4,d4,rfl⟩:=CH hv4.1;have bz:=zp6 eo;have p6:=dh yf Hp5.o Z;have Ev:am (fun k=>k=r) w w6:=Ey.o.trans yf (fun _ _ h=>h);have aW:=uY Ys.o yf (fun k _ hk=>ash);refine ahz ?_;intro FC I8 w7 gL tW;have aX:w7.heap[bx]?=some (.cells #[.string nm,.slice b1 m1 d1,.slice b2 m2 d2,.string s2.1,.slice b3 s2.2.1.length d3,.slice b4 s2.2.2.length d4,.int .i64 line] 96 (0,0)):=by exact agl
     have bA:am (fun k=>k=r) w w7:=Ev.trans tW (fun k hk e=>Z);have bB:l7 r (.slice a n c) j2 fin w7:=dh tW LY Z;have bD:=uY aW tW (fun k _ hk=>S0);have a1:=uY FC tW (fun k _ hk=>S0);have y3:=aG p6 3;have y4:=aG p6 4;have y5:=aG p6 5;have a6:=J p6 3;have a7:=J p6 4;have a8:=J p6 5;simp only[aq,ar,aw]at a6 a7 a8;go_upto_region 17 with (fail);rw[←gL];clear gL y3 y4 y5 a6 a7 a8;obtain⟨m3,qV⟩:=Y s2.2.1.length;obtain⟨m4,pK⟩:=Y s2.2.2.length;obtain⟨nm2,BY⟩:=Y s2.1;rw[←qV,←pK,←BY]at aX a1;revert yf eo LY hv3 hv4 p6 Ev aW FC I8 tW bA bB bD qV pK a1 aX BY;refine zO ?_;intro aab yh aBv Hv3 Hv4 G4 UT aAe aAf aAv aAy Fi Yy auw azd Hm4 aux El aya;obtain⟨H1,L1⟩:=pE.o _ Fi.o;obtain⟨⟨cur,bW⟩,z2,z3,z4,z5,z6,z7⟩:=L1.cells;obtain⟨css,hr⟩:=L1.last.gr;obtain⟨ra,rc,gI⟩:=bg hr.row;rw[gI]at z5;have ad:=aG bW (u.length*8+5);have K:v5.ownBlock≠some pb:=fun e=>by exact Bm
     have ae:∀k,v5.ownBlock=some k→Live (aJ t w.heap.size 3 k)∧¬Ty w7 k:=fun k hk=>⟨Ar,ly hr D hk⟩;have mW:¬Ty w7 pb:=dF bW D;have hB:B≤w7.heap.size:=fu iO Fi.o.size;have aY:=hr.row;obtain⟨m,hm⟩:=Y p.gr.length;rw[←hm]at aY gI z5;have bE:m≤70000:=by rw[hm];exact Hp.o.2.2.2.1
     rw[gI]at aY;obtain⟨N,R⟩:=Y css.flatten;rw[←R]at aY;refine afe ?_;intro oC y0 y1 y2 y3 y4 y5 y6;have af:∀ob:Obj,(w7.alloc ob).cell? ⟨pb,u.length*8+5,none⟩=some (.slice ra m rc):=fun ob=>((am.refl (fun _=>False) w7).alloc ob).o8 z5;have ah:(w7.drew).ownsRow B 96 7 (.slice ra m rc) m N:=aY;have ai:B≤w7.drew.heap.size:=hB;clear z2 z3 z4 z6 z7 ad aY;have cJ:=aH K;have T:=aH bW;revert H1 L1 hr ae mW gI hm R oC ah;refine dE ?_;intro ku iW Hr jr iA CW Hm HN iz wJ;clear K bW;go_region_law (refine xl zoz (w:=w7.drew) rfl (.tmp 85) (.tmp 87) rfl B (.slice ra m rc) m N rfl wJ.o 1 D #[.string nm,.slice b1 m1 d1,.slice b2 m2 d2,.string nm2,.slice b3 m3 d3,.slice b4 m4 d4,.int .i64 line] rfl rfl dW Z cY ai ?_;intro g9 c9 w9 aZ aT cg;have y:=bI T.o ((am.drew (am.refl _ w7)).grown aT (S:=fun k=>(Value.slice ra m rc).ownBlock=some k) (fun k hk=>.inr hk)) Ke;have bF:=aG y (u.length*8+5);have bG:=(yk (w:=w7) (w':=w9) (a:=⟨pb,u.length*8+5,none⟩) (y.trans T.o.symm)).trans z5)
     all_goals
      have al:=iW.o.WP Hr.o iz.o (v9:=.slice (some ⟨g9,0,none⟩) (m+1) c9) ye vu Kf;have an:w7.grownBy w9 v5.ownBlock:=vu;revert aZ aT cg y al an;refine bX ?_;intro bH bJ bL bM ao au;clear af;refine vJ ?_;refine Cf (v:=v5) (j:=j2) ku.o ao.o Fi.o au.o iT.o (fun k hk=>aR hk) jr.o r9.o iA.o Yy.o kl.o ?_ ?_ ?_ rfl
      ·intro A;refine ka ?_;rw[E D,E D,E D,M rfl,yby Hw.o gl wF.o yh.o A];rfl
      ·intro A;refine ka ?_;rw[E D,E D,E D,M rfl,zwu Hw.o gl yh.o A];rfl
      exact bz.2
    have iv:dw first line p (az ws i)=none:=by refine ka ?_;rw[E D,E D,E D,M rfl,zwv Hw.o gl eo];rfl
    exact ahv
   have iv:dw first line p (az ws i)=none:=by
    refine ka ?_
    rw[E D,E D,E D,M rfl,zwt Hw.o gl (by
     rcases aj with h|h
     ·have:=Hn.o;omega
     exact lC h)]
    rfl
   exact V0
  rw[be aB]at hM;revert bC hw de jo hv2 yu eC Ci Et Cz Cy Cw hM zY pI jP AB U dJ;refine zO ?_;intro iR Hw bb bc bd bf bh bj bk X aC aE HM aF bl bm aa ab bn;go_wp2_with fail;refine Rt ?_;intro q3 w3 aM;have bO:=G aM ab.o;have bQ:=kS X.o aM;have bR:=G aM aC.o;have bT:=wi aa.o aM;have bU:=wi aF.o aM;revert aM bO bQ bR bT bU;refine bX ?_;intro bK qu iI Fg Yq Yt;go_upto_region 17 with (fail);obtain⟨H1,L1⟩:=pE.o _ iI.o;obtain⟨⟨cur,bW⟩,z2,z3,z4,z5,z6,z7⟩:=L1.cells;obtain⟨css,hr⟩:=L1.last.gr;obtain⟨ra,rc,gI⟩:=bg hr.row;rw[gI]at z5;have ad:=aG bW (u.length*8+5);have K:v5.ownBlock≠some pb:=fun e=>by exact Bm
  have ae:∀k,v5.ownBlock=some k→Live (aJ t w.heap.size 3 k)∧¬Ty w3 k:=fun k hk=>⟨Ar,ly hr D hk⟩;refine XE ?_;intro mW hB aY;obtain⟨m,hm⟩:=Y p.gr.length;rw[←hm]at aY gI z5;have bE:m≤70000:=by rw[hm];exact Hp.o.2.2.2.1
  rw[gI]at aY;obtain⟨N,R⟩:=Y css.flatten;rw[←R]at aY;have oC:Ft w3 (Fx w3 (aJ t w.heap.size 3)) (fun W'=>fX W' [.string nm,.slice b1 m1 d1,.slice b2 m2 d2,.string ⟨#[]⟩,.slice sa 1 1,.slice none 0 0,.int .i64 line] (s,um,line)):=(MD (Yq.o.and Yt.o)).imp fun bP h=>⟨_,_,_,_,_,_,rfl,h.1,h.2⟩;have y0:=J qu.o 0;have y1:=J qu.o 1;have y2:=J qu.o 2;have y3:=J qu.o 3;have y4:=J qu.o 4;have y5:=J qu.o 5;have y6:=J qu.o 6;simp only[aq,ar,aw]at y0 y1 y2 y3 y4 y5 y6;have af:∀ob:Obj,(w3.alloc ob).cell? ⟨pb,u.length*8+5,none⟩=some (.slice ra m rc):=fun ob=>((am.refl (fun _=>False) w3).alloc ob).o8 z5;have ah:(w3.drew).ownsRow B 96 7 (.slice ra m rc) m N:=aY;have ai:B≤w3.drew.heap.size:=hB;clear z2 z3 z4 z6 z7 ad aY;have cJ:=aH K;have T:=aH bW;revert H1 L1 hr ae mW gI hm R oC ah;refine dE ?_;intro ku iW Hr jr iA CW Hm HN iz wJ;clear K bW;go_region_law (refine xl zoz (w:=w3.drew) rfl (.tmp 85) (.tmp 87) rfl B (.slice ra m rc) m N rfl wJ.o 1 D #[.string nm,.slice b1 m1 d1,.slice b2 m2 d2,.string ⟨#[]⟩,.slice sa 1 1,.slice none 0 0,.int .i64 line] rfl rfl dW Z cY ai ?_;intro g9 c9 w9 aZ aT cg;have y:=bI T.o ((am.drew (am.refl _ w3)).grown aT (S:=fun k=>(Value.slice ra m rc).ownBlock=some k) (fun k hk=>.inr hk)) Ke;have bF:=aG y (u.length*8+5);have bG:=(yk (w:=w3) (w':=w9) (a:=⟨pb,u.length*8+5,none⟩) (y.trans T.o.symm)).trans z5)
  all_goals
   have al:=iW.o.WP Hr.o iz.o (v9:=.slice (some ⟨g9,0,none⟩) (m+1) c9) ye vu Kf;have an:w3.grownBy w9 v5.ownBlock:=vu;revert aZ aT cg y al an;refine bX ?_;intro bH bJ bL bM ao au;clear af;refine vJ ?_;refine Cf (v:=v5) (j:=j) ku.o ao.o iI.o au.o iT.o (fun k hk=>aR hk) jr.o r9.o iA.o Fg.o kl.o ?_ ?_ ?_ rfl
   ·intro A;refine ka ?_;rw[E D,E D,E D,M rfl,ybz Hw.o A];rfl
   ·intro A;have:=Hn.o;omega
   exact ba.2
 have iv:dw first line p (az ws i)=none:=by refine ka ?_;rw[E D,E D,E D,M rfl,yc8 hw];rfl
 exact alu
theorem zvl{fin:Int}{ws:List Wd}{x:ch}{u:List ap}{p:ap}{line:Int}{first:ByteArray}(C:FS w0 r a n c fin ws)(S:na w0 r a n c fin i w)(_:i≤990)
  (aP:gv w t B xb (.slice (some ⟨pb,0,none⟩) (u.length+1) cap) vf x) (hx:x.pk=u++[p]) (tr:t r=10) (iO:B≤w.heap.size) (au:z9 p) (_:u.length≤70000) (hf:first=kv) :
  Calls prog 50 #[rp r,.string first,.int .i64 line,.pointer (some ⟨pb,u.length*8,none⟩)] w (zt r a n c fin ws i t B xb (.slice (some ⟨pb,0,none⟩) (u.length+1) cap) vf x u p line first w):=by
 refine VY ?_;intro k0 k1 k2;have bU:(first.toList==[100,101,112,101,110,100,115])=false:=Og;have bY:(first.toList==[99,111,110,102,108,105,99,116,115])=true:=asd;refine zH ?_;intro nV hn cz km;obtain⟨bN,v2,v3,v4,v5,v6,v7,L⟩:∃bN v2 v3 v4 v5 v6 v7,eW w t B (.slice (some ⟨pb,0,none⟩) (u.length+1) cap) u p bN v2 v3 v4 v5 v6 v7:=by exact KX
 have kQ:=dF S.box D
 have av:∀W,am (fun k=>k=r) w W→gv W (aJ t w.heap.size 3) B xb (.slice (some ⟨pb,0,none⟩) (u.length+1) cap) vf x∧eW W (aJ t w.heap.size 3) B (.slice (some ⟨pb,0,none⟩) (u.length+1) cap) u p bN v2 v3 v4 v5 v6 v7:=fun W hF=>
  ⟨aP.to hF (fun k _ hk=>Ba) (fun k hk _=>aR hk),L.to hF (fun k _ hk=>JT) (fun k hk _=>aR hk)⟩
 refine Ks ?_;intro jn fB pg;have ax:=zud C S Z;obtain⟨HC,HS,HH,HL,Hx,Hp,Hf,Fa,Hn,pE,iT,kl,r9,H_,Ei⟩:=xI C S aP L hx au hf ax hn av jn fB pg kQ tr;clear C S aP L hx au hf ax hn av jn fB pg kQ tr;go_enter JW,JX;go_wp2_with fail;refine Fa.o.mono ?_;rintro e w1 ⟨⟨s,j,u1,u2,hw,rfl,jo,hv2,de⟩|⟨j,hw,rfl⟩,bC⟩
 ·obtain⟨b1,d1,rfl⟩:=qz jo.1;obtain⟨b2,d2,rfl⟩:=CH hv2.1;have a8:=zp6 hw;have yu:Below w1.heap.size w1 w1:=aL _ _;have eC:Ft w1 (Ty w1) fun W'=>nK W' (.string ⟨#[]⟩) (.slice none 0 0) (.slice none 0 0) vD:=none_ty w1;obtain⟨wB,C8⟩:=Y (w1.alloc (.cells #[.string s.1,.slice b1 s.2.1.length d1,.slice b2 s.2.2.length d2,.string ⟨#[]⟩,.slice none 0 0,.slice none 0 0,.int .i64 line] 98));obtain⟨bx,FG⟩:=Y w1.heap.size;have Nx:w1.heap.size=bx:=by rw[FG]
  have Ci:Below w1.heap.size w1 wB:=by rw[C8];exact aS _ _
  have Et:=yu.trans (Ci.mono yu.size);have T:wB.heap[bx]?=some (.cells #[.string s.1,.slice b1 s.2.1.length d1,.slice b2 s.2.2.length d2,.string ⟨#[]⟩,.slice none 0 0,.slice none 0 0,.int .i64 line] 98 (0,0)):=asf;refine apq ?_;intro Cz Cy Cw hM cR AB zY;clear Nx;go_upto_region 20 with (fail);rw[←C8,←FG];clear C8 FG;obtain⟨m1,pI⟩:=Y s.2.1.length;obtain⟨m2,jP⟩:=Y s.2.2.length;obtain⟨nm,dJ⟩:=Y s.1;rw[←pI,←jP,←dJ]at T AB;rw[←pI,←jP,←dJ]
  skip
  by_cases ay:j<n
  ·rw[aO ay]at hM;revert bC hw de jo hv2 yu eC Ci Et Cz Cy Cw hM zY pI jP AB T dJ;refine zO ?_;intro iR Hw ba bb bc bd bf bh bj U aB aC HM aE bk bl X aa bm;go_wp2_with fail;refine Rt ?_;intro q3 w3 aM;have aF:=zu2 ⟨#[119,105,116,104]⟩ w3;obtain⟨bK,Ii⟩:=ak aM aF;clear aM aF;go_wp2_with fail;refine Xe ?_;intro w4 eM bo tI mw;have aI:w4.heap[bo]?=some (.cells #[.string ⟨#[119,105,116,104]⟩] 9 (0,0)):=Yg;have A:=bK.o.trans (mw.mono bK.o.size);have aK:=aC.o.to A;have aQ:=zpj HC.o aK Z (mQ func114 aA rfl) (ok:=fun s=>decide (s=rI)) (cp:=.pointer (some ⟨bo,0,none⟩)) (fun s W _ k=>zzl s rI (G k aI));have bn:=G A aa.o;have bp:=kS U.o A;have bq:=wi X.o A;rw[←tI];clear tI;unfold sE at aQ;revert eM mw aI A aK aQ bn bp bq;refine fK ?_;intro Hw4 V Hpo aAs Ja wj C1 sg Yr;go_wp2_with fail;refine wj.o.mono ?_;rintro e w5 ⟨⟨Mg,CB,rfl,Cx⟩|⟨aj,j',rfl⟩,tu⟩
   ·have br:aD ws j=rI:=ed CB;have bZ:bx<w4.heap.size:=(bS.1 C1.o).1;have bs:=dh tu C1.o Z;refine RX ?_;intro Ae;have aU:=zc Ja.o km tu Cx;have bt:=uY Yr.o tu (fun k _ hk=>asg);have bu:=yad HC.o aU Z;revert tu Mg CB Cx br bs Ae aU bt bu;refine dE ?_;intro UK Hi5 azw aCb wF Hp5 Ey avk Ys UI;go_wp2_with fail;refine UI.o.mono ?_;rintro e w6 ⟨⟨s2,j2,u3,u4,eo,rfl,hv3,hv4,LY⟩|⟨j2,eo,rfl⟩,yf⟩
    ·obtain⟨b3,d3,rfl⟩:=qz hv3.1;obtain⟨b4,d4,rfl⟩:=CH hv4.1;have bw:=zof eo;have p6:=dh yf Hp5.o Z;have Ev:am (fun k=>k=r) w w6:=Ey.o.trans yf (fun _ _ h=>h);have aV:=uY Ys.o yf (fun k _ hk=>ash);refine ahz ?_;intro FC I8 w7 gL tW;have aW:w7.heap[bx]?=some (.cells #[.string nm,.slice b1 m1 d1,.slice b2 m2 d2,.string s2.1,.slice b3 s2.2.1.length d3,.slice b4 s2.2.2.length d4,.int .i64 line] 98 (0,0)):=by exact agl
     have bz:am (fun k=>k=r) w w7:=Ev.trans tW (fun k hk e=>Z);have bA:l7 r (.slice a n c) j2 fin w7:=dh tW LY Z;have bB:=uY aV tW (fun k _ hk=>S0);have aX:=uY FC tW (fun k _ hk=>S0);have y3:=aG p6 3;have y4:=aG p6 4;have y5:=aG p6 5;have a1:=J p6 3;have a6:=J p6 4;have a7:=J p6 5;simp only[aq,ar,aw]at a1 a6 a7;go_upto_region 23 with (fail);rw[←gL];clear gL y3 y4 y5 a1 a6 a7;obtain⟨m3,qV⟩:=Y s2.2.1.length;obtain⟨m4,pK⟩:=Y s2.2.2.length;obtain⟨nm2,BY⟩:=Y s2.1;rw[←qV,←pK,←BY]at aW aX;revert yf eo LY hv3 hv4 p6 Ev aV FC I8 tW bz bA bB qV pK aX aW BY;refine zO ?_;intro aab yh aBv Hv3 Hv4 G4 UT aAe aAf aAv aAy Fi Yy auw azd Hm4 aux El aya;obtain⟨H1,L1⟩:=pE.o _ Fi.o;obtain⟨⟨cur,bW⟩,z2,z3,z4,z5,z6,z7⟩:=L1.cells;obtain⟨css,hr⟩:=L1.last.ci;obtain⟨ra,rc,gI⟩:=bg hr.row;rw[gI]at z6;have ab:=aG bW (u.length*8+6);have F:v6.ownBlock≠some pb:=fun e=>by exact Bm
     have ad:∀k,v6.ownBlock=some k→Live (aJ t w.heap.size 3 k)∧¬Ty w7 k:=fun k hk=>⟨Ar,ly hr D hk⟩;have mW:¬Ty w7 pb:=dF bW D;have hB:B≤w7.heap.size:=fu iO Fi.o.size;have aY:=hr.row;obtain⟨m,hm⟩:=Y p.ci.length;rw[←hm]at aY gI z6;have bD:m≤70000:=by rw[hm];exact Hp.o.2.2.2.2.1
     rw[gI]at aY;obtain⟨N,K⟩:=Y css.flatten;rw[←K]at aY;refine afe ?_;intro oC y0 y1 y2 y3 y4 y5 y6;have ae:∀ob:Obj,(w7.alloc ob).cell? ⟨pb,u.length*8+6,none⟩=some (.slice ra m rc):=fun ob=>((am.refl (fun _=>False) w7).alloc ob).o8 z6;have af:(w7.drew).ownsRow B 98 7 (.slice ra m rc) m N:=aY;have ah:B≤w7.drew.heap.size:=hB;clear z2 z3 z4 z5 z7 ab aY;have cJ:=aH F;have R:=aH bW;revert H1 L1 hr ad mW gI hm K oC af;refine dE ?_;intro ku iW Hr jr iA CW Hm HN iz wJ;clear F bW;go_region_law (refine xl zn3 (w:=w7.drew) rfl (.tmp 109) (.tmp 111) rfl B (.slice ra m rc) m N rfl wJ.o 1 D #[.string nm,.slice b1 m1 d1,.slice b2 m2 d2,.string nm2,.slice b3 m3 d3,.slice b4 m4 d4,.int .i64 line] rfl rfl dW Z cY ah ?_;intro g9 c9 w9 aZ aT cg;have y:=bI R.o ((am.drew (am.refl _ w7)).grown aT (S:=fun k=>(Value.slice ra m rc).ownBlock=some k) (fun k hk=>.inr hk)) Ke;have bE:=aG y (u.length*8+6);have bF:=(yk (w:=w7) (w':=w9) (a:=⟨pb,u.length*8+6,none⟩) (y.trans R.o.symm)).trans z6)
     all_goals
      have ai:=iW.o.J3 Hr.o iz.o (v9:=.slice (some ⟨g9,0,none⟩) (m+1) c9) ye vu Kf;have al:w7.grownBy w9 v6.ownBlock:=vu;revert aZ aT cg y ai al;refine bX ?_;intro bG bH bJ bL an ao;clear ae;refine vJ ?_;refine Cf (v:=v6) (j:=j2) ku.o an.o Fi.o ao.o iT.o (fun k hk=>aR hk) jr.o r9.o iA.o Yy.o kl.o ?_ ?_ ?_ rfl
      ·intro z;refine ka ?_;rw[E D,E D,E D,E D,M rfl,zwz Hw.o gl wF.o yh.o z];rfl
      ·intro z;refine ka ?_;rw[E D,E D,E D,E D,M rfl,zsi Hw.o gl yh.o z];rfl
      exact bw.2
    have iv:dw first line p (az ws i)=none:=by refine ka ?_;rw[E D,E D,E D,E D,M rfl,zsj Hw.o gl eo];rfl
    exact ahv
   have iv:dw first line p (az ws i)=none:=by
    refine ka ?_
    rw[E D,E D,E D,E D,M rfl,zsh Hw.o gl (by
     rcases aj with h|h
     ·have:=Hn.o;omega
     exact lC h)]
    rfl
   exact V0
  rw[be ay]at hM;revert bC hw de jo hv2 yu eC Ci Et Cz Cy Cw hM zY pI jP AB T dJ;refine zO ?_;intro iR Hw ba bb bc bd bf bh bj U aB aC HM aE bk bl X aa bm;go_wp2_with fail;refine Rt ?_;intro q3 w3 aM;have bM:=G aM aa.o;have bO:=kS U.o aM;have bQ:=G aM aB.o;have bR:=wi X.o aM;have bT:=wi aE.o aM;revert aM bM bO bQ bR bT;refine bX ?_;intro bK qu iI Fg Yq Yt;go_upto_region 23 with (fail);obtain⟨H1,L1⟩:=pE.o _ iI.o;obtain⟨⟨cur,bW⟩,z2,z3,z4,z5,z6,z7⟩:=L1.cells;obtain⟨css,hr⟩:=L1.last.ci;obtain⟨ra,rc,gI⟩:=bg hr.row;rw[gI]at z6;have ab:=aG bW (u.length*8+6);have F:v6.ownBlock≠some pb:=fun e=>by exact Bm
  have ad:∀k,v6.ownBlock=some k→Live (aJ t w.heap.size 3 k)∧¬Ty w3 k:=fun k hk=>⟨Ar,ly hr D hk⟩;refine XE ?_;intro mW hB aY;obtain⟨m,hm⟩:=Y p.ci.length;rw[←hm]at aY gI z6;have bD:m≤70000:=by rw[hm];exact Hp.o.2.2.2.2.1
  rw[gI]at aY;obtain⟨N,K⟩:=Y css.flatten;rw[←K]at aY;have oC:Ft w3 (Fx w3 (aJ t w.heap.size 3)) (fun W'=>fX W' [.string nm,.slice b1 m1 d1,.slice b2 m2 d2,.string ⟨#[]⟩,.slice none 0 0,.slice none 0 0,.int .i64 line] (s,vD,line)):=(MD (Yq.o.and Yt.o)).imp fun bP h=>⟨_,_,_,_,_,_,rfl,h.1,h.2⟩;have y0:=J qu.o 0;have y1:=J qu.o 1;have y2:=J qu.o 2;have y3:=J qu.o 3;have y4:=J qu.o 4;have y5:=J qu.o 5;have y6:=J qu.o 6;simp only[aq,ar,aw]at y0 y1 y2 y3 y4 y5 y6;have ae:∀ob:Obj,(w3.alloc ob).cell? ⟨pb,u.length*8+6,none⟩=some (.slice ra m rc):=fun ob=>((am.refl (fun _=>False) w3).alloc ob).o8 z6;have af:(w3.drew).ownsRow B 98 7 (.slice ra m rc) m N:=aY;have ah:B≤w3.drew.heap.size:=hB;clear z2 z3 z4 z5 z7 ab aY;have cJ:=aH F;have R:=aH bW;revert H1 L1 hr ad mW gI hm K oC af;refine dE ?_;intro ku iW Hr jr iA CW Hm HN iz wJ;clear F bW;go_region_law (refine xl zn3 (w:=w3.drew) rfl (.tmp 109) (.tmp 111) rfl B (.slice ra m rc) m N rfl wJ.o 1 D #[.string nm,.slice b1 m1 d1,.slice b2 m2 d2,.string ⟨#[]⟩,.slice none 0 0,.slice none 0 0,.int .i64 line] rfl rfl dW Z cY ah ?_;intro g9 c9 w9 aZ aT cg;have y:=bI R.o ((am.drew (am.refl _ w3)).grown aT (S:=fun k=>(Value.slice ra m rc).ownBlock=some k) (fun k hk=>.inr hk)) Ke;have bE:=aG y (u.length*8+6);have bF:=(yk (w:=w3) (w':=w9) (a:=⟨pb,u.length*8+6,none⟩) (y.trans R.o.symm)).trans z6)
  all_goals
   have ai:=iW.o.J3 Hr.o iz.o (v9:=.slice (some ⟨g9,0,none⟩) (m+1) c9) ye vu Kf;have al:w3.grownBy w9 v6.ownBlock:=vu;revert aZ aT cg y ai al;refine bX ?_;intro bG bH bJ bL an ao;clear ae;refine vJ ?_;refine Cf (v:=v6) (j:=j) ku.o an.o iI.o ao.o iT.o (fun k hk=>aR hk) jr.o r9.o iA.o Fg.o kl.o ?_ ?_ ?_ rfl
   ·intro z;refine ka ?_;rw[E D,E D,E D,E D,M rfl,zx0 Hw.o z];rfl
   ·intro z;have:=Hn.o;omega
   exact a8.2
 have iv:dw first line p (az ws i)=none:=by refine ka ?_;rw[E D,E D,E D,E D,M rfl,zx1 hw];rfl
 exact alu
end
section
open Shelf RowKit Lib av cy
open ac (Wd)
theorem rest_any{fin:Int}{ws:List Wd}{x:ch}{b:List ap}{p:ap}{line:Int}{first:ByteArray}(C:FS w0 r a n c fin ws)(S:na w0 r a n c fin i w)(d:i≤990)
  (aP:gv w t B xb (.slice (some ⟨pb,0,none⟩) (b.length+1) cap) vf x) (e:x.pk=b++[p]) (f:t r=10) (g:B≤w.heap.size) (j:z9 p) (k:b.length≤70000) (l:xo first=true) :
  Calls prog 50 #[rp r,.string first,.int .i64 line,.pointer (some ⟨pb,b.length*8,none⟩)] w (zt r a n c fin ws i t B xb (.slice (some ⟨pb,0,none⟩) (b.length+1) cap) vf x b p line first w):=by
 unfold xo at l;simp only[n_,fE]at l;rcases l with ((((h|h)|h)|h)|h)|h
 ·exact zy7 C S d aP e f g j k h
 ·exact zy8 C S d aP e f g j k h
 ·exact zvj C S d aP e f g j k h
 ·exact zy9 C S d aP e f g j k h
 ·exact zvl C S d aP e f g j k h
 exact zvk C S d aP e f g j k h
end
section
open Shelf RowKit Lib av cy
open ac (Wd)
attribute [local go_sem ↓] wp_at_zero wp_at_succ
theorem yec{fin:Int}{ws:List Wd}{x:ch}{line:Int}(C:FS w0 r a n c fin ws)(S:na w0 r a n c fin i w)(_:i≤900)(_:i<n)
  (aP:gv w t B xb vp vf x) (tr:t r=10) (ta:∀p,a=some p→p.block≠r∧9<t p.block) (U:B≤w.heap.size) (X:x.pk.length≤70000) (hf:aD ws i=iK) :
  Calls prog 25 #[rp r,.int .i64 line,.pointer (some ⟨xb,0,none⟩)] w (Dn r fin ws i t B xb x line w):=by
 obtain⟨first,nd⟩:=Y (aD ws i);rw[←nd]at hf;have an:(first.toList==[112,97,99,107,97,103,101])=true:=asi;refine zH ?_;intro nV hn cz km;have kQ:=dF S.box D;have Ie:xb≠r:=fun e=>by exact Xs
 refine VQ ?_;intro hP jL;have aa:∀W,am (fun k=>k=r) w W→gv W (aJ t w.heap.size 10) B xb vp vf x:=fun W hF=>aP.to hF (fun k _ hk=>Ba) (fun k hk _=>aR hk);have ab:∀k,k<w.heap.size→aJ t w.heap.size 10 k=t k:=fun k hk=>aR hk;refine WC ?_;intro D7;obtain⟨m,hm⟩:=Y x.pk.length;obtain⟨ra,rc,gI⟩:∃ra rc,vp=.slice ra m rc:=by obtain⟨bN,aY,-⟩:=aP.pk.open;rw[hm];exact bg aY
 subst gI;have R:=aH U;have LD:=aH nV;revert C S tr ta X hf nd kQ Ie hP jL ab hm aP aa D7;refine GB ?_;intro ad af Ei _ Eg Hf lV _ Z0 HP qg iT Hm HH pE oH;refine OK ?_;go_wp2_with fail;refine Ku ?_;intro q1 w1 ai;have fA:=af.o.to ai;refine Wa ?_;intro x1 x3 w2 eo BE Ac;have y:=fun(W:World)(k:Below w2.heap.size w2 W)=>Dp ad.o (BE.to k) Z (mQ Kc aA rfl) (ok:=eL) (fun s W hs _=>Nk s hs W);obtain⟨s,hs⟩:=Y (aD ws (i+1));unfold sE at y;simp only[←hs]at y;have z:=J (oH.o _ Ac) 0;simp only[aq,ar,aw]at z;revert ai fA BE Ac hs y;refine bX ?_;intro aB nX uW Ij Hs HT;go_upto_region 4 with (fail);rw[←eo];clear eo x1 x3;have u:=dA (aL w2.heap.size w2);have A:=HT.o _ u;have ag:w2.drew.cell? ⟨xb,0,none⟩=some (.slice ra m rc):=z;refine vH ?_;intro oU hHeld;have F:am (fun k=>k=r) w w2.drew:=am.drew Ij.o;generalize w2.drew=ao at u A F ag⊢;clear z;obtain⟨dI,Ea,pD⟩:=aQ u A F;clear u A F;refine Gr ?_;refine bB 5 ?_;refine bB 7 ?_;refine mr (rs:=[4,6]) aA ae ?_;refine dO rfl (fun K hK=>?_) (dO rfl (fun K hK=>?_) ij)
 ·revert K hK;refine gS ?_;intro hHeld;refine c_ 6 fun K hK=>?_;refine zJ ?_;rintro e w3 ⟨⟨rP,dz,rfl,de⟩|⟨aj,j,rfl⟩,bC⟩
  ·revert K hK bC rP dz de;refine ael ?_;intro iR qh ev cU iI Ml Cc Ca hHeld H3 bN aY E9 EU Af nQ bL;have L:(Value.slice ra m rc).ownBlock≠some r:=fun e=>by have e1:=Af r e;exact RV
   have hB:B≤w3.heap.size:=fu R.o iI.o.size;have al:m≤70000:=Vy;obtain⟨N,hN⟩:=Y bN.flatten;rw[←hN]at nQ;revert H3 aY E9 EU Af bL L nQ hN;refine fK ?_;intro adb bY Qq Qr EI cJ EF ql HN;exact anx
  exact afc
 refine zJ ?_;rintro e w3 ⟨⟨rP,dz,rfl,de⟩|⟨aj,j,rfl⟩,bC⟩
 ·revert K hK bC rP dz de;refine ael ?_;intro iR qh ev cU iI Ml Cc Ca hHeld H3 bN aY E9 EU Af nQ bL;have L:(Value.slice ra m rc).ownBlock≠some r:=fun e=>by have e1:=Af r e;exact RV
  have hB:B≤w3.heap.size:=fu R.o iI.o.size;have al:m≤70000:=Vy;obtain⟨N,hN⟩:=Y bN.flatten;rw[←hN]at nQ;revert H3 aY E9 EU Af bL L nQ hN;refine fK ?_;intro adb bY Qq Qr EI cJ EF ql HN;have q:=oH.o _ iI.o;have q:=J q 0;simp only[aq,ar,aw]at q;refine mr (rs:=[4,9]) aA ae ?_;refine dO rfl (fun K hK=>?_) (dO rfl (fun K hK=>?_) ij)
  ·revert K hK;refine gS ?_;intro hHeld;clear q;exact anx
  revert K hK;refine gS ?_;intro hHeld;clear q;have T:=J ((am.refl (fun _=>False) w3).alloc (.cells #[.string s,.int .i64 line,.slice none 0 0,.slice none 0 0,.slice none 0 0,.slice none 0 0,.slice none 0 0,.slice none 0 0] 45) |> fun h=>bI (oH.o _ iI.o) h (fun h=>h)) 0;simp only[aq,ar,aw]at T;refine Gu ?_;intro hHeld;clear T;exact aea
 exact afc
theorem yed{fin:Int}{ws:List Wd}{x:ch}{line:Int}(C:FS w0 r a n c fin ws)(S:na w0 r a n c fin i w)(_:i≤900)(_:i<n)
  (aP:gv w t B xb vp vf x) (tr:t r=10) (ta:∀p,a=some p→p.block≠r∧9<t p.block) (al:B≤w.heap.size) (an:x.pf.length≤70000) (hf:aD ws i=lI) :
  Calls prog 25 #[rp r,.int .i64 line,.pointer (some ⟨xb,0,none⟩)] w (Dn r fin ws i t B xb x line w):=by
 obtain⟨first,nd⟩:=Y (aD ws i);rw[←nd]at hf;have ax:(first.toList==[112,97,99,107,97,103,101])=false:=asi;have ay:(first.toList==[112,114,101,102,101,114])=true:=by rw[jb first [112,114,101,102,101,114] lI rfl,hf];decide
 refine zH ?_;intro nV hn cz km;have kQ:=dF S.box D;have Ie:xb≠r:=fun e=>by exact Xs
 refine VQ ?_;intro hP jL;have ao:∀W,am (fun k=>k=r) w W→gv W (aJ t w.heap.size 3) B xb vp vf x:=fun W hF=>aP.to hF (fun k _ hk=>Ba) (fun k hk _=>aR hk);have au:∀k,k<w.heap.size→aJ t w.heap.size 3 k=t k:=fun k hk=>aR hk;refine WC ?_;intro D7;obtain⟨m,hm⟩:=Y x.pf.length;obtain⟨ra,rc,gI⟩:∃ra rc,vf=.slice ra m rc:=by obtain⟨css,hr⟩:=aP.pf;rw[hm];exact bg hr.row
 subst gI;have mH:=aH al;have LD:=aH nV;revert C S tr ta an hf nd kQ Ie hP jL au hm aP ao D7;refine GB ?_;intro HC A Ei _ Eg Hf lV _ Z0 HP qg iT Hm HH pE oH;refine OK ?_;go_wp2_with fail;refine Ku ?_;intro q1 w1 ai;have fA:=A.o.to ai;refine Wa ?_;intro x1 x3 w2 eo BE Ac;have F:=fun(W:World)(k:Below w2.heap.size w2 W)=>Dp HC.o (BE.to k) Z (mQ Kc aA rfl) (ok:=eL) (fun s W hs _=>Nk s hs W);have af:=fun (W:World) (S:na w0 r a n c fin (i+1+1) W)=>zvz HC.o S Z (mQ Kc aA rfl) (ok:=eL) (fun s W hs _=>Nk s hs W);unfold Nb at af;obtain⟨s,hs⟩:=Y (aD ws (i+1));unfold sE at F;simp only[←hs]at F;have L:=J (oH.o _ Ac) 1;simp only[aq,ar,aw]at L;revert ai fA BE Ac af hs F;refine eb ?_;intro aB nX uW Ij Iy Hs HT;go_upto_region 7 with (fail);rw[←eo];clear eo x1 x3;have z:=dA (aL w2.heap.size w2);have R:=HT.o _ z;have av:w2.drew.cell? ⟨xb,1,none⟩=some (.slice ra m rc):=L;refine vH ?_;intro oU hHeld;have T:am (fun k=>k=r) w w2.drew:=am.drew Ij.o;generalize w2.drew=aC at z R T av⊢;clear L;obtain⟨dI,Ea,pD⟩:=aQ z R T;clear z R T;refine Gr ?_;refine bB 5 ?_;refine bB 7 ?_;refine bB 9 ?_;refine mr (rs:=[4,6]) aA ae ?_;refine dO rfl (fun K hK=>?_) (dO rfl (fun K hK=>?_) ij)
 ·revert K hK;refine gS ?_;intro hHeld;refine c_ 6 fun K hK=>?_;refine zJ ?_;rintro e w3 ⟨⟨U,X,rfl,q⟩|⟨aj,j,rfl⟩,bC⟩
  ·have u:am (fun k=>k=r) w w3:=pD.o.trans bC (fun _ _ h=>h);have y:na w0 r a n c fin (i+1+1) w3:=zc A.o km u q;have aa:=Iy.o _ y;revert bC U X q u y aa;refine eb ?_;intro iR qh ev cU iI cN Vp;revert K hK;refine j_ ?_;intro hHeld;exact aht
  exact aee
 refine zJ ?_;rintro e w3 ⟨⟨U,X,rfl,q⟩|⟨aj,j,rfl⟩,bC⟩
 ·have u:am (fun k=>k=r) w w3:=pD.o.trans bC (fun _ _ h=>h);have y:na w0 r a n c fin (i+1+1) w3:=zc A.o km u q;have aa:=Iy.o _ y;revert bC U X q u y aa;refine eb ?_;intro iR qh ev cU iI cN Vp;revert K hK;refine j_ ?_;intro hHeld;have ab:=J (oH.o _ iI.o) 1;simp only[aq,ar,aw]at ab;refine mr (rs:=[4,8]) aA ae ?_;refine dO rfl (fun K hK=>?_) (dO rfl (fun K hK=>?_) ij)
  ·revert K hK;refine gS ?_;intro hHeld;clear ab;exact aht
  clear ab;go_simp;refine Vp.o.mono ?_;rintro e w4 ⟨⟨vv,l,fp,rfl,dG,Cp⟩|⟨fp,j,rfl⟩,BQ⟩
  ·have tw:am (fun k=>k=r) w w4:=iI.o.trans BQ (fun _ _ h=>h);have Ly:=oH.o _ tw;obtain⟨la,lc,rfl⟩:=bg dG;obtain⟨ln,dH⟩:=Y l.length;rw[←dH]at dG⊢;have xY:=(Q0 fp).symm;have Pe:∀x∈l,x.size≤maxLen:=fun x hx=>by exact ahx
   revert K hK BQ fp Cp tw Ly dG dH xY Pe;refine afj ?_;intro QG mG Cn sg LR cZ iH UF Ew Cc Ca hHeld H4 css hr nQ bL;have Lz:(Value.slice ra m rc).ownBlock≠some r:=fun e=>by have e1:=hr.tag r e;exact RV
   revert H4 hr nQ bL Lz;refine aga ?_;intro hB iJ N Qp Hr cJ EF ql HN iz;have ad:=J (oH.o _ sg.o) 1;simp only[aq,ar,aw]at ad;refine mr (rs:=[4,11]) aA ae ?_;refine dO rfl (fun K hK=>?_) (dO rfl (fun K hK=>?_) ij)
   ·revert K hK;refine gS ?_;intro hHeld;clear ad;refine KK ?_;intro hHeld;exact VH
   revert K hK;refine gS ?_;intro hHeld;clear ad;have ag:=J ((am.refl (fun _=>False) w4).alloc (.cells #[.string s,.slice la ln lc,.int .i64 line] 47) |> fun h=>bI (oH.o _ sg.o) h (fun h=>h)) 1;simp only[aq,ar,aw]at ag;refine Gu ?_;intro hHeld;clear ag;exact VH
  exact aez
 exact aee
theorem yeb{fin:Int}{ws:List Wd}{x:ch}{line:Int}(C:FS w0 r a n c fin ws)(S:na w0 r a n c fin i w)(_:i≤900)(_:i<n)
  (aP:gv w t B xb vp vf x) (tr:t r=10) (ta:∀p,a=some p→p.block≠r∧9<t p.block) (aa:B≤w.heap.size) {ps:List ap} {p:ap} (y:x.pk=ps++[p]) (hp:z9 p) (ao:ps.length≤70000) (pZ:xo (aD ws i)=true) :
  Calls prog 25 #[rp r,.int .i64 line,.pointer (some ⟨xb,0,none⟩)] w (Dn r fin ws i t B xb x line w):=by
 obtain⟨first,nd⟩:=Y (aD ws i);rw[←nd]at pZ;have sh:first≠iK:=fun e=>asj
 have kO:first≠lI:=fun e=>asj
 have aU:(first.toList==[112,97,99,107,97,103,101])=false:=asl;have aV:(first.toList==[112,114,101,102,101,114])=false:=asm;refine zH ?_;intro nV hn cz km;have kQ:=dF S.box D;have Ie:xb≠r:=fun e=>by exact Xs
 refine VQ ?_;intro hP jL;have ab:∀W,am (fun k=>k=r) w W→gv W (aJ t w.heap.size 10) B xb vp vf x:=fun W hF=>aP.to hF (fun k _ hk=>Ba) (fun k hk _=>aR hk);have ad:∀k,k<w.heap.size→aJ t w.heap.size 10 k=t k:=fun k hk=>aR hk;refine WC ?_;intro D7;obtain⟨m,hm⟩:=Y ps.length;obtain⟨n2,cS⟩:=Y (ps.length+1)
 obtain⟨pb,rc,au⟩:∃pb rc,vp=.slice (some ⟨pb,0,none⟩) (ps.length+1) rc:=by
  rcases aP.pk with⟨h1,_⟩|⟨av,ax,bN,v2,v3,v4,v5,v6,v7,h1,L⟩
  ·rw[y]at h1;simp at h1
  rw[y]at h1;have R:=Qb h1 rfl;subst R;obtain⟨g,af,T,_⟩:=AH L.row Z;exact⟨g,af,T⟩
 subst au
 have ay:ps.length+1≤rc:=by
  rcases aP.pk with⟨h1,_⟩|⟨av,ax,bN,v2,v3,v4,v5,v6,v7,h1,L⟩
  ·rw[y]at h1;simp at h1
  rw[y]at h1;have R:=Qb h1 rfl;subst R;obtain⟨g,af,T,_,_⟩:=AH L.row Z;cases T;omega
 have A:=fun (W:World) (hF:am (fun k=>k=r) w W) (hS:na w0 r a n c fin (i+1) W)=>rest_any (line:=line) C hS Z (ab W hF) y ((ad r nV).trans tr) (fu aa hF.size) hp ao pZ;unfold zt at A;simp only[←cS]at A D7 ay;simp only[←hm]at A;have ag:((n2:Int)-1)=((m:Nat):Int):=Z;have k2:(0:Int)≤((m:Nat):Int):=Z;have k3:((m:Nat):Int)<(n2:Int):=Z;have aC:(0:Int)<(n2:Int):=Z;have ah:=zr5 first
 rw[pZ]at ah;have aX:=aH aa;have aY:=aH nV;revert C S tr ta y hp pZ nd sh kO kQ Ie hP jL ad hm cS aP ab D7 A ah;refine Sb ?_;intro _ aE _ _ Hx _ _ lV GV Zv _ _ HP qg iT aF _ _ _ aj aG aI;refine OK ?_;go_wp2_with fail;refine Ku ?_;intro q1 w1 ai;have fA:=aE.o.to ai;have aK:=aI.o w1;refine Wa ?_;intro x1 x3 w2 eo BE Ac;have al:=J (aj.o _ (kS (am.refl _ _) ai)) 0;have z:=J (aj.o _ Ac) 0;simp only[aq,ar,aw]at z al;revert ai fA aK BE Ac;refine bU ?_;intro aB nX ER uW Ij;go_wp2_with fail;refine ER.o.mono ?_;rintro e acy ⟨rfl,oe⟩;subst oe;go_upto_region 9 with (fail);have aM:=aH ag;have K2:=aH k2;have K3:=aH k3;have an:=aH (show IntKind.i64.wrap ((n2:Int)-1)=((m:Nat):Int) by rw[aM.o];have:=aF.o;exact i_ _ Z);have aS:=aH z;clear ag k2 k3 aC al z;go_upto_region 10 with (fail);have z:=aS.o;rw[←eo];clear eo x1 x3;have F:=dA (aL w2.heap.size w2);have aT:w2.drew.cell? ⟨xb,0,none⟩=some (.slice (some ⟨pb,0,none⟩) n2 rc):=z;refine vH ?_;intro oU hHeld;have N:am (fun k=>k=r) w w2.drew:=am.drew Ij.o;have U:=aG.o _ N (uW.o.to F);generalize w2.drew=aZ at F N aT U⊢;clear z;obtain⟨dI,pD,fY⟩:=aQ F N U;clear F N U;refine Gr ?_;refine bB 4 ?_;refine bB 5 ?_;refine bB 7 ?_;refine KV ?_;refine mr (rs:=[6,10]) aA ae ?_;refine dO rfl (fun K hK=>?_) (dO rfl (fun K hK=>?_) ij)
 ·revert K hK;refine gS ?_;intro hHeld;refine c_ 10 fun K hK=>?_;revert K hK;refine gS ?_;intro hHeld;refine bB 11 ?_;have X:=an.o;refine bB 12 ?_;clear X;exact ahn
 revert K hK;refine gS ?_;intro hHeld;refine bB 11 ?_;have X:=an.o;refine bB 12 ?_;clear X;refine c_ 6 fun K hK=>?_;revert K hK;refine gS ?_;intro hHeld;exact ahn
theorem ydd{f:ByteArray}{n:Int}{p:ap}(h:xo f=false):dw f n p l=none:=by
 unfold xo at h;simp only[MK,pQ]at h;obtain⟨⟨⟨⟨⟨h1,a⟩,b⟩,c⟩,d⟩,e⟩:=h;unfold dw;rw[E h1,E a,E b,E c,E d,E e]
theorem zw4{fin:Int}{ws:List Wd}{x:ch}{line:Int}(C:FS w0 r a n c fin ws)(S:na w0 r a n c fin i w)(_:i≤900)(_:i<n)
  (aP:gv w t B xb vp vf x) (K:t r=10) (N:∀p,a=some p→p.block≠r∧9<t p.block) (_:B≤w.heap.size) (sh:aD ws i≠iK) (kO:aD ws i≠lI) (R:xo (aD ws i)=false∨x.pk=[]) :
  Calls prog 25 #[rp r,.int .i64 line,.pointer (some ⟨xb,0,none⟩)] w (Dn r fin ws i t B xb x line w):=by
 obtain⟨first,s⟩:=Y (aD ws i);rw[←s]at sh kO R;have ay:(first.toList==[112,97,99,107,97,103,101])=false:=asl;have aA:(first.toList==[112,114,101,102,101,114])=false:=asm;refine zH ?_;intro nV hn cz km;have T:=dF S.box D;have y:=C.peek S;simp only[←s]at y
 have U:dy line (az ws i) x=none:=by
  rw[fy Z,←s];rcases A8 x.pk with e|⟨aa,p,e⟩
  ·exact zmu sh kO e
  rw[A9]at e;rw[Ip sh kO e,ydd (R.resolve_right (by rw[e];simp))];rfl
 have X:=fun(W:World)(k:Below w.heap.size w W)=>zuw (S.to k).box (C.wds (S.to k));have z:=J aP.box 0;simp only[aq,ar,aw]at z;have A:=zr5 first
 have v:xo first=true→vp=.slice none 0 0:=fun e=>by
  rcases R with h|h
  ·rw[e]at h;cases h
  rcases aP.pk with⟨_,ad⟩|⟨aa,p,bN,v2,v3,v4,v5,v6,v7,h1,L⟩
  ·exact ad
  rw[h]at h1;simp at h1
 obtain⟨ae,F⟩:=Y (xo first);rw[←F]at A v;clear R
 cases ae with
 |true=>
  obtain rfl:=v rfl;obtain⟨af,ag,ah,aj,ak,al,HP,an,ao,au,HB,av,U4,iQ,ax⟩:=xI C S aP sh kO s y T K N A F X U v;clear C S aP sh kO s y T K N A F X U v;refine OK ?_;go_wp2_with fail;refine qJ ?_;rintro e w1 ⟨rfl,q1,rfl⟩;have ai:=dU (aL w.heap.size w) q1;have z:=ab ai z;generalize w.drewN q1=w1 at ai z⊢;exact afa
 |false=>
  obtain⟨af,ag,ah,aj,ak,al,HP,an,ao,au,HB,av,U4,iQ,ax⟩:=xI C S aP sh kO s y T K N A F X U v;clear C S aP sh kO s y T K N A F X U v;clear z;refine OK ?_;go_wp2_with fail;refine Ku ?_;intro q1 w1 ai;exact afa
end
section
open Lib av cy
open ac (Wd Ln)
def FewK(k:Nat)(p:ap):Prop:=p.rel.length≤k∧p.vars.length≤k∧p.cl.length≤k∧p.gr.length≤k∧p.ci.length≤k∧p.files.length≤k
def xu(k:Nat)(x:ch):Prop:=x.pk.length≤k∧x.pf.length≤k∧∀p∈x.pk,FewK k p
theorem FewK.mono{p:ap}(h:FewK k p)(_:k≤m):FewK m p:=by
 obtain⟨h1,_,_,_,_,_⟩:=h;exact⟨Z,Z,Z,Z,Z,Z⟩
theorem FewK.few{p:ap}(h:FewK k p)(a:k≤70000):z9 p:=h.mono a
theorem P5{α β:Type}{o:Option α}{f:α→β}{y:β}(h:o.map f=some y):∃x,o=some x∧f x=y:=by
 cases o with
 |none=>cases h
 |some x=>exact⟨x,rfl,nt h⟩
theorem restL_few{f:ByteArray}{n:Int}{p q:ap}(a:FewK k p)(h:dw f n p l=some q):FewK (k+1) q:=by
 obtain⟨h1,_,_,_,_,_⟩:=a;unfold dw at h;have fin:∀q:ap,(q.rel.length≤k+1∧q.vars.length≤k+1∧q.cl.length≤k+1∧q.gr.length≤k+1∧q.ci.length≤k+1∧q.files.length≤k+1)→FewK (k+1) q:=fun _ h=>h;split at h
 ·exact Kw
 split at h
 ·exact Kw
 split at h
 ·exact Kw
 split at h
 ·exact Kw
 split at h
 ·exact Kw
 split at h
 ·exact Kw
 cases h
theorem zqf{n:Int}{x y:ch}(d:xu k x)(h:dy n l x=some y):xu (k+1) y:=by
 obtain⟨h1,_,c⟩:=d
 cases l with
 |nil=>cases h
 |cons f r=>
  refine agc ?_;intro e;rw[e]at h;split at h
  ·obtain⟨s,-,rfl⟩:=P5 h;refine⟨aX,by show x.pf.length≤_;omega,fun p a=>?_⟩;rcases ff.1 a with a|a
   ·exact (c p a).mono Z
   rw[gd.1 a];refine⟨?_,?_,?_,?_,?_,?_⟩<;>exact bj _
  split at h
  ·obtain⟨s,-,rfl⟩:=P5 h;exact⟨by show x.pk.length≤_;omega,aX,fun p a=>(c p a).mono Z⟩
  split at h
  ·cases h
  rename_i p a
  obtain⟨q,g,rfl⟩:=P5 h;have i:p∈x.pk:=List.mem_of_getLast? a;refine⟨aX,by show x.pf.length≤_;omega,fun u b=>?_⟩;rcases ff.1 b with b|b
  ·exact (c u ((List.dropLast_sublist x.pk).subset b)).mono Z
  rw[gd.1 b];exact restL_few (c p i) g
theorem zv5:xu 0 ⟨[],[]⟩:=⟨aE _,aE _,fun p a=>by simp at a⟩
theorem goL_eq{l:Ln}{r:List Ln}{x:ch}:goL (l::r) x=(dy l.1 (l.2.map NE) x).bind fun y=>goL r y:=rfl
theorem goL_on{l:Ln}{r:List Ln}{x y:ch}(h:dy l.1 (l.2.map NE) x=some y):goL (l::r) x=goL r y:=by rw[goL_eq,h];rfl
theorem goL_off{l:Ln}{r:List Ln}{x:ch}(h:dy l.1 (l.2.map NE) x=none):goL (l::r) x=none:=by rw[goL_eq,h];rfl
end
section
open Shelf RowKit Lib av cy
open ac (Wd)
theorem zzj{fin:Int}{ws:List Wd}{x:ch}{line:Int}(C:FS w0 r a n c fin ws)(S:na w0 r a n c fin i w)(d:i≤900)(e:i<n)
  (aP:gv w t B xb vp vf x) (f:t r=10) (g:∀p,a=some p→p.block≠r∧9<t p.block) (j:B≤w.heap.size) {k:Nat} (hx:xu k x) (m:k≤70000) :
  Calls prog 25 #[rp r,.int .i64 line,.pointer (some ⟨xb,0,none⟩)] w (Dn r fin ws i t B xb x line w):=by
 by_cases h1:aD ws i=iK
 ·exact yec C S d e aP f g j UM h1
 by_cases l:aD ws i=lI
 ·exact yed C S d e aP f g j avv l
 rcases A8 x.pk with b|⟨_,p,b⟩
 ·exact zw4 C S d e aP f g j h1 l (.inr b)
 rw[A9]at b
 cases h4:xo (aD ws i) with
 |false=>exact zw4 C S d e aP f g j h1 l (.inl h4)
 |true=>refine yeb C S d e aP f g j b ((hx.2.2 p (by rw[b];simp)).few m) ?_ h4;have:=hx.1;rw[b]at this;simp at this;omega
end
section
open Shelf RowKit Lib av cy
open ac (Wd Ln jT)
attribute [local go_sem ↓] wp_at_zero wp_at_succ
theorem yee{fin:Int}{ws:List Wd}{rv m:Nat}{x:ch}{line:Int}(C:FS w0 r a n c fin ws)(S:na w0 r a n c fin 0 w)(v:0<n)
  (aP:gv w t B xb vp vf x) (q:t r=10) (s:∀p,a=some p→p.block≠r∧9<t p.block) (z:B≤w.heap.size) {k:Nat} (u:xu k x) (A:k≤70000)
  (_:w.cell? ⟨rv,0,none⟩=some (rp r)) (c1:w.cell? ⟨m,0,none⟩=some (.int .i64 line)) :
  Calls prog 24 #[.pointer (some ⟨rv,0,none⟩),.pointer (some ⟨m,0,none⟩),.pointer (some ⟨xb,0,none⟩)] w (Dn r fin ws 0 t B xb x line w):=by
 have F:=zzj (line:=line) C S Z v aP q s z u A;revert C S aP q s u F;refine eb ?_;intro _ _ _ _ _ _ K;go_enter func24,ntmps24;go_wp2_with fail;refine K.o.mono ?_;rintro e w1 ⟨⟨y,t',vp',vf',rfl,h1,h2,h3⟩|⟨h1,j,rfl⟩,hF⟩
 ·revert hF h1 h2 h3;refine bV ?_;intro i l L N;go_wp2_with fail;go_end0
  exact⟨.inl ⟨y,t',vp',vf',rfl,l.o,L.o,N.o⟩,i.o⟩
 obtain⟨l,i⟩:=ak h1 hF;clear h1 hF;refine cK ?_;exact⟨rfl,.inr ⟨l.o,j,rfl⟩,i.o⟩
abbrev RcBox(k:Nat)(u v:Value)(W:World):Prop:=W.heap[k]?=some (.cells #[u,v] 25 (0,0))
theorem zon(h:RcBox k u v W):W.cell? ⟨k,0,none⟩=some u∧W.cell? ⟨k,1,none⟩=some v∧W.frozen? ⟨k,0,none⟩=false∧W.frozen? ⟨k,1,none⟩=false:=⟨J h 0,J h 1,aG h 0,aG h 1⟩
def NP(w:World)(o:Option ch)(e:Ending)(w':World):Prop:=∃a1 n1 c1 a2 n2 c2 x1 x2 er,e=.returned (.tuple #[.agg #[.slice a1 n1 c1,.slice a2 n2 c2],.agg #[.int .i64 x1,.int .i64 x2],.int .i64 er])∧((∃x,o=some x∧er=0∧mg w' (.slice a1 n1 c1) (.slice a2 n2 c2) x)∨(o=none∧er≠0))∧Below w.heap.size w w'
structure PcSt(w:World)(t:Nat→Nat)(vp vf:Value)(x:ch)(W:World):Prop where
 st:gv W t w.heap.size w.heap.size vp vf x
 low:∀k,k<w.heap.size→t k=10
 bm:Below w.heap.size w W
theorem pf_shape{x:ch}(h:gv W t B xb vp vf x):∃a1 c1 a2 c2,vp=.slice a1 x.pk.length c1∧vf=.slice a2 x.pf.length c2:=by
 obtain⟨h1,a⟩:=h.reads;obtain⟨a1,c1,e1⟩:=rE h1;obtain⟨a2,c2,e2⟩:=rE a;exact⟨a1,c1,a2,c2,e1,e2⟩
def PcA(r:Nat)(ws:List Wd)(t:Nat→Nat)(B xb:Nat)(x:ch)(line:Int)(w W:World):Prop:=∃y t' vp vf,dy line (az ws 0) x=some y∧gv W t' B xb vp vf y∧(∀k,k<w.heap.size→9<t k→t' k=t k)∧am (fun k=>k=r∨t k≤9) w W
def PcB(r:Nat)(ws:List Wd)(t:Nat→Nat)(x:ch)(line:Int)(w:World)(c:Int)(W:World):Prop:=dy line (az ws 0) x=none∧c≠0∧am (fun k=>k=r∨t k≤9) w W
theorem zl3(t:ByteArray)(_:t.size≤140737488351232)(cd:dN w):Calls prog 10 #[.string t] w (NP w (mI t.data.toList)):=by
 have gJ:=ac.aat t.data.toList;have hL:=fun(W:World)=>znz t Z W;rw[ac.IH]at hL;revert gJ hL;refine aoq ?_;intro R gJ hL hR C6 fT;refine lM ?_;intro g hg;obtain⟨W1,aK⟩:=Y ((w.alloc (.cells #[.slice none 0 0,.slice none 0 0] 25)).alloc (.cells #[.int .i64 0,.int .i64 0] 31));have cf:Below w.heap.size w W1:=LF;have cg:RcBox g (.slice none 0 0) (.slice none 0 0) W1:=yz;have ck:WhBox (g+1) 0 0 W1:=yq;have cY:W1.heap.size=g+2:=P0;refine ur ?_;intro bZ;have bg:=hL W1;unfold Nw at bg;obtain⟨a1,ha1⟩:=Y R.at1;obtain⟨a2,ha2⟩:=Y R.at2;obtain⟨er,qj⟩:=Y R.e;obtain⟨ls,tP⟩:=Y R.lines;rw[←qj,←tP]at C6;rw[←ha1,←ha2,←qj,←tP]at bg;rw[←tP]at gJ;clear hL;revert cd hR fT cf cg ck ha1 ha2 qj gJ bg C6 tP;refine zN ?_;intro HD HR im aB dR fG Ha1 QK ayo bh iW QQ Hls;go_enter func10,ntmps10;go_upto_region 1 with (fail);refine iE ?_;clear aK hg;go_wp2_with fail;refine akl ?_;intro w2 af ad cp n dH hn;obtain⟨w3,ea⟩:=Y (w2.alloc (.cells #[.int .i64 a1,.int .i64 a2] 31));have aE:Below w2.heap.size w2 w3:=Oh;have X:=af.trans (aE.mono af.size);have bN:=aB.o.trans (X.mono aB.o.size);have cZ:g+2≤w2.heap.size:=by have:=af.size;omega
 have bk:WhBox w2.heap.size a1 a2 w3:=by rw[ea];exact dq _ _
 have bl:=G X dR.o;have bn:=G X fG.o;have bO:=zmg _ _ _ _ dH aE;have cl:w3.heap.size=w2.heap.size+1:=by rw[ea];simp
 obtain⟨x0,x1,_,_⟩:=zog bk;obtain⟨_,_,f0,bo⟩:=zon bl;obtain⟨_,_,f1,f2⟩:=zog bn;by_cases he:er=0
 ·refine apt ?_;intro k1 hq q eF w4 eM
  have cm:PcSt w3 (fun k=>if k=w3.heap.size then 0 else 10) (.slice none 0 0) (.slice none 0 0) ⟨[],[]⟩ w4 :=
   ⟨gv.nil (by rw[eM];exact dq _ _) (M rfl),fun k aa=>E Z,My⟩
  have c6:n≤70001:=by have:=bh.o.2;omega
  clear x0 x1 f0 bo f1 f2;revert af dH hn aE X bN bk bl bn bO cl he hq cm;refine Sa ?_;intro cn cq Hn cr ct N cv aF aG bP Mr _ bp cw;go_upto_region 2 with (fail);rw[←ea];clear ea;go_upto_region 5 with (fail);rw[←eM,←eF];clear eM;have aL:=aH eF;clear eF;go_wp2_with fail;go_loopw [27] (fun v wr=>∃(k:Nat)(t1:Nat→Nat)(vp vf:Value)(x:ch),k≤n∧v=.int .i64 k∧PcSt w3 t1 vp vf x wr∧xu k x∧mI t.data.toList=goL (ls.drop k) x) (fun v _=>n-(RowKit.intOf v).toNat)
  case atStart=>exact⟨0,_,_,_,_,bj _,rfl,cw.o,zv5,by rw[Sr];exact bp.o⟩
  case round=>
   obtain⟨r,bQ⟩:=Y wr;rw[←bQ]at hrel⊢;clear bQ wr;obtain⟨k,t1,vp,vf,x,aa,rfl,hI,hsm,DW⟩:=hrel;have c7:q<r.heap.size:=by have:=(bS.1 hI.st.box).1;rw[aL.o];exact this
   by_cases aM:k<n
   ·have aI:k<ls.length:=gl;obtain⟨l,hl⟩:=Y (ls[k]);obtain⟨-,-,aU⟩:=lns_at bP.o;obtain⟨b,off,Fv,n2,c2,rfl,c0,c1,hwd⟩:=aU k l aso;clear aU;have d0:=ab hI.bm c0;have d1:=ab hI.bm c1;obtain⟨ln,CU⟩:=Y l.1;rw[←CU]at d0;have cx:jT 70000 l:=bh.o.1 l (by rw[hl];exact eZ aI);have bq:ls.drop k=l::ls.drop (k+1):=asp;rw[bq]at DW;obtain⟨oG,ai,my,gJ⟩:=cx;obtain⟨ws,dT⟩:=Y l.2;rw[←dT]at hwd ai my gJ;obtain⟨cS,cc,EO⟩:=pF hwd;have bT:0<n2:=by rw[cS];exact vk.2 ai
    obtain⟨y,aO,-⟩:=zmw cS bT;obtain⟨b2,nY,rfl,d2,d3,-⟩:=EO (n2-1) y aO;clear EO;have cy:b2<w3.heap.size:=wH w3 _ d2;have aj:=gJ y (uQ aO);obtain⟨yc,P7⟩:=Y y.1;obtain⟨yt,Qn⟩:∃z:ByteArray,z=⟨y.2.toArray⟩:=⟨_,rfl⟩;have c8:1≤yc∧yc≤70000:=by rw[P7];exact⟨aj.1,aj.2.1⟩
    have da:yt.size≤70000:=by rw[Qn];show y.2.toArray.size≤_;rw[Ad];exact aj.2.2.2
    rw[←P7]at d2;rw[←Qn]at d3;obtain⟨m,br⟩:=Y (n2-1);rw[←br]at d2 d3;have aP:IntKind.i64.wrap ((n2:Int)-1)=((m:Nat):Int):=by rw[show ((n2:Int)-1)=((m:Nat):Int) from Z];exact i_ _ Z
    have aQ:(0:Int)≤((m:Nat):Int):=Z;have aT:((m:Nat):Int)<(n2:Int):=Z;have db:n2≤c2:=by obtain⟨_,_,hv,_,_⟩:=hwd;simp only[nj,lv,rL]at hv;omega
    obtain⟨lb,ak⟩:=Y r.heap.size;obtain⟨w5,eT⟩:=Y (r.alloc (.cells #[.int .i64 ln,.slice (some ⟨b2,nY,none⟩) n2 c2] 79));have al:Below r.heap.size r w5:=Mx;have aV:w5.heap.size=lb+1:=by rw[eT,ak];simp
    have an:w5.heap[lb]?=some (.cells #[.int .i64 ln,.slice (some ⟨b2,nY,none⟩) n2 c2] 79 (0,0)):=by rw[eT,ak];exact dq _ _
    have aW:=hI.bm.trans (al.mono hI.bm.size);have bU:=J an 0;have bV:=J an 1;simp only[aq,ar,aw]at bU bV;have d4:=ab aW d2;have d5:=ab aW d3;obtain⟨w6,ao⟩:=Y (w5.alloc (.cells #[.int .i64 yc,.string yt] 81));have av:Below w5.heap.size w5 w6:=by rw[ao];exact aS _ _
    have ax:w6.heap.size=lb+2:=by rw[ao];simp[aV]
    have aX:w6.heap[lb+1]?=some (.cells #[.int .i64 yc,.string yt] 81 (0,0)):=by rw[ao,←aV];exact dq _ _
    have ay:=G av an;have F:=J ay 0;have K:=J ay 1;have bW:=J aX 0;have bX:=J aX 1;simp only[aq,ar,aw]at F K bW bX;obtain⟨fin,bs⟩:∃z:Int,z=yc+(yt.size:Int):=⟨_,rfl⟩;obtain⟨w7,gL⟩:=Y ((w6.alloc (.cells #[.slice (some ⟨b2,nY,none⟩) n2 c2,.int .i64 0,.int .i64 fin] 84)).alloc (.cells #[rp (lb+2)] 82));have aC:Below w6.heap.size w6 w7:=by rw[gL];exact (aS _ _).alloc ae _
    have bt:w7.heap.size=lb+4:=by rw[gL];simp[ax]
    have bw:l7 (lb+2) (.slice (some ⟨b2,nY,none⟩) n2 c2) 0 fin w7:=by rw[gL,←ax];exact G (aS _ _) (dx rfl)
    have cz:=bs;have bx:w7.heap[lb+3]?=some (.cells #[rp (lb+2)] 82 (0,0)):=by rw[gL];exact dx (by simp[ax])
    obtain⟨w8,ju⟩:=Y (w7.alloc (.cells #[.int .i64 0] 3));have T:Below w7.heap.size w7 w8:=Yj;have aY:Below r.heap.size r w8:=((al.trans (av.mono Z)).trans (aC.mono Z)).trans (T.mono Z);have aZ:=hI.bm.trans (aY.mono hI.bm.size);have bY:Below w3.heap.size w3 w7:=hI.bm.trans (((al.trans (av.mono Z)).trans (aC.mono Z)).mono hI.bm.size);have bz:=G T (G aC ay);have bA:l7 (lb+2) (.slice (some ⟨b2,nY,none⟩) n2 c2) 0 fin w8:=G T bw;have bB:=G T bx;have a6:w8.heap[w7.heap.size]?=some (.cells #[.int .i64 0] 3 (0,0)):=by rw[ju];exact dq _ _
    have bC:gv w8 (aJ t1 r.heap.size 10) w3.heap.size w3.heap.size vp vf x:=hI.st.to (am.ce (S:=fun _=>False) aY) (fun _ _ h=>h.elim) (fun k aa _=>aR aa);have b0:=hI.bm.size;have C:FS w3 (lb+2) (some ⟨b2,nY,none⟩) n2 c2 fin ws:=⟨hwd,HD.o.below N.o,Z,Z,fun z s=>(gJ z s).2.2.2⟩;have S:na w3 (lb+2) (some ⟨b2,nY,none⟩) n2 c2 fin 0 w8:=⟨bA,aZ⟩;have a7:=J bB 0;have a8:=J bz 0;simp only[aq,ar,aw]at a7 a8;have bD:∀k,k<w3.heap.size→aJ t1 r.heap.size 10 k=10:=fun k aa=>by rw[aR Z,hI.low k aa]
    have bE:=yee (line:=ln) C S bT bC (pL Z) (fun p cA=>by cases cA;exact⟨by show b2≠lb+2;omega,by show 9<aJ t1 r.heap.size 10 b2;rw[bD b2 cy];omega⟩) aZ.size hsm Z a7 a8;have bF:∀j,cO ws fin j≠0:=fun j=>by exact Rs
    have bG:=zsm (mQ func24 aA rfl) (w:=w7) (caps:=#[.pointer (some ⟨lb+3,0,none⟩),.pointer (some ⟨lb,0,none⟩),.pointer (some ⟨w3.heap.size,0,none⟩)])
     (A:=PcA (lb+2) ws (aJ t1 r.heap.size 10) w3.heap.size w3.heap.size x ln w8) (B:=PcB (lb+2) ws (aJ t1 r.heap.size 10) x ln w8) (by
      rw[←ju];refine bE.mono ?_;rintro e w9 ⟨⟨y',t',cB,cC,rfl,k1,cD,cE⟩|⟨k1,j,rfl⟩,hF⟩
      ·exact⟨.inl ⟨rfl,y',t',cB,cC,k1,cD,cE,hF⟩,bI a6 hF (fun h=>by
        rcases h with h|h
        ·omega
        rw[pL Z]at h;omega)⟩
      exact⟨.inr ⟨_,rfl,k1,bF j,hF⟩,bI a6 hF (fun h=>by
       rcases h with h|h
       ·omega
       rw[pL Z]at h;omega)⟩)
    rw[←aL.o]at bG;have b1:dy l.1 (l.2.map NE) x=dy ln (az ws 0) x:=by rw[CU,dT];rfl
    have b3:lb+4=w7.heap.size:=bt.symm;have cF:=aH aP;have cG:=aH aQ;have cH:=aH aT;have dc:g+2<lb:=Yk;have cI:=aH bs;clear aP aQ aT c0 c1 cz bs;obtain⟨ba,b4,bb,_,_,_,_,_,bh,_,_,_,_,_,_,_⟩:=ke hI hsm DW hl CU oG ai my gJ bq dT hwd cS cc aO aj;obtain⟨Hyc,Hyt,Hm,cQ,Q4,yD,aDh,je,Hs6,ada,Hp10a,kM,Hs7,EH,Hp13,si⟩:=ke P7 Qn br al aV an aW av ax aX ay aC bt bw bx T;obtain⟨Hbo8,Hb38,aDz,Hq10,Hq12,Hq13,Hq14,wE,HC,HS,HC,fM,HK,Hwtx,Htn,Hw8⟩:=ke aY aZ bY bz bA bB a6 bC C S bE bF bG b1 bD ju;obtain⟨Jb,Fh,He13,He10⟩:=kg b0 b3 a7 a8;clear hI hsm DW hl CU oG ai my gJ bq dT hwd cS cc aO aj P7 Qn br al aV an aW av ax aX ay aC bt bw bx T aY aZ bY bz bA bB a6 bC C S bE bF bG b1 bD ju b0 b3 a7 a8;clear d2 d3;have dd:(0:Int)≤(k:Int):=Z;have de:(k:Int)<(n:Int):=Z;go_upto_region 8 with (fail);rw[←eT,←ak];have E_:=aH ak;clear eT d0 d1 ak;have aP:=cF.out;have aQ:=cG.out;have aT:=cH.out;go_upto_region 9 with (fail);rw[←ao];clear ao aP aQ aT bU bV d4 d5;rw[Q4.o];go_upto_region 10 with (fail);rw[Hs6.o,←cI.o,←gL,show lb+2+1=lb+3 from rfl];clear gL F K bW bX;go_wp2_with fail;refine HK.o.mono ?_;rintro e w9 (⟨w1,hA,rfl,rfl⟩|⟨c,w1,hB,rfl,rfl⟩)
    ·obtain⟨y2,t2,b5,b6,bH,aD,bJ,hF⟩:=hA;rw[aL.o]at aD;have cJ:t2 w7.heap.size=10:=by have e:aJ t1 r.heap.size 10 w7.heap.size=10:=pL S6;rw[bJ _ (bS.1 Hq14.o).1 S7,e]
     have bc:=bI Hq14.o hF (fun h=>by
      rcases h with h|h
      ·have:=Fh.o;have:=E_.o;omega
      rw[pL S6]at h;omega)
     obtain⟨w9,L⟩:=Y (w1.setCell ⟨w7.heap.size,0,none⟩ (.int .i64 0));have bK:am (fun k=>k=w7.heap.size) w1 w9:=by rw[L];exact aN (am.refl _ _) 0 _
     have cK:gv w9 t2 w3.heap.size w3.heap.size b5 b6 y2:=aD.to bK (fun z _ e=>by subst e;exact⟨Z,dF bc D⟩) (fun _ _ _=>rfl);have cL:∀z,z<w3.heap.size→t2 z=10:=fun z s=>by have e:=Htn.o z s;rw[bJ z (jq s Hb38.o.size) S7,e]
     have b7:am (fun z=>(z=lb+2∨aJ t1 r.heap.size 10 z≤9)∨z=w7.heap.size) w8 w9:=(hF.mono fun _ _ h=>.inl h).trans bK fun _ _ h=>.inr h
     have U:Below w3.heap.size w3 w9:=Hb38.o.trans (b7.below Hb38.o.size (by
      intro z s;apply Sy;intro aM;have e:=Htn.o z aM;have:=Fh.o;have:=E_.o;have:=Jb.o;rcases s with (s|s)|s<;>omega))
     rw[←L];clear L;revert bH aD bJ hF cJ bc bK cK cL b7 U;refine kH ?_;intro bd _ _ cM _ cN _ cP cR _ b8;go_wp2_with fail;go_roundw
     case rel=>exact⟨k+1,t2,b5,b6,y2,Z,cj,⟨cP.o,cR.o,b8.o⟩,zqf b4.o bd.o,by rw[bb.o,goL_on (Hwtx.o.trans bd.o)]⟩
     case measure=>exact gT
    obtain⟨bH,b9,hF⟩:=hB
    have bc:=bI Hq14.o hF (fun h=>by
     rcases h with h|h
     ·have:=Fh.o;have:=E_.o;omega
     rw[pL S6]at h;omega)
    have ca:=bI Hq10.o hF (fun h=>by
     rcases h with h|h
     ·omega
     rw[pL (by have:=E_.o;omega)]at h;omega)
    have bL:Below w3.heap.size w3 w1:=Hb38.o.trans (hF.below Hb38.o.size (by
     intro z s;apply Sy;intro aM;have e:=Htn.o z aM;have:=Jb.o;have:=E_.o;rcases s with s|s<;>omega))
    obtain⟨w9,L⟩:=Y ((w1.alloc (.cells #[.int .i64 c] 120)).setCell ⟨w7.heap.size,0,none⟩ (.int .i64 c))
    have U:Below w3.heap.size w3 w9:=by
     rw[L];refine (bL.alloc bL.size _).setCell ?_ _;show w3.heap.size≤w7.heap.size;have:=Fh.o;have:=E_.o;have:=Jb.o;omega
    have cb:w9.heap[lb]?=some (.cells #[.int .i64 ln,.slice (some ⟨b2,nY,none⟩) n2 c2] 79 (0,0)):=by rw[L];exact ah (G (aS _ _) ca) S6
    have F:=G U aF.o;have K:=G U aG.o;have cT:=N.o.trans (U.mono N.o.size);have t0:=J cb 0;simp only[aq,ar,aw]at t0;obtain⟨_,_,f0,bo⟩:=zon F;obtain⟨_,_,f1,f2⟩:=zog K;have df:¬lb=g:=Z;have dh:¬lb=g+1:=Z;have ai:(c !=0)=true:=by simpa using b9
    rw[←L];clear L;revert bH b9 hF bc ca bL U cb F K cT;refine kH ?_;intro bd _ cM cN _ _ b8 _ be bf cV;go_wp2_with fail;go_region
    go_wp2_with fail
    have x0:=ah (b:=g+1) (i:=1) (u:=.int .i64 c) (ah (b:=g+1) (i:=0) (u:=.int .i64 ln) (ag _ g 1 _ _ (.slice none 0 0) (ag w9 g 0 _ _ (.slice none 0 0) be.o)) Z) Z;have x1:=ag _ (g+1) 1 _ _ (.int .i64 c) (ag _ (g+1) 0 _ _ (.int .i64 ln) (ah (b:=g) (i:=1) (u:=.slice none 0 0) (ah (b:=g) (i:=0) (u:=.slice none 0 0) bf.o Z) Z));refine Wy ?_;exact⟨_,_,_,_,_,_,_,_,_,rfl,.inr ⟨by rw[bb.o,goL_off (Hwtx.o.trans bd.o)],D⟩,dA ((((cV.o.setCell (p:=⟨g,0,none⟩) bZ _).setCell (p:=⟨g,1,none⟩) bZ _).setCell (p:=⟨g+1,0,none⟩) yA _).setCell (p:=⟨g+1,1,none⟩) yA _)⟩
   obtain rfl:k=n:=Z;have O:ls.drop k=[]:=F7 (jg Hn.o.symm);rw[O]at DW;have F:=G hI.bm aF.o;have K:=G hI.bm aG.o;obtain⟨au,cu,bu,du,rfl,rfl⟩:=pf_shape hI.st;obtain⟨m1,pI⟩:=Y x.pk.length;obtain⟨m2,jP⟩:=Y x.pf.length;rw[←pI,←jP]at hI;have bM:=hI.st.box;rw[←aL.o]at bM;obtain⟨qc,qd,-,-⟩:=zon bM;obtain⟨_,_,f0,bo⟩:=zon F;obtain⟨_,_,f1,f2⟩:=zog K;have cW:=N.o.trans (hI.bm.mono N.o.size);have di:g+1<w3.heap.size:=Yk;revert hsm DW O F K pI hI jP bM cW;refine dE ?_;intro b4 bb Hd be bf aDo ba aDn cU Yw;go_wp2_with fail;have x0:=ah (b:=g+1) (i:=1) (u:=.int .i64 0) (ah (b:=g+1) (i:=0) (u:=.int .i64 0) (ag _ g 1 _ _ (.slice bu m2 du) (ag r g 0 _ _ (.slice au m1 cu) be.o)) Z) Z;have x1:=ag _ (g+1) 1 _ _ (.int .i64 0) (ag _ (g+1) 0 _ _ (.int .i64 0) (ah (b:=g) (i:=1) (u:=.slice bu m2 du) (ah (b:=g) (i:=0) (u:=.slice au m1 cu) bf.o Z) Z))
   have cX:am (fun z=>z=g∨z=g+1) r ((((r.setCell ⟨g,0,none⟩ (.slice au m1 cu)).setCell ⟨g,1,none⟩ (.slice bu m2 du)).setCell ⟨g+1,0,none⟩ (.int .i64 0)).setCell ⟨g+1,1,none⟩ (.int .i64 0)) :=
    ((((am.refl _ r).setCell (p:=⟨g,0,none⟩) (.inr (.inl rfl)) _).setCell (p:=⟨g,1,none⟩) (.inr (.inl rfl)) _).setCell (p:=⟨g+1,0,none⟩) (.inr (.inr rfl)) _).setCell (p:=⟨g+1,1,none⟩) (.inr (.inr rfl)) _
   have aD:=ba.o.st.to (t':=t1) cX (fun z _ s=>by
    rcases s with rfl|rfl
    ·exact⟨by rw[ba.o.low _ Z];omega,dF be.o D⟩
    exact⟨by rw[ba.o.low _ Z];omega,dF bf.o D⟩) (fun _ _ _=>rfl)
   refine Wy ?_;exact⟨_,_,_,_,_,_,_,_,_,rfl,.inl ⟨x,by rw[bb.o];rfl,rfl,aD.reads⟩,(((Yw.o.setCell (p:=⟨g,0,none⟩) bZ _).setCell (p:=⟨g,1,none⟩) bZ _).setCell (p:=⟨g+1,0,none⟩) yA _).setCell (p:=⟨g+1,1,none⟩) yA _⟩
 have k1:(er !=0)=true:=by simpa using he
 have hq:=QQ.o;rw[E he]at hq;revert af dH hn aE X bN bk bl bn bO hq;refine kH ?_;intro cn cq Hn cr ct N cv aF aG bP bp;go_upto_region 2 with (fail);rw[←ea];clear ea;go_wp2_with fail;go_region
 go_wp2_with fail
 have x0:=ah (b:=g+1) (i:=1) (u:=.int .i64 a2) (ah (b:=g+1) (i:=0) (u:=.int .i64 a1) (ag _ g 1 _ _ (.slice none 0 0) (ag w3 g 0 _ _ (.slice none 0 0) aF.o)) Z) Z;have x1:=ag _ (g+1) 1 _ _ (.int .i64 a2) (ag _ (g+1) 0 _ _ (.int .i64 a1) (ah (b:=g) (i:=1) (u:=.slice none 0 0) (ah (b:=g) (i:=0) (u:=.slice none 0 0) aG.o Z) Z));refine Wy ?_;exact⟨_,_,_,_,_,_,_,_,_,rfl,.inr ⟨bp.o,he⟩,dA ((((N.o.setCell (p:=⟨g,0,none⟩) bZ _).setCell (p:=⟨g,1,none⟩) bZ _).setCell (p:=⟨g+1,0,none⟩) yA _).setCell (p:=⟨g+1,1,none⟩) yA _)⟩
end
end Go.Proofs.YthgibhhbmmkjmaaGreatDoor
