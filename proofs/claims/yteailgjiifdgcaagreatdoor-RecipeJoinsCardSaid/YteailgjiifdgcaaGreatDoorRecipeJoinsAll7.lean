/- Walks and plain facts. Texts merged: RcM, RcR, RcI, Cells, RcT, RcS, RcL, RcU, SpsV, RqB, RqD. Condition: none beyond what each says. -/
import Derived.Test.YteailgjiifdgcaaGreatDoorRecipeJoinsAll6
set_option linter.unusedVariables false
set_option linter.unusedSimpArgs false
set_option maxRecDepth 10000
set_option maxHeartbeats 4000000
namespace Go.Proofs.YteailgjiifdgcaaGreatDoor
section
open Go.Lib VerN VarM
open LexM (Wd Ln)
abbrev RlsM:=ByteArray × Bool
abbrev zln:=ByteArray × List ByteArray
abbrev DepM:=Spc3 × Spc3 × Int
abbrev PrfM:=ByteArray × List ByteArray × Int
structure PkgM where
 name:ByteArray
 line:Int
 rel:List RlsM
 vars:List zln
 prov:List ByteArray
 dep:List DepM
 conf:List DepM
 files:List ByteArray
structure RcpM where
 pk:List PkgM
 pf:List PrfM
def zdm (s:ByteArray) (n:Int):PkgM:=⟨s,n,[],[],[],[],[],[]⟩
def zbf:ByteArray:=⟨#[112,97,99,107,97,103,101]⟩
def zcb:ByteArray:=⟨#[112,114,101,102,101,114]⟩
def zd1:ByteArray:=⟨#[118,101,114,115,105,111,110]⟩
def zd9:ByteArray:=⟨#[118,97,114,105,97,110,116]⟩
def zct:ByteArray:=⟨#[112,114,111,118,105,100,101,115]⟩
def zda:ByteArray:=⟨#[100,101,112,101,110,100,115]⟩
def zd6:ByteArray:=⟨#[99,111,110,102,108,105,99,116,115]⟩
def zni:ByteArray:=⟨#[102,105,108,101]⟩
def wOld:ByteArray:=⟨#[111,108,100]⟩
def zhh:ByteArray:=⟨#[119,104,101,110]⟩
def zq9:ByteArray:=⟨#[119,105,116,104]⟩
def zcw (s:ByteArray):Bool:=ze1 s.data.toList
def zl3 (s:ByteArray):Bool:=zf2 s.data.toList
def zmh (s:ByteArray):Bool:=decide (s.size≤60)
def zmg (s:ByteArray):Bool:=mayL s.data.toList
def spAll:Spc3:=(noT,allV,[])
def zm1:Spc3:=(noT,[],[])
def zdv (ok:ByteArray→Bool) (l:List ByteArray):Option (List ByteArray):=if l≠[]∧l.all ok=true then some l else none
def verL (l:List ByteArray):Option RlsM:=match l with
 | [v] => if zmg v=true then some (v,false) else none
 | [v,o] => if zmg v=true∧o=wOld then some (v,true) else none
 | _=>none
def varL (l:List ByteArray):Option zln:=match l with
 | x :: r=>if zcw x=true then (zdv zl3 r).map fun q=>(x,q) else none
 | [] => none
def oneL (ok:ByteArray→Bool) (l:List ByteArray):Option ByteArray:=match l with
 | [x] => if ok x=true then some x else none
 | _=>none
noncomputable def depL (n:Int) (l:List ByteArray):Option DepM:=match zng l with
 | some (s,[])=>some (s,spAll,n)
 | some (s,x :: r)=>if x=zhh then (match zon r with
  | some (c,[])=>some (s,c,n)
  | _=>none) else none
 | none=>none
noncomputable def zg1 (n:Int) (l:List ByteArray):Option DepM:=match zon l with
 | some (s,[])=>some (s,zm1,n)
 | some (s,x :: r)=>if x=zq9 then (match zng r with
  | some (c,[])=>some (s,c,n)
  | _=>none) else none
 | none=>none
noncomputable def zax (first:ByteArray) (n:Int) (p:PkgM) (l:List ByteArray):Option PkgM :=
 if first=zd1 then (verL l).map fun q=>{ p with rel:=p.rel ++ [q] }
 else if first=zd9 then (varL l).map fun q=>{ p with vars:=p.vars ++ [q] }
 else if first=zct then (oneL zcw l).map fun q=>{ p with prov:=p.prov ++ [q] }
 else if first=zda then (depL n l).map fun q=>{ p with dep:=p.dep ++ [q] }
 else if first=zd6 then (zg1 n l).map fun q=>{ p with conf:=p.conf ++ [q] }
 else if first=zni then (oneL zmh l).map fun q=>{ p with files:=p.files ++ [q] }
 else none
def zia (n:Int) (l:List ByteArray):Option PrfM:=match l with
 | x :: r=>if zcw x=true then (zdv zcw r).map fun q=>(x,q,n) else none
 | [] => none
noncomputable def zbb (n:Int) (l:List ByteArray) (x:RcpM):Option RcpM:=match l with
 | [] => none
 | f :: r=>if f=zbf then (oneL zcw r).map fun s=>{ x with pk:=x.pk ++ [zdm s n] }
  else if f=zcb then (zia n r).map fun q=>{ x with pf:=x.pf ++ [q] }
  else match x.pk.getLast? with
  | none=>none
  | some p=>(zax f n p r).map fun q=>{ x with pk:=x.pk.dropLast ++ [q] }
noncomputable def goL:List Ln→RcpM→Option RcpM
 | [],x=>some x
 | l :: r,x=>(zbb l.1 (l.2.map wtx) x).bind fun y=>goL r y
noncomputable def zge (t:List UInt8):Option RcpM:=if (LexM.docLines t).e=0 then goL (LexM.docLines t).lines ⟨[],[]⟩ else none
def zcs (d:DepM):DepM:=(d.1,d.2.1,0)
def zd5 (p:PkgM):PkgM:={ p with line:=0,dep:=p.dep.map zcs,conf:=p.conf.map zcs }
def zfo (p:PrfM):PrfM:=(p.1,p.2.1,0)
def bare (x:RcpM):RcpM:=⟨x.pk.map zd5,x.pf.map zfo⟩
theorem depL_bare (n m:Int) (l:List ByteArray):(depL n l).map zcs=(depL m l).map zcs:=by
 unfold depL
 split
 ·rfl
 ·split
  ·split <;> rfl
  rfl
 rfl
theorem zrh (n m:Int) (l:List ByteArray):(zg1 n l).map zcs=(zg1 m l).map zcs:=by
 unfold zg1
 split
 ·rfl
 ·split
  ·split <;> rfl
  rfl
 rfl
theorem bare_dep {p q:PkgM} {a b:DepM} (h:zd5 p=zd5 q) (h2:zcs a=zcs b):zd5 { p with dep:=p.dep ++ [a] } = zd5 { q with dep:=q.dep ++ [b] }:=by
 unfold zd5 at *
 simp only[PkgM.mk.injEq,List.map_append,List.map_cons,List.map_nil] at *
 simp[h,h2]
theorem bare_conf {p q:PkgM} {a b:DepM} (h:zd5 p=zd5 q) (h2:zcs a=zcs b):zd5 { p with conf:=p.conf ++ [a] } = zd5 { q with conf:=q.conf ++ [b] }:=by
 unfold zd5 at *
 simp only[PkgM.mk.injEq,List.map_append,List.map_cons,List.map_nil] at *
 simp[h,h2]
theorem zhq {α β γ:Type} {f:α→β} {a b:Option α} {g k:α→γ} {h:γ→γ} (e:a.map f=b.map f) (hk:∀ x y,f x=f y→h (g x)=h (k y)):(a.map g).map h=(b.map k).map h:=by
 cases a with
 | none=>cases b with
  | none=>rfl
  | some y=>cases e
 | some x=>cases b with
  | none=>cases e
  | some y =>
   simp only[Option.map_some,Option.some.injEq] at e ⊢
   exact hk x y e
theorem zqo (f:ByteArray) (n m:Int) {p q:PkgM} (h:zd5 p=zd5 q) (l:List ByteArray):(zax f n p l).map zd5=(zax f m q l).map zd5:=by
 have h':=h
 unfold zd5 at h'
 simp only[PkgM.mk.injEq] at h'
 obtain⟨e1,-,e3,e4,e5,e6,e7,e8⟩:=h'
 unfold zax
 split
 ·exact zhq (f:=id) rfl fun x y e=>by unfold zd5;simp only[PkgM.mk.injEq];exact⟨e1,trivial,by rw[e3,show x=y from e],e4,e5,e6,e7,e8⟩
 split
 ·exact zhq (f:=id) rfl fun x y e=>by unfold zd5;simp only[PkgM.mk.injEq];exact⟨e1,trivial,e3,by rw[e4,show x=y from e],e5,e6,e7,e8⟩
 split
 ·exact zhq (f:=id) rfl fun x y e=>by unfold zd5;simp only[PkgM.mk.injEq];exact⟨e1,trivial,e3,e4,by rw[e5,show x=y from e],e6,e7,e8⟩
 split
 ·exact zhq (depL_bare n m l) fun x y e=>bare_dep h e
 split
 ·exact zhq (zrh n m l) fun x y e=>bare_conf h e
 split
 ·exact zhq (f:=id) rfl fun x y e=>by unfold zd5;simp only[PkgM.mk.injEq];exact⟨e1,trivial,e3,e4,e5,e6,e7,by rw[e8,show x=y from e]⟩
 rfl
def both (x y:RcpM):RcpM:=⟨x.pk ++ y.pk,x.pf ++ y.pf⟩
theorem zr3 {n m:Int} {l:List ByteArray} {a x y z:RcpM} (h:zbb n l x=some y) (hz:bare z=bare (both a x)):∃ u,zbb m l z=some u∧bare u=bare (both a y):=by
 cases l with
 | nil=>cases h
 | cons f r =>
  have e:∀ (n:Int) (x:RcpM),zbb n (f :: r) x=if f=zbf then (oneL zcw r).map fun s=>{ x with pk:=x.pk ++ [zdm s n] }
   else if f=zcb then (zia n r).map fun q=>{ x with pf:=x.pf ++ [q] }
   else match x.pk.getLast? with
   | none=>none
   | some p=>(zax f n p r).map fun q=>{ x with pk:=x.pk.dropLast ++ [q] }:=fun _ _=>rfl
  have hz1:z.pk.map zd5=a.pk.map zd5 ++ x.pk.map zd5:=by have:=congrArg RcpM.pk hz;simpa [bare,both] using this
  have hz2:z.pf.map zfo=a.pf.map zfo ++ x.pf.map zfo:=by have:=congrArg RcpM.pf hz;simpa [bare,both] using this
  rw[e] at h
  rw[e]
  by_cases h1:f=zbf
  ·rw[if_pos h1] at h ⊢
   cases hq:oneL zcw r with
   | none=>rw[hq] at h;cases h
   | some s =>
    rw[hq] at h
    cases h
    refine⟨_,rfl,?_⟩
    unfold bare both
    simp[hz1,hz2,zd5,zdm]
  rw[if_neg h1] at h ⊢
  by_cases h2:f=zcb
  ·rw[if_pos h2] at h ⊢
   have hp:(zia n r).map zfo=(zia m r).map zfo:=by
    unfold zia
    split
    ·split
     ·cases zdv zcw _ <;> rfl
     rfl
    rfl
   cases hq:zia n r with
   | none=>rw[hq] at h;cases h
   | some q =>
    rw[hq] at h hp
    cases h
    cases hq2:zia m r with
    | none=>rw[hq2] at hp;cases hp
    | some q2 =>
     rw[hq2] at hp
     refine⟨_,rfl,?_⟩
     have hp:zfo q=zfo q2:=by simpa using hp
     unfold bare both
     simp[hz1,hz2,hp]
  rw[if_neg h2] at h ⊢
  rcases List.eq_nil_or_concat x.pk with h3 | ⟨xs,p,h3⟩
  ·rw[h3] at h
   cases h
  rw[List.concat_eq_append] at h3
  rw[h3,List.getLast?_append] at h
  simp only[List.getLast?_singleton,Option.some_or] at h
  rcases List.eq_nil_or_concat z.pk with h4 | ⟨zs,q,h4⟩
  ·rw[h4,h3] at hz1
   simp at hz1
  rw[List.concat_eq_append] at h4
  rw[h4,h3,List.map_append,List.map_append,← List.append_assoc] at hz1
  have hl:=List.append_inj_left' hz1 rfl
  have hr:=List.append_inj_right' hz1 rfl
  have hpq:zd5 q=zd5 p:=by simpa using hr
  have hre:=zqo f m n hpq r
  rw[h4,List.getLast?_append]
  simp only[List.getLast?_singleton,Option.some_or]
  cases hq:zax f n p r with
  | none=>rw[hq] at h;cases h
  | some p2 =>
   rw[hq] at h hre
   simp only[Option.map_some,Option.some.injEq] at h
   cases hq2:zax f m q r with
   | none=>rw[hq2] at hre;cases hre
   | some q2 =>
    rw[hq2] at hre
    refine⟨_,rfl,?_⟩
    have hp2:zd5 q2=zd5 p2:=by simpa using hre
    rw[← h]
    unfold bare both
    simp[hz2,hl,hp2]
theorem zlg {a:RcpM}:∀ (L M:List Ln) (x y z:RcpM),goL L x=some y→bare z=bare (both a x)→M.map (·.2)=L.map (·.2)→∃ u,goL M z=some u∧bare u=bare (both a y)
 | [],M,x,y,z,h,hz,hM=>by
  cases M with
  | nil=>cases h;exact⟨z,rfl,hz⟩
  | cons _ _=>simp at hM
 | l :: L,M,x,y,z,h,hz,hM=>by
  cases M with
  | nil=>simp at hM
  | cons k M =>
   simp only[List.map_cons,List.cons.injEq] at hM
   have e:∀ (l:Ln) (r:List Ln) (x:RcpM),goL (l :: r) x=(zbb l.1 (l.2.map wtx) x).bind fun y=>goL r y:=fun _ _ _=>rfl
   rw[e] at h
   cases hq:zbb l.1 (l.2.map wtx) x with
   | none=>rw[hq] at h;cases h
   | some x2 =>
    rw[hq] at h
    obtain⟨u,hu,hb⟩:=zr3 (m:=k.1) hq hz
    obtain⟨v,hv,hb2⟩:=zlg L M x2 y u h hb hM.2
    refine⟨v,?_,hb2⟩
    rw[e,hM.1,hu]
    exact hv
theorem goL_bare {L M:List Ln} {x z y:RcpM} (h:goL L x=some y) (hz:bare z=bare x) (hM:M.map (·.2)=L.map (·.2)):∃ u,goL M z=some u∧bare u=bare y:=by
 have:=zlg (a:=⟨[],[]⟩) L M x y z h hz hM
 exact this
theorem goL_app:∀ (L M:List Ln) (x:RcpM),goL (L ++ M) x=(goL L x).bind fun y=>goL M y
 | [],M,x=>rfl
 | l :: L,M,x=>by
  show (zbb l.1 (l.2.map wtx) x).bind _=((zbb l.1 (l.2.map wtx) x).bind _).bind _
  rw[Option.bind_assoc]
  congr 1
  funext y
  exact goL_app L M y
theorem zra {L M N:List Ln} {x y:RcpM} (h1:goL L ⟨[],[]⟩=some x) (h2:goL M ⟨[],[]⟩=some y) (hN:N.map (·.2)=L.map (·.2) ++ M.map (·.2)):∃ z,goL N ⟨[],[]⟩=some z∧bare z=bare (both x y):=by
 have e:N=N.take L.length ++ N.drop L.length:=(List.take_append_drop _ _).symm
 have ht:(N.take L.length).map (·.2)=L.map (·.2):=by
  rw[List.map_take,hN]
  have:L.length=(L.map (·.2)).length:=by simp
  rw[this,List.take_left']
  rfl
 have hd:(N.drop L.length).map (·.2)=M.map (·.2):=by
  rw[List.map_drop,hN]
  have:L.length=(L.map (·.2)).length:=by simp
  rw[this,List.drop_left']
  rfl
 obtain⟨u,hu,hb⟩:=goL_bare (z:=⟨[],[]⟩) h1 rfl ht
 obtain⟨v,hv,hb2⟩:=zlg (a:=x) M (N.drop L.length) ⟨[],[]⟩ y u h2 (by rw[hb];unfold bare both;simp) hd
 refine⟨v,?_,hb2⟩
 rw[e,goL_app,hu]
 exact hv
end

section
open Go.Shelf Go.RowKit Go.Lib VerN VarM
open LexM (Wd)
attribute [local go_sem ↓] Go.wp_at_zero Go.wp_at_succ
def zbs (r:Nat) (a:Option Addr) (n c:Nat) (fin:Int) (ws:List Wd) (i:Nat) (ok:ByteArray→Bool) (w:World) (e:Ending) (w':World):Prop :=
 ((i < ws.length∧ok (zan ws i)=true∧e = .returned (.string (zan ws i))∧RBox r (.slice a n c) (i+1) fin w')∨((ws.length≤i∨ok (zan ws i)=false)∧∃ j,e=zea (zf6 ws fin j)))∧Frm (fun k=>k=r) w w'
theorem zh3 {r:Nat} {a:Option Addr} {n c:Nat} {fin:Int} {ws:List Wd} {i:Nat} {ok:ByteArray→Bool} {w w':World} {e:Ending} (h1:i < ws.length) (h2:ok (zan ws i)=true) (h3:e = .returned (.string (zan ws i))) (h4:RBox r (.slice a n c) (i+1) fin w') (h5:Frm (fun k=>k=r) w w'):zbs r a n c fin ws i ok w e w':=⟨.inl ⟨h1,h2,h3,h4⟩,h5⟩
theorem zer {r:Nat} {a:Option Addr} {n c:Nat} {fin:Int} {ws:List Wd} {i:Nat} {ok:ByteArray→Bool} {w w':World} {e:Ending} (h1:ws.length≤i∨ok (zan ws i)=false) (h3:e=zea (zf6 ws fin i)) (h5:Frm (fun k=>k=r) w w'):zbs r a n c fin ws i ok w e w':=⟨.inr ⟨h1,i,h3⟩,h5⟩
theorem zb2 {S:Nat→Prop} {a w w':World} (h:Frm S a w) (hb:Below w.heap.size w w'):Frm S a w':=h.trans (Frm.of_below (S:=fun _=>False) hb) (fun _ _ h=>h.elim)
theorem zeq {w0 w:World} {r:Nat} {a:Option Addr} {n c:Nat} {fin:Int} {ws:List Wd} {i:Nat} (C:RdC w0 r a n c fin ws) (S:RdS w0 r a n c fin i w) (hi1:i≤1000) {f:FuncId} (eg:∀ args w,(callFunc f args).run Tryz.prog w = .ok (.enter f args) w) {ok:ByteArray→Bool}
  (hR:∀ s W,s.size≤70000→Below w.heap.size w W→Calls Tryz.prog f #[.string s] W fun e w'=>e = .returned (.bool (ok s))∧Below W.heap.size W w') :
  Calls Tryz.prog 152 #[rp r,.func (.func f) #[] #[]] w (zbs r a n c fin ws i ok w):=by
 have hrw:r < w.heap.size:=(Array.getElem?_eq_some_iff.1 S.box).1
 have hn:=C.len
 have hP:=C.peek S
 have hsz:=C.peek_size i
 have hM:=fun (W:World) (k:Below w.heap.size w W)=>C.more (S.to k)
 have hNo:=fun (W:World) (k:Below w.heap.size w W)=>C.want (S.to k)
 have hbx:=fun (W:World) (k:Below w.heap.size w W)=>zba (S.to k).box
 have hR:=fun (W:World) (k:Below w.heap.size w W)=>hR (zan ws i) W hsz k
 obtain⟨s,hs⟩ : ∃ s,s=zan ws i:=⟨_,rfl⟩
 have hgo:∀ W,Below w.heap.size w W→Frm (fun k=>k=r) w W:=fun W k=>zb2 (Frm.refl _ _) k
 obtain⟨b,hb⟩ : ∃ b,b=ok s:=⟨_,rfl⟩
 simp only[← hs,← hb] at hP hR
 have hcell:=fun (W:World) (k:Below w.heap.size w W)=>heap_setCell_same W r 1 _ _ (.int .i64 ((i:Int)+1)) (S.to k).box
 by_cases hi:i < n
 ·have hi2:i < ws.length:=by omega
  rw[decide_eq_true hi] at hM
  clear hsz
  obtain⟨HC,HS,HP,HM,HNo,Hbx,HR,Hs,Hb,Hgo,Hcell,Hn,Hi2⟩:=hd13 C S hP hM hNo hbx hR hs hb hgo hcell hn hi2;clear C S hP hM hNo hbx hR hs hb hgo hcell hn hi2
  go_enter Tryz.func152,Tryz.ntmps152
  go_wp2_with fail
  refine HP.out.mono ?_
  rintro e w1 ⟨rfl,q1,rfl⟩
  have hb1:=zac (Below.refl w.heap.size w) q1
  generalize w.drewN q1=w1 at hb1 ⊢
  have Hb1:=hd hb1;clear hb1
  go_wp2_with fail
  refine (HM.out _ Hb1.out).mono ?_
  rintro e w2 ⟨rfl,q2,rfl⟩
  have hb2:=zac Hb1.out q2
  generalize w1.drewN q2=w2 at hb2 ⊢
  have Hb2:=hd hb2;clear hb2
  go_wp2_with fail
  refine (HR.out _ Hb2.out).mono ?_
  rintro e w3 ⟨rfl,hb3⟩
  have hb23:=Hb2.out.trans (hb3.mono Hb2.out.size)
  cases b with
  | true =>
   have hY:=zbv w3 r
   obtain⟨-,x1,-,x3⟩:=Hbx.out _ hb23
   obtain⟨Hb3,Hb23,HY⟩:=hd3 hb3 hb23 hY;clear hb3 hb23 hY
   go_wp2_with fail
   refine HY.out.mono ?_
   rintro e w4 ⟨rfl,hw4⟩
   subst hw4
   go_wp2_with fail
   go_ret
   have hf:=Hgo.out _ Hb23.out
   exact zh3 Hi2.out (by rw[← Hs.out,← Hb.out]) (by rw[← Hs.out];rfl) (Hcell.out _ Hb23.out) (zad hf 1 _)
  | false =>
   have hN:=HNo.out _ hb23
   have hf:=Hgo.out _ hb23
   obtain⟨Hb3,Hb23,HN,Hf⟩:=hd4 hb3 hb23 hN hf;clear hb3 hb23 hN hf
   go_wp2_with fail
   refine HN.out.mono ?_
   rintro e w4 ⟨rfl,q4,rfl⟩
   go_wp2_with fail
   exact⟨rfl,zer (.inr (by rw[← Hs.out,← Hb.out])) rfl (zb2 Hf.out (zac (Below.refl _ _) q4))⟩
 rw[decide_eq_false hi] at hM
 have hi2:ws.length≤i:=by omega
 clear hsz
 obtain⟨HC,HS,HP,HM,HNo,Hbx,HR,Hs,Hb,Hgo,Hcell,Hn,Hi2⟩:=hd13 C S hP hM hNo hbx hR hs hb hgo hcell hn hi2;clear C S hP hM hNo hbx hR hs hb hgo hcell hn hi2
 go_enter Tryz.func152,Tryz.ntmps152
 go_wp2_with fail
 refine HP.out.mono ?_
 rintro e w1 ⟨rfl,q1,rfl⟩
 have hb1:=zac (Below.refl w.heap.size w) q1
 generalize w.drewN q1=w1 at hb1 ⊢
 have Hb1:=hd hb1;clear hb1
 go_wp2_with fail
 refine (HM.out _ Hb1.out).mono ?_
 rintro e w2 ⟨rfl,q2,rfl⟩
 have hb2:=zac Hb1.out q2
 generalize w1.drewN q2=w2 at hb2 ⊢
 have hN:=HNo.out _ hb2
 have hf:=Hgo.out _ hb2
 obtain⟨Hb2,HN,Hf⟩:=hd3 hb2 hN hf;clear hb2 hN hf
 go_wp2_with fail
 refine HN.out.mono ?_
 rintro e w4 ⟨rfl,q4,rfl⟩
 go_wp2_with fail
 exact⟨rfl,zer (.inl Hi2.out) rfl (zb2 Hf.out (zac (Below.refl _ _) q4))⟩
def zg3 (r:Nat) (a:Option Addr) (n c:Nat) (fin:Int) (ws:List Wd) (i:Nat) (ok:ByteArray→Bool) (w:World) (e:Ending) (w':World):Prop :=
 ((∃ v l,zdv ok (zap ws i)=some l∧e = .returned v∧w'.ownsRow w.heap.size 9 1 v l.length (l.map Value.string)∧RBox r (.slice a n c) ws.length fin w')∨(zdv ok (zap ws i)=none∧∃ j,e=zea (zf6 ws fin j)))∧Frm (fun k=>k=r) w w'
theorem zl4 {r:Nat} {a:Option Addr} {n c:Nat} {fin:Int} {ws:List Wd} {i:Nat} {ok:ByteArray→Bool} {w w':World} {e:Ending} {v:Value} {l:List ByteArray} (h1:zdv ok (zap ws i)=some l) (h3:e = .returned v) (h4:w'.ownsRow w.heap.size 9 1 v l.length (l.map Value.string)) (h6:RBox r (.slice a n c) ws.length fin w') (h5:Frm (fun k=>k=r) w w'):zg3 r a n c fin ws i ok w e w':=⟨.inl ⟨v,l,h1,h3,h4,h6⟩,h5⟩
theorem zi1 {r:Nat} {a:Option Addr} {n c:Nat} {fin:Int} {ws:List Wd} {i j:Nat} {ok:ByteArray→Bool} {w w':World} {e:Ending} (h1:zdv ok (zap ws i)=none) (h3:e=zea (zf6 ws fin j)) (h5:Frm (fun k=>k=r) w w'):zg3 r a n c fin ws i ok w e w':=⟨.inr ⟨h1,j,h3⟩,h5⟩
theorem zdt {ws:List Wd} {i j:Nat} (h:i+j < ws.length):(zap ws i)[j]? = some (zan ws (i+j)):=by
 unfold zap
 rw[List.getElem?_map,List.getElem?_drop,List.getElem?_eq_getElem h,zh9 h]
 rfl
theorem zk7 {ws:List Wd} {i k:Nat} (h:i+k < ws.length):(zap ws i).take (k+1)=(zap ws i).take k ++ [zan ws (i+k)]:=by
 have hk:k < (zap ws i).length:=by rw[zcu];omega
 rw[List.take_succ_eq_append_getElem hk]
 have:=zdt (ws:=ws) (i:=i) (j:=k) h
 rw[List.getElem?_eq_getElem hk] at this
 rw[Option.some.inj this]
theorem zmk {ok:ByteArray→Bool} {ws:List Wd} {i k:Nat} (h:ws.length≤i∨(i+k < ws.length∧ok (zan ws (i+k))=false)):zdv ok (zap ws i)=none:=by
 unfold zdv
 refine if_neg fun hh=>?_
 rcases h with h | ⟨h1,h2⟩
 ·exact hh.1 (zaz h)
 have h3:=List.all_eq_true.1 hh.2 (zan ws (i+k)) (List.mem_of_getElem? (zdt h1))
 rw[h2] at h3
 cases h3
theorem zqu {ok:ByteArray→Bool} {ws:List Wd} {i:Nat} (h0:i < ws.length) (h:∀ j,i+j < ws.length→ok (zan ws (i+j))=true):zdv ok (zap ws i)=some (zap ws i):=by
 unfold zdv
 refine if_pos ⟨fun e=>?_,?_⟩
 ·have:=zcu ws i
  rw[e] at this
  simp at this
  omega
 rw[List.all_eq_true]
 intro x hx
 obtain⟨j,hj,rfl⟩:=List.getElem_of_mem hx
 have hl:i+j < ws.length:=by rw[zcu] at hj;omega
 have:=zdt (ws:=ws) hl
 rw[List.getElem?_eq_getElem hj] at this
 rw[Option.some.inj this]
 exact h j hl
theorem zee {w0 w W:World} {r:Nat} {a:Option Addr} {n c:Nat} {fin:Int} {i j:Nat} (S:RdS w0 r a n c fin i w) (hlow:w0.heap.size≤r) (hF:Frm (fun k=>k=r) w W) (hb:RBox r (.slice a n c) j fin W):RdS w0 r a n c fin j W :=
 ⟨hb,hF.os.trans S.bel.os,hF.tape.trans S.bel.tape,hF.output.trans S.bel.output,Nat.le_trans S.bel.size hF.size,fun k hk=>(hF.block k (Nat.lt_of_lt_of_le hk S.bel.size) (by omega)).trans (S.bel.block k hk)⟩
theorem texts_one {ws:List Wd} {i:Nat} (h:i < ws.length):(zap ws i).take 1 = [zan ws i]:=by
 have:=zk7 (ws:=ws) (i:=i) (k:=0) (by omega)
 simpa using this
structure NmI (w0:World) (r:Nat) (a:Option Addr) (n c:Nat) (fin:Int) (ws:List Wd) (i:Nat) (ok:ByteArray→Bool) (w:World) (k:Nat) (v:Value) (W:World):Prop where
 st:RdS w0 r a n c fin (i+k) W
 row:W.ownsRow w.heap.size 9 1 v k (((zap ws i).take k).map Value.string)
 all:∀ j,j < k→ok (zan ws (i+j))=true
 frm:Frm (fun x=>x=r) w W
 pos:1≤k
 le:i+k≤ws.length
theorem zmj {w0 w:World} {r:Nat} {a:Option Addr} {n c:Nat} {fin:Int} {ws:List Wd} {i:Nat} (C:RdC w0 r a n c fin ws) (S:RdS w0 r a n c fin i w) (hi1:i≤1000) {f:FuncId} (eg:∀ args w,(callFunc f args).run Tryz.prog w = .ok (.enter f args) w) {ok:ByteArray→Bool}
  (hR:∀ s W,s.size≤70000→Below w0.heap.size w0 W→Calls Tryz.prog f #[.string s] W fun e w'=>e = .returned (.bool (ok s))∧Below W.heap.size W w') :
  Calls Tryz.prog 154 #[rp r,.func (.func f) #[] #[]] w (zg3 r a n c fin ws i ok w):=by
 have hrw:r < w.heap.size:=(Array.getElem?_eq_some_iff.1 S.box).1
 have hn:=C.len
 have hn1:=C.n1000
 have hT:=zeq C S hi1 eg (ok:=ok) (fun s W hs k=>hR s W hs (S.bel.trans (k.mono S.bel.size)))
 have hT2:=fun (W:World) (k:Nat) (hk:i+k≤1000) (S:RdS w0 r a n c fin (i+k) W)=>zeq C S hk eg (ok:=ok) (fun s V hs q=>hR s V hs (S.bel.trans (q.mono S.bel.size)))
 have hM:=fun (W:World) (k:Nat) (S:RdS w0 r a n c fin (i+k) W)=>C.more S
 obtain⟨s,hs⟩ : ∃ s,s=zan ws i:=⟨_,rfl⟩
 unfold zbs at hT
 rw[← hs] at hT
 have hlow:=C.low
 have hwb:=S.bel.size
 obtain⟨HC,HS,HT,HT2,HM,Hs,Hn,HR⟩:=hd8 C S hT hT2 hM hs hn hR;clear C S hT hT2 hM hs hn hR
 go_enter Tryz.func154,Tryz.ntmps154
 go_wp2_with fail
 refine HT.out.mono ?_
 rintro e w1 ⟨⟨hi,hok,rfl,hbx⟩ | ⟨hno,j,rfl⟩,hfr⟩
 ·have hz1:=hfr.size
  obtain⟨w2,hw2⟩ : ∃ W,W=w1.alloc (.cells #[.string s] 9):=⟨_,rfl⟩
  have hb12:Below w1.heap.size w1 w2:=by rw[hw2];exact za1 _ _
  have hrow:w2.ownsRow w.heap.size 9 1 (.slice (some ⟨w1.heap.size,0,none⟩) 1 1) 1 [.string s]:=by rw[hw2];exact World.ownsRow_lit (base:=w.heap.size) (e:=9) (size:=1) w1 #[.string s] 1 hz1 (by decide) rfl
  have hfr2:=zb2 hfr hb12
  have hst:RdS w0 r a n c fin (i+1) w2:=zee HS.out hlow hfr2 (za0 hb12 hbx)
  have hI:NmI w0 r a n c fin ws i ok w 1 (.slice (some ⟨w1.heap.size,0,none⟩) 1 1) w2:=⟨hst,by rw[texts_one hi,← Hs.out];exact hrow,fun j hj=>by
   obtain rfl:j=0:=by omega
   rw[Nat.add_zero,← Hs.out];exact hok,hfr2,Nat.le_refl _,by omega⟩
  obtain⟨v0,hv0⟩ : ∃ v:Option Addr,v=some ⟨w1.heap.size,0,none⟩:=⟨_,rfl⟩
  rw[← hv0] at hI
  obtain⟨Hi,Hok,Hbx,Hfr,Hz1,Hb12,Hrow,Hfr2,Hst,HI⟩:=hd10 hi hok hbx hfr hz1 hb12 hrow hfr2 hst hI;clear hi hok hbx hfr hz1 hb12 hrow hfr2 hst hI
  go_upto_region 2 with (fail)
  rw[← hw2,← hv0]
  clear hw2 hv0
  go_loopw [5] (fun v wr=>∃ k,NmI w0 r a n c fin ws i ok w k v wr) (fun _ wr=>n - atOf r wr)
  case atStart=>exact⟨1,HI.out⟩
  case round =>
   obtain⟨k,hI⟩:=hrel
   obtain⟨ra,rc,rfl⟩:=za9 hI.row
   obtain⟨wo,hwo⟩ : ∃ W,W=wr:=⟨_,rfl⟩
   rw[← hwo] at hI ⊢
   clear hwo wr
   have hmeas:atOf r wo=i+k:=zil hI.st.box
   have hMo:=HM.out wo k hI.st
   have hle:=hI.le
   have hpos:=hI.pos
   have hk1:k≤1000:=by have:=Hn.out;omega
   by_cases hlt:i+k < n
   ·rw[decide_eq_true hlt] at hMo
    have hlt2:i+k < ws.length:=by have:=Hn.out;omega
    obtain⟨HI,Hmeas,HMo⟩:=hd3 hI hmeas hMo;clear hI hmeas hMo
    go_wp2_with fail
    refine HMo.out.mono ?_
    rintro e w3 ⟨rfl,q3,rfl⟩
    have hb3:Below wo.heap.size wo (wo.drewN q3):=zac (Below.refl _ _) q3
    generalize wo.drewN q3=w3 at hb3 ⊢
    have hst3:=HI.out.st.to hb3
    have hT3:=HT2.out w3 k (by omega) hst3
    have hrow3:=za6 HI.out.row hb3
    have hfr3:=zb2 HI.out.frm hb3
    obtain⟨x,hx⟩ : ∃ x,x=zan ws (i+k):=⟨_,rfl⟩
    unfold zbs at hT3
    rw[← hx] at hT3
    obtain⟨N,hN⟩ : ∃ N,N=((zap ws i).take k).map Value.string:=⟨_,rfl⟩
    rw[← hN] at hrow3
    obtain⟨Hb3,Hst3,HT3,Hrow3,Hfr3,Hx,HN⟩:=hd7 hb3 hst3 hT3 hrow3 hfr3 hx hN;clear hb3 hst3 hT3 hrow3 hfr3 hx hN
    go_wp2_with fail
    refine HT3.out.mono ?_
    rintro e w4 ⟨⟨hi4,hok4,rfl,hbx4⟩ | ⟨hno,j,rfl⟩,hfr4⟩
    ·have hst4:=zee Hst3.out hlow hfr4 hbx4
     have hown:∀ z,(Value.slice ra k rc).ownBlock=some z→z≠r:=fun z hz e=>by
      have:=(HI.out.row.lt z hz).1
      omega
     have hrow4:w4.ownsRow w.heap.size 9 1 (.slice ra k rc) k N:=hfr4.owns Hrow3.out (fun z hz e=>hown z hz e)
     have hfrw4:Frm (fun x=>x=r) w w4:=Hfr3.out.trans hfr4 (fun _ _ h=>h)
     have hbw4:w.heap.size≤w4.heap.size:=hfrw4.size
     obtain⟨Hi4,Hok4,Hbx4,Hfr4,Hst4,Hown,Hrow4,Hfrw4⟩:=hd8 hi4 hok4 hbx4 hfr4 hst4 hown hrow4 hfrw4;clear hi4 hok4 hbx4 hfr4 hst4 hown hrow4 hfrw4
     go_wp2_with (at_builtin;(refine zcm zdx rfl (.tmp 12) (.tmp 16) rfl w.heap.size (.slice ra k rc) k N rfl Hrow4.out 1 #[.string x] rfl rfl (by simp[Value.oneCell']) (by omega) (by unfold maxLen;omega) hbw4 ?_;intro v9 w9 hown9 hg9 hm9;obtain⟨a9,c9,rfl⟩:=za9 hown9;have hfr9:Frm (fun x=>x=r) w w9:=Hfrw4.out.grown hg9 (fun z hz=>.inl (Hrow4.out.lt z hz).1);have hbx9:RBox r (.slice a n c) (i+k+1) fin w9:=(hg9.block r (Array.getElem?_eq_some_iff.1 Hbx4.out).1 (fun e=>Hown.out r e.symm rfl)).trans Hbx4.out;obtain⟨Hown9,Hfr9,Hbx9⟩:=hd3 hown9 hfr9 hbx9;clear hown9 hg9 hm9 hfr9 hbx9))
     go_roundw
     case rel =>
      refine⟨k+1,zee HS.out hlow Hfr9.out Hbx9.out,?_,fun j hj=>?_,Hfr9.out,by omega,by omega⟩
      ·rw[zk7 hlt2,List.map_append,← HN.out,← Hx.out]
       exact Hown9.out
      by_cases e:j=k
      ·rw[e,← Hx.out];exact Hok4.out
      exact HI.out.all j (by omega)
     case measure =>
      have h1:atOf r w9=i+k+1:=zil Hbx9.out
      rw[h1,Hmeas.out]
      omega
    have hnn:zdv ok (zap ws i)=none:=zmk (k:=k) (.inr ⟨hlt2,by
     rcases hno with h | h
     ·omega
     rw[← Hx.out];exact h⟩)
    have hfrw4:Frm (fun x=>x=r) w w4:=Hfr3.out.trans hfr4 (fun _ _ h=>h)
    obtain⟨Hno,Hfr4,Hnn,Hfrw4⟩:=hd4 hno hfr4 hnn hfrw4;clear hno hfr4 hnn hfrw4
    go_wp2_with fail
    exact⟨rfl,zi1 Hnn.out rfl Hfrw4.out⟩
   rw[decide_eq_false hlt] at hMo
   have hk:i+k=ws.length:=by have:=Hn.out;omega
   have hyes:=zqu (ok:=ok) (ws:=ws) (i:=i) (by omega) (fun j hj=>hI.all j (by omega))
   have htk:(zap ws i).take k=zap ws i:=List.take_of_length_le (by rw[zcu];omega)
   obtain⟨HI,Hmeas,HMo,Hyes,Htk⟩:=hd5 hI hmeas hMo hyes htk;clear hI hmeas hMo hyes htk
   go_wp2_with fail
   refine HMo.out.mono ?_
   rintro e w3 ⟨rfl,q3,rfl⟩
   have hb3:Below wo.heap.size wo (wo.drewN q3):=zac (Below.refl _ _) q3
   generalize wo.drewN q3=w3 at hb3 ⊢
   have hrow3:=za6 HI.out.row hb3
   rw[Htk.out] at hrow3
   have hbx3:=za0 hb3 HI.out.st.box
   have hlen:(zap ws i).length=k:=by rw[zcu];omega
   obtain⟨Hb3,Hrow3,Hbx3,Hlen⟩:=hd4 hb3 hrow3 hbx3 hlen;clear hb3 hrow3 hbx3 hlen
   go_wp2_with fail
   go_ret
   exact zl4 Hyes.out rfl (by rw[Hlen.out];exact Hrow3.out) (by rw[← hk];exact Hbx3.out) (zb2 HI.out.frm Hb3.out)
 have hnn:zdv ok (zap ws i)=none:=zmk (k:=0) (by
  rcases hno with h | h
  ·exact .inl h
  by_cases hl:i < ws.length
  ·exact .inr ⟨by omega,by rw[Nat.add_zero,← Hs.out];exact h⟩
  exact .inl (by omega))
 obtain⟨Hno,Hfr,Hnn⟩:=hd3 hno hfr hnn;clear hno hfr hnn
 go_wp2_with fail
 exact⟨rfl,zi1 Hnn.out rfl Hfr.out⟩
end

section
open Go.Shelf Go.RowKit Go.Lib VerN VarM
open LexM (Wd)
attribute [local go_sem ↓] Go.wp_at_zero Go.wp_at_succ
theorem ziq {w0 w:World} {r:Nat} {a:Option Addr} {n c:Nat} {fin:Int} {ws:List Wd} {i:Nat} (C:RdC w0 r a n c fin ws) (S:RdS w0 r a n c fin i w) (hi1:i≤1000) {f:FuncId} (eg:∀ args w,(callFunc f args).run Tryz.prog w = .ok (.enter f args) w) {ok:ByteArray→Bool} {cp:Value}
  (hR:∀ s W,s.size≤70000→Below w.heap.size w W→Calls Tryz.prog f #[.string s,cp] W fun e w'=>e = .returned (.bool (ok s))∧Below W.heap.size W w') :
  Calls Tryz.prog 152 #[rp r,.func (.func f) #[] #[cp]] w (zbs r a n c fin ws i ok w):=by
 have hrw:r < w.heap.size:=(Array.getElem?_eq_some_iff.1 S.box).1
 have hn:=C.len
 have hP:=C.peek S
 have hsz:=C.peek_size i
 have hM:=fun (W:World) (k:Below w.heap.size w W)=>C.more (S.to k)
 have hNo:=fun (W:World) (k:Below w.heap.size w W)=>C.want (S.to k)
 have hbx:=fun (W:World) (k:Below w.heap.size w W)=>zba (S.to k).box
 have hR:=fun (W:World) (k:Below w.heap.size w W)=>hR (zan ws i) W hsz k
 obtain⟨s,hs⟩ : ∃ s,s=zan ws i:=⟨_,rfl⟩
 have hgo:∀ W,Below w.heap.size w W→Frm (fun k=>k=r) w W:=fun W k=>zb2 (Frm.refl _ _) k
 obtain⟨b,hb⟩ : ∃ b,b=ok s:=⟨_,rfl⟩
 simp only[← hs,← hb] at hP hR
 have hcell:=fun (W:World) (k:Below w.heap.size w W)=>heap_setCell_same W r 1 _ _ (.int .i64 ((i:Int)+1)) (S.to k).box
 by_cases hi:i < n
 ·have hi2:i < ws.length:=by omega
  rw[decide_eq_true hi] at hM
  clear hsz
  obtain⟨HC,HS,HP,HM,HNo,Hbx,HR,Hs,Hb,Hgo,Hcell,Hn,Hi2⟩:=hd13 C S hP hM hNo hbx hR hs hb hgo hcell hn hi2;clear C S hP hM hNo hbx hR hs hb hgo hcell hn hi2
  go_enter Tryz.func152,Tryz.ntmps152
  go_wp2_with fail
  refine HP.out.mono ?_
  rintro e w1 ⟨rfl,q1,rfl⟩
  have hb1:=zac (Below.refl w.heap.size w) q1
  generalize w.drewN q1=w1 at hb1 ⊢
  have Hb1:=hd hb1;clear hb1
  go_wp2_with fail
  refine (HM.out _ Hb1.out).mono ?_
  rintro e w2 ⟨rfl,q2,rfl⟩
  have hb2:=zac Hb1.out q2
  generalize w1.drewN q2=w2 at hb2 ⊢
  have Hb2:=hd hb2;clear hb2
  go_wp2_with fail
  refine (HR.out _ Hb2.out).mono ?_
  rintro e w3 ⟨rfl,hb3⟩
  have hb23:=Hb2.out.trans (hb3.mono Hb2.out.size)
  cases b with
  | true =>
   have hY:=zbv w3 r
   obtain⟨-,x1,-,x3⟩:=Hbx.out _ hb23
   obtain⟨Hb3,Hb23,HY⟩:=hd3 hb3 hb23 hY;clear hb3 hb23 hY
   go_wp2_with fail
   refine HY.out.mono ?_
   rintro e w4 ⟨rfl,hw4⟩
   subst hw4
   go_wp2_with fail
   go_ret
   have hf:=Hgo.out _ Hb23.out
   exact zh3 Hi2.out (by rw[← Hs.out,← Hb.out]) (by rw[← Hs.out];rfl) (Hcell.out _ Hb23.out) (zad hf 1 _)
  | false =>
   have hN:=HNo.out _ hb23
   have hf:=Hgo.out _ hb23
   obtain⟨Hb3,Hb23,HN,Hf⟩:=hd4 hb3 hb23 hN hf;clear hb3 hb23 hN hf
   go_wp2_with fail
   refine HN.out.mono ?_
   rintro e w4 ⟨rfl,q4,rfl⟩
   go_wp2_with fail
   exact⟨rfl,zer (.inr (by rw[← Hs.out,← Hb.out])) rfl (zb2 Hf.out (zac (Below.refl _ _) q4))⟩
 rw[decide_eq_false hi] at hM
 have hi2:ws.length≤i:=by omega
 clear hsz
 obtain⟨HC,HS,HP,HM,HNo,Hbx,HR,Hs,Hb,Hgo,Hcell,Hn,Hi2⟩:=hd13 C S hP hM hNo hbx hR hs hb hgo hcell hn hi2;clear C S hP hM hNo hbx hR hs hb hgo hcell hn hi2
 go_enter Tryz.func152,Tryz.ntmps152
 go_wp2_with fail
 refine HP.out.mono ?_
 rintro e w1 ⟨rfl,q1,rfl⟩
 have hb1:=zac (Below.refl w.heap.size w) q1
 generalize w.drewN q1=w1 at hb1 ⊢
 have Hb1:=hd hb1;clear hb1
 go_wp2_with fail
 refine (HM.out _ Hb1.out).mono ?_
 rintro e w2 ⟨rfl,q2,rfl⟩
 have hb2:=zac Hb1.out q2
 generalize w1.drewN q2=w2 at hb2 ⊢
 have hN:=HNo.out _ hb2
 have hf:=Hgo.out _ hb2
 obtain⟨Hb2,HN,Hf⟩:=hd3 hb2 hN hf;clear hb2 hN hf
 go_wp2_with fail
 refine HN.out.mono ?_
 rintro e w4 ⟨rfl,q4,rfl⟩
 go_wp2_with fail
 exact⟨rfl,zer (.inl Hi2.out) rfl (zb2 Hf.out (zac (Below.refl _ _) q4))⟩
theorem zlc (o:ByteArray) (w:World):Calls Tryz.prog 188 #[.string o] w fun e w'=>e = .returned (.func (.func 211) #[] #[.pointer (some ⟨w.heap.size,0,none⟩)])∧w'=w.alloc (.cells #[.string o] 9):=by
 have hmf:∀ (fn:Fn) (first cap:Array Value) (w:World),(Instr.makeFunc fn first cap).run Tryz.prog w = .ok (.func fn first cap) w:=fun _ _ _ _=>rfl
 go_enter Tryz.func188,Tryz.ntmps188
 go_wp2_with fail
 go_ret
 exact⟨rfl,rfl⟩
theorem zoh (s o:ByteArray) {g:Nat} {w:World} (h:w.heap[g]? = some (.cells #[.string o] 9 (0,0))):Calls Tryz.prog 211 #[.string s,.pointer (some ⟨g,0,none⟩)] w fun e w'=>e = .returned (.bool (decide (s=o)))∧Below w.heap.size w w':=by
 have c0:=za2 h 0
 simp only[List.getElem?_toArray,List.getElem?_cons_zero] at c0
 have hq:=Txt.eq_dec s o
 obtain⟨b,hb⟩ : ∃ b,b=decide (s=o):=⟨_,rfl⟩
 rw[← hb] at hq ⊢
 obtain⟨Hh,Hb⟩:=hd2 h hb;clear h hb
 go_enter Tryz.func211,Tryz.ntmps211
 go_wp2_with fail
 go_ret
 exact⟨rfl,Below.refl _ _⟩
theorem path_any (s:ByteArray) (hs:s.size≤70000) (w:World):Calls Tryz.prog 190 #[.string s] w fun e w'=>e = .returned (.bool (zmh s))∧Below w.heap.size w w':=by
 have h:decide ((s.size:Int)≤60)=zmh s:=decide_eq_decide.2 (by omega)
 obtain⟨b,hb⟩ : ∃ b,b=zmh s:=⟨_,rfl⟩
 rw[← hb] at h ⊢
 have Hb:=hd hb;clear hb
 go_enter Tryz.func190,Tryz.ntmps190
 go_wp2_with fail
 go_ret
 exact⟨by first | rfl | (rw[← h];rfl) | (simp[h]),Below.refl _ _⟩
theorem zf5 (s:ByteArray) (hs:s.size≤70000) (w:World):Calls Tryz.prog 153 #[.string s] w fun e w'=>e = .returned (.bool (zcw s))∧Below w.heap.size w w' :=
 (zih s (by omega) w).mono fun e w' ⟨he,hw⟩=>⟨he,hw ▸ Below.refl _ _⟩
theorem znj (s:ByteArray) (hs:s.size≤70000) (w:World):Calls Tryz.prog 189 #[.string s] w fun e w'=>e = .returned (.bool (zl3 s))∧Below w.heap.size w w' :=
 (zlt s (by omega) w).mono fun e w' ⟨he,hw⟩=>⟨he,hw ▸ Below.refl _ _⟩
theorem verOk_any (s:ByteArray) (hs:s.size≤70000) {w:World} (hD:zbz w):Calls Tryz.prog 124 #[.string s] w fun e w'=>e = .returned (.bool (zmg s))∧Below w.heap.size w w' :=
 zk4 s (by omega) hD
def zdj (s:ByteArray):Bool:=decide (s=zd1) || decide (s=zd9) || decide (s=zct) || decide (s=zda) || decide (s=zd6) || decide (s=zni)
theorem zau (s:ByteArray) (l:List UInt8) (o:ByteArray) (ho:o=⟨l.toArray⟩):(s.toList == l)=decide (s=o):=by
 have h:=Txt.eq_dec s o
 have e:o.toList=l:=by rw[Lib.toList_data,ho]
 rw[e] at h
 exact h
theorem zjq (s:ByteArray) (w:World):Calls Tryz.prog 155 #[.string s] w fun e w'=>e = .returned (.bool (zdj s))∧w'=w:=by
 have k1:=zau s [118,101,114,115,105,111,110] zd1 rfl
 have k2:=zau s [118,97,114,105,97,110,116] zd9 rfl
 have k3:=zau s [112,114,111,118,105,100,101,115] zct rfl
 have k4:=zau s [100,101,112,101,110,100,115] zda rfl
 have k5:=zau s [99,111,110,102,108,105,99,116,115] zd6 rfl
 have k6:=zau s [102,105,108,101] zni rfl
 unfold zdj
 obtain⟨b1,h1⟩ : ∃ b,b=decide (s=zd1):=⟨_,rfl⟩
 obtain⟨b2,h2⟩ : ∃ b,b=decide (s=zd9):=⟨_,rfl⟩
 obtain⟨b3,h3⟩ : ∃ b,b=decide (s=zct):=⟨_,rfl⟩
 obtain⟨b4,h4⟩ : ∃ b,b=decide (s=zda):=⟨_,rfl⟩
 obtain⟨b5,h5⟩ : ∃ b,b=decide (s=zd6):=⟨_,rfl⟩
 obtain⟨b6,h6⟩ : ∃ b,b=decide (s=zni):=⟨_,rfl⟩
 rw[← h1] at k1 ⊢
 rw[← h2] at k2 ⊢
 rw[← h3] at k3 ⊢
 rw[← h4] at k4 ⊢
 rw[← h5] at k5 ⊢
 rw[← h6] at k6 ⊢
 clear h1 h2 h3 h4 h5 h6
 go_enter Tryz.func155,Tryz.ntmps155
 cases b1 with
 | true=>go_wp2_with fail;go_ret;exact⟨rfl,rfl⟩
 | false =>
  cases b2 with
  | true=>go_wp2_with fail;go_ret;exact⟨rfl,rfl⟩
  | false =>
   cases b3 with
   | true=>go_wp2_with fail;go_ret;exact⟨rfl,rfl⟩
   | false =>
    cases b4 with
    | true=>go_wp2_with fail;go_ret;exact⟨rfl,rfl⟩
    | false =>
     cases b5 with
     | true=>go_wp2_with fail;go_ret;exact⟨rfl,rfl⟩
     | false =>
      cases b6 with
      | true=>go_wp2_with fail;go_ret;exact⟨rfl,rfl⟩
      | false=>go_wp2_with fail;go_ret;exact⟨rfl,rfl⟩
theorem verL_none {ws:List Wd} {i:Nat} (h:ws.length≤i∨zmg (zan ws i)=false):verL (zap ws i)=none:=by
 by_cases hl:ws.length≤i
 ·rw[zaz hl];rfl
 have hv:zmg (zan ws i)=false:=h.resolve_left hl
 rw[zaj (by omega)]
 unfold verL
 split
 ·rename_i h1
  cases (List.cons.inj h1).1
  rw[if_neg (by rw[hv];simp)]
 ·rename_i h1
  cases (List.cons.inj h1).1
  rw[if_neg (by rw[hv];simp)]
 rfl
theorem verL_one {ws:List Wd} {i:Nat} (h:i+1=ws.length) (hv:zmg (zan ws i)=true):verL (zap ws i)=some (zan ws i,false):=by
 rw[zaj (by omega),zaz (by omega)]
 unfold verL
 simp[hv]
theorem verL_two {ws:List Wd} {i:Nat} (h:i+2=ws.length) (hv:zmg (zan ws i)=true) (ho:zan ws (i+1)=wOld):verL (zap ws i)=some (zan ws i,true):=by
 rw[zaj (by omega),zaj (by omega),zaz (by omega)]
 unfold verL
 simp[hv,ho]
theorem zp2 {ws:List Wd} {i:Nat} (h:i+1 < ws.length) (ho:zan ws (i+1)≠wOld∨i+2 < ws.length):verL (zap ws i)=none:=by
 rw[zaj (by omega),zaj (by omega)]
 by_cases h2:i+1+1 < ws.length
 ·rw[zaj h2]
  rfl
 rw[zaz (by omega)]
 unfold verL
 have:=ho.resolve_right (by omega)
 simp[this]
theorem zex {ok:ByteArray→Bool} {ws:List Wd} {i:Nat} (h:i+1=ws.length) (hv:ok (zan ws i)=true):oneL ok (zap ws i)=some (zan ws i):=by
 rw[zaj (by omega),zaz (by omega)]
 unfold oneL
 simp[hv]
theorem zdf {ok:ByteArray→Bool} {ws:List Wd} {i:Nat} (h:ws.length≤i∨ok (zan ws i)=false∨i+1 < ws.length):oneL ok (zap ws i)=none:=by
 by_cases hl:ws.length≤i
 ·rw[zaz hl];rfl
 rw[zaj (by omega)]
 by_cases h2:i+1 < ws.length
 ·rw[zaj h2];rfl
 rw[zaz (by omega)]
 unfold oneL
 have hv:=(h.resolve_left hl).resolve_right h2
 simp[hv]
theorem ze6 {ws:List Wd} {i:Nat} (h:i < ws.length):varL (zap ws i)=if zcw (zan ws i)=true then (zdv zl3 (zap ws (i+1))).map fun q=>(zan ws i,q) else none:=by
 rw[zaj h]
 rfl
theorem zci {n:Int} {ws:List Wd} {i:Nat} (h:i < ws.length):zia n (zap ws i)=if zcw (zan ws i)=true then (zdv zcw (zap ws (i+1))).map fun q=>(zan ws i,q,n) else none:=by
 rw[zaj h]
 rfl
end

section
open Go.RowKit
theorem flat_len' {k:Nat}:∀ {css:List (List Value)},(∀ cs∈css,cs.length=k)→css.flatten.length=css.length * k
 | [],_=>by simp
 | c :: css,h=>by
  rw[List.flatten_cons,List.length_append,flat_len' (fun x hx=>h x (by simp[hx])),h c (by simp),List.length_cons,Nat.succ_mul];omega
theorem flat_get' {k:Nat}:∀ {css:List (List Value)},(∀ cs∈css,cs.length=k)→∀ (i:Nat) (h:i < css.length) (j:Nat),j < k→css.flatten[i * k+j]? = css[i][j]?
 | [],_,i,h,_,_=>by simp at h
 | c :: css,hk,0,_,j,hj=>by
  rw[List.flatten_cons,Nat.zero_mul,Nat.zero_add,List.getElem?_append_left (by rw[hk c (by simp)];exact hj)];rfl
 | c :: css,hk,i+1,h,j,hj=>by
  have hc:=hk c (by simp)
  rw[List.flatten_cons,List.getElem?_append_right (by rw[hc,Nat.succ_mul];omega),hc,show (i+1) * k+j - k=i * k+j by rw[Nat.succ_mul];omega]
  rw[flat_get' (fun x hx=>hk x (by simp[hx])) i (by simpa using h) j hj];rfl
structure Cells {α:Type} (R:Rd α) (sz:Nat) (w:World) (a:Option Addr) (css:List (List Value)) (l:List α):Prop where
 len:css.length=l.length
 sz:∀ cs∈css,cs.length=sz
 rd:∀ (i:Nat) cs x,css[i]? = some cs→l[i]? = some x→R w cs x
 at':∀ (j:Nat) u,css.flatten[j]? = some u→∃ b off,a=some ⟨b,off,none⟩∧w.cell? ⟨b,off+j,none⟩=some u
theorem znq {α:Type} {sz:Nat} {R:Rd α} {w:World} {a:Option Addr} {n cap:Nat} {l:List α} (hsz:0 < sz) (h:zb8 sz R w [.slice a n cap] l):∃ css,Cells R sz w a css l:=by
 obtain⟨a',cap',hv,hcap,hmax,hel⟩:=h
 simp only[List.cons.injEq,and_true,Value.slice.injEq] at hv
 obtain⟨rfl,rfl,rfl⟩:=hv
 have hex:∀ i:Fin l.length,∃ ecs:List Value,ecs.length=sz∧(∀ (j:Nat) u,ecs[j]? = some u→∃ b off,a=some ⟨b,off,none⟩∧w.cell? ⟨b,off+(i.1 * sz+j),none⟩=some u)∧R w ecs l[i.1]:=fun i=>by
  obtain⟨b,off,ecs,h1,h2,h3,h4⟩:=hel i.1 _ (List.getElem?_eq_getElem i.2)
  exact⟨ecs,h2,fun j u hu=>⟨b,off,h1,by rw[← Nat.add_assoc];exact h3 j u hu⟩,h4⟩
 have hk:∀ cs∈List.ofFn fun i=>Classical.choose (hex i),cs.length=sz:=fun cs hcs=>by
  obtain⟨i,rfl⟩:=List.mem_ofFn.1 hcs
  exact (Classical.choose_spec (hex i)).1
 refine⟨List.ofFn fun i=>Classical.choose (hex i),by simp,hk,fun i cs x hcs hx=>?_,fun t u hu=>?_⟩
 ·have hi:=(List.getElem?_eq_some_iff.1 hx).1
  have hlx:=(List.getElem?_eq_some_iff.1 hx).2
  rw[List.getElem?_eq_getElem (by simpa using hi),List.getElem_ofFn] at hcs
  cases hcs
  have:=(Classical.choose_spec (hex ⟨i,hi⟩)).2.2
  rw[← hlx];exact this
 have ht:=(List.getElem?_eq_some_iff.1 hu).1
 rw[flat_len' hk,List.length_ofFn] at ht
 have hq:t / sz < l.length:=Nat.div_lt_of_lt_mul (by rw[Nat.mul_comm];exact ht)
 have hr:t % sz < sz:=Nat.mod_lt _ hsz
 have et:t / sz * sz+t % sz=t:=by rw[Nat.mul_comm];exact Nat.div_add_mod t sz
 have e1:=flat_get' hk (t / sz) (by simpa using hq) (t % sz) hr
 rw[et,hu,List.getElem_ofFn] at e1
 obtain⟨b,off,h1,h2⟩:=(Classical.choose_spec (hex ⟨t / sz,hq⟩)).2.1 (t % sz) u e1.symm
 exact⟨b,off,h1,by simpa [et] using h2⟩
theorem zcf {α:Type} {sz:Nat} {R:Rd α} {w:World} {B:Nat} {e:TypeId} {v:Value} {css:List (List Value)} {l:List α} (hsz:0 < sz) (hlen:css.length=l.length) (hk:∀ cs∈css,cs.length=sz) (h:w.ownsRow B e sz v l.length css.flatten) (hr:∀ (i:Nat) cs x,css[i]? = some cs→l[i]? = some x→R w cs x):zb8 sz R w [v] l:=by
 obtain⟨a,cap,rfl,h1,h2,h3⟩:=Sl.of_owns h
 refine⟨a,cap,rfl,h1,h2,fun i x hi=>?_⟩
 have hil:=(List.getElem?_eq_some_iff.1 hi).1
 have hic:i < css.length:=by omega
 have hcl:=hk _ (List.getElem_mem hic)
 have hc:∀ c,c < sz→∀ u,css[i][c]? = some u→∃ b off,a=some ⟨b,off,none⟩∧w.cell? ⟨b,off+(i * sz+c),none⟩=some u:=fun c hc u hu=>h3 (i * sz+c) u (by rw[flat_get' hk i hic c hc];exact hu)
 obtain⟨b,off,ha,_⟩:=hc 0 hsz (css[i][0]'(by omega)) (List.getElem?_eq_getElem (by omega))
 refine⟨b,off,css[i],ha,hcl,fun j u hu=>?_,hr i _ x (List.getElem?_eq_getElem hic) hi⟩
 have hj:=(List.getElem?_eq_some_iff.1 hu).1
 obtain⟨b',off',ha',h5⟩:=hc j (by omega) u hu
 rw[ha] at ha'
 cases ha'
 rw[Nat.add_assoc];exact h5
end

section
open Go.RowKit
def Ft (W:World) (F:Nat→Prop) (P:World→Prop):Prop:=∀ W':World,W.heap.size≤W'.heap.size→(∀ k,k < W.heap.size→F k→W'.heap[k]? = W.heap[k]?)→P W'
section
variable {W W' : World} {F G T : Nat → Prop} {P Q : World → Prop}
theorem Ft.here (h:Ft W F P):P W:=h W (Nat.le_refl _) fun _ _ _=>rfl
theorem Ft.frm (h:Ft W F P) (hF:Frm T W W') (hT:∀ k,k < W.heap.size→F k→¬ T k) (hG:∀ k,k < W.heap.size→F k→G k):Ft W' G P :=
 fun V hV hk=>h V (Nat.le_trans hF.size hV) fun k k1 k2=>(hk k (Nat.lt_of_lt_of_le k1 hF.size) (hG k k1 k2)).trans (hF.block k k1 (hT k k1 k2))
theorem Ft.and (h:Ft W F P) (h2:Ft W F Q):Ft W F fun W=>P W∧Q W:=fun V hV hk=>⟨h V hV hk,h2 V hV hk⟩
theorem Ft.imp (h:Ft W F P) (hi:∀ V,P V→Q V):Ft W F Q:=fun V hV hk=>hi V (h V hV hk)
theorem Ft.mono (h:Ft W F P) (hG:∀ k,k < W.heap.size→F k→G k):Ft W G P:=fun V hV hk=>h V hV fun k k1 k2=>hk k k1 (hG k k1 k2)
end
theorem RSlT.ft {α:Type} {sz:Nat} {R:Rd α} {e:TypeId} {W:World} {v:Value} {L:List α} (hR:∀ W W' cs x,R W cs x→R W' cs x) (h:RSlT sz R e W v L):Ft W (fun k=>L≠[]∧v.ownBlock=some k) fun W'=>RSlT sz R e W' v L:=by
 intro V hV hk
 obtain⟨⟨a,cap,hv,h1,h2,hel⟩,ht⟩:=h
 have hv':=hv
 simp only[List.cons.injEq,and_true] at hv'
 refine⟨⟨a,cap,hv,h1,h2,fun i x hi=>?_⟩,fun hL k hk2=>?_⟩
 ·obtain⟨b,off,ecs,e1,e2,e3,e4⟩:=hel i x hi
  have hL:L≠[]:=by rintro rfl;simp at hi
  refine⟨b,off,ecs,e1,e2,fun j u hu=>?_,hR _ _ _ _ e4⟩
  have k:=e3 j u hu
  have hb:=World.block_lt_of_cell? W _ k
  exact (World.cell?_of_block (hk b hb ⟨hL,by rw[hv',e1];rfl⟩)).trans k
 obtain⟨cs,fr,hb⟩:=ht hL k hk2
 exact⟨cs,fr,(hk k (Array.getElem?_eq_some_iff.1 hb).1 ⟨hL,hk2⟩).trans hb⟩
theorem spsT_ft {W:World} {v:Value} {L:List BSp} (h:zg2 W v L):Ft W (fun k=>L≠[]∧v.ownBlock=some k) fun W'=>zg2 W' v L:=RSlT.ft (fun _ _ _ _ h=>h) h
theorem setsT_ft {W:World} {v:Value} {L:List Setg} (h:zel W v L):Ft W (fun k=>L≠[]∧v.ownBlock=some k) fun W'=>zel W' v L:=RSlT.ft (fun _ _ _ _ h=>h) h
def Ty (W:World) (k:Nat):Prop:=∃ cs e fr,W.heap[k]? = some (.cells cs e fr)∧(e=34∨e=109)
theorem Ty.keep {W W':World} {T:Nat→Prop} {k:Nat} (h:Ty W k) (hF:Frm T W W') (hT:¬ T k):Ty W' k:=by
 obtain⟨cs,e,fr,h1,h2⟩:=h
 exact⟨cs,e,fr,(hF.block k (Array.getElem?_eq_some_iff.1 h1).1 hT).trans h1,h2⟩
theorem zb5 {W:World} {k:Nat} {cs:Array Value} {e:TypeId} {fr:Nat × Nat} (h:W.heap[k]? = some (.cells cs e fr)) (h1:e≠34∧e≠109):¬ Ty W k:=by
 rintro⟨cs',e',fr',h2,h3⟩
 rw[h] at h2
 cases h2
 exact h3.elim h1.1 h1.2
def Fx (W:World) (t:Nat→Nat) (k:Nat):Prop:=t k=3∨Ty W k
structure RowL {α:Type} (W:World) (t:Nat→Nat) (c B:Nat) (e:TypeId) (size:Nat) (R:Rd α) (v:Value) (l:List α) (css:List (List Value)):Prop where
 row:W.ownsRow B e size v l.length css.flatten
 len:css.length=l.length
 els:Ft W (Fx W t) fun W'=>∀ (i:Nat) cs x,css[i]? = some cs→l[i]? = some x→R W' cs x
 tag:∀ k,v.ownBlock=some k→t k=c
def zah (t:Nat→Nat) (n c:Nat):Nat→Nat:=fun k=>if k < n then t k else c
theorem za8 {t:Nat→Nat} {n c k:Nat} (h:k < n):zah t n c k=t k:=if_pos h
theorem zbl {t:Nat→Nat} {n c k:Nat} (h:n≤k):zah t n c k=c:=if_neg (by omega)
section
variable {α : Type} {W W' : World} {t t' : Nat → Nat} {c B : Nat} {e : TypeId} {size : Nat} {R : Rd α} {v : Value} {l : List α} {css : List (List Value)} {T : Nat → Prop} {P : World → Prop}
theorem Ft.fx (h:Ft W (Fx W t) P) (hF:Frm T W W') (hT:∀ k,k < W.heap.size→T k→t k≠3∧¬ Ty W k) (h3:∀ k,k < W.heap.size→t k=3→t' k=3):Ft W' (Fx W' t') P :=
 h.frm hF (fun k k1 k2 kT=>k2.elim (hT k k1 kT).1 (hT k k1 kT).2) fun k k1 k2=>k2.elim (fun h=>.inl (h3 k k1 h)) fun h=>.inr (h.keep hF fun kT=>(hT k k1 kT).2 h)
theorem RowL.to (h:RowL W t c B e size R v l css) (hF:Frm T W W') (hT:∀ k,k < W.heap.size→T k→t k≠c∧t k≠3∧¬ Ty W k) (h3:∀ k,k < W.heap.size→t k=3→t' k=3) (hc:∀ k,k < W.heap.size→t k=c→t' k=c):RowL W' t' c B e size R v l css :=
 ⟨hF.owns h.row fun k hk kT=>(hT k (h.row.lt k hk).2 kT).1 (h.tag k hk),h.len,h.els.fx hF (fun k k1 k2=>(hT k k1 k2).2) h3,fun k hk=>hc k (h.row.lt k hk).2 (h.tag k hk)⟩
theorem RowL.below (h:RowL W t c B e size R v l css) (hb:Below W.heap.size W W'):RowL W' t c B e size R v l css :=
 h.to (Frm.of_below (S:=fun _=>False) hb) (fun _ _ h=>h.elim) (fun _ _ h=>h) (fun _ _ h=>h)
theorem RowL.nil:RowL W t c B e size R (.slice none 0 0) [] []:=⟨World.ownsRow_nil _ _ _ _,rfl,fun _ _ _ i cs x h=>by simp at h,fun k h=>by simp[Value.ownBlock] at h⟩
theorem RowL.all (h:RowL W t c B e size R v l css):∀ cs∈css,∃ x,R W cs x:=fun cs hcs=>by
 obtain⟨i,hi,e⟩:=List.getElem_of_mem hcs
 exact⟨l[i]'(by rw[← h.len];exact hi),h.els.here i cs _ (by rw[← e];exact List.getElem?_eq_getElem hi) (List.getElem?_eq_getElem (by rw[← h.len];exact hi))⟩
theorem RowL.reads (h:RowL W t c B e size R v l css) (hs:0 < size) (hk:∀ W cs x,R W cs x→cs.length=size):zb8 size R W [v] l :=
 zcf hs h.len (fun cs hcs=>by obtain⟨x,hx⟩:=h.all cs hcs;exact hk _ _ _ hx) h.row h.els.here
theorem RowL.ft (h:RowL W t c B e size R v l css) (hs:0 < size) (hk:∀ W cs x,R W cs x→cs.length=size):Ft W (fun k=>t k=c∨Fx W t k) fun W'=>zb8 size R W' [v] l:=by
 intro V hV hb
 refine zcf (B:=B) (e:=e) hs h.len (fun cs hcs=>by obtain⟨x,hx⟩:=h.all cs hcs;exact hk _ _ _ hx) ?_ (h.els V hV fun k k1 k2=>hb k k1 (.inr k2))
 refine⟨h.row.1,?_⟩
 rcases h.row.2 with hn | ⟨g,cap,cur,rfl,hg,hgg,rest⟩
 ·exact .inl hn
 exact .inr ⟨g,cap,cur,rfl,hg,by rw[hb g (Array.getElem?_eq_some_iff.1 hgg).1 (.inl (h.tag g rfl))];exact hgg,rest⟩
theorem zaq (h:RowL W t c B e size R v l css) (he:e≠34∧e≠109) {k:Nat} (hk:v.ownBlock=some k):¬ Ty W k:=by
 obtain⟨cs,hc⟩:=zbt h.row k hk
 exact zb5 hc he
theorem RowL.push {w9:World} {v9:Value} {x:α} {cs:List Value} {m:Nat} (h:RowL W t c B e size R v l css) (he:e≠34∧e≠109) (hc:c≠3) (hx:Ft W (Fx W t) fun W'=>R W' cs x) (hm:m=l.length)
  (ho:w9.ownsRow B e size v9 (m+1) (css.flatten ++ cs)) (hg:W.grownBy w9 v.ownBlock) (hmv:zg4 W v v9):RowL w9 (zah t W.heap.size c) c B e size R v9 (l ++ [x]) (css ++ [cs]):=by
 have hF:=za7 hg
 have hT:∀ k,k < W.heap.size→v.ownBlock=some k→t k≠3∧¬ Ty W k:=fun k _ hk=>⟨fun h3=>hc (by rw[← h.tag k hk,h3]),zaq h he hk⟩
 have hG:∀ k,k < W.heap.size→t k=3→zah t W.heap.size c k=3:=fun k hk h3=>by rw[za8 hk,h3]
 refine⟨by rw[List.length_append,← hm,List.flatten_append];simpa using ho,by simp[h.len],?_,fun k hk=>?_⟩
 ·refine ((h.els.and hx).fx hF hT hG).imp fun V hV i ds y e1 e2=>?_
  by_cases hi:i < css.length
  ·rw[List.getElem?_append_left hi] at e1
   rw[List.getElem?_append_left (by rw[← h.len];exact hi)] at e2
   exact hV.1 i ds y e1 e2
  have hlt:=(List.getElem?_eq_some_iff.1 e1).1
  have e:i=css.length:=by simp at hlt;omega
  rw[List.getElem?_append_right (by omega),e,Nat.sub_self] at e1
  rw[List.getElem?_append_right (by rw[← h.len];omega),e,h.len,Nat.sub_self] at e2
  simp at e1 e2
  subst e1 e2
  exact hV.2
 rcases hmv k hk with hk | hk
 ·rw[za8 (h.row.lt k hk).2]
  exact h.tag k hk
 exact zbl hk
end
end

section
open Go.RowKit
def zjw:Rd RlsM:=fun _ cs x=>cs = [.string x.1,.bool x.2]
def zic:Rd zln:=fun W cs x=>∃ v,cs = [.string x.1,v]∧RTs W [v] x.2
def zjv (W:World) (a b c:Value) (s:Spc3):Prop:=a = .string s.1∧RSps W [b] s.2.1∧zfj W [c] s.2.2
def zfp:Rd DepM:=fun W cs x=>∃ a1 a2 a3 b1 b2 b3,cs = [a1,a2,a3,b1,b2,b3,.int .i64 x.2.2]∧zjv W a1 a2 a3 x.1∧zjv W b1 b2 b3 x.2.1
def RPfM:Rd PrfM:=fun W cs x=>∃ v,cs = [.string x.1,v,.int .i64 x.2.2]∧RTs W [v] x.2.1
def RPkM:Rd PkgM:=fun W cs x=>∃ v2 v3 v4 v5 v6 v7,cs = [.string x.name,.int .i64 x.line,v2,v3,v4,v5,v6,v7]∧zb8 2 zjw W [v2] x.rel∧zb8 2 zic W [v3] x.vars∧RTs W [v4] x.prov∧zb8 7 zfp W [v5] x.dep∧zb8 7 zfp W [v6] x.conf∧RTs W [v7] x.files
def zhu (W:World) (vp vf:Value) (x:RcpM):Prop:=zb8 8 RPkM W [vp] x.pk∧zb8 3 RPfM W [vf] x.pf
theorem zk9:zgg zjw:=fun _ _ _ _ h _=>h
theorem zk8:zgg zic:=fun _ _ _ _ ⟨v,e,h⟩ hb=>⟨v,e,zbc h hb⟩
theorem zjv.below {W W':World} {a b c:Value} {s:Spc3} (h:zjv W a b c s) (hb:Below W.heap.size W W'):zjv W' a b c s:=⟨h.1,zam zbw _ _ _ _ h.2.1 hb,zam zbx _ _ _ _ h.2.2 hb⟩
theorem zg7:zgg zfp:=fun _ _ _ _ ⟨a1,a2,a3,b1,b2,b3,e,h1,h2⟩ hb=>⟨a1,a2,a3,b1,b2,b3,e,h1.below hb,h2.below hb⟩
theorem ziu:zgg RPfM:=fun _ _ _ _ ⟨v,e,h⟩ hb=>⟨v,e,zbc h hb⟩
theorem zit:zgg RPkM:=fun _ _ _ _ ⟨v2,v3,v4,v5,v6,v7,e,h2,h3,h4,h5,h6,h7⟩ hb =>
 ⟨v2,v3,v4,v5,v6,v7,e,zam zk9 _ _ _ _ h2 hb,zam zk8 _ _ _ _ h3 hb,zbc h4 hb,zam zg7 _ _ _ _ h5 hb,zam zg7 _ _ _ _ h6 hb,zbc h7 hb⟩
theorem zhu.below {W W':World} {vp vf:Value} {x:RcpM} (h:zhu W vp vf x) (hb:Below W.heap.size W W'):zhu W' vp vf x:=⟨zam zit _ _ _ _ h.1 hb,zam ziu _ _ _ _ h.2 hb⟩
theorem len_rlsM {W:World} {cs:List Value} {x:RlsM} (h:zjw W cs x):cs.length=2:=by rw[show cs=_ from h];rfl
theorem len_varM {W:World} {cs:List Value} {x:zln} (h:zic W cs x):cs.length=2:=by obtain⟨v,e,_⟩:=h;rw[e];rfl
theorem zpq {W:World} {cs:List Value} {x:DepM} (h:zfp W cs x):cs.length=7:=by obtain⟨a1,a2,a3,b1,b2,b3,e,_⟩:=h;rw[e];rfl
theorem len_pfM {W:World} {cs:List Value} {x:PrfM} (h:RPfM W cs x):cs.length=3:=by obtain⟨v,e,_⟩:=h;rw[e];rfl
theorem len_pkM {W:World} {cs:List Value} {x:PkgM} (h:RPkM W cs x):cs.length=8:=by obtain⟨v2,v3,v4,v5,v6,v7,e,_⟩:=h;rw[e];rfl
theorem len_str {W:World} {cs:List Value} {x:ByteArray} (h:RStr W cs x):cs.length=1:=by rw[h.1];rfl
structure PkS (W:World) (t:Nat→Nat) (B:Nat) (p:PkgM) (v2 v3 v4 v5 v6 v7:Value):Prop where
 rel:∃ css,RowL W t 4 B 157 2 zjw v2 p.rel css
 vars:∃ css,RowL W t 5 B 159 2 zic v3 p.vars css
 prov:∃ css,RowL W t 6 B 9 1 RStr v4 p.prov css
 dep:∃ css,RowL W t 7 B 134 7 zfp v5 p.dep css
 conf:∃ css,RowL W t 8 B 197 7 zfp v6 p.conf css
 files:∃ css,RowL W t 9 B 9 1 RStr v7 p.files css
def Live (n:Nat):Prop:=4≤n∧n≤9
section
variable {W W' : World} {t t' : Nat → Nat} {B : Nat} {p : PkgM} {v2 v3 v4 v5 v6 v7 : Value} {T : Nat → Prop}
theorem PkS.to (h:PkS W t B p v2 v3 v4 v5 v6 v7) (hF:Frm T W W') (hT:∀ k,k < W.heap.size→T k→¬ Live (t k)∧t k≠3∧¬ Ty W k) (hG:∀ k,k < W.heap.size→(t k=3∨Live (t k))→t' k=t k):PkS W' t' B p v2 v3 v4 v5 v6 v7:=by
 have go:∀ {α:Type} {c:Nat} {e:TypeId} {size:Nat} {R:Rd α} {v:Value} {l:List α},Live c→(∃ css,RowL W t c B e size R v l css)→∃ css,RowL W' t' c B e size R v l css:=by
  rintro α c e size R v l hc ⟨css,h⟩
  exact⟨css,h.to hF (fun k k1 k2=>⟨fun e=>(hT k k1 k2).1 (by rw[e];exact hc),(hT k k1 k2).2⟩) (fun k k1 k2=>by rw[hG k k1 (.inl k2),k2]) (fun k k1 k2=>by rw[hG k k1 (.inr (by rw[k2];exact hc)),k2])⟩
 exact⟨go ⟨by omega,by omega⟩ h.rel,go ⟨by omega,by omega⟩ h.vars,go ⟨by omega,by omega⟩ h.prov,go ⟨by omega,by omega⟩ h.dep,go ⟨by omega,by omega⟩ h.conf,go ⟨by omega,by omega⟩ h.files⟩
theorem PkS.below (h:PkS W t B p v2 v3 v4 v5 v6 v7) (hb:Below W.heap.size W W'):PkS W' t B p v2 v3 v4 v5 v6 v7:=h.to (Frm.of_below (S:=fun _=>False) hb) (fun _ _ h=>h.elim) (fun _ _ _=>rfl)
theorem PkS.ft (h:PkS W t B p v2 v3 v4 v5 v6 v7):Ft W (fun k=>Fx W t k∨Live (t k)) fun W'=>RPkM W' [.string p.name,.int .i64 p.line,v2,v3,v4,v5,v6,v7] p:=by
 obtain⟨⟨c2,h2⟩,⟨c3,h3⟩,⟨c4,h4⟩,⟨c5,h5⟩,⟨c6,h6⟩,⟨c7,h7⟩⟩:=h
 have go:∀ {c:Nat} {P:World→Prop},Live c→Ft W (fun k=>t k=c∨Fx W t k) P→Ft W (fun k=>Fx W t k∨Live (t k)) P:=fun hc h=>h.mono fun k _ hk=>hk.elim (fun e=>.inr (by rw[e];exact hc)) .inl
 have e2:=go ⟨by omega,by omega⟩ (h2.ft (by omega) fun _ _ _=>len_rlsM)
 have e3:=go ⟨by omega,by omega⟩ (h3.ft (by omega) fun _ _ _=>len_varM)
 have e4:=go ⟨by omega,by omega⟩ (h4.ft (by omega) fun _ _ _=>len_str)
 have e5:=go ⟨by omega,by omega⟩ (h5.ft (by omega) fun _ _ _=>zpq)
 have e6:=go ⟨by omega,by omega⟩ (h6.ft (by omega) fun _ _ _=>zpq)
 have e7:=go ⟨by omega,by omega⟩ (h7.ft (by omega) fun _ _ _=>len_str)
 exact ((((((e2.and e3).and e4).and e5).and e6).and e7)).imp fun V ⟨⟨⟨⟨⟨k2,k3⟩,k4⟩,k5⟩,k6⟩,k7⟩=>⟨_,_,_,_,_,_,rfl,k2,k3,k4,k5,k6,k7⟩
end
structure zc9 (W:World) (t:Nat→Nat) (B:Nat) (vp:Value) (ps:List PkgM) (p:PkgM) (dss:List (List Value)) (v2 v3 v4 v5 v6 v7:Value):Prop where
 row:W.ownsRow B 123 8 vp (ps.length+1) (dss.flatten ++ [.string p.name,.int .i64 p.line,v2,v3,v4,v5,v6,v7])
 len:dss.length=ps.length
 fix:Ft W (Fx W t) (fun W'=>∀ (i:Nat) cs x,dss[i]? = some cs→ps[i]? = some x→RPkM W' cs x)
 tag:∀ k,vp.ownBlock=some k→t k=1
 last:PkS W t B p v2 v3 v4 v5 v6 v7
def PkRow (W:World) (t:Nat→Nat) (B:Nat) (vp:Value) (pks:List PkgM):Prop :=
 (pks = []∧vp = .slice none 0 0)∨∃ (ps:List PkgM) (p:PkgM) (dss:List (List Value)) (v2 v3 v4 v5 v6 v7:Value),pks=ps ++ [p]∧zc9 W t B vp ps p dss v2 v3 v4 v5 v6 v7
structure RcSt (W:World) (t:Nat→Nat) (B xb:Nat) (vp vf:Value) (x:RcpM):Prop where
 box:W.heap[xb]? = some (.cells #[vp,vf] 73 (0,0))
 tbox:t xb=0
 pf:∃ css,RowL W t 2 B 125 3 RPfM vf x.pf css
 pk:PkRow W t B vp x.pk
section
variable {W W' : World} {t t' : Nat → Nat} {B xb : Nat} {vp vf : Value} {x : RcpM} {pks : List PkgM} {T : Nat → Prop}
theorem zc9.to {ps:List PkgM} {p:PkgM} {dss:List (List Value)} {v2 v3 v4 v5 v6 v7:Value} (h:zc9 W t B vp ps p dss v2 v3 v4 v5 v6 v7) (hF:Frm T W W') (hT:∀ k,k < W.heap.size→T k→¬ Live (t k)∧t k≠3∧t k≠1∧¬ Ty W k) (hG:∀ k,k < W.heap.size→(t k=3∨Live (t k)∨t k=1)→t' k=t k):zc9 W' t' B vp ps p dss v2 v3 v4 v5 v6 v7 :=
 ⟨hF.owns h.row fun k hk kT=>(hT k (h.row.lt k hk).2 kT).2.2.1 (h.tag k hk),h.len,h.fix.fx hF (fun k k1 k2=>⟨(hT k k1 k2).2.1,(hT k k1 k2).2.2.2⟩) (fun k k1 k2=>by rw[hG k k1 (.inl k2),k2]),fun k hk=>by rw[hG k (h.row.lt k hk).2 (.inr (.inr (h.tag k hk))),h.tag k hk],h.last.to hF (fun k k1 k2=>⟨(hT k k1 k2).1,(hT k k1 k2).2.1,(hT k k1 k2).2.2.2⟩) fun k k1 k2=>hG k k1 (k2.elim .inl fun h=>.inr (.inl h))⟩
theorem PkRow.to (h:PkRow W t B vp pks) (hF:Frm T W W') (hT:∀ k,k < W.heap.size→T k→¬ Live (t k)∧t k≠3∧t k≠1∧¬ Ty W k) (hG:∀ k,k < W.heap.size→(t k=3∨Live (t k)∨t k=1)→t' k=t k):PkRow W' t' B vp pks:=by
 rcases h with h | ⟨ps,p,dss,v2,v3,v4,v5,v6,v7,h1,L⟩
 ·exact .inl h
 exact .inr ⟨ps,p,dss,v2,v3,v4,v5,v6,v7,h1,L.to hF hT hG⟩
theorem RcSt.to (h:RcSt W t B xb vp vf x) (hF:Frm T W W') (hT:∀ k,k < W.heap.size→T k→9 < t k∧¬ Ty W k) (hG:∀ k,k < W.heap.size→t k≤9→t' k=t k):RcSt W' t' B xb vp vf x:=by
 have hx:=(Array.getElem?_eq_some_iff.1 h.box).1
 refine⟨zaf h.box hF fun k=>by have:=(hT xb hx k).1;have:=h.tbox;omega,by rw[hG xb hx (by rw[h.tbox];omega),h.tbox],?_,h.pk.to hF (fun k k1 k2=>?_) fun k k1 k2=>hG k k1 ?_⟩
 ·obtain⟨css,hp⟩:=h.pf
  exact⟨css,hp.to hF (fun k k1 k2=>by have:=hT k k1 k2;exact⟨by omega,by omega,this.2⟩) (fun k k1 k2=>by rw[hG k k1 (by omega),k2]) (fun k k1 k2=>by rw[hG k k1 (by omega),k2])⟩
 ·have:=hT k k1 k2
  unfold Live
  exact⟨by omega,by omega,by omega,this.2⟩
 rcases k2 with k | k | k
 ·omega
 ·exact k.2
 omega
theorem RcSt.below (h:RcSt W t B xb vp vf x) (hb:Below W.heap.size W W'):RcSt W' t B xb vp vf x:=h.to (Frm.of_below (S:=fun _=>False) hb) (fun _ _ h=>h.elim) (fun _ _ _=>rfl)
theorem zc9.reads {ps:List PkgM} {p:PkgM} {dss:List (List Value)} {v2 v3 v4 v5 v6 v7:Value} (h:zc9 W t B vp ps p dss v2 v3 v4 v5 v6 v7):zb8 8 RPkM W [vp] (ps ++ [p]):=by
 have hall:∀ (i:Nat) cs y,(dss ++ [[.string p.name,.int .i64 p.line,v2,v3,v4,v5,v6,v7]])[i]? = some cs→(ps ++ [p])[i]? = some y→RPkM W cs y:=fun i cs y e1 e2=>by
  by_cases hi:i < dss.length
  ·rw[List.getElem?_append_left hi] at e1
   rw[List.getElem?_append_left (by rw[← h.len];exact hi)] at e2
   exact h.fix.here i cs y e1 e2
  have hlt:=(List.getElem?_eq_some_iff.1 e1).1
  have e:i=dss.length:=by simp at hlt;omega
  rw[List.getElem?_append_right (by omega),e,Nat.sub_self] at e1
  rw[List.getElem?_append_right (by rw[← h.len];omega),e,h.len,Nat.sub_self] at e2
  simp at e1 e2
  subst e1 e2
  exact h.last.ft.here
 refine zcf (B:=B) (e:=123) (css:=dss ++ [[.string p.name,.int .i64 p.line,v2,v3,v4,v5,v6,v7]]) (by decide) (by simp[h.len]) (fun cs hcs=>?_) (by simpa using h.row) hall
 obtain⟨i,hi,e⟩:=List.getElem_of_mem hcs
 exact len_pkM (hall i cs ((ps ++ [p])[i]'(by have:=h.len;simp at hi ⊢;omega)) (by rw[← e];exact List.getElem?_eq_getElem hi) (List.getElem?_eq_getElem _))
theorem RcSt.reads (h:RcSt W t B xb vp vf x):zhu W vp vf x:=by
 obtain⟨css,hp⟩:=h.pf
 refine⟨?_,hp.reads (by omega) fun _ _ _=>len_pfM⟩
 rcases h.pk with⟨h1,h2⟩ | ⟨ps,p,dss,v2,v3,v4,v5,v6,v7,h1,L⟩
 ·rw[h1,h2]
  exact⟨_,0,rfl,Nat.zero_le _,Nat.zero_le _,fun i x hi=>by simp at hi⟩
 rw[h1]
 exact L.reads
theorem RcSt.nil (h:W.heap[xb]? = some (.cells #[.slice none 0 0,.slice none 0 0] 73 (0,0))) (ht:t xb=0):RcSt W t B xb (.slice none 0 0) (.slice none 0 0) ⟨[],[]⟩ :=
 ⟨h,ht,⟨[],RowL.nil⟩,.inl ⟨rfl,rfl⟩⟩
theorem zfh {W:World} {B:Nat} {e:TypeId} {v:Value} {n:Nat} {ds:List Value} {a0 a1 a2 a3 a4 a5 a6 a7:Value} (h:W.ownsRow B e 8 v (n+1) (ds ++ [a0,a1,a2,a3,a4,a5,a6,a7])):ds.length=n * 8:=by
 have:=h.1
 simp at this
 omega
theorem RcSt.step {ps:List PkgM} {p p':PkgM} {dss:List (List Value)} {v2 v3 v4 v5 v6 v7:Value} (h:RcSt W t B xb vp vf x) (L':zc9 W' t' B vp ps p' dss v2 v3 v4 v5 v6 v7) (hF:Frm T W W') (hT:∀ k,k < W.heap.size→T k→(Live (t k)∨t k=1)∧¬ Ty W k) (hG:∀ k,k < W.heap.size→t' k=t k):RcSt W' t' B xb vp vf ⟨ps ++ [p'],x.pf⟩:=by
 have hx:=(Array.getElem?_eq_some_iff.1 h.box).1
 refine⟨zaf h.box hF fun k=>by have:=(hT xb hx k).1;have:=h.tbox;unfold Live at *;omega,by rw[hG xb hx,h.tbox],?_,.inr ⟨_,_,_,_,_,_,_,_,_,rfl,L'⟩⟩
 obtain⟨css,hp⟩:=h.pf
 exact⟨css,hp.to hF (fun k k1 k2=>by have:=hT k k1 k2;unfold Live at this;exact⟨by omega,by omega,this.2⟩) (fun k k1 k2=>by rw[hG k k1,k2]) (fun k k1 k2=>by rw[hG k k1,k2])⟩
end
theorem zc9.rel_push {W w9:World} {t:Nat→Nat} {B pb cap:Nat} {ps:List PkgM} {p:PkgM} {dss:List (List Value)} {v2 v3 v4 v5 v6 v7 v9:Value} {css:List (List Value)} {cs:List Value} {q:RlsM}
  (L:zc9 W t B (.slice (some ⟨pb,0,none⟩) (ps.length+1) cap) ps p dss v2 v3 v4 v5 v6 v7) (hr:RowL W t 4 B 157 2 zjw v2 p.rel css) (hx:Ft W (Fx W t) fun W'=>zjw W' cs q)
  (ho:w9.ownsRow B 157 2 v9 (p.rel.length+1) (css.flatten ++ cs)) (hg:W.grownBy w9 v2.ownBlock) (hm:zg4 W v2 v9) :
  zc9 (w9.setCell ⟨pb,ps.length * 8+2,none⟩ v9) (zah t W.heap.size 4) B (.slice (some ⟨pb,0,none⟩) (ps.length+1) cap) ps { p with rel:=p.rel ++ [q] } dss v9 v3 v4 v5 v6 v7:=by
 have hF1:=za7 hg
 have hpb:pb < W.heap.size:=(L.row.lt pb rfl).2
 have tpb:t pb=1:=L.tag pb rfl
 have hF2:Frm (fun k=>k=pb) w9 (w9.setCell ⟨pb,ps.length * 8+2,none⟩ v9):=zad (Frm.refl _ _) _ _
 have h3:∀ k,k < W.heap.size→t k=3→zah t W.heap.size 4 k=3:=fun k hk h=>by rw[za8 hk,h]
 have hT1:∀ k,v2.ownBlock=some k→∀ {c'},4≠c'→t k≠c'∧t k≠3∧¬ Ty W k:=fun k hk c' hc=>by
  have e:=hr.tag k hk
  exact⟨by omega,by omega,zaq hr (by decide) hk⟩
 have hrow9:=hF1.owns L.row (fun k hk kT=>by
  have e:=hr.tag k kT
  have e2:=L.tag k hk
  omega)
 have hty9:¬ Ty w9 pb:=by
  obtain⟨cs',hc⟩:=zbt hrow9 pb rfl
  exact zb5 hc (by decide)
 have t9:zah t W.heap.size 4 pb=1:=by rw[za8 hpb,tpb]
 have hT2:∀ k,k=pb→∀ {c'},1≠c'→zah t W.heap.size 4 k≠c'∧zah t W.heap.size 4 k≠3∧¬ Ty w9 k:=fun k hk c' hc=>by
  subst hk
  exact⟨by omega,by omega,hty9⟩
 have hlen:=zfh L.row
 refine⟨?_,L.len,((L.fix.fx hF1 (fun k k1 kT=>⟨(hT1 k kT (c':=3) (by omega)).1,zaq hr (by decide) kT⟩) h3).fx hF2 (fun k _ kT=>⟨(hT2 k kT (c':=3) (by omega)).1,(hT2 k kT (c':=3) (by omega)).2.2⟩) (fun _ _ h=>h)),fun k hk=>by rw[za8 (L.row.lt k hk).2];exact L.tag k hk,?_⟩
 ·have h1:=(hrow9.stored (ps.length * 8+2) v9).1
  rw[List.set_append_right _ _ (by omega),hlen,Nat.add_sub_cancel_left] at h1
  exact h1
 exact⟨⟨_,(hr.push (by decide) (by omega) hx rfl ho hg hm).to hF2 (fun k _ kT=>hT2 k kT (by omega) ) (fun _ _ h=>h) (fun _ _ h=>h)⟩,(L.last.vars.elim fun css hq=>⟨css,(hq.to hF1 (fun k k1 kT=>hT1 k kT (by omega)) h3 (fun k k1 e=>(za8 k1).trans e)).to hF2 (fun k _ kT=>hT2 k kT (by omega)) (fun _ _ h=>h) (fun _ _ h=>h)⟩),(L.last.prov.elim fun css hq=>⟨css,(hq.to hF1 (fun k k1 kT=>hT1 k kT (by omega)) h3 (fun k k1 e=>(za8 k1).trans e)).to hF2 (fun k _ kT=>hT2 k kT (by omega)) (fun _ _ h=>h) (fun _ _ h=>h)⟩),(L.last.dep.elim fun css hq=>⟨css,(hq.to hF1 (fun k k1 kT=>hT1 k kT (by omega)) h3 (fun k k1 e=>(za8 k1).trans e)).to hF2 (fun k _ kT=>hT2 k kT (by omega)) (fun _ _ h=>h) (fun _ _ h=>h)⟩),(L.last.conf.elim fun css hq=>⟨css,(hq.to hF1 (fun k k1 kT=>hT1 k kT (by omega)) h3 (fun k k1 e=>(za8 k1).trans e)).to hF2 (fun k _ kT=>hT2 k kT (by omega)) (fun _ _ h=>h) (fun _ _ h=>h)⟩),(L.last.files.elim fun css hq=>⟨css,(hq.to hF1 (fun k k1 kT=>hT1 k kT (by omega)) h3 (fun k k1 e=>(za8 k1).trans e)).to hF2 (fun k _ kT=>hT2 k kT (by omega)) (fun _ _ h=>h) (fun _ _ h=>h)⟩)⟩
theorem zc9.vars_push {W w9:World} {t:Nat→Nat} {B pb cap:Nat} {ps:List PkgM} {p:PkgM} {dss:List (List Value)} {v2 v3 v4 v5 v6 v7 v9:Value} {css:List (List Value)} {cs:List Value} {q:zln}
  (L:zc9 W t B (.slice (some ⟨pb,0,none⟩) (ps.length+1) cap) ps p dss v2 v3 v4 v5 v6 v7) (hr:RowL W t 5 B 159 2 zic v3 p.vars css) (hx:Ft W (Fx W t) fun W'=>zic W' cs q)
  (ho:w9.ownsRow B 159 2 v9 (p.vars.length+1) (css.flatten ++ cs)) (hg:W.grownBy w9 v3.ownBlock) (hm:zg4 W v3 v9) :
  zc9 (w9.setCell ⟨pb,ps.length * 8+3,none⟩ v9) (zah t W.heap.size 5) B (.slice (some ⟨pb,0,none⟩) (ps.length+1) cap) ps { p with vars:=p.vars ++ [q] } dss v2 v9 v4 v5 v6 v7:=by
 have hF1:=za7 hg
 have hpb:pb < W.heap.size:=(L.row.lt pb rfl).2
 have tpb:t pb=1:=L.tag pb rfl
 have hF2:Frm (fun k=>k=pb) w9 (w9.setCell ⟨pb,ps.length * 8+3,none⟩ v9):=zad (Frm.refl _ _) _ _
 have h3:∀ k,k < W.heap.size→t k=3→zah t W.heap.size 5 k=3:=fun k hk h=>by rw[za8 hk,h]
 have hT1:∀ k,v3.ownBlock=some k→∀ {c'},5≠c'→t k≠c'∧t k≠3∧¬ Ty W k:=fun k hk c' hc=>by
  have e:=hr.tag k hk
  exact⟨by omega,by omega,zaq hr (by decide) hk⟩
 have hrow9:=hF1.owns L.row (fun k hk kT=>by
  have e:=hr.tag k kT
  have e2:=L.tag k hk
  omega)
 have hty9:¬ Ty w9 pb:=by
  obtain⟨cs',hc⟩:=zbt hrow9 pb rfl
  exact zb5 hc (by decide)
 have t9:zah t W.heap.size 5 pb=1:=by rw[za8 hpb,tpb]
 have hT2:∀ k,k=pb→∀ {c'},1≠c'→zah t W.heap.size 5 k≠c'∧zah t W.heap.size 5 k≠3∧¬ Ty w9 k:=fun k hk c' hc=>by
  subst hk
  exact⟨by omega,by omega,hty9⟩
 have hlen:=zfh L.row
 refine⟨?_,L.len,((L.fix.fx hF1 (fun k k1 kT=>⟨(hT1 k kT (c':=3) (by omega)).1,zaq hr (by decide) kT⟩) h3).fx hF2 (fun k _ kT=>⟨(hT2 k kT (c':=3) (by omega)).1,(hT2 k kT (c':=3) (by omega)).2.2⟩) (fun _ _ h=>h)),fun k hk=>by rw[za8 (L.row.lt k hk).2];exact L.tag k hk,?_⟩
 ·have h1:=(hrow9.stored (ps.length * 8+3) v9).1
  rw[List.set_append_right _ _ (by omega),hlen,Nat.add_sub_cancel_left] at h1
  exact h1
 exact⟨(L.last.rel.elim fun css hq=>⟨css,(hq.to hF1 (fun k k1 kT=>hT1 k kT (by omega)) h3 (fun k k1 e=>(za8 k1).trans e)).to hF2 (fun k _ kT=>hT2 k kT (by omega)) (fun _ _ h=>h) (fun _ _ h=>h)⟩),⟨_,(hr.push (by decide) (by omega) hx rfl ho hg hm).to hF2 (fun k _ kT=>hT2 k kT (by omega) ) (fun _ _ h=>h) (fun _ _ h=>h)⟩,(L.last.prov.elim fun css hq=>⟨css,(hq.to hF1 (fun k k1 kT=>hT1 k kT (by omega)) h3 (fun k k1 e=>(za8 k1).trans e)).to hF2 (fun k _ kT=>hT2 k kT (by omega)) (fun _ _ h=>h) (fun _ _ h=>h)⟩),(L.last.dep.elim fun css hq=>⟨css,(hq.to hF1 (fun k k1 kT=>hT1 k kT (by omega)) h3 (fun k k1 e=>(za8 k1).trans e)).to hF2 (fun k _ kT=>hT2 k kT (by omega)) (fun _ _ h=>h) (fun _ _ h=>h)⟩),(L.last.conf.elim fun css hq=>⟨css,(hq.to hF1 (fun k k1 kT=>hT1 k kT (by omega)) h3 (fun k k1 e=>(za8 k1).trans e)).to hF2 (fun k _ kT=>hT2 k kT (by omega)) (fun _ _ h=>h) (fun _ _ h=>h)⟩),(L.last.files.elim fun css hq=>⟨css,(hq.to hF1 (fun k k1 kT=>hT1 k kT (by omega)) h3 (fun k k1 e=>(za8 k1).trans e)).to hF2 (fun k _ kT=>hT2 k kT (by omega)) (fun _ _ h=>h) (fun _ _ h=>h)⟩)⟩
theorem zc9.prov_push {W w9:World} {t:Nat→Nat} {B pb cap:Nat} {ps:List PkgM} {p:PkgM} {dss:List (List Value)} {v2 v3 v4 v5 v6 v7 v9:Value} {css:List (List Value)} {cs:List Value} {q:ByteArray}
  (L:zc9 W t B (.slice (some ⟨pb,0,none⟩) (ps.length+1) cap) ps p dss v2 v3 v4 v5 v6 v7) (hr:RowL W t 6 B 9 1 RStr v4 p.prov css) (hx:Ft W (Fx W t) fun W'=>RStr W' cs q)
  (ho:w9.ownsRow B 9 1 v9 (p.prov.length+1) (css.flatten ++ cs)) (hg:W.grownBy w9 v4.ownBlock) (hm:zg4 W v4 v9) :
  zc9 (w9.setCell ⟨pb,ps.length * 8+4,none⟩ v9) (zah t W.heap.size 6) B (.slice (some ⟨pb,0,none⟩) (ps.length+1) cap) ps { p with prov:=p.prov ++ [q] } dss v2 v3 v9 v5 v6 v7:=by
 have hF1:=za7 hg
 have hpb:pb < W.heap.size:=(L.row.lt pb rfl).2
 have tpb:t pb=1:=L.tag pb rfl
 have hF2:Frm (fun k=>k=pb) w9 (w9.setCell ⟨pb,ps.length * 8+4,none⟩ v9):=zad (Frm.refl _ _) _ _
 have h3:∀ k,k < W.heap.size→t k=3→zah t W.heap.size 6 k=3:=fun k hk h=>by rw[za8 hk,h]
 have hT1:∀ k,v4.ownBlock=some k→∀ {c'},6≠c'→t k≠c'∧t k≠3∧¬ Ty W k:=fun k hk c' hc=>by
  have e:=hr.tag k hk
  exact⟨by omega,by omega,zaq hr (by decide) hk⟩
 have hrow9:=hF1.owns L.row (fun k hk kT=>by
  have e:=hr.tag k kT
  have e2:=L.tag k hk
  omega)
 have hty9:¬ Ty w9 pb:=by
  obtain⟨cs',hc⟩:=zbt hrow9 pb rfl
  exact zb5 hc (by decide)
 have t9:zah t W.heap.size 6 pb=1:=by rw[za8 hpb,tpb]
 have hT2:∀ k,k=pb→∀ {c'},1≠c'→zah t W.heap.size 6 k≠c'∧zah t W.heap.size 6 k≠3∧¬ Ty w9 k:=fun k hk c' hc=>by
  subst hk
  exact⟨by omega,by omega,hty9⟩
 have hlen:=zfh L.row
 refine⟨?_,L.len,((L.fix.fx hF1 (fun k k1 kT=>⟨(hT1 k kT (c':=3) (by omega)).1,zaq hr (by decide) kT⟩) h3).fx hF2 (fun k _ kT=>⟨(hT2 k kT (c':=3) (by omega)).1,(hT2 k kT (c':=3) (by omega)).2.2⟩) (fun _ _ h=>h)),fun k hk=>by rw[za8 (L.row.lt k hk).2];exact L.tag k hk,?_⟩
 ·have h1:=(hrow9.stored (ps.length * 8+4) v9).1
  rw[List.set_append_right _ _ (by omega),hlen,Nat.add_sub_cancel_left] at h1
  exact h1
 exact⟨(L.last.rel.elim fun css hq=>⟨css,(hq.to hF1 (fun k k1 kT=>hT1 k kT (by omega)) h3 (fun k k1 e=>(za8 k1).trans e)).to hF2 (fun k _ kT=>hT2 k kT (by omega)) (fun _ _ h=>h) (fun _ _ h=>h)⟩),(L.last.vars.elim fun css hq=>⟨css,(hq.to hF1 (fun k k1 kT=>hT1 k kT (by omega)) h3 (fun k k1 e=>(za8 k1).trans e)).to hF2 (fun k _ kT=>hT2 k kT (by omega)) (fun _ _ h=>h) (fun _ _ h=>h)⟩),⟨_,(hr.push (by decide) (by omega) hx rfl ho hg hm).to hF2 (fun k _ kT=>hT2 k kT (by omega) ) (fun _ _ h=>h) (fun _ _ h=>h)⟩,(L.last.dep.elim fun css hq=>⟨css,(hq.to hF1 (fun k k1 kT=>hT1 k kT (by omega)) h3 (fun k k1 e=>(za8 k1).trans e)).to hF2 (fun k _ kT=>hT2 k kT (by omega)) (fun _ _ h=>h) (fun _ _ h=>h)⟩),(L.last.conf.elim fun css hq=>⟨css,(hq.to hF1 (fun k k1 kT=>hT1 k kT (by omega)) h3 (fun k k1 e=>(za8 k1).trans e)).to hF2 (fun k _ kT=>hT2 k kT (by omega)) (fun _ _ h=>h) (fun _ _ h=>h)⟩),(L.last.files.elim fun css hq=>⟨css,(hq.to hF1 (fun k k1 kT=>hT1 k kT (by omega)) h3 (fun k k1 e=>(za8 k1).trans e)).to hF2 (fun k _ kT=>hT2 k kT (by omega)) (fun _ _ h=>h) (fun _ _ h=>h)⟩)⟩
theorem zc9.dep_push {W w9:World} {t:Nat→Nat} {B pb cap:Nat} {ps:List PkgM} {p:PkgM} {dss:List (List Value)} {v2 v3 v4 v5 v6 v7 v9:Value} {css:List (List Value)} {cs:List Value} {q:DepM}
  (L:zc9 W t B (.slice (some ⟨pb,0,none⟩) (ps.length+1) cap) ps p dss v2 v3 v4 v5 v6 v7) (hr:RowL W t 7 B 134 7 zfp v5 p.dep css) (hx:Ft W (Fx W t) fun W'=>zfp W' cs q)
  (ho:w9.ownsRow B 134 7 v9 (p.dep.length+1) (css.flatten ++ cs)) (hg:W.grownBy w9 v5.ownBlock) (hm:zg4 W v5 v9) :
  zc9 (w9.setCell ⟨pb,ps.length * 8+5,none⟩ v9) (zah t W.heap.size 7) B (.slice (some ⟨pb,0,none⟩) (ps.length+1) cap) ps { p with dep:=p.dep ++ [q] } dss v2 v3 v4 v9 v6 v7:=by
 have hF1:=za7 hg
 have hpb:pb < W.heap.size:=(L.row.lt pb rfl).2
 have tpb:t pb=1:=L.tag pb rfl
 have hF2:Frm (fun k=>k=pb) w9 (w9.setCell ⟨pb,ps.length * 8+5,none⟩ v9):=zad (Frm.refl _ _) _ _
 have h3:∀ k,k < W.heap.size→t k=3→zah t W.heap.size 7 k=3:=fun k hk h=>by rw[za8 hk,h]
 have hT1:∀ k,v5.ownBlock=some k→∀ {c'},7≠c'→t k≠c'∧t k≠3∧¬ Ty W k:=fun k hk c' hc=>by
  have e:=hr.tag k hk
  exact⟨by omega,by omega,zaq hr (by decide) hk⟩
 have hrow9:=hF1.owns L.row (fun k hk kT=>by
  have e:=hr.tag k kT
  have e2:=L.tag k hk
  omega)
 have hty9:¬ Ty w9 pb:=by
  obtain⟨cs',hc⟩:=zbt hrow9 pb rfl
  exact zb5 hc (by decide)
 have t9:zah t W.heap.size 7 pb=1:=by rw[za8 hpb,tpb]
 have hT2:∀ k,k=pb→∀ {c'},1≠c'→zah t W.heap.size 7 k≠c'∧zah t W.heap.size 7 k≠3∧¬ Ty w9 k:=fun k hk c' hc=>by
  subst hk
  exact⟨by omega,by omega,hty9⟩
 have hlen:=zfh L.row
 refine⟨?_,L.len,((L.fix.fx hF1 (fun k k1 kT=>⟨(hT1 k kT (c':=3) (by omega)).1,zaq hr (by decide) kT⟩) h3).fx hF2 (fun k _ kT=>⟨(hT2 k kT (c':=3) (by omega)).1,(hT2 k kT (c':=3) (by omega)).2.2⟩) (fun _ _ h=>h)),fun k hk=>by rw[za8 (L.row.lt k hk).2];exact L.tag k hk,?_⟩
 ·have h1:=(hrow9.stored (ps.length * 8+5) v9).1
  rw[List.set_append_right _ _ (by omega),hlen,Nat.add_sub_cancel_left] at h1
  exact h1
 exact⟨(L.last.rel.elim fun css hq=>⟨css,(hq.to hF1 (fun k k1 kT=>hT1 k kT (by omega)) h3 (fun k k1 e=>(za8 k1).trans e)).to hF2 (fun k _ kT=>hT2 k kT (by omega)) (fun _ _ h=>h) (fun _ _ h=>h)⟩),(L.last.vars.elim fun css hq=>⟨css,(hq.to hF1 (fun k k1 kT=>hT1 k kT (by omega)) h3 (fun k k1 e=>(za8 k1).trans e)).to hF2 (fun k _ kT=>hT2 k kT (by omega)) (fun _ _ h=>h) (fun _ _ h=>h)⟩),(L.last.prov.elim fun css hq=>⟨css,(hq.to hF1 (fun k k1 kT=>hT1 k kT (by omega)) h3 (fun k k1 e=>(za8 k1).trans e)).to hF2 (fun k _ kT=>hT2 k kT (by omega)) (fun _ _ h=>h) (fun _ _ h=>h)⟩),⟨_,(hr.push (by decide) (by omega) hx rfl ho hg hm).to hF2 (fun k _ kT=>hT2 k kT (by omega) ) (fun _ _ h=>h) (fun _ _ h=>h)⟩,(L.last.conf.elim fun css hq=>⟨css,(hq.to hF1 (fun k k1 kT=>hT1 k kT (by omega)) h3 (fun k k1 e=>(za8 k1).trans e)).to hF2 (fun k _ kT=>hT2 k kT (by omega)) (fun _ _ h=>h) (fun _ _ h=>h)⟩),(L.last.files.elim fun css hq=>⟨css,(hq.to hF1 (fun k k1 kT=>hT1 k kT (by omega)) h3 (fun k k1 e=>(za8 k1).trans e)).to hF2 (fun k _ kT=>hT2 k kT (by omega)) (fun _ _ h=>h) (fun _ _ h=>h)⟩)⟩
theorem zc9.conf_push {W w9:World} {t:Nat→Nat} {B pb cap:Nat} {ps:List PkgM} {p:PkgM} {dss:List (List Value)} {v2 v3 v4 v5 v6 v7 v9:Value} {css:List (List Value)} {cs:List Value} {q:DepM}
  (L:zc9 W t B (.slice (some ⟨pb,0,none⟩) (ps.length+1) cap) ps p dss v2 v3 v4 v5 v6 v7) (hr:RowL W t 8 B 197 7 zfp v6 p.conf css) (hx:Ft W (Fx W t) fun W'=>zfp W' cs q)
  (ho:w9.ownsRow B 197 7 v9 (p.conf.length+1) (css.flatten ++ cs)) (hg:W.grownBy w9 v6.ownBlock) (hm:zg4 W v6 v9) :
  zc9 (w9.setCell ⟨pb,ps.length * 8+6,none⟩ v9) (zah t W.heap.size 8) B (.slice (some ⟨pb,0,none⟩) (ps.length+1) cap) ps { p with conf:=p.conf ++ [q] } dss v2 v3 v4 v5 v9 v7:=by
 have hF1:=za7 hg
 have hpb:pb < W.heap.size:=(L.row.lt pb rfl).2
 have tpb:t pb=1:=L.tag pb rfl
 have hF2:Frm (fun k=>k=pb) w9 (w9.setCell ⟨pb,ps.length * 8+6,none⟩ v9):=zad (Frm.refl _ _) _ _
 have h3:∀ k,k < W.heap.size→t k=3→zah t W.heap.size 8 k=3:=fun k hk h=>by rw[za8 hk,h]
 have hT1:∀ k,v6.ownBlock=some k→∀ {c'},8≠c'→t k≠c'∧t k≠3∧¬ Ty W k:=fun k hk c' hc=>by
  have e:=hr.tag k hk
  exact⟨by omega,by omega,zaq hr (by decide) hk⟩
 have hrow9:=hF1.owns L.row (fun k hk kT=>by
  have e:=hr.tag k kT
  have e2:=L.tag k hk
  omega)
 have hty9:¬ Ty w9 pb:=by
  obtain⟨cs',hc⟩:=zbt hrow9 pb rfl
  exact zb5 hc (by decide)
 have t9:zah t W.heap.size 8 pb=1:=by rw[za8 hpb,tpb]
 have hT2:∀ k,k=pb→∀ {c'},1≠c'→zah t W.heap.size 8 k≠c'∧zah t W.heap.size 8 k≠3∧¬ Ty w9 k:=fun k hk c' hc=>by
  subst hk
  exact⟨by omega,by omega,hty9⟩
 have hlen:=zfh L.row
 refine⟨?_,L.len,((L.fix.fx hF1 (fun k k1 kT=>⟨(hT1 k kT (c':=3) (by omega)).1,zaq hr (by decide) kT⟩) h3).fx hF2 (fun k _ kT=>⟨(hT2 k kT (c':=3) (by omega)).1,(hT2 k kT (c':=3) (by omega)).2.2⟩) (fun _ _ h=>h)),fun k hk=>by rw[za8 (L.row.lt k hk).2];exact L.tag k hk,?_⟩
 ·have h1:=(hrow9.stored (ps.length * 8+6) v9).1
  rw[List.set_append_right _ _ (by omega),hlen,Nat.add_sub_cancel_left] at h1
  exact h1
 exact⟨(L.last.rel.elim fun css hq=>⟨css,(hq.to hF1 (fun k k1 kT=>hT1 k kT (by omega)) h3 (fun k k1 e=>(za8 k1).trans e)).to hF2 (fun k _ kT=>hT2 k kT (by omega)) (fun _ _ h=>h) (fun _ _ h=>h)⟩),(L.last.vars.elim fun css hq=>⟨css,(hq.to hF1 (fun k k1 kT=>hT1 k kT (by omega)) h3 (fun k k1 e=>(za8 k1).trans e)).to hF2 (fun k _ kT=>hT2 k kT (by omega)) (fun _ _ h=>h) (fun _ _ h=>h)⟩),(L.last.prov.elim fun css hq=>⟨css,(hq.to hF1 (fun k k1 kT=>hT1 k kT (by omega)) h3 (fun k k1 e=>(za8 k1).trans e)).to hF2 (fun k _ kT=>hT2 k kT (by omega)) (fun _ _ h=>h) (fun _ _ h=>h)⟩),(L.last.dep.elim fun css hq=>⟨css,(hq.to hF1 (fun k k1 kT=>hT1 k kT (by omega)) h3 (fun k k1 e=>(za8 k1).trans e)).to hF2 (fun k _ kT=>hT2 k kT (by omega)) (fun _ _ h=>h) (fun _ _ h=>h)⟩),⟨_,(hr.push (by decide) (by omega) hx rfl ho hg hm).to hF2 (fun k _ kT=>hT2 k kT (by omega) ) (fun _ _ h=>h) (fun _ _ h=>h)⟩,(L.last.files.elim fun css hq=>⟨css,(hq.to hF1 (fun k k1 kT=>hT1 k kT (by omega)) h3 (fun k k1 e=>(za8 k1).trans e)).to hF2 (fun k _ kT=>hT2 k kT (by omega)) (fun _ _ h=>h) (fun _ _ h=>h)⟩)⟩
theorem zc9.files_push {W w9:World} {t:Nat→Nat} {B pb cap:Nat} {ps:List PkgM} {p:PkgM} {dss:List (List Value)} {v2 v3 v4 v5 v6 v7 v9:Value} {css:List (List Value)} {cs:List Value} {q:ByteArray}
  (L:zc9 W t B (.slice (some ⟨pb,0,none⟩) (ps.length+1) cap) ps p dss v2 v3 v4 v5 v6 v7) (hr:RowL W t 9 B 9 1 RStr v7 p.files css) (hx:Ft W (Fx W t) fun W'=>RStr W' cs q)
  (ho:w9.ownsRow B 9 1 v9 (p.files.length+1) (css.flatten ++ cs)) (hg:W.grownBy w9 v7.ownBlock) (hm:zg4 W v7 v9) :
  zc9 (w9.setCell ⟨pb,ps.length * 8+7,none⟩ v9) (zah t W.heap.size 9) B (.slice (some ⟨pb,0,none⟩) (ps.length+1) cap) ps { p with files:=p.files ++ [q] } dss v2 v3 v4 v5 v6 v9:=by
 have hF1:=za7 hg
 have hpb:pb < W.heap.size:=(L.row.lt pb rfl).2
 have tpb:t pb=1:=L.tag pb rfl
 have hF2:Frm (fun k=>k=pb) w9 (w9.setCell ⟨pb,ps.length * 8+7,none⟩ v9):=zad (Frm.refl _ _) _ _
 have h3:∀ k,k < W.heap.size→t k=3→zah t W.heap.size 9 k=3:=fun k hk h=>by rw[za8 hk,h]
 have hT1:∀ k,v7.ownBlock=some k→∀ {c'},9≠c'→t k≠c'∧t k≠3∧¬ Ty W k:=fun k hk c' hc=>by
  have e:=hr.tag k hk
  exact⟨by omega,by omega,zaq hr (by decide) hk⟩
 have hrow9:=hF1.owns L.row (fun k hk kT=>by
  have e:=hr.tag k kT
  have e2:=L.tag k hk
  omega)
 have hty9:¬ Ty w9 pb:=by
  obtain⟨cs',hc⟩:=zbt hrow9 pb rfl
  exact zb5 hc (by decide)
 have t9:zah t W.heap.size 9 pb=1:=by rw[za8 hpb,tpb]
 have hT2:∀ k,k=pb→∀ {c'},1≠c'→zah t W.heap.size 9 k≠c'∧zah t W.heap.size 9 k≠3∧¬ Ty w9 k:=fun k hk c' hc=>by
  subst hk
  exact⟨by omega,by omega,hty9⟩
 have hlen:=zfh L.row
 refine⟨?_,L.len,((L.fix.fx hF1 (fun k k1 kT=>⟨(hT1 k kT (c':=3) (by omega)).1,zaq hr (by decide) kT⟩) h3).fx hF2 (fun k _ kT=>⟨(hT2 k kT (c':=3) (by omega)).1,(hT2 k kT (c':=3) (by omega)).2.2⟩) (fun _ _ h=>h)),fun k hk=>by rw[za8 (L.row.lt k hk).2];exact L.tag k hk,?_⟩
 ·have h1:=(hrow9.stored (ps.length * 8+7) v9).1
  rw[List.set_append_right _ _ (by omega),hlen,Nat.add_sub_cancel_left] at h1
  exact h1
 exact⟨(L.last.rel.elim fun css hq=>⟨css,(hq.to hF1 (fun k k1 kT=>hT1 k kT (by omega)) h3 (fun k k1 e=>(za8 k1).trans e)).to hF2 (fun k _ kT=>hT2 k kT (by omega)) (fun _ _ h=>h) (fun _ _ h=>h)⟩),(L.last.vars.elim fun css hq=>⟨css,(hq.to hF1 (fun k k1 kT=>hT1 k kT (by omega)) h3 (fun k k1 e=>(za8 k1).trans e)).to hF2 (fun k _ kT=>hT2 k kT (by omega)) (fun _ _ h=>h) (fun _ _ h=>h)⟩),(L.last.prov.elim fun css hq=>⟨css,(hq.to hF1 (fun k k1 kT=>hT1 k kT (by omega)) h3 (fun k k1 e=>(za8 k1).trans e)).to hF2 (fun k _ kT=>hT2 k kT (by omega)) (fun _ _ h=>h) (fun _ _ h=>h)⟩),(L.last.dep.elim fun css hq=>⟨css,(hq.to hF1 (fun k k1 kT=>hT1 k kT (by omega)) h3 (fun k k1 e=>(za8 k1).trans e)).to hF2 (fun k _ kT=>hT2 k kT (by omega)) (fun _ _ h=>h) (fun _ _ h=>h)⟩),(L.last.conf.elim fun css hq=>⟨css,(hq.to hF1 (fun k k1 kT=>hT1 k kT (by omega)) h3 (fun k k1 e=>(za8 k1).trans e)).to hF2 (fun k _ kT=>hT2 k kT (by omega)) (fun _ _ h=>h) (fun _ _ h=>h)⟩),⟨_,(hr.push (by decide) (by omega) hx rfl ho hg hm).to hF2 (fun k _ kT=>hT2 k kT (by omega) ) (fun _ _ h=>h) (fun _ _ h=>h)⟩⟩
end

section
open Go.RowKit Go.Shelf VerN VarM
open LexM (Wd)
theorem zpv:Elem Tryz.prog 118 157 (.agg #[.string ⟨#[]⟩,.bool false]) 2 24:=⟨Tryz.underlying118,by kernel_rfl,rfl,by decide⟩
theorem zli:Elem Tryz.prog 119 159 (.agg #[.string ⟨#[]⟩,.slice none 0 0]) 2 40:=⟨Tryz.underlying119,by kernel_rfl,rfl,by decide⟩
theorem zpw:Elem Tryz.prog 120 134 (.agg #[.string ⟨#[]⟩,.slice none 0 0,.slice none 0 0,.string ⟨#[]⟩,.slice none 0 0,.slice none 0 0,.int .i64 0]) 7 136:=⟨Tryz.underlying120,by kernel_rfl,rfl,by decide⟩
theorem zmz:Elem Tryz.prog 121 197 (.agg #[.string ⟨#[]⟩,.slice none 0 0,.slice none 0 0,.string ⟨#[]⟩,.slice none 0 0,.slice none 0 0,.int .i64 0]) 7 136:=⟨Tryz.underlying121,by kernel_rfl,rfl,by decide⟩
theorem zav:Elem Tryz.prog 70 123 (.agg #[.string ⟨#[]⟩,.int .i64 0,.slice none 0 0,.slice none 0 0,.slice none 0 0,.slice none 0 0,.slice none 0 0,.slice none 0 0]) 8 168:=⟨Tryz.underlying70,by kernel_rfl,rfl,by decide⟩
theorem zak:Elem Tryz.prog 71 125 (.agg #[.string ⟨#[]⟩,.slice none 0 0,.int .i64 0]) 3 48:=⟨Tryz.underlying71,by kernel_rfl,rfl,by decide⟩
def FewP (p:PkgM):Prop:=p.rel.length≤70000∧p.vars.length≤70000∧p.prov.length≤70000∧p.dep.length≤70000∧p.conf.length≤70000∧p.files.length≤70000
section
variable {W : World} {t : Nat → Nat} {B pb cap : Nat} {ps : List PkgM} {p : PkgM} {dss : List (List Value)} {v2 v3 v4 v5 v6 v7 : Value}
theorem zc9.cells (L:zc9 W t B (.slice (some ⟨pb,0,none⟩) (ps.length+1) cap) ps p dss v2 v3 v4 v5 v6 v7) :
  (∃ cur,W.heap[pb]? = some (.cells cur 123 (0,0)))∧W.cell? ⟨pb,ps.length * 8+2,none⟩=some v2∧W.cell? ⟨pb,ps.length * 8+3,none⟩=some v3∧W.cell? ⟨pb,ps.length * 8+4,none⟩=some v4∧W.cell? ⟨pb,ps.length * 8+5,none⟩=some v5∧W.cell? ⟨pb,ps.length * 8+6,none⟩=some v6∧W.cell? ⟨pb,ps.length * 8+7,none⟩=some v7:=by
 obtain⟨g,cap',hv,_,_,_,_,hc⟩:=zcj L.row (by omega)
 simp only[Value.slice.injEq,Option.some.injEq,Addr.mk.injEq,and_true,true_and] at hv
 obtain⟨rfl,_⟩:=hv
 have hl:=zfh L.row
 have go:∀ j u,([.string p.name,.int .i64 p.line,v2,v3,v4,v5,v6,v7] : List Value)[j]? = some u→W.cell? ⟨pb,ps.length * 8+j,none⟩=some u:=fun j u hu=>hc _ u (by
  rw[List.getElem?_append_right (by omega),hl,Nat.add_sub_cancel_left]
  exact hu)
 exact⟨zbt L.row pb rfl,go 2 _ rfl,go 3 _ rfl,go 4 _ rfl,go 5 _ rfl,go 6 _ rfl,go 7 _ rfl⟩
end
def zds (r:Nat) (a:Option Addr) (n c:Nat) (fin:Int) (ws:List Wd) (i:Nat) (t:Nat→Nat) (B xb:Nat) (vp vf:Value) (x:RcpM) (ps:List PkgM) (p:PkgM) (line:Int) (first:ByteArray) (w:World) (e:Ending) (w':World):Prop :=
 ((∃ q j t',e = .returned (.tuple #[])∧RcSt w' t' B xb vp vf ⟨ps ++ [q],x.pf⟩∧(j=ws.length→zax first line p (zap ws i)=some q)∧(j < ws.length→zax first line p (zap ws i)=none)∧j≤ws.length∧RBox r (.slice a n c) j fin w'∧∀ k,k < w.heap.size→t' k=t k) ∨
  (zax first line p (zap ws i)=none∧∃ j,e=zea (zf6 ws fin j)))∧Frm (fun k=>k=r∨t k≤9) w w'
theorem zb9 {r:Nat} {a:Option Addr} {n c:Nat} {fin:Int} {ws:List Wd} {i:Nat} {t:Nat→Nat} {B xb:Nat} {vp vf:Value} {x:RcpM} {ps:List PkgM} {p:PkgM} {line:Int} {first:ByteArray} {w w':World} {e:Ending} (h:zax first line p (zap ws i)=none) {j:Nat} (he:e=zea (zf6 ws fin j)) (hF:Frm (fun k=>k=r) w w'):zds r a n c fin ws i t B xb vp vf x ps p line first w e w' :=
 ⟨.inr ⟨h,j,he⟩,hF.mono fun _ _ h=>.inl h⟩
theorem zb1 {r:Nat} {a:Option Addr} {n c:Nat} {fin:Int} {ws:List Wd} {i j:Nat} {t t1 t':Nat→Nat} {B xb pb cap off:Nat} {vf v v9:Value} {x:RcpM} {ps:List PkgM} {p q:PkgM} {line:Int} {first:ByteArray} {w W w9:World} {e:Ending} {dss:List (List Value)} {u2 u3 u4 u5 u6 u7:Value}
  (h:RcSt W t1 B xb (.slice (some ⟨pb,0,none⟩) (ps.length+1) cap) vf x) (L':zc9 (w9.setCell ⟨pb,off,none⟩ v9) t' B (.slice (some ⟨pb,0,none⟩) (ps.length+1) cap) ps q dss u2 u3 u4 u5 u6 u7)
  (hF:Frm (fun k=>k=r) w W) (hg:W.grownBy w9 v.ownBlock) (ht1:∀ k,k < w.heap.size→t1 k=t k) (ht':∀ k,k < W.heap.size→t' k=t1 k)
  (hv:∀ k,v.ownBlock=some k→Live (t1 k)∧¬ Ty W k) (hpb:t1 pb=1) (hpt:¬ Ty W pb) (hbx:RBox r (.slice a n c) j fin W) (hr:t1 r=10)
  (hj1:j=ws.length→zax first line p (zap ws i)=some q) (hj2:j < ws.length→zax first line p (zap ws i)=none) (hj3:j≤ws.length) (he:e = .returned (.tuple #[])) :
  zds r a n c fin ws i t B xb (.slice (some ⟨pb,0,none⟩) (ps.length+1) cap) vf x ps p line first w e (w9.setCell ⟨pb,off,none⟩ v9):=by
 have hF1:=za7 hg
 have hF2:Frm (fun k=>k=pb) w9 (w9.setCell ⟨pb,off,none⟩ v9):=zad (Frm.refl _ _) _ _
 have hF3:Frm (fun k=>v.ownBlock=some k∨k=pb) W (w9.setCell ⟨pb,off,none⟩ v9):=(hF1.mono fun _ _ h=>.inl h).trans hF2 fun _ _ h=>.inr h
 have hT:∀ k,k < W.heap.size→(v.ownBlock=some k∨k=pb)→(Live (t1 k)∨t1 k=1)∧¬ Ty W k:=fun k _ hk=>by
  rcases hk with hk | rfl
  ·exact⟨.inl (hv k hk).1,(hv k hk).2⟩
  exact⟨.inr hpb,hpt⟩
 have hst:=h.step (p:=p) L' hF3 hT ht'
 refine⟨.inl ⟨q,j,t',he,hst,hj1,hj2,hj3,zaf hbx hF3 fun hk=>?_,fun k hk=>(ht' k (Nat.lt_of_lt_of_le hk hF.size)).trans (ht1 k hk)⟩,?_⟩
 ·have hrW:=(Array.getElem?_eq_some_iff.1 hbx).1
  have:=(hT r hrW hk).1
  unfold Live at this
  omega
 refine (hF.mono fun _ _ h=>.inl h).trans hF3 fun k hk hk2=>.inr ?_
 have:=(hT k (Nat.lt_of_lt_of_le hk hF.size) hk2).1
 rw[ht1 k hk] at this
 unfold Live at this
 omega
end

section
open Go.RowKit Go.Shelf VerN VarM
open LexM (Wd)
section
variable {W W' w9 : World} {t t' : Nat → Nat} {B xb : Nat} {vp vf v9 : Value} {x : RcpM} {pks : List PkgM} {T : Nat → Prop}
theorem PkRow.open (h:PkRow W t B vp pks):∃ dss:List (List Value),W.ownsRow B 123 8 vp pks.length dss.flatten∧dss.length=pks.length∧Ft W (fun k=>Fx W t k∨Live (t k)) (fun W'=>∀ (i:Nat) cs y,dss[i]? = some cs→pks[i]? = some y→RPkM W' cs y)∧∀ k,vp.ownBlock=some k→t k=1:=by
 rcases h with⟨h1,h2⟩ | ⟨ps,p,dss,v2,v3,v4,v5,v6,v7,h1,L⟩
 ·rw[h1,h2]
  exact⟨[],World.ownsRow_nil _ _ _ _,rfl,fun _ _ _ i cs y h=>by simp at h,fun k h=>by simp[Value.ownBlock] at h⟩
 rw[h1]
 refine⟨dss ++ [[.string p.name,.int .i64 p.line,v2,v3,v4,v5,v6,v7]],by rw[List.length_append,List.flatten_append];simpa using L.row,by simp[L.len],?_,L.tag⟩
 refine ((L.fix.mono fun k _ hk=>.inl hk).and L.last.ft).imp fun V hV i cs y e1 e2=>?_
 by_cases hi:i < dss.length
 ·rw[List.getElem?_append_left hi] at e1
  rw[List.getElem?_append_left (by rw[← L.len];exact hi)] at e2
  exact hV.1 i cs y e1 e2
 have hlt:=(List.getElem?_eq_some_iff.1 e1).1
 have e:i=dss.length:=by simp at hlt;omega
 rw[List.getElem?_append_right (by omega),e,Nat.sub_self] at e1
 rw[List.getElem?_append_right (by rw[← L.len];omega),e,L.len,Nat.sub_self] at e2
 simp at e1 e2
 subst e1 e2
 exact hV.2
def znk (t:Nat→Nat) (n:Nat):Nat→Nat:=fun k=>if k < n then (if 4≤t k∧t k≤9 then 3 else t k) else 1
theorem zqc {n k:Nat} (h:k < n) (hl:Live (t k)):znk t n k=3:=(if_pos h).trans (if_pos hl)
theorem zdu {n k:Nat} (h:k < n) (hl:¬ Live (t k)):znk t n k=t k:=(if_pos h).trans (if_neg hl)
theorem tagPk_new {n k:Nat} (h:n≤k):znk t n k=1:=if_neg (by omega)
theorem RcSt.pkg {s:ByteArray} {line:Int} {dss:List (List Value)} (h:RcSt W t B xb vp vf x) (hrow:W.ownsRow B 123 8 vp x.pk.length dss.flatten) (hlen:dss.length=x.pk.length)
  (hfx:Ft W (fun k=>Fx W t k∨Live (t k)) (fun W'=>∀ (i:Nat) cs y,dss[i]? = some cs→x.pk[i]? = some y→RPkM W' cs y)) (htag:∀ k,vp.ownBlock=some k→t k=1)
  (ho:w9.ownsRow B 123 8 v9 (x.pk.length+1) (dss.flatten ++ [.string s,.int .i64 line,.slice none 0 0,.slice none 0 0,.slice none 0 0,.slice none 0 0,.slice none 0 0,.slice none 0 0])) (hg:W.grownBy w9 vp.ownBlock) (hm:zg4 W vp v9) :
  RcSt (w9.setCell ⟨xb,0,none⟩ v9) (znk t W.heap.size) B xb v9 vf ⟨x.pk ++ [zdm s line],x.pf⟩:=by
 have hF1:=za7 hg
 have hxb:=(Array.getElem?_eq_some_iff.1 h.box).1
 have hF2:Frm (fun k=>k=xb) w9 (w9.setCell ⟨xb,0,none⟩ v9):=zad (Frm.refl _ _) _ _
 have hF:Frm (fun k=>vp.ownBlock=some k∨k=xb) W (w9.setCell ⟨xb,0,none⟩ v9):=(hF1.mono fun _ _ h=>.inl h).trans hF2 fun _ _ h=>.inr h
 have hbox9:w9.heap[xb]? = some (.cells #[vp,vf] 73 (0,0)):=zaf h.box hF1 fun hk=>by
  have e:=htag xb hk
  have e2:=h.tbox
  omega
 have hT:∀ k,k < W.heap.size→(vp.ownBlock=some k∨k=xb)→(t k=0∨t k=1)∧¬ Ty W k:=fun k _ hk=>by
  rcases hk with hk | rfl
  ·obtain⟨cs,hc⟩:=zbt hrow k hk
   exact⟨.inr (htag k hk),zb5 hc (by decide)⟩
  exact⟨.inl h.tbox,zb5 h.box (by decide)⟩
 obtain⟨pcs,hpf⟩:=h.pf
 refine⟨heap_setCell_same _ xb 0 _ _ v9 hbox9,by rw[zdu hxb (by rw[h.tbox];unfold Live;omega),h.tbox],⟨pcs,hpf.to hF (fun k k1 k2=>?_) (fun k k1 k2=>?_) (fun k k1 k2=>?_)⟩,.inr ⟨x.pk,zdm s line,dss,.slice none 0 0,.slice none 0 0,.slice none 0 0,.slice none 0 0,.slice none 0 0,.slice none 0 0,rfl,?_⟩⟩
 ·have:=hT k k1 k2
  exact⟨by omega,by omega,this.2⟩
 ·rw[zdu k1 (by rw[k2];unfold Live;omega),k2]
 ·rw[zdu k1 (by rw[k2];unfold Live;omega),k2]
 refine⟨?_,hlen,?_,fun k hk=>?_,⟨⟨[],RowL.nil⟩,⟨[],RowL.nil⟩,⟨[],RowL.nil⟩,⟨[],RowL.nil⟩,⟨[],RowL.nil⟩,⟨[],RowL.nil⟩⟩⟩
 ·refine hF2.owns ho fun k hk kT=>?_
  subst kT
  rcases hm k hk with hk | hk
  ·have:=htag k hk
   have e2:=h.tbox
   omega
  omega
 ·refine hfx.frm hF (fun k k1 k2 kT=>?_) fun k k1 k2=>?_
  ·have h1:=hT k k1 kT
   rcases k2 with (k2 | k2) | k2
   ·omega
   ·exact h1.2 k2
   unfold Live at k2
   omega
  rcases k2 with (k2 | k2) | k2
  ·exact .inl (by rw[zdu k1 (by rw[k2];unfold Live;omega),k2])
  ·by_cases kT:vp.ownBlock=some k∨k=xb
   ·exact absurd k2 (hT k k1 kT).2
   exact .inr (k2.keep hF kT)
  exact .inl (zqc k1 k2)
 rcases hm k hk with hk | hk
 ·rw[zdu (hrow.lt k hk).2 (by rw[htag k hk];unfold Live;omega)]
  exact htag k hk
 exact tagPk_new hk
theorem RcSt.pref {y:PrfM} {cs:List Value} {css:List (List Value)} (h:RcSt W t B xb vp vf x) (hp:RowL W t 2 B 125 3 RPfM vf x.pf css) (hx:Ft W (Fx W t) fun W'=>RPfM W' cs y)
  (ho:w9.ownsRow B 125 3 v9 (x.pf.length+1) (css.flatten ++ cs)) (hg:W.grownBy w9 vf.ownBlock) (hm:zg4 W vf v9) :
  RcSt (w9.setCell ⟨xb,1,none⟩ v9) (zah t W.heap.size 2) B xb vp v9 ⟨x.pk,x.pf ++ [y]⟩:=by
 have hF1:=za7 hg
 have hxb:=(Array.getElem?_eq_some_iff.1 h.box).1
 have hF2:Frm (fun k=>k=xb) w9 (w9.setCell ⟨xb,1,none⟩ v9):=zad (Frm.refl _ _) _ _
 have hF:Frm (fun k=>vf.ownBlock=some k∨k=xb) W (w9.setCell ⟨xb,1,none⟩ v9):=(hF1.mono fun _ _ h=>.inl h).trans hF2 fun _ _ h=>.inr h
 have hbox9:w9.heap[xb]? = some (.cells #[vp,vf] 73 (0,0)):=zaf h.box hF1 fun hk=>by
  have e:=hp.tag xb hk
  have e2:=h.tbox
  omega
 have hT:∀ k,k < W.heap.size→(vf.ownBlock=some k∨k=xb)→(t k=0∨t k=2)∧¬ Ty W k:=fun k _ hk=>by
  rcases hk with hk | rfl
  ·exact⟨.inr (hp.tag k hk),zaq hp (by decide) hk⟩
  exact⟨.inl h.tbox,zb5 h.box (by decide)⟩
 refine⟨heap_setCell_same _ xb 1 _ _ v9 hbox9,by rw[za8 hxb,h.tbox],⟨css ++ [cs],(hp.push (by decide) (by omega) hx rfl ho hg hm).to hF2 (fun k _ kT=>?_) (fun _ _ h=>h) (fun _ _ h=>h)⟩,h.pk.to hF (fun k k1 k2=>?_) fun k k1 k2=>za8 k1⟩
 ·subst kT
  exact⟨by rw[za8 hxb,h.tbox];omega,by rw[za8 hxb,h.tbox];omega,zb5 hbox9 (by decide)⟩
 have:=hT k k1 k2
 unfold Live
 exact⟨by omega,by omega,by omega,this.2⟩
end
theorem znh {w w':World} {a:Option Addr} {n c:Nat} {ws:List Wd} {T:Nat→Prop} (h:RWds w [.slice a n c] ws) (hF:Frm T w w') (hT:∀ p,a=some p→¬ T p.block):RWds w' [.slice a n c] ws:=by
 obtain⟨a',cap,hv,h1,h2,hel⟩:=h
 have hv':=hv
 simp only[List.cons.injEq,and_true,Value.slice.injEq] at hv'
 refine⟨a',cap,hv,h1,h2,fun i x hi=>?_⟩
 obtain⟨b,off,ecs,e1,e2,e3,e4⟩:=hel i x hi
 refine⟨b,off,ecs,e1,e2,fun j u hu=>?_,e4⟩
 have k:=e3 j u hu
 exact (hF.cell (World.block_lt_of_cell? w _ k) (hT ⟨b,off,none⟩ (hv'.1.trans e1))).trans k
def zdz (r:Nat) (fin:Int) (ws:List Wd) (i:Nat) (t:Nat→Nat) (B xb:Nat) (x:RcpM) (line:Int) (w:World) (e:Ending) (w':World):Prop :=
 ((∃ y t' vp vf,e = .returned (.tuple #[])∧zbb line (zap ws i) x=some y∧RcSt w' t' B xb vp vf y∧∀ k,k < w.heap.size→9 < t k→t' k=t k) ∨
  (zbb line (zap ws i) x=none∧∃ j,e=zea (zf6 ws fin j)))∧Frm (fun k=>k=r∨t k≤9) w w'
section
variable {r : Nat} {fin : Int} {ws : List Wd} {i : Nat} {t t' : Nat → Nat} {B xb : Nat} {x y : RcpM} {line : Int} {w W W' : World} {e : Ending} {vp vf : Value}
theorem zbo (hl:zbb line (zap ws i) x=some y) (hst:RcSt W t' B xb vp vf y) (hF:Frm (fun k=>k=r∨t k≤9) w W) (ht:∀ k,k < w.heap.size→9 < t k→t' k=t k) (hb:Below W.heap.size W W') (he:e = .returned (.tuple #[])) :
  zdz r fin ws i t B xb x line w e W':=⟨.inl ⟨y,t',vp,vf,he,hl,hst.below hb,ht⟩,zb2 hF hb⟩
theorem zat (hl:zbb line (zap ws i) x=none) (hF:Frm (fun k=>k=r∨t k≤9) w W) (hb:Below W.heap.size W W') {j:Nat} (he:e=zea (zf6 ws fin j)) :
  zdz r fin ws i t B xb x line w e W':=⟨.inr ⟨hl,j,he⟩,zb2 hF hb⟩
end
theorem zff {f:ByteArray} {l:List ByteArray} {n:Int} {x:RcpM} (h:f=zbf):zbb n (f :: l) x=(oneL zcw l).map fun s=>{ x with pk:=x.pk ++ [zdm s n] }:=by
 show (if f=zbf then _ else _)=_
 rw[if_pos h]
theorem zez {f:ByteArray} {l:List ByteArray} {n:Int} {x:RcpM} (h:f=zcb):zbb n (f :: l) x=(zia n l).map fun q=>{ x with pf:=x.pf ++ [q] }:=by
 show (if f=zbf then _ else if f=zcb then _ else _)=_
 rw[if_neg (by rw[h];decide),if_pos h]
theorem zey {f:ByteArray} {l:List ByteArray} {n:Int} {x:RcpM} {ps:List PkgM} {p:PkgM} (h1:f≠zbf) (h2:f≠zcb) (h:x.pk=ps ++ [p]):zbb n (f :: l) x=(zax f n p l).map fun q=>{ x with pk:=ps ++ [q] }:=by
 show (if f=zbf then _ else if f=zcb then _ else _)=_
 rw[if_neg h1,if_neg h2,h,List.getLast?_concat,List.dropLast_concat]
theorem lineL_nil {f:ByteArray} {l:List ByteArray} {n:Int} {x:RcpM} (h1:f≠zbf) (h2:f≠zcb) (h:x.pk = []):zbb n (f :: l) x=none:=by
 show (if f=zbf then _ else if f=zcb then _ else _)=_
 rw[if_neg h1,if_neg h2,h]
 rfl
end

section
open Go.RowKit Go.Shelf Go.Lib VerN
theorem zp9 (s t a b:ByteArray) (W:World):(binOp .neq 34 (.agg #[.string s,.string t]) (.agg #[.string a,.string b])).run Tryz.prog W = .ok (.bool (!(decide (s=a) && decide (t=b)))) W:=by
 have u9:=Tryz.underlying9
 have hS:Tryz.prog.underlying 34=some (.struct (Tryz.prog.fieldsOf 34)):=by kernel_rfl
 have hp:Tryz.prog.stoodInHeld 34=false:=by kernel_rfl
 rw[run_neq_struct,show (10000:Nat)=9999+1 from rfl,run_equalIn_agg W 9999 34 _ _ hS hp]
 simp only[Program.fieldsOf,Tryz.underlying34]
 go_simp
 have e1:=Txt.eq_dec s a
 have e2:=Txt.eq_dec t b
 by_cases h1:s=a <;> by_cases h2:t=b <;> simp[h1,h2] at e1 e2 ⊢ <;> simp_all
theorem zm7 {w:World} {v u:Value} {l m:List BSp} (h:RSps w [v] l) (hm:RSps w [u] m):Calls Tryz.prog 18 #[v,u] w fun e w'=>e = .returned (.bool (decide (l=m)))∧∃ q,w'=w.drewN q:=by
 obtain⟨a,cap,rfl,hz,g⟩:=zg9 h
 obtain⟨a2,cap2,rfl,hz2,g2⟩:=zg9 hm
 obtain⟨n,hn⟩ : ∃ n,n=l.length:=⟨_,rfl⟩
 obtain⟨n2,hn2⟩ : ∃ n,n=m.length:=⟨_,rfl⟩
 obtain⟨r,hr⟩ : ∃ r,r=decide (l=m):=⟨_,rfl⟩
 have q1:=fun s t a b=>zp9 s t a b
 rw[← hr]
 rw[← hn] at hz h ⊢
 rw[← hn2] at hz2 hm ⊢
 obtain⟨Hh,Hm,Hg,Hg2,Hn,Hn2,Hr,Hq1⟩:=hd8 h hm g g2 hn hn2 hr q1;clear h hm g g2 hn hn2 hr q1
 go_enter Tryz.func18,Tryz.ntmps18
 by_cases hne:n=n2
 case neg =>
  have k1:((n:Int) != (n2:Int))=true:=by simp;omega
  have hf:r=false:=by rw[Hr.out,decide_eq_false_iff_not];intro e;exact hne (by rw[Hn.out,Hn2.out,e])
  obtain⟨Hf,Hne⟩:=hd2 hf hne;clear hf hne
  go_wp2_with fail
  go_ret
  exact⟨zaw Hf.out.symm,0,rfl⟩
 have k1:((n:Int) != (n2:Int))=false:=by simp;omega
 have Hne:=hd hne;clear hne
 go_wp2_with fail
 clear k1
 go_loopw [13] (fun i wr=>∃ k:Nat,k≤n∧i = .int .i64 k∧(∀ j (h1:j < l.length) (h2:j < m.length),j < k→l[j]=m[j])∧∃ q,wr=w.drewN q) (fun i _=>n - (RowKit.intOf i).toNat)
 case atStart=>exact⟨0,Nat.zero_le _,rfl,fun _ _ _ h=>by omega,0,rfl⟩
 case round =>
  obtain⟨k,hk,rfl,hno,q,rfl⟩:=hrel
  by_cases hlt:k < n
  ·have hkl:k < l.length:=by have:=Hn.out;omega
   have hkm:k < m.length:=by have:=Hn2.out;have:=Hne.out;omega
   obtain⟨b,off,rfl,d0,d1,_,_⟩:=Hg.out k _ (List.getElem?_eq_getElem hkl)
   obtain⟨b2,off2,rfl,f0,f1,_,_⟩:=Hg2.out k _ (List.getElem?_eq_getElem hkm)
   have hnx:l[k]=m[k]→∀ j (h1:j < l.length) (h2:j < m.length),j < k+1→l[j]=m[j]:=fun h j h1 h2 hjk=>by
    by_cases e:j=k
    ·subst e;exact h
    exact hno j h1 h2 (by omega)
   have hbd:l[k]≠m[k]→l≠m:=fun h e=>h (by subst e;rfl)
   obtain⟨x,hx⟩ : ∃ x,x=l[k]:=⟨_,rfl⟩
   obtain⟨y,hy⟩ : ∃ x,x=m[k]:=⟨_,rfl⟩
   rw[← hx] at d0 d1 hnx hbd
   rw[← hy] at f0 f1 hnx hbd
   have q2:=Hq1.out x.1 x.2 y.1 y.2
   have hxy:(decide (x.1=y.1) && decide (x.2=y.2))=decide (x=y):=by
    rw[Bool.eq_iff_iff]
    simp[Prod.ext_iff]
   rw[hxy] at q2
   obtain⟨s,hs⟩ : ∃ s,s=x.1:=⟨_,rfl⟩
   obtain⟨t,ht⟩ : ∃ s,s=x.2:=⟨_,rfl⟩
   obtain⟨s',hs'⟩ : ∃ s,s=y.1:=⟨_,rfl⟩
   obtain⟨t',ht'⟩ : ∃ s,s=y.2:=⟨_,rfl⟩
   rw[← hs,← ht,← hs',← ht'] at q2
   rw[← hs] at d0
   rw[← ht] at d1
   rw[← hs'] at f0
   rw[← ht'] at f1
   have k5:(0:Int)≤(k:Int):=by omega
   have k6:(k:Int) < (n:Int):=by omega
   have k7:(k:Int) < (n2:Int):=by have:=Hne.out;omega
   clear hxy
   by_cases e:x=y
   ·have hq:=hnx e
    rw[decide_eq_true e] at q2
    simp only[Bool.not_true] at q2
    clear e
    obtain⟨Hno,Hnx,Hbd,Hx,Hy,Hs,Ht,Hs',Ht',Hq⟩:=hd10 hno hnx hbd hx hy hs ht hs' ht' hq;clear hno hnx hbd hx hy hs ht hs' ht' hq
    go_wp2_with fail
    go_region
    go_wp2_with fail
    go_roundw
    case rel=>exact⟨k+1,by omega,by go_num,Hq.out,_,rfl⟩
    case measure=>simp[RowKit.intOf];omega
   have hf:r=false:=by rw[Hr.out,decide_eq_false_iff_not];exact hbd e
   rw[decide_eq_false e] at q2
   simp only[Bool.not_false] at q2
   clear e
   obtain⟨Hno,Hnx,Hbd,Hx,Hy,Hs,Ht,Hs',Ht',Hf⟩:=hd10 hno hnx hbd hx hy hs ht hs' ht' hf;clear hno hnx hbd hx hy hs ht hs' ht' hf
   go_wp2_with fail
   go_region
   go_wp2_with fail
   go_ret
   exact⟨zaw Hf.out.symm,_,rfl⟩
  obtain rfl:n=k:=by omega
  have hf:r=true:=by
   rw[Hr.out,decide_eq_true_eq]
   exact List.ext_getElem (by rw[← Hn.out,← Hn2.out,Hne.out]) (fun j h1 h2=>hno j h1 h2 (by have:=Hn.out;omega))
  obtain⟨Hno,Hf⟩:=hd2 hno hf;clear hno hf
  go_wp2_with fail
  go_ret
  exact⟨zaw Hf.out.symm,_,rfl⟩
end

section
open Go.Shelf Go.RowKit Go.Lib VerN
attribute [local go_sem ↓] Go.wp_at_zero Go.wp_at_succ
theorem zku (w:World):RSps w [.slice none 0 0] []:=⟨_,0,rfl,Nat.zero_le _,Nat.zero_le _,fun i x hi=>by simp at hi⟩
theorem rdPost_to {t:ByteArray} {w w':World} {e:Ending} (h:RdPost t w e w'):znd t w e w':=by
 obtain⟨h,hb⟩:=h
 refine⟨?_,hb⟩
 rcases h with⟨v,rfl,⟨h0,rfl⟩ | ⟨h0,h1,h2,h3⟩⟩ | ⟨rfl,h0,h1⟩
 ·exact .inl ⟨_,rfl,.inl h0,by unfold rdV;rw[if_pos h0];exact spsT_nil (zku _)⟩
 ·refine .inl ⟨_,rfl,.inr ⟨h1,h2⟩,?_⟩
  unfold rdV
  rw[if_neg h0]
  obtain⟨l,hl⟩:=rd_ok t h1
  rw[← hl] at h3 ⊢
  exact⟨zh4 (fun x hx=>by have:=ziz l x hx;unfold maxLen;omega) h3,fun _=>zp4 h3⟩
 refine .inr ⟨_,rfl,?_,zku _⟩
 rintro (h | ⟨k1,k2⟩)
 ·exact h0 h
 rcases h1 with⟨p,hp,hk⟩ | h1
 ·rw[k1 p hp] at hk;cases hk
 obtain⟨l,hl⟩:=rd_ok t k1
 exact h1 l hl (k2 l hl)
theorem spsRd_any (t:ByteArray) (ht:t.size≤70000) {w:World} (hD:zbz w):Calls Tryz.prog 16 #[.string t] w (znd t w):=(znn t ht hD).mono fun _ _ h=>rdPost_to h
def zot (t:ByteArray) (w:World) (e:Ending) (w':World):Prop :=
 ∃ a n c,e = .returned (.tuple #[.slice a n c,.bool (zed t)])∧(zed t=true→zg2 w' (.slice a n c) (rdV t))∧Below w.heap.size w w'
open Classical in
theorem setOk_yes {t:ByteArray} (h:Rd3 t) {x:BSp} {r:List BSp} (hr:rdV t=x :: r) (hx:(decide (x.1=⟨#[]⟩) && decide (x.2=⟨#[]⟩))=false):zed t=true:=by
 unfold zed
 rw[decide_eq_true_eq]
 refine⟨h,by rw[hr];simp,by rw[hr];rintro e;simp at e;rw[e] at hx;simp at hx⟩
open Classical in
theorem setOk_one {t:ByteArray} {x:BSp} {r:List BSp} (hr:rdV t=x :: r) (hx:(decide (x.1=⟨#[]⟩) && decide (x.2=⟨#[]⟩))=true):zed t=false:=by
 unfold zed
 rw[decide_eq_false_iff_not]
 rintro⟨_,_,h⟩
 rw[hr] at h
 simp only[Bool.and_eq_true,decide_eq_true_eq] at hx
 exact h (by rw[List.head?_cons];exact congrArg some (Prod.ext hx.1 hx.2))
open Classical in
theorem setOk_nil {t:ByteArray} (hr:rdV t = []):zed t=false:=by
 unfold zed
 rw[decide_eq_false_iff_not]
 rintro⟨_,h,_⟩
 exact h hr
open Classical in
theorem setOk_no {t:ByteArray} (h:¬ Rd3 t):zed t=false:=by
 unfold zed
 rw[decide_eq_false_iff_not]
 exact fun k=>h k.1
theorem bytes_e (x:ByteArray):(x.toList == (⟨#[]⟩ : ByteArray).toList)=decide (x=⟨#[]⟩):=Txt.eq_dec _ _
theorem toList_e:(⟨#[]⟩ : ByteArray).toList = []:=by rw[Lib.toList_data]
theorem set_any (t:ByteArray) (ht:t.size≤70000) {w:World} (hD:zbz w):Calls Tryz.prog 182 #[.string t] w (zot t w):=by
 have hR:=spsRd_any t ht hD
 obtain⟨HR,HD⟩:=hd2 hR hD;clear hR hD
 go_enter Tryz.func182,Tryz.ntmps182
 go_wp2_with fail
 refine HR.out.mono ?_
 rintro e w1 ⟨⟨v,rfl,hr,hv⟩ | ⟨v,rfl,hr,hv⟩,hb⟩
 ·obtain⟨a,c,rfl⟩:=zdb hv.1
  have hat:=zp8 hv.1
  obtain⟨n,hn⟩ : ∃ n,n=(rdV t).length:=⟨_,rfl⟩
  rw[← hn] at hv ⊢
  match hL:rdV t with
  | [] =>
   have hf:=setOk_nil hL
   rw[hL] at hn
   obtain rfl:n=0:=hn
   clear hat hL
   obtain⟨Hr,Hv,Hf,Hb⟩:=hd4 hr hv hf hb;clear hr hv hf hb
   go_wp2_with fail
   go_quiet (fail)
   go_wp2_with fail
   go_ret2
   exact⟨_,_,_,by rw[Hf.out];rfl,(fun k=>by rw[Hf.out] at k;cases k),zac Hb.out _⟩
  | x :: rr =>
   obtain⟨b,off,rfl,c0,c1⟩:=hat 0 x (by rw[hL];rfl)
   simp only[Nat.zero_mul,Nat.add_zero] at c0 c1
   have hn1:0 < n:=by rw[hn,hL];simp
   have k1:decide ((0:Int) < (n:Int))=true:=decide_eq_true (by omega)
   have k2:((n:Int) == 0)=false:=by rw[beq_eq_false_iff_ne];omega
   have q1:=fun (W:World)=>zp9 x.1 x.2 ⟨#[]⟩ ⟨#[]⟩ W
   obtain⟨y,hy⟩ : ∃ y,y=x.1:=⟨_,rfl⟩
   obtain⟨z,hz⟩ : ∃ y,y=x.2:=⟨_,rfl⟩
   have hyes:=setOk_yes hr hL
   have hone:=setOk_one hL
   rw[← hy,← hz] at hyes hone q1
   rw[← hy] at c0
   rw[← hz] at c1
   have x1:=bytes_e y
   have x2:=bytes_e z
   rw[toList_e] at x1 x2
   have k5:(0:Int) < (n:Int):=by omega
   obtain⟨p1,hp1⟩ : ∃ p,p=decide (y=⟨#[]⟩):=⟨_,rfl⟩
   obtain⟨p2,hp2⟩ : ∃ p,p=decide (z=⟨#[]⟩):=⟨_,rfl⟩
   rw[← hp1] at x1
   rw[← hp2] at x2
   rw[← hp1,← hp2] at hyes hone q1
   clear hat
   cases p1 with
   | false =>
    have hf:=hyes rfl
    obtain⟨Hr,Hv,Hf,Hb,HL,Hn,Hy,Hz,Hyes,Hone,Hp1,Hp2⟩:=hd12 hr hv hf hb hL hn hy hz hyes hone hp1 hp2;clear hr hv hf hb hL hn hy hz hyes hone hp1 hp2
    go_wp2_with fail
    go_quiet (fail)
    go_wp2_with fail
    go_ret2
    exact⟨_,_,_,by rw[Hf.out];rfl,(fun _=>zdn Hv.out (zac (Below.refl _ _) _)),zac Hb.out _⟩
   | true =>
    cases p2 with
    | false =>
     have hf:=hyes rfl
     obtain⟨Hr,Hv,Hf,Hb,HL,Hn,Hy,Hz,Hyes,Hone,Hp1,Hp2⟩:=hd12 hr hv hf hb hL hn hy hz hyes hone hp1 hp2;clear hr hv hf hb hL hn hy hz hyes hone hp1 hp2
     go_wp2_with fail
     go_quiet (fail)
     go_wp2_with fail
     go_ret2
     exact⟨_,_,_,by rw[Hf.out];rfl,(fun _=>zdn Hv.out (zac (Below.refl _ _) _)),zac Hb.out _⟩
    | true =>
     have hf:=hone rfl
     obtain⟨Hr,Hv,Hf,Hb,HL,Hn,Hy,Hz,Hyes,Hone,Hp1,Hp2⟩:=hd12 hr hv hf hb hL hn hy hz hyes hone hp1 hp2;clear hr hv hf hb hL hn hy hz hyes hone hp1 hp2
     go_wp2_with fail
     go_quiet (fail)
     go_wp2_with fail
     go_ret2
     exact⟨_,_,_,by rw[Hf.out];rfl,(fun k=>by rw[Hf.out] at k;cases k),zac Hb.out _⟩
 have hf:=setOk_no hr
 obtain⟨a,c,rfl⟩:=zdb hv
 obtain⟨Hr,Hv,Hf,Hb⟩:=hd4 hr hv hf hb;clear hr hv hf hb
 go_wp2_with fail
 go_quiet (fail)
 go_wp2_with fail
 go_ret2
 exact⟨_,_,_,by rw[Hf.out];rfl,(fun k=>by rw[Hf.out] at k;cases k),zac Hb.out _⟩
end

section
open Go.Shelf Go.RowKit Go.Lib VerN VarM
open LexM (Wd)
attribute [local go_sem ↓] Go.wp_at_zero Go.wp_at_succ
def WishPost (r:Nat) (a:Option Addr) (n c:Nat) (fin:Int) (ws:List Wd) (i:Nat) (w:World) (e:Ending) (w':World):Prop :=
 ((∃ s j v1 v2,ze0 ws i=(some s,j)∧e = .returned (.agg #[.string s.1,v1,v2])∧zg2 w' v1 s.2.1∧zel w' v2 s.2.2∧RBox r (.slice a n c) j fin w')∨(∃ j,ze0 ws i=(none,j)∧e=zea (zf6 ws fin j)))∧Frm (fun k=>k=r) w w'
abbrev zcg (k:Nat) (x y z:Value) (W:World):Prop:=W.heap[k]? = some (.cells #[x,y,z] 51 (0,0))
theorem zbh {k:Nat} {x y z:Value} {W:World} (h:zcg k x y z W):W.cell? ⟨k,0,none⟩=some x∧W.cell? ⟨k,1,none⟩=some y∧W.cell? ⟨k,2,none⟩=some z∧W.frozen? ⟨k,0,none⟩=false∧W.frozen? ⟨k,1,none⟩=false∧W.frozen? ⟨k,2,none⟩=false :=
 ⟨za2 h 0,za2 h 1,za2 h 2,za5 h 0,za5 h 1,za5 h 2⟩
theorem zcd {S:Nat→Prop} {W W':World} (hF:Frm S W W') {k:Nat} {o:Obj} (h:W.heap[k]? = some o) (hS:¬ S k):W'.heap[k]? = some o:=zaf h hF hS
theorem zd0 {W:World} {r g g1:Nat} {v:Value} {i:Nat} {fin:Int} {x0 x1:Value} {a0 a1 b0 b1:Option Addr} {n0 n1 m0 m1 c0 c1 d0 d1:Nat} (h:RBox r v i fin W) (h0:zcg g x0 (.slice a0 n0 c0) (.slice b0 m0 d0) W) (h1:zcg g1 x1 (.slice a1 n1 c1) (.slice b1 m1 d1) W):No2 W (fun k=>k=r∨k=g∨k=g1):=by
 rintro k (rfl | rfl | rfl)
 ·exact zi0 h (by decide) (by decide)
 ·exact zi0 h0 (by decide) (by decide)
 exact zi0 h1 (by decide) (by decide)
theorem zox {W7 W8:World} {r g g1:Nat} {v:Value} {i:Nat} {fin:Int} {x y z p q s u:Value} (h0:zcg g x y z W7) (h:RBox r v i fin W7) (hr:r≠g) (hr1:r≠g1) (hg:g≠g1) (hW:W8=(((W7.setCell ⟨g1,2,none⟩ u).setCell ⟨g,0,none⟩ p).setCell ⟨g,1,none⟩ q).setCell ⟨g,2,none⟩ s):zcg g p q s W8∧RBox r v i fin W8:=by
 rw[hW]
 refine⟨?_,zaa (zaa (zaa (zaa h hr1) hr) hr) hr⟩
 have k0:=heap_setCell_same _ g 0 _ _ p (zaa (b:=g1) (i:=2) (u:=u) h0 hg)
 have k1:=heap_setCell_same _ g 1 _ _ q k0
 have k2:=heap_setCell_same _ g 2 _ _ s k1
 exact k2
structure WsI (w0:World) (r:Nat) (a:Option Addr) (n c:Nat) (fin:Int) (i:Nat) (w:World) (W:World):Prop where
 st:RdS w0 r a n c fin i W
 frm:Frm (fun k=>k=r) w W
 g0:zcg w.heap.size (.string ⟨#[]⟩) (.slice none 0 0) (.slice none 0 0) W
theorem WsI.to {w0:World} {r:Nat} {a:Option Addr} {n c:Nat} {fin:Int} {i:Nat} {w W W':World} (h:WsI w0 r a n c fin i w W) (hb:Below W.heap.size W W'):WsI w0 r a n c fin i w W' :=
 ⟨h.st.to hb,h.frm.trans (Frm.of_below (S:=fun _=>False) hb) (fun _ _ h=>h.elim),za0 hb h.g0⟩
structure WsJ (w0:World) (r:Nat) (a:Option Addr) (n c:Nat) (fin:Int) (i:Nat) (w:World) (g g1:Nat) (nm:ByteArray) (va:Option Addr) (vn vc:Nat) (L:List BSp) (W:World):Prop where
 st:RdS w0 r a n c fin i W
 frm:Frm (fun k=>k=r) w W
 g0:zcg g (.string ⟨#[]⟩) (.slice none 0 0) (.slice none 0 0) W
 g1:zcg g1 (.string nm) (.slice va vn vc) (.slice none 0 0) W
 rd:zg2 W (.slice va vn vc) L
theorem zjs (W:World):zg2 (W.alloc (.cells #[.string ⟨#[]⟩,.string ⟨#[]⟩] 34)) (.slice (some ⟨W.heap.size,0,none⟩) 1 1) allV:=by
 refine⟨?_,fun _ k hk=>by cases hk;exact⟨_,_,heap_alloc_new W _⟩⟩
 refine⟨_,1,rfl,Nat.le_refl _,by unfold maxLen;omega,fun i x hi=>?_⟩
 have h:=heap_alloc_new W (.cells #[.string ⟨#[]⟩,.string ⟨#[]⟩] 34)
 match i,hi with
 | 0,hi =>
  simp[allV] at hi
  subst hi
  refine⟨W.heap.size,0,[.string ⟨#[]⟩,.string ⟨#[]⟩],rfl,rfl,fun j u hu=>?_,rfl,Nat.zero_le _,Nat.zero_le _⟩
  rw[Nat.zero_mul,Nat.add_zero,Nat.zero_add]
  match j,hu with
  | 0,hu=>simp at hu;subst hu;exact za2 h 0
  | 1,hu=>simp at hu;subst hu;exact za2 h 1
 | i+1,hi=>simp[allV] at hi
theorem zks {ws:List Wd} {i:Nat} (h:zho (zan ws i)=false):ze0 ws i=(none,i):=by
 unfold ze0
 rw[if_neg (by rw[h];simp)]
theorem zls {ws:List Wd} {i:Nat} {s nm:ByteArray} {L:List BSp} (h:zho (zan ws i)=true) (hs:s=zan ws i) (hnm:nm=(cutB 64 s).1) (hL:L=zhx s):(∀ l j,zb7 ws (i+1) []=(some l,j)→ze0 ws i=(some (nm,L,l),j))∧(∀ j,zb7 ws (i+1) []=(none,j)→ze0 ws i=(none,j)):=by
 subst hs hnm hL
 constructor
 ·intro l j e
  unfold ze0
  rw[if_pos h,e]
  rfl
 intro j e
 unfold ze0
 rw[if_pos h,e]
 rfl
theorem zoy {w0 w:World} {r:Nat} {a:Option Addr} {n c:Nat} {fin:Int} {ws:List Wd} {i:Nat} (C:RdC w0 r a n c fin ws) (S:RdS w0 r a n c fin i w) (hi:i≤1000):Calls Tryz.prog 132 #[rp r] w (WishPost r a n c fin ws i w):=by
 have hrw:r < w.heap.size:=(Array.getElem?_eq_some_iff.1 S.box).1
 have hn1:=C.n1000
 obtain⟨s,hs⟩ : ∃ s,s=zan ws i:=⟨_,rfl⟩
 have hsz:s.size≤70000:=by rw[hs];exact C.peek_size _
 have hI0:WsI w0 r a n c fin i w (w.alloc (.cells #[.string ⟨#[]⟩,.slice none 0 0,.slice none 0 0] 51)):=⟨S.to (za1 w _),(Frm.refl _ _).alloc _,heap_alloc_new _ _⟩
 have hP:=C.peek hI0.st
 rw[← hs] at hP
 obtain⟨nm,hnm⟩ : ∃ x:ByteArray,x=⟨(cut s.data.toList [64]).1.toArray⟩:=⟨_,rfl⟩
 obtain⟨tl,htl⟩ : ∃ x:ByteArray,x=⟨(cut s.data.toList [64]).2.1.toArray⟩:=⟨_,rfl⟩
 obtain⟨fl,hfl⟩ : ∃ x:Bool,x=(cut s.data.toList [64]).2.2:=⟨_,rfl⟩
 have hsgz:nm.size≤70000∧tl.size≤70000:=by
  have:=zn3 64 s
  have e1:nm=(cutB 64 s).1:=hnm
  have e2:tl=(cutB 64 s).2.1:=htl
  rw[e1,e2]
  omega
 have hnm2:nm=(cutB 64 s).1:=hnm
 have hNm:=fun (W:World)=>zih nm (by omega) W
 obtain⟨nk,hnk⟩ : ∃ b,b=ze1 nm.data.toList:=⟨_,rfl⟩
 rw[← hnk] at hNm
 have hnb:zho (zan ws i)=(nk && (!fl || zed tl)):=by
  rw[← hs]
  unfold zho
  rw[hnk,hfl,htl,hnm]
  rfl
 have hsb:zhx s=if fl=true then rdV tl else allV:=by
  unfold zhx
  rw[hfl,htl]
  rfl
 obtain⟨HC,HS,HI0,HP,Hs,Hsgz,Hnm2,Hnk,Hnb,Hsb⟩:=hd10 C S hI0 hP hs hsgz hnm2 hnk hnb hsb;clear C S hI0 hP hs hsgz hnm2 hnk hnb hsb
 go_enter Tryz.func132,Tryz.ntmps132
 go_wp2_with fail
 refine HP.out.mono ?_
 rintro e w1 ⟨rfl,q1,rfl⟩
 have hI1:=HI0.out.to (zac (Below.refl _ _) q1)
 generalize (w.alloc (.cells #[.string ⟨#[]⟩,.slice none 0 0,.slice none 0 0] 51)).drewN q1=w2 at hI1 ⊢
 obtain⟨mx,hmx⟩:=(HC.out.dr hI1.st).max
 have hCut:=Tryz.strings_Cut s ⟨#[64]⟩ mx w2 (by omega) hmx
 clear hmx
 simp only[← hnm,← htl,← hfl] at hCut
 obtain⟨HCut,HI1,Hnm,Htl,Hfl⟩:=hd5 hCut hI1 hnm htl hfl;clear hCut hI1 hnm htl hfl
 go_wp2_with fail
 refine HCut.out.mono ?_
 rintro e w3 ⟨rfl,q2,rfl⟩
 have hI2:=HI1.out.to (zac (Below.refl _ _) q2)
 generalize w2.drewN q2=w3 at hI2 ⊢
 have HI2:=hd hI2;clear hI2
 go_upto_region 3 with (fail)
 obtain⟨g,hg⟩ : ∃ k,k=w.heap.size:=⟨_,rfl⟩
 obtain⟨g1,hg1⟩ : ∃ k,k=w3.heap.size+1:=⟨_,rfl⟩
 obtain⟨va,hva⟩ : ∃ k:Option Addr,k=some ⟨w3.heap.size,0,none⟩:=⟨_,rfl⟩
 obtain⟨w4,hw4⟩ : ∃ W,W=((w3.alloc (.cells #[.string ⟨#[]⟩,.string ⟨#[]⟩] 34)).alloc (.cells #[.string nm,.slice va 1 1,.slice none 0 0] 51)):=⟨_,rfl⟩
 have hb34:Below w3.heap.size w3 w4:=by rw[hw4];exact (za1 _ _).alloc (by simp) _
 have hJ:WsJ w0 r a n c fin i w g g1 nm va 1 1 allV w4:=by
  refine⟨HI2.out.st.to hb34,?_,?_,?_,?_⟩
  ·exact HI2.out.frm.trans (Frm.of_below (S:=fun _=>False) hb34) (fun _ _ h=>h.elim)
  ·rw[hg];exact za0 hb34 HI2.out.g0
  ·rw[hw4,hg1];exact zag (by simp)
  rw[hw4,hva];exact zdn (zjs w3) (za1 _ _)
 have hrg:r < g:=by rw[hg];exact hrw
 have hgg:g < g1:=by rw[hg1,hg];have:=HI2.out.frm.size;omega
 have hwg:w.heap.size≤g:=Nat.le_of_eq hg.symm
 rw[← hva,← hw4,← hg,← hg1]
 clear hva hw4 hg hg1 hb34
 have HJ:=hd hJ;clear hJ
 cases fl with
 | false =>
  cases nk with
  | false =>
   have hNo:=zks (ws:=ws) (i:=i) (by rw[Hnb.out];rfl)
   have hIs:=HJ.out.st
   have hIf:=HJ.out.frm
   obtain⟨HIs,HIf⟩:=hd2 hIs hIf;clear hIs hIf
   have hWn:=HC.out.want HIs.out
   obtain⟨HWn,HNo⟩:=hd2 hWn hNo;clear hWn hNo
   go_wp2_with fail
   refine (hNm _).mono ?_
   rintro e wN ⟨rfl,hwN⟩
   subst hwN
   go_wp2_with fail
   refine HWn.out.mono ?_
   rintro e w6 ⟨rfl,q5,rfl⟩
   go_wp2_with fail
   exact⟨rfl,.inr ⟨i,HNo.out,rfl⟩,HIf.out.drewN q5⟩
  | true =>
   have hYe:=zls (L:=allV) (by rw[Hnb.out];rfl) Hs.out Hnm2.out (by rw[Hsb.out];rfl)
   have HI:=HJ
   have hSt:=zes HC.out (HI.out.st.on HC.out.low)
   obtain⟨_,c1',_,c3'⟩:=zba HI.out.st.box
   obtain⟨HSt,HYe⟩:=hd2 hSt hYe;clear hSt hYe
   go_wp2_with fail
   refine (hNm _).mono ?_
   rintro e wN ⟨rfl,hwN⟩
   subst hwN
   go_wp2_with fail
   refine (zbv _ r).mono ?_
   rintro e w6 ⟨rfl,hw6⟩
   subst hw6
   go_wp2_with fail
   refine HSt.out.mono ?_
   rintro e w7 ⟨⟨l,j,v,hse,rfl,hv,hbx⟩ | ⟨j,hse,rfl⟩,hfr⟩
   ·obtain⟨a3,c3,rfl⟩:=zd7 hv.1
    have hfw:=(zad HI.out.frm 1 (.int .i64 ((i:Int)+1))).trans hfr (fun _ _ h=>h)
    obtain⟨z,hz⟩ : ∃ n,n=l.length:=⟨_,rfl⟩
    rw[← hz] at hv ⊢
    have hk0:zcg g (.string ⟨#[]⟩) (.slice none 0 0) (.slice none 0 0) w7:=zcd hfr (zaa (b:=r) (i:=1) HI.out.g0 (by omega)) (by omega)
    have hk1:zcg g1 (.string nm) (.slice va 1 1) (.slice none 0 0) w7:=zcd hfr (zaa (b:=r) (i:=1) HI.out.g1 (by omega)) (by omega)
    obtain⟨_,_,_,f00,f01,f02⟩:=zbh hk0
    obtain⟨x10,x11,_,f10,f11,f12⟩:=zbh hk1
    have hvv:=HI.out.rd
    obtain⟨Hse,Hv,Hbx,Hfr,Hfw,Hk0,Hk1,Hvv,Hz⟩:=hd9 hse hv hbx hfr hfw hk0 hk1 hvv hz;clear hse hv hbx hfr hfw hk0 hk1 hvv hz
    go_wp2_with fail
    obtain⟨W8,hW8⟩ : ∃ W,W=(((w7.setCell ⟨g1,2,none⟩ (.slice a3 z c3)).setCell ⟨g,0,none⟩ (.string nm)).setCell ⟨g,1,none⟩ (.slice va 1 1)).setCell ⟨g,2,none⟩ (.slice a3 z c3):=⟨_,rfl⟩
    rw[← hW8]
    have hfin:=zox (g1:=g1) Hk0.out (i:=j) Hbx.out (by omega) (by omega) (by omega) hW8
    have hF8:Frm (fun k=>k=r) w W8:=by rw[hW8];exact (((Hfw.out.setCell (p:=⟨g1,2,none⟩) (.inl (show w.heap.size≤g1 by omega)) _).setCell (p:=⟨g,0,none⟩) (.inl hwg) _).setCell (p:=⟨g,1,none⟩) (.inl hwg) _).setCell (p:=⟨g,2,none⟩) (.inl hwg) _
    have hT8:Frm (fun k=>k=r∨k=g∨k=g1) w7 W8:=by
     rw[hW8]
     exact ((((Frm.refl _ w7).setCell (p:=⟨g1,2,none⟩) (.inr (.inr (.inr rfl))) _).setCell (p:=⟨g,0,none⟩) (.inr (.inr (.inl rfl))) _).setCell (p:=⟨g,1,none⟩) (.inr (.inr (.inl rfl))) _).setCell (p:=⟨g,2,none⟩) (.inr (.inr (.inl rfl))) _
    refine bodyPost_ret (results_cell_row rfl _ _ _ _ _ _ _ rfl hfin.1 Tryz.underlying51 rfl (by kernel_rfl)) rfl ?_
    refine⟨.inl ⟨(nm,allV,l),j,.slice va 1 1,.slice a3 z c3,HYe.out.1 _ _ Hse.out,rfl,?_,?_,hfin.2⟩,hF8⟩
    ·have h7:Frm (fun k=>k=r∨k=g∨k=g1) w6 w7:=(Frm.setCell (S:=fun k=>k=r∨k=g∨k=g1) (Frm.refl _ w6) (p:=⟨r,1,none⟩) (.inr (.inl rfl)) _).trans (T:=fun k=>k=r) Hfr.out (fun _ _ h=>.inl h)
     exact zbr Hvv.out (h7.trans hT8 (fun _ _ h=>h)) (zd0 HI.out.st.box HI.out.g0 HI.out.g1)
    exact zcn Hv.out hT8 (zd0 Hbx.out Hk0.out Hk1.out)
   have hfw:=(zad HI.out.frm 1 (.int .i64 ((i:Int)+1))).trans hfr (fun _ _ h=>h)
   obtain⟨Hse,Hfr,Hfw⟩:=hd3 hse hfr hfw;clear hse hfr hfw
   go_wp2_with fail
   exact⟨rfl,.inr ⟨j,HYe.out.2 _ Hse.out,rfl⟩,Hfw.out⟩
 | true =>
  have hSet:=set_any tl (by have:=Hsgz.out;omega) (HC.out.dr HJ.out.st)
  obtain⟨ok,hok⟩ : ∃ b,b=zed tl:=⟨_,rfl⟩
  unfold zot at hSet
  rw[← hok] at hSet
  obtain⟨HSet,Hok⟩:=hd2 hSet hok;clear hSet hok
  go_wp2_with fail
  refine HSet.out.mono ?_
  rintro e w5 ⟨a2,n2,c2,rfl,hrd,hb5⟩
  have hg15:=za0 hb5 HJ.out.g1
  have hg05:=za0 hb5 HJ.out.g0
  obtain⟨_,_,_,_,fz1,_⟩:=zbh hg15
  have hst5:=HJ.out.st.to hb5
  have hfr5:=HJ.out.frm.trans (Frm.of_below (S:=fun _=>False) hb5) (fun _ _ h=>h.elim)
  obtain⟨w6,hw6⟩ : ∃ W,W=w5.setCell ⟨g1,1,none⟩ (.slice a2 n2 c2):=⟨_,rfl⟩
  have hIs:RdS w0 r a n c fin i w6:=by rw[hw6];exact⟨zaa hst5.box (by omega),hst5.bel.setCell (p:=⟨g1,1,none⟩) (by have:=HC.out.low;show w0.heap.size≤g1;omega) _⟩
  have hIf:Frm (fun k=>k=r) w w6:=by rw[hw6];exact hfr5.setCell (p:=⟨g1,1,none⟩) (.inl (by show w.heap.size≤g1;omega)) _
  have hJ6:ok=true→WsJ w0 r a n c fin i w g g1 nm a2 n2 c2 (rdV tl) w6:=fun k=>by
   refine⟨hIs,hIf,?_,?_,?_⟩
   ·rw[hw6];exact zaa hg05 (by omega)
   ·rw[hw6];exact heap_setCell_same _ g1 1 _ _ _ hg15
   rw[hw6]
   exact zbr (hrd k) (Frm.setCell (S:=fun k=>k=g1) (Frm.refl _ _) (p:=⟨g1,1,none⟩) (.inr rfl) _) (fun k hk=>by rw[show k=g1 from hk];exact zi0 hg15 (by decide) (by decide))
  obtain⟨Hrd,Hb5,Hg15,Hg05,Hst5,Hfr5,HIs,HIf,HJ6⟩:=hd9 hrd hb5 hg15 hg05 hst5 hfr5 hIs hIf hJ6;clear hrd hb5 hg15 hg05 hst5 hfr5 hIs hIf hJ6
  cases nk with
  | false =>
   have hNo:=zks (ws:=ws) (i:=i) (by rw[Hnb.out];rfl)
   go_upto_region 6 with (fail)
   rw[← hw6]
   clear hw6
   have hWn:=HC.out.want HIs.out
   obtain⟨HWn,HNo⟩:=hd2 hWn hNo;clear hWn hNo
   go_wp2_with fail
   refine (hNm _).mono ?_
   rintro e wN ⟨rfl,hwN⟩
   subst hwN
   go_wp2_with fail
   refine HWn.out.mono ?_
   rintro e w6 ⟨rfl,q5,rfl⟩
   go_wp2_with fail
   exact⟨rfl,.inr ⟨i,HNo.out,rfl⟩,HIf.out.drewN q5⟩
  | true =>
   cases ok with
   | false =>
    have hNo:=zks (ws:=ws) (i:=i) (by rw[Hnb.out,← Hok.out];rfl)
    go_upto_region 6 with (fail)
    rw[← hw6]
    clear hw6
    have hWn:=HC.out.want HIs.out
    obtain⟨HWn,HNo⟩:=hd2 hWn hNo;clear hWn hNo
    go_wp2_with fail
    refine (hNm _).mono ?_
    rintro e wN ⟨rfl,hwN⟩
    subst hwN
    go_wp2_with fail
    refine HWn.out.mono ?_
    rintro e w6 ⟨rfl,q5,rfl⟩
    go_wp2_with fail
    exact⟨rfl,.inr ⟨i,HNo.out,rfl⟩,HIf.out.drewN q5⟩
   | true =>
    have hYe:=zls (L:=rdV tl) (by rw[Hnb.out,← Hok.out];rfl) Hs.out Hnm2.out (by rw[Hsb.out];rfl)
    have HI:=Lib.hid (HJ6.out rfl)
    go_upto_region 6 with (fail)
    rw[← hw6]
    clear hw6
    have hSt:=zes HC.out (HI.out.st.on HC.out.low)
    obtain⟨_,c1',_,c3'⟩:=zba HI.out.st.box
    obtain⟨HSt,HYe⟩:=hd2 hSt hYe;clear hSt hYe
    go_wp2_with fail
    refine (hNm _).mono ?_
    rintro e wN ⟨rfl,hwN⟩
    subst hwN
    go_wp2_with fail
    refine (zbv _ r).mono ?_
    rintro e w6 ⟨rfl,hw6⟩
    subst hw6
    go_wp2_with fail
    refine HSt.out.mono ?_
    rintro e w7 ⟨⟨l,j,v,hse,rfl,hv,hbx⟩ | ⟨j,hse,rfl⟩,hfr⟩
    ·obtain⟨a3,c3,rfl⟩:=zd7 hv.1
     have hfw:=(zad HI.out.frm 1 (.int .i64 ((i:Int)+1))).trans hfr (fun _ _ h=>h)
     obtain⟨z,hz⟩ : ∃ n,n=l.length:=⟨_,rfl⟩
     rw[← hz] at hv ⊢
     have hk0:zcg g (.string ⟨#[]⟩) (.slice none 0 0) (.slice none 0 0) w7:=zcd hfr (zaa (b:=r) (i:=1) HI.out.g0 (by omega)) (by omega)
     have hk1:zcg g1 (.string nm) (.slice a2 n2 c2) (.slice none 0 0) w7:=zcd hfr (zaa (b:=r) (i:=1) HI.out.g1 (by omega)) (by omega)
     obtain⟨_,_,_,f00,f01,f02⟩:=zbh hk0
     obtain⟨x10,x11,_,f10,f11,f12⟩:=zbh hk1
     have hvv:=HI.out.rd
     obtain⟨Hse,Hv,Hbx,Hfr,Hfw,Hk0,Hk1,Hvv,Hz⟩:=hd9 hse hv hbx hfr hfw hk0 hk1 hvv hz;clear hse hv hbx hfr hfw hk0 hk1 hvv hz
     go_wp2_with fail
     obtain⟨W8,hW8⟩ : ∃ W,W=(((w7.setCell ⟨g1,2,none⟩ (.slice a3 z c3)).setCell ⟨g,0,none⟩ (.string nm)).setCell ⟨g,1,none⟩ (.slice a2 n2 c2)).setCell ⟨g,2,none⟩ (.slice a3 z c3):=⟨_,rfl⟩
     rw[← hW8]
     have hfin:=zox (g1:=g1) Hk0.out (i:=j) Hbx.out (by omega) (by omega) (by omega) hW8
     have hF8:Frm (fun k=>k=r) w W8:=by rw[hW8];exact (((Hfw.out.setCell (p:=⟨g1,2,none⟩) (.inl (show w.heap.size≤g1 by omega)) _).setCell (p:=⟨g,0,none⟩) (.inl hwg) _).setCell (p:=⟨g,1,none⟩) (.inl hwg) _).setCell (p:=⟨g,2,none⟩) (.inl hwg) _
     have hT8:Frm (fun k=>k=r∨k=g∨k=g1) w7 W8:=by
      rw[hW8]
      exact ((((Frm.refl _ w7).setCell (p:=⟨g1,2,none⟩) (.inr (.inr (.inr rfl))) _).setCell (p:=⟨g,0,none⟩) (.inr (.inr (.inl rfl))) _).setCell (p:=⟨g,1,none⟩) (.inr (.inr (.inl rfl))) _).setCell (p:=⟨g,2,none⟩) (.inr (.inr (.inl rfl))) _
     refine bodyPost_ret (results_cell_row rfl _ _ _ _ _ _ _ rfl hfin.1 Tryz.underlying51 rfl (by kernel_rfl)) rfl ?_
     refine⟨.inl ⟨(nm,rdV tl,l),j,.slice a2 n2 c2,.slice a3 z c3,HYe.out.1 _ _ Hse.out,rfl,?_,?_,hfin.2⟩,hF8⟩
     ·have h7:Frm (fun k=>k=r∨k=g∨k=g1) w6 w7:=(Frm.setCell (S:=fun k=>k=r∨k=g∨k=g1) (Frm.refl _ w6) (p:=⟨r,1,none⟩) (.inr (.inl rfl)) _).trans (T:=fun k=>k=r) Hfr.out (fun _ _ h=>.inl h)
      exact zbr Hvv.out (h7.trans hT8 (fun _ _ h=>h)) (zd0 HI.out.st.box HI.out.g0 HI.out.g1)
     exact zcn Hv.out hT8 (zd0 Hbx.out Hk0.out Hk1.out)
    have hfw:=(zad HI.out.frm 1 (.int .i64 ((i:Int)+1))).trans hfr (fun _ _ h=>h)
    obtain⟨Hse,Hfr,Hfw⟩:=hd3 hse hfr hfw;clear hse hfr hfw
    go_wp2_with fail
    exact⟨rfl,.inr ⟨j,HYe.out.2 _ Hse.out,rfl⟩,Hfw.out⟩
end
end Go.Proofs.YteailgjiifdgcaaGreatDoor
