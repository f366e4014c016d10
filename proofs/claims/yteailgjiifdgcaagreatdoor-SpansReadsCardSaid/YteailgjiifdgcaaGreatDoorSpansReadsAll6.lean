/- Walks and plain facts. Texts merged: SpsX, SpsP, SpnRf, SpsS, SpsU, StR, Typ, SpsY, SpsV, VarM, VarN, VarR, WishR, LexM, RqM, LexK, RqA, RqB. Condition: none beyond what each says. -/
import Derived.Lib.Small
import Derived.Deep.Cut
import Derived.Deep.DrawnRows
import Derived.Test.YteailgjiifdgcaaGreatDoorSpansReadsAll5
set_option linter.unusedVariables false
set_option linter.unusedSimpArgs false
set_option maxRecDepth 10000
set_option maxHeartbeats 4000000
namespace Go.Proofs.YteailgjiifdgcaaGreatDoor
section
open Go.Shelf Go.RowKit Go.Lib Go.Sort SortM VerN
theorem zfd {w:World} {B:Nat} {e:TypeId} {size g n cap:Nat} {xs:List Value} (h:w.ownsRow B e size (.slice (some ⟨g,0,none⟩) n cap) n xs):n≤cap:=by
 rcases h.2 with⟨e0,_⟩ | ⟨g',cap',cur,e0,_,_,hn,_⟩
 ·cases e0
 injection e0 with _ _ e3
 omega
theorem zcc {w:World} {B:Nat} {e:TypeId} {size:Nat} {v:Value} {n:Nat} {xs:List Value} (h:w.ownsRow B e size v n xs) (hn:0 < n):∃ g cap,v = .slice (some ⟨g,0,none⟩) n cap:=by
 rcases h.2 with⟨h1,h2⟩ | ⟨g,cap,_,h1,_⟩
 ·omega
 exact⟨_,cap,h1⟩
theorem ins_span (l:List Tp) (x:Tp):zbu (l ++ [x])=ins (Go.Proofs.ltOf cfSp) x (zbu l):=zkt l x
theorem zim (l:List Tp):zar (Go.Proofs.ltOf cfSp) (zbu l):=zau zij l
def InsI (w2:World) (l:List Tp) (k:Nat) (v:Value) (W:World):Prop:=∃ g c,v = .slice (some ⟨g,0,none⟩) k c∧W.ownsRow w2.heap.size 34 2 v k ((tB (zbu (l.take k))).flatMap za9)∧Below w2.heap.size w2 W
theorem zeo {w2 wr W V:World} {l:List Tp} {k M g n c:Nat} {P:List Tp} {x:Tp} {x1 x2:ByteArray} {T1 T2:List Value} (hk:k < l.length) (hx:x=l[k]) (hP:P=zbu (l.take k)) (hR:ins (Go.Proofs.ltOf cfSp) x P=P.take M ++ x :: P.drop M) (hx1:x1=x.1.1) (hx2:x2=x.1.2) (hT1:T1=(tB (P.take M)).flatMap za9) (hT2:T2=(tB (P.drop M)).flatMap za9) (hbr:Below w2.heap.size w2 wr) (hb9:Below wr.heap.size wr W) (hb11:Below W.heap.size W V) (hown:V.ownsRow W.heap.size 34 2 (.slice (some ⟨g,0,none⟩) n c) n (T1 ++ [.string x1,.string x2] ++ T2)) (hn:n=k+1):InsI w2 l (k+1) (.slice (some ⟨g,0,none⟩) n c) V:=by
 subst hn
 have hrW:Below w2.heap.size w2 W:=hbr.trans (hb9.mono hbr.size)
 refine⟨g,c,rfl,?_,hrW.trans (hb11.mono hrW.size)⟩
 have e:l.take (k+1)=l.take k ++ [x]:=by rw[hx];exact (List.take_append_getElem hk).symm
 rw[e,ins_span,← hP,hR]
 have h:=zc6 hown hrW.size
 have e2:(tB (P.take M ++ x :: P.drop M)).flatMap za9=T1 ++ [.string x1,.string x2] ++ T2:=by
  rw[hT1,hT2,hx1,hx2]
  unfold tB
  rw[List.map_append,List.flatMap_append,List.map_cons,List.flatMap_cons,List.append_assoc]
  rfl
 rw[e2]
 exact h
def slLen:Value→Nat
 | .slice _ n _=>n
 | _=>0
def boN:Value→Nat
 | .bool true=>1
 | _=>0
def zed (l:List Tp) (w:World) (e:Ending) (w':World):Prop :=
 ∃ o,e = .returned (.tuple #[o,.bool (zb1 l)])∧(zb1 l=true→w'.ownsRow w.heap.size 34 2 o (zbw l).length ((zbw l).flatMap za9))∧Below w.heap.size w w'
theorem zgi {l:List Tp} {w w':World} {o:Value} (h:zb1 l=false) (hb:Below w.heap.size w w'):zed l w (.returned (.tuple #[o,.bool false])) w' :=
 ⟨_,by rw[h],(fun k=>by rw[h] at k;cases k),hb⟩
structure Left (l L:List Tp):Prop where
 may:mayT L
 cov:∀ p,covT L p↔covT l p
 len:L.length≤l.length
theorem Left.step {l L M:List Tp} (h:Left l L) (hs:MStep L M):Left l M∧M.length < L.length:=by
 obtain⟨h1,h2,h3⟩:=zkr h.may hs
 exact⟨⟨h1,fun p=>(h2 p).trans (h.cov p),by have:=h.len;omega⟩,by omega⟩
theorem formOk_of {l:List Tp} (h:zck (tB l)=true) {L:List Tp} (hf:zbw l=tB (zbu L)):zb1 l=decide (L.length≤16):=by
 unfold zb1
 rw[h,hf,List.length_map,(zbe L).length_eq]
 rfl
theorem zjb (x y:Tp):ltLo x.1.1.data.toList y.1.1.data.toList=Go.Proofs.ltOf cfSp x y:=(ltSp x y).symm
theorem ziv {w:World} {v:Value} {l:List Tp} (h:RSps w [v] (tB l)) (hl:l.length≤2000):Calls Tryz.prog 21 #[v] w (zed l w):=by
 have hat0:=fun a c (e:v = .slice a (tB l).length c)=>zge (by rw[← e];exact h)
 obtain⟨a,cap,rfl⟩:=zcg h
 have hat:=hat0 a cap rfl
 clear hat0
 obtain⟨n,hn⟩ : ∃ n,n=(tB l).length:=⟨_,rfl⟩
 have hnl:n=l.length:=by rw[hn,List.length_map]
 rw[← hn] at h ⊢
 have hn1:n≤2000:=by omega
 obtain⟨Hh,Hn,Hnl,Hat⟩:=hd4 h hn hnl hat;clear h hn hnl hat
 go_enter Tryz.func21,Tryz.ntmps21
 go_wp2_with fail
 go_loopw [12] (fun i wr=>∃ k:Nat,k≤n∧i = .int .i64 k∧mayT (l.take k)∧Below w.heap.size w wr) (fun i _=>n - (RowKit.intOf i).toNat)
 case atStart=>exact⟨0,Nat.zero_le _,rfl,(fun s hs=>by simp at hs),Below.refl _ _⟩
 case round =>
  obtain⟨k,hk,rfl,hmay,hbr⟩:=hrel
  by_cases hlt:k < n
  ·have hkl:k < l.length:=by have:=Hnl.out;omega
   obtain⟨y,hy⟩ : ∃ y,y=l[k]:=⟨_,rfl⟩
   obtain⟨b,off,rfl,c0,c1⟩:=Hat.out k y.1 (by rw[hy,List.getElem?_map,List.getElem?_eq_getElem hkl];rfl)
   have d0:=cell_later hbr c0
   have d1:=cell_later hbr c1
   have hys:=y.2
   have hM:=zcj y.1.1 y.1.2 (by omega) (by omega) wr
   obtain⟨r,hr⟩ : ∃ b,b=mayS (dS y.1):=⟨_,rfl⟩
   have hr2:mayS (y.1.1.data.toList,y.1.2.data.toList)=r:=hr.symm
   rw[hr2] at hM
   have hnx:r=true→mayT (l.take (k+1)):=fun h s hs=>by
    rw[List.take_succ_eq_append_getElem hkl] at hs
    rcases List.mem_append.1 hs with hs | hs
    ·exact hmay s hs
    rw[List.mem_singleton.1 hs,← hy,← hr];exact h
   have hno:r=false→zb1 l=false:=fun h=>by
    unfold zb1
    cases ha:zck (tB l) with
    | false=>rfl
    | true =>
     have h9:=zh8.2 ha y (by rw[hy];exact List.getElem_mem _)
     rw[← hr,h] at h9
     cases h9
   obtain⟨y1,hy1⟩ : ∃ s,s=y.1.1:=⟨_,rfl⟩
   obtain⟨y2,hy2⟩ : ∃ s,s=y.1.2:=⟨_,rfl⟩
   rw[← hy1] at d0
   rw[← hy2] at d1
   rw[← hy1,← hy2] at hM
   have k5:(0:Int)≤(k:Int):=by omega
   have k6:(k:Int) < (n:Int):=by omega
   clear c0 c1 hr2
   cases r with
   | true =>
    have hnx:=hnx rfl
    obtain⟨Hmay,Hbr,Hy,Hys,HM,Hr,Hnx,Hno,Hy1,Hy2⟩:=hd10 hmay hbr hy hys hM hr hnx hno hy1 hy2;clear hmay hbr hy hys hM hr hnx hno hy1 hy2
    go_wp2_with fail
    refine HM.out.mono ?_
    rintro e w5 ⟨rfl,hb5⟩
    have hbw:=Hbr.out.trans (hb5.mono Hbr.out.size)
    obtain⟨Hb5,Hbw⟩:=hd2 hb5 hbw;clear hb5 hbw
    go_wp2_with fail
    go_roundw
    case rel=>exact⟨k+1,by omega,by go_num,Hnx.out,Hbw.out⟩
    case measure=>(simp[RowKit.intOf]) <;> omega
   | false =>
    have hno:=hno rfl
    obtain⟨Hmay,Hbr,Hy,Hys,HM,Hr,Hnx,Hno,Hy1,Hy2⟩:=hd10 hmay hbr hy hys hM hr hnx hno hy1 hy2;clear hmay hbr hy hys hM hr hnx hno hy1 hy2
    go_wp2_with fail
    refine HM.out.mono ?_
    rintro e w5 ⟨rfl,hb5⟩
    have hbw:=Hbr.out.trans (hb5.mono Hbr.out.size)
    have hbw2:=hbw.alloc hbw.size (.cells #[] 34)
    obtain⟨Hb5,Hbw,Hbw2⟩:=hd3 hb5 hbw hbw2;clear hb5 hbw hbw2
    go_wp2_with fail
    go_ret2
    exact zgi Hno.out Hbw2.out
  obtain rfl:k=n:=by omega
  rw[List.take_of_length_le (Nat.le_of_eq Hnl.out.symm)] at hmay
  have hal:zck (tB l)=true:=zh8.1 hmay
  have hrd:=zap zb7 _ _ _ _ Hh.out hbr
  have hl0:Left l l:=⟨hmay,fun _=>Iff.rfl,Nat.le_refl _⟩
  obtain⟨Hmay,Hbr,Hal,Hrd,Hl0⟩:=hd5 hmay hbr hal hrd hl0;clear hmay hbr hal hrd hl0
  go_wp2_with fail
  go_loopw [0,5] (fun v m wq=>∃ (L:List Tp) (b:Bool),m = .bool b∧RSps wq [v] (tB L)∧Left l L∧(b=false→zgq L)∧Below w.heap.size w wq) (fun v m _=>2 * slLen v+boN m)
  case atStart=>exact⟨l,true,rfl,Hrd.out,Hl0.out,(fun h=>by cases h),Hbr.out⟩
  case round =>
   obtain⟨L,b,rfl,hrd,hleft,hnm,hbq⟩:=hrel
   obtain⟨La,Lc,rfl⟩:=zcg hrd
   have hLl:L.length≤2000:=by have:=hleft.len;omega
   cases b with
   | true =>
    have hME:=zgz hrd hleft.may hLl
    have hln:(tB L).length=L.length:=List.length_map _
    obtain⟨M,hM⟩ : ∃ M,M=(tB L).length:=⟨_,rfl⟩
    rw[← hM] at hrd hME hln ⊢
    obtain⟨Hrd,Hleft,Hnm,Hbq,HME,Hln,HM⟩:=hd7 hrd hleft hnm hbq hME hln hM;clear hrd hleft hnm hbq hME hln hM
    go_wp2_with fail
    refine HME.out.mono ?_
    intro e w5 hpost
    obtain⟨hb5,hpost⟩:=hpost
    rcases hpost with⟨o,L',rfl,hst,ho⟩ | ⟨rfl,hnm2⟩
    ·obtain⟨hl2,hlt2⟩:=Hleft.out.step hst
     have hbw:=Hbq.out.trans (hb5.mono Hbq.out.size)
     have hrd2:RSps w5 [o] (tB L'):=zbz (fun x hx=>by have:=zci L' x hx;unfold maxLen;omega) (by rw[List.length_map];exact ho)
     obtain⟨oa,oc,rfl⟩:=zad ho
     obtain⟨Hst,Ho,Hb5,Hl2,Hlt2,Hbw,Hrd2⟩:=hd7 hst ho hb5 hl2 hlt2 hbw hrd2;clear hst ho hb5 hl2 hlt2 hbw hrd2
     go_wp2_with fail
     go_roundw
     case rel=>exact⟨L',true,rfl,Hrd2.out,Hl2.out,(fun h=>by cases h),Hbw.out⟩
     case measure=>have:=Hln.out;have:=Hlt2.out;simp[slLen,boN];omega
    have hbw:=Hbq.out.trans (hb5.mono Hbq.out.size)
    have hrd2:=zap zb7 _ _ _ _ Hrd.out hb5
    obtain⟨Hnm2,Hb5,Hbw,Hrd2⟩:=hd4 hnm2 hb5 hbw hrd2;clear hnm2 hb5 hbw hrd2
    go_wp2_with fail
    go_roundw
    case rel=>exact⟨L,false,rfl,Hrd2.out,Hleft.out,(fun _=>Hnm2.out),Hbw.out⟩
    case measure=>simp[slLen,boN]
   | false =>
    have hf:=zl1 Hmay.out hleft.may hleft.cov (hnm rfl)
    have hfo:=formOk_of Hal.out hf
    have hatL:=zge hrd
    obtain⟨w2,hw2⟩ : ∃ w2,w2=wr:=⟨_,rfl⟩
    obtain⟨m,hm⟩ : ∃ m,m=(tB L).length:=⟨_,rfl⟩
    have hml:m=L.length:=by rw[hm,List.length_map]
    have hm1:m≤2000:=by omega
    rw[← hm] at hrd ⊢
    rw[← hw2] at hatL hbq hrd ⊢
    have hst:InsI w2 L 0 (.slice (some ⟨w2.heap.size,0,none⟩) 0 0) (w2.alloc (.cells #[] 34)):=⟨_,_,rfl,zfw (Nat.le_refl _),za2 _ _⟩
    obtain⟨Hrd,Hleft,Hnm,Hbq,Hf,Hfo,HatL,Hm,Hml,Hst⟩:=hd10 hrd hleft hnm hbq hf hfo hatL hm hml hst;clear hrd hleft hnm hbq hf hfo hatL hm hml hst
    clear hw2
    go_wp2_with fail
    go_loopw [6,32] (fun v i wr=>∃ k:Nat,k≤m∧i = .int .i64 k∧InsI w2 L k v wr) (fun _ i _=>m - (RowKit.intOf i).toNat)
    case atStart=>exact⟨0,Nat.zero_le _,rfl,Hst.out⟩
    case round =>
     obtain⟨k,hk,rfl,gw,cw,rfl,hrow,hbr⟩:=hrel
     obtain⟨wo,hwo⟩ : ∃ W,W=wr:=⟨_,rfl⟩
     rw[← hwo] at hrow hbr ⊢
     clear hwo
     by_cases hlt:k < m
     ·have hkl:k < L.length:=by have:=Hml.out;omega
      obtain⟨x,hx⟩ : ∃ x,x=L[k]:=⟨_,rfl⟩
      obtain⟨b,off,rfl,f0,f1⟩:=HatL.out k x.1 (by rw[hx,List.getElem?_map,List.getElem?_eq_getElem hkl];rfl)
      have f0:=cell_later hbr f0
      have f1:=cell_later hbr f1
      obtain⟨P,hP⟩ : ∃ P,P=zbu (L.take k):=⟨_,rfl⟩
      have hPl:P.length=k:=by rw[hP,(zbe _).length_eq,List.length_take];omega
      have hPs:zar (Go.Proofs.ltOf cfSp) P:=by rw[hP];exact zim _
      rw[← hP] at hrow
      have k5:(0:Int)≤(k:Int):=by omega
      have k6:(k:Int) < (m:Int):=by omega
      have hcell:∀ j u,((tB P).flatMap za9)[j]? = some u→wo.cell? ⟨gw,j,none⟩=some u:=fun j u hu=>by
       have:=hrow.cells (g:=gw) rfl j u hu
       rw[Addr.add_lit,Nat.zero_add] at this
       exact this
      have hxs:=x.2
      obtain⟨x1,hx1⟩ : ∃ s,s=x.1.1:=⟨_,rfl⟩
      obtain⟨x2,hx2⟩ : ∃ s,s=x.1.2:=⟨_,rfl⟩
      rw[← hx1] at f0
      rw[← hx2] at f1
      obtain⟨Hx,HP,HPl,HPs,Hrow,Hbr,Hcell,Hxs,Hx1,Hx2,Hf0,Hf1⟩:=hd12 hx hP hPl hPs hrow hbr hcell hxs hx1 hx2 f0 f1;clear hx hP hPl hPs hrow hbr hcell hxs hx1 hx2 f0 f1
      go_wp2_with fail
      go_loopw [8] (fun v wq=>∃ q:Nat,q≤k∧v = .int .i64 q∧(∀ i (hi:i < P.length),q≤i→Go.Proofs.ltOf cfSp x P[i]=true)∧Below wo.heap.size wo wq) (fun v _=>(RowKit.intOf v).toNat)
      case atStart=>exact⟨k,Nat.le_refl _,rfl,(fun i hi h=>by have:=HPl.out;omega),Below.refl _ _⟩
      case round =>
       obtain⟨q,hq,rfl,hall,hbq⟩:=hrel
       by_cases hq0:0 < q
       ·obtain⟨p,rfl⟩ : ∃ p,q=p+1:=⟨q - 1,by omega⟩
        have hpl:p < P.length:=by have:=HPl.out;omega
        obtain⟨y,hy⟩ : ∃ y,y=P[p]:=⟨_,rfl⟩
        have hyt:(tB P)[p]'(by rw[List.length_map];exact hpl)=y.1:=by rw[hy];exact List.getElem_map _
        have hyc:=zeg (tB P) p (by rw[List.length_map];exact hpl)
        rw[hyt] at hyc
        have d2:=Hcell.out _ _ ((hyc 0 (by decide)).trans (show (za9 y.1)[0]? = some (Value.string y.1.1) from rfl))
        have d3:=Hcell.out _ _ ((hyc 1 (by decide)).trans (show (za9 y.1)[1]? = some (Value.string y.1.2) from rfl))
        have hys:=y.2
        have hcf:∀ W,Below wo.heap.size wo W→W.cell? ⟨gw,p * 2,none⟩=some (.string y.1.1)∧W.cell? ⟨gw,p * 2+1,none⟩=some (.string y.1.2)∧W.cell? ⟨b,off+k * 2,none⟩=some (.string x1)∧W.cell? ⟨b,off+k * 2+1,none⟩=some (.string x2) :=
         fun W hW=>⟨cell_later hW d2,cell_later hW d3,cell_later hW Hf0.out,cell_later hW Hf1.out⟩
        have hL:=fun (W:World) (_:Below wo.heap.size wo W)=>zlq y.1.1 y.1.2 x1 x2 (by omega) (by rw[Hx1.out];have:=Hxs.out;omega) W
        have hle:ltLo x1.data.toList y.1.1.data.toList=Go.Proofs.ltOf cfSp x y:=by rw[Hx1.out];exact zjb x y
        rw[hle] at hL
        obtain⟨y1,hy1⟩ : ∃ s,s=y.1.1:=⟨_,rfl⟩
        obtain⟨y2,hy2⟩ : ∃ s,s=y.1.2:=⟨_,rfl⟩
        rw[← hy1,← hy2] at hL
        simp only[← hy1,← hy2] at hcf
        have u2:IntKind.i64.wrap ((p:Int)+1 - 1)=(p:Int):=by rw[IntWalk.i64_in _ (by omega)];omega
        have u3:IntKind.i64.wrap (p:Int)=(p:Int):=IntWalk.i64_in _ (by omega)
        have v1:decide ((0:Int) < (p:Int)+1)=true:=decide_eq_true (by omega)
        have v2:(0:Int) < (p:Int)+1:=by omega
        have v3:(p:Int) < (k:Int):=by omega
        have v4:(0:Int)≤(p:Int):=by omega
        obtain⟨r,hr⟩ : ∃ r,r=Go.Proofs.ltOf cfSp x y:=⟨_,rfl⟩
        rw[← hr] at hL
        have hbz:=zak (Below.refl wr.heap.size wr) 1
        have hcz:=hcf _ (hbq.trans (hbz.mono hbq.size))
        clear hle d2 d3 hyc hyt
        have hnx:r=true→∀ i (hi:i < P.length),p≤i→Go.Proofs.ltOf cfSp x P[i]=true:=fun h i hi hpi=>by
         by_cases e:i=p
         ·subst e;rw[← hy,← hr];exact h
         exact hall i hi (by omega)
        have hR:r=false→_:=fun h=>zi2 zij (x:=x) HPs.out (at_:=p+1) (by have:=HPl.out;omega) hall (fun _=>by rw[show P[p+1 - 1]'(by have:=HPl.out;omega)=y by rw[hy];rfl,← hr];exact h)
        obtain⟨Hall,Hbq,HL,Hy,Hys,Hr,Hy1,Hy2,Hnx,HR⟩:=hd10 hall hbq hL hy hys hr hy1 hy2 hnx hR;clear hall hbq hL hy hys hr hy1 hy2 hnx hR
        have Hcz:=Lib.hid hcf
        clear hcf
        go_upto_region 15 with (fail)
        go_region_held3 (fun w'=>w'.cell? ⟨gw,p * 2,none⟩=some (.string y1)∧w'.cell? ⟨gw,p * 2+1,none⟩=some (.string y2)∧w'.cell? ⟨b,off+k * 2,none⟩=some (.string x1)∧w'.cell? ⟨b,off+k * 2+1,none⟩=some (.string x2)) (first | exact hcz | go_keep) (first | (go_at_call 61;refine (HL.out _ (by exact Hbq.out.trans (hbz.mono Hbq.out.size))).mono ?_;rintro e wz ⟨rfl,hsz⟩;replace hbz:=hbz.trans (hsz.mono hbz.size);replace hcz:=Hcz.out _ (Hbq.out.trans (hbz.mono Hbq.out.size))))
        have hb9:=Hbq.out.trans (hbz.mono Hbq.out.size)
        cases r with
        | true =>
         have hnx2:=Hnx.out rfl
         obtain⟨Hb9,Hnx2⟩:=hd2 hb9 hnx2;clear hb9 hnx2
         go_wp2_with fail
         go_roundw
         case rel=>exact⟨p,by omega,by go_num,Hnx2.out,Hb9.out⟩
         case measure=>(simp[RowKit.intOf]) <;> omega
        | false =>
         have hR:=HR.out rfl
         clear HR
         obtain⟨Hb9,HR⟩:=hd2 hb9 hR;clear hb9 hR
         go_upto_region 18 with (fail)
         obtain⟨T1,hT1⟩ : ∃ T,T=(tB (P.take (p+1))).flatMap za9:=⟨_,rfl⟩
         obtain⟨T2,hT2⟩ : ∃ T,T=(tB (P.drop (p+1))).flatMap za9:=⟨_,rfl⟩
         have hM:p+1≤P.length:=by have:=HPl.out;omega
         have hl1:T1.length=(p+1) * 2:=by have:=HPl.out;rw[hT1,zbx,List.length_map,List.length_take];omega
         have hl2:T2.length=(k - (p+1)) * 2:=by have:=HPl.out;rw[hT2,zbx,List.length_map,List.length_drop];omega
         have hN12:(tB P).flatMap za9=T1 ++ T2:=by rw[hT1,hT2,← List.flatMap_append,tB,tB,← List.map_append,List.take_append_drop]
         have hone1:∀ u∈T1,u.oneCell'=true:=by rw[hT1];exact zfl _
         have hone2:∀ u∈T2,u.oneCell'=true:=by rw[hT2];exact zfl _
         have hc1:∀ V,Below wz.heap.size wz V→∀ j u,T1[j]? = some u→∃ b off,some (⟨gw,0,none⟩ : Addr)=some ⟨b,off,none⟩∧V.cell? ⟨b,off+j,none⟩=some u:=fun V hV j u hu=>by
          have hj:=(List.getElem?_eq_some_iff.1 hu).1
          exact⟨gw,0,rfl,by rw[Nat.zero_add];exact cell_later hV (cell_later Hb9.out (Hcell.out j u (by rw[hN12,List.getElem?_append_left hj];exact hu)))⟩
         have hc2:∀ V,Below wz.heap.size wz V→∀ j u,T2[j]? = some u→∃ b off,some (⟨gw,(p+1) * 2,none⟩ : Addr)=some ⟨b,off,none⟩∧V.cell? ⟨b,off+j,none⟩=some u:=fun V hV j u hu =>
          ⟨gw,(p+1) * 2,rfl,cell_later hV (cell_later Hb9.out (Hcell.out _ u (by rw[hN12,List.getElem?_append_right (by omega),show (p+1) * 2+j - T1.length=j by omega];exact hu)))⟩
         have hlit1:=zfw (w:=wz) (B:=wz.heap.size) (Nat.le_refl _)
         have hba1:Below wz.heap.size wz (wz.alloc (.cells #[] 34)):=za2 _ _
         have hc10:=hc1 _ hba1
         have hMk:p+1≤k:=by have:=HPl.out;omega
         have hMi:(p:Int)+1≤(cw:Int):=by have:=zfd Hrow.out;omega
         have hMt:((p:Int)+1).toNat=p+1:=by omega
         have hM0:(0:Int)≤(p:Int)+1:=by omega
         obtain⟨HT1,HT2,HM,Hl1,Hl2,HN12,Hone1,Hone2,Hc1,Hc2,Hlit1,Hba1,Hc10⟩:=hd13 hT1 hT2 hM hl1 hl2 hN12 hone1 hone2 hc1 hc2 hlit1 hba1 hc10;clear hT1 hT2 hM hl1 hl2 hN12 hone1 hone2 hc1 hc2 hlit1 hba1 hc10
         go_upto_region 19 with (at_builtin;(refine zam zbl rfl (.tmp 54) (.tmp 57) rfl wz.heap.size (.slice (some ⟨wz.heap.size,0,none⟩) 0 0) 0 [] rfl Hlit1.out (some ⟨gw,0,none⟩) (p+1) cw T1 rfl Hl1.out Hc10.out Hone1.out (by omega) (by unfold maxLen;omega) (by simp) ?_;intro v7 w7 hown7 hg7 hm7;obtain⟨a7,c7,rfl⟩:=zad hown7;have hb7:=(zbs Hba1.out Hlit1.out (Nat.le_refl _) hg7 (by have:=Hba1.out.size;omega):Below wz.heap.size wz w7);obtain⟨Hown7,Hb7⟩:=hd2 hown7 hb7;clear hown7 hg7 hm7 hb7))
         have hown8:w7.ownsRow wz.heap.size 34 2 (.slice a7 (p+1) c7) (p+1) T1:=by simpa using Hown7.out
         obtain⟨N8,hN8⟩ : ∃ x,x=p+1:=⟨_,rfl⟩
         rw[← hN8] at hown8
         rw[← hN8]
         have hN8':N8≤2000:=by omega
         clear Hown7
         have hz7:=Hb7.out.size
         have f2:=cell_later (Hb9.out.trans (Hb7.out.mono Hb9.out.size)) Hf0.out
         have f3:=cell_later (Hb9.out.trans (Hb7.out.mono Hb9.out.size)) Hf1.out
         obtain⟨Hown8,HN8⟩:=hd2 hown8 hN8;clear hown8 hN8
         go_upto_region 20 with (at_builtin;(refine zav zbl rfl (.tmp 59) (.tmp 64) rfl wz.heap.size (.slice a7 N8 c7) N8 T1 rfl Hown8.out 1 #[.string x1,.string x2] rfl rfl (by simp[Value.oneCell']) (by omega) (by unfold maxLen;omega) (by omega) ?_;intro v9 w9 hown9 hg9 hm9;obtain⟨a9,c9,rfl⟩:=zad hown9;have hb19:=(zbs Hb7.out Hown8.out (Nat.le_refl _) hg9 (by have:=Hb7.out.size;omega):Below wz.heap.size wz w9);obtain⟨Hown9,Hb19⟩:=hd2 hown9 hb19;clear hown9 hg9 hm9 hb19))
         by_cases hcc:p+1 < cw
         ·have hcd:decide ((p:Int)+1 < (cw:Int))=true:=decide_eq_true (by omega)
          have hcd2:(p:Int)+1≤(k:Int):=by omega
          go_upto_region 21 with (at_builtin;(refine zam zbl rfl (.tmp 66) (.tmp 69) rfl wz.heap.size (.slice a9 (N8+1) c9) (N8+1) (T1 ++ [.string x1,.string x2]) rfl Hown9.out (some ⟨gw,(p+1) * 2,none⟩) (k - (p+1)) (cw - (p+1)) T2 rfl Hl2.out (Hc2.out _ Hb19.out) Hone2.out (by omega) (by unfold maxLen;omega) (by have:=Hb19.out.size;omega) ?_;intro v11 w11 hown11 hg11 hm11;obtain⟨a11,c11,rfl⟩:=zcc hown11 (by omega);have hb11:=(zbs Hb19.out Hown9.out (Nat.le_refl _) hg11 (by have:=Hb19.out.size;omega):Below wz.heap.size wz w11);obtain⟨Hown11,Hb11⟩:=hd2 hown11 hb11;clear hown11 hg11 hm11 hb11))
          go_wp2_with fail
          go_roundw
          case rel=>exact⟨k+1,by omega,by go_num,zeo hkl Hx.out HP.out HR.out Hx1.out Hx2.out HT1.out HT2.out Hbr.out Hb9.out Hb11.out Hown11.out (by have:=HN8.out;omega)⟩
          case measure=>(simp[RowKit.intOf]) <;> omega
         have hcd:decide ((p:Int)+1 < (cw:Int))=false:=decide_eq_false (by omega)
         have hcd2:(p:Int)+1≤(k:Int):=by omega
         have hkc:=zfd Hrow.out
         have hT0:T2 = []:=List.eq_nil_of_length_eq_zero (by have:=Hl2.out;omega)
         have hc3:∀ V:World,∀ j u,T2[j]? = some u→∃ b off,some (⟨gw,0,none⟩ : Addr)=some ⟨b,off,none⟩∧V.cell? ⟨b,off+j,none⟩=some u:=fun V j u hu=>by rw[hT0] at hu;simp at hu
         obtain⟨HT0,Hc3⟩:=hd2 hT0 hc3;clear hT0 hc3
         go_upto_region 21 with (at_builtin;(refine zam zbl rfl (.tmp 66) (.tmp 69) rfl wz.heap.size (.slice a9 (N8+1) c9) (N8+1) (T1 ++ [.string x1,.string x2]) rfl Hown9.out (some ⟨gw,0,none⟩) (k - (p+1)) (cw - (p+1)) T2 rfl Hl2.out (Hc3.out w9) Hone2.out (by omega) (by unfold maxLen;omega) (by have:=Hb19.out.size;omega) ?_;intro v11 w11 hown11 hg11 hm11;obtain⟨a11,c11,rfl⟩:=zcc hown11 (by omega);have hb11:=(zbs Hb19.out Hown9.out (Nat.le_refl _) hg11 (by have:=Hb19.out.size;omega):Below wz.heap.size wz w11);obtain⟨Hown11,Hb11⟩:=hd2 hown11 hb11;clear hown11 hg11 hm11 hb11))
         go_wp2_with fail
         go_roundw
         case rel=>exact⟨k+1,by omega,by go_num,zeo hkl Hx.out HP.out HR.out Hx1.out Hx2.out HT1.out HT2.out Hbr.out Hb9.out Hb11.out Hown11.out (by have:=HN8.out;omega)⟩
         case measure=>(simp[RowKit.intOf]) <;> omega
       obtain rfl:q=0:=by omega
       have hR:=zi2 zij (x:=x) HPs.out (at_:=0) (Nat.zero_le _) hall (fun h=>absurd h (Nat.lt_irrefl 0))
       have v1:decide ((0:Int) < ((0:Nat):Int))=false:=by simp
       obtain⟨Hall,Hbq,HR⟩:=hd3 hall hbq hR;clear hall hbq hR
       go_upto_region 15 with (fail)
       go_quiet (fail)
       obtain⟨wz,hwz⟩ : ∃ W,W=wr.drewN nq:=⟨_,rfl⟩
       have hb9:Below wo.heap.size wo wz:=by rw[hwz];exact zak Hbq.out nq
       rw[← hwz]
       have Hb9:=hd hb9;clear hb9
       clear hwz
       go_upto_region 18 with (fail)
       obtain⟨T1,hT1⟩ : ∃ T,T=(tB (P.take (0))).flatMap za9:=⟨_,rfl⟩
       obtain⟨T2,hT2⟩ : ∃ T,T=(tB (P.drop (0))).flatMap za9:=⟨_,rfl⟩
       have hM:0≤P.length:=by have:=HPl.out;omega
       have hl1:T1.length=(0) * 2:=by have:=HPl.out;rw[hT1,zbx,List.length_map,List.length_take];omega
       have hl2:T2.length=(k - (0)) * 2:=by have:=HPl.out;rw[hT2,zbx,List.length_map,List.length_drop];omega
       have hN12:(tB P).flatMap za9=T1 ++ T2:=by rw[hT1,hT2,← List.flatMap_append,tB,tB,← List.map_append,List.take_append_drop]
       have hone1:∀ u∈T1,u.oneCell'=true:=by rw[hT1];exact zfl _
       have hone2:∀ u∈T2,u.oneCell'=true:=by rw[hT2];exact zfl _
       have hc1:∀ V,Below wz.heap.size wz V→∀ j u,T1[j]? = some u→∃ b off,some (⟨gw,0,none⟩ : Addr)=some ⟨b,off,none⟩∧V.cell? ⟨b,off+j,none⟩=some u:=fun V hV j u hu=>by
        have hj:=(List.getElem?_eq_some_iff.1 hu).1
        exact⟨gw,0,rfl,by rw[Nat.zero_add];exact cell_later hV (cell_later Hb9.out (Hcell.out j u (by rw[hN12,List.getElem?_append_left hj];exact hu)))⟩
       have hc2:∀ V,Below wz.heap.size wz V→∀ j u,T2[j]? = some u→∃ b off,some (⟨gw,(0) * 2,none⟩ : Addr)=some ⟨b,off,none⟩∧V.cell? ⟨b,off+j,none⟩=some u:=fun V hV j u hu =>
        ⟨gw,(0) * 2,rfl,cell_later hV (cell_later Hb9.out (Hcell.out _ u (by rw[hN12,List.getElem?_append_right (by omega),show (0) * 2+j - T1.length=j by omega];exact hu)))⟩
       have hlit1:=zfw (w:=wz) (B:=wz.heap.size) (Nat.le_refl _)
       have hba1:Below wz.heap.size wz (wz.alloc (.cells #[] 34)):=za2 _ _
       have hc10:=hc1 _ hba1
       have hMk:0≤k:=by have:=HPl.out;omega
       have hMi:(0:Int)≤(cw:Int):=by have:=zfd Hrow.out;omega
       obtain⟨HT1,HT2,HM,Hl1,Hl2,HN12,Hone1,Hone2,Hc1,Hc2,Hlit1,Hba1,Hc10⟩:=hd13 hT1 hT2 hM hl1 hl2 hN12 hone1 hone2 hc1 hc2 hlit1 hba1 hc10;clear hT1 hT2 hM hl1 hl2 hN12 hone1 hone2 hc1 hc2 hlit1 hba1 hc10
       go_upto_region 19 with (at_builtin;(refine zam zbl rfl (.tmp 54) (.tmp 57) rfl wz.heap.size (.slice (some ⟨wz.heap.size,0,none⟩) 0 0) 0 [] rfl Hlit1.out (some ⟨gw,0,none⟩) (0) cw T1 rfl Hl1.out Hc10.out Hone1.out (by omega) (by unfold maxLen;omega) (by simp) ?_;intro v7 w7 hown7 hg7 hm7;obtain⟨a7,c7,rfl⟩:=zad hown7;have hb7:=(zbs Hba1.out Hlit1.out (Nat.le_refl _) hg7 (by have:=Hba1.out.size;omega):Below wz.heap.size wz w7);obtain⟨Hown7,Hb7⟩:=hd2 hown7 hb7;clear hown7 hg7 hm7 hb7))
       have hown8:w7.ownsRow wz.heap.size 34 2 (.slice a7 (0) c7) (0) T1:=by simpa using Hown7.out
       obtain⟨N8,hN8⟩ : ∃ x,x=0:=⟨_,rfl⟩
       rw[← hN8] at hown8
       obtain rfl:=hN8
       have hN8:(0:Nat)=0:=rfl
       have hN8':0≤2000:=by omega
       clear Hown7
       have hz7:=Hb7.out.size
       have f2:=cell_later (Hb9.out.trans (Hb7.out.mono Hb9.out.size)) Hf0.out
       have f3:=cell_later (Hb9.out.trans (Hb7.out.mono Hb9.out.size)) Hf1.out
       obtain⟨Hown8,HN8⟩:=hd2 hown8 hN8;clear hown8 hN8
       go_upto_region 20 with (at_builtin;(refine zav zbl rfl (.tmp 59) (.tmp 64) rfl wz.heap.size (.slice a7 0 c7) 0 T1 rfl Hown8.out 1 #[.string x1,.string x2] rfl rfl (by simp[Value.oneCell']) (by omega) (by unfold maxLen;omega) (by omega) ?_;intro v9 w9 hown9 hg9 hm9;obtain⟨a9,c9,rfl⟩:=zad hown9;have hb19:=(zbs Hb7.out Hown8.out (Nat.le_refl _) hg9 (by have:=Hb7.out.size;omega):Below wz.heap.size wz w9);obtain⟨Hown9,Hb19⟩:=hd2 hown9 hb19;clear hown9 hg9 hm9 hb19))
       by_cases hcc:0 < cw
       ·have hcd:decide ((0:Int) < (cw:Int))=true:=decide_eq_true (by omega)
        have hcd2:(0:Int)≤(k:Int):=by omega
        go_upto_region 21 with (at_builtin;(refine zam zbl rfl (.tmp 66) (.tmp 69) rfl wz.heap.size (.slice a9 (0+1) c9) (0+1) (T1 ++ [.string x1,.string x2]) rfl Hown9.out (some ⟨gw,(0) * 2,none⟩) (k) (cw) T2 rfl Hl2.out (Hc2.out _ Hb19.out) Hone2.out (by omega) (by unfold maxLen;omega) (by have:=Hb19.out.size;omega) ?_;intro v11 w11 hown11 hg11 hm11;obtain⟨a11,c11,rfl⟩:=zcc hown11 (by omega);have hb11:=(zbs Hb19.out Hown9.out (Nat.le_refl _) hg11 (by have:=Hb19.out.size;omega):Below wz.heap.size wz w11);obtain⟨Hown11,Hb11⟩:=hd2 hown11 hb11;clear hown11 hg11 hm11 hb11))
        go_wp2_with fail
        go_roundw
        case rel=>exact⟨k+1,by omega,by go_num,zeo hkl Hx.out HP.out HR.out Hx1.out Hx2.out HT1.out HT2.out Hbr.out Hb9.out Hb11.out Hown11.out (by have:=HN8.out;omega)⟩
        case measure=>(simp[RowKit.intOf]) <;> omega
       have hcd:decide ((0:Int) < (cw:Int))=false:=decide_eq_false (by omega)
       have hcd2:(0:Int)≤(k:Int):=by omega
       have hkc:=zfd Hrow.out
       have hT0:T2 = []:=List.eq_nil_of_length_eq_zero (by have:=Hl2.out;omega)
       have hc3:∀ V:World,∀ j u,T2[j]? = some u→∃ b off,some (⟨gw,0,none⟩ : Addr)=some ⟨b,off,none⟩∧V.cell? ⟨b,off+j,none⟩=some u:=fun V j u hu=>by rw[hT0] at hu;simp at hu
       obtain⟨HT0,Hc3⟩:=hd2 hT0 hc3;clear hT0 hc3
       go_upto_region 21 with (at_builtin;(refine zam zbl rfl (.tmp 66) (.tmp 69) rfl wz.heap.size (.slice a9 (0+1) c9) (0+1) (T1 ++ [.string x1,.string x2]) rfl Hown9.out (some ⟨gw,0,none⟩) (k) (cw) T2 rfl Hl2.out (Hc3.out w9) Hone2.out (by omega) (by unfold maxLen;omega) (by have:=Hb19.out.size;omega) ?_;intro v11 w11 hown11 hg11 hm11;obtain⟨a11,c11,rfl⟩:=zcc hown11 (by omega);have hb11:=(zbs Hb19.out Hown9.out (Nat.le_refl _) hg11 (by have:=Hb19.out.size;omega):Below wz.heap.size wz w11);obtain⟨Hown11,Hb11⟩:=hd2 hown11 hb11;clear hown11 hg11 hm11 hb11))
       go_wp2_with fail
       go_roundw
       case rel=>exact⟨k+1,by omega,by go_num,zeo hkl Hx.out HP.out HR.out Hx1.out Hx2.out HT1.out HT2.out Hbr.out Hb9.out Hb11.out Hown11.out (by have:=HN8.out;omega)⟩
       case measure=>(simp[RowKit.intOf]) <;> omega
     obtain rfl:k=m:=by omega
     have htk:L.take k=L:=List.take_of_length_le (Nat.le_of_eq Hml.out.symm)
     rw[htk] at hrow
     have hw2:=Hbq.out.trans (hbr.mono Hbq.out.size)
     have hb2:=hw2.alloc hw2.size (.cells #[] 34)
     have hown:=zc6 hrow Hbq.out.size
     rw[show tB (zbu L)=zbw l from Hf.out.symm] at hown
     have hml2:(zbw l).length=k:=by rw[Hf.out,List.length_map,(zbe L).length_eq];exact Hml.out.symm
     by_cases h16:16 < k
     ·have kk:decide ((16:Int) < (k:Int))=true:=decide_eq_true (by omega)
      have hno:zb1 l=false:=by rw[Hfo.out,decide_eq_false];have:=Hml.out;omega
      obtain⟨Hrow,Hbr,Hw2,Hb2,Hown,Hml2,Hno⟩:=hd7 hrow hbr hw2 hb2 hown hml2 hno;clear hrow hbr hw2 hb2 hown hml2 hno
      go_wp2_with fail
      go_ret2
      exact zgi Hno.out Hb2.out
     have kk:decide ((16:Int) < (k:Int))=false:=decide_eq_false (by omega)
     have hyes:zb1 l=true:=by rw[Hfo.out,decide_eq_true];have:=Hml.out;omega
     obtain⟨Hrow,Hbr,Hw2,Hb2,Hown,Hml2,Hyes⟩:=hd7 hrow hbr hw2 hb2 hown hml2 hyes;clear hrow hbr hw2 hb2 hown hml2 hyes
     go_wp2_with fail
     go_ret2
     exact⟨.slice (some ⟨gw,0,none⟩) k cw,(by rw[Hyes.out];rfl),(fun _=>by have h9:=Hown.out;rw[Hml2.out];exact h9),Hw2.out⟩
end

section
open Go.RowKit Go.Shelf Go.Lib VerN
attribute [local go_sem] Oper.semAt_some
def zdx (pre:List ByteArray):List Value:=pre.flatMap fun p=>za9 (spV p)
theorem zgh (pre:List ByteArray) (x:ByteArray):zdx (pre ++ [x])=zdx pre ++ za9 (spV x):=by simp[zdx]
theorem zfp (pre:List ByteArray):zdx pre=(pre.map spV).flatMap za9:=by rw[List.flatMap_map];rfl
structure SI (w W:World) (pre:List ByteArray):Prop where
 bel:Below w.heap.size w W
 r2:W.heap[w.heap.size]? = some (.cells #[.slice none 0 0] 23 (0,0))
 r3:W.heap[w.heap.size+1]? = some (.cells #[.bool false] 4 (0,0))
 out:∃ v,W.heap[w.heap.size+1+1]? = some (.cells #[v] 23 (0,0))∧W.ownsRow (w.heap.size+6) 34 2 v pre.length (zdx pre)
 ok:∀ p∈pre,spOk p.data.toList=true
structure SX (w W:World) (pre:List ByteArray):Prop where
 bel:Below w.heap.size w W
 r2:W.heap[w.heap.size]? = some (.cells #[.slice none 0 0] 23 (0,0))
 r3:W.heap[w.heap.size+1]? = some (.cells #[.bool false] 4 (0,0))
 bad:∃ p∈pre,spOk p.data.toList=false
theorem SI.own {w:World} {B:Nat} (hB:w.heap.size+6≤B):OwnFrom B (fun (pre:List ByteArray) W=>SI w W pre):=by
 rintro pre W W' row h hg hr
 have hr':∀ r,row=some r→B≤r:=fun r e=>(hr r e).1
 obtain⟨v,hv,hrow⟩:=h.out
 refine⟨h.bel.grown hg h.bel.size (fun k e=>by have:=hr' k e;omega),zbv hg hr' (by omega) h.r2,zbv hg hr' (by omega) h.r3,⟨v,zbv hg hr' (by omega) hv,hrow.kept hg ?_⟩,h.ok⟩
 rcases hrow.2 with⟨rfl,_⟩ | ⟨g,cap,cur,rfl,_,hgb,_⟩
 ·exact .inl rfl
 refine .inr fun e'=>?_
 obtain⟨_,o,ho,hc⟩:=hr g (by simpa [Value.ownBlock] using e'.symm)
 rw[hgb] at ho
 cases ho
 cases hc
theorem SX.own {w:World} {B:Nat} (hB:w.heap.size+6≤B):OwnFrom B (fun (pre:List ByteArray) W=>SX w W pre):=by
 rintro pre W W' row h hg hr
 have hr':∀ r,row=some r→B≤r:=fun r e=>(hr r e).1
 exact⟨h.bel.grown hg h.bel.size (fun k e=>by have:=hr' k e;omega),zbv hg hr' (by omega) h.r2,zbv hg hr' (by omega) h.r3,h.bad⟩
theorem SI.lets (w:World):Lets (w.heap.size+1+1+1) (fun (pre:List ByteArray) W=>SI w W pre):=by
 rintro pre W i u h
 obtain⟨v,hv,hrow⟩:=h.out
 exact⟨h.bel.setCell (p:=⟨w.heap.size+1+1+1,i,none⟩) (by show w.heap.size≤w.heap.size+1+1+1;omega) _,zaa h.r2 (by omega),zaa h.r3 (by omega),⟨v,zaa hv (by omega),zcu hrow (by omega) i u⟩,h.ok⟩
theorem SX.lets (w:World):Lets (w.heap.size+1+1+1) (fun (pre:List ByteArray) W=>SX w W pre):=by
 rintro pre W i u h
 exact⟨h.bel.setCell (p:=⟨w.heap.size+1+1+1,i,none⟩) (by show w.heap.size≤w.heap.size+1+1+1;omega) _,zaa h.r2 (by omega),zaa h.r3 (by omega),h.bad⟩
theorem SI.size {w W:World} {pre:List ByteArray} (h:SI w W pre) (hs:w.heap.size+6≤W.heap.size):∀ k,sb w k→k < W.heap.size:=by
 rintro k (rfl | rfl | rfl) <;> omega
theorem SI.add {w W W3 w1:World} {pre:List ByteArray} {x:ByteArray} {tmp:Obj} {B:Nat} (h:SI w W pre) (hs:w.heap.size+6≤W.heap.size) (hb:Below W.heap.size W W3) {v v':Value}
  (hv:W.heap[w.heap.size+1+1]? = some (.cells #[v] 23 (0,0))) (hrow:W.ownsRow (w.heap.size+6) 34 2 v pre.length (zdx pre))
  (hown:w1.ownsRow (w.heap.size+6) 34 2 v' (pre.length+1) (zdx pre ++ za9 (spV x))) (hg:(W3.alloc tmp).grownBy w1 v.ownBlock) (hx:spOk x.data.toList=true) :
  KeepsFrom B W (w1.setCell ⟨w.heap.size+1+1,0,none⟩ v')∧zd1 (sb w) W (w1.setCell ⟨w.heap.size+1+1,0,none⟩ v')∧SI w (w1.setCell ⟨w.heap.size+1+1,0,none⟩ v') (pre ++ [x])∧w1.heap[w.heap.size+1+1]? = some (.cells #[v] 23 (0,0))∧w.heap.size+6≤(w1.setCell ⟨w.heap.size+1+1,0,none⟩ v').heap.size:=by
 have hb3:Below W.heap.size W (W3.alloc tmp):=hb.alloc hb.size _
 have hrow3:(W3.alloc tmp).ownsRow (w.heap.size+6) 34 2 v pre.length (zdx pre):=za7 hrow hb3
 have old:∀ {k:Nat} {o:Obj},k < w.heap.size+6→W.heap[k]? = some o→w1.heap[k]? = some o:=fun {k o} hk ho =>
  (hg.block k (by have:=hb3.size;have:=(Array.getElem?_eq_some_iff.1 ho).1;omega) (fun e=>by have:=(hrow3.lt k e.symm).1;omega)).trans (za1 hb3 ho)
 refine⟨?_,?_,⟨?_,zaa (old (by omega) h.r2) (by omega),zaa (old (by omega) h.r3) (by omega),⟨v',heap_setCell_same _ _ 0 _ _ _ (old (by omega) hv),?_⟩,?_⟩,old (by omega) hv,by have:=hg.size;have:=hb3.size;simp[World.setCell];omega⟩
 ·have k1:KeepsFrom B W (W3.alloc tmp):=zc3 hb3
  have k2:KeepsFrom B (W3.alloc tmp) w1:=⟨hg.size,fun k o _ hk hc=>(hg.block k (Array.getElem?_eq_some_iff.1 hk).1 (fun e=>by
   obtain⟨cs,hcs⟩:=zfb hrow3 k e.symm
   rw[hcs] at hk
   cases hk
   cases hc)).trans hk⟩
  exact (k1.trans k2).trans ((KeepsOthers.setCell _ _ _).from B)
 ·intro k hk
  have hlt:=h.size hs k hk
  have hlt6:k < w.heap.size+6:=by rcases hk with rfl | rfl | rfl <;> omega
  have hne:k≠w.heap.size+1+1:=by rcases hk with h | h | h <;> omega
  rw[Below.heap_setCell _ _ _ _ hne]
  cases ho:W.heap[k]? with
  | none=>exact absurd ho (by rw[Array.getElem?_eq_getElem hlt];simp)
  | some o=>exact old hlt6 ho
 ·exact ((h.bel.trans (hb3.mono h.bel.size)).grown hg (by have:=hb3.size;have:=h.bel.size;omega) (fun k e=>by have:=(hrow3.lt k e).1;omega)).setCell (p:=⟨w.heap.size+1+1,0,none⟩) (by show w.heap.size≤w.heap.size+1+1;omega) _
 ·rw[zgh,List.length_append]
  exact zcu hown (by omega) 0 v'
 intro p hp
 rcases List.mem_append.1 hp with hp | hp
 ·exact h.ok p hp
 rw[List.mem_singleton] at hp;subst hp;exact hx
theorem SI.no {w W W3:World} {pre:List ByteArray} {x:ByteArray} {B:Nat} (h:SI w W pre) (hs:w.heap.size+6≤W.heap.size) (hb:Below W.heap.size W W3) (hx:spOk x.data.toList=false) :
  KeepsFrom B W ((W3.setCell ⟨w.heap.size,0,none⟩ (.slice none 0 0)).setCell ⟨w.heap.size+1,0,none⟩ (.bool false))∧SX w ((W3.setCell ⟨w.heap.size,0,none⟩ (.slice none 0 0)).setCell ⟨w.heap.size+1,0,none⟩ (.bool false)) (pre ++ [x]):=by
 refine⟨((zc3 hb).trans ((KeepsOthers.setCell _ _ _).from B)).trans ((KeepsOthers.setCell _ _ _).from B),?_,?_,?_,?_⟩
 ·exact (((h.bel.trans (hb.mono h.bel.size)).setCell (p:=⟨w.heap.size,0,none⟩) (Nat.le_refl _) _).setCell (p:=⟨w.heap.size+1,0,none⟩) (by show w.heap.size≤w.heap.size+1;omega) _)
 ·exact zaa (heap_setCell_same _ _ 0 _ _ _ (za1 hb h.r2)) (by omega)
 ·exact heap_setCell_same _ _ 0 _ _ _ (zaa (za1 hb h.r3) (by omega))
 exact⟨x,by simp,hx⟩
def rdSp (t:ByteArray):List BSp:=(cutS 44 t).map spV
theorem zju (s:ByteArray):(spV s).1.size≤s.size∧(spV s).2.size≤s.size:=by
 have h:=zg1 s
 have e:∀ l:List UInt8,(⟨l.toArray⟩ : ByteArray).size=l.length:=fun l=>rfl
 unfold spV spB
 split
 ·split
  ·exact⟨by rw[e];exact h.1,by rw[e];exact h.2⟩
  exact⟨by rw[e];exact h.1,by rw[e];exact h.1⟩
 exact⟨Nat.zero_le _,Nat.zero_le _⟩
theorem rd_list (t:ByteArray) (ht:t.size≤9000):∃ l:List Tp,tB l=rdSp t:=by
 have hs:∀ s∈cutS 44 t,(spV s).1.size≤9000∧(spV s).2.size≤9000:=fun s h=>by
  have h1:=zcf h
  have h2:=zju s
  omega
 refine⟨(cutS 44 t).pmap (fun s h=>(⟨spV s,h⟩ : Tp)) hs,?_⟩
 unfold rdSp tB
 rw[List.map_pmap]
 simp
theorem spV_small {p:ByteArray} (h:spOk p.data.toList=true):(spV p).1.size≤40∧(spV p).2.size≤40:=by
 have hm:mayS (spO p.data.toList)=true:=by
  have h2:=h
  unfold spOk at h2
  simp only[Bool.and_eq_true] at h2
  exact h2.1
 have h1:=zaq.1 hm
 have b40:∀ x:ByteArray,zat x.data.toList=true→x.size≤40:=fun x hx=>by
  rw[← Txt.len]
  rcases zdk.1 hx with h | h
  ·rw[h];simp
  exact ((zbi _).1 h).2.1
 rw[← zfa p] at h1
 unfold spV
 rw[if_pos h]
 exact⟨b40 _ h1.1,b40 _ h1.2.1⟩
theorem rd_ok (t:ByteArray) (hok:∀ p∈cutS 44 t,spOk p.data.toList=true):∃ l:List Tp,tB l=rdSp t:=by
 have hs:∀ s∈cutS 44 t,(spV s).1.size≤9000∧(spV s).2.size≤9000:=fun s h=>by
  have h1:=spV_small (hok s h)
  omega
 refine⟨(cutS 44 t).pmap (fun s h=>(⟨spV s,h⟩ : Tp)) hs,?_⟩
 unfold rdSp tB
 rw[List.map_pmap]
 simp
theorem lit2 (w:World) (x y:Value) (t:TypeId) {n:Nat} (hn:w.heap.size=n):∀ j u,[x,y][j]? = some u→(w.alloc (.cells #[x,y] t)).cell? ((⟨n,0,none⟩ : Addr).add j)=some u:=by
 intro j u hu
 subst hn
 rw[Addr.add_lit,Nat.zero_add,World.cell?_alloc_new]
 simpa using hu
def RdPost (t:ByteArray) (w:World) (e:Ending) (w':World):Prop :=
 ((∃ v,e = .returned (.tuple #[v,.bool true])∧((t=⟨#[33]⟩∧v = .slice none 0 0)∨(t≠⟨#[33]⟩∧(∀ p∈cutS 44 t,spOk p.data.toList=true)∧(∀ l,tB l=rdSp t→zbh l=t)∧w'.ownsRow w.heap.size 34 2 v (rdSp t).length ((rdSp t).flatMap za9)))) ∨
  (e = .returned (.tuple #[.slice none 0 0,.bool false])∧t≠⟨#[33]⟩∧((∃ p∈cutS 44 t,spOk p.data.toList=false)∨∀ l,tB l=rdSp t→zbh l≠t)))∧Below w.heap.size w w'
theorem info_span:(Tryz.prog.info? 34).map (fun i=>(i.zero,i.size,i.bytes))=some (some (.agg #[.string ⟨#[]⟩,.string ⟨#[]⟩]),2,32):=by kernel_rfl
theorem zil (s:ByteArray) (hs:s.size≤70000) {w:World} (hD:zbf w):Calls Tryz.prog 16 #[.string s] w (RdPost s w):=by
 refine (callsIn_wide (n:=8)).1 ?_
 refine callsIn_of_wp_marks Tryz.func16 rfl trivial ?_ rfl
 simp only[Tryz.ntmps16,List.size_toArray,List.length_cons,List.length_nil,Nat.reduceAdd,Nat.reduceSub,Array.replicate_succ,Array.replicate_zero,List.push_toArray,List.append_toArray,List.nil_append,List.cons_append]
 have e33:(⟨#[33]⟩ : ByteArray).toList = [33]:=by rw[Lib.toList_data]
 by_cases h0:s=⟨#[33]⟩
 ·have k1:(s.toList == [33])=true:=by rw[← e33,Txt.eq_dec,decide_eq_true h0]
  clear e33
  obtain⟨HD,H0⟩:=hd2 hD h0;clear hD h0
  gi_wp2
  refine⟨_,zb0 rfl rfl rfl (za1 (za2 _ _) (za1 (za2 _ _) (zac rfl))) (za1 (za2 _ _) (zac (by simp))) (Tryz.isAgg23 _) (Tryz.isAgg4 _),?_⟩
  exact⟨.inl ⟨_,rfl,.inl ⟨H0.out,rfl⟩⟩,(((Below.refl _ w).alloc (Nat.le_refl _) _).alloc (by simp) _).alloc (by simp;omega) _⟩
 have k1:(s.toList == [33])=false:=by rw[← e33,Txt.eq_dec,decide_eq_false h0]
 clear e33
 have hq:=zez s 44 (((w.alloc (.cells #[.slice none 0 0] 23)).alloc (.cells #[.bool false] 4)).alloc (.cells #[.slice none 0 0] 23))
 obtain⟨Hq,HD,H0⟩:=hd3 hq hD h0;clear hq hD h0
 gi_wp2
 refine⟨trivial,(callsIn_wide.2 Hq.out).mono ?_⟩
 rintro e w2 ⟨rfl,rfl⟩
 gi_wp2
 have hsb:SBox (w.heap.size+1+1+1) (w.heap.size+1+1+1+1) (w.heap.size+1+1+1+1+1) 44 s ((((((w.alloc (.cells #[.slice none 0 0] 23)).alloc (.cells #[.bool false] 4)).alloc (.cells #[.slice none 0 0] 23)).alloc (.cells #[.string s] 9)).alloc (.cells #[.string ⟨#[44]⟩] 9)).alloc (.cells #[.int .i64 0] 3)):=by
  have a1:=zac (w:=(((w.alloc (.cells #[.slice none 0 0] 23)).alloc (.cells #[.bool false] 4)).alloc (.cells #[.slice none 0 0] 23))) (o:=.cells #[.string s] 9) (n:=w.heap.size+1+1+1) (by simp)
  have a2:=zac (w:=((((w.alloc (.cells #[.slice none 0 0] 23)).alloc (.cells #[.bool false] 4)).alloc (.cells #[.slice none 0 0] 23)).alloc (.cells #[.string s] 9))) (o:=.cells #[.string ⟨#[44]⟩] 9) (n:=w.heap.size+1+1+1+1) (by simp)
  have a3:=zac (w:=(((((w.alloc (.cells #[.slice none 0 0] 23)).alloc (.cells #[.bool false] 4)).alloc (.cells #[.slice none 0 0] 23)).alloc (.cells #[.string s] 9)).alloc (.cells #[.string ⟨#[44]⟩] 9))) (o:=.cells #[.int .i64 0] 3) (n:=w.heap.size+1+1+1+1+1) (by simp)
  exact⟨za1 (za2 _ _) (za1 (za2 _ _) a1),za1 (za2 _ _) a2,a3⟩
 obtain⟨W0,hW0⟩ : ∃ W0,W0=((((((w.alloc (.cells #[.slice none 0 0] 23)).alloc (.cells #[.bool false] 4)).alloc (.cells #[.slice none 0 0] 23)).alloc (.cells #[.string s] 9)).alloc (.cells #[.string ⟨#[44]⟩] 9)).alloc (.cells #[.int .i64 0] 3)):=⟨_,rfl⟩
 have hs0:W0.heap.size=w.heap.size+6:=by rw[hW0];simp
 rw[← hW0] at hsb ⊢
 have hSI:SI w W0 []:=by
  rw[hW0]
  have k1:∀ {w':World} {o:Obj} {k:Nat} {o':Obj},w'.heap[k]? = some o→(w'.alloc o').heap[k]? = some o:=fun h=>za1 (za2 _ _) h
  refine⟨(((((((Below.refl _ w).alloc (Nat.le_refl _) _).alloc (by simp) _).alloc (by simp;omega) _).alloc (by simp;omega) _).alloc (by simp;omega) _).alloc (by simp;omega) _),k1 (k1 (k1 (k1 (k1 (zac rfl))))),k1 (k1 (k1 (k1 (zac (by simp))))),⟨_,k1 (k1 (k1 (zac (by simp)))),World.ownsRow_nil _ _ _ _⟩,(fun p hp=>by cases hp)⟩
 have HW0:=hd hW0;clear hW0
 refine zdy rfl (by omega) (gf:=zi5) rfl trivial (enters_of Tryz.func167 (by kernel_rfl) rfl) (zfm 7 (by omega) _ _ _ 44 s (by omega) W0 (by omega) (by omega) (by omega) (by omega) (by omega) hsb)
  (fun k hk=>by rcases hk with h | h | h <;> omega) (by omega) (Below.refl _ _) rfl
  (fun pre W=>w.heap.size+6≤W.heap.size∧SI w W pre) (fun pre W=>w.heap.size+6≤W.heap.size∧SX w W pre) (OwnFrom.and (zcp _) (SI.own (by omega))) (OwnFrom.and (zcp _) (SX.own (by omega))) (fun pre W i u h=>⟨by simp[World.setCell];exact h.1,SI.lets w pre W i u h.2⟩) (fun pre W i u h=>⟨by simp[World.setCell];exact h.1,SX.lets w pre W i u h.2⟩) ⟨by omega,hSI⟩
  (fun x=>{ tmps:=#[.string s,undef,.pointer (some ⟨w.heap.size,0,none⟩),.pointer (some ⟨w.heap.size+1,0,none⟩),.pointer (some ⟨w.heap.size+1+1,0,none⟩),.string x,undef,undef,.string s,.bool false,.string s,
   .func (.func zi5) #[] #[.pointer (some ⟨w.heap.size+1+1+1+1,0,none⟩),.pointer (some ⟨w.heap.size+1+1+1,0,none⟩),.pointer (some ⟨w.heap.size+1+1+1+1+1,0,none⟩)],.string x,undef,undef,undef,undef,undef,undef,undef,undef,undef,undef,undef,undef,undef,undef,undef,undef],defers:=[] }) ?assign ?body ?done ?stop
 case assign =>
  intro l x W K hK
  gi_wp2
  exact hK
 case body =>
  rintro l pre x W ⟨hsz,h⟩ ⟨hx,hpx⟩
  obtain⟨v,hv,hrow⟩:=h.out
  obtain⟨a,cap,rfl⟩:=zad hrow
  have hR:=zhn x (by omega) (HD.out.below h.bel)
  obtain⟨b,hb⟩ : ∃ b,b=spOk x.data.toList:=⟨_,rfl⟩
  obtain⟨y1,hy1⟩ : ∃ y,y=(spV x).1:=⟨_,rfl⟩
  obtain⟨y2,hy2⟩ : ∃ y,y=(spV x).2:=⟨_,rfl⟩
  have c0:W.cell? ⟨w.heap.size+1+1,0,none⟩=some (.slice a pre.length cap):=zag hv 0
  rw[← hb,← hy1,← hy2] at hR
  have hpl:pre.length≤70000:=by
   have h1:=hpx.length_le
   have h2:(cutS 44 s).length≤s.size+1:=by rw[zax,← dlen s];exact (zcs 44 _).2
   rw[List.length_append,List.length_singleton] at h1
   omega
  obtain⟨Hv,Hrow,HR,Hh,Hc0,Hx,Hpx,Hy1,Hy2⟩:=hd9 hv hrow hR h c0 hx hpx hy1 hy2;clear hv hrow hR h c0 hx hpx hy1 hy2
  gi_wp2
  refine⟨trivial,(CallsIn.inRound l (callsIn_wide.2 HR.out)).mono ?_⟩
  rintro e W2 ⟨rfl,hb2⟩
  have hb3:Below W.heap.size W (W2.alloc (.cells #[.string y1,.string y2] 34)):=hb2.alloc hb2.size _
  have r2:=za1 hb3 Hh.out.r2
  have r3:=za1 hb3 Hh.out.r3
  have d0:(W2.alloc (.cells #[.string y1,.string y2] 34)).cell? ⟨w.heap.size+1+1,0,none⟩=some (.slice a pre.length cap):=cell_later hb3 Hc0.out
  have d1:(W2.alloc (.cells #[.string y1,.string y2] 34)).cell? ⟨w.heap.size,0,none⟩=some (.slice none 0 0):=zag r2 0
  have d2:(W2.alloc (.cells #[.string y1,.string y2] 34)).cell? ⟨w.heap.size+1,0,none⟩=some (.bool false):=zag r3 0
  have f1:=zai r2 0
  have f2:=zai r3 0
  obtain⟨Hb2,Hb3,Hr2,Hr3,Hb⟩:=hd5 hb2 hb3 r2 r3 hb;clear hb2 hb3 r2 r3 hb
  clear Hq
  cases b with
  | false =>
   have hno:=Hh.out.no (B:=W0.heap.size) hsz Hb3.out Hb.out.symm
   have hs3:w.heap.size+6≤(((W2.alloc (.cells #[.string y1,.string y2] 34)).setCell ⟨w.heap.size,0,none⟩ (.slice none 0 0)).setCell ⟨w.heap.size+1,0,none⟩ (.bool false)).heap.size:=by have:=Hb3.out.size;simp[World.setCell] at this ⊢;omega
   have Hno:=hd hno;clear hno
   gi_wp2
   exact⟨Hno.out.1,hs3,Hno.out.2⟩
  | true =>
   have hrow3:=za7 Hrow.out Hb3.out
   obtain⟨i0,hi,hz0,hz1,hz2⟩:=info_parts info_span
   have hadd:=fun (w1:World) (v':Value)=>Hh.out.add (B:=W0.heap.size) hsz Hb3.out Hv.out Hrow.out (w1:=w1) (v':=v') (x:=x) (tmp:=.cells #[.string y1,.string y2] 34)
   have hsp:za9 (spV x) = [.string y1,.string y2]:=by rw[Hy1.out,Hy2.out];rfl
   rw[hsp] at hadd
   have hz9:w.heap.size+6≤(W2.alloc (.cells #[.string y1,.string y2] 34)).heap.size:=by have:=Hb3.out.size;omega
   have g1:pre.length+1≤maxLen:=by unfold maxLen;omega
   have g2:(pre.length+1) * 32≤140737488355328:=by omega
   have g3:w.heap.size+6≤((W2.alloc (.cells #[.string y1,.string y2] 34)).alloc (.cells #[.string y1,.string y2] 34)).heap.size:=by simp at hz9 ⊢;omega
   have g4:=lit2 (W2.alloc (.cells #[.string y1,.string y2] 34)) (.string y1) (.string y2) 34 (n:=W2.heap.size+1) (by simp)
   have g5:∀ u∈[Value.string y1,.string y2],u.oneCell'=true:=by simp[Value.oneCell']
   obtain⟨Hrow3,Hsp,Hadd,Hz9,Hg1,Hg2,Hg3,Hg4,Hg5⟩:=hd9 hrow3 hsp hadd hz9 g1 g2 g3 g4 g5;clear hrow3 hsp hadd hz9 g1 g2 g3 g4 g5
   gi_wp2_with (gi_at_builtin;refine wpListIn_append_own _ rfl _ _ 23 rfl (w.heap.size+6) 34 i0 (.agg #[.string ⟨#[]⟩,.string ⟨#[]⟩]) 2 32 Tryz.underlying23 hi hz0 hz1 hz2 rfl (by decide) _ _ _ rfl (Hrow3.out.alloc _) ⟨W2.heap.size+1,0,none⟩ 1 1 [.string y1,.string y2] rfl rfl Hg4.out Hg5.out Hg1.out Hg2.out Hg3.out ?_;intro v' w1 hown' hgrow _;obtain⟨g',cap',rfl⟩:=ownsRow_succ hown';have hfin:=Hadd.out w1 _ hown' hgrow Hb.out.symm;clear hown' hgrow;refine Hid.out ?_)
   have e1:=zag hfin.2.2.2.1 0
   have e2:=zai hfin.2.2.2.1 0
   simp only[List.getElem?_toArray,List.getElem?_cons_zero] at e1
   have Hfin:=hd hfin;clear hfin
   refine Lib.hid ?_
   gi_wp2
   exact⟨Hfin.out.1,Hfin.out.2.1,Hfin.out.2.2.2.2,Hfin.out.2.2.1⟩
 case done =>
  rintro D ys W hD rfl ⟨hsz,h⟩ hK
  obtain⟨v,hv,hrow⟩:=h.out
  obtain⟨a,cap,rfl⟩:=zad hrow
  have c0:W.cell? ⟨w.heap.size+1+1,0,none⟩=some (.slice a (cutS 44 s).length cap):=zag hv 0
  obtain⟨l,hl⟩:=rd_ok s h.ok
  have hll:l.length=(cutS 44 s).length:=by have:=congrArg List.length hl;simpa [rdSp] using this
  have hn1:(cutS 44 s).length≤s.size+1:=by rw[zax,← dlen s];exact (zcs 44 _).2
  have hrl:(rdSp s).length=(cutS 44 s).length:=by simp[rdSp]
  have hrd:RSps W [.slice a (cutS 44 s).length cap] (tB l):=by
   rw[hl]
   refine zbz (B:=w.heap.size+6) (fun x hx=>?_) ?_
   ·obtain⟨p,hp,rfl⟩:=List.mem_map.1 hx
    have h1:=zcf hp
    have h2:=zju p
    unfold maxLen;omega
   rw[hrl]
   have h3:=hrow
   rw[zfp] at h3
   exact h3
  have hT:=ze3 hrd (by omega) (HD.out.below h.bel)
  have hall:=h.ok
  have hinj:∀ l',tB l'=rdSp s→l'=l:=fun l' h'=>(List.map_inj_right fun _ _ e=>Subtype.ext e).1 (h'.trans hl.symm)
  obtain⟨T,hTT⟩ : ∃ T,T=zbh l:=⟨_,rfl⟩
  rw[← hTT] at hT
  have k2:(T.toList == s.toList)=decide (T=s):=Txt.eq_dec _ _
  by_cases htx:T=s
  ·have k3:(T.toList == s.toList)=true:=by rw[k2,decide_eq_true htx]
   clear k2
   obtain⟨Hv,Hrow,Hh,HT,Hall,Hinj,HTT,Htx,Hrd,Hl,Hll,Hrl⟩:=hd12 hv hrow h hT hall hinj hTT htx hrd hl hll hrl;clear hv hrow h hT hall hinj hTT htx hrd hl hll hrl
   gi_wp2
   refine⟨trivial,(callsIn_wide.2 HT.out).mono ?_⟩
   rintro e W5 ⟨rfl,hb5⟩
   have r2:=za1 hb5 Hh.out.r2
   have r3:=za1 hb5 Hh.out.r3
   have hK5:=za1 hb5 hK
   have c5:=cell_later hb5 c0
   have hrow5:=za7 Hrow.out hb5
   have c1:=zag r2 0
   have c2:=zag r3 0
   have f1:=zai r2 0
   have f2:=zai r3 0
   simp only[List.getElem?_toArray,List.getElem?_cons_zero] at c1 c2
   obtain⟨Hb5,Hr2,Hr3,Hrow5⟩:=hd4 hb5 r2 r3 hrow5;clear hb5 r2 r3 hrow5
   gi_wp2
   have hK2:((W5.setCell ⟨w.heap.size,0,none⟩ (.slice a (cutS 44 s).length cap)).setCell ⟨w.heap.size+1,0,none⟩ (.bool true)).heap[D]? = some (.deferred (some [])):=zaa (zaa hK5 (by omega)) (by omega)
   have x1:=zaa (b:=w.heap.size+1) (i:=0) (u:=.bool true) (heap_setCell_same W5 w.heap.size 0 _ _ (.slice a (cutS 44 s).length cap) Hr2.out) (by omega)
   have x2:=heap_setCell_same _ (w.heap.size+1) 0 _ _ (.bool true) (zaa (b:=w.heap.size) (i:=0) (u:=.slice a (cutS 44 s).length cap) Hr3.out (by omega))
   have hb9:Below w.heap.size w ((W5.setCell ⟨w.heap.size,0,none⟩ (.slice a (cutS 44 s).length cap)).setCell ⟨w.heap.size+1,0,none⟩ (.bool true)):=((Hh.out.bel.trans (Hb5.out.mono Hh.out.bel.size)).setCell (p:=⟨w.heap.size,0,none⟩) (Nat.le_refl _) _).setCell (p:=⟨w.heap.size+1,0,none⟩) (by show w.heap.size≤w.heap.size+1;omega) _
   have ho:((W5.setCell ⟨w.heap.size,0,none⟩ (.slice a (cutS 44 s).length cap)).setCell ⟨w.heap.size+1,0,none⟩ (.bool true)).ownsRow (w.heap.size+6) 34 2 (.slice a (cutS 44 s).length cap) (cutS 44 s).length (zdx (cutS 44 s)):=zcu (zcu Hrow5.out (p:=w.heap.size) (by omega) 0 (.slice a (cutS 44 s).length cap)) (p:=w.heap.size+1) (by omega) 0 (.bool true)
   refine⟨by simp,.inl ⟨_,_,rfl,run_takeDeferred hK2,?_⟩⟩
   refine⟨_,zb0 rfl rfl rfl ((World.putObj_heap_other (by omega)).trans x1) ((World.putObj_heap_other (by omega)).trans x2) (Tryz.isAgg23 _) (Tryz.isAgg4 _),?_⟩
   refine⟨.inl ⟨_,rfl,.inr ⟨H0.out,Hall.out,fun l' h'=>by rw[Hinj.out l' h',← HTT.out,Htx.out],?_⟩⟩,hb9.trans (belowK_b (w:=w) (Nat.le_refl _) _ D _ _ (by omega) hK2 rfl rfl)⟩
   have e9:(rdSp s).flatMap za9=zdx (cutS 44 s):=(zfp _).symm
   rw[e9,Hrl.out]
   exact zc6 (ownsRow_putObj ho _ hK2 rfl) (by omega)
  have k3:(T.toList == s.toList)=false:=by rw[k2,decide_eq_false htx]
  clear k2
  obtain⟨Hv,Hrow,Hh,HT,Hall,Hinj,HTT,Htx,Hrd,Hl,Hll,Hrl⟩:=hd12 hv hrow h hT hall hinj hTT htx hrd hl hll hrl;clear hv hrow h hT hall hinj hTT htx hrd hl hll hrl
  gi_wp2
  refine⟨trivial,(callsIn_wide.2 HT.out).mono ?_⟩
  rintro e W5 ⟨rfl,hb5⟩
  have r2:=za1 hb5 Hh.out.r2
  have r3:=za1 hb5 Hh.out.r3
  have hK5:=za1 hb5 hK
  have c5:=cell_later hb5 c0
  have hrow5:=za7 Hrow.out hb5
  have c1:=zag r2 0
  have c2:=zag r3 0
  have f1:=zai r2 0
  have f2:=zai r3 0
  simp only[List.getElem?_toArray,List.getElem?_cons_zero] at c1 c2
  obtain⟨Hb5,Hr2,Hr3,Hrow5⟩:=hd4 hb5 r2 r3 hrow5;clear hb5 r2 r3 hrow5
  gi_wp2
  have hK2:((W5.setCell ⟨w.heap.size,0,none⟩ (.slice none 0 0)).setCell ⟨w.heap.size+1,0,none⟩ (.bool false)).heap[D]? = some (.deferred (some [])):=zaa (zaa hK5 (by omega)) (by omega)
  have x1:=zaa (b:=w.heap.size+1) (i:=0) (u:=.bool false) (heap_setCell_same W5 w.heap.size 0 _ _ (.slice none 0 0) Hr2.out) (by omega)
  have x2:=heap_setCell_same _ (w.heap.size+1) 0 _ _ (.bool false) (zaa (b:=w.heap.size) (i:=0) (u:=.slice none 0 0) Hr3.out (by omega))
  have hb9:Below w.heap.size w ((W5.setCell ⟨w.heap.size,0,none⟩ (.slice none 0 0)).setCell ⟨w.heap.size+1,0,none⟩ (.bool false)):=((Hh.out.bel.trans (Hb5.out.mono Hh.out.bel.size)).setCell (p:=⟨w.heap.size,0,none⟩) (Nat.le_refl _) _).setCell (p:=⟨w.heap.size+1,0,none⟩) (by show w.heap.size≤w.heap.size+1;omega) _
  have ho:((W5.setCell ⟨w.heap.size,0,none⟩ (.slice none 0 0)).setCell ⟨w.heap.size+1,0,none⟩ (.bool false)).ownsRow (w.heap.size+6) 34 2 (.slice a (cutS 44 s).length cap) (cutS 44 s).length (zdx (cutS 44 s)):=zcu (zcu Hrow5.out (p:=w.heap.size) (by omega) 0 (.slice none 0 0)) (p:=w.heap.size+1) (by omega) 0 (.bool false)
  refine⟨by simp,.inl ⟨_,_,rfl,run_takeDeferred hK2,?_⟩⟩
  refine⟨_,zb0 rfl rfl rfl ((World.putObj_heap_other (by omega)).trans x1) ((World.putObj_heap_other (by omega)).trans x2) (Tryz.isAgg23 _) (Tryz.isAgg4 _),?_⟩
  refine⟨.inr ⟨rfl,H0.out,.inr fun l' h'=>by rw[Hinj.out l' h',← HTT.out];exact Htx.out⟩,hb9.trans (belowK_b (w:=w) (Nat.le_refl _) _ D _ _ (by omega) hK2 rfl rfl)⟩
 case stop =>
  rintro D pre W hD hpre ⟨hsz,h⟩ hK
  obtain⟨p,hp,hf⟩:=h.bad
  have hbad:∃ p∈cutS 44 s,spOk p.data.toList=false:=⟨p,hpre.subset hp,hf⟩
  have Hbad:=hd hbad;clear hbad
  gi_wp2
  refine⟨by simp,.inl ⟨_,_,rfl,run_takeDeferred hK,?_⟩⟩
  refine⟨_,zb0 rfl rfl rfl ((World.putObj_heap_other (by omega)).trans h.r2) ((World.putObj_heap_other (by omega)).trans h.r3) (Tryz.isAgg23 _) (Tryz.isAgg4 _),?_⟩
  exact⟨.inr ⟨rfl,H0.out,.inl Hbad.out⟩,h.bel.trans (belowK_b (w:=w) (Nat.le_refl _) _ D _ _ (by omega) hK rfl rfl)⟩
end

section
open Go.RowKit Go.Lib VerN
def rfB (s:ByteArray):ByteArray × ByteArray:=if (cutS 58 s).length=1 then (s,s) else ((cutS 58 s).getD 0 zdf,(cutS 58 s).getD 1 zdf)
def rfOk (s:ByteArray):Bool:=if 2 < (cutS 58 s).length then false else zeu s.data.toList
theorem zjz (s:ByteArray):((rfB s).1.data.toList,(rfB s).2.data.toList)=zeh s.data.toList:=by
 unfold rfB zeh
 rw[zax]
 split
 ·rfl
 exact Prod.ext (zep 58 s 0) (zep 58 s 1)
def ze6 (s:ByteArray) (w:World) (e:Ending) (w':World):Prop :=
 ∃ x y,e = .returned (.tuple #[.agg #[.string x,.string y],.bool (rfOk s)])∧(rfOk s=true→(x,y)=rfB s)∧Below w.heap.size w w'
theorem zis (s:ByteArray) (hs:s.size≤100000) (w:World):Calls Tryz.prog 55 #[.string s] w (ze6 s w):=by
 unfold ze6
 obtain⟨w0,hW0⟩ : ∃ W0,W0=w.alloc (.cells #[.string ⟨#[]⟩,.string ⟨#[]⟩] 34):=⟨_,rfl⟩
 obtain⟨nb,hnb⟩ : ∃ nb,nb=w.heap.size:=⟨_,rfl⟩
 have hw:Below w.heap.size w w0:=by rw[hW0];exact za2 _ _
 have hr:w0.heap[nb]? = some (.cells #[.string ⟨#[]⟩,.string ⟨#[]⟩] 34 (0,0)):=by rw[hW0,hnb];exact pbox1_0 _ _ _
 have hle:w.heap.size≤nb:=by omega
 have hC:=zeq s (by omega) 58 (by omega) w0
 rw[show UInt8.ofNat 58=(58:UInt8) from rfl] at hC
 obtain⟨ps,hps⟩ : ∃ ps,ps=cutS 58 s:=⟨_,rfl⟩
 rw[← hps] at hC
 have hpz:∀ i,(ps.getD i zdf).size≤100000:=fun i=>by
  by_cases h:i < ps.length
  ·rw[List.getD,List.getElem?_eq_getElem h]
   have:=zcf (c:=58) (s:=s) (by rw[← hps];exact List.getElem_mem h)
   show ps[i].size≤100000
   omega
  rw[List.getD,List.getElem?_eq_none (by omega)];decide
 have hp1:1≤ps.length∧ps.length≤1000000:=by
  have:=zcs 58 s.data.toList
  rw[hps,zax,← Txt.len] at *
  omega
 obtain⟨HC,Hw,Hr,Hps,Hpz,Hp1,Hle⟩:=hd7 hC hw hr hps hpz hp1 hle;clear hC hw hr hps hpz hp1 hle
 go_enter Tryz.func55,Tryz.ntmps55
 go_upto_region 1 with (fail)
 rw[← hW0,← hnb]
 clear hW0 hnb
 go_wp2_with fail
 refine HC.out.mono ?_
 rintro e w1 ⟨v,rfl,hown,hb1⟩
 obtain⟨a,cap,rfl⟩:=zad hown
 obtain⟨n,hn⟩ : ∃ n,n=ps.length:=⟨_,rfl⟩
 rw[← hn] at hown ⊢
 have hn1:1≤n∧n≤1000000:=by rw[hn];exact Hp1.out
 obtain⟨Hown,Hb1,Hn⟩:=hd3 hown hb1 hn;clear hown hb1 hn
 go_upto_region 3 with (fail)
 obtain⟨w2,hv⟩ : ∃ W,W=w1.alloc (.cells #[.string ⟨#[]⟩,.string ⟨#[]⟩] 34):=⟨_,rfl⟩
 obtain⟨g,hg⟩ : ∃ g,g=w1.heap.size:=⟨_,rfl⟩
 have hs2:Below w1.heap.size w1 w2:=by rw[hv];exact za2 _ _
 have hb2:=Hb1.out.trans (hs2.mono Hb1.out.size)
 have ho:w2.heap[g]? = some (.cells #[.string ⟨#[]⟩,.string ⟨#[]⟩] 34 (0,0)):=by rw[hv,hg];exact heap_alloc_new _ _
 have hr2:=za1 hb2 Hr.out
 have hown2:=za7 Hown.out hs2
 rw[← hv,← hg]
 clear hv hg
 obtain⟨o0,o1,o2,o3⟩:=za0 ho
 obtain⟨r0,r1,r2,r3⟩:=za0 hr2
 obtain⟨Hs2,Hb2,Ho,Hr2,Hown2⟩:=hd5 hs2 hb2 ho hr2 hown2;clear hs2 hb2 ho hr2 hown2
 by_cases h2:2 < n
 ·have k1:decide ((2:Int) < (n:Int))=true:=by simp;omega
  have hok:rfOk s=false:=by unfold rfOk;rw[← Hps.out,← Hn.out,if_pos h2]
  have Hok:=hd hok;clear hok
  go_wp2_with fail
  refine za4 rfl rfl rfl (za6 _ _ Hr2.out) rfl ?_
  exact⟨_,_,zab rfl rfl Hok.out.symm,(fun h=>by rw[Hok.out] at h;cases h),za5 _ _ (za3 Hw.out Hb2.out) Hle.out⟩
 have k1:decide ((2:Int) < (n:Int))=false:=by simp;omega
 by_cases h1:n=1
 ·subst h1
  have hok:rfOk s=mayL s.data.toList:=by
   unfold rfOk zeu
   rw[← zax,← Hps.out,← Hn.out]
   rfl
  have hB:rfB s=(s,s):=by unfold rfB;rw[← Hps.out,← Hn.out];rfl
  have hM:=zff s (by omega) w2
  obtain⟨p,hp⟩ : ∃ x,x=mayL s.data.toList:=⟨_,rfl⟩
  rw[← hp] at hok hM
  clear hp
  obtain⟨Hok,HB,HM⟩:=hd3 hok hB hM;clear hok hB hM
  go_wp2_with fail
  refine HM.out.mono ?_
  rintro e w3 ⟨rfl,hs3⟩
  have hb3:=Hb2.out.trans (hs3.mono Hb2.out.size)
  have hr3:=za1 hs3 Hr2.out
  obtain⟨r0,r1,r2,r3⟩:=za0 hr3
  obtain⟨Hs3,Hb3,Hr3⟩:=hd3 hs3 hb3 hr3;clear hs3 hb3 hr3
  go_wp2_with fail
  refine za4 rfl rfl rfl (za6 _ _ Hr3.out) rfl ?_
  exact⟨_,_,zab rfl rfl Hok.out.symm,fun _=>HB.out.symm,za5 _ _ (za3 Hw.out Hb3.out) Hle.out⟩
 obtain rfl:n=2:=by omega
 have hlen:ps.length=2:=Hn.out.symm
 obtain⟨b0,cap0,hsh,c0⟩:=zdq Hown2.out 0 (by omega)
 obtain⟨b1,cap1,hsh1,c1⟩:=zdq Hown2.out 1 (by omega)
 simp only[Value.slice.injEq] at hsh hsh1
 obtain⟨rfl,-,rfl⟩:=hsh
 obtain⟨hbb,-,rfl⟩:=hsh1
 simp only[Option.some.injEq,Addr.mk.injEq,and_true] at hbb
 subst hbb
 obtain⟨x,hx⟩ : ∃ x,x=ps.getD 0 zdf:=⟨_,rfl⟩
 obtain⟨y,hy⟩ : ∃ x,x=ps.getD 1 zdf:=⟨_,rfl⟩
 have zx:=Hpz.out 0
 have zy:=Hpz.out 1
 rw[← hx] at zx
 rw[← hy] at zy
 rw[show ps[0]'(by omega)=x by rw[hx,List.getD,List.getElem?_eq_getElem (by omega)];rfl] at c0
 rw[show ps[1]'(by omega)=y by rw[hy,List.getD,List.getElem?_eq_getElem (by omega)];rfl] at c1
 have hB:rfB s=(x,y):=by unfold rfB;rw[← Hps.out,if_neg (by omega),← hx,← hy]
 have hok:rfOk s=(mayS (x.data.toList,y.data.toList) && decide (txR x y=s)):=by
  unfold rfOk zeu
  rw[← zax,← Hps.out,if_neg (by omega),if_neg (by omega),← zjz,hB,← zjq]
  exact congrArg _ (decide_eq_decide.2 ba_eq.symm)
 clear hx hy hlen
 obtain⟨HB,Hok⟩:=hd2 hB hok;clear hB hok
 go_upto_region 7 with (fail)
 go_cut [6] (fun v W=>CutBox w2 x y v W)
 case first =>
  have hcz:(w2.drewN 1).cell? ⟨b0,0,none⟩=some (.string x)∧(w2.drewN 1).cell? ⟨b0,1,none⟩=some (.string y):=⟨c0,c1⟩
  have hcf:∀ W,Below w2.heap.size w2 W→W.cell? ⟨b0,0,none⟩=some (.string x)∧W.cell? ⟨b0,1,none⟩=some (.string y):=fun W k=>⟨cell_later k c0,cell_later k c1⟩
  have hbz:=zak (Below.refl w2.heap.size w2) 1
  have Hcz:=Lib.hid hcf
  clear hcf
  go_region_held3 (fun w'=>w'.cell? ⟨b0,0,none⟩=some (.string x)∧w'.cell? ⟨b0,1,none⟩=some (.string y)) (first | exact hcz | exact Hcz.out _ (hbz.alloc hbz.size _) | exact Hcz.out _ (za5 _ _ hbz hbz.size) | go_keep) (fail)
  all_goals
   go_wp2_with fail
   go_meet
   exact⟨_,rfl,heap_alloc_new _ _,hbz.alloc hbz.size _⟩
 case rest =>
  obtain⟨gz,rfl,hz,hs3⟩:=hcut
  have hb3:=Hb2.out.trans (hs3.mono Hb2.out.size)
  have hr3:=za1 hs3 Hr2.out
  clear o0 o1 o2 o3 r0 r1 r2 r3 c0 c1
  obtain⟨z0,z1,z2,z3⟩:=za0 hz
  obtain⟨r0,r1,r2,r3⟩:=za0 hr3
  have hP:=fun (W:World) (_:Below wc.heap.size wc W)=>zcj x y (by omega) (by omega) W
  have hT:=fun (W:World) (_:Below wc.heap.size wc W)=>zfq x y (by omega) (by omega) W
  have hcf:∀ W,Below wc.heap.size wc W→(W.cell? ⟨gz,0,none⟩=some (.string x)∧W.cell? ⟨gz,1,none⟩=some (.string y))∧W.cell? ⟨nb,0,none⟩=some (.string ⟨#[]⟩)∧W.cell? ⟨nb,1,none⟩=some (.string ⟨#[]⟩)∧W.frozen? ⟨nb,0,none⟩=false∧W.frozen? ⟨nb,1,none⟩=false:=fun W k=>⟨⟨(za0 (za1 k hz)).1,(za0 (za1 k hz)).2.1⟩,za0 (za1 k hr3)⟩
  obtain⟨p,hp⟩ : ∃ q,q=mayS (x.data.toList,y.data.toList):=⟨_,rfl⟩
  obtain⟨tx,htx⟩ : ∃ q,q=txR x y:=⟨_,rfl⟩
  obtain⟨d,k3⟩ : ∃ q,(tx.toList == s.toList)=q:=⟨_,rfl⟩
  have hok2:rfOk s=(p && d):=by rw[Hok.out,← hp,← htx,← k3,Txt.eq_dec]
  rw[← hp] at hP
  rw[← htx] at hT
  have hbz:=zak (Below.refl wc.heap.size wc) 1
  have hcz:=hcf _ hbz
  clear hp htx Hok
  obtain⟨Hb3,Hs3,Hr3,Hz,HP,HT,Hok2⟩:=hd7 hb3 hs3 hr3 hz hP hT hok2;clear hb3 hs3 hr3 hz hP hT hok2
  have Hcz:=Lib.hid hcf
  clear hcf
  cases p with
  | false =>
   go_wp2_with fail
   first
    | go_region_with (go_at_call 59;refine (HP.out _ (by exact hbz)).mono ?_;rintro e wz ⟨rfl,hsz⟩;replace hbz:=hbz.trans (hsz.mono hbz.size);obtain⟨⟨q0,q1⟩,q2,q3,q4,q5⟩:=Hcz.out _ hbz;replace hcz:=Hcz.out _ hbz)
    | fail "the region"
   all_goals
    have hr9:=za1 hbz Hr3.out
    have hb9:=Hb3.out.trans (hbz.mono Hb3.out.size)
    obtain⟨Hr9,Hb9⟩:=hd2 hr9 hb9;clear hr9 hb9
    go_wp2_with fail
    refine za4 rfl rfl rfl (za6 _ _ Hr9.out) rfl ?_
    exact⟨_,_,zab rfl rfl (by rw[Hok2.out] <;> rfl),(fun _=>HB.out.symm),za5 _ _ (za3 Hw.out Hb9.out) Hle.out⟩
  | true =>
   cases d with
   | false =>
    go_wp2_with fail
    first
     | go_region_with (first | (go_at_call 59;refine (HP.out _ (by exact hbz)).mono ?_;rintro e wz ⟨rfl,hsz⟩;replace hbz:=hbz.trans (hsz.mono hbz.size);obtain⟨⟨q0,q1⟩,q2,q3,q4,q5⟩:=Hcz.out _ hbz;replace hcz:=Hcz.out _ hbz) | (go_at_call 114;refine (HT.out _ (by exact hbz)).mono ?_;rintro e wz ⟨rfl,hsz⟩;replace hbz:=hbz.trans (hsz.mono hbz.size);obtain⟨⟨q0,q1⟩,q2,q3,q4,q5⟩:=Hcz.out _ hbz;replace hcz:=Hcz.out _ hbz))
     | fail "the region"
    all_goals
     have hr9:=za1 hbz Hr3.out
     have hb9:=Hb3.out.trans (hbz.mono Hb3.out.size)
     obtain⟨Hr9,Hb9⟩:=hd2 hr9 hb9;clear hr9 hb9
     go_wp2_with fail
     refine za4 rfl rfl rfl (za6 _ _ Hr9.out) rfl ?_
     exact⟨_,_,zab rfl rfl (by rw[Hok2.out] <;> rfl),(fun _=>HB.out.symm),za5 _ _ (za3 Hw.out Hb9.out) Hle.out⟩
   | true =>
    go_wp2_with fail
    first
     | go_region_with (first | (go_at_call 59;refine (HP.out _ (by exact hbz)).mono ?_;rintro e wz ⟨rfl,hsz⟩;replace hbz:=hbz.trans (hsz.mono hbz.size);obtain⟨⟨q0,q1⟩,q2,q3,q4,q5⟩:=Hcz.out _ hbz;replace hcz:=Hcz.out _ hbz) | (go_at_call 114;refine (HT.out _ (by exact hbz)).mono ?_;rintro e wz ⟨rfl,hsz⟩;replace hbz:=hbz.trans (hsz.mono hbz.size);obtain⟨⟨q0,q1⟩,q2,q3,q4,q5⟩:=Hcz.out _ hbz;replace hcz:=Hcz.out _ hbz))
     | fail "the region"
    all_goals
     have hr9:=za1 hbz Hr3.out
     have hb9:=Hb3.out.trans (hbz.mono Hb3.out.size)
     obtain⟨Hr9,Hb9⟩:=hd2 hr9 hb9;clear hr9 hb9
     go_wp2_with fail
     refine za4 rfl rfl rfl (za6 _ _ Hr9.out) rfl ?_
     exact⟨_,_,zab rfl rfl (by rw[Hok2.out] <;> rfl),(fun _=>HB.out.symm),za5 _ _ (za3 Hw.out Hb9.out) Hle.out⟩
end

section
open Go.Lib VerN
theorem zl4 {p:List UInt8} (h:zaw p=true):(44:UInt8) ∉ p:=by
 intro hx
 unfold zaw at h
 rcases Bool.or_eq_true _ _ ▸ h with h | h
 ·unfold zb9 at h
  simp only[Bool.and_eq_true,List.all_eq_true] at h
  have:=(zc7 _).1 (h.2 44 hx)
  simp at this
 unfold zcd at h
 simp only[Bool.and_eq_true,List.all_eq_true] at h
 have:=(zba _).1 (h.1.1.2 44 hx)
 simp at this
theorem may_comma {l:List UInt8} (h:mayL l=true):(44:UInt8) ∉ l:=by
 intro hx
 have hg:=zdt 46 l []
 rw[List.nil_append] at hg
 rw[← hg] at hx
 rcases zhd _ _ _ hx with e | ⟨p,hp,hx⟩
 ·exact absurd e (by decide)
 exact zl4 (((zbi l).1 h).2.2.1 p hp) hx
theorem zec {l:List UInt8} (h:zat l=true):(44:UInt8) ∉ l:=by
 rcases zdk.1 h with h | h
 ·rw[h];simp
 exact may_comma h
theorem ziy {s:BSp} (h:mayS (dS s)=true):(44:UInt8) ∉ (zby s).data.toList:=by
 have e:(zby s).data.toList=textS (dS s):=zgr _ _
 have h1:=zaq.1 h
 rw[e,zgt h]
 unfold zii
 split
 ·exact zec h1.1
 intro k
 rcases List.mem_append.1 k with k | k
 ·exact zec h1.1 k
 rcases List.mem_cons.1 k with k | k
 ·exact absurd k (by decide)
 exact zec h1.2.1 k
theorem zke:∀ (r:List (List UInt8)) (x:List UInt8),(44:UInt8) ∉ x→(∀ p∈r,(44:UInt8) ∉ p)→cutL 44 (x ++ Lib.joinTail [44] r)=x :: r
 | [],x,hx,_=>by
  have:Lib.joinTail [44] [] = []:=rfl
  rw[this,List.append_nil]
  exact zg2 44 x [] (fun y hy e=>hx (e ▸ hy))
 | y :: r,x,hx,hr=>by
  have:Lib.joinTail [44] (y :: r)=44 :: (y ++ Lib.joinTail [44] r):=by simp[Lib.joinTail]
  rw[this,zi7,zke r y (hr y (by simp)) fun p hp=>hr p (by simp[hp])]
  have:cutL 44 x = [x]:=zg2 44 x [] (fun y hy e=>hx (e ▸ hy))
  rw[this];rfl
theorem zlo {L:List (List UInt8)} (h0:L≠[]) (h:∀ p∈L,(44:UInt8) ∉ p):cutL 44 (Lib.join L [44])=L:=by
 cases L with
 | nil=>exact absurd rfl h0
 | cons x r=>rw[Lib.join_cons,zke r x (h x (by simp)) fun p hp=>h p (by simp[hp])]
def zgb (F:List BSp):ByteArray:=if F.length=0 then ⟨#[33]⟩ else zjg F
theorem zdu {l:List Tp}:zb1 l=true↔zck (tB l)=true∧(zbw l).length≤16:=by unfold zb1;simp
theorem zlg {l:List Tp} {t:ByteArray} (hf:zb1 l=true) (h0:(zbw l).length≠0) (h:zjg (zbw l)=t):(cutS 44 t).length=(zbw l).length:=by
 have hs:=(zhe (zdu.1 hf).1).1.1
 rw[zax,← h]
 show (cutL 44 (Lib.join (((zbw l).map zby).map (·.data.toList)) [44])).length=_
 rw[zlo]
 ·simp
 ·intro e
  have:=congrArg List.length e
  simp at this
  exact h0 (by rw[this];rfl)
 intro p hp
 obtain⟨y,hy,rfl⟩:=List.mem_map.1 hp
 obtain⟨z,hz,rfl⟩:=List.mem_map.1 hy
 exact ziy (hs _ (List.mem_map.2 ⟨z,hz,rfl⟩))
theorem zhr {t:ByteArray} {l:List Tp} (h0:t≠⟨#[33]⟩) (hok:∀ p∈cutS 44 t,spOk p.data.toList=true):zbh l=t↔((cutS 44 t).length≤40∧zb1 l=true∧zgb (zbw l)=t):=by
 constructor
 ·intro h
  unfold zbh at h
  split at h
  ·exfalso
   subst h
   have:=hok ⟨#[]⟩ (by rw[show cutS 44 ⟨#[]⟩ = [⟨#[]⟩] from rfl];exact List.mem_singleton.2 rfl)
   revert this
   decide
  rename_i hf
  have hf:zb1 l=true:=by simpa using hf
  split at h
  ·exact absurd h.symm h0
  rename_i hn
  refine⟨?_,hf,by unfold zgb;rw[if_neg hn];exact h⟩
  rw[zlg hf hn h]
  have:=(zdu.1 hf).2
  omega
 rintro⟨_,hf,h⟩
 unfold zgb at h
 split at h
 ·exact absurd h.symm h0
 rename_i hn
 unfold zbh
 rw[if_neg (by rw[hf];simp),if_neg hn]
 exact h
end

section
open Go.Shelf Go.RowKit Go.Lib VerN
theorem join_snoc (L:List (List UInt8)) (y:List UInt8):Lib.join (L ++ [y]) [44]=if L = [] then y else Lib.join L [44] ++ 44 :: y:=by
 cases L with
 | nil=>rw[if_pos rfl,List.nil_append,Lib.join_one]
 | cons x r =>
  rw[if_neg (by simp),List.cons_append,Lib.join_cons,Lib.join_cons]
  have:Lib.joinTail [44] (r ++ [y])=Lib.joinTail [44] r ++ 44 :: y:=by simp[Lib.joinTail]
  rw[this,List.append_assoc]
def zcn (F:List BSp):ByteArray:=⟨(Lib.join ((F.map fun s=>txR s.1 s.2).map (·.data.toList)) [44]).toArray⟩
theorem zd4 (F:List BSp):(zcn F).data.toList=Lib.join ((F.map fun s=>txR s.1 s.2).map (·.data.toList)) [44]:=rfl
theorem zky (x:BSp) : ⟨#[]⟩ ++ txR x.1 x.2=zcn [x]:=by
 apply Txt.ext
 rw[Go.Joins.data_append,zd4,List.map_cons,List.map_cons,List.map_nil,List.map_nil,Lib.join_one]
 rfl
theorem ziq {F:List BSp} (h:F≠[]) (x:BSp):zcn F ++ ⟨#[44]⟩ ++ txR x.1 x.2=zcn (F ++ [x]):=by
 apply Txt.ext
 rw[Go.Joins.data_append,Go.Joins.data_append,zd4,zd4,List.map_append,List.map_append,List.map_cons,List.map_cons,List.map_nil,List.map_nil,join_snoc,if_neg (by simpa using h),List.append_assoc]
 rfl
theorem zkz {F:List BSp} (h:zck F=true):zcn F=zjg F:=by
 unfold zcn zjg
 have:(F.map fun s=>txR s.1 s.2)=F.map zby:=by
  apply List.map_congr_left
  intro s hs
  unfold zby txS
  rw[if_pos]
  exact zdv.1 h _ (List.mem_map.2 ⟨s,hs,rfl⟩)
 rw[this]
theorem zir {F:List BSp} (h:zct F):(zcn F).size≤18002 * F.length:=by
 have hl:Lib.lens ((F.map fun s=>txR s.1 s.2).map (·.data.toList))≤18001 * F.length:=by
  have:=zje 18001 ((F.map fun s=>txR s.1 s.2).map (·.data.toList)) (fun x hx=>by
   obtain⟨y,hy,rfl⟩:=List.mem_map.1 hx
   obtain⟨z,hz,rfl⟩:=List.mem_map.1 hy
   have h1:=zgs z.1 z.2
   have h2:=h z hz
   rw[Txt.len]
   omega)
  simpa using this
 rw[← Txt.len,zd4]
 cases F with
 | nil=>simp[Lib.join_nil]
 | cons x r =>
  simp only[List.map_cons,List.length_cons] at hl ⊢
  rw[Lib.join_length]
  simp only[List.length_map,List.length_singleton,Nat.one_mul]
  omega
theorem zhp {w:World} {v:Value} {F:List BSp} (h:RSps w [v] F) (hs:zct F) (hm:zck F=true) (hl:F.length≤2000):Calls Tryz.prog 56 #[v] w fun e w'=>e = .returned (.string (zgb F))∧Below w.heap.size w w':=by
 have hat0:=fun a c (e:v = .slice a F.length c)=>zge (by rw[← e];exact h)
 obtain⟨a,cap,rfl⟩:=zcg h
 have hat:=hat0 a cap rfl
 clear hat0
 obtain⟨q,hq⟩ : ∃ q,q=F.length:=⟨_,rfl⟩
 rw[← hq] at hl h ⊢
 by_cases h0:q=0
 ·subst h0
  have ht:zgb F=⟨#[33]⟩:=by unfold zgb;rw[if_pos hq.symm]
  rw[ht]
  obtain⟨Hh,Hs,Hm,Hq,Hat⟩:=hd5 h hs hm hq hat;clear h hs hm hq hat
  go_enter Tryz.func56,Tryz.ntmps56
  go_wp2_with fail
  go_ret
  exact⟨rfl,Below.refl _ _⟩
 have k0:((q:Int) == 0)=false:=by rw[beq_eq_false_iff_ne];omega
 have ht:zgb F=zcn F:=by unfold zgb;rw[if_neg (by rw[← hq];exact h0),zkz hm]
 rw[ht]
 obtain⟨Hh,Hs,Hm,Hq,Hat,Ht⟩:=hd6 h hs hm hq hat ht;clear h hs hm hq hat ht
 go_enter Tryz.func56,Tryz.ntmps56
 go_wp2_with fail
 go_loopw [3,10] (fun v i wr=>∃ k:Nat,k≤q∧i = .int .i64 k∧v = .string (zcn (F.take k))∧Below w.heap.size w wr) (fun _ i _=>q - (RowKit.intOf i).toNat)
 case atStart=>exact⟨0,Nat.zero_le _,rfl,rfl,Below.refl _ _⟩
 case round =>
  obtain⟨k,hk,rfl,rfl,hbr⟩:=hrel
  by_cases hlt:k < q
  ·have hkF:k < F.length:=by have:=Hq.out;omega
   obtain⟨y,hy⟩ : ∃ y,y=F[k]:=⟨_,rfl⟩
   obtain⟨b,off,rfl,c0,c1⟩:=Hat.out k y (by rw[hy];exact List.getElem?_eq_getElem hkF)
   have d0:=cell_later hbr c0
   have d1:=cell_later hbr c1
   have hys:=Hs.out y (by rw[hy];exact List.getElem_mem hkF)
   have hT:=zfq y.1 y.2 (by omega) (by omega) wr
   have hnext:F.take (k+1)=F.take k ++ [y]:=by rw[hy];exact (List.take_append_getElem hkF).symm
   have hPs:=zgs y.1 y.2
   have hSs:=zir (F:=F.take k) (fun z hz=>Hs.out z (List.mem_of_mem_take hz))
   rw[List.length_take,Nat.min_eq_left (by omega)] at hSs
   obtain⟨P,hP⟩ : ∃ P,P=txR y.1 y.2:=⟨_,rfl⟩
   obtain⟨y1,hy1⟩ : ∃ s,s=y.1:=⟨_,rfl⟩
   obtain⟨y2,hy2⟩ : ∃ s,s=y.2:=⟨_,rfl⟩
   rw[← hP] at hT hPs
   rw[← hy1,← hy2] at hT
   rw[← hy1] at d0
   rw[← hy2] at d1
   have hP1:P.size≤70000:=by omega
   have k5:(0:Int)≤(k:Int):=by omega
   have k6:(k:Int) < (q:Int):=by omega
   clear c0 c1
   by_cases hk0:k=0
   ·subst hk0
    simp only[Nat.zero_mul,Nat.add_zero] at d0 d1
    have hv:(⟨#[]⟩ : ByteArray) ++ P=zcn (F.take (0+1)):=by rw[hnext,hP,List.take_zero,List.nil_append];exact zky y
    have e0:zcn (F.take 0)=⟨#[]⟩:=rfl
    have kz:decide ((0:Int) < ((0:Nat):Int))=false:=by simp
    rw[e0]
    obtain⟨Hbr,Hy,HT,Hnext,HP,Hv,Hy1,Hy2,HPs,HSs,Hys⟩:=hd11 hbr hy hT hnext hP hv hy1 hy2 hPs hSs hys;clear hbr hy hT hnext hP hv hy1 hy2 hPs hSs hys
    go_wp2_with fail
    refine HT.out.mono ?_
    rintro e w5 ⟨rfl,hb5⟩
    have hbw:=Hbr.out.trans (hb5.mono Hbr.out.size)
    obtain⟨Hb5,Hbw⟩:=hd2 hb5 hbw;clear hb5 hbw
    go_wp2_with fail
    go_roundw
    case rel=>exact⟨0+1,by omega,by go_num,by rw[← Hv.out],Hbw.out⟩
    case measure=>(simp[RowKit.intOf]) <;> omega
   have hv:zcn (F.take k) ++ ⟨#[44]⟩ ++ P=zcn (F.take (k+1)):=by
    rw[hnext,hP]
    refine ziq (fun e=>?_) y
    have:=congrArg List.length e
    rw[List.length_take,Nat.min_eq_left (by omega)] at this
    exact hk0 this
   have kz:decide ((0:Int) < (k:Int))=true:=decide_eq_true (by omega)
   obtain⟨S,hS⟩ : ∃ S,S=zcn (F.take k):=⟨_,rfl⟩
   rw[← hS] at hv hSs ⊢
   have hS1:S.size≤40000000:=by omega
   obtain⟨Hbr,Hy,HT,Hnext,HP,Hv,Hy1,Hy2,HPs,HSs,Hys,HS⟩:=hd12 hbr hy hT hnext hP hv hy1 hy2 hPs hSs hys hS;clear hbr hy hT hnext hP hv hy1 hy2 hPs hSs hys hS
   go_wp2_with fail
   refine HT.out.mono ?_
   rintro e w5 ⟨rfl,hb5⟩
   have hbw:=Hbr.out.trans (hb5.mono Hbr.out.size)
   obtain⟨Hb5,Hbw⟩:=hd2 hb5 hbw;clear hb5 hbw
   go_wp2_with fail
   go_roundw
   case rel=>exact⟨k+1,by omega,by go_num,by rw[← Hv.out],Hbw.out⟩
   case measure=>(simp[RowKit.intOf]) <;> omega
  obtain rfl:k=q:=by omega
  rw[List.take_of_length_le (Nat.le_of_eq Hq.out.symm)]
  have Hbr:=hd hbr;clear hbr
  go_wp2_with fail
  go_ret
  exact⟨rfl,Hbr.out⟩
end

section
open Go.RowKit Go.Shelf
abbrev Setg:=ByteArray × ByteArray
def setCells (x:Setg):List Value:=[.string x.1,.string x.2]
end

section
open Go.RowKit Go.Shelf
def RSlT {α:Type} (sz:Nat) (R:Rd α) (e:TypeId) (W:World) (v:Value) (L:List α):Prop:=zg7 sz R W [v] L∧(L≠[]→∀ k,v.ownBlock=some k→∃ cs fr,W.heap[k]? = some (.cells cs e fr))
abbrev RSpsT:World→Value→List BSp→Prop:=RSlT 2 RSpn 34
theorem RSlT.frm {α:Type} {sz:Nat} {R:Rd α} {e:TypeId} {W W':World} {v:Value} {L:List α} {T:Nat→Prop} (hR:∀ W W' cs x,R W cs x→R W' cs x) (h:RSlT sz R e W v L) (hF:Frm T W W') (hT:∀ k,T k→∀ cs fr,W.heap[k]?≠some (.cells cs e fr)):RSlT sz R e W' v L:=by
 obtain⟨⟨a,cap,hv,h1,h2,hel⟩,ht⟩:=h
 have hv':=hv
 simp only[List.cons.injEq,and_true] at hv'
 refine⟨⟨a,cap,hv,h1,h2,fun i x hi=>?_⟩,fun hL k hk=>?_⟩
 ·obtain⟨b,off,ecs,e1,e2,e3,e4⟩:=hel i x hi
  have hL:L≠[]:=by rintro rfl;simp at hi
  obtain⟨cs,fr,hb⟩:=ht hL b (by rw[hv',e1];rfl)
  have hbT:¬ T b:=fun k=>hT b k cs fr hb
  refine⟨b,off,ecs,e1,e2,fun j u hu=>?_,hR _ _ _ _ e4⟩
  have k:=e3 j u hu
  exact (hF.cell (p:=⟨b,off+i * sz+j,none⟩) (World.block_lt_of_cell? W _ k) hbT).trans k
 obtain⟨cs,fr,hb⟩:=ht hL k hk
 exact⟨cs,fr,zdh hb hF fun kT=>hT k kT cs fr hb⟩
theorem RSlT.below {α:Type} {sz:Nat} {R:Rd α} {e:TypeId} {W W':World} {v:Value} {L:List α} (hR:zls R) (h:RSlT sz R e W v L) (hb:Below W.heap.size W W'):RSlT sz R e W' v L :=
 ⟨zap hR _ _ _ _ h.1 hb,fun hL k hk=>by obtain⟨cs,fr,h2⟩:=h.2 hL k hk;exact⟨cs,fr,za1 hb h2⟩⟩
theorem zjt {W:World} {v:Value} (h:RSps W [v] []):RSpsT W v []:=⟨h,fun h=>absurd rfl h⟩
theorem zjp {W:World} {B:Nat} {e:TypeId} {size:Nat} {v:Value} {n:Nat} {xs:List Value} (h:W.ownsRow B e size v n xs):∀ k,v.ownBlock=some k→∃ cs fr,W.heap[k]? = some (.cells cs e fr):=fun k hk=>by
 obtain⟨cs,hc⟩:=zfb h k hk
 exact⟨cs,(0,0),hc⟩
end

section
open Go.Shelf Go.RowKit Go.Lib VerN
theorem rfOk_is (s:ByteArray):rfOk s=spOk s.data.toList∧(spOk s.data.toList=true→rfB s=spV s):=by
 by_cases h:2 < (cutS 58 s).length
 ·have h1:spOk s.data.toList=false:=read_many (by rw[← zax];exact h)
  refine⟨by unfold rfOk;rw[if_pos h,h1],fun e=>by rw[h1] at e;cases e⟩
 have h1:=refOk_is s.data.toList (by rw[← zax];omega)
 refine⟨by unfold rfOk;rw[if_neg h,h1.1],fun e=>?_⟩
 unfold spV
 rw[if_pos e]
 have h2:=zjz s
 rw[h1.2,← zfa] at h2
 have h3:=Prod.mk.inj h2
 exact Prod.ext (Txt.ext h3.1) (Txt.ext h3.2)
def Rd3 (t:ByteArray):Prop:=t=⟨#[33]⟩∨((∀ p∈cutS 44 t,spOk p.data.toList=true)∧∀ l,tB l=rdSp t→zbh l=t)
def rdV (t:ByteArray):List BSp:=if t=⟨#[33]⟩ then [] else rdSp t
def zdm (t:ByteArray) (w:World) (e:Ending) (w':World):Prop :=
 ((∃ v,e = .returned (.tuple #[v,.bool true])∧Rd3 t∧RSpsT w' v (rdV t))∨(∃ v,e = .returned (.tuple #[v,.bool false])∧¬ Rd3 t∧RSps w' [v] []))∧Below w.heap.size w w'
theorem zjr (w:World) (g:Nat):RSps w [.slice (some ⟨g,0,none⟩) 0 0] []:=⟨_,0,rfl,Nat.zero_le _,Nat.zero_le _,fun i x hi=>by simp at hi⟩
theorem zkw {ps:List ByteArray} {k:Nat} (h:k < ps.length):zdx (ps.take (k+1))=zdx (ps.take k) ++ [.string (spV ps[k]).1,.string (spV ps[k]).2]:=by
 rw[List.take_succ_eq_append_getElem h,zgh];rfl
theorem zhq (t:ByteArray) (ht:t.size≤70000) (w:World):Calls Tryz.prog 17 #[.string t] w (zdm t w):=by
 have e33:(⟨#[33]⟩ : ByteArray).toList = [33]:=by rw[Lib.toList_data]
 obtain⟨nb,hnb⟩ : ∃ nb,nb=w.heap.size:=⟨_,rfl⟩
 obtain⟨w0,hW0⟩ : ∃ W,W=w.alloc (.cells #[] 34):=⟨_,rfl⟩
 have hw0:Below w.heap.size w w0:=by rw[hW0];exact za2 _ _
 by_cases h0:t=⟨#[33]⟩
 ·have k1:(t.toList == [33])=true:=by rw[← e33,Txt.eq_dec,decide_eq_true h0]
  clear e33
  have hpost:zdm t w (.returned (.tuple #[.slice (some ⟨nb,0,none⟩) 0 0,.bool true])) w0:=⟨.inl ⟨_,rfl,.inl h0,by unfold rdV;rw[if_pos h0];exact zjt (zjr _ _)⟩,hw0⟩
  obtain⟨H0,Hw0,Hpost⟩:=hd3 h0 hw0 hpost;clear h0 hw0 hpost
  go_enter Tryz.func17,Tryz.ntmps17
  go_upto_region 2 with (fail)
  rw[← hW0,← hnb]
  clear hW0 hnb
  go_wp2_with fail
  go_ret2
  exact Hpost.out
 have k1:(t.toList == [33])=false:=by rw[← e33,Txt.eq_dec,decide_eq_false h0]
 clear e33
 obtain⟨ps,hps⟩ : ∃ ps,ps=cutS 44 t:=⟨_,rfl⟩
 have hC:=fun (W:World)=>zeq t (by omega) 44 (by omega) W
 rw[show UInt8.ofNat 44=(44:UInt8) from rfl,← hps] at hC
 have hpz:∀ p∈ps,p.size≤70000:=fun p hp=>by
  have:=zcf (c:=44) (s:=t) (by rw[← hps];exact hp)
  omega
 have hp1:1≤ps.length∧ps.length≤70001:=by
  have:=zcs 44 t.data.toList
  rw[hps,zax,← Txt.len] at *
  omega
 have hnone:¬ Rd3 t→∀ W,Below w0.heap.size w0 W→zdm t w (.returned (.tuple #[.slice (some ⟨nb,0,none⟩) 0 0,.bool false])) W:=fun h W hW=>⟨.inr ⟨_,rfl,h,zjr _ _⟩,hw0.trans (hW.mono hw0.size)⟩
 have hB:w.heap.size≤w0.heap.size:=hw0.size
 obtain⟨H0,Hw0,Hps,HC,Hpz,Hp1,Hnone⟩:=hd7 h0 hw0 hps hC hpz hp1 hnone;clear h0 hw0 hps hC hpz hp1 hnone
 go_enter Tryz.func17,Tryz.ntmps17
 go_upto_region 2 with (fail)
 rw[← hW0,← hnb]
 clear hW0 hnb
 go_wp2_with fail
 refine (HC.out w0).mono ?_
 rintro e w1 ⟨v,rfl,hown,hb1⟩
 obtain⟨a,cap,rfl⟩:=zad hown
 have hat:∀ i (hi:i < ps.length),∃ b off,a=some ⟨b,off,none⟩∧w1.cell? ⟨b,off+i,none⟩=some (.string ps[i]):=fun i hi=>by
  obtain⟨a',cap',hv,_,hg⟩:=txts_open (own_texts hown (fun x hx=>by have:=Hpz.out x hx;unfold maxLen;omega))
  injection hv with h1 _ _
  subst h1
  obtain⟨b,off,e1,e2,_⟩:=hg i hi
  exact⟨b,off,e1,e2⟩
 obtain⟨n,hn⟩ : ∃ n,n=ps.length:=⟨_,rfl⟩
 rw[← hn] at hown ⊢
 have hn1:1≤n∧n≤70001:=by rw[hn];exact Hp1.out
 have hst:(w1.alloc (.cells #[] 34)).ownsRow w1.heap.size 34 2 (.slice (some ⟨w1.heap.size,0,none⟩) 0 0) 0 (zdx (ps.take 0)):=zfw (Nat.le_refl _)
 have hb2:=hb1.alloc hb1.size (.cells #[] 34)
 obtain⟨Hown,Hb1,Hn,Hat,Hst,Hb2⟩:=hd6 hown hb1 hn hat hst hb2;clear hown hb1 hn hat hst hb2
 go_wp2_with fail
 go_loopw [6,21] (fun v i wr=>∃ k:Nat,k≤n∧i = .int .i64 k∧wr.ownsRow w1.heap.size 34 2 v k (zdx (ps.take k))∧(∀ p∈ps.take k,spOk p.data.toList=true)∧Below w1.heap.size w1 wr) (fun _ i _=>n - (RowKit.intOf i).toNat)
 case atStart=>exact⟨0,Nat.zero_le _,rfl,Hst.out,(fun p hp=>by simp at hp),za2 _ _⟩
 case round =>
  obtain⟨k,hk,rfl,hrow,hok,hbr1⟩:=hrel
  have hbr:=Hb1.out.trans (hbr1.mono Hb1.out.size)
  obtain⟨ra,rc,rfl⟩:=zad hrow
  by_cases hlt:k < n
  ·have hkl:k < ps.length:=by have:=Hn.out;omega
   obtain⟨p,hp⟩ : ∃ p,p=ps[k]:=⟨_,rfl⟩
   obtain⟨b,off,rfl,c0⟩:=Hat.out k hkl
   have d0:=cell_later hbr1 c0
   rw[← hp] at d0
   have hpm:p∈ps:=by rw[hp];exact List.getElem_mem _
   have hps2:=Hpz.out p hpm
   have hR:=zis p (by omega) wr
   unfold ze6 at hR
   have hrf:=rfOk_is p
   have hnx:=zkw hkl
   rw[← hp] at hnx
   obtain⟨r,hr⟩ : ∃ b,b=spOk p.data.toList:=⟨_,rfl⟩
   rw[hrf.1,← hr] at hR
   have k5:(0:Int)≤(k:Int):=by omega
   have k6:(k:Int) < (n:Int):=by omega
   clear c0
   cases r with
   | false =>
    have hno:¬ Rd3 t:=by
     rintro (h | h)
     ·exact H0.out h
     have:=h.1 p (by rw[← Hps.out];exact hpm)
     rw[← hr] at this
     cases this
    obtain⟨Hrow,Hok,Hbr,Hbr1,Hp,Hpm,Hps2,HR,Hrf,Hnx,Hr,Hno⟩:=hd12 hrow hok hbr hbr1 hp hpm hps2 hR hrf hnx hr hno;clear hrow hok hbr hbr1 hp hpm hps2 hR hrf hnx hr hno
    go_wp2_with fail
    refine HR.out.mono ?_
    rintro e w5 ⟨x,y,rfl,_,hb5⟩
    have hbw:=Hbr.out.trans (hb5.mono Hbr.out.size)
    have hbw2:=hbw.alloc hbw.size (.cells #[.string x,.string y] 34)
    obtain⟨Hb5,Hbw,Hbw2⟩:=hd3 hb5 hbw hbw2;clear hb5 hbw hbw2
    go_wp2_with fail
    go_ret2
    exact Hnone.out Hno.out _ Hbw2.out
   | true =>
    have hok2:∀ q∈ps.take (k+1),spOk q.data.toList=true:=fun q hq=>by
     rw[List.take_succ_eq_append_getElem hkl] at hq
     rcases List.mem_append.1 hq with hq | hq
     ·exact hok q hq
     rw[List.mem_singleton.1 hq,← hp];exact hr.symm
    have hrfB:=hrf.2 hr.symm
    obtain⟨N,hN⟩ : ∃ N,N=zdx (ps.take k):=⟨_,rfl⟩
    rw[← hN] at hrow hnx
    obtain⟨Hrow,Hok,Hbr,Hbr1,Hp,Hpm,Hps2,HR,Hrf,Hnx,Hr,Hok2,HrfB,HN⟩:=hd14 hrow hok hbr hbr1 hp hpm hps2 hR hrf hnx hr hok2 hrfB hN;clear hrow hok hbr hbr1 hp hpm hps2 hR hrf hnx hr hok2 hrfB hN
    go_wp2_with fail
    refine HR.out.mono ?_
    rintro e w5 ⟨x,y,rfl,hxy,hb5⟩
    have hxy:=(hxy trivial).trans HrfB.out
    have hnx2:=Hnx.out
    rw[← hxy] at hnx2
    have hbw1:=Hbr1.out.trans (hb5.mono Hbr1.out.size)
    have hrow5:=za7 (za7 Hrow.out hb5) (za2 w5 (.cells #[.string x,.string y] 34))
    have hbw3:=hbw1.alloc hbw1.size (.cells #[.string x,.string y] 34)
    obtain⟨z0,z1,z2,z3⟩:=za0 (heap_alloc_new w5 (.cells #[.string x,.string y] 34))
    obtain⟨w6,hw6⟩ : ∃ W,W=w5.alloc (.cells #[.string x,.string y] 34):=⟨_,rfl⟩
    rw[← hw6] at hrow5 hbw3 z0 z1 z2 z3
    have hz6:=hbw3.size
    obtain⟨Hb5,Hbw1,Hbw3,Hxy,Hnx2,Hrow5⟩:=hd6 hb5 hbw1 hbw3 hxy hnx2 hrow5;clear hb5 hbw1 hbw3 hxy hnx2 hrow5
    go_upto_region 10 with (fail)
    rw[← hw6]
    clear hw6
    go_wp2_with (at_builtin;(refine zav zbl rfl (.tmp 35) (.tmp 37) rfl w1.heap.size (.slice ra k rc) k N rfl Hrow5.out 1 #[.string x,.string y] rfl rfl (by simp[Value.oneCell']) (by omega) (by unfold maxLen;omega) (by omega) ?_;intro v9 w9 hown9 hg9 hm9;obtain⟨a9,c9,rfl⟩:=zad hown9;have hb9:=(zbs Hbw3.out Hrow5.out (Nat.le_refl _) hg9 (by omega):Below w1.heap.size w1 w9);obtain⟨Hown9,Hb9⟩:=hd2 hown9 hb9;clear hown9 hg9 hm9 hb9))
    go_roundw
    case rel=>exact⟨k+1,by omega,by go_num,by rw[Hnx2.out];exact Hown9.out,Hok2.out,Hb9.out⟩
    case measure=>(simp[RowKit.intOf]) <;> omega
  obtain rfl:k=n:=by omega
  rw[List.take_of_length_le (Nat.le_of_eq Hn.out.symm)] at hrow hok
  by_cases h40:40 < k
  ·have kk:decide ((40:Int) < (k:Int))=true:=decide_eq_true (by omega)
   have hno:¬ Rd3 t:=by
    rintro (h | ⟨_,h⟩)
    ·exact H0.out h
    obtain⟨l,hl⟩:=rd_ok t (by rw[← Hps.out];exact hok)
    have:=((zhr H0.out (by rw[← Hps.out];exact hok)).1 (h l hl)).1
    rw[← Hps.out,← Hn.out] at this
    omega
   obtain⟨Hrow,Hok,Hbr,Hbr1,Hno⟩:=hd5 hrow hok hbr hbr1 hno;clear hrow hok hbr hbr1 hno
   go_wp2_with fail
   go_ret2
   exact Hnone.out Hno.out _ Hbr.out
  have kk:decide ((40:Int) < (k:Int))=false:=decide_eq_false (by omega)
  obtain⟨l,hl⟩:=rd_ok t (by rw[← Hps.out];exact hok)
  have hlr:tB l=ps.map spV:=by rw[hl,Hps.out];rfl
  have hll:(tB l).length=k:=by rw[hlr,List.length_map];exact Hn.out.symm
  rw[zfp,← hlr] at hrow
  have hrd:RSps wr [.slice ra k rc] (tB l):=zbz (fun x hx=>by have:=zci l x hx;unfold maxLen;omega) (by rw[hll];exact hrow)
  have hty:=zjp hrow
  have hF:=ziv hrd (by rw[List.length_map] at hll;omega)
  unfold zed at hF
  obtain⟨f,hf⟩ : ∃ b,b=zb1 l:=⟨_,rfl⟩
  obtain⟨q,hq⟩ : ∃ q,q=(zbw l).length:=⟨_,rfl⟩
  rw[← hf,← hq] at hF
  have hone:=zhr (l:=l) H0.out (by rw[← Hps.out];exact hok)
  have hiff:Rd3 t↔(f=true∧zgb (zbw l)=t):=by
   rw[hf]
   constructor
   ·rintro (h | ⟨_,h⟩)
    ·exact absurd h H0.out
    have:=hone.1 (h l hl)
    exact this.2
   intro h
   refine .inr ⟨by rw[← Hps.out];exact hok,fun l' hl'=>?_⟩
   have:l'=l:=by
    have e:tB l'=tB l:=by rw[hl',hl]
    exact (List.map_inj_right fun _ _ e=>Subtype.ext e).1 e
   rw[this]
   exact hone.2 ⟨by rw[← Hps.out,← Hn.out];omega,h⟩
  have hv:rdV t=tB l:=by unfold rdV;rw[if_neg H0.out,hl]
  cases f with
  | false =>
   have hno:¬ Rd3 t:=fun h=>by have:=(hiff.1 h).1;cases this
   obtain⟨Hrow,Hok,Hbr,Hbr1,Hno,HF,Hrd,Hf,Hty⟩:=hd9 hrow hok hbr hbr1 hno hF hrd hf hty;clear hrow hok hbr hbr1 hno hF hrd hf hty
   go_wp2_with fail
   refine HF.out.mono ?_
   rintro e w5 ⟨o,rfl,_,hb5⟩
   have hbw:=Hbr.out.trans (hb5.mono Hbr.out.size)
   obtain⟨Hb5,Hbw⟩:=hd2 hb5 hbw;clear hb5 hbw
   go_wp2_with fail
   go_ret2
   exact Hnone.out Hno.out _ Hbw.out
  | true =>
   obtain⟨Hrow,Hok,Hbr,Hbr1,HF,Hrd,Hf,Hiff,Hv,Hq,Hty⟩:=hd11 hrow hok hbr hbr1 hF hrd hf hiff hv hq hty;clear hrow hok hbr hbr1 hF hrd hf hiff hv hq hty
   go_wp2_with fail
   refine HF.out.mono ?_
   rintro e w5 ⟨o,rfl,ho,hb5⟩
   have ho:=ho trivial
   have hbw:=Hbr.out.trans (hb5.mono Hbr.out.size)
   have hrdF:RSps w5 [o] (zbw l):=zbz (fun x hx=>by have:=ze4 l x hx;unfold maxLen;omega) (by rw[← Hq.out];exact ho)
   have hfo:zb1 l=true:=Hf.out.symm
   have hT:=zhp hrdF (ze4 l) (zdv.2 (zhe (zdu.1 hfo).1).1.1) (by have:=(zdu.1 hfo).2;omega)
   obtain⟨oa,oc,rfl⟩:=zad ho
   obtain⟨T,hTT⟩ : ∃ T,T=zgb (zbw l):=⟨_,rfl⟩
   rw[← hTT] at hT
   have hrd5:=zap zb7 _ _ _ _ Hrd.out hb5
   by_cases hTt:T=t
   ·have kT:(T.toList == t.toList)=true:=by rw[Txt.eq_dec,decide_eq_true hTt]
    have hyes:Rd3 t:=Hiff.out.2 ⟨by first | rfl | trivial,by rw[← hTT];exact hTt⟩
    obtain⟨Ho,Hb5,Hbw,HrdF,HT,HTT,Hrd5,HTt,Hyes⟩:=hd9 ho hb5 hbw hrdF hT hTT hrd5 hTt hyes;clear ho hb5 hbw hrdF hT hTT hrd5 hTt hyes
    go_wp2_with fail
    refine HT.out.mono ?_
    rintro e w6 ⟨rfl,hb6⟩
    have hbw2:=Hbw.out.trans (hb6.mono Hbw.out.size)
    have hrd6:=zap zb7 _ _ _ _ Hrd5.out hb6
    obtain⟨Hb6,Hbw2,Hrd6⟩:=hd3 hb6 hbw2 hrd6;clear hb6 hbw2 hrd6
    go_wp2_with fail
    go_ret2
    exact⟨.inl ⟨_,rfl,Hyes.out,by rw[Hv.out];exact⟨Hrd6.out,fun _ k hk=>by obtain⟨cs,fr,h⟩:=Hty.out k hk;exact⟨cs,fr,za1 Hb6.out (za1 Hb5.out h)⟩⟩⟩,Hw0.out.trans (Hbw2.out.mono Hw0.out.size)⟩
   have kT:(T.toList == t.toList)=false:=by rw[Txt.eq_dec,decide_eq_false hTt]
   have hno:¬ Rd3 t:=fun h=>hTt (by rw[hTT];exact (Hiff.out.1 h).2)
   obtain⟨Ho,Hb5,Hbw,HrdF,HT,HTT,Hrd5,HTt,Hno⟩:=hd9 ho hb5 hbw hrdF hT hTT hrd5 hTt hno;clear ho hb5 hbw hrdF hT hTT hrd5 hTt hno
   go_wp2_with fail
   refine HT.out.mono ?_
   rintro e w6 ⟨rfl,hb6⟩
   have hbw2:=Hbw.out.trans (hb6.mono Hbw.out.size)
   obtain⟨Hb6,Hbw2⟩:=hd2 hb6 hbw2;clear hb6 hbw2
   go_wp2_with fail
   go_ret2
   exact Hnone.out Hno.out _ Hbw2.out
end

section
open Go.RowKit Go.Shelf Go.Lib VerN
theorem spn_neqs (s t a b:ByteArray) (W:World):(binOp .neq 34 (.agg #[.string s,.string t]) (.agg #[.string a,.string b])).run Tryz.prog W = .ok (.bool (!(decide (s=a) && decide (t=b)))) W:=by
 have u9:=Tryz.underlying9
 have hS:Tryz.prog.underlying 34=some (.struct (Tryz.prog.fieldsOf 34)):=by kernel_rfl
 have hp:Tryz.prog.stoodInHeld 34=false:=by kernel_rfl
 rw[run_neq_struct,show (10000:Nat)=9999+1 from rfl,run_equalIn_agg W 9999 34 _ _ hS hp]
 simp only[Program.fieldsOf,Tryz.underlying34]
 go_simp
 have e1:=Txt.eq_dec s a
 have e2:=Txt.eq_dec t b
 by_cases h1:s=a <;> by_cases h2:t=b <;> simp[h1,h2] at e1 e2 ⊢ <;> simp_all
theorem zf0 {w:World} {v u:Value} {l m:List BSp} (h:RSps w [v] l) (hm:RSps w [u] m):Calls Tryz.prog 18 #[v,u] w fun e w'=>e = .returned (.bool (decide (l=m)))∧∃ q,w'=w.drewN q:=by
 obtain⟨a,cap,rfl,hz,g⟩:=zgv h
 obtain⟨a2,cap2,rfl,hz2,g2⟩:=zgv hm
 obtain⟨n,hn⟩ : ∃ n,n=l.length:=⟨_,rfl⟩
 obtain⟨n2,hn2⟩ : ∃ n,n=m.length:=⟨_,rfl⟩
 obtain⟨r,hr⟩ : ∃ r,r=decide (l=m):=⟨_,rfl⟩
 have q1:=fun s t a b=>spn_neqs s t a b
 rw[← hr]
 rw[← hn] at hz h ⊢
 rw[← hn2] at hz2 hm ⊢
 obtain⟨Hh,Hm,Hg,Hg2,Hn,Hn2,Hr,Hq1⟩:=hd8 h hm g g2 hn hn2 hr q1;clear h hm g g2 hn hn2 hr q1
 go_enter Tryz.func18,Tryz.ntmps18
 by_cases hne:n=n2
 case neg =>
  have k1:((n:Int) != (n2:Int))=true:=by simp;omega
  have hf:r=false:=by rw[Hr.out,decide_eq_false_iff_not];intro e;exact hne (by rw[Hn.out,Hn2.out,e])
  obtain⟨Hf,Hne⟩:=hd2 hf hne;clear hf hne
  go_wp2_with fail
  go_ret
  exact⟨zaf Hf.out.symm,0,rfl⟩
 have k1:((n:Int) != (n2:Int))=false:=by simp;omega
 have Hne:=hd hne;clear hne
 go_wp2_with fail
 clear k1
 go_loopw [13] (fun i wr=>∃ k:Nat,k≤n∧i = .int .i64 k∧(∀ j (h1:j < l.length) (h2:j < m.length),j < k→l[j]=m[j])∧∃ q,wr=w.drewN q) (fun i _=>n - (RowKit.intOf i).toNat)
 case atStart=>exact⟨0,Nat.zero_le _,rfl,fun _ _ _ h=>by omega,0,rfl⟩
 case round =>
  obtain⟨k,hk,rfl,hno,q,rfl⟩:=hrel
  by_cases hlt:k < n
  ·have hkl:k < l.length:=by have:=Hn.out;omega
   have hkm:k < m.length:=by have:=Hn2.out;have:=Hne.out;omega
   obtain⟨b,off,rfl,d0,d1,_,_⟩:=Hg.out k _ (List.getElem?_eq_getElem hkl)
   obtain⟨b2,off2,rfl,f0,f1,_,_⟩:=Hg2.out k _ (List.getElem?_eq_getElem hkm)
   have hnx:l[k]=m[k]→∀ j (h1:j < l.length) (h2:j < m.length),j < k+1→l[j]=m[j]:=fun h j h1 h2 hjk=>by
    by_cases e:j=k
    ·subst e;exact h
    exact hno j h1 h2 (by omega)
   have hbd:l[k]≠m[k]→l≠m:=fun h e=>h (by subst e;rfl)
   obtain⟨x,hx⟩ : ∃ x,x=l[k]:=⟨_,rfl⟩
   obtain⟨y,hy⟩ : ∃ x,x=m[k]:=⟨_,rfl⟩
   rw[← hx] at d0 d1 hnx hbd
   rw[← hy] at f0 f1 hnx hbd
   have q2:=Hq1.out x.1 x.2 y.1 y.2
   have hxy:(decide (x.1=y.1) && decide (x.2=y.2))=decide (x=y):=by
    rw[Bool.eq_iff_iff]
    simp[Prod.ext_iff]
   rw[hxy] at q2
   obtain⟨s,hs⟩ : ∃ s,s=x.1:=⟨_,rfl⟩
   obtain⟨t,ht⟩ : ∃ s,s=x.2:=⟨_,rfl⟩
   obtain⟨s',hs'⟩ : ∃ s,s=y.1:=⟨_,rfl⟩
   obtain⟨t',ht'⟩ : ∃ s,s=y.2:=⟨_,rfl⟩
   rw[← hs,← ht,← hs',← ht'] at q2
   rw[← hs] at d0
   rw[← ht] at d1
   rw[← hs'] at f0
   rw[← ht'] at f1
   have k5:(0:Int)≤(k:Int):=by omega
   have k6:(k:Int) < (n:Int):=by omega
   have k7:(k:Int) < (n2:Int):=by have:=Hne.out;omega
   clear hxy
   by_cases e:x=y
   ·have hq:=hnx e
    rw[decide_eq_true e] at q2
    simp only[Bool.not_true] at q2
    clear e
    obtain⟨Hno,Hnx,Hbd,Hx,Hy,Hs,Ht,Hs',Ht',Hq⟩:=hd10 hno hnx hbd hx hy hs ht hs' ht' hq;clear hno hnx hbd hx hy hs ht hs' ht' hq
    go_wp2_with fail
    go_region
    go_wp2_with fail
    go_roundw
    case rel=>exact⟨k+1,by omega,by go_num,Hq.out,_,rfl⟩
    case measure=>simp[RowKit.intOf];omega
   have hf:r=false:=by rw[Hr.out,decide_eq_false_iff_not];exact hbd e
   rw[decide_eq_false e] at q2
   simp only[Bool.not_false] at q2
   clear e
   obtain⟨Hno,Hnx,Hbd,Hx,Hy,Hs,Ht,Hs',Ht',Hf⟩:=hd10 hno hnx hbd hx hy hs ht hs' ht' hf;clear hno hnx hbd hx hy hs ht hs' ht' hf
   go_wp2_with fail
   go_region
   go_wp2_with fail
   go_ret
   exact⟨zaf Hf.out.symm,_,rfl⟩
  obtain rfl:n=k:=by omega
  have hf:r=true:=by
   rw[Hr.out,decide_eq_true_eq]
   exact List.ext_getElem (by rw[← Hn.out,← Hn2.out,Hne.out]) (fun j h1 h2=>hno j h1 h2 (by have:=Hn.out;omega))
  obtain⟨Hno,Hf⟩:=hd2 hno hf;clear hno hf
  go_wp2_with fail
  go_ret
  exact⟨zaf Hf.out.symm,_,rfl⟩
end

namespace VarM
abbrev Bs:=List UInt8
end VarM

section
open Go.RowKit
theorem dl (s:ByteArray):s.data.toList.length=s.size:=by rw[Array.length_toList];rfl
theorem empty_iff (s:ByteArray):s.toList = []↔s.size=0:=by
 rw[Lib.toList_data,← dl]
 exact List.length_eq_zero_iff.symm
end

section
open Go.RowKit
end

section
open Go.RowKit Go.Shelf VarM
attribute [local go_sem ↓] Go.wp_at_zero Go.wp_at_succ
end

namespace LexM
abbrev Bs:=List UInt8
abbrev Wd:=Int × Bs
abbrev Ln:=Int × List Wd
structure St where
 line:Int
 col:Int
 frm:Int
 off:Bool
 word:Bs
 words:List Wd
 out:List Ln
def ends (s:St):St:={ s with frm:=0,word:=[],words:=if 0 < s.frm then s.words ++ [(s.frm,s.word)] else s.words }
def breaks (s:St):St :=
 { (ends s) with out:=if (ends s).words = [] then s.out else s.out ++ [(s.line,(ends s).words)],words:=[],off:=false,line:=s.line+1,col:=0 }
def mayBegin (s:St):Bool:=decide (s.words.length < 40) && (decide (0 < s.words.length) || decide (s.out.length < 2000))
def zf1 (s:St):St:={ s with col:=s.col+1 }
def takes (s:St) (c:UInt8):St × Int :=
 if c.toNat=10 then (breaks (zf1 s),0)
 else if c.toNat < 32∨126 < c.toNat then (zf1 s,3)
 else if s.off=true then (zf1 s,0)
 else if c.toNat=35 then ({ ends (zf1 s) with off:=true },0)
 else if c.toNat=32 then (ends (zf1 s),0)
 else if 0 < s.frm then ({ zf1 s with word:=s.word ++ [c] },0)
 else if mayBegin s=true then ({ zf1 s with frm:=s.col+1,word:=s.word ++ [c] },0)
 else ({ zf1 s with frm:=s.col+1 },4)
def run:St→Bs→St × Int
 | s,[] => (s,0)
 | s,c :: r=>if (takes s c).2=0 then run (takes s c).1 r else takes s c
def part (c:UInt8):Bool:=decide (32 < c.toNat) && decide (c.toNat < 127) && !decide (c.toNat=35)
end LexM

section
open Go.Lib VerN VarM
open LexM (Wd Ln)
end

section
open Go.RowKit
open LexM (Bs Wd Ln St)
abbrev bv (s:Bs):Value:=.string ⟨s.toArray⟩
def wdCells (x:Wd):List Value:=[.int .i64 x.1,bv x.2]
def byVals (s:Bs):List Value:=s.map fun c=>.int .u8 c.toNat
def lnCells (out:List Ln) (rv:List Value):List Value:=(out.zip rv).flatMap fun x=>[.int .i64 x.1.1,x.2]
def zk7 (s:St) (wv sv ov:Value):Array Value:=#[.int .i64 s.line,.int .i64 s.col,.int .i64 s.frm,.bool s.off,wv,sv,ov]
structure LexSt (w0:World) (x:Nat) (s:St) (wv sv ov:Value) (rv:List Value) (w:World):Prop where
 cells:w.heap[x]? = some (.cells (zk7 s wv sv ov) 182 (0,0))
 word:w.ownsRow w0.heap.size 5 1 wv s.word.length (byVals s.word)
 words:w.ownsRow w0.heap.size 64 2 sv s.words.length (s.words.flatMap wdCells)
 out:w.ownsRow w0.heap.size 62 2 ov s.out.length (lnCells s.out rv)
 rlen:rv.length=s.out.length
 rows:∀ (i:Nat) (ln:Ln) (v:Value),s.out[i]? = some ln→rv[i]? = some v→w.ownsRow w0.heap.size 64 2 v ln.2.length (ln.2.flatMap wdCells)∧∀ k,v.ownBlock=some k→sv.ownBlock≠some k
 bel:Below w0.heap.size w0 w
 xB:w0.heap.size≤x
theorem LexSt.xs {w0 w:World} {x:Nat} {s:St} {wv sv ov:Value} {rv:List Value} (h:LexSt w0 x s wv sv ov rv w):x < w.heap.size:=(Array.getElem?_eq_some_iff.1 h.cells).1
theorem LexSt.to {w0 w w':World} {x:Nat} {s s':St} {wv sv ov wv' sv':Value} {rv:List Value} (h:LexSt w0 x s wv sv ov rv w) (hf:Frm (fun k=>k=x) w w')
  (hc:w'.heap[x]? = some (.cells (zk7 s' wv' sv' ov) 182 (0,0)))
  (h1:(wv'=wv∧s'.word=s.word)∨(wv' = .slice none 0 0∧s'.word = [])) (h2:(sv'=sv∧s'.words=s.words)∨(sv' = .slice none 0 0∧s'.words = [])) (h3:s'.out=s.out):LexSt w0 x s' wv' sv' ov rv w':=by
 have hxw:=zbj h.word h.cells (by decide)
 have hxs:=zbj h.words h.cells (by decide)
 have hxo:=zbj h.out h.cells (by decide)
 refine⟨hc,?_,?_,?_,by rw[h3];exact h.rlen,?_,h.bel.trans (hf.below h.bel.size (fun k hk=>by rw[hk];exact h.xB)),h.xB⟩
 ·rcases h1 with⟨rfl,e⟩ | ⟨rfl,e⟩
  ·rw[e];exact hf.owns h.word (fun k hk e=>hxw (by rw[hk,e]))
  rw[e];exact World.ownsRow_nil _ _ _ _
 ·rcases h2 with⟨rfl,e⟩ | ⟨rfl,e⟩
  ·rw[e];exact hf.owns h.words (fun k hk e=>hxs (by rw[hk,e]))
  rw[e];exact World.ownsRow_nil _ _ _ _
 ·rw[h3];exact hf.owns h.out (fun k hk e=>hxo (by rw[hk,e]))
 intro i ln v hi hv
 rw[h3] at hi
 obtain⟨r1,r2⟩:=h.rows i ln v hi hv
 have hxv:=zbj r1 h.cells (by decide)
 refine⟨hf.owns r1 (fun k hk e=>hxv (by rw[hk,e])),fun k hk=>?_⟩
 rcases h2 with⟨rfl,e⟩ | ⟨rfl,e⟩
 ·exact r2 k hk
 simp[Value.ownBlock]
end

section
open Go.RowKit Go.Shelf
open LexM (Wd)
attribute [local go_sem ↓] Go.wp_at_zero Go.wp_at_succ
end

section
open Go.Shelf Go.RowKit Go.Lib VerN
attribute [local go_sem ↓] Go.wp_at_zero Go.wp_at_succ
theorem zjs (w:World):RSps w [.slice none 0 0] []:=⟨_,0,rfl,Nat.zero_le _,Nat.zero_le _,fun i x hi=>by simp at hi⟩
theorem rdPost_to {t:ByteArray} {w w':World} {e:Ending} (h:RdPost t w e w'):zdm t w e w':=by
 obtain⟨h,hb⟩:=h
 refine⟨?_,hb⟩
 rcases h with⟨v,rfl,⟨h0,rfl⟩ | ⟨h0,h1,h2,h3⟩⟩ | ⟨rfl,h0,h1⟩
 ·exact .inl ⟨_,rfl,.inl h0,by unfold rdV;rw[if_pos h0];exact zjt (zjs _)⟩
 ·refine .inl ⟨_,rfl,.inr ⟨h1,h2⟩,?_⟩
  unfold rdV
  rw[if_neg h0]
  obtain⟨l,hl⟩:=rd_ok t h1
  rw[← hl] at h3 ⊢
  exact⟨zbz (fun x hx=>by have:=zci l x hx;unfold maxLen;omega) h3,fun _=>zjp h3⟩
 refine .inr ⟨_,rfl,?_,zjs _⟩
 rintro (h | ⟨k1,k2⟩)
 ·exact h0 h
 rcases h1 with⟨p,hp,hk⟩ | h1
 ·rw[k1 p hp] at hk;cases hk
 obtain⟨l,hl⟩:=rd_ok t k1
 exact h1 l hl (k2 l hl)
end
end Go.Proofs.YteailgjiifdgcaaGreatDoor
