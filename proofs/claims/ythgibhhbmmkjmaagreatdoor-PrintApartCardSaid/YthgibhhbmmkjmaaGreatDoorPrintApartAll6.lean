/- Walks and plain facts. Texts merged: StbSpanI, StbSpanT, SpsI, SpsJ, SpsT, SpnRm, SpsW, SpsB, Ins, SpsX, SpsP, SpnRf, SpsS, SpsU, StR, Typ, SpsY, VarM, VarN, VarR, WishR, LexM, RqM, RpM. Condition: none beyond what each says. -/
import Derived.Laws.EntriesVeiled
import Derived.Lib.Join
import Derived.Lib.Small
import Derived.Deep.Cut
import Derived.Deep.DrawnRows
import Derived.Test.YthgibhhbmmkjmaaGreatDoorPrintApartAll5
set_option linter.unusedVariables false
set_option linter.unusedSimpArgs false
set_option maxRecDepth 10000
set_option maxHeartbeats 4000000
namespace Go.Proofs.YthgibhhbmmkjmaaGreatDoor
section
open Go.Shelf Go.RowKit Go.Lib Go.Sort SortM StbA StbB
namespace StbSpan
variable {α : Type} [Inhabited α] {f0 : α → ByteArray} {f1 : α → ByteArray} {w0 : World} {blk off : Nat} {d0 : Array α}
variable {cf : α → α → Int} {g : Nat} {cb : Array Value}
theorem znc {d:Array α} {w:World} (R:RowK (enc f0 f1) 2 w0 blk off d0) (S:SWK (enc f0 f1) 2 w0 blk off d w) (C:CmpLays Tryz.prog g cb (enc f0 f1) 2 cf blk off d0.size w0) (eg:∀ args w,(callFunc g args).run Tryz.prog w = .ok (.enter g args) w)
  (hs:d.size=d0.size) {a b:Nat} (hab:a≤b) (hb:b≤d0.size) (cap:Nat) (hn:d0.size≤1000000) :
  Calls Tryz.prog 165 #[.slice (some ⟨blk,off,none⟩) d0.size cap,.int .i64 a,.int .i64 b,.func (.func g) #[] cb] w fun e w'=>e = .returned (.tuple #[])∧SWK (enc f0 f1) 2 w0 blk off (Sort.insertionSort (ltOf cf) d a b) w':=by
 obtain⟨N,hN⟩ : ∃ N,N=d0.size:=⟨_,rfl⟩
 rw[← hN] at hn hs hb ⊢
 obtain⟨HS,Hs,HN,HC,HR⟩:=hd5 S hs hN C R;clear S hs hN C R
 go_enter Tryz.func165,Tryz.ntmps165
 go_wp2_with fail
 go_loopw [8] (fun x wr=>∃ (i:Nat) (dk:Array α),x = .int .i64 i∧a < i∧i≤b+1∧dk.size=N∧SWK (enc f0 f1) 2 w0 blk off dk wr∧insOuter (ltOf cf) a b i dk=insOuter (ltOf cf) a b (a+1) d) (fun x _=>b+1 - (intOf x).toNat)
 case atStart=>exact⟨a+1,d,by go_num,by omega,by omega,Hs.out,HS.out,rfl⟩
 case round =>
  obtain⟨i,dk,rfl,hai,hib,hsk,S,hO⟩:=hrel
  by_cases hlt:i < b
  ·have w1:IntKind.i64.wrap ((i:Int)+1)=(i:Int)+1:=IntWalk.i64_in _ (by omega)
   have hltz:(i:Int) < (b:Int):=by omega
   obtain⟨HO,HS,Hsk⟩:=hd3 hO S hsk;clear hO S hsk
   go_wp2_with fail
   go_loopw [9] (fun x wq=>∃ (j:Nat) (dj:Array α),x = .int .i64 j∧a≤j∧j≤i∧dj.size=N∧SWK (enc f0 f1) 2 w0 blk off dj wq∧insInner (ltOf cf) a j dj=insInner (ltOf cf) a i dk) (fun x _=>(intOf x).toNat)
   case atStart=>exact⟨i,dk,rfl,by omega,Nat.le_refl _,Hsk.out,HS.out,rfl⟩
   case round =>
    obtain⟨j,dj,rfl,haj,hji,hl,S,hI⟩:=hrel
    have out:(j≤a∨ltOf cf dj[j]! dj[j - 1]! = false)→insOuter (ltOf cf) a b (i+1) dj=insOuter (ltOf cf) a b (a+1) d:=fun hs=>by
     rw[← HO.out,insOuter_go _ _ _ _ _ hlt,← hI,insInner_stop _ _ _ _ hs]
    by_cases hja:a < j
    ·obtain⟨jp,rfl⟩ : ∃ jp,j=jp+1:=⟨j - 1,by omega⟩
     have hlt2:=hlt
     have R:=HR.out
     have C:=HC.out
     rw[HN.out] at hl
     have hN':=HN.out
     obtain⟨p0,_,p1,_⟩:=cells S R hl (jp+1) (by omega)
     obtain⟨x,hx⟩ : ∃ v,v=dj[jp+1]!:=⟨_,rfl⟩
     rw[← hx] at p0 p1
     obtain⟨x0,hx0⟩ : ∃ v,v=f0 x:=⟨_,rfl⟩
     rw[← hx0] at p0
     obtain⟨x1,hx1⟩ : ∃ v,v=f1 x:=⟨_,rfl⟩
     rw[← hx1] at p1
     obtain⟨q0,_,q1,_⟩:=cells S R hl (jp) (by omega)
     obtain⟨y,hy⟩ : ∃ v,v=dj[jp]!:=⟨_,rfl⟩
     rw[← hy] at q0 q1
     obtain⟨y0,hy0⟩ : ∃ v,v=f0 y:=⟨_,rfl⟩
     rw[← hy0] at q0
     obtain⟨y1,hy1⟩ : ∃ v,v=f1 y:=⟨_,rfl⟩
     rw[← hy1] at q1
     have hcg:∀ V,Below wr.heap.size wr V→Calls Tryz.prog g (#[.agg #[.string (x0),.string (x1)],.agg #[.string (y0),.string (y1)]] ++ cb) V fun e w'=>e = .returned (.int .i64 (cf x y))∧Below V.heap.size V w':=fun V hV=>by rw[hx0,hy0,hx1,hy1];exact C V (SortR.SRW.below S hV).frm x y
     have hczf:∀ V,Below wr.heap.size wr V→V.cell? ⟨blk,off+(jp+1) * 2,none⟩=some (.string (x0))∧V.cell? ⟨blk,off+(jp+1) * 2+1,none⟩=some (.string (x1))∧V.cell? ⟨blk,off+(jp) * 2,none⟩=some (.string (y0))∧V.cell? ⟨blk,off+(jp) * 2+1,none⟩=some (.string (y1)):=fun V hV=>⟨cell_later hV p0,cell_later hV p1,cell_later hV q0,cell_later hV q1⟩
     obtain⟨cv,hcv⟩ : ∃ v,v=cf x y:=⟨_,rfl⟩
     rw[← hcv] at hcg
     have hGR:=S
     have w2:IntKind.i64.wrap (jp:Int)=(jp:Int):=IntWalk.i64_in _ (by omega)
     have n2:((jp:Int)+1).toNat=jp+1:=by omega
     have u2:(0:Int)≤(jp:Int)+1:=by omega
     have v1:(jp:Int) < (N:Int):=by omega
     have v2:(jp:Int)+1 < (N:Int):=by omega
     have v3:(a:Int) < (jp:Int)+1:=by omega
     clear S R C hN'
     cases hdec:decide (cv < 0) with
     | true =>
      have hlv:cv < 0:=of_decide_eq_true hdec
      have hI2:insInner (ltOf cf) a jp (swp dj (jp+1) jp)=insInner (ltOf cf) a i dk:=by
       rw[← hI]
       have:=insInner_go (ltOf cf) a (jp+1) dj hja (by simp only[Nat.add_sub_cancel];rw[← hx,← hy];unfold ltOf;rw[← hcv];exact hdec)
       simp only[Nat.add_sub_cancel] at this
       exact this.symm
      obtain⟨HI,HI2,Hl,Hout,Hx,Hy,Hx0,Hy0,Hx1,Hy1,HGR,Hcg,Hczf,Hcv,Hdec⟩:=hd15 hI hI2 hl out hx hy hx0 hy0 hx1 hy1 hGR hcg hczf hcv hdec;clear hI hI2 hl out hx hy hx0 hy0 hx1 hy1 hGR hcg hczf hcv hdec
      go_wp2_with fail
      have mixed:Tryz.prog.follows .mixedOrders=true:=by kernel_rfl
      have hbz:=za6 (Below.refl wr.heap.size wr) 1
      have hcz:=Hczf.out _ hbz
      go_region_held3 (fun w'=>w'.cell? ⟨blk,off+(jp+1) * 2,none⟩=some (.string (x0))∧w'.cell? ⟨blk,off+(jp+1) * 2+1,none⟩=some (.string (x1))∧w'.cell? ⟨blk,off+(jp) * 2,none⟩=some (.string (y0))∧w'.cell? ⟨blk,off+(jp) * 2+1,none⟩=some (.string (y1))) (first | exact hcz | go_keep) (first | (go_at_fn g;refine (Hcg.out _ (by exact hbz)).mono ?_;rintro e wz ⟨rfl,hsz⟩;replace hbz:=hbz.trans (hsz.mono hbz.size);replace hcz:=Hczf.out _ hbz))
      all_goals
       go_wp2_with fail
       have S:=HGR.out.below hbz
       clear Hcg Hczf p0 q0 p1 q1
       obtain⟨w2,hw2⟩ : ∃ w2,w2=wz:=⟨_,rfl⟩
       rw[← hw2] at S ⊢
       have R:=HR.out
       have hl:=Hl.out
       have hN':=HN.out
       have hEX:=exch S R (jp+1) (jp) (by omega) (by omega)
       obtain⟨p0,pf0,p1,pf1⟩:=cells S R hl (jp+1) (by omega)
       obtain⟨q0,qf0,q1,qf1⟩:=cells S R hl (jp) (by omega)
       obtain⟨x,hx⟩ : ∃ x,x=dj[jp+1]!:=⟨_,rfl⟩
       obtain⟨y,hy⟩ : ∃ y,y=dj[jp]!:=⟨_,rfl⟩
       rw[← hx] at p0 p1 hEX
       rw[← hy] at q0 q1 hEX
       obtain⟨x0,hx0⟩ : ∃ v,v=f0 x:=⟨_,rfl⟩
       obtain⟨y0,hy0⟩ : ∃ v,v=f0 y:=⟨_,rfl⟩
       rw[← hx0] at p0 hEX
       rw[← hy0] at q0 hEX
       obtain⟨x1,hx1⟩ : ∃ v,v=f1 x:=⟨_,rfl⟩
       obtain⟨y1,hy1⟩ : ∃ v,v=f1 y:=⟨_,rfl⟩
       rw[← hx1] at p1 hEX
       rw[← hy1] at q1 hEX
       have na00:¬ off+(jp+1) * 2=off+(jp) * 2:=by omega
       have nb00:¬ off+(jp) * 2=off+(jp+1) * 2:=by omega
       have na01:¬ off+(jp+1) * 2=off+(jp) * 2+1:=by omega
       have nb01:¬ off+(jp) * 2=off+(jp+1) * 2+1:=by omega
       have na10:¬ off+(jp+1) * 2+1=off+(jp) * 2:=by omega
       have nb10:¬ off+(jp) * 2+1=off+(jp+1) * 2:=by omega
       have na11:¬ off+(jp+1) * 2+1=off+(jp) * 2+1:=by omega
       have nb11:¬ off+(jp) * 2+1=off+(jp+1) * 2+1:=by omega
       clear S R hN'
       obtain⟨Hl,Hw2,Hx,Hy,Hx0,Hy0,Hx1,Hy1,HEX⟩:=hd9 hl hw2 hx hy hx0 hy0 hx1 hy1 hEX;clear hl hw2 hx hy hx0 hy0 hx1 hy1 hEX
       go_wp2_with fail
       go_region
       all_goals
        go_wp2_with fail
        go_roundw
        case rel=>exact⟨jp,_,rfl,by omega,by omega,by rw[size_swp,Hl.out,HN.out],HEX.out,HI2.out⟩
        case measure=>simp[intOf] <;> omega
     | false =>
      have hlv:¬ cv < 0:=of_decide_eq_false hdec
      have hO2:=out (Or.inr (by simp only[Nat.add_sub_cancel];rw[← hx,← hy];unfold ltOf;rw[← hcv];exact hdec))
      obtain⟨HI,HO2,Hl,Hout,Hx,Hy,Hx0,Hy0,Hx1,Hy1,HGR,Hcg,Hczf,Hcv,Hdec⟩:=hd15 hI hO2 hl out hx hy hx0 hy0 hx1 hy1 hGR hcg hczf hcv hdec;clear hI hO2 hl out hx hy hx0 hy0 hx1 hy1 hGR hcg hczf hcv hdec
      go_wp2_with fail
      have mixed:Tryz.prog.follows .mixedOrders=true:=by kernel_rfl
      have hbz:=za6 (Below.refl wr.heap.size wr) 1
      have hcz:=Hczf.out _ hbz
      go_region_held3 (fun w'=>w'.cell? ⟨blk,off+(jp+1) * 2,none⟩=some (.string (x0))∧w'.cell? ⟨blk,off+(jp+1) * 2+1,none⟩=some (.string (x1))∧w'.cell? ⟨blk,off+(jp) * 2,none⟩=some (.string (y0))∧w'.cell? ⟨blk,off+(jp) * 2+1,none⟩=some (.string (y1))) (first | exact hcz | go_keep) (first | (go_at_fn g;refine (Hcg.out _ (by exact hbz)).mono ?_;rintro e wz ⟨rfl,hsz⟩;replace hbz:=hbz.trans (hsz.mono hbz.size);replace hcz:=Hczf.out _ hbz))
      all_goals
       go_wp2_with fail
       go_roundw
       case rel=>exact⟨i+1,dj,by go_num,by omega,by omega,by rw[Hl.out,HN.out],HGR.out.below hbz,HO2.out⟩
       case measure=>simp[intOf];omega
    have v3:¬ (a:Int) < (j:Int):=by omega
    have v4:decide ((a:Int) < (j:Int))=false:=decide_eq_false v3
    have hO2:=out (Or.inl (by omega))
    have hGR:=S.drew
    obtain⟨HI,HO2,Hl,Hout,HS,HGR⟩:=hd6 hI hO2 hl out S hGR;clear hI hO2 hl out S hGR
    go_wp2_with fail
    go_region
    all_goals
     go_wp2_with fail
     go_roundw
     case rel=>exact⟨i+1,dj,by go_num,by omega,by omega,Hl.out,HGR.out,HO2.out⟩
     case measure=>simp[intOf];omega
  have hltz:¬ (i:Int) < (b:Int):=by omega
  have hE:dk=Sort.insertionSort (ltOf cf) d a b:=by unfold Sort.insertionSort;rw[← hO,insOuter_stop _ _ _ _ _ hlt]
  rw[hE] at S
  obtain⟨HS,HO,HE⟩:=hd3 S hO hE;clear S hO hE
  go_wp2_with fail
  go_end0
  exact⟨rfl,HS.out⟩
end StbSpan
end

section
open Go.Shelf Go.RowKit Go.Lib Go.Sort SortM StbA StbB
namespace StbSpan
variable {α : Type} [Inhabited α] {f0 : α → ByteArray} {f1 : α → ByteArray} {w0 : World} {blk off : Nat} {d0 : Array α}
variable {cf : α → α → Int} {g : Nat} {cb : Array Value}
theorem merge_any (R:RowK (enc f0 f1) 2 w0 blk off d0) (C:CmpLays Tryz.prog g cb (enc f0 f1) 2 cf blk off d0.size w0) (eg:∀ args w,(callFunc g args).run Tryz.prog w = .ok (.enter g args) w) (hO:Swo (ltOf cf)) (cap:Nat) (hn:d0.size≤1000000):∀ n,znq cf (enc f0 f1) g cb w0 blk off cap d0 n:=by
 intro n
 induction n with
 | zero=>intro dk w p u v q a m b S hd hs hu hv ha hm hb h1 h2 hle;omega
 | succ n IH =>
  intro dk w p u v q a m b S hd hs hu hv ha hm hb h1 h2 hle
  match u,hd,hu,hm,h1 with
  | [],_,_,_,h1=>simp at h1
  | [x],hd,hu,hm,h1=>exact zu8 R S C eg hO (p:=p) (v:=v) (q:=q) (x:=x) (by rw[hd];simp) hs hv ha (by simpa using hm) hb cap hn
  | x :: x2 :: u,hd,hu,hm,h1 =>
   match v,hd,hv,hb,h2 with
   | [],_,_,_,h2=>simp at h2
   | [y],hd,hv,hb,h2=>exact zqv R S C eg hO (p:=p) (u:=x :: x2 :: u) (q:=q) (x:=y) (by rw[hd];simp) hs hu ha hm (by simpa using hb) (by simp) cap hn
   | y :: y2 :: v,hd,hv,hb,h2=>exact merge_gen R S C eg hO hd hs hu hv ha hm hb (by simp) (by simp) hle cap hn IH
theorem ztf (R:RowK (enc f0 f1) 2 w0 blk off d0) (C:CmpLays Tryz.prog g cb (enc f0 f1) 2 cf blk off d0.size w0) (eg:∀ args w,(callFunc g args).run Tryz.prog w = .ok (.enter g args) w) (hO:Swo (ltOf cf)) (cap:Nat) (hn:d0.size≤1000000) :
  Calls Tryz.prog 151 #[.slice (some ⟨blk,off,none⟩) d0.size cap,.int .i64 d0.size,.func (.func g) #[] cb] w0 (Now (enc f0 f1) 2 w0 blk off (zb7 (ltOf cf) d0.toList)):=by
 have hM:=merge_any R C eg hO cap hn d0.size
 have hS:SWK (enc f0 f1) 2 w0 blk off d0 w0:=R
 have hI:=fun (dk:Array α) (wr:World) (a b:Nat) (S:SWK (enc f0 f1) 2 w0 blk off dk wr) (hs:dk.size=d0.size) (hab:a≤b) (hb:b≤d0.size)=>znc R S C eg hs hab hb cap hn
 obtain⟨l0,hl0⟩ : ∃ l,l=d0.toList:=⟨_,rfl⟩
 have hlen:l0.length=d0.size:=by rw[hl0,Array.length_toList]
 have hP0:P1 (ltOf cf) l0 20 0 d0:=P1.start l0 20 hl0.symm
 rw[← hl0]
 unfold znq at hM
 obtain⟨N,hN⟩ : ∃ N,N=d0.size:=⟨_,rfl⟩
 rw[← hN] at hn hlen hI hM ⊢
 obtain⟨HM,HS,HI,Hl0,Hlen,HP0,HN,HC,HR,HO⟩:=hd10 hM hS hI hl0 hlen hP0 hN C R hO;clear hM hS hI hl0 hlen hP0 hN C R hO
 go_enter Tryz.func151,Tryz.ntmps151
 go_wp2_with fail
 go_loopw [7,8] (fun x y wr=>∃ (a:Nat) (dk:Array α),x = .int .i64 a∧y = .int .i64 ((a:Int)+20)∧P1 (ltOf cf) l0 20 a dk∧SWK (enc f0 f1) 2 w0 blk off dk wr) (fun x _ _=>N+20 - (intOf x).toNat)
 case atStart=>exact⟨0,d0,rfl,rfl,HP0.out,HS.out⟩
 case round =>
  obtain⟨a,dk,rfl,rfl,hP,S⟩:=hrel
  have hle:=hP.le
  rw[Hlen.out] at hle
  have hsz:=hP.size HO.out
  rw[Hlen.out] at hsz
  by_cases hlt:a+20≤N
  ·have v1:decide ((a:Int)+20≤(N:Int))=true:=decide_eq_true (by omega)
   have v2:(a:Int)+20≤(N:Int):=by omega
   have w1:IntKind.i64.wrap ((a:Int)+20+20)=(a:Int)+20+20:=IntWalk.i64_in _ (by omega)
   have hc:=HI.out dk wr a (a+20) S (by rw[hsz]) (by omega) (by omega)
   rw[show ((a+20:Nat):Int)=(a:Int)+20 by omega] at hc
   have hP2:=hP.step HO.out (by rw[Hlen.out];omega)
   obtain⟨HP,HS,HP2,Hc,Hsz,Hle⟩:=hd6 hP S hP2 hc hsz hle;clear hP S hP2 hc hsz hle
   go_wp2_with fail
   refine Hc.out.mono ?_
   rintro e w2 ⟨rfl,S⟩
   have HS:=hd S;clear S
   go_wp2_with fail
   go_roundw
   case rel=>exact⟨a+20,_,by go_num,by go_num,HP2.out,HS.out⟩
   case measure=>simp[intOf];omega
  have v1:decide ((a:Int)+20≤(N:Int))=false:=decide_eq_false (by omega)
  have v2:¬ (a:Int)+20≤(N:Int):=by omega
  have hc:=HI.out dk wr a N S (by rw[hsz]) (by omega) (by omega)
  have hP2:=hP.last HO.out (n:=N) Hlen.out.symm (by omega)
  clear HI
  obtain⟨HP,HS,HP2,Hc,Hsz,Hle⟩:=hd6 hP S hP2 hc hsz hle;clear hP S hP2 hc hsz hle
  go_wp2_with fail
  refine Hc.out.mono ?_
  rintro e w2 ⟨rfl,S⟩
  clear v1 v2
  have HS:=hd S;clear S
  go_wp2_with fail
  go_loopw [6] (fun x wr=>∃ (bs:Nat) (dk:Array α),x = .int .i64 bs∧20≤bs∧bs≤2 * N+20∧P2 (ltOf cf) l0 bs dk∧SWK (enc f0 f1) 2 w0 blk off dk wr) (fun x _=>N - (intOf x).toNat)
  case atStart=>exact⟨20,_,rfl,Nat.le_refl _,by omega,HP2.out,HS.out⟩
  case round =>
   obtain⟨bs,dk,rfl,hb1,hb2,hP,S⟩:=hrel
   by_cases hlt2:bs < N
   ·have v2:(bs:Int) < (N:Int):=by omega
    have w1:IntKind.i64.wrap (2 * (bs:Int))=2 * (bs:Int):=IntWalk.i64_in _ (by omega)
    have w1':IntKind.i64.wrap ((bs:Int) * 2)=2 * (bs:Int):=by rw[IntWalk.i64_in _ (by omega)];omega
    have hP3:=P3.start hP
    obtain⟨HP,HS,HP3⟩:=hd3 hP S hP3;clear hP S hP3
    go_wp2_with fail
    go_loopw [7,8] (fun x y wr=>∃ (a:Nat) (dk:Array α),x = .int .i64 a∧y = .int .i64 ((a:Int)+2 * (bs:Int))∧P3 (ltOf cf) l0 bs a dk∧SWK (enc f0 f1) 2 w0 blk off dk wr) (fun x _ _=>N+2 * bs - (intOf x).toNat)
    case atStart=>exact⟨0,dk,rfl,by go_num,HP3.out,HS.out⟩
    case round =>
     obtain⟨a,dk,rfl,rfl,hP,S⟩:=hrel
     have hsz:=hP.size HO.out
     rw[Hlen.out] at hsz
     obtain⟨hsz,hle⟩:=hsz
     rw[hsz] at hle
     have w2:IntKind.i64.wrap ((a:Int)+(bs:Int))=(a:Int)+(bs:Int):=IntWalk.i64_in _ (by omega)
     by_cases hlt3:a+2 * bs≤N
     ·have v3:decide ((a:Int)+2 * (bs:Int)≤(N:Int))=true:=decide_eq_true (by omega)
      have v4:(a:Int)+2 * (bs:Int)≤(N:Int):=by omega
      have w3:IntKind.i64.wrap ((a:Int)+2 * (bs:Int)+2 * (bs:Int))=(a:Int)+2 * (bs:Int)+2 * (bs:Int):=IntWalk.i64_in _ (by omega)
      obtain⟨p,u,v,q,q1,q2,q3,q4,q5,q6,q7⟩:=hP.step HO.out (by rw[Hlen.out];omega) (by omega)
      have hc:=HM.out dk wr p u v q a (a+bs) (a+2 * bs) S q1 (by rw[hsz,HN.out]) q2 q3 q4 (by omega) (by omega) (by omega) (by omega) (by omega)
      rw[show ((a+bs:Nat):Int)=(a:Int)+(bs:Int) by omega,show ((a+2 * bs:Nat):Int)=(a:Int)+2 * (bs:Int) by omega] at hc
      clear q1 q2 q3 q4 q5 q6
      obtain⟨HP,HS,Hc,Hsz,Hle,Hq7⟩:=hd6 hP S hc hsz hle q7;clear hP S hc hsz hle q7
      go_wp2_with fail
      refine Hc.out.mono ?_
      rintro e w2 ⟨rfl,d2,S,hd2⟩
      have hP2:=Hq7.out d2 hd2
      clear hd2
      obtain⟨HS,HP2⟩:=hd2 S hP2;clear S hP2
      go_wp2_with fail
      go_roundw
      case rel=>exact⟨a+2 * bs,_,by go_num,by go_num,HP2.out,HS.out⟩
      case measure=>simp[intOf];omega
     have v3:decide ((a:Int)+2 * (bs:Int)≤(N:Int))=false:=decide_eq_false (by omega)
     have v4:¬ (a:Int)+2 * (bs:Int)≤(N:Int):=by omega
     by_cases hm:a+bs < N
     ·have v5:(a:Int)+(bs:Int) < (N:Int):=by omega
      obtain⟨p,u,v,q1,q2,q3,q4,q5,q6,q7⟩:=hP.last1 HO.out (n:=N) Hlen.out.symm (by omega) hm
      have hc:=HM.out dk wr p u v [] a (a+bs) N S q1 (by rw[hsz,HN.out]) q2 q3 q4 (by omega) (by omega) (by omega) (by omega) (by omega)
      rw[show ((a+bs:Nat):Int)=(a:Int)+(bs:Int) by omega] at hc
      clear q1 q2 q3 q4 q5 q6
      obtain⟨HP,HS,Hc,Hsz,Hle,Hq7⟩:=hd6 hP S hc hsz hle q7;clear hP S hc hsz hle q7
      go_wp2_with fail
      refine Hc.out.mono ?_
      rintro e w2 ⟨rfl,d2,S,hd2⟩
      have hP2:=Hq7.out d2 hd2
      clear hd2
      obtain⟨HS,HP2⟩:=hd2 S hP2;clear S hP2
      go_wp2_with fail
      go_roundw
      case rel=>exact⟨2 * bs,_,by go_num,by omega,by omega,HP2.out,HS.out⟩
      case measure=>simp[intOf];omega
     have v5:¬ (a:Int)+(bs:Int) < (N:Int):=by omega
     have hP2:=hP.last2 (n:=N) Hlen.out.symm (by omega) hm (by omega)
     obtain⟨HP,HS,Hsz,Hle,HP2⟩:=hd5 hP S hsz hle hP2;clear hP S hsz hle hP2
     go_wp2_with fail
     go_roundw
     case rel=>exact⟨2 * bs,_,by go_num,by omega,by omega,HP2.out,HS.out⟩
     case measure=>simp[intOf];omega
   have v2:¬ (bs:Int) < (N:Int):=by omega
   have hD:=hP.done (by rw[Hlen.out];omega)
   obtain⟨HP,HS,HD⟩:=hd3 hP S hD;clear hP S hD
   go_wp2_with fail
   go_end0
   exact⟨rfl,dk,HS.out,HD.out⟩
theorem sortStable_any (R:RowK (enc f0 f1) 2 w0 blk off d0) (C:CmpLays Tryz.prog g cb (enc f0 f1) 2 cf blk off d0.size w0) (eg:∀ args w,(callFunc g args).run Tryz.prog w = .ok (.enter g args) w) (hO:Swo (ltOf cf)) (cap:Nat) (hn:d0.size≤1000000) :
  Calls Tryz.prog 126 #[.slice (some ⟨blk,off,none⟩) d0.size cap,.func (.func g) #[] cb] w0 (Now (enc f0 f1) 2 w0 blk off (zb7 (ltOf cf) d0.toList)):=by
 have hc:=ztf R C eg hO cap hn
 obtain⟨l,hl⟩ : ∃ l,l=zb7 (ltOf cf) d0.toList:=⟨_,rfl⟩
 rw[← hl] at hc ⊢
 obtain⟨N,hN⟩ : ∃ N,N=d0.size:=⟨_,rfl⟩
 rw[← hN] at hn hc ⊢
 obtain⟨Hc,HN,Hl,HC,HR,HO⟩:=hd6 hc hN hl C R hO;clear hc hN hl C R hO
 go_enter Tryz.func126,Tryz.ntmps126
 go_wp2_with fail
 refine Hc.out.mono ?_
 rintro e w2 ⟨rfl,hw2⟩
 have Hw2:=hd hw2;clear hw2
 go_wp2_with fail
 go_end0
 exact⟨rfl,Hw2.out⟩
end StbSpan
end

section
open Go.Shelf Go.RowKit Go.Lib Go.Sort SortM VerN
abbrev tB (l:List Tp):List BSp:=l.map (·.1)
abbrev spEnc:Tp→List Value:=StbSpan.enc (fun x:Tp=>x.1.1) fun x=>x.1.2
theorem zly (l:List Tp):l.flatMap spEnc=(tB l).flatMap zax:=by
 induction l with
 | nil=>rfl
 | cons x l ih=>rw[List.flatMap_cons,ih];rfl
theorem zur:∀ args w,(callFunc 127 args).run Tryz.prog w = .ok (.enter 127 args) w:=enters_of Tryz.func127 (by kernel_rfl) rfl
theorem zth {w w0:World} {g cap:Nat} {l:List Tp} (h:w.ownsRow w0.heap.size 51 2 (.slice (some ⟨g,0,none⟩) l.length cap) l.length ((tB l).flatMap zax)) (hb:Below w0.heap.size w0 w) (hD:zbl w0) (hl:l.length≤80000) :
  Calls Tryz.prog 126 #[.slice (some ⟨g,0,none⟩) l.length cap,.func (.func 127) #[] #[]] w fun e w'=>e = .returned (.tuple #[])∧w'.ownsRow w0.heap.size 51 2 (.slice (some ⟨g,0,none⟩) l.length cap) l.length ((tB (zk2 l)).flatMap zax)∧Below w0.heap.size w0 w':=by
 rw[← zly] at h
 have hR:=SortR.srw_of_owns StbSpan.enc_len h rfl
 have hlow:w0.heap.size≤g:=(h.lt g rfl).1
 have hC:StbSpan.CmpLays Tryz.prog 127 #[] spEnc 2 cfSp g 0 l.toArray.size w:=fun W hW x y =>
  zlg x.1.1 x.1.2 y.1.1 y.1.2 (by have:=x.2.1;omega) (by have:=y.2.1;omega) (hD.below (hb.trans (hW.below hb.size (fun k e=>by rw[e];exact hlow))))
 have hs:=StbSpan.sortStable_any hR hC zur swoSp cap (by simpa using Nat.le_trans hl (by decide))
 have e:l.toArray.size=l.length:=by simp
 rw[e] at hs
 refine hs.mono ?_
 rintro e w' ⟨rfl,d,S,hd⟩
 have hsz:d.size=l.length:=by rw[← Array.length_toList,hd,zd4 swoSp]
 have h2:=SortR.owns_of_srw StbSpan.enc_len (by decide) h S hsz
 rw[hd,zly] at h2
 exact⟨rfl,h2.1,h2.2 _ hb hb.size⟩
theorem zu4 (lo hi:ByteArray) (hl:lo.size≤1000000) (hh:hi.size≤1000000) {w:World} (hD:zbl w):Calls Tryz.prog 123 #[.agg #[.string lo,.string hi]] w fun e w'=>e = .returned (.bool (!mayS (lo.data.toList,hi.data.toList)))∧Below w.heap.size w w':=by
 obtain⟨W0,hW0⟩ : ∃ W0,W0=w.alloc (.cells #[.string lo,.string hi] 51):=⟨_,rfl⟩
 obtain⟨nb,hnb⟩ : ∃ nb,nb=w.heap.size:=⟨_,rfl⟩
 have hw:Below w.heap.size w W0:=by rw[hW0];exact za2 _ _
 have hn0:W0.heap[nb]? = some (.cells #[.string lo,.string hi] 51 (0,0)):=by rw[hW0,hnb];exact za9 rfl
 obtain⟨b0,b1,_,_⟩:=za7 hn0
 have hM:=ze3 hw (zce lo hi hl hh (hD.below hw))
 obtain⟨p,hp⟩ : ∃ p,p=mayS (lo.data.toList,hi.data.toList):=⟨_,rfl⟩
 rw[← hp] at hM ⊢
 obtain⟨HM,Hw,Hn0,Hp,HD⟩:=hd5 hM hw hn0 hp hD;clear hM hw hn0 hp hD
 go_enter Tryz.func123,Tryz.ntmps123
 go_upto_region 1 with (fail)
 rw[← hW0,← hnb]
 clear hW0 hnb
 go_wp2_with fail
 refine HM.out.mono ?_
 rintro e w1 ⟨rfl,hb1⟩
 have Hb1:=hd hb1;clear hb1
 go_wp2_with fail
 go_ret
 exact⟨rfl,Hb1.out⟩
theorem znf:∀ args w,(callFunc 123 args).run Tryz.prog w = .ok (.enter 123 args) w:=enters_of Tryz.func123 (by kernel_rfl) rfl
theorem zqs (l:List Tp) {w:World} (hD:zbl w):IdxSpan.Pred RSpn (fun s=>!mayS (dS s)) 123 #[] (tB l) w:=by
 intro W u0 u1 s hb hs hr
 obtain⟨h1,_,_⟩:=hr
 injection h1 with h1 h2
 injection h2 with h2 _
 subst h1 h2
 obtain⟨x,_,rfl⟩:=List.mem_map.1 hs
 exact zu4 _ _ (by have:=x.2.1;omega) (by have:=x.2.2;omega) (hD.below hb)
theorem zv2 (l:List BSp):(l.any fun s=>!mayS (dS s)) = !zt2 l:=by
 unfold zt2
 rw[List.not_all_eq_any_not]
end

section
open Go.Shelf Go.RowKit Go.Lib Go.Sort SortM VerN
theorem jn_size {a b:BSp} (ha:a.1.size≤9000∧a.2.size≤9000) (hb:b.1.size≤9000∧b.2.size≤9000):(jnV a.1 a.2 b.1 b.2).1.size≤9000∧(jnV a.1 a.2 b.1 b.2).2.size≤9000:=by
 have h0:(ByteArray.mk #[]).size≤9000:=by decide
 unfold jnV
 split
 ·constructor
  ·show (if _ then _ else _:ByteArray).size≤9000
   split
   ·exact zge ha.1 hb.1
   exact h0
  show (if _ then _ else _:ByteArray).size≤9000
  split
  ·exact zhy ha.2 hb.2
  exact h0
 exact⟨h0,h0⟩
def zg9 (O:List BSp):Prop:=∀ z∈O,z.1.size≤9000∧z.2.size≤9000
theorem zg9.add {O:List BSp} (h:zg9 O) {x:BSp} (hx:x.1.size≤9000∧x.2.size≤9000):zg9 (addB O x):=by
 rcases List.eq_nil_or_concat O with rfl | ⟨Q,z,rfl⟩
 ·rw[zt3]
  intro y hy
  rw[List.mem_singleton.1 hy];exact hx
 rw[List.concat_eq_append] at *
 rw[zl9]
 have hq:∀ y∈Q,y.1.size≤9000∧y.2.size≤9000:=fun y hy=>h y (by simp[hy])
 have hz:=h z (by simp)
 split
 ·intro y hy
  rcases List.mem_append.1 hy with k | k
  ·exact hq y k
  rw[List.mem_singleton.1 k];exact jn_size hz hx
 intro y hy
 rcases List.mem_append.1 hy with k | k
 ·exact h y k
 rw[List.mem_singleton.1 k];exact hx
theorem zhq:∀ (r O:List BSp),zg9 O→zg9 r→zg9 (r.foldl addB O)
 | [],_,h,_=>h
 | x :: r,O,h,hr=>zhq r (addB O x) (h.add (hr x (by simp))) fun y hy=>hr y (by simp[hy])
theorem zk3 (l:List Tp):zg9 (tB l):=fun z hz=>by
 obtain⟨x,_,rfl⟩:=List.mem_map.1 hz
 exact x.2
theorem zu7 {r:List BSp} {k:Nat} (h:k < r.length):zhk (r.take (k+1))=addB (zhk (r.take k)) r[k]:=by
 unfold zhk
 rw[List.take_succ_eq_append_getElem h,List.foldl_append];rfl
theorem Mrg.below {w0 w w':World} {x:Nat} {O:List BSp} (h:Mrg w0 x O w) (hb:Below w.heap.size w w'):Mrg w0 x O w':=by
 obtain⟨v,h1,h2,h3,h4⟩:=h
 exact⟨v,za1 hb h1,zab h2 hb,h3.trans (hb.mono h3.size),h4⟩
theorem zq4 {w w0:World} {o:Value} {l:List Tp} (h:w.ownsRow w0.heap.size 51 2 o l.length ((tB l).flatMap zax)) (hb:Below w0.heap.size w0 w) (hD:zbl w0) (hl:l.length≤80000) :
  Calls Tryz.prog 126 #[o,.func (.func 127) #[] #[]] w fun e w'=>e = .returned (.tuple #[])∧w'.ownsRow w0.heap.size 51 2 o l.length ((tB (zk2 l)).flatMap zax)∧Below w0.heap.size w0 w':=by
 rcases h.2 with⟨rfl,h0⟩ | ⟨g,c,cur,rfl,_⟩
 ·have hl0:l = []:=List.length_eq_zero_iff.1 h0
  subst hl0
  exact (zja _ w).mono fun e w' ⟨he,hw⟩=>⟨he,hw ▸ World.ownsRow_nil _ _ _ _,hw ▸ hb⟩
 exact zth h hb hD hl
theorem ztg (l:List Tp):(tB (zk2 l)).length=l.length:=by rw[List.length_map];exact (zk1 l).length_eq
theorem zrx {w:World} {oa:Option Addr} {n oc:Nat} {R:List BSp} (h:RSps w [.slice oa n oc] R):∀ i x,R[i]? = some x→∃ b off,oa=some ⟨b,off,none⟩∧w.cell? ⟨b,off+i * 2,none⟩=some (.string x.1)∧w.cell? ⟨b,off+i * 2+1,none⟩=some (.string x.2):=by
 obtain⟨a,cap,hv,_,hg⟩:=zc5 h
 injection hv with h1 _ _
 subst h1
 intro i x hi
 obtain⟨b,off,e,c0,c1,_⟩:=hg i x hi
 exact⟨b,off,e,c0,c1⟩
theorem zki (R:List BSp) (k:Nat):(zhk (R.take k)).length≤k:=by
 have h:=zir (R.take k) []
 rw[List.length_take] at h
 unfold zhk
 simp only[List.length_nil] at h
 omega
def zg8 (l:List Tp):Bool:=zt2 (tB l) && decide ((zhc l).length≤16)
def zns (l:List Tp) (w:World) (e:Ending) (w':World):Prop :=
 ∃ o,e = .returned (.tuple #[o,.bool (zg8 l)])∧(zg8 l=true→w'.ownsRow w.heap.size 51 2 o (zhc l).length ((zhc l).flatMap zax))∧(zg8 l=false→o = .slice none 0 0)∧Below w.heap.size w w'
theorem form_no {l:List Tp} {w w':World} (h:zg8 l=false) (hb:Below w.heap.size w w'):zns l w (.returned (.tuple #[.slice none 0 0,.bool false])) w' :=
 ⟨_,by rw[h],(fun k=>by rw[h] at k;cases k),(fun _=>rfl),hb⟩
theorem form_any {w:World} {v:Value} {l:List Tp} (h:RSps w [v] (tB l)) (hl:l.length≤80000) (hD:zbl w):Calls Tryz.prog 99 #[v] w (zns l w):=by
 have hC:=IdxSpan.has_any zan (fun s=>!mayS (dS s)) 123 #[] znf h (zqs l hD)
 rw[zv2] at hC
 have hK:=fun (W:World) (k:Below w.heap.size w W)=>zpm (za3 zan _ _ _ _ h k) (by rw[List.length_map];omega)
 obtain⟨a,cap,rfl⟩:=zcq h
 obtain⟨n,hn⟩ : ∃ n,n=(tB l).length:=⟨_,rfl⟩
 have hnl:n=l.length:=by rw[hn,List.length_map]
 rw[← hn] at hC hK h ⊢
 have hn1:n≤80000:=by omega
 obtain⟨p,hp⟩ : ∃ p,p=zt2 (tB l):=⟨_,rfl⟩
 rw[← hp] at hC
 cases p with
 | false =>
  have hno:zg8 l=false:=by unfold zg8;rw[← hp];rfl
  obtain⟨Hh,HC,HK,Hn,Hnl,Hp,HD,Hno⟩:=hd8 h hC hK hn hnl hp hD hno;clear h hC hK hn hnl hp hD hno
  go_enter Tryz.func99,Tryz.ntmps99
  go_wp2_with fail
  refine HC.out.mono ?_
  rintro e w1 ⟨rfl,hb1⟩
  have Hb1:=hd hb1;clear hb1
  go_wp2_with fail
  go_ret2
  exact form_no Hno.out Hb1.out
 | true =>
  obtain⟨Hh,HC,HK,Hn,Hnl,Hp,HD⟩:=hd7 h hC hK hn hnl hp hD;clear h hC hK hn hnl hp hD
  go_enter Tryz.func99,Tryz.ntmps99
  go_wp2_with fail
  refine HC.out.mono ?_
  rintro e w1 ⟨rfl,hb1⟩
  have hK1:=HK.out w1 hb1
  unfold zld at hK1
  obtain⟨Hb1,HK1⟩:=hd2 hb1 hK1;clear hb1 hK1
  go_wp2_with fail
  refine HK1.out.mono ?_
  rintro e w2 ⟨o,rfl,ho,hb2⟩
  have ho2:w2.ownsRow w1.heap.size 51 2 o l.length ((tB l).flatMap zax):=by rw[← Hnl.out];exact ho
  have hS:=zq4 ho2 hb2 (HD.out.below Hb1.out) (by have:=Hnl.out;omega)
  rw[← Hnl.out] at hS
  obtain⟨oa,oc,rfl⟩:=zaa ho
  clear ho2
  obtain⟨Ho,Hb2,HS⟩:=hd3 ho hb2 hS;clear ho hb2 hS
  go_wp2_with fail
  refine HS.out.mono ?_
  rintro e w3 ⟨rfl,ho3,hb3⟩
  have hrl:=ztg l
  rw[← Hnl.out] at hrl
  obtain⟨R,hR⟩ : ∃ R,R=tB (zk2 l):=⟨_,rfl⟩
  rw[← hR] at ho3 hrl
  have hRs:zg9 R:=by rw[hR];exact zk3 _
  have hrd:RSps w3 [.slice oa n oc] R:=zi4 (fun x hx=>by have:=hRs x hx;unfold maxLen;omega) (by rw[hrl];exact ho3)
  have hat:=zrx hrd
  have hbw3:=Hb1.out.trans (hb3.mono Hb1.out.size)
  have hD3:=HD.out.below hbw3
  have hfr:zhk R=zhc l:=by rw[hR];rfl
  obtain⟨Ho3,Hb3,Hrl,HR,HRs,Hrd,Hat,Hbw3,HD3,Hfr⟩:=hd10 ho3 hb3 hrl hR hRs hrd hat hbw3 hD3 hfr;clear ho3 hb3 hrl hR hRs hrd hat hbw3 hD3 hfr
  go_upto_region 6 with (fail)
  have hM0:Mrg w3 w3.heap.size [] (w3.alloc (.cells #[.slice none 0 0,.func (.func 128) #[] #[],.func (.func 129) #[] #[]] 186)):=⟨_,heap_alloc_new _ _,World.ownsRow_nil _ _ _ _,za2 _ _,Nat.le_refl _⟩
  have HM0:=hd hM0;clear hM0
  go_wp2_with fail
  go_loopw [17] (fun i wr=>∃ k:Nat,k≤n∧i = .int .i64 k∧Mrg w3 w3.heap.size (zhk (R.take k)) wr) (fun i _=>n - (RowKit.intOf i).toNat)
  case atStart=>exact⟨0,Nat.zero_le _,rfl,HM0.out⟩
  case round =>
   obtain⟨k,hk,rfl,hM⟩:=hrel
   have hbr:Below w3.heap.size w3 wr:=by obtain⟨_,_,_,hb,_⟩:=hM;exact hb
   by_cases hlt:k < n
   ·have hkR:k < R.length:=by have:=Hrl.out;omega
    obtain⟨y,hy⟩ : ∃ y,y=R[k]:=⟨_,rfl⟩
    obtain⟨b,off,rfl,c0,c1⟩:=Hat.out k y (by rw[hy];exact List.getElem?_eq_getElem hkR)
    have d0:=cell_later hbr c0
    have d1:=cell_later hbr c1
    have hys:=HRs.out y (by rw[hy];exact List.getElem_mem hkR)
    have hnext:=zu7 hkR
    rw[← hy] at hnext
    obtain⟨O,hO⟩ : ∃ O,O=zhk (R.take k):=⟨_,rfl⟩
    rw[← hO] at hM hnext
    have hOs:zg9 O:=by rw[hO];exact zhq _ _ (fun z hz=>by simp at hz) fun z hz=>HRs.out z (List.mem_of_mem_take hz)
    have hOl:O.length≤100000:=by rw[hO];have:=zki R k;omega
    obtain⟨y1,y2⟩:=y
    have hA:=zn4 (hM.below (za2 wr (.cells #[.string y1,.string y2] 51))) hOs hOl (y1,y2) hys HD3.out
    have k5:(0:Int)≤(k:Int):=by omega
    have k6:(k:Int) < (n:Int):=by omega
    clear c0 c1
    obtain⟨HM,Hbr,Hy,Hys,Hnext,HO,HOs,HA⟩:=hd8 hM hbr hy hys hnext hO hOs hA;clear hM hbr hy hys hnext hO hOs hA
    go_wp2_with fail
    refine HA.out.mono ?_
    rintro e w5 ⟨rfl,hM5⟩
    rw[← Hnext.out] at hM5
    have HM5:=hd hM5;clear hM5
    go_wp2_with fail
    go_roundw
    case rel=>exact⟨k+1,by omega,by go_num,HM5.out⟩
    case measure=>simp[RowKit.intOf];omega
   obtain rfl:k=n:=by omega
   rw[List.take_of_length_le (Nat.le_of_eq Hrl.out),Hfr.out] at hM
   obtain⟨ov,hx,hown,_,_⟩:=hM
   obtain⟨c0,_,_,_⟩:=zc8 hx
   obtain⟨oa2,oc2,rfl⟩:=zaa hown
   have hbw:=Hbw3.out.trans (hbr.mono Hbw3.out.size)
   obtain⟨q,hq⟩ : ∃ q,q=(zhc l).length:=⟨_,rfl⟩
   have hown2:=zdg hown Hbw3.out.size
   rw[← hq] at c0
   by_cases h16:16 < q
   ·have kk:decide ((16:Int) < (q:Int))=true:=decide_eq_true (by omega)
    have hno:zg8 l=false:=by unfold zg8;rw[← Hp.out,← hq,decide_eq_false (by omega)];rfl
    obtain⟨Hx,Hown,Hown2,Hbw,Hq,Hno,Hbr⟩:=hd7 hx hown hown2 hbw hq hno hbr;clear hx hown hown2 hbw hq hno hbr
    go_wp2_with fail
    go_ret2
    exact form_no Hno.out Hbw.out
   have kk:decide ((16:Int) < (q:Int))=false:=decide_eq_false (by omega)
   have hyes:zg8 l=true:=by unfold zg8;rw[← Hp.out,← hq,decide_eq_true (by omega)];rfl
   obtain⟨Hx,Hown,Hown2,Hbw,Hq,Hyes,Hbr⟩:=hd7 hx hown hown2 hbw hq hyes hbr;clear hx hown hown2 hbw hq hyes hbr
   go_wp2_with fail
   go_ret2
   exact⟨.slice oa2 q oc2,(by rw[Hyes.out];rfl),(fun _=>by have h9:=Hown2.out;rw[← Hq.out] at h9 ⊢;exact h9),(fun k=>by rw[Hyes.out] at k;cases k),Hbw.out⟩
end

section
open Go.Shelf Go.RowKit Go.Lib Go.Sort SortM VerN
theorem zcb:Elem Tryz.prog 41 9 (.string ⟨#[]⟩) 1 16:=⟨Tryz.underlying41,by kernel_rfl,rfl,by decide⟩
def zdl (s:BSp):ByteArray:=txS s.1 s.2
theorem zkd {s:BSp} (h:s.1.size≤9000∧s.2.size≤9000):(zdl s).size≤18001:=by
 unfold zdl txS
 split
 ·have:=txR_size s.1 s.2;omega
 decide
def joinF (F:List BSp):ByteArray:=⟨(Lib.join ((F.map zdl).map (·.data.toList)) [44]).toArray⟩
theorem zn9 (B:Nat):∀ (L:List (List UInt8)),(∀ x∈L,x.length≤B)→Lib.lens L≤B * L.length
 | [],_=>by simp[Lib.lens]
 | x :: L,h=>by
  have h1:=zn9 B L fun y hy=>h y (by simp[hy])
  have h2:=h x (by simp)
  simp only[Lib.lens,List.map_cons,List.sum_cons,List.length_cons] at *
  rw[Nat.mul_add]
  omega
theorem zug {F:List BSp} (h:zg9 F) (hl:F.length≤80000):(Lib.join ((F.map zdl).map (·.data.toList)) [44]).length≤140737488355328:=by
 have hb:∀ x∈(F.map zdl).map (·.data.toList),x.length≤18001:=by
  intro x hx
  obtain⟨y,hy,rfl⟩:=List.mem_map.1 hx
  obtain⟨z,hz,rfl⟩:=List.mem_map.1 hy
  rw[Txt.len]
  exact zkd (h z hz)
 have h1:=zn9 18001 _ hb
 have h2:((F.map zdl).map (·.data.toList)).length≤80000:=by simpa using hl
 obtain⟨L,hL⟩ : ∃ L,L=(F.map zdl).map (·.data.toList):=⟨_,rfl⟩
 rw[← hL] at h1 h2 ⊢
 cases L with
 | nil=>simp[Lib.join_nil]
 | cons x r =>
  rw[Lib.join_length]
  simp only[List.length_cons,List.length_nil] at *
  omega
def zdd (l:List Tp):ByteArray:=if zg8 l=false then ⟨#[]⟩ else if (zhc l).length=0 then ⟨#[33]⟩ else joinF (zhc l)
theorem zk4 (l:List Tp):zg9 (zhc l):=zhq _ _ (fun z hz=>by simp at hz) (zk3 _)
theorem zqi {F:List BSp} {k:Nat} (h:k < F.length):((F.take (k+1)).map fun s=>Value.string (zdl s))=((F.take k).map fun s=>Value.string (zdl s)) ++ [Value.string (zdl F[k])]:=by
 rw[List.take_succ_eq_append_getElem h,List.map_append];rfl
theorem zjy {w:World} {v:Value} {l:List Tp} (h:RSps w [v] (tB l)) (hl:l.length≤80000) (hD:zbl w):Calls Tryz.prog 68 #[v] w fun e w'=>e = .returned (.string (zdd l))∧Below w.heap.size w w':=by
 have hF:=form_any h hl hD
 unfold zns at hF
 obtain⟨a,cap,rfl⟩:=zcq h
 obtain⟨ok,hok⟩ : ∃ b,b=zg8 l:=⟨_,rfl⟩
 obtain⟨n,hn⟩ : ∃ n,n=(tB l).length:=⟨_,rfl⟩
 obtain⟨F,hFF⟩ : ∃ F,F=zhc l:=⟨_,rfl⟩
 rw[← hok,← hFF] at hF
 rw[← hn] at hF h ⊢
 cases ok with
 | false =>
  have ht:zdd l=⟨#[]⟩:=by unfold zdd;rw[if_pos hok.symm]
  rw[ht]
  obtain⟨Hh,HF,Hok,Hn,HFF,HD,Ht⟩:=hd7 h hF hok hn hFF hD ht;clear h hF hok hn hFF hD ht
  go_enter Tryz.func68,Tryz.ntmps68
  go_wp2_with fail
  refine HF.out.mono ?_
  rintro e w1 ⟨o,rfl,_,ho,hb1⟩
  obtain⟨Ho,Hb1⟩:=hd2 ho hb1;clear ho hb1
  go_wp2_with fail
  go_ret
  exact⟨rfl,Hb1.out⟩
 | true =>
  have hlen:F.length≤80000:=by rw[hFF];have:=zsq l;omega
  have hFs:zg9 F:=by rw[hFF];exact zk4 l
  obtain⟨Hh,HF,Hok,Hn,HFF,HD,HFs⟩:=hd7 h hF hok hn hFF hD hFs;clear h hF hok hn hFF hD hFs
  go_enter Tryz.func68,Tryz.ntmps68
  go_wp2_with fail
  refine HF.out.mono ?_
  rintro e w1 ⟨o,rfl,ho,_,hb1⟩
  have ho:=ho trivial
  obtain⟨oa,oc,rfl⟩:=zaa ho
  have hrd:RSps w1 [.slice oa F.length oc] F:=zi4 (fun x hx=>by have:=HFs.out x hx;unfold maxLen;omega) ho
  have hat:=zrx hrd
  obtain⟨q,hq⟩ : ∃ q,q=F.length:=⟨_,rfl⟩
  rw[← hq] at hlen ⊢
  by_cases h0:q=0
  ·subst h0
   have ht:zdd l=⟨#[33]⟩:=by unfold zdd;rw[if_neg (by rw[← Hok.out];simp),← HFF.out,if_pos hq.symm]
   obtain⟨Ho,Hb1,Hrd,Hat,Hq,Ht⟩:=hd6 ho hb1 hrd hat hq ht;clear ho hb1 hrd hat hq ht
   go_wp2_with fail
   go_ret
   exact⟨by rw[Ht.out];rfl,Hb1.out⟩
  have k0:((q:Int) == 0)=false:=by rw[beq_eq_false_iff_ne];omega
  have ht:zdd l=joinF F:=by unfold zdd;rw[if_neg (by rw[← Hok.out];simp),← HFF.out,if_neg (by rw[← hq];exact h0)]
  have hr0:w1.ownsRow w1.heap.size 9 1 (.slice none 0 0) 0 ((F.take 0).map fun s=>Value.string (zdl s)):=World.ownsRow_nil _ _ _ _
  obtain⟨Ho,Hb1,Hrd,Hat,Hq,Ht,Hr0⟩:=hd7 ho hb1 hrd hat hq ht hr0;clear ho hb1 hrd hat hq ht hr0
  go_wp2_with fail
  go_loopw [5,22] (fun v i wr=>∃ k:Nat,k≤q∧i = .int .i64 k∧wr.ownsRow w1.heap.size 9 1 v k ((F.take k).map fun s=>Value.string (zdl s))∧Below w1.heap.size w1 wr) (fun _ i _=>q - (RowKit.intOf i).toNat)
  case atStart=>exact⟨0,Nat.zero_le _,rfl,Hr0.out,Below.refl _ _⟩
  case round =>
   obtain⟨k,hk,rfl,hrow,hbr⟩:=hrel
   obtain⟨ra,rc,rfl⟩:=zaa hrow
   by_cases hlt:k < q
   ·have hkF:k < F.length:=by have:=Hq.out;omega
    obtain⟨y,hy⟩ : ∃ y,y=F[k]:=⟨_,rfl⟩
    obtain⟨b,off,rfl,c0,c1⟩:=Hat.out k y (by rw[hy];exact List.getElem?_eq_getElem hkF)
    have d0:=cell_later hbr c0
    have d1:=cell_later hbr c1
    have hys:=HFs.out y (by rw[hy];exact List.getElem_mem hkF)
    have hnext:=zqi hkF
    rw[← hy] at hnext
    obtain⟨N,hN⟩ : ∃ N,N=(F.take k).map fun s=>Value.string (zdl s):=⟨_,rfl⟩
    rw[← hN] at hrow hnext
    obtain⟨y1,y2⟩:=y
    have hba:Below wr.heap.size wr (wr.alloc (.cells #[.string y1,.string y2] 51)):=za2 _ _
    have hbw:=Hb1.out.trans ((hbr.trans (hba.mono hbr.size)).mono Hb1.out.size)
    have hT:=zgc y1 y2 (by have:=hys.1;simp only at this;omega) (by have:=hys.2;simp only at this;omega) (HD.out.below hbw)
    obtain⟨P,hP⟩ : ∃ P,P=txS y1 y2:=⟨_,rfl⟩
    rw[← hP] at hT
    have hPp:zdl (y1,y2)=P:=hP.symm
    rw[hPp] at hnext
    have k5:(0:Int)≤(k:Int):=by omega
    have k6:(k:Int) < (q:Int):=by omega
    clear c0 c1
    obtain⟨Hrow,Hbr,Hy,Hys,Hnext,HN,Hba,Hbw,HT,HP,HPp⟩:=hd11 hrow hbr hy hys hnext hN hba hbw hT hP hPp;clear hrow hbr hy hys hnext hN hba hbw hT hP hPp
    go_wp2_with fail
    refine HT.out.mono ?_
    rintro e w5 ⟨rfl,hb5⟩
    have hb15:=Hbr.out.trans ((Hba.out.trans (hb5.mono Hba.out.size)).mono Hbr.out.size)
    have hrow5:=zab (zab Hrow.out Hba.out) hb5
    have hz5:=hb15.size
    obtain⟨Hb5,Hb15,Hrow5⟩:=hd3 hb5 hb15 hrow5;clear hb5 hb15 hrow5
    go_wp2_with (at_builtin;(refine zaw zcb rfl (.tmp 26) (.tmp 29) rfl w1.heap.size (.slice ra k rc) k N rfl Hrow5.out 1 #[.string P] rfl rfl (by simp[Value.oneCell']) (by omega) (by unfold maxLen;omega) (by omega) ?_;intro v9 w9 hown9 hg9 hm9;obtain⟨a9,c9,rfl⟩:=zaa hown9;have hb9:=(zch Hb15.out Hrow5.out (Nat.le_refl _) hg9 (by omega):Below w1.heap.size w1 w9);obtain⟨Hown9,Hb9⟩:=hd2 hown9 hb9;clear hown9 hg9 hm9 hb9))
    go_roundw
    case rel=>exact⟨k+1,by omega,by go_num,by rw[Hnext.out];exact Hown9.out,Hb9.out⟩
    case measure=>(simp[RowKit.intOf]) <;> omega
   obtain rfl:k=q:=by omega
   rw[List.take_of_length_le (Nat.le_of_eq Hq.out.symm)] at hrow
   obtain⟨gr,rc2,hra⟩ : ∃ g c,Value.slice ra k rc = .slice (some ⟨g,0,none⟩) k c:=by
    rcases hrow.2 with⟨h1,h2⟩ | ⟨g,cap,_,h1,_⟩
    ·omega
    exact⟨_,cap,h1⟩
   injection hra with hra _ hrc
   subst hra hrc
   have hJ:=Tryz.strings_Join gr 0 rc (F.map zdl) ⟨#[44]⟩ wr (fun j x hj=>by
    have hjl:=(List.getElem?_eq_some_iff.1 hj).1
    have:=hrow.cells (g:=gr) rfl j (.string x) (by
     rw[List.getElem?_map] at hj ⊢
     obtain⟨z,hz,rfl⟩:=Option.map_eq_some_iff.1 hj
     rw[hz];rfl)
    rw[Addr.add_lit] at this
    exact this) (hrow.lt gr rfl).2 (by rw[List.length_map];have:=Hq.out;omega) (by
     rw[List.length_map,← Hq.out]
     rcases hrow.2 with⟨e0,_⟩ | ⟨g',cap',cur,e0,_,_,hn9,_⟩
     ·cases e0
     injection e0 with _ _ e3
     omega) (zug HFs.out (by have:=Hq.out;omega))
   rw[List.length_map,← Hq.out] at hJ
   have hbw:=Hb1.out.trans (hbr.mono Hb1.out.size)
   obtain⟨T,hT⟩ : ∃ T,T=joinF F:=⟨_,rfl⟩
   have hJ2:Calls Tryz.prog 38 #[.slice (some ⟨gr,0,none⟩) k rc,.string ⟨#[44]⟩] wr fun e w'=>e = .returned (.string T)∧Below wr.heap.size wr w':=by rw[hT];exact hJ
   clear hJ
   obtain⟨Hrow,Hbr,Hbw,HT,HJ2⟩:=hd5 hrow hbr hbw hT hJ2;clear hrow hbr hbw hT hJ2
   go_wp2_with fail
   refine HJ2.out.mono ?_
   rintro e w6 ⟨rfl,hb6⟩
   have Hb6:=hd hb6;clear hb6
   go_wp2_with fail
   go_ret
   exact⟨by rw[Ht.out,← HT.out];rfl,Hbw.out.trans (Hb6.out.mono Hbw.out.size)⟩
end

section
open Go.RowKit Go.Lib VerN
set_option linter.unusedSimpArgs false
end

section
open Go.Shelf Go.RowKit Go.Lib Go.Sort SortM VerN
instance:Inhabited Tp:=⟨⟨(⟨#[]⟩,⟨#[]⟩),by decide⟩⟩
end

section
open Go.RowKit Go.Lib VerN
end

section
open SortM
end

section
open Go.Shelf Go.RowKit Go.Lib Go.Sort SortM VerN
structure Left (l L:List Tp):Prop where
 may:mayT L
 cov:∀ p,covT L p↔covT l p
 len:L.length≤l.length
theorem Left.step {l L M:List Tp} (h:Left l L) (hs:MStep L M):Left l M∧M.length < L.length:=by
 obtain⟨h1,h2,h3⟩:=zte h.may hs
 exact⟨⟨h1,fun p=>(h2 p).trans (h.cov p),by have:=h.len;omega⟩,by omega⟩
end

section
open Go.RowKit Go.Shelf Go.Lib VerN
attribute [local go_sem] Oper.semAt_some
def zka (pre:List ByteArray):List Value:=pre.flatMap fun p=>zax (spV p)
theorem ztn (pre:List ByteArray) (x:ByteArray):zka (pre ++ [x])=zka pre ++ zax (spV x):=by simp[zka]
theorem zoh (pre:List ByteArray):zka pre=(pre.map spV).flatMap zax:=by rw[List.flatMap_map];rfl
structure SI (w W:World) (pre:List ByteArray):Prop where
 bel:Below w.heap.size w W
 r2:W.heap[w.heap.size]? = some (.cells #[.slice none 0 0] 52 (0,0))
 r3:W.heap[w.heap.size+1]? = some (.cells #[.bool false] 4 (0,0))
 out:∃ v,W.heap[w.heap.size+1+1]? = some (.cells #[v] 52 (0,0))∧W.ownsRow (w.heap.size+6) 51 2 v pre.length (zka pre)
 ok:∀ p∈pre,spOk p.data.toList=true
structure SX (w W:World) (pre:List ByteArray):Prop where
 bel:Below w.heap.size w W
 r2:W.heap[w.heap.size]? = some (.cells #[.slice none 0 0] 52 (0,0))
 r3:W.heap[w.heap.size+1]? = some (.cells #[.bool false] 4 (0,0))
 bad:∃ p∈pre,spOk p.data.toList=false
theorem SI.own {w:World} {B:Nat} (hB:w.heap.size+6≤B):OwnFrom B (fun (pre:List ByteArray) W=>SI w W pre):=by
 rintro pre W W' row h hg hr
 have hr':∀ r,row=some r→B≤r:=fun r e=>(hr r e).1
 obtain⟨v,hv,hrow⟩:=h.out
 refine⟨h.bel.grown hg h.bel.size (fun k e=>by have:=hr' k e;omega),zd7 hg hr' (by omega) h.r2,zd7 hg hr' (by omega) h.r3,⟨v,zd7 hg hr' (by omega) hv,hrow.kept hg ?_⟩,h.ok⟩
 rcases hrow.2 with⟨rfl,_⟩ | ⟨g,cap,cur,rfl,_,hgb,_⟩
 ·exact .inl rfl
 refine .inr fun e'=>?_
 obtain⟨_,o,ho,hc⟩:=hr g (by simpa [Value.ownBlock] using e'.symm)
 rw[hgb] at ho
 cases ho
 cases hc
theorem SX.own {w:World} {B:Nat} (hB:w.heap.size+6≤B):OwnFrom B (fun (pre:List ByteArray) W=>SX w W pre):=by
 rintro pre W W' row h hg hr
 have hr':∀ r,row=some r→B≤r:=fun r e=>(hr r e).1
 exact⟨h.bel.grown hg h.bel.size (fun k e=>by have:=hr' k e;omega),zd7 hg hr' (by omega) h.r2,zd7 hg hr' (by omega) h.r3,h.bad⟩
theorem SI.lets (w:World):Lets (w.heap.size+1+1+1) (fun (pre:List ByteArray) W=>SI w W pre):=by
 rintro pre W i u h
 obtain⟨v,hv,hrow⟩:=h.out
 exact⟨h.bel.setCell (p:=⟨w.heap.size+1+1+1,i,none⟩) (by show w.heap.size≤w.heap.size+1+1+1;omega) _,za5 h.r2 (by omega),za5 h.r3 (by omega),⟨v,za5 hv (by omega),zev hrow (by omega) i u⟩,h.ok⟩
theorem SX.lets (w:World):Lets (w.heap.size+1+1+1) (fun (pre:List ByteArray) W=>SX w W pre):=by
 rintro pre W i u h
 exact⟨h.bel.setCell (p:=⟨w.heap.size+1+1+1,i,none⟩) (by show w.heap.size≤w.heap.size+1+1+1;omega) _,za5 h.r2 (by omega),za5 h.r3 (by omega),h.bad⟩
theorem SI.size {w W:World} {pre:List ByteArray} (h:SI w W pre) (hs:w.heap.size+6≤W.heap.size):∀ k,sb w k→k < W.heap.size:=by
 rintro k (rfl | rfl | rfl) <;> omega
theorem SI.add {w W W3 w1:World} {pre:List ByteArray} {x:ByteArray} {tmp:Obj} {B:Nat} (h:SI w W pre) (hs:w.heap.size+6≤W.heap.size) (hb:Below W.heap.size W W3) {v v':Value}
  (hv:W.heap[w.heap.size+1+1]? = some (.cells #[v] 52 (0,0))) (hrow:W.ownsRow (w.heap.size+6) 51 2 v pre.length (zka pre))
  (hown:w1.ownsRow (w.heap.size+6) 51 2 v' (pre.length+1) (zka pre ++ zax (spV x))) (hg:(W3.alloc tmp).grownBy w1 v.ownBlock) (hx:spOk x.data.toList=true) :
  KeepsFrom B W (w1.setCell ⟨w.heap.size+1+1,0,none⟩ v')∧zfp (sb w) W (w1.setCell ⟨w.heap.size+1+1,0,none⟩ v')∧SI w (w1.setCell ⟨w.heap.size+1+1,0,none⟩ v') (pre ++ [x])∧w1.heap[w.heap.size+1+1]? = some (.cells #[v] 52 (0,0))∧w.heap.size+6≤(w1.setCell ⟨w.heap.size+1+1,0,none⟩ v').heap.size:=by
 have hb3:Below W.heap.size W (W3.alloc tmp):=hb.alloc hb.size _
 have hrow3:(W3.alloc tmp).ownsRow (w.heap.size+6) 51 2 v pre.length (zka pre):=zab hrow hb3
 have old:∀ {k:Nat} {o:Obj},k < w.heap.size+6→W.heap[k]? = some o→w1.heap[k]? = some o:=fun {k o} hk ho =>
  (hg.block k (by have:=hb3.size;have:=(Array.getElem?_eq_some_iff.1 ho).1;omega) (fun e=>by have:=(hrow3.lt k e.symm).1;omega)).trans (za1 hb3 ho)
 refine⟨?_,?_,⟨?_,za5 (old (by omega) h.r2) (by omega),za5 (old (by omega) h.r3) (by omega),⟨v',heap_setCell_same _ _ 0 _ _ _ (old (by omega) hv),?_⟩,?_⟩,old (by omega) hv,by have:=hg.size;have:=hb3.size;simp[World.setCell];omega⟩
 ·have k1:KeepsFrom B W (W3.alloc tmp):=zdr hb3
  have k2:KeepsFrom B (W3.alloc tmp) w1:=⟨hg.size,fun k o _ hk hc=>(hg.block k (Array.getElem?_eq_some_iff.1 hk).1 (fun e=>by
   obtain⟨cs,hcs⟩:=zcf hrow3 k e.symm
   rw[hcs] at hk
   cases hk
   cases hc)).trans hk⟩
  exact (k1.trans k2).trans ((KeepsOthers.setCell _ _ _).from B)
 ·intro k hk
  have hlt:=h.size hs k hk
  have hlt6:k < w.heap.size+6:=by rcases hk with rfl | rfl | rfl <;> omega
  have hne:k≠w.heap.size+1+1:=by rcases hk with h | h | h <;> omega
  rw[Below.heap_setCell _ _ _ _ hne]
  cases ho:W.heap[k]? with
  | none=>exact absurd ho (by rw[Array.getElem?_eq_getElem hlt];simp)
  | some o=>exact old hlt6 ho
 ·exact ((h.bel.trans (hb3.mono h.bel.size)).grown hg (by have:=hb3.size;have:=h.bel.size;omega) (fun k e=>by have:=(hrow3.lt k e).1;omega)).setCell (p:=⟨w.heap.size+1+1,0,none⟩) (by show w.heap.size≤w.heap.size+1+1;omega) _
 ·rw[ztn,List.length_append]
  exact zev hown (by omega) 0 v'
 intro p hp
 rcases List.mem_append.1 hp with hp | hp
 ·exact h.ok p hp
 rw[List.mem_singleton] at hp;subst hp;exact hx
theorem SI.no {w W W3:World} {pre:List ByteArray} {x:ByteArray} {B:Nat} (h:SI w W pre) (hs:w.heap.size+6≤W.heap.size) (hb:Below W.heap.size W W3) (hx:spOk x.data.toList=false) :
  KeepsFrom B W ((W3.setCell ⟨w.heap.size,0,none⟩ (.slice none 0 0)).setCell ⟨w.heap.size+1,0,none⟩ (.bool false))∧SX w ((W3.setCell ⟨w.heap.size,0,none⟩ (.slice none 0 0)).setCell ⟨w.heap.size+1,0,none⟩ (.bool false)) (pre ++ [x]):=by
 refine⟨((zdr hb).trans ((KeepsOthers.setCell _ _ _).from B)).trans ((KeepsOthers.setCell _ _ _).from B),?_,?_,?_,?_⟩
 ·exact (((h.bel.trans (hb.mono h.bel.size)).setCell (p:=⟨w.heap.size,0,none⟩) (Nat.le_refl _) _).setCell (p:=⟨w.heap.size+1,0,none⟩) (by show w.heap.size≤w.heap.size+1;omega) _)
 ·exact za5 (heap_setCell_same _ _ 0 _ _ _ (za1 hb h.r2)) (by omega)
 ·exact heap_setCell_same _ _ 0 _ _ _ (za5 (za1 hb h.r3) (by omega))
 exact⟨x,by simp,hx⟩
def rdSp (t:ByteArray):List BSp:=(cutS 44 t).map spV
theorem spV_size (s:ByteArray):(spV s).1.size≤s.size∧(spV s).2.size≤s.size:=by
 have h:=zkt s
 have e:∀ l:List UInt8,(⟨l.toArray⟩ : ByteArray).size=l.length:=fun l=>rfl
 unfold spV spB
 split
 ·split
  ·exact⟨by rw[e];exact h.1,by rw[e];exact h.2⟩
  exact⟨by rw[e];exact h.1,by rw[e];exact h.1⟩
 exact⟨Nat.zero_le _,Nat.zero_le _⟩
theorem spV_small {p:ByteArray} (h:spOk p.data.toList=true):(spV p).1.size≤40∧(spV p).2.size≤40:=by
 have hm:mayS (spO p.data.toList)=true:=by
  have h2:=h
  unfold spOk at h2
  simp only[Bool.and_eq_true] at h2
  exact h2.1
 have h1:=zcw.1 hm
 have b40:∀ x:ByteArray,zcu x.data.toList=true→x.size≤40:=fun x hx=>by
  rw[← Txt.len]
  rcases bound_iff.1 hx with h | h
  ·rw[h];simp
  exact ((zfw _).1 h).2.1
 rw[← zmt p] at h1
 unfold spV
 rw[if_pos h]
 exact⟨b40 _ h1.1,b40 _ h1.2.1⟩
theorem rd_ok (t:ByteArray) (hok:∀ p∈cutS 44 t,spOk p.data.toList=true):∃ l:List Tp,tB l=rdSp t:=by
 have hs:∀ s∈cutS 44 t,(spV s).1.size≤9000∧(spV s).2.size≤9000:=fun s h=>by
  have h1:=spV_small (hok s h)
  omega
 refine⟨(cutS 44 t).pmap (fun s h=>(⟨spV s,h⟩ : Tp)) hs,?_⟩
 unfold rdSp tB
 rw[List.map_pmap]
 simp
theorem lit2 (w:World) (x y:Value) (t:TypeId) {n:Nat} (hn:w.heap.size=n):∀ j u,[x,y][j]? = some u→(w.alloc (.cells #[x,y] t)).cell? ((⟨n,0,none⟩ : Addr).add j)=some u:=by
 intro j u hu
 subst hn
 rw[Addr.add_lit,Nat.zero_add,World.cell?_alloc_new]
 simpa using hu
def RdPost (t:ByteArray) (w:World) (e:Ending) (w':World):Prop :=
 ((∃ v,e = .returned (.tuple #[v,.bool true])∧((t=⟨#[33]⟩∧v = .slice none 0 0)∨(t≠⟨#[33]⟩∧(∀ p∈cutS 44 t,spOk p.data.toList=true)∧(∀ l,tB l=rdSp t→zdd l=t)∧w'.ownsRow w.heap.size 51 2 v (rdSp t).length ((rdSp t).flatMap zax)))) ∨
  (e = .returned (.tuple #[.slice none 0 0,.bool false])∧t≠⟨#[33]⟩∧((∃ p∈cutS 44 t,spOk p.data.toList=false)∨∀ l,tB l=rdSp t→zdd l≠t)))∧Below w.heap.size w w'
theorem info_span:(Tryz.prog.info? 51).map (fun i=>(i.zero,i.size,i.bytes))=some (some (.agg #[.string ⟨#[]⟩,.string ⟨#[]⟩]),2,32):=by kernel_rfl
theorem zq3 (s:ByteArray) (hs:s.size≤70000) {w:World} (hD:zbl w):Calls Tryz.prog 119 #[.string s] w (RdPost s w):=by
 refine (callsIn_wide (n:=8)).1 ?_
 refine callsIn_of_wp_marks Tryz.func119 rfl trivial ?_ rfl
 simp only[Tryz.ntmps119,List.size_toArray,List.length_cons,List.length_nil,Nat.reduceAdd,Nat.reduceSub,Array.replicate_succ,Array.replicate_zero,List.push_toArray,List.append_toArray,List.nil_append,List.cons_append]
 have e33:(⟨#[33]⟩ : ByteArray).toList = [33]:=by rw[Lib.toList_data]
 by_cases h0:s=⟨#[33]⟩
 ·have k1:(s.toList == [33])=true:=by rw[← e33,Txt.eq_dec,decide_eq_true h0]
  clear e33
  obtain⟨HD,H0⟩:=hd2 hD h0;clear hD h0
  gi_wp2
  refine⟨_,zc2 rfl rfl rfl (za1 (za2 _ _) (za1 (za2 _ _) (za9 rfl))) (za1 (za2 _ _) (za9 (by simp))) (Tryz.isAgg52 _) (Tryz.isAgg4 _),?_⟩
  exact⟨.inl ⟨_,rfl,.inl ⟨H0.out,rfl⟩⟩,(((Below.refl _ w).alloc (Nat.le_refl _) _).alloc (by simp) _).alloc (by simp;omega) _⟩
 have k1:(s.toList == [33])=false:=by rw[← e33,Txt.eq_dec,decide_eq_false h0]
 clear e33
 have hq:=ziz s 44 (((w.alloc (.cells #[.slice none 0 0] 52)).alloc (.cells #[.bool false] 4)).alloc (.cells #[.slice none 0 0] 52))
 obtain⟨Hq,HD,H0⟩:=hd3 hq hD h0;clear hq hD h0
 gi_wp2
 refine⟨trivial,(callsIn_wide.2 Hq.out).mono ?_⟩
 rintro e w2 ⟨rfl,rfl⟩
 gi_wp2
 have hsb:SBox (w.heap.size+1+1+1) (w.heap.size+1+1+1+1) (w.heap.size+1+1+1+1+1) 44 s ((((((w.alloc (.cells #[.slice none 0 0] 52)).alloc (.cells #[.bool false] 4)).alloc (.cells #[.slice none 0 0] 52)).alloc (.cells #[.string s] 9)).alloc (.cells #[.string ⟨#[44]⟩] 9)).alloc (.cells #[.int .i64 0] 3)):=by
  have a1:=za9 (w:=(((w.alloc (.cells #[.slice none 0 0] 52)).alloc (.cells #[.bool false] 4)).alloc (.cells #[.slice none 0 0] 52))) (o:=.cells #[.string s] 9) (n:=w.heap.size+1+1+1) (by simp)
  have a2:=za9 (w:=((((w.alloc (.cells #[.slice none 0 0] 52)).alloc (.cells #[.bool false] 4)).alloc (.cells #[.slice none 0 0] 52)).alloc (.cells #[.string s] 9))) (o:=.cells #[.string ⟨#[44]⟩] 9) (n:=w.heap.size+1+1+1+1) (by simp)
  have a3:=za9 (w:=(((((w.alloc (.cells #[.slice none 0 0] 52)).alloc (.cells #[.bool false] 4)).alloc (.cells #[.slice none 0 0] 52)).alloc (.cells #[.string s] 9)).alloc (.cells #[.string ⟨#[44]⟩] 9))) (o:=.cells #[.int .i64 0] 3) (n:=w.heap.size+1+1+1+1+1) (by simp)
  exact⟨za1 (za2 _ _) (za1 (za2 _ _) a1),za1 (za2 _ _) a2,a3⟩
 obtain⟨W0,hW0⟩ : ∃ W0,W0=((((((w.alloc (.cells #[.slice none 0 0] 52)).alloc (.cells #[.bool false] 4)).alloc (.cells #[.slice none 0 0] 52)).alloc (.cells #[.string s] 9)).alloc (.cells #[.string ⟨#[44]⟩] 9)).alloc (.cells #[.int .i64 0] 3)):=⟨_,rfl⟩
 have hs0:W0.heap.size=w.heap.size+6:=by rw[hW0];simp
 rw[← hW0] at hsb ⊢
 have hSI:SI w W0 []:=by
  rw[hW0]
  have k1:∀ {w':World} {o:Obj} {k:Nat} {o':Obj},w'.heap[k]? = some o→(w'.alloc o').heap[k]? = some o:=fun h=>za1 (za2 _ _) h
  refine⟨(((((((Below.refl _ w).alloc (Nat.le_refl _) _).alloc (by simp) _).alloc (by simp;omega) _).alloc (by simp;omega) _).alloc (by simp;omega) _).alloc (by simp;omega) _),k1 (k1 (k1 (k1 (k1 (za9 rfl))))),k1 (k1 (k1 (k1 (za9 (by simp))))),⟨_,k1 (k1 (k1 (za9 (by simp)))),World.ownsRow_nil _ _ _ _⟩,(fun p hp=>by cases hp)⟩
 have HW0:=hd hW0;clear hW0
 refine zhe rfl (by omega) (gf:=zp8) rfl trivial (enters_of Tryz.func172 (by kernel_rfl) rfl) (zjz 7 (by omega) _ _ _ 44 s (by omega) W0 (by omega) (by omega) (by omega) (by omega) (by omega) hsb)
  (fun k hk=>by rcases hk with h | h | h <;> omega) (by omega) (Below.refl _ _) rfl
  (fun pre W=>w.heap.size+6≤W.heap.size∧SI w W pre) (fun pre W=>w.heap.size+6≤W.heap.size∧SX w W pre) (OwnFrom.and (zfa _) (SI.own (by omega))) (OwnFrom.and (zfa _) (SX.own (by omega))) (fun pre W i u h=>⟨by simp[World.setCell];exact h.1,SI.lets w pre W i u h.2⟩) (fun pre W i u h=>⟨by simp[World.setCell];exact h.1,SX.lets w pre W i u h.2⟩) ⟨by omega,hSI⟩
  (fun x=>{ tmps:=#[.string s,undef,.pointer (some ⟨w.heap.size,0,none⟩),.pointer (some ⟨w.heap.size+1,0,none⟩),.pointer (some ⟨w.heap.size+1+1,0,none⟩),.string x,undef,undef,.string s,.bool false,.string s,
   .func (.func zp8) #[] #[.pointer (some ⟨w.heap.size+1+1+1+1,0,none⟩),.pointer (some ⟨w.heap.size+1+1+1,0,none⟩),.pointer (some ⟨w.heap.size+1+1+1+1+1,0,none⟩)],.string x,undef,undef,undef,undef,undef,undef,undef,undef,undef,undef,undef,undef,undef,undef,undef,undef],defers:=[] }) ?assign ?body ?done ?stop
 case assign =>
  intro l x W K hK
  gi_wp2
  exact hK
 case body =>
  rintro l pre x W ⟨hsz,h⟩ ⟨hx,hpx⟩
  obtain⟨v,hv,hrow⟩:=h.out
  obtain⟨a,cap,rfl⟩:=zaa hrow
  have hR:=zo7 x (by omega) (HD.out.below h.bel)
  obtain⟨b,hb⟩ : ∃ b,b=spOk x.data.toList:=⟨_,rfl⟩
  obtain⟨y1,hy1⟩ : ∃ y,y=(spV x).1:=⟨_,rfl⟩
  obtain⟨y2,hy2⟩ : ∃ y,y=(spV x).2:=⟨_,rfl⟩
  have c0:W.cell? ⟨w.heap.size+1+1,0,none⟩=some (.slice a pre.length cap):=za0 hv 0
  rw[← hb,← hy1,← hy2] at hR
  have hpl:pre.length≤70000:=by
   have h1:=hpx.length_le
   have h2:(cutS 44 s).length≤s.size+1:=by rw[zif,← dlen s];exact (znk 44 _).2
   rw[List.length_append,List.length_singleton] at h1
   omega
  obtain⟨Hv,Hrow,HR,Hh,Hc0,Hx,Hpx,Hy1,Hy2⟩:=hd9 hv hrow hR h c0 hx hpx hy1 hy2;clear hv hrow hR h c0 hx hpx hy1 hy2
  gi_wp2
  refine⟨trivial,(CallsIn.inRound l (callsIn_wide.2 HR.out)).mono ?_⟩
  rintro e W2 ⟨rfl,hb2⟩
  have hb3:Below W.heap.size W (W2.alloc (.cells #[.string y1,.string y2] 51)):=hb2.alloc hb2.size _
  have r2:=za1 hb3 Hh.out.r2
  have r3:=za1 hb3 Hh.out.r3
  have d0:(W2.alloc (.cells #[.string y1,.string y2] 51)).cell? ⟨w.heap.size+1+1,0,none⟩=some (.slice a pre.length cap):=cell_later hb3 Hc0.out
  have d1:(W2.alloc (.cells #[.string y1,.string y2] 51)).cell? ⟨w.heap.size,0,none⟩=some (.slice none 0 0):=za0 r2 0
  have d2:(W2.alloc (.cells #[.string y1,.string y2] 51)).cell? ⟨w.heap.size+1,0,none⟩=some (.bool false):=za0 r3 0
  have f1:=za8 r2 0
  have f2:=za8 r3 0
  obtain⟨Hb2,Hb3,Hr2,Hr3,Hb⟩:=hd5 hb2 hb3 r2 r3 hb;clear hb2 hb3 r2 r3 hb
  clear Hq
  cases b with
  | false =>
   have hno:=Hh.out.no (B:=W0.heap.size) hsz Hb3.out Hb.out.symm
   have hs3:w.heap.size+6≤(((W2.alloc (.cells #[.string y1,.string y2] 51)).setCell ⟨w.heap.size,0,none⟩ (.slice none 0 0)).setCell ⟨w.heap.size+1,0,none⟩ (.bool false)).heap.size:=by have:=Hb3.out.size;simp[World.setCell] at this ⊢;omega
   have Hno:=hd hno;clear hno
   gi_wp2
   exact⟨Hno.out.1,hs3,Hno.out.2⟩
  | true =>
   have hrow3:=zab Hrow.out Hb3.out
   obtain⟨i0,hi,hz0,hz1,hz2⟩:=info_parts info_span
   have hadd:=fun (w1:World) (v':Value)=>Hh.out.add (B:=W0.heap.size) hsz Hb3.out Hv.out Hrow.out (w1:=w1) (v':=v') (x:=x) (tmp:=.cells #[.string y1,.string y2] 51)
   have hsp:zax (spV x) = [.string y1,.string y2]:=by rw[Hy1.out,Hy2.out];rfl
   rw[hsp] at hadd
   have hz9:w.heap.size+6≤(W2.alloc (.cells #[.string y1,.string y2] 51)).heap.size:=by have:=Hb3.out.size;omega
   have g1:pre.length+1≤maxLen:=by unfold maxLen;omega
   have g2:(pre.length+1) * 32≤140737488355328:=by omega
   have g3:w.heap.size+6≤((W2.alloc (.cells #[.string y1,.string y2] 51)).alloc (.cells #[.string y1,.string y2] 51)).heap.size:=by simp at hz9 ⊢;omega
   have g4:=lit2 (W2.alloc (.cells #[.string y1,.string y2] 51)) (.string y1) (.string y2) 51 (n:=W2.heap.size+1) (by simp)
   have g5:∀ u∈[Value.string y1,.string y2],u.oneCell'=true:=by simp[Value.oneCell']
   obtain⟨Hrow3,Hsp,Hadd,Hz9,Hg1,Hg2,Hg3,Hg4,Hg5⟩:=hd9 hrow3 hsp hadd hz9 g1 g2 g3 g4 g5;clear hrow3 hsp hadd hz9 g1 g2 g3 g4 g5
   gi_wp2_with (gi_at_builtin;refine wpListIn_append_own _ rfl _ _ 52 rfl (w.heap.size+6) 51 i0 (.agg #[.string ⟨#[]⟩,.string ⟨#[]⟩]) 2 32 Tryz.underlying52 hi hz0 hz1 hz2 rfl (by decide) _ _ _ rfl (Hrow3.out.alloc _) ⟨W2.heap.size+1,0,none⟩ 1 1 [.string y1,.string y2] rfl rfl Hg4.out Hg5.out Hg1.out Hg2.out Hg3.out ?_;intro v' w1 hown' hgrow _;obtain⟨g',cap',rfl⟩:=ownsRow_succ hown';have hfin:=Hadd.out w1 _ hown' hgrow Hb.out.symm;clear hown' hgrow;refine Hid.out ?_)
   have e1:=za0 hfin.2.2.2.1 0
   have e2:=za8 hfin.2.2.2.1 0
   simp only[List.getElem?_toArray,List.getElem?_cons_zero] at e1
   have Hfin:=hd hfin;clear hfin
   refine Lib.hid ?_
   gi_wp2
   exact⟨Hfin.out.1,Hfin.out.2.1,Hfin.out.2.2.2.2,Hfin.out.2.2.1⟩
 case done =>
  rintro D ys W hD rfl ⟨hsz,h⟩ hK
  obtain⟨v,hv,hrow⟩:=h.out
  obtain⟨a,cap,rfl⟩:=zaa hrow
  have c0:W.cell? ⟨w.heap.size+1+1,0,none⟩=some (.slice a (cutS 44 s).length cap):=za0 hv 0
  obtain⟨l,hl⟩:=rd_ok s h.ok
  have hll:l.length=(cutS 44 s).length:=by have:=congrArg List.length hl;simpa [rdSp] using this
  have hn1:(cutS 44 s).length≤s.size+1:=by rw[zif,← dlen s];exact (znk 44 _).2
  have hrl:(rdSp s).length=(cutS 44 s).length:=by simp[rdSp]
  have hrd:RSps W [.slice a (cutS 44 s).length cap] (tB l):=by
   rw[hl]
   refine zi4 (B:=w.heap.size+6) (fun x hx=>?_) ?_
   ·obtain⟨p,hp,rfl⟩:=List.mem_map.1 hx
    have h1:=zus hp
    have h2:=spV_size p
    unfold maxLen;omega
   rw[hrl]
   have h3:=hrow
   rw[zoh] at h3
   exact h3
  have hT:=zjy hrd (by omega) (HD.out.below h.bel)
  have hall:=h.ok
  have hinj:∀ l',tB l'=rdSp s→l'=l:=fun l' h'=>(List.map_inj_right fun _ _ e=>Subtype.ext e).1 (h'.trans hl.symm)
  obtain⟨T,hTT⟩ : ∃ T,T=zdd l:=⟨_,rfl⟩
  rw[← hTT] at hT
  have k2:(T.toList == s.toList)=decide (T=s):=Txt.eq_dec _ _
  by_cases htx:T=s
  ·have k3:(T.toList == s.toList)=true:=by rw[k2,decide_eq_true htx]
   clear k2
   obtain⟨Hv,Hrow,Hh,HT,Hall,Hinj,HTT,Htx,Hrd,Hl,Hll,Hrl⟩:=hd12 hv hrow h hT hall hinj hTT htx hrd hl hll hrl;clear hv hrow h hT hall hinj hTT htx hrd hl hll hrl
   gi_wp2
   refine⟨trivial,(callsIn_wide.2 HT.out).mono ?_⟩
   rintro e W5 ⟨rfl,hb5⟩
   have r2:=za1 hb5 Hh.out.r2
   have r3:=za1 hb5 Hh.out.r3
   have hK5:=za1 hb5 hK
   have c5:=cell_later hb5 c0
   have hrow5:=zab Hrow.out hb5
   have c1:=za0 r2 0
   have c2:=za0 r3 0
   have f1:=za8 r2 0
   have f2:=za8 r3 0
   simp only[List.getElem?_toArray,List.getElem?_cons_zero] at c1 c2
   obtain⟨Hb5,Hr2,Hr3,Hrow5⟩:=hd4 hb5 r2 r3 hrow5;clear hb5 r2 r3 hrow5
   gi_wp2
   have hK2:((W5.setCell ⟨w.heap.size,0,none⟩ (.slice a (cutS 44 s).length cap)).setCell ⟨w.heap.size+1,0,none⟩ (.bool true)).heap[D]? = some (.deferred (some [])):=za5 (za5 hK5 (by omega)) (by omega)
   have x1:=za5 (b:=w.heap.size+1) (i:=0) (u:=.bool true) (heap_setCell_same W5 w.heap.size 0 _ _ (.slice a (cutS 44 s).length cap) Hr2.out) (by omega)
   have x2:=heap_setCell_same _ (w.heap.size+1) 0 _ _ (.bool true) (za5 (b:=w.heap.size) (i:=0) (u:=.slice a (cutS 44 s).length cap) Hr3.out (by omega))
   have hb9:Below w.heap.size w ((W5.setCell ⟨w.heap.size,0,none⟩ (.slice a (cutS 44 s).length cap)).setCell ⟨w.heap.size+1,0,none⟩ (.bool true)):=((Hh.out.bel.trans (Hb5.out.mono Hh.out.bel.size)).setCell (p:=⟨w.heap.size,0,none⟩) (Nat.le_refl _) _).setCell (p:=⟨w.heap.size+1,0,none⟩) (by show w.heap.size≤w.heap.size+1;omega) _
   have ho:((W5.setCell ⟨w.heap.size,0,none⟩ (.slice a (cutS 44 s).length cap)).setCell ⟨w.heap.size+1,0,none⟩ (.bool true)).ownsRow (w.heap.size+6) 51 2 (.slice a (cutS 44 s).length cap) (cutS 44 s).length (zka (cutS 44 s)):=zev (zev Hrow5.out (p:=w.heap.size) (by omega) 0 (.slice a (cutS 44 s).length cap)) (p:=w.heap.size+1) (by omega) 0 (.bool true)
   refine⟨by simp,.inl ⟨_,_,rfl,run_takeDeferred hK2,?_⟩⟩
   refine⟨_,zc2 rfl rfl rfl ((World.putObj_heap_other (by omega)).trans x1) ((World.putObj_heap_other (by omega)).trans x2) (Tryz.isAgg52 _) (Tryz.isAgg4 _),?_⟩
   refine⟨.inl ⟨_,rfl,.inr ⟨H0.out,Hall.out,fun l' h'=>by rw[Hinj.out l' h',← HTT.out,Htx.out],?_⟩⟩,hb9.trans (belowK_b (w:=w) (Nat.le_refl _) _ D _ _ (by omega) hK2 rfl rfl)⟩
   have e9:(rdSp s).flatMap zax=zka (cutS 44 s):=(zoh _).symm
   rw[e9,Hrl.out]
   exact zdg (ownsRow_putObj ho _ hK2 rfl) (by omega)
  have k3:(T.toList == s.toList)=false:=by rw[k2,decide_eq_false htx]
  clear k2
  obtain⟨Hv,Hrow,Hh,HT,Hall,Hinj,HTT,Htx,Hrd,Hl,Hll,Hrl⟩:=hd12 hv hrow h hT hall hinj hTT htx hrd hl hll hrl;clear hv hrow h hT hall hinj hTT htx hrd hl hll hrl
  gi_wp2
  refine⟨trivial,(callsIn_wide.2 HT.out).mono ?_⟩
  rintro e W5 ⟨rfl,hb5⟩
  have r2:=za1 hb5 Hh.out.r2
  have r3:=za1 hb5 Hh.out.r3
  have hK5:=za1 hb5 hK
  have c5:=cell_later hb5 c0
  have hrow5:=zab Hrow.out hb5
  have c1:=za0 r2 0
  have c2:=za0 r3 0
  have f1:=za8 r2 0
  have f2:=za8 r3 0
  simp only[List.getElem?_toArray,List.getElem?_cons_zero] at c1 c2
  obtain⟨Hb5,Hr2,Hr3,Hrow5⟩:=hd4 hb5 r2 r3 hrow5;clear hb5 r2 r3 hrow5
  gi_wp2
  have hK2:((W5.setCell ⟨w.heap.size,0,none⟩ (.slice none 0 0)).setCell ⟨w.heap.size+1,0,none⟩ (.bool false)).heap[D]? = some (.deferred (some [])):=za5 (za5 hK5 (by omega)) (by omega)
  have x1:=za5 (b:=w.heap.size+1) (i:=0) (u:=.bool false) (heap_setCell_same W5 w.heap.size 0 _ _ (.slice none 0 0) Hr2.out) (by omega)
  have x2:=heap_setCell_same _ (w.heap.size+1) 0 _ _ (.bool false) (za5 (b:=w.heap.size) (i:=0) (u:=.slice none 0 0) Hr3.out (by omega))
  have hb9:Below w.heap.size w ((W5.setCell ⟨w.heap.size,0,none⟩ (.slice none 0 0)).setCell ⟨w.heap.size+1,0,none⟩ (.bool false)):=((Hh.out.bel.trans (Hb5.out.mono Hh.out.bel.size)).setCell (p:=⟨w.heap.size,0,none⟩) (Nat.le_refl _) _).setCell (p:=⟨w.heap.size+1,0,none⟩) (by show w.heap.size≤w.heap.size+1;omega) _
  have ho:((W5.setCell ⟨w.heap.size,0,none⟩ (.slice none 0 0)).setCell ⟨w.heap.size+1,0,none⟩ (.bool false)).ownsRow (w.heap.size+6) 51 2 (.slice a (cutS 44 s).length cap) (cutS 44 s).length (zka (cutS 44 s)):=zev (zev Hrow5.out (p:=w.heap.size) (by omega) 0 (.slice none 0 0)) (p:=w.heap.size+1) (by omega) 0 (.bool false)
  refine⟨by simp,.inl ⟨_,_,rfl,run_takeDeferred hK2,?_⟩⟩
  refine⟨_,zc2 rfl rfl rfl ((World.putObj_heap_other (by omega)).trans x1) ((World.putObj_heap_other (by omega)).trans x2) (Tryz.isAgg52 _) (Tryz.isAgg4 _),?_⟩
  refine⟨.inr ⟨rfl,H0.out,.inr fun l' h'=>by rw[Hinj.out l' h',← HTT.out];exact Htx.out⟩,hb9.trans (belowK_b (w:=w) (Nat.le_refl _) _ D _ _ (by omega) hK2 rfl rfl)⟩
 case stop =>
  rintro D pre W hD hpre ⟨hsz,h⟩ hK
  obtain⟨p,hp,hf⟩:=h.bad
  have hbad:∃ p∈cutS 44 s,spOk p.data.toList=false:=⟨p,hpre.subset hp,hf⟩
  have Hbad:=hd hbad;clear hbad
  gi_wp2
  refine⟨by simp,.inl ⟨_,_,rfl,run_takeDeferred hK,?_⟩⟩
  refine⟨_,zc2 rfl rfl rfl ((World.putObj_heap_other (by omega)).trans h.r2) ((World.putObj_heap_other (by omega)).trans h.r3) (Tryz.isAgg52 _) (Tryz.isAgg4 _),?_⟩
  exact⟨.inr ⟨rfl,H0.out,.inl Hbad.out⟩,h.bel.trans (belowK_b (w:=w) (Nat.le_refl _) _ D _ _ (by omega) hK rfl rfl)⟩
end

section
open Go.RowKit Go.Lib VerN
end

section
open Go.Lib VerN
end

section
open Go.Shelf Go.RowKit Go.Lib VerN
end

section
open Go.RowKit Go.Shelf
abbrev Setg:=ByteArray × ByteArray
def setCells (x:Setg):List Value:=[.string x.1,.string x.2]
theorem elem_set:Elem Tryz.prog 53 137 (.agg #[.string ⟨#[]⟩,.string ⟨#[]⟩]) 2 32:=⟨Tryz.underlying53,by kernel_rfl,rfl,by decide⟩
def RSet:Rd Setg:=fun _ cs x=>cs = [.string x.1,.string x.2]∧x.1.size≤maxLen∧x.2.size≤maxLen
theorem zao:zfi RSet:=fun _ _ _ _ h _=>h
abbrev zcj:Rd (List Setg):=zal 2 RSet
theorem zoe (x:Setg):(setCells x).length=2:=rfl
theorem zv3 (f:List Setg) (i:Nat) (h:i < f.length) (j:Nat) (hj:j < 2):(f.flatMap setCells)[i * 2+j]? = (setCells f[i])[j]?:=zjn setCells 2 zoe f i h j hj
theorem zcm {w:World} {v:Value} {f:List Setg} (h:zcj w [v] f):∃ a c,v = .slice a f.length c:=by
 obtain⟨a,cap,hv,_⟩:=h
 simp only[List.cons.injEq,and_true] at hv
 exact⟨a,cap,hv⟩
theorem zm0 {w:World} {B:Nat} {v:Value} {f:List Setg} (hw:∀ x∈f,x.1.size≤maxLen∧x.2.size≤maxLen) (h:w.ownsRow B 137 2 v f.length (f.flatMap setCells)):zcj w [v] f:=by
 obtain⟨a,cap,rfl,h1,h2,h3⟩:=Sl.of_owns h
 refine⟨a,cap,rfl,h1,h2,fun i x hi=>?_⟩
 have hil:=(List.getElem?_eq_some_iff.1 hi).1
 have hx:=(List.getElem?_eq_some_iff.1 hi).2
 have hc:∀ c,c < 2→∀ u,(setCells x)[c]? = some u→∃ b off,a=some ⟨b,off,none⟩∧w.cell? ⟨b,off+(i * 2+c),none⟩=some u:=fun c hc u hu=>h3 (i * 2+c) u (by rw[zv3 f i hil c hc,hx];exact hu)
 obtain⟨b,off,ha,h4⟩:=hc 0 (by omega) _ rfl
 obtain⟨b',off',ha',h5⟩:=hc 1 (by omega) _ rfl
 rw[ha] at ha'
 cases ha'
 refine⟨b,off,setCells x,ha,rfl,fun j u hu=>?_,rfl,(hw x (List.mem_of_getElem? hi)).1,(hw x (List.mem_of_getElem? hi)).2⟩
 match j,hu with
 | 0,hu=>simp[setCells] at hu;subst hu;rw[← Nat.add_assoc] at h4;exact h4
 | 1,hu=>simp[setCells] at hu;subst hu;rw[← Nat.add_assoc] at h5;exact h5
theorem zca {w:World} {v:Value} {l:List Setg} (h:zcj w [v] l):∃ a cap,v = .slice a l.length cap∧l.length≤9223372036854775807∧∀ i x,l[i]? = some x→∃ b off,a=some ⟨b,off,none⟩∧w.cell? ⟨b,off+i * 2,none⟩=some (.string x.1)∧w.cell? ⟨b,off+i * 2+1,none⟩=some (.string x.2)∧x.1.size≤9223372036854775807∧x.2.size≤9223372036854775807:=by
 obtain⟨a,cap,hv,hcap,hmax,hel⟩:=h
 simp only[List.cons.injEq,and_true] at hv
 unfold maxLen at hmax
 refine⟨a,cap,hv,by omega,fun i x hi=>?_⟩
 obtain⟨b,off,ecs,h1,h2,h3,h4,h5,h6⟩:=hel i x hi
 subst h4
 unfold maxLen at h5 h6
 exact⟨b,off,h1,by simpa using h3 0 _ rfl,by simpa using h3 1 _ rfl,by omega,by omega⟩
end

section
open Go.RowKit Go.Shelf
def RSlT {α:Type} (sz:Nat) (R:Rd α) (e:TypeId) (W:World) (v:Value) (L:List α):Prop:=zal sz R W [v] L∧(L≠[]→∀ k,v.ownBlock=some k→∃ cs fr,W.heap[k]? = some (.cells cs e fr))
abbrev zgv:World→Value→List BSp→Prop:=RSlT 2 RSpn 51
abbrev zez:World→Value→List Setg→Prop:=RSlT 2 RSet 137
theorem RSlT.frm {α:Type} {sz:Nat} {R:Rd α} {e:TypeId} {W W':World} {v:Value} {L:List α} {T:Nat→Prop} (hR:∀ W W' cs x,R W cs x→R W' cs x) (h:RSlT sz R e W v L) (hF:Frm T W W') (hT:∀ k,T k→∀ cs fr,W.heap[k]?≠some (.cells cs e fr)):RSlT sz R e W' v L:=by
 obtain⟨⟨a,cap,hv,h1,h2,hel⟩,ht⟩:=h
 have hv':=hv
 simp only[List.cons.injEq,and_true] at hv'
 refine⟨⟨a,cap,hv,h1,h2,fun i x hi=>?_⟩,fun hL k hk=>?_⟩
 ·obtain⟨b,off,ecs,e1,e2,e3,e4⟩:=hel i x hi
  have hL:L≠[]:=by rintro rfl;simp at hi
  obtain⟨cs,fr,hb⟩:=ht hL b (by rw[hv',e1];rfl)
  have hbT:¬ T b:=fun k=>hT b k cs fr hb
  refine⟨b,off,ecs,e1,e2,fun j u hu=>?_,hR _ _ _ _ e4⟩
  have k:=e3 j u hu
  exact (hF.cell (p:=⟨b,off+i * sz+j,none⟩) (World.block_lt_of_cell? W _ k) hbT).trans k
 obtain⟨cs,fr,hb⟩:=ht hL k hk
 exact⟨cs,fr,zav hb hF fun kT=>hT k kT cs fr hb⟩
theorem RSlT.below {α:Type} {sz:Nat} {R:Rd α} {e:TypeId} {W W':World} {v:Value} {L:List α} (hR:zfi R) (h:RSlT sz R e W v L) (hb:Below W.heap.size W W'):RSlT sz R e W' v L :=
 ⟨za3 hR _ _ _ _ h.1 hb,fun hL k hk=>by obtain⟨cs,fr,h2⟩:=h.2 hL k hk;exact⟨cs,fr,za1 hb h2⟩⟩
theorem zdz {W W':World} {v:Value} {L:List BSp} (h:zgv W v L) (hb:Below W.heap.size W W'):zgv W' v L:=RSlT.below zan h hb
theorem zq6 {W W':World} {v:Value} {L:List Setg} (h:zez W v L) (hb:Below W.heap.size W W'):zez W' v L:=RSlT.below zao h hb
def No2 (W:World) (T:Nat→Prop):Prop:=∀ k,T k→∃ cs e fr,W.heap[k]? = some (.cells cs e fr)∧e≠51∧e≠137
theorem zgm {W:World} {k:Nat} {cs:Array Value} {t:TypeId} {fr:Nat × Nat} (h:W.heap[k]? = some (.cells cs t fr)) (h1:t≠51) (h2:t≠137):∃ cs e fr,W.heap[k]? = some (.cells cs e fr)∧e≠51∧e≠137:=⟨_,_,_,h,h1,h2⟩
theorem zbv {W W':World} {T:Nat→Prop} {v:Value} {L:List BSp} (h:zgv W v L) (hF:Frm T W W') (hT:No2 W T):zgv W' v L :=
 RSlT.frm (fun _ _ _ _ h=>h) h hF fun k hk cs fr hc=>by
  obtain⟨cs',e,fr',h1,h2,_⟩:=hT k hk
  rw[hc] at h1
  cases h1
  exact h2 rfl
theorem zcv {W W':World} {T:Nat→Prop} {v:Value} {L:List Setg} (h:zez W v L) (hF:Frm T W W') (hT:No2 W T):zez W' v L :=
 RSlT.frm (fun _ _ _ _ h=>h) h hF fun k hk cs fr hc=>by
  obtain⟨cs',e,fr',h1,_,h2⟩:=hT k hk
  rw[hc] at h1
  cases h1
  exact h2 rfl
theorem spsT_nil {W:World} {v:Value} (h:RSps W [v] []):zgv W v []:=⟨h,fun h=>absurd rfl h⟩
theorem setsT_nil {W:World} {v:Value} (h:zcj W [v] []):zez W v []:=⟨h,fun h=>absurd rfl h⟩
theorem zrt {W:World} {B:Nat} {e:TypeId} {size:Nat} {v:Value} {n:Nat} {xs:List Value} (h:W.ownsRow B e size v n xs):∀ k,v.ownBlock=some k→∃ cs fr,W.heap[k]? = some (.cells cs e fr):=fun k hk=>by
 obtain⟨cs,hc⟩:=zcf h k hk
 exact⟨cs,(0,0),hc⟩
end

section
open Go.Shelf Go.RowKit Go.Lib VerN
def Rd3 (t:ByteArray):Prop:=t=⟨#[33]⟩∨((∀ p∈cutS 44 t,spOk p.data.toList=true)∧∀ l,tB l=rdSp t→zdd l=t)
def rdV (t:ByteArray):List BSp:=if t=⟨#[33]⟩ then [] else rdSp t
def zpu (t:ByteArray) (w:World) (e:Ending) (w':World):Prop :=
 ((∃ v,e = .returned (.tuple #[v,.bool true])∧Rd3 t∧zgv w' v (rdV t))∨(∃ v,e = .returned (.tuple #[v,.bool false])∧¬ Rd3 t∧RSps w' [v] []))∧Below w.heap.size w w'
end

namespace VarM
def letN (n:Nat):Bool:=decide (97≤n) && decide (n≤122)
def digN (n:Nat):Bool:=decide (48≤n) && decide (n≤57)
def okN (n:Nat):Bool:=letN n || digN n || decide (n=45)
abbrev Bs:=List UInt8
def okB (c:UInt8):Bool:=okN c.toNat
def digB (c:UInt8):Bool:=digN c.toNat
def zp4 (l:Bs):Nat:=(l.headD 0).toNat
def zeh (l:Bs):Bool:=l.all okB && (decide (0 < l.length) && (decide (l.length≤24) && letN (zp4 l)))
def zst (l:Bs):Bool:=l.all digB && decide (0 < l.length)
def zff (l:Bs):Bool:=zeh l || (zst l && decide (l.length≤3))
theorem all_succ {p:UInt8→Bool} {l:Bs} {k:Nat} (h:k < l.length) (h1:(l.take k).all p=true) (h2:p l[k]=true):(l.take (k+1)).all p=true:=by
 rw[List.take_succ_eq_append_getElem h,List.all_append,h1];simp[h2]
theorem all_no {p:UInt8→Bool} {l:Bs} {k:Nat} (h:k < l.length) (h2:p l[k]=false):l.all p=false:=by
 rw[Bool.eq_false_iff];intro h3
 have:=List.all_eq_true.1 h3 _ (List.getElem_mem h)
 rw[h2] at this;cases this
theorem name_no {l:Bs} (h:l.all okB=false):zeh l=false:=by unfold zeh;rw[h];rfl
theorem name_all {l:Bs} (h:l.all okB=true):zeh l=(decide (0 < l.length) && (decide (l.length≤24) && letN (zp4 l))):=by unfold zeh;rw[h];rfl
theorem okN_let {n:Nat} (h:letN n=true):okN n=true:=by unfold okN;rw[h];rfl
theorem okN_dig {n:Nat} (h:digN n=true):okN n=true:=by unfold okN;rw[h];simp
theorem okN_no {n:Nat} (h1:letN n=false) (h2:digN n=false) (h3:n≠45):okN n=false:=by unfold okN;rw[h1,h2];simp[h3]
end VarM

section
open Go.RowKit
open VarM (letN digN okN okB digB zeh zff zst zp4)
theorem dl (s:ByteArray):s.data.toList.length=s.size:=by rw[Array.length_toList];rfl
theorem zm6 (n:Nat) (h:n < 256) (w:World):Calls Tryz.prog 84 #[.int .u8 (n:Int)] w fun e w'=>e = .returned (.bool (letN n))∧w=w':=by
 obtain⟨r,hr⟩ : ∃ r,r=letN n:=⟨_,rfl⟩
 rw[← hr]
 rcases Nat.lt_or_ge n 97 with h1 | h1
 ·have hf:r=false:=by rw[hr];unfold letN;rw[decide_eq_false (by omega)];rfl
  obtain⟨Hr,Hf⟩:=hd2 hr hf;clear hr hf
  go_enter Tryz.func84,Tryz.ntmps84
  go_wp2_with fail
  go_ret
  exact⟨zai Hf.out.symm,rfl⟩
 rcases Nat.lt_or_ge 122 n with h2 | h2
 ·have hf:r=false:=by rw[hr];unfold letN;rw[decide_eq_false (p:=n≤122) (by omega)];simp
  have k2:decide ((n:Int)≤122)=false:=by simp;omega
  obtain⟨Hr,Hf⟩:=hd2 hr hf;clear hr hf
  go_enter Tryz.func84,Tryz.ntmps84
  go_wp2_with fail
  go_ret
  exact⟨zai Hf.out.symm,rfl⟩
 have hf:r=true:=by rw[hr];unfold letN;rw[decide_eq_true h1,decide_eq_true h2];rfl
 have k2:decide ((n:Int)≤122)=true:=by simp;omega
 obtain⟨Hr,Hf⟩:=hd2 hr hf;clear hr hf
 go_enter Tryz.func84,Tryz.ntmps84
 go_wp2_with fail
 go_ret
 exact⟨zai Hf.out.symm,rfl⟩
theorem zpg (n:Nat) (h:n < 256) (w:World):Calls Tryz.prog 85 #[.int .u8 (n:Int)] w fun e w'=>e = .returned (.bool (digN n))∧w=w':=by
 obtain⟨r,hr⟩ : ∃ r,r=digN n:=⟨_,rfl⟩
 rw[← hr]
 rcases Nat.lt_or_ge n 48 with h1 | h1
 ·have hf:r=false:=by rw[hr];unfold digN;rw[decide_eq_false (by omega)];rfl
  obtain⟨Hr,Hf⟩:=hd2 hr hf;clear hr hf
  go_enter Tryz.func85,Tryz.ntmps85
  go_wp2_with fail
  go_ret
  exact⟨zai Hf.out.symm,rfl⟩
 rcases Nat.lt_or_ge 57 n with h2 | h2
 ·have hf:r=false:=by rw[hr];unfold digN;rw[decide_eq_false (p:=n≤57) (by omega)];simp
  have k2:decide ((n:Int)≤57)=false:=by simp;omega
  obtain⟨Hr,Hf⟩:=hd2 hr hf;clear hr hf
  go_enter Tryz.func85,Tryz.ntmps85
  go_wp2_with fail
  go_ret
  exact⟨zai Hf.out.symm,rfl⟩
 have hf:r=true:=by rw[hr];unfold digN;rw[decide_eq_true h1,decide_eq_true h2];rfl
 have k2:decide ((n:Int)≤57)=true:=by simp;omega
 obtain⟨Hr,Hf⟩:=hd2 hr hf;clear hr hf
 go_enter Tryz.func85,Tryz.ntmps85
 go_wp2_with fail
 go_ret
 exact⟨zai Hf.out.symm,rfl⟩
theorem head_is (s:ByteArray) (h:0 < s.size):zp4 s.data.toList=s[0].toNat:=by
 unfold zp4
 have e:s.data.toList=s[0] :: s.data.toList.drop 1:=by
  have:=List.drop_eq_getElem_cons (l:=s.data.toList) (i:=0) (by rw[dl];exact h)
  rw[List.drop_zero] at this
  exact this
 rw[e];rfl
theorem zjm (s:ByteArray) (hs:s.size≤9223372036854775807) (w:World):Calls Tryz.prog 47 #[.string s] w fun e w'=>e = .returned (.bool (zeh s.data.toList))∧w=w':=by
 obtain⟨l,hl⟩ : ∃ l,l=s.data.toList:=⟨_,rfl⟩
 have hln:l.length=s.size:=by rw[hl];exact dl s
 obtain⟨r,hr⟩ : ∃ r,r=zeh l:=⟨_,rfl⟩
 rw[← hl,← hr]
 have hh:=head_is s
 rw[← hl] at hh
 obtain⟨Hl,Hln,Hr,Hh⟩:=hd4 hl hln hr hh;clear hl hln hr hh
 go_enter Tryz.func47,Tryz.ntmps47
 go_wp2_with fail
 go_loop [6] (fun i=>∃ k:Nat,k≤s.size∧i = .int .i64 k∧(l.take k).all okB=true) (fun i=>s.size - (intOf i).toNat)
 case atStart=>exact⟨0,Nat.zero_le _,rfl,by simp⟩
 case round =>
  obtain⟨k,hk,rfl,hall⟩:=hrel
  by_cases hlt:k < s.size
  ·have hkl:k < l.length:=by have:=Hln.out;omega
   obtain⟨n,hn⟩ : ∃ n,n=s[k].toNat:=⟨_,rfl⟩
   have hn256:n < 256:=by rw[hn];exact s[k].toNat_lt
   have hck:okB l[k]=okN n:=by
    have e:l[k]=s[k]:=by simp only[Hl.out];rfl
    unfold okB
    rw[e,hn]
   have hL:=fun W=>zm6 n hn256 W
   have hD:=fun W=>zpg n hn256 W
   have hsk:s[k].toNat=n:=hn.symm
   have hyes:okN n=true→(l.take (k+1)).all okB=true:=fun h=>VarM.all_succ hkl hall (by rw[hck];exact h)
   have hno:okN n=false→r=false:=fun h=>by rw[Hr.out];exact VarM.name_no (VarM.all_no hkl (by rw[hck];exact h))
   clear hn hck
   clear hkl
   cases h1:letN n with
   | true =>
    have hnext:=hyes (VarM.okN_let h1)
    rw[h1] at hL
    obtain⟨Hall,HL,HD,Hyes,Hno,Hnext,H1⟩:=hd7 hall hL hD hyes hno hnext h1;clear hall hL hD hyes hno hnext h1
    go_wp2_with fail
    refine (HL.out _).mono ?_
    rintro e w1 ⟨rfl,rfl⟩
    go_wp2_with fail
    go_round
    case rel=>exact⟨k+1,by omega,by go_num,Hnext.out⟩
    case measure=>simp[intOf];omega
   | false =>
    rw[h1] at hL
    cases h2:digN n with
    | true =>
     have hnext:=hyes (VarM.okN_dig h2)
     rw[h2] at hD
     obtain⟨Hall,HL,HD,Hyes,Hno,Hnext,H1,H2⟩:=hd8 hall hL hD hyes hno hnext h1 h2;clear hall hL hD hyes hno hnext h1 h2
     go_wp2_with fail
     refine (HL.out _).mono ?_
     rintro e w1 ⟨rfl,rfl⟩
     go_wp2_with fail
     refine (HD.out _).mono ?_
     rintro e w1 ⟨rfl,rfl⟩
     go_wp2_with fail
     go_round
     case rel=>exact⟨k+1,by omega,by go_num,Hnext.out⟩
     case measure=>simp[intOf];omega
    | false =>
     rw[h2] at hD
     by_cases h3:n=45
     ·have hnext:=hyes (by unfold okN;simp[h3])
      have e3:((n:Int) != 45)=false:=by rw[h3];rfl
      obtain⟨Hall,HL,HD,Hyes,Hno,Hnext,H1,H2,H3⟩:=hd9 hall hL hD hyes hno hnext h1 h2 h3;clear hall hL hD hyes hno hnext h1 h2 h3
      go_wp2_with fail
      refine (HL.out _).mono ?_
      rintro e w1 ⟨rfl,rfl⟩
      go_wp2_with fail
      refine (HD.out _).mono ?_
      rintro e w1 ⟨rfl,rfl⟩
      go_wp2_with fail
      go_round
      case rel=>exact⟨k+1,by omega,by go_num,Hnext.out⟩
      case measure=>simp[intOf];omega
     have hf:=hno (VarM.okN_no h1 h2 h3)
     have e3:((n:Int) != 45)=true:=by rw[bne_iff_ne];omega
     obtain⟨Hall,HL,HD,Hyes,Hno,Hf,H1,H2,H3⟩:=hd9 hall hL hD hyes hno hf h1 h2 h3;clear hall hL hD hyes hno hf h1 h2 h3
     go_wp2_with fail
     refine (HL.out _).mono ?_
     rintro e w1 ⟨rfl,rfl⟩
     go_wp2_with fail
     refine (HD.out _).mono ?_
     rintro e w1 ⟨rfl,rfl⟩
     go_wp2_with fail
     go_ret
     exact⟨zai Hf.out.symm,rfl⟩
  obtain rfl:k=s.size:=by omega
  have hall2:l.all okB=true:=by rw[List.take_of_length_le (by have:=Hln.out;omega)] at hall;exact hall
  have hrr:r=(decide (0 < s.size) && (decide (s.size≤24) && letN (zp4 l))):=by rw[Hr.out,VarM.name_all hall2,Hln.out]
  by_cases h0:0 < s.size
  ·by_cases h24:s.size≤24
   ·have hf:r=letN (zp4 l):=by rw[hrr,decide_eq_true h0,decide_eq_true h24];rfl
    rw[Hh.out h0] at hf
    obtain⟨n,hn⟩ : ∃ n,n=s[0].toNat:=⟨_,rfl⟩
    have hn256:n < 256:=by rw[hn];exact s[0].toNat_lt
    have hL:=fun W=>zm6 n hn256 W
    rw[← hn] at hf
    rw[← hf] at hL
    have hsk:s[0].toNat=n:=hn.symm
    have k1:(0:Int) < (s.size:Int):=by omega
    have k2:(s.size:Int)≤24:=by omega
    have k3:decide ((s.size:Int)≤24)=true:=by simpa using k2
    clear hn
    obtain⟨Hall,Hall2,Hrr,Hf,HL⟩:=hd5 hall hall2 hrr hf hL;clear hall hall2 hrr hf hL
    go_wp2_with fail
    refine (HL.out _).mono ?_
    rintro e w1 ⟨rfl,rfl⟩
    go_wp2_with fail
    go_ret
    exact⟨rfl,rfl⟩
   have hf:r=false:=by rw[hrr,decide_eq_false h24];simp
   have k2:(24:Int) < (s.size:Int):=by omega
   have k3:decide ((s.size:Int)≤24)=false:=by simpa using k2
   obtain⟨Hall,Hall2,Hrr,Hf⟩:=hd4 hall hall2 hrr hf;clear hall hall2 hrr hf
   go_wp2_with fail
   go_ret
   exact⟨zai Hf.out.symm,rfl⟩
  have hf:r=false:=by rw[hrr,decide_eq_false h0];rfl
  have k2:s.size≤0:=by omega
  have k3:decide (0 < (s.size:Int))=false:=decide_eq_false (by omega)
  obtain⟨Hall,Hall2,Hrr,Hf⟩:=hd4 hall hall2 hrr hf;clear hall hall2 hrr hf
  go_wp2_with fail
  go_ret
  exact⟨zai Hf.out.symm,rfl⟩
theorem znw (s:ByteArray) (hs:s.size≤9223372036854775807) (w:World):Calls Tryz.prog 88 #[.string s] w fun e w'=>e = .returned (.bool (zff s.data.toList))∧w=w':=by
 have hN:=fun W=>zjm s hs W
 obtain⟨l,hl⟩ : ∃ l,l=s.data.toList:=⟨_,rfl⟩
 have hln:l.length=s.size:=by rw[hl];exact dl s
 obtain⟨r,hr⟩ : ∃ r,r=zff l:=⟨_,rfl⟩
 rw[← hl] at hN
 rw[← hl,← hr]
 cases hq:zeh l with
 | true =>
  rw[hq] at hN
  have hf:r=true:=by rw[hr];unfold zff;rw[hq];rfl
  obtain⟨Hl,Hln,Hr,HN,Hf,Hq⟩:=hd6 hl hln hr hN hf hq;clear hl hln hr hN hf hq
  go_enter Tryz.func88,Tryz.ntmps88
  go_wp2_with fail
  refine (HN.out _).mono ?_
  rintro e w1 ⟨rfl,rfl⟩
  go_wp2_with fail
  go_ret
  exact⟨zai Hf.out.symm,rfl⟩
 | false =>
  rw[hq] at hN
  have hv:r=(l.all digB && decide (0 < l.length) && decide (l.length≤3)):=by rw[hr];unfold zff zst;rw[hq];rfl
  obtain⟨Hl,Hln,Hr,HN,Hv,Hq⟩:=hd6 hl hln hr hN hv hq;clear hl hln hr hN hv hq
  go_enter Tryz.func88,Tryz.ntmps88
  go_wp2_with fail
  refine (HN.out _).mono ?_
  rintro e w1 ⟨rfl,rfl⟩
  go_wp2_with fail
  go_loop [8] (fun i=>∃ k:Nat,k≤s.size∧i = .int .i64 k∧(l.take k).all digB=true) (fun i=>s.size - (intOf i).toNat)
  case atStart=>exact⟨0,Nat.zero_le _,rfl,by simp⟩
  case round =>
   obtain⟨k,hk,rfl,hall⟩:=hrel
   by_cases hlt:k < s.size
   ·have hkl:k < l.length:=by have:=Hln.out;omega
    obtain⟨n,hn⟩ : ∃ n,n=s[k].toNat:=⟨_,rfl⟩
    have hn256:n < 256:=by rw[hn];exact s[k].toNat_lt
    have hck:digB l[k]=digN n:=by
     have e:l[k]=s[k]:=by simp only[Hl.out];rfl
     unfold digB
     rw[e,hn]
    have hD:=fun W=>zpg n hn256 W
    have hsk:s[k].toNat=n:=hn.symm
    have hyes:digN n=true→(l.take (k+1)).all digB=true:=fun h=>VarM.all_succ hkl hall (by rw[hck];exact h)
    have hno:digN n=false→r=false:=fun h=>by rw[Hv.out,VarM.all_no hkl (by rw[hck];exact h)];rfl
    clear hn hck
    clear hkl
    cases h2:digN n with
    | true =>
     have hnext:=hyes h2
     rw[h2] at hD
     obtain⟨Hall,HD,Hyes,Hno,Hnext,H2⟩:=hd6 hall hD hyes hno hnext h2;clear hall hD hyes hno hnext h2
     go_wp2_with fail
     refine (HD.out _).mono ?_
     rintro e w1 ⟨rfl,rfl⟩
     go_wp2_with fail
     go_round
     case rel=>exact⟨k+1,by omega,by go_num,Hnext.out⟩
     case measure=>simp[intOf];omega
    | false =>
     have hf:=hno h2
     rw[h2] at hD
     obtain⟨Hall,HD,Hyes,Hno,Hf,H2⟩:=hd6 hall hD hyes hno hf h2;clear hall hD hyes hno hf h2
     go_wp2_with fail
     refine (HD.out _).mono ?_
     rintro e w1 ⟨rfl,rfl⟩
     go_wp2_with fail
     go_ret
     exact⟨zai Hf.out.symm,rfl⟩
   obtain rfl:k=s.size:=by omega
   have hall2:l.all digB=true:=by rw[List.take_of_length_le (by have:=Hln.out;omega)] at hall;exact hall
   have hrr:r=(decide (0 < s.size) && decide (s.size≤3)):=by rw[Hv.out,hall2,Hln.out];rfl
   by_cases h0:0 < s.size
   ·by_cases h3:s.size≤3
    ·have hf:r=true:=by rw[hrr,decide_eq_true h0,decide_eq_true h3];rfl
     have k1:(0:Int) < (s.size:Int):=by omega
     have k2:(s.size:Int)≤3:=by omega
     have k3:decide ((s.size:Int)≤3)=true:=by simpa using k2
     obtain⟨Hall,Hall2,Hrr,Hf⟩:=hd4 hall hall2 hrr hf;clear hall hall2 hrr hf
     go_wp2_with fail
     go_ret
     exact⟨zai Hf.out.symm,rfl⟩
    have hf:r=false:=by rw[hrr,decide_eq_false h3];simp
    have k2:(3:Int) < (s.size:Int):=by omega
    have k3:decide ((s.size:Int)≤3)=false:=by simpa using k2
    obtain⟨Hall,Hall2,Hrr,Hf⟩:=hd4 hall hall2 hrr hf;clear hall hall2 hrr hf
    go_wp2_with fail
    go_ret
    exact⟨zai Hf.out.symm,rfl⟩
   have hf:r=false:=by rw[hrr,decide_eq_false h0];rfl
   have k2:s.size≤0:=by omega
   have k3:decide (0 < (s.size:Int))=false:=decide_eq_false (by omega)
   obtain⟨Hall,Hall2,Hrr,Hf⟩:=hd4 hall hall2 hrr hf;clear hall hall2 hrr hf
   go_wp2_with fail
   go_ret
   exact⟨zai Hf.out.symm,rfl⟩
theorem empty_iff (s:ByteArray):s.toList = []↔s.size=0:=by
 rw[Lib.toList_data,← dl]
 exact List.length_eq_zero_iff.symm
end

section
open Go.RowKit
open VarM (letN digN okN okB digB zeh zff zst zp4)
end

section
open Go.RowKit Go.Shelf VarM
attribute [local go_sem ↓] Go.wp_at_zero Go.wp_at_succ
theorem zf9 {P:Program} {f:FuncId} {args:Array Value} {w:World} {n:Nat} {v:Value}
  (h:Calls P f args (w.drewN n) fun e w'=>e = .returned v∧∃ q,w'=(w.drewN n).drewN q):Calls P f args (w.drewN n) fun e w''=>e = .returned v∧∃ m,w''=w.drewN m :=
 h.mono fun _ _ ⟨he,q,hq⟩=>⟨he,n+q,by rw[hq,World.drewN_drewN]⟩
def zhf (l:List Setg) (i:Nat):Bool:=match l[i]? with
 | none=>true
 | some x=>zeh x.1.data.toList && zff x.2.data.toList && (decide (i=0) || Op.bytesLess (l.getD (i - 1) (⟨#[]⟩,⟨#[]⟩)).1.toList x.1.toList)
def zep (l:List Setg):Bool:=(List.range l.length).all (zhf l)
theorem wishAt_eq {l:List Setg} {i:Nat} (h:i < l.length):zhf l i=(zeh l[i].1.data.toList && zff l[i].2.data.toList && (decide (i=0) || Op.bytesLess (l.getD (i - 1) (⟨#[]⟩,⟨#[]⟩)).1.toList l[i].1.toList)):=by
 unfold zhf
 rw[List.getElem?_eq_getElem h]
theorem wishIs_no {l:List Setg} {i:Nat} (h:i < l.length) (hi:zhf l i=false):zep l=false:=by
 unfold zep
 rw[List.all_eq_false]
 exact⟨i,List.mem_range.2 h,by rw[hi];simp⟩
theorem zt8 {l:List Setg} (h:∀ i,i < l.length→zhf l i=true):zep l=true:=by
 unfold zep
 rw[List.all_eq_true]
 exact fun i hi=>h i (List.mem_range.1 hi)
theorem zt9 {w:World} {v:Value} {l:List Setg} (h:zcj w [v] l):Calls Tryz.prog 121 #[v] w fun e w'=>e = .returned (.bool (zep l))∧Below w.heap.size w w':=by
 obtain⟨a,cap,rfl,hz,g⟩:=zca h
 obtain⟨n,hn⟩ : ∃ n,n=l.length:=⟨_,rfl⟩
 obtain⟨r,hr⟩ : ∃ r,r=zep l:=⟨_,rfl⟩
 rw[← hr]
 rw[← hn] at hz h ⊢
 obtain⟨Hh,Hg,Hn,Hr⟩:=hd4 h g hn hr;clear h g hn hr
 go_enter Tryz.func121,Tryz.ntmps121
 go_wp2_with fail
 go_loopw [7] (fun i wr=>∃ k:Nat,k≤n∧i = .int .i64 k∧(∀ j,j < k→zhf l j=true)∧Below w.heap.size w wr) (fun i _=>n - (intOf i).toNat)
 case atStart=>exact⟨0,Nat.zero_le _,rfl,fun _ h=>by omega,Below.refl _ _⟩
 case round =>
  obtain⟨k,hk,rfl,hno,hb⟩:=hrel
  by_cases hlt:k < n
  ·have hkl:k < l.length:=by have:=Hn.out;omega
   obtain⟨b,off,rfl,d0,d1,hs1,hs2⟩:=Hg.out k _ (List.getElem?_eq_getElem hkl)
   have hwa:=wishAt_eq hkl
   have hnx:zhf l k=true→∀ j,j < k+1→zhf l j=true:=fun h j hj=>by
    by_cases e:j=k
    ·rw[e];exact h
    exact hno j (by omega)
   have hbd:=fun (h:zhf l k=false)=>wishIs_no hkl h
   obtain⟨x,hx⟩ : ∃ x,x=l[k]:=⟨_,rfl⟩
   rw[← hx] at d0 d1 hs1 hs2 hwa
   obtain⟨s,hs⟩ : ∃ s,s=x.1:=⟨_,rfl⟩
   obtain⟨t,ht⟩ : ∃ s,s=x.2:=⟨_,rfl⟩
   rw[← hs] at d0 hs1 hwa
   rw[← ht] at d1 hs2 hwa
   have hN:=fun (W:World)=>(zjm s hs1 W).mono (fun e w' (⟨he,hw⟩ : _∧W=w')=>(⟨he,0,hw.symm⟩ : e=_∧∃ m,w'=W.drewN m))
   have hV:=fun (W:World)=>(znw t hs2 W).mono (fun e w' (⟨he,hw⟩ : _∧W=w')=>(⟨he,0,hw.symm⟩ : e=_∧∃ m,w'=W.drewN m))
   obtain⟨p1,hp1⟩ : ∃ p,p=zeh s.data.toList:=⟨_,rfl⟩
   obtain⟨p2,hp2⟩ : ∃ p,p=zff t.data.toList:=⟨_,rfl⟩
   rw[← hp1] at hN hwa
   rw[← hp2] at hV hwa
   have e0:=cell_later hb d0
   have e1:=cell_later hb d1
   obtain⟨W1,hW1⟩ : ∃ W1,W1=wr.alloc (.cells #[.string s,.string t] 137):=⟨_,rfl⟩
   have hbn:Below wr.heap.size wr W1:=by rw[hW1];exact za2 _ _
   have hb1:=hb.trans (hbn.mono hb.size)
   obtain⟨D,hD⟩ : ∃ D,D=wr.heap.size:=⟨_,rfl⟩
   have hdb:W1.heap[D]? = some (.cells #[.string s,.string t] 137 (0,0)):=by rw[hW1,hD];exact heap_alloc_new _ _
   have f0:=za0 hdb 0
   have f1:=za0 hdb 1
   simp only[List.getElem?_toArray,List.getElem?_cons_zero,List.getElem?_cons_succ] at f0 f1
   have k5:(0:Int)≤(k:Int):=by omega
   have k6:(k:Int) < (n:Int):=by omega
   clear hx hs ht
   obtain⟨HN,HV,Hp1,Hp2,Hno,Hnx,Hbd,Hwa,Hb,Hbn,Hb1,Hdb⟩:=hd12 hN hV hp1 hp2 hno hnx hbd hwa hb hbn hb1 hdb;clear hN hV hp1 hp2 hno hnx hbd hwa hb hbn hb1 hdb
   go_upto_region 4 with (fail)
   rw[← hW1,← hD]
   obtain⟨HW1,HD⟩:=hd2 hW1 hD;clear hW1 hD
   clear e0 e1
   cases p1 with
   | false =>
    have hf:r=false:=by rw[Hr.out];exact Hbd.out (by rw[Hwa.out];rfl)
    have Hf:=hd hf;clear hf
    go_quiet (first | (go_at_call 47;exact zf9 (HN.out _)) | (go_at_call 88;exact zf9 (HV.out _)))
    go_wp2_with fail
    go_ret
    exact⟨zai Hf.out.symm,za6 Hb1.out _⟩
   | true =>
    cases p2 with
    | false =>
     have hf:r=false:=by rw[Hr.out];exact Hbd.out (by rw[Hwa.out];rfl)
     have Hf:=hd hf;clear hf
     go_quiet (first | (go_at_call 47;exact zf9 (HN.out _)) | (go_at_call 88;exact zf9 (HV.out _)))
     go_wp2_with fail
     go_ret
     exact⟨zai Hf.out.symm,za6 Hb1.out _⟩
    | true =>
     by_cases h0:0 < k
     ·obtain⟨k',rfl⟩ : ∃ k',k=k' + 1:=⟨k - 1,by omega⟩
      have hkl':k' < l.length:=by have:=Hn.out;omega
      obtain⟨b2,off2,e2,y0,_,_,_⟩:=Hg.out k' _ (List.getElem?_eq_getElem hkl')
      injection e2 with e2
      injection e2 with e3 e4
      subst e3 e4
      obtain⟨z,hz4⟩ : ∃ z,z=l[k'].1:=⟨_,rfl⟩
      rw[← hz4] at y0
      have y0:=cell_later Hb1.out y0
      have hwb:zhf l (k' + 1)=Op.bytesLess z.toList s.toList:=by rw[Hwa.out,hz4];simp[List.getD_eq_getElem?_getD,List.getElem?_eq_getElem hkl']
      obtain⟨Hz4,Hwb⟩:=hd2 hz4 hwb;clear hz4 hwb
      have k7:decide ((0:Int) < ((k' + 1:Nat):Int))=true:=by rw[decide_eq_true_eq];omega
      have k8:(((k' + 1:Nat):Int) - 1)=(k':Int):=by omega
      have k11:IntKind.i64.wrap (((k' + 1:Nat):Int) - 1)=(k':Int):=by rw[k8];exact IntWalk.i64_in _ (by omega)
      have k9:(0:Int)≤(k':Int):=by omega
      have k10:(k':Int) < (n:Int):=by omega
      go_quiet (first | (go_at_call 47;exact zf9 (HN.out _)) | (go_at_call 88;exact zf9 (HV.out _)))
      obtain⟨bl,hbl⟩ : ∃ b,b=Op.bytesLess z.toList s.toList:=⟨_,rfl⟩
      have hwb:=Hwb.out
      rw[← hbl] at hwb ⊢
      obtain⟨Hbl,Hwb⟩:=hd2 hbl hwb;clear hbl hwb
      cases bl with
      | true =>
       have hq:=Hnx.out Hwb.out
       have Hq:=hd hq;clear hq
       go_wp2_with fail
       go_roundw
       case rel=>exact⟨k' + 1+1,by omega,by go_num,Hq.out,za6 Hb1.out _⟩
       case measure=>simp[intOf];omega
      | false =>
       have hf:r=false:=by rw[Hr.out];exact Hbd.out Hwb.out
       have Hf:=hd hf;clear hf
       go_wp2_with fail
       go_ret
       exact⟨zai Hf.out.symm,za6 Hb1.out _⟩
     have k7:decide ((0:Int) < (k:Int))=false:=by rw[decide_eq_false_iff_not];omega
     have hq:=Hnx.out (by rw[Hwa.out,show k=0 by omega];rfl)
     have Hq:=hd hq;clear hq
     go_quiet (first | (go_at_call 47;exact zf9 (HN.out _)) | (go_at_call 88;exact zf9 (HV.out _)))
     go_wp2_with fail
     go_roundw
     case rel=>exact⟨k+1,by omega,by go_num,Hq.out,za6 Hb1.out _⟩
     case measure=>simp[intOf];omega
  obtain rfl:n=k:=by omega
  have hf:r=true:=by rw[Hr.out];exact zt8 (by rw[← Hn.out];exact hno)
  obtain⟨Hno,Hf,Hb⟩:=hd3 hno hf hb;clear hno hf hb
  go_wp2_with fail
  go_ret
  exact⟨zai Hf.out.symm,Hb.out⟩
end

namespace LexM
abbrev Bs:=List UInt8
abbrev Wd:=Int × Bs
abbrev Ln:=Int × List Wd
structure St where
 line:Int
 col:Int
 frm:Int
 off:Bool
 word:Bs
 words:List Wd
 out:List Ln
def ends (s:St):St:={ s with frm:=0,word:=[],words:=if 0 < s.frm then s.words ++ [(s.frm,s.word)] else s.words }
def breaks (s:St):St :=
 { (ends s) with out:=if (ends s).words = [] then s.out else s.out ++ [(s.line,(ends s).words)],words:=[],off:=false,line:=s.line+1,col:=0 }
def mayBegin (s:St):Bool:=decide (s.words.length < 40) && (decide (0 < s.words.length) || decide (s.out.length < 2000))
def onward (s:St):St:={ s with col:=s.col+1 }
def takes (s:St) (c:UInt8):St × Int :=
 if c.toNat=10 then (breaks (onward s),0)
 else if c.toNat < 32∨126 < c.toNat then (onward s,3)
 else if s.off=true then (onward s,0)
 else if c.toNat=35 then ({ ends (onward s) with off:=true },0)
 else if c.toNat=32 then (ends (onward s),0)
 else if 0 < s.frm then ({ onward s with word:=s.word ++ [c] },0)
 else if mayBegin s=true then ({ onward s with frm:=s.col+1,word:=s.word ++ [c] },0)
 else ({ onward s with frm:=s.col+1 },4)
def run:St→Bs→St × Int
 | s,[] => (s,0)
 | s,c :: r=>if (takes s c).2=0 then run (takes s c).1 r else takes s c
def st0:St:=⟨1,0,0,false,[],[],[]⟩
structure Res where
 lines:List Ln
 at1:Int
 at2:Int
 e:Int
def close (r:St × Int):Res:=if r.2=0 then ⟨(breaks r.1).out,0,0,0⟩ else ⟨[],r.1.line,r.1.col,r.2⟩
def lines (t:Bs):Res:=if 65536 < t.length then ⟨[],0,0,4⟩ else close (run st0 t)
def part (c:UInt8):Bool:=decide (32 < c.toNat) && decide (c.toNat < 127) && !decide (c.toNat=35)
def zls (t:Bs) (i:Nat):Bs:=(t.drop i).takeWhile part
structure RS where
 off:Bool
 out:List Wd
def roff (s:RS) (c:UInt8):Bool:=s.off || decide (c.toNat=35)
def zgi (t:Bs) (s:RS) (i:Nat) (c:UInt8):Bool:=roff s c || !part c || (decide (0 < i) && part (t.getD (i - 1) 0))
def zgj (t:Bs) (s:RS) (i:Nat) (c:UInt8):RS:=⟨roff s c,if zgi t s i c=true then s.out else s.out ++ [((i:Int)+1,zls t i)]⟩
def rerr (t:Bs) (room:Bool) (s:RS) (i:Nat) (c:UInt8):Int :=
 if c.toNat < 32∨126 < c.toNat then 3
 else if zgi t s i c=true then 0
 else if s.out.length=40∨room=false then 4 else 0
def rgo (t:Bs) (room:Bool) (s:RS) (i:Nat):Bs→List Wd × Int × Int
 | [] => (s.out,0,0)
 | c :: r=>if rerr t room s i c=0 then rgo t room (zgj t s i c) (i+1) r else (s.out,(i:Int)+1,rerr t room s i c)
def zjc (t:Bs) (room:Bool):List Wd × Int × Int:=rgo t room ⟨false,[]⟩ 0 t
def znn (out:List Ln) (n:Int) (ws:List Wd):List Ln:=if ws = [] then out else out ++ [(n,ws)]
def zhi (n:Int) (cur:Bs) (out:List Ln):Bs→Res
 | [] => let r:=zjc cur (decide (out.length < 2000));if r.2.2=0 then ⟨znn out n r.1,0,0,0⟩ else ⟨[],n,r.2.1,r.2.2⟩
 | c :: r =>
  if c.toNat=10 then
   let q:=zjc cur (decide (out.length < 2000))
   if q.2.2=0 then zhi (n+1) [] (znn out n q.1) r else ⟨[],n,q.2.1,q.2.2⟩
  else zhi n (cur ++ [c]) out r
def docLines (t:Bs):Res:=if 65536 < t.length then ⟨[],0,0,4⟩ else zhi 1 [] [] t
theorem run_ok {s:St} {c:UInt8} {r:Bs} (h:(takes s c).2=0):run s (c :: r)=run (takes s c).1 r:=by simp[run,h]
theorem run_bad {s:St} {c:UInt8} {r:Bs} (h:(takes s c).2≠0):run s (c :: r)=takes s c:=by simp[run,h]
theorem run_append (a b:Bs):∀ s,run s (a ++ b)=if (run s a).2=0 then run (run s a).1 b else run s a:=by
 induction a with
 | nil=>intro s;simp[run]
 | cons c r ih =>
  intro s
  by_cases h:(takes s c).2=0
  ·rw[List.cons_append,run_ok h,ih,run_ok h]
  rw[List.cons_append,run_bad h,run_bad h,if_neg h]
theorem znt {t:Bs} {i:Nat} {c:UInt8} {r:Bs} (h:t.drop i=c :: r) (hc:part c=true):zls t i=c :: r.takeWhile part:=by
 unfold zls;rw[h];simp[hc]
structure Inv (t:Bs) (room:Bool) (p:St) (s:RS) (i:Nat):Prop where
 col:p.col=i
 off:p.off=s.off
 none:p.frm=0→p.word = []∧s.out=p.words∧(p.off=true∨i=0∨part (t.getD (i - 1) 0)=false)
 some:p.frm≠0→p.off=false∧0 < i∧part (t.getD (i - 1) 0)=true∧∃ j:Nat,p.frm=(j:Int)+1∧s.out=p.words ++ [((j:Int)+1,p.word ++ (t.drop i).takeWhile part)]
 nonneg:0≤p.frm
 room:room=decide (p.out.length < 2000)
 had:p.words≠[]∨p.frm≠0→p.out.length < 2000
 le:s.out.length≤40
theorem part_iff (c:UInt8):part c=true↔32 < c.toNat∧c.toNat < 127∧c.toNat≠35:=by
 unfold part;simp[and_assoc]
theorem zgo {t:Bs} {i:Nat} {c:UInt8} {r:Bs} (h:t.drop i=c :: r):t.getD i 0=c∧t.drop (i+1)=r∧i < t.length:=by
 have hi:i < t.length:=by
  rcases Nat.lt_or_ge i t.length with hi | hi
  ·exact hi
  rw[List.drop_eq_nil_of_le hi] at h;cases h
 rw[List.drop_eq_getElem_cons hi] at h
 injection h with h1 h2
 refine⟨?_,h2,hi⟩
 simp[List.getD,hi,h1]
theorem step_inv {t:Bs} {room:Bool} {p:St} {s:RS} {i:Nat} {c:UInt8} {r:Bs} (h:Inv t room p s i) (hd:t.drop i=c :: r) (hc:c.toNat≠10) :
  (takes p c).2=rerr t room s i c∧(takes p c).1.col=(i:Int)+1∧(takes p c).1.line=p.line∧(takes p c).1.out=p.out∧((takes p c).2=0→Inv t room (takes p c).1 (zgj t s i c) (i+1)):=by
 obtain⟨hg,hd2,hi⟩:=zgo hd
 have hg2:t.getD (i+1 - 1) 0=c:=by rw[Nat.add_sub_cancel];exact hg
 have hcol:=h.col
 unfold takes
 rw[if_neg hc]
 by_cases hf:c.toNat < 32∨126 < c.toNat
 ·rw[if_pos hf]
  have e1:rerr t room s i c=3:=by unfold rerr;rw[if_pos hf]
  exact⟨e1.symm,by simp[onward,hcol],rfl,rfl,fun h=>by cases h⟩
 rw[if_neg hf]
 have hr:rerr t room s i c=if zgi t s i c=true then 0 else if s.out.length=40∨room=false then 4 else 0:=by unfold rerr;rw[if_neg hf]
 by_cases ho:p.off=true
 ·rw[if_pos ho]
  have hso:s.off=true:=by rw[← h.off];exact ho
  have hro:roff s c=true:=by unfold roff;rw[hso];rfl
  have hsk:zgi t s i c=true:=by unfold zgi;rw[hro];rfl
  have hf0:p.frm=0:=Classical.byContradiction fun hn=>by have:=(h.some hn).1;rw[ho] at this;cases this
  refine⟨by rw[hr,if_pos hsk],by simp[onward,hcol],rfl,rfl,fun _=>?_⟩
  have hn:=h.none hf0
  exact⟨by simp[onward,hcol],by simp[onward,zgj,hro,ho],fun _=>⟨hn.1,by simp[zgj,hsk];exact hn.2.1,.inl ho⟩,fun hx=>absurd hf0 hx,h.nonneg,h.room,h.had,by simp only[zgj,if_pos hsk];exact h.le⟩
 rw[if_neg ho]
 have hoff:p.off=false:=by simpa using ho
 have hso:s.off=false:=by rw[← h.off];exact hoff
 have endsEq:∀ b:Bool,b=roff s c→part c=false→zgi t s i c=true→Inv t room { ends (onward p) with off:=b } (zgj t s i c) (i+1):=by
  intro b hb hpc hsk
  refine⟨by simp[ends,onward,hcol],by simp[zgj,hb],fun _=>⟨rfl,?_,.inr (.inr ?_)⟩,fun hx=>absurd rfl hx,Int.le_refl _,h.room,?_,by simp only[zgj,if_pos hsk];exact h.le⟩
  ·simp only[zgj,if_pos hsk]
   by_cases h0:p.frm=0
   ·rw[(h.none h0).2.1]
    simp[ends,onward,h0]
   obtain⟨_,_,_,j,hj,hso⟩:=h.some h0
   rw[hso,hd]
   have hp:0 < (j:Int)+1:=by omega
   simp[ends,onward,hp,hj,hpc]
  ·rw[hg2];exact hpc
  intro hne
  apply h.had
  by_cases h0:p.frm=0
  ·left
   simpa [ends,onward,h0] using hne
  exact .inr h0
 by_cases h35:c.toNat=35
 ·rw[if_pos h35]
  have hpc:part c=false:=by
   have:=part_iff c
   cases hh:part c
   ·rfl
   have:=this.1 hh;omega
  have hro:roff s c=true:=by unfold roff;simp[h35]
  have hsk:zgi t s i c=true:=by unfold zgi;rw[hro];rfl
  exact⟨by rw[hr,if_pos hsk],by simp[ends,onward,hcol],rfl,rfl,fun _=>endsEq true hro.symm hpc hsk⟩
 rw[if_neg h35]
 have hro:roff s c=false:=by unfold roff;simp[hso,h35]
 by_cases h32:c.toNat=32
 ·rw[if_pos h32]
  have hpc:part c=false:=by
   have:=part_iff c
   cases hh:part c
   ·rfl
   have:=this.1 hh;omega
  have hsk:zgi t s i c=true:=by unfold zgi;rw[hpc];simp
  refine⟨by rw[hr,if_pos hsk],by simp[ends,onward,hcol],rfl,rfl,fun _=>?_⟩
  have:=endsEq false hro.symm hpc hsk
  have e:ends (onward p) = { ends (onward p) with off:=false }:=by simp[ends,onward,hoff]
  rw[e]
  exact this
 rw[if_neg h32]
 have hpc:part c=true:=(part_iff c).2 (by omega)
 by_cases h0:p.frm=0
 ·have hn:=h.none h0
  have hprev:(decide (0 < i) && part (t.getD (i - 1) 0))=false:=by
   rcases hn.2.2 with h1 | h1 | h1
   ·rw[hoff] at h1;cases h1
   ·simp[h1]
   rw[h1];simp
  have hsk:zgi t s i c=false:=by unfold zgi;rw[hro,hpc,hprev];rfl
  have hsk':¬ zgi t s i c=true:=by rw[hsk];simp
  rw[if_neg (by omega)]
  by_cases hm:mayBegin p=true
  ·rw[if_pos hm]
   have hm':=hm
   unfold mayBegin at hm'
   simp only[Bool.and_eq_true,Bool.or_eq_true,decide_eq_true_eq] at hm'
   have hout:p.out.length < 2000:=by
    rcases hm'.2 with h1 | h1
    ·exact h.had (.inl (List.ne_nil_of_length_pos h1))
    exact h1
   have hl:s.out.length < 40:=by rw[hn.2.1];exact hm'.1
   refine⟨?_,by simp[onward,hcol],rfl,rfl,fun _=>⟨by simp[onward,hcol],by simp[onward,zgj,hro,hoff],fun hx=>?_,fun _=>⟨hoff,by omega,by rw[hg2];exact hpc,i,by simp[hcol],?_⟩,by simp;omega,h.room,fun _=>hout,?_⟩⟩
   ·rw[hr,if_neg hsk',if_neg]
    rintro (h1 | h1)
    ·omega
    rw[h.room] at h1;simp at h1;omega
   ·exfalso
    simp at hx
    omega
   ·simp only[zgj,if_neg hsk',hd2,hn.1,hn.2.1,onward]
    rw[znt hd hpc]
    rfl
   simp only[zgj,if_neg hsk',List.length_append,List.length_singleton]
   omega
  rw[if_neg hm]
  refine⟨?_,by simp[onward,hcol],rfl,rfl,fun hx=>by cases hx⟩
  rw[hr,if_neg hsk',if_pos]
  unfold mayBegin at hm
  simp only[Bool.and_eq_true,Bool.or_eq_true,decide_eq_true_eq] at hm
  have hle:=h.le
  rw[hn.2.1] at hle ⊢
  by_cases h40:p.words.length=40
  ·exact .inl h40
  right
  rw[h.room]
  simp
  omega
 obtain⟨ha,hb,hpv,j,hj,hso2⟩:=h.some h0
 have hsk:zgi t s i c=true:=by unfold zgi;rw[hpv];simp[hb]
 have hp:0 < p.frm:=by omega
 rw[if_pos hp]
 refine⟨by rw[hr,if_pos hsk],by simp[onward,hcol],rfl,rfl,fun _=>⟨by simp[onward,hcol],by simp[onward,zgj,hro,hoff],fun hx=>absurd hx h0,fun _=>⟨hoff,by omega,by rw[hg2];exact hpc,j,hj,?_⟩,h.nonneg,h.room,h.had,by simp only[zgj,if_pos hsk];exact h.le⟩⟩
 simp only[zgj,if_pos hsk,onward]
 rw[hso2,hd,hd2]
 simp[hpc]
theorem line_inv {t:Bs} {room:Bool} (r:Bs):∀ (p:St) (s:RS) (i:Nat),Inv t room p s i→t.drop i=r→(∀ c∈r,c.toNat≠10) →
  (run p r).2=(rgo t room s i r).2.2∧(run p r).1.line=p.line∧(run p r).1.out=p.out∧((run p r).2≠0→(run p r).1.col=(rgo t room s i r).2.1)∧((run p r).2=0→(ends (run p r).1).words=(rgo t room s i r).1):=by
 induction r with
 | nil =>
  intro p s i h hd _
  refine⟨rfl,rfl,rfl,fun hx=>absurd rfl hx,fun _=>?_⟩
  simp only[run,rgo]
  by_cases h0:p.frm=0
  ·rw[(h.none h0).2.1];simp[ends,h0]
  obtain⟨_,_,_,j,hj,hso⟩:=h.some h0
  have hp:0 < (j:Int)+1:=by omega
  rw[hso,hd]
  simp[ends,hj,hp]
 | cons c r ih =>
  intro p s i h hd hn
  obtain⟨e1,e2,e3,e4,e5⟩:=step_inv h hd (hn c (by simp))
  simp only[rgo,← e1]
  by_cases hz:(takes p c).2=0
  ·rw[run_ok hz,if_pos hz]
   obtain⟨f1,f2,f3,f4,f5⟩:=ih _ _ (i+1) (e5 hz) (zgo hd).2.1 (fun x hx=>hn x (by simp[hx]))
   exact⟨f1,f2.trans e3,f3.trans e4,f4,f5⟩
  rw[run_bad hz,if_neg hz]
  exact⟨rfl,e3,e4,fun _=>e2,fun hx=>absurd hx hz⟩
def zgp (n:Int) (out:List Ln):St:=⟨n,0,0,false,[],[],out⟩
theorem inv0 (t:Bs) (n:Int) (out:List Ln):Inv t (decide (out.length < 2000)) (zgp n out) ⟨false,[]⟩ 0 :=
 ⟨rfl,rfl,fun _=>⟨rfl,rfl,.inr (.inl rfl)⟩,fun h=>absurd rfl h,Int.le_refl _,rfl,fun h=>by rcases h with h | h <;> exact absurd rfl h,by simp⟩
theorem zsk (t:Bs) (n:Int) (out:List Ln) (h:∀ c∈t,c.toNat≠10) :
  (run (zgp n out) t).2=(zjc t (decide (out.length < 2000))).2.2∧(run (zgp n out) t).1.line=n∧(run (zgp n out) t).1.out=out∧((run (zgp n out) t).2≠0→(run (zgp n out) t).1.col=(zjc t (decide (out.length < 2000))).2.1) ∧
  ((run (zgp n out) t).2=0→(ends (run (zgp n out) t).1).words=(zjc t (decide (out.length < 2000))).1) :=
 line_inv t _ _ 0 (inv0 t n out) rfl h
theorem zpo (p:St) (n:Int) (out:List Ln) (ws:List Wd) (hl:p.line=n) (ho:p.out=out) (hw:(ends p).words=ws):breaks p=zgp (n+1) (znn out n ws):=by
 subst hl;subst ho;subst hw
 rfl
theorem rlines_eq (r:Bs):∀ (n:Int) (cur:Bs) (out:List Ln),(∀ c∈cur,c.toNat≠10)→zhi n cur out r=close (run (zgp n out) (cur ++ r)):=by
 induction r with
 | nil =>
  intro n cur out hc
  obtain⟨e1,e2,e3,e4,e5⟩:=zsk cur n out hc
  rw[List.append_nil]
  unfold zhi close
  dsimp only
  rw[← e1]
  by_cases hz:(run (zgp n out) cur).2=0
  ·rw[if_pos hz,if_pos hz,zpo _ n out _ e2 e3 (e5 hz)]
   rfl
  rw[if_neg hz,if_neg hz,e2,e4 hz]
 | cons c r ih =>
  intro n cur out hc
  unfold zhi
  by_cases h10:c.toNat=10
  ·rw[if_pos h10]
   dsimp only
   obtain⟨e1,e2,e3,e4,e5⟩:=zsk cur n out hc
   rw[run_append,← e1]
   by_cases hz:(run (zgp n out) cur).2=0
   ·rw[if_pos hz,if_pos hz,ih _ _ _ (by simp)]
    have:run (run (zgp n out) cur).1 (c :: r)=run (zgp (n+1) (znn out n (zjc cur (decide (out.length < 2000))).1)) r:=by
     have h1:takes (run (zgp n out) cur).1 c=(breaks (onward (run (zgp n out) cur).1),0):=by unfold takes;rw[if_pos h10]
     rw[run_ok (by rw[h1]),h1]
     rw[zpo (onward (run (zgp n out) cur).1) n out (zjc cur (decide (out.length < 2000))).1 e2 e3 (e5 hz)]
    rw[this]
    rfl
   rw[if_neg hz,if_neg hz]
   unfold close
   rw[if_neg hz,e2,e4 hz]
  rw[if_neg h10,ih _ _ _ (by
   intro x hx
   rcases List.mem_append.1 hx with hx | hx
   ·exact hc x hx
   simp at hx;rw[hx];exact h10)]
  simp
theorem lines_eq (t:Bs):lines t=docLines t:=by
 unfold lines docLines
 by_cases h:65536 < t.length
 ·rw[if_pos h,if_pos h]
 rw[if_neg h,if_neg h,rlines_eq t 1 [] [] (by simp)]
 rfl
end LexM

section
open Go.Lib VerN VarM
open LexM (Wd Ln)
abbrev Spc3:=ByteArray × List BSp × List Setg
def zag (ws:List Wd) (i:Nat):ByteArray:=match ws[i]? with
 | some x=>⟨x.2.toArray⟩
 | none=>⟨#[]⟩
def ze0 (ws:List Wd) (fin:Int) (i:Nat):Int:=match ws[i]? with
 | some x=>x.1
 | none=>fin
def cutB (c:UInt8) (s:ByteArray):ByteArray × ByteArray × Bool:=(⟨(cut s.data.toList [c]).1.toArray⟩,⟨(cut s.data.toList [c]).2.1.toArray⟩,(cut s.data.toList [c]).2.2)
def hasB (c:UInt8) (s:ByteArray):Bool:=decide (0≤indexByte s.data.toList c)
def zgf (s:ByteArray):Setg:=((cutB 61 s).1,(cutB 61 s).2.1)
def zlh (ws:List Wd):Nat→Nat→List Setg→Option (List Setg) × Nat
 | 0,i,out=>(some out,i)
 | f+1,i,out=>if hasB 61 (zag ws i)=true then (if zep (out ++ [zgf (zag ws i)])=true then zlh ws f (i+1) (out ++ [zgf (zag ws i)]) else (none,i)) else (some out,i)
theorem zeu {ws:List Wd} {i:Nat} (h:ws.length≤i):zag ws i=⟨#[]⟩:=by unfold zag;rw[List.getElem?_eq_none h]
theorem zgl {ws:List Wd} {i:Nat} (h:i < ws.length):zag ws i=⟨ws[i].2.toArray⟩:=by unfold zag;rw[List.getElem?_eq_getElem h]
theorem zsy {ws:List Wd} {fin:Int} {i:Nat} (h:ws.length≤i):ze0 ws fin i=fin:=by unfold ze0;rw[List.getElem?_eq_none h]
theorem zsx {ws:List Wd} {fin:Int} {i:Nat} (h:i < ws.length):ze0 ws fin i=ws[i].1:=by unfold ze0;rw[List.getElem?_eq_getElem h]
theorem znd:hasB 61 ⟨#[]⟩=false:=by decide
def zb8 (ws:List Wd) (i:Nat) (out:List Setg):Option (List Setg) × Nat:=zlh ws (ws.length - i) i out
theorem zm1 {ws:List Wd} {i:Nat} {out:List Setg} (h:hasB 61 (zag ws i)=false):zb8 ws i out=(some out,i):=by
 unfold zb8
 cases hf:ws.length - i with
 | zero=>rfl
 | succ f=>unfold zlh;rw[if_neg (by rw[h];simp)]
theorem zso {ws:List Wd} {i:Nat} (h:hasB 61 (zag ws i)=true):i < ws.length:=by
 apply Nat.lt_of_not_le
 intro hk
 rw[zeu hk,znd] at h
 cases h
theorem zk6 {ws:List Wd} {i:Nat} {out:List Setg} (h:hasB 61 (zag ws i)=true) (hw:zep (out ++ [zgf (zag ws i)])=true):zb8 ws i out=zb8 ws (i+1) (out ++ [zgf (zag ws i)]):=by
 have hl:=zso h
 unfold zb8
 obtain⟨f,hf⟩ : ∃ f,ws.length - i=f+1:=⟨ws.length - i - 1,by omega⟩
 rw[hf,show ws.length - (i+1)=f by omega]
 show (if _ then _ else _)=_
 rw[if_pos h,if_pos hw]
theorem zk7 {ws:List Wd} {i:Nat} {out:List Setg} (h:hasB 61 (zag ws i)=true) (hw:zep (out ++ [zgf (zag ws i)])=false):zb8 ws i out=(none,i):=by
 have hl:=zso h
 unfold zb8
 obtain⟨f,hf⟩ : ∃ f,ws.length - i=f+1:=⟨ws.length - i - 1,by omega⟩
 rw[hf]
 show (if _ then _ else _)=_
 rw[if_pos h,if_neg (by rw[hw];simp)]
open Classical in
noncomputable def zfl (t:ByteArray):Bool:=decide (Rd3 t∧rdV t≠[]∧(rdV t).head?≠some (⟨#[]⟩,⟨#[]⟩))
def allV:List BSp:=[(⟨#[]⟩,⟨#[]⟩)]
noncomputable def zlo (s:ByteArray):Bool:=zeh (cutB 64 s).1.data.toList && (!(cutB 64 s).2.2 || zfl (cutB 64 s).2.1)
noncomputable def zo6 (s:ByteArray):List BSp:=if (cutB 64 s).2.2=true then rdV (cutB 64 s).2.1 else allV
noncomputable def zed (ws:List Wd) (i:Nat):Option Spc3 × Nat :=
 if zlo (zag ws i)=true then ((zb8 ws (i+1) []).1.map fun l=>((cutB 64 (zag ws i)).1,zo6 (zag ws i),l),(zb8 ws (i+1) []).2) else (none,i)
end

section
open Go.Lib VerN VarM
open LexM (Wd Ln)
def wtx (x:Wd):ByteArray:=⟨x.2.toArray⟩
def zam (ws:List Wd) (i:Nat):List ByteArray:=(ws.drop i).map wtx
theorem zay {ws:List Wd} {i:Nat} (h:ws.length≤i):zam ws i = []:=by unfold zam;rw[List.drop_eq_nil_of_le h];rfl
theorem zad {ws:List Wd} {i:Nat} (h:i < ws.length):zam ws i=zag ws i :: zam ws (i+1):=by
 unfold zam
 rw[List.drop_eq_getElem_cons h,zgl h]
 rfl
theorem zd3 (ws:List Wd) (i:Nat):(zam ws i).length=ws.length - i:=by unfold zam;simp
def ztk:List ByteArray→List Setg→Option (List Setg × List ByteArray)
 | [],out=>some (out,[])
 | x :: r,out=>if hasB 61 x=true then (if zep (out ++ [zgf x])=true then ztk r (out ++ [zgf x]) else none) else some (out,x :: r)
noncomputable def wishL:List ByteArray→Option (Spc3 × List ByteArray)
 | [] => none
 | x :: r=>if zlo x=true then (ztk r []).map fun q=>(((cutB 64 x).1,zo6 x,q.1),q.2) else none
def ze7:ByteArray:=⟨#[42]⟩
def noT:ByteArray:=⟨#[]⟩
def zgu (s:ByteArray):Bool:=decide (s.data.toList.head? = some 64)
def zin (s:ByteArray):ByteArray:=⟨(s.data.toList.drop 1).toArray⟩
noncomputable def zbx (ws:List Wd) (i:Nat):Option Spc3 × Nat :=
 if zag ws i=ze7 then (some (noT,allV,[]),i+1)
 else if zgu (zag ws i)=true then
  (if zfl (zin (zag ws i))=true then ((zb8 ws (i+1) []).1.map fun l=>(noT,rdV (zin (zag ws i)),l),(zb8 ws (i+1) []).2) else (none,i))
 else if hasB 61 (zag ws i)=true then ((zb8 ws i []).1.map fun l=>(noT,allV,l),(zb8 ws i []).2)
 else (none,i)
noncomputable def condL:List ByteArray→Option (Spc3 × List ByteArray)
 | [] => none
 | x :: r=>if x=ze7 then some ((noT,allV,[]),r)
  else if zgu x=true then (if zfl (zin x)=true then (ztk r []).map fun q=>((noT,rdV (zin x),q.1),q.2) else none)
  else if hasB 61 x=true then (ztk (x :: r) []).map fun q=>((noT,allV,q.1),q.2)
  else none
def zl6 {α:Type} (ws:List Wd):Option α × Nat→Option (α × List ByteArray)
 | (some l,j)=>some (l,zam ws j)
 | (none,_)=>none
theorem zs4 (ws:List Wd):∀ (f i:Nat) (out:List Setg),ws.length - i=f→ztk (zam ws i) out=zl6 ws (zlh ws f i out)
 | 0,i,out,h=>by
  rw[zay (by omega)]
  show some (out,[])=some (out,zam ws i)
  rw[zay (by omega)]
 | f+1,i,out,h=>by
  rw[zad (by omega)]
  show (if _ then _ else _)=zl6 ws (if _ then _ else _)
  by_cases h1:hasB 61 (zag ws i)=true
  ·rw[if_pos h1,if_pos h1]
   by_cases h2:zep (out ++ [zgf (zag ws i)])=true
   ·rw[if_pos h2,if_pos h2]
    exact zs4 ws f (i+1) _ (by omega)
   rw[if_neg h2,if_neg h2]
   rfl
  rw[if_neg h1,if_neg h1,← zad (by omega)]
  rfl
theorem zhr (ws:List Wd) (i:Nat) (out:List Setg):ztk (zam ws i) out=zl6 ws (zb8 ws i out):=zs4 ws _ i out rfl
theorem zs3 (ws:List Wd):∀ (f i:Nat) (out:List Setg),i≤(zlh ws f i out).2∧(zlh ws f i out).2≤max i ws.length
 | 0,i,out=>⟨Nat.le_refl _,Nat.le_max_left _ _⟩
 | f+1,i,out=>by
  by_cases h1:hasB 61 (zag ws i)=true
  ·have hl:=zso h1
   by_cases h2:zep (out ++ [zgf (zag ws i)])=true
   ·have e:zlh ws (f+1) i out=zlh ws f (i+1) (out ++ [zgf (zag ws i)]):=by
     show (if _ then _ else _)=_
     rw[if_pos h1,if_pos h2]
    rw[e]
    have:=zs3 ws f (i+1) (out ++ [zgf (zag ws i)])
    omega
   have e:zlh ws (f+1) i out=(none,i):=by
    show (if _ then _ else _)=_
    rw[if_pos h1,if_neg h2]
   rw[e]
   exact⟨Nat.le_refl _,Nat.le_max_left _ _⟩
  have e:zlh ws (f+1) i out=(some out,i):=by
   show (if _ then _ else _)=_
   rw[if_neg h1]
  rw[e]
  exact⟨Nat.le_refl _,Nat.le_max_left _ _⟩
theorem zfk (ws:List Wd) (i:Nat) (out:List Setg):i≤(zb8 ws i out).2∧(zb8 ws i out).2≤max i ws.length:=zs3 ws _ i out
theorem zow:zlo ⟨#[]⟩=false:=by
 unfold zlo
 rw[show (cutB 64 (⟨#[]⟩ : ByteArray))=(⟨#[]⟩,⟨#[]⟩,false) from by kernel_rfl]
 rfl
theorem zjr (ws:List Wd) (i:Nat):wishL (zam ws i)=zl6 ws (zed ws i):=by
 by_cases h:i < ws.length
 ·rw[zad h]
  show (if _ then _ else _)=_
  unfold zed
  by_cases h1:zlo (zag ws i)=true
  ·rw[if_pos h1,if_pos h1,zhr]
   rcases zb8 ws (i+1) [] with⟨_ | l,j⟩ <;> rfl
  rw[if_neg h1,if_neg h1]
  rfl
 rw[zay (by omega)]
 unfold zed
 rw[zeu (by omega),if_neg (by rw[zow];simp)]
 rfl
theorem zrp {ws:List Wd} {i j:Nat} {s:Spc3} (h:zed ws i=(some s,j)):i < j∧j≤ws.length:=by
 have hi:i < ws.length:=by
  apply Nat.lt_of_not_le
  intro hk
  unfold zed at h
  rw[zeu hk,if_neg (by rw[zow];simp)] at h
  cases h
 unfold zed at h
 by_cases h1:zlo (zag ws i)=true
 ·rw[if_pos h1] at h
  have h2:=zfk ws (i+1) []
  have h3:(zb8 ws (i+1) []).2=j:=congrArg Prod.snd h
  omega
 rw[if_neg h1] at h
 cases h
theorem zl0 (ws:List Wd) (i:Nat):condL (zam ws i)=zl6 ws (zbx ws i):=by
 by_cases h:i < ws.length
 ·rw[zad h]
  show (if _ then _ else _)=_
  unfold zbx
  by_cases h1:zag ws i=ze7
  ·rw[if_pos h1,if_pos h1]
   rfl
  rw[if_neg h1,if_neg h1]
  by_cases h2:zgu (zag ws i)=true
  ·rw[if_pos h2,if_pos h2]
   by_cases h3:zfl (zin (zag ws i))=true
   ·rw[if_pos h3,if_pos h3,zhr]
    rcases zb8 ws (i+1) [] with⟨_ | l,j⟩ <;> rfl
   rw[if_neg h3,if_neg h3]
   rfl
  rw[if_neg h2,if_neg h2]
  by_cases h3:hasB 61 (zag ws i)=true
  ·rw[if_pos h3,if_pos h3,← zad h,zhr]
   rcases zb8 ws i [] with⟨_ | l,j⟩ <;> rfl
  rw[if_neg h3,if_neg h3]
  rfl
 rw[zay (by omega)]
 unfold zbx
 rw[zeu (by omega),if_neg (by decide),if_neg (by decide),if_neg (by rw[znd];simp)]
 rfl
theorem cut_parts (c:UInt8) (s:ByteArray):(∃ k:Nat,indexByte s.data.toList c=k∧k < s.data.toList.length∧s.data.toList[k]? = some c∧hasB c s=true∧cutB c s=(⟨(s.data.toList.take k).toArray⟩,⟨(s.data.toList.drop (k+1)).toArray⟩,true)) ∨
  (hasB c s=false∧cutB c s=(s,⟨#[]⟩,false)):=by
 obtain⟨l,hl⟩ : ∃ l,l=s.data.toList:=⟨_,rfl⟩
 have hs:s=⟨l.toArray⟩:=Txt.ext (by rw[hl])
 unfold hasB cutB cut
 rw[← hl,index_one]
 have hge:=indexByte_ge l c
 by_cases h:0≤indexByte l c
 ·left
  obtain⟨k,hk⟩ : ∃ k:Nat,indexByte l c=k:=⟨(indexByte l c).toNat,by omega⟩
  have h1:=(indexByte_some hk).1
  refine⟨k,hk,(List.getElem?_eq_some_iff.1 h1).1,h1,decide_eq_true h,?_⟩
  rw[if_pos h,hk]
  rfl
 right
 refine⟨decide_eq_false h,?_⟩
 rw[if_neg h,hs]
theorem cut_none {c:UInt8} {s:ByteArray} (h:(cutB c s).2.2=false):(cutB c s).1=s:=by
 rcases cut_parts c s with⟨k,_,_,_,_,e⟩ | ⟨_,e⟩
 ·rw[e] at h
  cases h
 rw[e]
def setT (x:Setg):ByteArray:=x.1 ++ ⟨#[61]⟩ ++ x.2
open Classical in
noncomputable def spT (L:List BSp):ByteArray:=if h:∃ l,tB l=L then zdd h.choose else ⟨#[]⟩
theorem tB_inj:∀ {a b:List Tp},tB a=tB b→a=b
 | [],[],_=>rfl
 | [],_ :: _,h=>by simp[tB] at h
 | _ :: _,[],h=>by simp[tB] at h
 | x :: a,y :: b,h=>by
  have h1:x.1=y.1∧tB a=tB b:=by simpa [tB] using h
  rw[Subtype.ext h1.1,tB_inj h1.2]
theorem spT_tB (l:List Tp):spT (tB l)=zdd l:=by
 unfold spT
 have h:∃ k,tB k=tB l:=⟨l,rfl⟩
 rw[dif_pos h,tB_inj h.choose_spec]
open Classical in
noncomputable def zbk (s:Spc3):ByteArray:=if s.2.1=allV then s.1 else s.1 ++ (⟨#[64]⟩ ++ spT s.2.1)
open Classical in
noncomputable def zbf (s:Spc3):List ByteArray :=
 if (if zbk s=noT then [] else [zbk s]) ++ s.2.2.map setT = [] then [ze7] else (if zbk s=noT then [] else [zbk s]) ++ s.2.2.map setT
def Stop (r:List ByteArray):Prop:=∀ x,r.head? = some x→hasB 61 x=false
theorem ne_app {a b:ByteArray} (h:a≠noT):a ++ b≠noT:=by
 intro e
 apply h
 have h1:=congrArg (fun x:ByteArray=>x.data.toList) e
 simp only[Go.Joins.data_append] at h1
 exact Txt.ext (List.append_eq_nil_iff.1 h1).1
end
end Go.Proofs.YthgibhhbmmkjmaaGreatDoor
