/- Walks and plain facts. Texts merged: RefLs, VerR, ItOwn, Split, ResTwo, Parts, VerAt, VerCmp, Txs, SpnA, SpnB, SpnC, SpnT, SpnD, SpnK. Condition: none beyond what each says. -/
import Derived.Laws.Rows
import Derived.Laws.ResultCell
import Derived.RangeFuncNested
import Derived.RangeFuncBox
import Derived.RangeFuncCalls
import Derived.RangeFuncLeaves
import Derived.Shelf.Abstract
import Derived.OwnWalkIn
import Derived.TacticsInMore
import Derived.LoopNIn
import Derived.LoopIn
import Derived.Deep.RegionHeld3
import Derived.Deep.CutRange
import Derived.Lib.SmallJoins
import Derived.Lib.CutLaws
import Derived.Deep.DeepCutAuto
import Derived.Test.YteailgjiifdgcaaGreatDoorPrintSpecsAll3
set_option linter.unusedVariables false
set_option linter.unusedSimpArgs false
set_option maxRecDepth 10000
set_option maxHeartbeats 4000000
namespace Go.Proofs.YteailgjiifdgcaaGreatDoor
section
open Go.RowKit Go.Lib VerN
theorem zhu (c:UInt8) (s:ByteArray) (i:Nat):((cutS c s).getD i zfp).data.toList=(cutL c s.data.toList).getD i []:=by
 rw[← zfv]
 by_cases h:i < (cutS c s).length
 ·rw[zgw (by rw[List.length_map];exact h),List.getElem_map,List.getD,List.getElem?_eq_getElem h];rfl
 rw[zgx (by rw[List.length_map];omega),List.getD,List.getElem?_eq_none (by omega)];rfl
theorem zod (c:UInt8) (s:ByteArray) (hs:s.size≤1000000) (i:Nat):((cutS c s).getD i zfp).size≤1000000:=by
 by_cases h:i < (cutS c s).length
 ·rw[List.getD,List.getElem?_eq_getElem h]
  have:=zes (List.getElem_mem h)
  show (cutS c s)[i].size≤1000000
  omega
 rw[List.getD,List.getElem?_eq_none (by omega)];decide
theorem zeo (a b:ByteArray) (ha:a.size≤1000000) (hb:b.size≤1000000) (w:World):Calls Tryz.prog 117 #[.string a,.string b] w fun e w'=>e = .returned (.bool (zen a.data.toList b.data.toList))∧Below w.heap.size w w':=by
 obtain⟨r,hr⟩ : ∃ r,r=zen a.data.toList b.data.toList:=⟨_,rfl⟩
 have hP:=fun W=>zj9 a ha W
 have hQ:=fun W=>zj9 b hb W
 obtain⟨p,hp⟩ : ∃ x,x=mayL a.data.toList:=⟨_,rfl⟩
 obtain⟨q,hq⟩ : ∃ x,x=mayL b.data.toList:=⟨_,rfl⟩
 have hv:r=if p=false∨q=false then !p && q else zdf (cutL 46 a.data.toList) (cutL 46 b.data.toList) 0 (max (cutL 46 a.data.toList).length (cutL 46 b.data.toList).length):=by rw[hr,hp,hq];rfl
 rw[← hr]
 rw[← hp] at hP
 rw[← hq] at hQ
 cases p with
 | false =>
  have h0:q=r:=by rw[hv];simp
  obtain⟨Hr,HP,HQ,Hp,Hq,Hv,H0⟩:=hd7 hr hP hQ hp hq hv h0;clear hr hP hQ hp hq hv h0
  go_enter Tryz.func117,Tryz.ntmps117
  go_wp2_with fail
  refine (HP.out _).mono ?_
  rintro e w1 ⟨rfl,hb1⟩
  have hP2:=HP.out w1
  obtain⟨Hb1,HP2⟩:=hd2 hb1 hP2;clear hb1 hP2
  go_wp2_with fail
  refine HP2.out.mono ?_
  rintro e w2 ⟨rfl,hb2⟩
  have hb3:=Hb1.out.trans (hb2.mono Hb1.out.size)
  have hQ2:=HQ.out w2
  obtain⟨Hb2,Hb3,HQ2⟩:=hd3 hb2 hb3 hQ2;clear hb2 hb3 hQ2
  go_wp2_with fail
  refine HQ2.out.mono ?_
  rintro e w3 ⟨rfl,hb4⟩
  have hb5:=Hb3.out.trans (hb4.mono Hb3.out.size)
  obtain⟨Hb4,Hb5⟩:=hd2 hb4 hb5;clear hb4 hb5
  go_wp2_with fail
  go_ret
  exact⟨zaf H0.out,Hb5.out⟩
 | true =>
  cases q with
  | false =>
   have h0:r=false:=by rw[hv];rfl
   obtain⟨Hr,HP,HQ,Hp,Hq,Hv,H0⟩:=hd7 hr hP hQ hp hq hv h0;clear hr hP hQ hp hq hv h0
   go_enter Tryz.func117,Tryz.ntmps117
   go_wp2_with fail
   refine (HP.out _).mono ?_
   rintro e w1 ⟨rfl,hb1⟩
   have hQ2:=HQ.out w1
   obtain⟨Hb1,HQ2⟩:=hd2 hb1 hQ2;clear hb1 hQ2
   go_wp2_with fail
   refine HQ2.out.mono ?_
   rintro e w2 ⟨rfl,hb2⟩
   have hb3:=Hb1.out.trans (hb2.mono Hb1.out.size)
   have hP2:=HP.out w2
   obtain⟨Hb2,Hb3,HP2⟩:=hd3 hb2 hb3 hP2;clear hb2 hb3 hP2
   go_wp2_with fail
   refine HP2.out.mono ?_
   rintro e w3 ⟨rfl,hb4⟩
   have hb5:=Hb3.out.trans (hb4.mono Hb3.out.size)
   obtain⟨Hb4,Hb5⟩:=hd2 hb4 hb5;clear hb4 hb5
   go_wp2_with fail
   go_ret
   exact⟨zaf H0.out.symm,Hb5.out⟩
  | true =>
   obtain⟨ps,hps⟩ : ∃ x,x=cutS 46 a:=⟨_,rfl⟩
   obtain⟨qs,hqs⟩ : ∃ x,x=cutS 46 b:=⟨_,rfl⟩
   obtain⟨xs,hxs⟩ : ∃ x,x=cutL 46 a.data.toList:=⟨_,rfl⟩
   obtain⟨ys,hys⟩ : ∃ x,x=cutL 46 b.data.toList:=⟨_,rfl⟩
   have h0:r=zdf xs ys 0 (max xs.length ys.length):=by rw[hv,hxs,hys];rfl
   obtain⟨m,hm⟩ : ∃ m,m=xs.length:=⟨_,rfl⟩
   obtain⟨n,hn⟩ : ∃ m,m=ys.length:=⟨_,rfl⟩
   have hm8:m≤8:=by rw[hm,hxs];exact ((zcp _).1 hp.symm).2.2.2
   have hn8:n≤8:=by rw[hn,hys];exact ((zcp _).1 hq.symm).2.2.2
   have hC:=fun W=>zhx a ha 46 (by omega) W
   have hC2:=fun W=>zhx b hb 46 (by omega) W
   rw[show UInt8.ofNat 46=(46:UInt8) from rfl,zc1,← hxs,← hm,← hps] at hC
   rw[show UInt8.ofNat 46=(46:UInt8) from rfl,zc1,← hys,← hn,← hqs] at hC2
   rw[← hm,← hn] at h0
   obtain⟨N,hN⟩ : ∃ N,N=max m n:=⟨_,rfl⟩
   rw[← hN] at h0
   have gx:∀ i,(ps.getD i zfp).data.toList=xs.getD i []:=fun i=>by rw[hps,hxs];exact zhu 46 a i
   have gy:∀ i,(qs.getD i zfp).data.toList=ys.getD i []:=fun i=>by rw[hqs,hys];exact zhu 46 b i
   have zx:∀ i,(ps.getD i zfp).size≤1000000:=fun i=>by rw[hps];exact zod 46 a ha i
   have zy:∀ i,(qs.getD i zfp).size≤1000000:=fun i=>by rw[hqs];exact zod 46 b hb i
   obtain⟨Hr,HP,HQ,Hp,Hq,Hv,H0,Hps,Hqs,Hxs,Hys,Hm,Hn,HC,HC2,Hgx⟩:=hd16 hr hP hQ hp hq hv h0 hps hqs hxs hys hm hn hC hC2 gx;obtain⟨Hgy,Hzx,Hzy,HN⟩:=hd4 gy zx zy hN;clear hr hP hQ hp hq hv h0 hps hqs hxs hys hm hn hC hC2 gx gy zx zy hN
   go_enter Tryz.func117,Tryz.ntmps117
   go_wp2_with fail
   refine (HP.out _).mono ?_
   rintro e w1 ⟨rfl,hb1⟩
   have hQ2:=HQ.out w1
   obtain⟨Hb1,HQ2⟩:=hd2 hb1 hQ2;clear hb1 hQ2
   go_wp2_with fail
   refine HQ2.out.mono ?_
   rintro e w2 ⟨rfl,hb2⟩
   have hb3:=Hb1.out.trans (hb2.mono Hb1.out.size)
   have hC3:=HC.out w2
   obtain⟨Hb2,Hb3,HC3⟩:=hd3 hb2 hb3 hC3;clear hb2 hb3 hC3
   go_wp2_with fail
   refine HC3.out.mono ?_
   rintro e w3 ⟨v1,rfl,o1,hb4⟩
   have hb5:=Hb3.out.trans (hb4.mono Hb3.out.size)
   have hC4:=HC2.out w3
   obtain⟨a1,cap1,rfl⟩:=zaj o1
   obtain⟨Hb4,Hb5,HC4,Ho1⟩:=hd4 hb4 hb5 hC4 o1;clear hb4 hb5 hC4 o1
   go_wp2_with fail
   refine HC4.out.mono ?_
   rintro e w4 ⟨v2,rfl,o2,hb6⟩
   have hb7:=Hb5.out.trans (hb6.mono Hb5.out.size)
   have o3:=zag Ho1.out hb6
   obtain⟨a2,cap2,rfl⟩:=zaj o2
   obtain⟨Hb6,Hb7,Ho2,Ho3⟩:=hd4 hb6 hb7 o2 o3;clear hb6 hb7 o2 o3
   clear Ho1 HC HC2 HC3 HC4 HQ2 HP HQ Hb1 Hb2 Hb3 Hb4 Hb5 Hb6
   go_wp2_with fail
   go_loop [7] (fun i=>∃ k:Nat,k≤N∧i = .int .i64 k∧r=zdf xs ys k (N - k)) (fun i=>N - (RowKit.intOf i).toNat)
   case atStart=>exact⟨0,Nat.zero_le _,rfl,H0.out⟩
   case round =>
    obtain⟨k,hk,rfl,hrk⟩:=hrel
    by_cases hlt:k < N
    ·obtain⟨x,hx⟩ : ∃ x,x=ps.getD k zfp:=⟨_,rfl⟩
     obtain⟨y,hy⟩ : ∃ x,x=qs.getD k zfp:=⟨_,rfl⟩
     have hX:=at1_any Ho3.out (by omega) k (by have:=HN.out;omega)
     have hY:=at1_any Ho2.out (by omega) k (by have:=HN.out;omega)
     rw[← hx] at hX
     rw[← hy] at hY
     have hB1:=zlv x y (by rw[hx];have:=Hzx.out k;omega) (by rw[hy];have:=Hzy.out k;omega) w4
     have hB2:=zlv y x (by rw[hy];have:=Hzy.out k;omega) (by rw[hx];have:=Hzx.out k;omega) w4
     obtain⟨u,hu⟩ : ∃ u,u=zb5 x.data.toList y.data.toList:=⟨_,rfl⟩
     obtain⟨v,hv⟩ : ∃ u,u=zb5 y.data.toList x.data.toList:=⟨_,rfl⟩
     rw[← hu] at hB1
     rw[← hv] at hB2
     have hr2:r=if u=true then true else if v=true then false else zdf xs ys (k+1) (N - (k+1)):=by
      rw[hrk,show N - k=(N - (k+1))+1 by omega,zdf,hu,hv,hx,hy,Hgx.out,Hgy.out]
     have hor:(k < m)∨(¬ k < m∧k < n):=by have:=HN.out;omega
     obtain⟨Hx,Hy,HX,HY,HB1,HB2,Hu,Hv,Hrk,Hr2⟩:=hd10 hx hy hX hY hB1 hB2 hu hv hrk hr2;clear hx hy hX hY hB1 hB2 hu hv hrk hr2
     rcases hor with h1 | ⟨h1,h2⟩
     ·have k1:decide ((k:Int) < (m:Int))=true:=decide_eq_true (by omega)
      cases u with
      | true =>
       have hf:r=true:=by rw[Hr2.out];rfl
       have Hf:=hd hf;clear hf
       go_wp2_with fail
       refine HX.out.mono ?_
       rintro e w5 ⟨rfl,rfl⟩
       go_wp2_with fail
       refine HY.out.mono ?_
       rintro e w5 ⟨rfl,rfl⟩
       go_wp2_with fail
       refine HB1.out.mono ?_
       rintro e w5 ⟨rfl,rfl⟩
       go_wp2_with fail
       go_ret
       exact⟨zaf Hf.out.symm,Hb7.out⟩
      | false =>
       cases v with
       | true =>
        have hf:r=false:=by rw[Hr2.out];rfl
        have Hf:=hd hf;clear hf
        go_wp2_with fail
        refine HX.out.mono ?_
        rintro e w5 ⟨rfl,rfl⟩
        go_wp2_with fail
        refine HY.out.mono ?_
        rintro e w5 ⟨rfl,rfl⟩
        go_wp2_with fail
        refine HB1.out.mono ?_
        rintro e w5 ⟨rfl,rfl⟩
        go_wp2_with fail
        refine HY.out.mono ?_
        rintro e w5 ⟨rfl,rfl⟩
        go_wp2_with fail
        refine HX.out.mono ?_
        rintro e w5 ⟨rfl,rfl⟩
        go_wp2_with fail
        refine HB2.out.mono ?_
        rintro e w5 ⟨rfl,rfl⟩
        go_wp2_with fail
        go_ret
        exact⟨zaf Hf.out.symm,Hb7.out⟩
       | false =>
        have hf:r=zdf xs ys (k+1) (N - (k+1)):=by rw[Hr2.out];rfl
        have Hf:=hd hf;clear hf
        go_wp2_with fail
        refine HX.out.mono ?_
        rintro e w5 ⟨rfl,rfl⟩
        go_wp2_with fail
        refine HY.out.mono ?_
        rintro e w5 ⟨rfl,rfl⟩
        go_wp2_with fail
        refine HB1.out.mono ?_
        rintro e w5 ⟨rfl,rfl⟩
        go_wp2_with fail
        refine HY.out.mono ?_
        rintro e w5 ⟨rfl,rfl⟩
        go_wp2_with fail
        refine HX.out.mono ?_
        rintro e w5 ⟨rfl,rfl⟩
        go_wp2_with fail
        refine HB2.out.mono ?_
        rintro e w5 ⟨rfl,rfl⟩
        go_wp2_with fail
        go_round
        case rel=>exact⟨k+1,by omega,by go_num,Hf.out⟩
        case measure=>simp[RowKit.intOf];omega
     have k1:decide ((k:Int) < (m:Int))=false:=decide_eq_false (by omega)
     have k2:decide ((k:Int) < (n:Int))=true:=decide_eq_true (by omega)
     cases u with
     | true =>
      have hf:r=true:=by rw[Hr2.out];rfl
      have Hf:=hd hf;clear hf
      go_wp2_with fail
      refine HX.out.mono ?_
      rintro e w5 ⟨rfl,rfl⟩
      go_wp2_with fail
      refine HY.out.mono ?_
      rintro e w5 ⟨rfl,rfl⟩
      go_wp2_with fail
      refine HB1.out.mono ?_
      rintro e w5 ⟨rfl,rfl⟩
      go_wp2_with fail
      go_ret
      exact⟨zaf Hf.out.symm,Hb7.out⟩
     | false =>
      cases v with
      | true =>
       have hf:r=false:=by rw[Hr2.out];rfl
       have Hf:=hd hf;clear hf
       go_wp2_with fail
       refine HX.out.mono ?_
       rintro e w5 ⟨rfl,rfl⟩
       go_wp2_with fail
       refine HY.out.mono ?_
       rintro e w5 ⟨rfl,rfl⟩
       go_wp2_with fail
       refine HB1.out.mono ?_
       rintro e w5 ⟨rfl,rfl⟩
       go_wp2_with fail
       refine HY.out.mono ?_
       rintro e w5 ⟨rfl,rfl⟩
       go_wp2_with fail
       refine HX.out.mono ?_
       rintro e w5 ⟨rfl,rfl⟩
       go_wp2_with fail
       refine HB2.out.mono ?_
       rintro e w5 ⟨rfl,rfl⟩
       go_wp2_with fail
       go_ret
       exact⟨zaf Hf.out.symm,Hb7.out⟩
      | false =>
       have hf:r=zdf xs ys (k+1) (N - (k+1)):=by rw[Hr2.out];rfl
       have Hf:=hd hf;clear hf
       go_wp2_with fail
       refine HX.out.mono ?_
       rintro e w5 ⟨rfl,rfl⟩
       go_wp2_with fail
       refine HY.out.mono ?_
       rintro e w5 ⟨rfl,rfl⟩
       go_wp2_with fail
       refine HB1.out.mono ?_
       rintro e w5 ⟨rfl,rfl⟩
       go_wp2_with fail
       refine HY.out.mono ?_
       rintro e w5 ⟨rfl,rfl⟩
       go_wp2_with fail
       refine HX.out.mono ?_
       rintro e w5 ⟨rfl,rfl⟩
       go_wp2_with fail
       refine HB2.out.mono ?_
       rintro e w5 ⟨rfl,rfl⟩
       go_wp2_with fail
       go_round
       case rel=>exact⟨k+1,by omega,by go_num,Hf.out⟩
       case measure=>simp[RowKit.intOf];omega
    obtain rfl:k=N:=by omega
    have k1:decide (k < m)=false:=decide_eq_false (by have:=HN.out;omega)
    have k2:decide (k < n)=false:=decide_eq_false (by have:=HN.out;omega)
    have hf:r=false:=by rw[hrk,Nat.sub_self];rfl
    obtain⟨Hrk,Hf⟩:=hd2 hrk hf;clear hrk hf
    go_wp2_with fail
    go_ret
    exact⟨zaf Hf.out.symm,Hb7.out⟩
end

section
open Go.RowKit Go.Lib VerN
def zp6 (l:List UInt8) (r m:Int) (x:ByteArray):Prop:=r=zcd l∧m=zdd l∧x.data.toList=zcw l
theorem zcv {fn:Func} {p u:Tmp} (hres:fn.results=#[.cell p 241,.tmp u]) {R:Ending→World→Prop} {a:Act} {w:World} {g:Nat} {x y z b:Value} (hp:a.tmps.getD p undef = .pointer (some ⟨g,0,none⟩)) (hu:a.tmps.getD u undef=b)
  (hg:w.heap[g]? = some (.cells #[x,y,z] 241 (0,0))) (hd:a.defers = []) (hR:R (.returned (.tuple #[.agg #[x,y,z],b])) w):bodyPost Tryz.prog fn R .ret a w:=by
 refine bodyPost_ret (v:=.tuple #[.agg #[x,y,z],b]) ?_ hd hR
 rw[results_cell_tmp hres,hp,hu]
 simp only[asAddr,Sem.run_pure,Result.andThen,run_loadVar_row w g 241 241 _ _ _ hg Tryz.underlying241 rfl (by kernel_rfl)]
theorem zi4 {v:Value} {a b:Bool} (h:a=b):Ending.returned (.tuple #[v,.bool a]) = .returned (.tuple #[v,.bool b]):=by rw[h]
theorem zc7 {w:World} {g:Nat} {t:TypeId} {x y z:Value} (h:w.heap[g]? = some (.cells #[x,y,z] t (0,0))):w.cell? ⟨g,0,none⟩=some x∧w.cell? ⟨g,1,none⟩=some y∧w.cell? ⟨g,2,none⟩=some z∧w.frozen? ⟨g,0,none⟩=false∧w.frozen? ⟨g,1,none⟩=false∧w.frozen? ⟨g,2,none⟩=false:=by
 have b0:=za5 h 0
 have b1:=za5 h 1
 have b2:=za5 h 2
 simp only[List.getElem?_toArray,List.getElem?_cons_zero,List.getElem?_cons_succ] at b0 b1 b2
 exact⟨b0,b1,b2,zad h 0,zad h 1,zad h 2⟩
theorem zg5 {w:World} {g:Nat} {t:TypeId} {x y z:Value} (u v q:Value) (h:w.heap[g]? = some (.cells #[x,y,z] t (0,0))):(((w.setCell ⟨g,0,none⟩ u).setCell ⟨g,1,none⟩ v).setCell ⟨g,2,none⟩ q).heap[g]? = some (.cells #[u,v,q] t (0,0)):=by
 have k0:=heap_setCell_same _ g 0 _ _ u h
 have k1:=heap_setCell_same _ g 1 _ _ v k0
 have k2:=heap_setCell_same _ g 2 _ _ q k1
 exact k2
theorem zg6 {B:Nat} {a w:World} {g:Nat} (u v q:Value) (h:Below B a w) (hg:B≤g):Below B a (((w.setCell ⟨g,0,none⟩ u).setCell ⟨g,1,none⟩ v).setCell ⟨g,2,none⟩ q) :=
 ((h.setCell (p:=⟨g,0,none⟩) hg _).setCell (p:=⟨g,1,none⟩) hg _).setCell (p:=⟨g,2,none⟩) hg _
def zrd (l:List UInt8) (w:World) (e:Ending) (w':World):Prop :=
 (∃ r m x,e = .returned (.tuple #[.agg #[.int .i64 r,.int .i64 m,.string x],.bool (zbs l)])∧(zbs l=true→zp6 l r m x))∧Below w.heap.size w w'
theorem read_part {l:List UInt8} (h:∀ v,atoiAll l≠.ok v):zbs l=zcb l:=by
 have h1:=read_is l
 unfold zny at h1
 unfold zbs
 rw[← h1]
 cases ha:atoiAll l with
 | ok v=>exact absurd ha (h v)
 | range=>unfold zcb;rw[Bool.and_comm]
 | _=>unfold zcb;rw[Bool.and_comm]
theorem zrc {l:List UInt8} {v:Int} (h:atoiAll l = .ok v):zbs l=(decide (0≤v) && decide (v≤999999999) && decide (itoa v=l)):=by
 have h1:=read_is l
 unfold zny at h1
 rw[h] at h1
 unfold zbs
 rw[← h1]
theorem num_part {l:List UInt8} {v:Int} (h:atoiAll l = .ok v) (hp:zbs l=true):zp6 l 2 v ⟨#[]⟩:=by
 have hd:zdx l=true:=by
  unfold zbs at hp
  cases hl:zcb l
  ·rw[hl] at hp;simpa using hp
  exfalso
  have h0:=zrc h
  rw[show zbs l=true from hp] at h0
  have h1:=h0.symm
  simp only[Bool.and_eq_true,decide_eq_true_eq] at h1
  obtain⟨u,rfl⟩ : ∃ u:Nat,v=u:=⟨v.toNat,by omega⟩
  have h2:=h1.2
  rw[zmx] at h2
  have hk:=dec_dig u
  rw[h2] at hk
  have:=(zhp hl).1
  unfold digs at this
  rw[hk.1] at this
  have hne:=hk.2.1
  cases l with
  | nil=>exact hne rfl
  | cons _ _=>simp at this
 have e:=zs2 hd
 rw[h] at e
 injection e with e
 refine⟨(zfl hd).symm,?_,?_⟩
 ·rw[e];unfold zdd;rw[if_neg (by rw[(zdj hd).2.1];simp)]
 unfold zcw;rw[if_neg (by rw[(zdj hd).2.1];simp)]
theorem let_part {l:List UInt8} (hp:zcb l=true) {x:ByteArray} (hx:x.data.toList=l):zp6 l 0 0 x :=
 ⟨(zhl hp).symm,by unfold zdd;rw[if_pos hp],by unfold zcw;rw[if_pos hp,hx]⟩
theorem read_any (s:ByteArray) (hs:s.size≤1000000) {w:World} (hD:zbk w):Calls Tryz.prog 206 #[.string s] w (zrd s.data.toList w):=by
 obtain⟨l,hl⟩ : ∃ l,l=s.data.toList:=⟨_,rfl⟩
 have hb1:Below w.heap.size w (w.alloc (.cells #[.int .i64 0,.int .i64 0,.string ⟨#[]⟩] 241)):=za2 _ _
 have hr1:(w.alloc (.cells #[.int .i64 0,.int .i64 0,.string ⟨#[]⟩] 241)).heap[w.heap.size]? = some (.cells #[.int .i64 0,.int .i64 0,.string ⟨#[]⟩] 241 (0,0)):=za8 rfl
 have hA:=atoi_any s (by omega) (hD.below hb1)
 have hln:l.length=s.size:=by rw[hl];exact Txt.len s
 rw[← hl] at hA ⊢
 obtain⟨Hl,Hb1,Hr1,HA,Hln⟩:=hd5 hl hb1 hr1 hA hln;clear hl hb1 hr1 hA hln
 go_enter Tryz.func206,Tryz.ntmps206
 go_wp2_with fail
 refine HA.out.mono ?_
 rintro e w2 ⟨⟨v,hv,rfl⟩ | ⟨hv,v,N,rfl⟩,hb2⟩
 ·have hp:=zrc hv
  have hrow:=za0 hb2 Hr1.out
  have hb:=Hb1.out.trans (hb2.mono Hb1.out.size)
  have hbd:=atoiAll_bounds hv
  obtain⟨c0,c1,c2,f0,f1,f2⟩:=zc7 hrow
  have hnum:=num_part hv
  by_cases h0:0≤v
  ·by_cases h9:v≤999999999
   ·have k1:decide (0≤v)=true:=decide_eq_true h0
    have k2:decide (v≤999999999)=true:=decide_eq_true h9
    have hI:=itoa_any v (by omega) (by omega) (hD.below hb)
    have hpb:(itoa v == s.toList)=zbs l:=by
     rw[hp,decide_eq_true h0,decide_eq_true h9,toList_data,← Hl.out]
     simp only[Bool.and_self,Bool.true_and]
     by_cases h:itoa v=l
     ·rw[h];simp
     rw[decide_eq_false h];exact beq_eq_false_iff_ne.2 h
    obtain⟨Hp,Hv,Hrow,Hb,Hbd,Hnum,HI,Hpb,H0,H9,HD,Hs⟩:=hd12 hp hv hrow hb hbd hnum hI hpb h0 h9 hD hs;clear hp hv hrow hb hbd hnum hI hpb h0 h9 hD hs
    clear c0 c1 c2 f0 f1 f2 hb2
    go_wp2_with fail
    refine HI.out.mono ?_
    rintro e w3 ⟨rfl,hb3⟩
    have hrow3:=za0 hb3 Hrow.out
    obtain⟨c0,c1,c2,f0,f1,f2⟩:=zc7 hrow3
    have hbw:=Hb.out.trans (hb3.mono Hb.out.size)
    obtain⟨Hrow3,Hbw,Hb3⟩:=hd3 hrow3 hbw hb3;clear hrow3 hbw hb3
    go_wp2_with fail
    refine zcv rfl rfl rfl (zg5 _ _ _ Hrow3.out) rfl ?_
    exact⟨⟨_,_,_,zi4 Hpb.out,Hnum.out⟩,zg6 _ _ _ Hbw.out (Nat.le_refl _)⟩
   have k1:decide (0≤v)=true:=decide_eq_true h0
   have k2:decide (v≤999999999)=false:=decide_eq_false h9
   have hpb:zbs l=false:=by rw[hp,decide_eq_false h9];simp
   obtain⟨Hp,Hv,Hrow,Hb,Hbd,Hnum,Hpb,H0,H9,HD,Hs⟩:=hd11 hp hv hrow hb hbd hnum hpb h0 h9 hD hs;clear hp hv hrow hb hbd hnum hpb h0 h9 hD hs
   go_wp2_with fail
   refine zcv rfl rfl rfl (zg5 _ _ _ Hrow.out) rfl ?_
   exact⟨⟨_,_,_,zi4 Hpb.out.symm,Hnum.out⟩,zg6 _ _ _ Hb.out (Nat.le_refl _)⟩
  have k1:decide (0≤v)=false:=decide_eq_false h0
  have hpb:zbs l=false:=by rw[hp,decide_eq_false h0];simp
  obtain⟨Hp,Hv,Hrow,Hb,Hbd,Hnum,Hpb,H0,HD,Hs⟩:=hd10 hp hv hrow hb hbd hnum hpb h0 hD hs;clear hp hv hrow hb hbd hnum hpb h0 hD hs
  go_wp2_with fail
  refine zcv rfl rfl rfl (zg5 _ _ _ Hrow.out) rfl ?_
  exact⟨⟨_,_,_,zi4 Hpb.out.symm,Hnum.out⟩,zg6 _ _ _ Hb.out (Nat.le_refl _)⟩
 have hp:=read_part hv
 have hrow:=za0 hb2 Hr1.out
 have hb:=Hb1.out.trans (hb2.mono Hb1.out.size)
 obtain⟨c0,c1,c2,f0,f1,f2⟩:=zc7 hrow
 obtain⟨sz,hsz⟩ : ∃ sz,sz=s.size:=⟨_,rfl⟩
 obtain⟨Hp,Hv,Hrow,Hb,HD⟩:=hd5 hp hv hrow hb hD;clear hp hv hrow hb hD
 clear hb2
 go_wp2_with fail
 go_loop [6,30] (fun _ i=>∃ k:Nat,k≤s.size∧i = .int .i64 k∧(l.take k).all ziy=true) (fun _ i=>s.size - (RowKit.intOf i).toNat)
 case atStart=>exact⟨0,Nat.zero_le _,rfl,by simp⟩
 case round =>
  obtain⟨k,hk,rfl,hall⟩:=hrel
  by_cases hlt:k < s.size
  ·have hkl:k < l.length:=by have:=Hln.out;omega
   obtain⟨n,hn⟩ : ∃ n,n=s[k].toNat:=⟨_,rfl⟩
   have hn256:n < 256:=by rw[hn];exact s[k].toNat_lt
   have hsk:s[k].toNat=n:=hn.symm
   have e:l[k]=s[k]:=by simp only[Hl.out];rfl
   have hyes:97≤n→n≤122→(l.take (k+1)).all ziy=true:=fun h1 h2=>by
    rw[List.take_succ_eq_append_getElem hkl,List.all_append,hall]
    simp only[List.all_cons,List.all_nil,Bool.and_true,Bool.true_and]
    rw[zdo,e,hsk];exact⟨h1,h2⟩
   have hno:¬ (97≤n∧n≤122)→zbs l=false:=fun h=>by
    rw[Hp.out,Bool.eq_false_iff]
    intro h2
    unfold zcb at h2
    rw[Bool.and_eq_true] at h2
    have:=List.all_eq_true.1 h2.2 l[k] (List.getElem_mem hkl)
    rw[zdo,e,hsk] at this
    exact h this
   clear hn e hkl
   rcases Nat.lt_or_ge n 97 with h1 | h1
   ·have hf:=hno (by omega)
    have k1:decide ((n:Int) < 97)=true:=decide_eq_true (by omega)
    obtain⟨Hall,Hyes,Hno,Hf⟩:=hd4 hall hyes hno hf;clear hall hyes hno hf
    go_wp2_with fail
    refine zcv rfl rfl rfl (zg5 _ _ _ Hrow.out) rfl ?_
    exact⟨⟨_,_,_,zi4 Hf.out.symm,fun h=>by rw[Hf.out] at h;cases h⟩,zg6 _ _ _ Hb.out (Nat.le_refl _)⟩
   have k1:decide ((n:Int) < 97)=false:=decide_eq_false (by omega)
   rcases Nat.lt_or_ge 122 n with h2 | h2
   ·have hf:=hno (by omega)
    have k2:decide (122 < (n:Int))=true:=decide_eq_true (by omega)
    obtain⟨Hall,Hyes,Hno,Hf⟩:=hd4 hall hyes hno hf;clear hall hyes hno hf
    go_wp2_with fail
    refine zcv rfl rfl rfl (zg5 _ _ _ Hrow.out) rfl ?_
    exact⟨⟨_,_,_,zi4 Hf.out.symm,fun h=>by rw[Hf.out] at h;cases h⟩,zg6 _ _ _ Hb.out (Nat.le_refl _)⟩
   have k2:decide (122 < (n:Int))=false:=decide_eq_false (by omega)
   have hnext:=hyes h1 h2
   obtain⟨Hall,Hyes,Hno,Hnext⟩:=hd4 hall hyes hno hnext;clear hall hyes hno hnext
   go_wp2_with fail
   go_round
   case rel=>exact⟨k+1,by omega,by go_num,Hnext.out⟩
   case measure=>simp[RowKit.intOf];omega
  obtain rfl:k=s.size:=by omega
  have hall2:l.all ziy=true:=by rw[List.take_of_length_le (by have:=Hln.out;omega)] at hall;exact hall
  have hf:zbs l = !s.toList.isEmpty:=by
   rw[Hp.out]
   unfold zcb
   rw[hall2,Bool.and_true,Txt.no_dec]
   have:=Hln.out
   cases l with
   | nil=>simp at this;rw[decide_eq_true (by omega)];rfl
   | cons x r=>simp at this;rw[decide_eq_false (by omega)];rfl
  have hlp:zbs l=true→zp6 l 0 0 s:=fun h=>let_part (by rw[← Hp.out];exact h) Hl.out.symm
  obtain⟨Hall,Hall2,Hf,Hlp⟩:=hd4 hall hall2 hf hlp;clear hall hall2 hf hlp
  go_wp2_with fail
  refine zcv rfl rfl rfl (zg5 _ _ _ Hrow.out) rfl ?_
  exact⟨⟨_,_,_,zi4 Hf.out.symm,Hlp.out⟩,zg6 _ _ _ Hb.out (Nat.le_refl _)⟩
end

section
open Go.RowKit Go.Shelf
def Lets {β:Type} (b:Nat) (J:β→World→Prop):Prop:=∀ s W (i:Nat) u,J s W→J s (W.setCell ⟨b,i,none⟩ u)
def zev (S:Nat→Prop) (W W':World):Prop:=∀ k,S k→W'.heap[k]? = W.heap[k]?
theorem zev.refl (S:Nat→Prop) (W:World):zev S W W:=fun _ _=>rfl
theorem zev.trans {S:Nat→Prop} {A B C:World} (h:zev S A B) (k:zev S B C):zev S A C:=fun i hi=>(k i hi).trans (h i hi)
theorem zev.below {S:Nat→Prop} {W W':World} (hS:∀ k,S k→k < W.heap.size) (h:Below W.heap.size W W'):zev S W W':=fun k hk=>h.block k (hS k hk)
theorem zev.put {S:Nat→Prop} {W:World} {l:Nat} (h:¬ S l) (o:Obj):zev S W (W.putObj l o):=fun k hk=>World.putObj_heap_other (fun e=>h (by rw[← e];exact hk))
theorem zev.set {S:Nat→Prop} {W:World} {p:Addr} (h:¬ S p.block) (u:Value):zev S W (W.setCell p u):=fun k hk=>Below.heap_setCell _ _ _ _ (fun e=>h (by rw[← e];exact hk))
def SeqOwn {α:Type} (F:Fence) (n:Nat) (P:Program) (g:Nat) (lb:Array Value) (enc:α→Value) (K:Nat→Prop) (b:Nat) (Px:List α→α→Prop) (S Sp:List α→Prop) (w:World):Prop :=
 ∀ (l:Nat) (J Jx:List α→World→Prop) (W:World),Below w.heap.size w W→AbidesFrom W.heap.size J→AbidesFrom W.heap.size Jx→Lets b J→Lets b Jx →
  (∀ pre x W1,J pre W1→Px pre x→YieldAt F (n - 1) P l #[enc x] W1 fun e W' =>
   (e = .returned (.bool true)∧J (pre ++ [x]) W'∧zev K W1 W')∨(e = .returned (.bool false)∧Jx (pre ++ [x]) W')) →
  J [] W →
  CallsIn F n P g (#[.func (.yield l) #[] #[]] ++ lb) W fun e W'=>(∃ v,e = .returned v)∧((∃ xs,S xs∧J xs W')∨(∃ pre,Sp pre∧Jx pre W'))
def ownEnd {α:Type} (B:Nat) (K:Nat→Prop) (I Ix:List α→World→Prop) (xs:List α) (W:World):Exit→Act→World→Prop
 | .normal,_,W'=>KeepsFrom B W W'∧zev K W W'∧I xs W'
 | .ret,_,W'=>KeepsFrom B W W'∧Ix xs W'
 | _,_,_=>False
theorem za3 {W:World} {k b i:Nat} {u:Value} {o:Obj} (h:W.heap[k]? = some o) (hne:k≠b):(W.setCell ⟨b,i,none⟩ u).heap[k]? = some o :=
 (Below.heap_setCell _ _ _ _ hne).trans h
variable {F : Fence} {n : Nat} {P : Program}
theorem zgm {α:Type} {g:Operand} {ps:Array Tmp} {assign body:Code} {Q:Exit→Act→World→Prop} {a:Act} {w:World}
  (hro:F.round=none) (h1:1≤n) {gf:Nat} {lb:Array Value} (hg:a.eval g = .func (.func gf) #[] lb) (hFg:F.fn gf) (eg:∀ args w,(callFunc gf args).run P w = .ok (.enter gf args) w)
  {enc:α→Value} {Kb:Nat→Prop} {b:Nat} {Px:List α→α→Prop} {S Sp:List α→Prop} {w0:World} (hseq:SeqOwn F (n - 1) P gf lb enc Kb b Px S Sp w0)
  (hKb:∀ k,Kb k→k < w.heap.size) (hb:b < w.heap.size) (hb0:Below w0.heap.size w0 w) (hps:ps.size=1)
  (I Ix:List α→World→Prop) (hI:OwnFrom w.heap.size I) (hIx:OwnFrom w.heap.size Ix) (hIb:Lets b I) (hIxb:Lets b Ix) (h0:I [] w) (a₁:α→Act)
  (hassign:∀ (l:Nat) (x:α) (W:World) (K:Act→World→Prop),K (a₁ x) W →
   assign.wpIn (F.inRound l) (n - 1 - 1) P (Exit.then K (fun _ _ _=>False)) { tmps:=(ps.zip #[enc x]).foldl (fun t (p,v)=>t.setIfInBounds p v) a.tmps,defers:=[] } W)
  (hbody:∀ (l:Nat) (pre:List α) (x:α) (W:World),I pre W→Px pre x→body.wpIn (F.inRound l) (n - 1 - 1) P (ownEnd w.heap.size Kb I Ix (pre ++ [x]) W) (a₁ x) W)
  (hdone:∀ (D:Nat) (xs:List α) (W:World),w.heap.size≤D→S xs→I xs W→W.heap[D]? = some (.deferred (some []))→Q .normal { a with defers:={ target:=.collected D,args:=#[] } :: a.defers } W)
  (hstop:∀ (D:Nat) (pre:List α) (W:World),w.heap.size≤D→Sp pre→Ix pre W→W.heap[D]? = some (.deferred (some []))→Code.ret.wpIn F n P Q { a with defers:={ target:=.collected D,args:=#[] } :: a.defers } W) :
  (Code.rangeFunc g ps assign body).wpIn F n P Q a w:=by
 refine wpIn_rangeFunc fun fn hfn=>?_
 rw[hro]
 obtain⟨rec,hrec⟩ : ∃ rec:LoopState→Option Code→Loop,rec=fun st pe=>{ state:=st,pending:=pe,fn,tmps:=a.tmps,params:=ps,assign,body,defers:=w.heap.size }:=⟨_,rfl⟩
 obtain⟨W1,hW1⟩ : ∃ W1,(w.alloc (.deferred (some []))).alloc (.loop (rec .ready none))=W1:=⟨_,rfl⟩
 have hL1:W1.heap[w.heap.size+1]? = some (.loop (rec .ready none)):=by
  rw[← hW1]
  have:=World.alloc_heap_new (w.alloc (.deferred (some []))) (.loop (rec .ready none))
  rwa [World.size_alloc] at this
 have hK1:W1.heap[w.heap.size]? = some (.deferred (some [])):=by
  rw[← hW1]
  exact (Below.heap_alloc _ _ _ (by simp)).trans (World.alloc_heap_new w _)
 have hI1:I [] W1:=by rw[← hW1];exact hI.alloc _ (hI.alloc _ h0)
 have hs1:W1.heap.size=w.heap.size+2:=by rw[← hW1];simp
 have hb1:Below w0.heap.size w0 W1:=by
  rw[← hW1]
  exact hb0.trans ((((Below.refl _ w).alloc (Nat.le_refl _) _).alloc (by simp) _).mono hb0.size)
 refine⟨w.heap.size+1,[{ target:=.collected w.heap.size,args:=#[] }],W1,{ target:=.fn (.func gf) lb,args:=#[.func (.yield (w.heap.size+1)) #[] #[]] },W1,gf,
  #[.func (.yield (w.heap.size+1)) #[] #[]] ++ lb,W1,?_,?_,?_,?_,fun _=>h1,?_⟩
 ·rw[← hW1,hrec];exact run_enterLoop_outer _ _ _ _ _
 ·simp only[resolve,hg]
  simp[go_sem]
 ·intro f' hf'
  simp[Target.leads] at hf'
  subst hf'
  exact hFg
 ·simp[invoke,go_sem,eg]
 -- the record and the block of what is put off lie as they lay,whatever the iterator does
 have kp:∀ {A B:World} {row:Option Nat} {k:Nat} {o:Obj},A.grownBy B row→(∀ r,row=some r→W1.heap.size≤r∧∃ o:Obj,A.heap[r]? = some o∧o.isWalk=true)→k < W1.heap.size→A.heap[k]? = some o→B.heap[k]? = some o:=fun hg' hr hk ho =>
  (hg'.block _ (Array.getElem?_eq_some_iff.1 ho).1 (fun e=>by have:=(hr _ e.symm).1;omega)).trans ho
 have nw:∀ {A:World} {row:Option Nat},(∀ r,row=some r→W1.heap.size≤r∧∃ o:Obj,A.heap[r]? = some o∧o.isWalk=true)→(∀ r,row=some r→w.heap.size≤r∧∃ o:Obj,A.heap[r]? = some o∧o.isCells=false):=fun hr r e=>by
  obtain⟨h2,o,h3,h4⟩:=hr r e
  exact⟨by omega,o,h3,Obj.not_cells_of_walk h4⟩
 refine (hseq (w.heap.size+1)
  (fun pre W=>I pre W∧W.heap[w.heap.size+1]? = some (.loop (rec .ready none))∧W.heap[w.heap.size]? = some (.deferred (some [])))
  (fun pre W=>Ix pre W∧W.heap[w.heap.size+1]? = some (.loop (rec .done (some .ret)))∧W.heap[w.heap.size]? = some (.deferred (some [])))
  W1 hb1
  (fun s A B row hs hg' hr=>⟨hI s A B row hs.1 hg' (nw hr),kp hg' hr (by omega) hs.2.1,kp hg' hr (by omega) hs.2.2⟩)
  (fun s A B row hs hg' hr=>⟨hIx s A B row hs.1 hg' (nw hr),kp hg' hr (by omega) hs.2.1,kp hg' hr (by omega) hs.2.2⟩)
  (fun s W i u hs=>⟨hIb s W i u hs.1,za3 hs.2.1 (by omega),za3 hs.2.2 (by omega)⟩)
  (fun s W i u hs=>⟨hIxb s W i u hs.1,za3 hs.2.1 (by omega),za3 hs.2.2 (by omega)⟩)
  ?_ ⟨hI1,hL1,hK1⟩).mono ?_
 · -- one round
  rintro pre x W ⟨hi,hl,hk⟩ hpx
  have hlt:w.heap.size+1 < W.heap.size:=(Array.getElem?_eq_some_iff.1 hl).1
  have hy:=run_yield (P:=P) (args:=#[enc x]) hl (by rw[hrec];exact hps.symm)
  rw[hrec] at hy
  refine⟨fn,_,assign,body,hy,roundIn_of_wpIn hfn (hassign _ x W _ ?_)⟩
  clear hy
  refine⟨_,run_beginRound hl (by rw[hrec]),?_⟩
  obtain⟨W2,hW2⟩ : ∃ W2,W2=W.putObj (w.heap.size+1) (.loop { rec .ready none with state:=.busy }):=⟨_,rfl⟩
  rw[← hW2]
  have hl2:W2.heap[w.heap.size+1]? = some (.loop { rec .ready none with state:=.busy }):=by rw[hW2];exact World.putObj_heap_same hlt
  have hk2:W2.heap[w.heap.size]? = some (.deferred (some [])):=by rw[hW2];exact (World.putObj_heap_other (by omega)).trans hk
  have hne:¬ Kb (w.heap.size+1):=fun h=>by have:=hKb _ h;omega
  have hw2:zev Kb W W2:=by rw[hW2];exact zev.put hne _
  have hi2:I pre W2:=by rw[hW2];exact hI.putObj _ hi (by omega) hl rfl
  refine wpIn_mono (hbody _ pre x W2 hi2 hpx) ?_
  have fin:∀ (jump:Option Code) (W3:World),KeepsFrom w.heap.size W2 W3 →
    ∃ W4,W4=W3.putObj (w.heap.size+1) (.loop (rec (if jump.isNone then .ready else .done) jump))∧(Instr.endRound (w.heap.size+1) jump).run P W3 = .ok (.bool jump.isNone) W4 ∧
    W3.heap[w.heap.size+1]? = some (.loop { rec .ready none with state:=.busy }) ∧
    W4.heap[w.heap.size+1]? = some (.loop (rec (if jump.isNone then .ready else .done) jump))∧W4.heap[w.heap.size]? = some (.deferred (some [])):=fun jump W3 hk3=>by
   have hl3:=hk3.same _ _ (by omega) hl2 rfl
   have hr:=run_endRound (P:=P) jump hl3
   refine⟨_,rfl,?_,hl3,World.putObj_heap_same (Array.getElem?_eq_some_iff.1 hl3).1,(World.putObj_heap_other (by omega)).trans (hk3.same _ _ (Nat.le_refl _) hk2 rfl)⟩
   rw[hrec] at hr ⊢
   exact hr
  rintro e a3 W3 hp
  cases e with
  | normal =>
   obtain⟨hk3,hkp3,hi3⟩:=hp
   obtain⟨W4,e4,hr,hl3,hl4,hk4⟩:=fin none W3 hk3
   refine⟨_,_,hr,.inl ⟨rfl,⟨?_,hl4,hk4⟩,?_⟩⟩
   ·rw[e4];exact hI.putObj _ hi3 (by omega) hl3 rfl
   rw[e4];exact (hw2.trans hkp3).trans (zev.put hne _)
  | ret =>
   obtain⟨hk3,hi3⟩:=hp
   obtain⟨W4,e4,hr,hl3,hl4,hk4⟩:=fin (some .ret) W3 hk3
   refine⟨_,_,hr,.inr ⟨rfl,?_,hl4,hk4⟩⟩
   rw[e4];exact hIx.putObj _ hi3 (by omega) hl3 rfl
  | exit id=>exact hp.elim
  | goto t=>exact hp.elim
  | panic ch=>exact hp.elim
  | outgrown=>exact hp.elim
 -- behind the iterator
 rintro e W2 ⟨⟨v,rfl⟩,(⟨xs,hS,hi,hl,hk⟩ | ⟨pre,hSp,hi,hl,hk⟩)⟩
 ·have hr:=run_endLoop (P:=P) hl (by rw[hrec];simp)
  rw[hrec] at hr
  exact⟨none,_,hr,hdone _ xs _ (Nat.le_refl _) hS (hI.putObj _ hi (by omega) hl rfl) ((World.putObj_heap_other (by omega)).trans hk)⟩
 have hr:=run_endLoop (P:=P) hl (by rw[hrec];simp)
 rw[hrec] at hr
 exact⟨some .ret,_,hr,hstop _ pre _ (Nat.le_refl _) hSp (hIx.putObj _ hi (by omega) hl rfl) ((World.putObj_heap_other (by omega)).trans hk)⟩
end

section
open Go.RowKit Go.Shelf Go.Lib VerN
attribute [local go_sem] Oper.semAt_some
structure SBox (Bs Bp Bv:Nat) (c:UInt8) (r:ByteArray) (W:World):Prop where
 s:W.heap[Bs]? = some (.cells #[.string r] 9 (0,0))
 p:W.heap[Bp]? = some (.cells #[.string ⟨#[c]⟩] 9 (0,0))
 v:W.heap[Bv]? = some (.cells #[.int .i64 0] 3 (0,0))
theorem SBox.below {Bs Bp Bv n₀:Nat} {c:UInt8} {r:ByteArray} {W W':World} (h:SBox Bs Bp Bv c r W) (hb:Below n₀ W W') (h1:Bs < n₀) (h2:Bp < n₀) (h3:Bv < n₀):SBox Bs Bp Bv c r W' :=
 ⟨(hb.block _ h1).trans h.s,(hb.block _ h2).trans h.p,(hb.block _ h3).trans h.v⟩
abbrev Three (Bs Bp Bv:Nat) (k:Nat):Prop:=k=Bs∨k=Bp∨k=Bv
theorem SBox.keeps {Bs Bp Bv:Nat} {c:UInt8} {r:ByteArray} {W W':World} (h:SBox Bs Bp Bv c r W) (hk:zev (Three Bs Bp Bv) W W'):SBox Bs Bp Bv c r W' :=
 ⟨(hk _ (.inl rfl)).trans h.s,(hk _ (.inr (.inl rfl))).trans h.p,(hk _ (.inr (.inr rfl))).trans h.v⟩
theorem SBox.set {Bs Bp Bv:Nat} {c:UInt8} {r:ByteArray} {W:World} (h:SBox Bs Bp Bv c r W) (hp:Bp≠Bs) (hv:Bv≠Bs) (r':ByteArray):SBox Bs Bp Bv c r' (W.setCell ⟨Bs,0,none⟩ (.string r')) :=
 ⟨heap_setCell_same _ Bs 0 _ _ _ h.s,za3 h.p hp,za3 h.v hv⟩
theorem SBox.cells {Bs Bp Bv:Nat} {c:UInt8} {r:ByteArray} {W:World} (h:SBox Bs Bp Bv c r W) :
  W.cell? ⟨Bs,0,none⟩=some (.string r)∧W.cell? ⟨Bp,0,none⟩=some (.string ⟨#[c]⟩)∧W.cell? ⟨Bv,0,none⟩=some (.int .i64 0)∧W.frozen? ⟨Bs,0,none⟩=false :=
 ⟨za5 h.s 0,za5 h.p 0,za5 h.v 0,zad h.s 0⟩
def left (Bs:Nat) (W:World):Nat:=match W.cell? ⟨Bs,0,none⟩ with
 | some (.string r)=>r.size
 | _=>0
theorem left_is {Bs Bp Bv:Nat} {c:UInt8} {r:ByteArray} {W:World} (h:SBox Bs Bp Bv c r W):left Bs W=r.size:=by unfold left;rw[h.cells.1]
theorem zre {pre zs rest:List ByteArray} {x:ByteArray} (h:zs=pre ++ x :: rest):pre ++ [x] <+: zs:=⟨rest,by rw[h];simp⟩
theorem zjn (n:Nat) (hn:1≤n) (Bs Bp Bv:Nat) (c:UInt8) (s:ByteArray) (hs:s.size≤1000000) (w:World) (h1:Bs < w.heap.size) (h2:Bp < w.heap.size) (h3:Bv < w.heap.size) (hp:Bp≠Bs) (hv:Bv≠Bs) (hb:SBox Bs Bp Bv c s w) :
  SeqOwn Fence.wide n Tryz.prog 167 #[.pointer (some ⟨Bp,0,none⟩),.pointer (some ⟨Bs,0,none⟩),.pointer (some ⟨Bv,0,none⟩)] (fun x:ByteArray=>Value.string x) (Three Bs Bp Bv) Bs (fun pre x=>x.size≤s.size∧pre ++ [x] <+: cutS c s) (fun ys=>ys=cutS c s) (fun pre=>pre <+: cutS c s) w:=by
 intro l J Jx W hW hJ hJx hL hLx hY h0
 obtain⟨zs,hzs⟩ : ∃ zs,zs=cutS c s:=⟨_,rfl⟩
 rw[← hzs]
 have hb0:SBox Bs Bp Bv c s W:=hb.below hW h1 h2 h3
 obtain⟨d1,d2,d3,d4⟩:=hb0.cells
 have hc1:((1:Int) == 0)=false:=rfl
 obtain⟨Hzs,Hb,Hb0,HW,HJ,HJx,HL,HLx⟩:=hd8 hzs hb hb0 hW hJ hJx hL hLx;clear hzs hb hb0 hW hJ hJx hL hLx
 refine callsIn_of_wp Tryz.func167 rfl trivial ?_ rfl
 simp only[Tryz.ntmps167,List.size_toArray,List.length_cons,List.length_nil,Nat.reduceAdd,Nat.reduceSub,Array.replicate_succ,Array.replicate_zero,List.push_toArray,List.append_toArray,List.nil_append,List.cons_append]
 gi_wp2
 gi_loopw [7,8] (fun _ _ wr=>∃ (pre:List ByteArray) (r:ByteArray),zs=pre ++ cutS c r∧SBox Bs Bp Bv c r wr∧J pre wr∧r.size≤s.size) (fun _ _ wr=>left Bs wr)
 case atStart=>exact⟨[],s,Hzs.out,Hb0.out,h0,Nat.le_refl _⟩
 case round =>
  obtain⟨pre,r,hz,hbx,hJs,hr⟩:=hrel
  obtain⟨d1,d2,d3,d4⟩:=hbx.cells
  have hl:=left_is hbx
  have hI:=Tryz.strings_Index_one r c wr
  obtain⟨v,hvd⟩ : ∃ v,v=indexByte r.data.toList c:=⟨_,rfl⟩
  rw[← hvd] at hI
  by_cases hm:v = -1
  ·have hzz:zs=pre ++ [r]:=by rw[hz,cutS_miss (by rw[← hvd,hm])]
   obtain⟨fn,tmps,assign,body,hy,hR⟩:=hY pre r wr hJs ⟨hr,by rw[← Hzs.out,hzz];exact List.prefix_refl _⟩
   have k1:decide (v < 0)=true:=decide_eq_true (by omega)
   obtain⟨Hz,Hzz,Hbx,HJs,Hr,Hl,Hvd,HI,Hm⟩:=hd9 hz hzz hbx hJs hr hl hvd hI hm;clear hz hzz hbx hJs hr hl hvd hI hm
   gi_wp2
   refine⟨trivial,(callsIn_wide.2 HI.out).mono ?_⟩
   rintro e w2 ⟨rfl,rfl⟩
   gi_wp2
   refine hR.mono ?_
   rintro e W3 (⟨rfl,hJ3,hk3⟩ | ⟨rfl,hJx3⟩)
   ·gi_wp2
    go_end0
    exact⟨⟨_,rfl⟩,.inl ⟨_,Hzz.out.symm,hJ3⟩⟩
   gi_wp2
   go_end0
   exact⟨⟨_,rfl⟩,.inr ⟨_,by rw[Hzz.out];exact List.prefix_refl _,hJx3⟩⟩
  obtain⟨i,hi⟩ : ∃ i:Nat,v=i:=⟨v.toNat,by have:=indexByte_ge r.data.toList c;omega⟩
  subst hi
  have hlt:=index_lt hvd.symm
  rw[Txt.len] at hlt
  have hz2:zs=pre ++ r.extract 0 i :: cutS c (r.extract (i+1) r.size):=by rw[hz,cutS_hit hvd.symm]
  obtain⟨fn,tmps,assign,body,hy,hR⟩:=hY pre (r.extract 0 i) wr hJs ⟨by simp;omega,by rw[← Hzs.out];exact zre hz2⟩
  have k1:decide ((i:Int) < 0)=false:=decide_eq_false (by omega)
  have k2:(i:Int)≤(r.size:Int):=by omega
  have hsz:(r.extract (i+1) r.size).size=r.size - (i+1):=by simp
  obtain⟨Hz,Hz2,Hbx,HJs,Hl,Hvd,HI,Hm,Hsz⟩:=hd9 hz hz2 hbx hJs hl hvd hI hm hsz;clear hz hz2 hbx hJs hl hvd hI hm hsz
  gi_wp2
  refine⟨trivial,(callsIn_wide.2 HI.out).mono ?_⟩
  rintro e w2 ⟨rfl,rfl⟩
  gi_wp2
  refine hR.mono ?_
  rintro e W3 (⟨rfl,hJ3,hk3⟩ | ⟨rfl,hJx3⟩)
  ·have hb3:=Hbx.out.keeps hk3
   obtain⟨d1,d2,d3,d4⟩:=hb3.cells
   obtain⟨Hb3,HJ3,Hk3⟩:=hd3 hb3 hJ3 hk3;clear hb3 hJ3 hk3
   gi_wp2
   go_roundw
   case rel=>exact⟨pre ++ [r.extract 0 i],r.extract (i+1) r.size,by rw[Hz2.out];simp,Hb3.out.set hp hv _,HL.out _ _ 0 _ HJ3.out,by rw[Hsz.out];omega⟩
   case measure=>rw[left_is (Hb3.out.set hp hv _),Hl.out,Hsz.out];omega
  gi_wp2
  refine bodyPost_ret (results_none rfl _ _ _) rfl ?_
  exact⟨⟨_,rfl⟩,.inr ⟨_,zre Hz2.out,hJx3⟩⟩
end

section
open Go.RowKit
theorem zc0 {P:Program} {fn:Func} {p q:Tmp} {ty tz:TypeId} (h:fn.results=#[.cell p ty,.cell q tz]) {tmps:Array Value} {w:World} {a b:Nat} {x y:Value} {ex ey:TypeId}
  (hp:tmps.getD p undef = .pointer (some ⟨a,0,none⟩)) (hq:tmps.getD q undef = .pointer (some ⟨b,0,none⟩))
  (hx:w.heap[a]? = some (.cells #[x] ex (0,0))) (hy:w.heap[b]? = some (.cells #[y] ey (0,0)))
  (ax:(isAgg ty).run P w = .ok false w) (ay:(isAgg tz).run P w = .ok false w) :
  (results fn tmps).run P w = .ok (.tuple #[x,y]) w:=by
 have cx:w.cell? ⟨a,0,none⟩=some x:=za5 hx 0
 have cy:w.cell? ⟨b,0,none⟩=some y:=za5 hy 0
 have hp':tmps[p]?.getD undef = .pointer (some ⟨a,0,none⟩):=by simpa using hp
 have hq':tmps[q]?.getD undef = .pointer (some ⟨b,0,none⟩):=by simpa using hq
 simp only[results,h]
 simp[Sem.run_bind,Result.andThen,go_sem,hp',hq',ax,ay,cx,cy]
end

section
open Go.RowKit Go.Shelf Go.Lib VerN
attribute [local go_sem] Oper.semAt_some
abbrev zog:Nat:=167
def zdc (l:List UInt8):List Value:=[.int .i64 (zcd l),.int .i64 (zdd l),.string ⟨(zcw l).toArray⟩]
def zbm (ps:List (List UInt8)):List Value:=ps.flatMap zdc
theorem zjy (ps:List (List UInt8)) (l:List UInt8):zbm (ps ++ [l])=zbm ps ++ zdc l:=by simp[zbm]
theorem zsx {l:List UInt8} {r m:Int} {x:ByteArray} (h:zp6 l r m x):zdc l = [.int .i64 r,.int .i64 m,.string x]:=by
 obtain⟨rfl,rfl,h⟩:=h
 unfold zdc
 rw[← h]
theorem zig (s:ByteArray) (c:UInt8) (w:World):Calls Tryz.prog 52 #[.string s,.string ⟨#[c]⟩] w fun e w' =>
  e = .returned (.func (.func zog) #[] #[.pointer (some ⟨w.heap.size+1,0,none⟩),.pointer (some ⟨w.heap.size,0,none⟩),.pointer (some ⟨w.heap.size+1+1,0,none⟩)]) ∧
  w'=((w.alloc (.cells #[.string s] 9)).alloc (.cells #[.string ⟨#[c]⟩] 9)).alloc (.cells #[.int .i64 0] 3):=by
 go_enter Tryz.func52,Tryz.ntmps52
 go_wp2
 go_ret
 exact⟨rfl,rfl⟩
structure PI (w W:World) (pre:List ByteArray):Prop where
 bel:Below w.heap.size w W
 r2:W.heap[w.heap.size]? = some (.cells #[.slice none 0 0] 224 (0,0))
 r3:W.heap[w.heap.size+1]? = some (.cells #[.bool false] 4 (0,0))
 out:∃ v,W.heap[w.heap.size+1+1]? = some (.cells #[v] 224 (0,0))∧W.ownsRow (w.heap.size+6) 241 3 v pre.length (zbm (pre.map (·.data.toList)))
 ok:∀ p∈pre,zbs p.data.toList=true
 len:pre.length≤8
structure PX (w W:World) (pre:List ByteArray):Prop where
 bel:Below w.heap.size w W
 r2:W.heap[w.heap.size]? = some (.cells #[.slice none 0 0] 224 (0,0))
 r3:W.heap[w.heap.size+1]? = some (.cells #[.bool false] 4 (0,0))
 bad:(∃ p∈pre,zbs p.data.toList=false)∨8 < pre.length
theorem zd2 {W W':World} {row:Option Nat} {k:Nat} {o:Obj} {B:Nat} (hg:W.grownBy W' row) (hr:∀ r,row=some r→B≤r) (hk:k < B) (h:W.heap[k]? = some o):W'.heap[k]? = some o :=
 (hg.block k (Array.getElem?_eq_some_iff.1 h).1 (fun e=>by have:=hr k e.symm;omega)).trans h
theorem zed {B:Nat} (m:Nat):OwnFrom B (fun (_:List ByteArray) W=>m≤W.heap.size):=fun _ _ _ _ h hg _=>Nat.le_trans h hg.size
theorem PI.own {w:World} {B:Nat} (hB:w.heap.size+6≤B):OwnFrom B (fun (pre:List ByteArray) W=>PI w W pre):=by
 rintro pre W W' row h hg hr
 have hr':∀ r,row=some r→B≤r:=fun r e=>(hr r e).1
 obtain⟨v,hv,hrow⟩:=h.out
 refine⟨h.bel.grown hg h.bel.size (fun k e=>by have:=hr' k e;omega),zd2 hg hr' (by omega) h.r2,zd2 hg hr' (by omega) h.r3,⟨v,zd2 hg hr' (by omega) hv,hrow.kept hg ?_⟩,h.ok,h.len⟩
 rcases hrow.2 with⟨rfl,_⟩ | ⟨g,cap,cur,rfl,_,hgb,_⟩
 ·exact .inl rfl
 refine .inr fun e'=>?_
 obtain⟨_,o,ho,hc⟩:=hr g (by simpa [Value.ownBlock] using e'.symm)
 rw[hgb] at ho
 cases ho
 cases hc
theorem PX.own {w:World} {B:Nat} (hB:w.heap.size+6≤B):OwnFrom B (fun (pre:List ByteArray) W=>PX w W pre):=by
 rintro pre W W' row h hg hr
 have hr':∀ r,row=some r→B≤r:=fun r e=>(hr r e).1
 exact⟨h.bel.grown hg h.bel.size (fun k e=>by have:=hr' k e;omega),zd2 hg hr' (by omega) h.r2,zd2 hg hr' (by omega) h.r3,h.bad⟩
theorem zd6 {W:World} {B:Nat} {e:TypeId} {size:Nat} {v:Value} {n:Nat} {xs:List Value} (h:W.ownsRow B e size v n xs) {p:Nat} (hp:p < B) (i:Nat) (u:Value):(W.setCell ⟨p,i,none⟩ u).ownsRow B e size v n xs:=by
 refine h.kept (row:=some p) ⟨rfl,rfl,rfl,by simp[World.setCell],fun k _ hk=>Below.heap_setCell _ _ _ _ (fun e=>hk (by rw[e]))⟩ ?_
 rcases h.2 with⟨rfl,_⟩ | ⟨g,cap,cur,rfl,hg,_⟩
 ·exact .inl rfl
 exact .inr fun e'=>by simp[Value.ownBlock] at e';omega
theorem PI.lets (w:World):Lets (w.heap.size+1+1+1) (fun (pre:List ByteArray) W=>PI w W pre):=by
 rintro pre W i u h
 obtain⟨v,hv,hrow⟩:=h.out
 exact⟨h.bel.setCell (p:=⟨w.heap.size+1+1+1,i,none⟩) (by show w.heap.size≤w.heap.size+1+1+1;omega) _,za3 h.r2 (by omega),za3 h.r3 (by omega),⟨v,za3 hv (by omega),zd6 hrow (by omega) i u⟩,h.ok,h.len⟩
theorem PX.lets (w:World):Lets (w.heap.size+1+1+1) (fun (pre:List ByteArray) W=>PX w W pre):=by
 rintro pre W i u h
 exact⟨h.bel.setCell (p:=⟨w.heap.size+1+1+1,i,none⟩) (by show w.heap.size≤w.heap.size+1+1+1;omega) _,za3 h.r2 (by omega),za3 h.r3 (by omega),h.bad⟩
abbrev sb (w:World):Nat→Prop:=Three (w.heap.size+1+1+1) (w.heap.size+1+1+1+1) (w.heap.size+1+1+1+1+1)
theorem zdg {B:Nat} {W W':World} (h:Below W.heap.size W W'):KeepsFrom B W W':=⟨h.size,fun k o _ hk _=>za0 h hk⟩
theorem PI.size {w W:World} {pre:List ByteArray} (h:PI w W pre) (hs:w.heap.size+6≤W.heap.size):∀ k,sb w k→k < W.heap.size:=by
 rintro k (rfl | rfl | rfl) <;> omega
theorem lit3 (w:World) (x y z:Value) (t:TypeId) {n:Nat} (hn:w.heap.size=n):∀ j u,[x,y,z][j]? = some u→(w.alloc (.cells #[x,y,z] t)).cell? ((⟨n,0,none⟩ : Addr).add j)=some u:=by
 intro j u hu
 subst hn
 rw[Addr.add_lit,Nat.zero_add,World.cell?_alloc_new]
 simpa using hu
theorem PI.add {w W W3 w1:World} {pre:List ByteArray} {x:ByteArray} {tmp:Obj} {B:Nat} (h:PI w W pre) (hs:w.heap.size+6≤W.heap.size) (hb:Below W.heap.size W W3) {v v':Value}
  (hv:W.heap[w.heap.size+1+1]? = some (.cells #[v] 224 (0,0))) (hrow:W.ownsRow (w.heap.size+6) 241 3 v pre.length (zbm (pre.map (·.data.toList))))
  (hown:w1.ownsRow (w.heap.size+6) 241 3 v' (pre.length+1) (zbm (pre.map (·.data.toList)) ++ zdc x.data.toList)) (hg:(W3.alloc tmp).grownBy w1 v.ownBlock) (hx:zbs x.data.toList=true) (h8:pre.length≠8) :
  KeepsFrom B W (w1.setCell ⟨w.heap.size+1+1,0,none⟩ v')∧zev (sb w) W (w1.setCell ⟨w.heap.size+1+1,0,none⟩ v')∧PI w (w1.setCell ⟨w.heap.size+1+1,0,none⟩ v') (pre ++ [x])∧w1.heap[w.heap.size+1+1]? = some (.cells #[v] 224 (0,0))∧w.heap.size+6≤(w1.setCell ⟨w.heap.size+1+1,0,none⟩ v').heap.size:=by
 have hb3:Below W.heap.size W (W3.alloc tmp):=hb.alloc hb.size _
 have hrow3:(W3.alloc tmp).ownsRow (w.heap.size+6) 241 3 v pre.length (zbm (pre.map (·.data.toList))):=zag hrow hb3
 have old:∀ {k:Nat} {o:Obj},k < w.heap.size+6→W.heap[k]? = some o→w1.heap[k]? = some o:=fun {k o} hk ho =>
  (hg.block k (by have:=hb3.size;have:=(Array.getElem?_eq_some_iff.1 ho).1;omega) (fun e=>by have:=(hrow3.lt k e.symm).1;omega)).trans (za0 hb3 ho)
 refine⟨?_,?_,⟨?_,za3 (old (by omega) h.r2) (by omega),za3 (old (by omega) h.r3) (by omega),⟨v',heap_setCell_same _ _ 0 _ _ _ (old (by omega) hv),?_⟩,?_,?_⟩,old (by omega) hv,by have:=hg.size;have:=hb3.size;simp[World.setCell];omega⟩
 ·have k1:KeepsFrom B W (W3.alloc tmp):=zdg hb3
  have k2:KeepsFrom B (W3.alloc tmp) w1:=⟨hg.size,fun k o _ hk hc=>(hg.block k (Array.getElem?_eq_some_iff.1 hk).1 (fun e=>by
   obtain⟨cs,hcs⟩:=zec hrow3 k e.symm
   rw[hcs] at hk
   cases hk
   cases hc)).trans hk⟩
  exact (k1.trans k2).trans ((KeepsOthers.setCell _ _ _).from B)
 ·intro k hk
  have hlt:=h.size hs k hk
  have hlt6:k < w.heap.size+6:=by rcases hk with rfl | rfl | rfl <;> omega
  have hne:k≠w.heap.size+1+1:=by rcases hk with h | h | h <;> omega
  rw[Below.heap_setCell _ _ _ _ hne]
  cases ho:W.heap[k]? with
  | none=>exact absurd ho (by rw[Array.getElem?_eq_getElem hlt];simp)
  | some o=>exact old hlt6 ho
 ·exact ((h.bel.trans (hb3.mono h.bel.size)).grown hg (by have:=hb3.size;have:=h.bel.size;omega) (fun k e=>by have:=(hrow3.lt k e).1;omega)).setCell (p:=⟨w.heap.size+1+1,0,none⟩) (by show w.heap.size≤w.heap.size+1+1;omega) _
 ·rw[List.map_append,List.map_singleton,zjy,List.length_append]
  exact zd6 hown (by omega) 0 v'
 ·intro p hp
  rcases List.mem_append.1 hp with hp | hp
  ·exact h.ok p hp
  rw[List.mem_singleton] at hp;subst hp;exact hx
 have:=h.len;rw[List.length_append,List.length_singleton];omega
theorem PI.no {w W W3:World} {pre:List ByteArray} {x:ByteArray} {B:Nat} (h:PI w W pre) (hs:w.heap.size+6≤W.heap.size) (hb:Below W.heap.size W W3) (hx:zbs x.data.toList=false∨pre.length=8) :
  KeepsFrom B W ((W3.setCell ⟨w.heap.size,0,none⟩ (.slice none 0 0)).setCell ⟨w.heap.size+1,0,none⟩ (.bool false))∧PX w ((W3.setCell ⟨w.heap.size,0,none⟩ (.slice none 0 0)).setCell ⟨w.heap.size+1,0,none⟩ (.bool false)) (pre ++ [x]):=by
 refine⟨((zdg hb).trans ((KeepsOthers.setCell _ _ _).from B)).trans ((KeepsOthers.setCell _ _ _).from B),?_,?_,?_,?_⟩
 ·exact (((h.bel.trans (hb.mono h.bel.size)).setCell (p:=⟨w.heap.size,0,none⟩) (Nat.le_refl _) _).setCell (p:=⟨w.heap.size+1,0,none⟩) (by show w.heap.size≤w.heap.size+1;omega) _)
 ·exact za3 (heap_setCell_same _ _ 0 _ _ _ (za0 hb h.r2)) (by omega)
 ·exact heap_setCell_same _ _ 0 _ _ _ (za3 (za0 hb h.r3) (by omega))
 rcases hx with hx | hx
 ·exact .inl ⟨x,by simp,hx⟩
 right;rw[List.length_append,List.length_singleton];omega
theorem info_part:(Tryz.prog.info? 241).map (fun i=>(i.zero,i.size,i.bytes))=some (some (.agg #[.int .i64 0,.int .i64 0,.string ⟨#[]⟩]),3,32):=by kernel_rfl
def zjx (l:List UInt8) (w:World) (e:Ending) (w':World):Prop :=
 ∃ v,e = .returned (.tuple #[v,.bool (mayL l)])∧(mayL l=true→w'.ownsRow w.heap.size 241 3 v (cutL 46 l).length (zbm (cutL 46 l)))∧(mayL l=false→v = .slice none 0 0)∧Below w.heap.size w w'
theorem may_no {s:ByteArray} {pre:List ByteArray} (h:pre <+: cutS 46 s) (hb:(∃ p∈pre,zbs p.data.toList=false)∨8 < pre.length):mayL s.data.toList=false:=by
 rw[Bool.eq_false_iff]
 intro hm
 obtain⟨_,_,h1,h2⟩:=(zcp _).1 hm
 rcases hb with⟨p,hp,hf⟩ | hb
 ·have:=h1 p.data.toList (by rw[← zfv];exact List.mem_map.2 ⟨p,h.subset hp,rfl⟩)
  rw[hf] at this;cases this
 have:=h.length_le
 rw[zc1] at this
 omega
theorem may_yes {s:ByteArray} (h0:s.size≠0) (h40:s.size≤40) (hok:∀ p∈cutS 46 s,zbs p.data.toList=true) (hl:(cutS 46 s).length≤8):mayL s.data.toList=true:=by
 rw[zcp]
 refine⟨fun e=>h0 (by rw[← Txt.len,e];rfl),by rw[Txt.len];exact h40,fun p hp=>?_,by rw[← zc1];exact hl⟩
 rw[← zfv] at hp
 obtain⟨x,hx,rfl⟩:=List.mem_map.1 hp
 exact hok x hx
theorem zjw (s:ByteArray) (hs:s.size≤1000000) {w:World} (hD:zbk w):Calls Tryz.prog 175 #[.string s] w (zjx s.data.toList w):=by
 refine (callsIn_wide (n:=8)).1 ?_
 refine callsIn_of_wp_marks Tryz.func175 rfl trivial ?_ rfl
 simp only[Tryz.ntmps175,List.size_toArray,List.length_cons,List.length_nil,Nat.reduceAdd,Nat.reduceSub,Array.replicate_succ,Array.replicate_zero,List.push_toArray,List.append_toArray,List.nil_append,List.cons_append]
 by_cases h0:s.size=0
 ·have k1:s.toList.isEmpty=true:=by rw[Txt.no_dec,decide_eq_true h0]
  have hm:mayL s.data.toList=false:=by
   rw[Bool.eq_false_iff]
   intro h
   exact ((zcp _).1 h).1 (List.length_eq_zero_iff.1 (by rw[Txt.len];exact h0))
  obtain⟨Hm,HD⟩:=hd2 hm hD;clear hm hD
  gi_wp2
  refine⟨_,zc0 rfl rfl rfl (za0 (za2 _ _) (za8 rfl)) (za8 (by simp)) (Tryz.isAgg224 _) (Tryz.isAgg4 _),?_⟩
  refine⟨_,by rw[Hm.out],fun h=>(by rw[Hm.out] at h;cases h),fun _=>rfl,((Below.refl _ w).alloc (Nat.le_refl _) _).alloc (by simp) _⟩
 by_cases h40:40 < s.size
 ·have k1:s.toList.isEmpty=false:=by rw[Txt.no_dec,decide_eq_false h0]
  have k2:decide ((40:Int) < (s.size:Int))=true:=decide_eq_true (by omega)
  have hm:mayL s.data.toList=false:=by
   rw[Bool.eq_false_iff]
   intro h
   have:=((zcp _).1 h).2.1
   rw[Txt.len] at this
   omega
  obtain⟨Hm,HD⟩:=hd2 hm hD;clear hm hD
  gi_wp2
  refine⟨_,zc0 rfl rfl rfl (za0 (za2 _ _) (za8 rfl)) (za8 (by simp)) (Tryz.isAgg224 _) (Tryz.isAgg4 _),?_⟩
  refine⟨_,by rw[Hm.out],fun h=>(by rw[Hm.out] at h;cases h),fun _=>rfl,((Below.refl _ w).alloc (Nat.le_refl _) _).alloc (by simp) _⟩
 have k1:s.toList.isEmpty=false:=by rw[Txt.no_dec,decide_eq_false h0]
 have k2:decide ((40:Int) < (s.size:Int))=false:=decide_eq_false (by omega)
 have hq:=zig s 46 (((w.alloc (.cells #[.slice none 0 0] 224)).alloc (.cells #[.bool false] 4)).alloc (.cells #[.slice none 0 0] 224))
 obtain⟨Hq,HD⟩:=hd2 hq hD;clear hq hD
 gi_wp2
 refine⟨trivial,(callsIn_wide.2 Hq.out).mono ?_⟩
 rintro e w2 ⟨rfl,rfl⟩
 gi_wp2
 have hsb:SBox (w.heap.size+1+1+1) (w.heap.size+1+1+1+1) (w.heap.size+1+1+1+1+1) 46 s ((((((w.alloc (.cells #[.slice none 0 0] 224)).alloc (.cells #[.bool false] 4)).alloc (.cells #[.slice none 0 0] 224)).alloc (.cells #[.string s] 9)).alloc (.cells #[.string ⟨#[46]⟩] 9)).alloc (.cells #[.int .i64 0] 3)):=by
  have a1:=za8 (w:=(((w.alloc (.cells #[.slice none 0 0] 224)).alloc (.cells #[.bool false] 4)).alloc (.cells #[.slice none 0 0] 224))) (o:=.cells #[.string s] 9) (n:=w.heap.size+1+1+1) (by simp)
  have a2:=za8 (w:=((((w.alloc (.cells #[.slice none 0 0] 224)).alloc (.cells #[.bool false] 4)).alloc (.cells #[.slice none 0 0] 224)).alloc (.cells #[.string s] 9))) (o:=.cells #[.string ⟨#[46]⟩] 9) (n:=w.heap.size+1+1+1+1) (by simp)
  have a3:=za8 (w:=(((((w.alloc (.cells #[.slice none 0 0] 224)).alloc (.cells #[.bool false] 4)).alloc (.cells #[.slice none 0 0] 224)).alloc (.cells #[.string s] 9)).alloc (.cells #[.string ⟨#[46]⟩] 9))) (o:=.cells #[.int .i64 0] 3) (n:=w.heap.size+1+1+1+1+1) (by simp)
  exact⟨za0 (za2 _ _) (za0 (za2 _ _) a1),za0 (za2 _ _) a2,a3⟩
 obtain⟨W0,hW0⟩ : ∃ W0,W0=((((((w.alloc (.cells #[.slice none 0 0] 224)).alloc (.cells #[.bool false] 4)).alloc (.cells #[.slice none 0 0] 224)).alloc (.cells #[.string s] 9)).alloc (.cells #[.string ⟨#[46]⟩] 9)).alloc (.cells #[.int .i64 0] 3)):=⟨_,rfl⟩
 have hs0:W0.heap.size=w.heap.size+6:=by rw[hW0];simp
 rw[← hW0] at hsb ⊢
 have hPI:PI w W0 []:=by
  rw[hW0]
  have k1:∀ {w':World} {o:Obj} {k:Nat} {o':Obj},w'.heap[k]? = some o→(w'.alloc o').heap[k]? = some o:=fun h=>za0 (za2 _ _) h
  refine⟨(((((((Below.refl _ w).alloc (Nat.le_refl _) _).alloc (by simp) _).alloc (by simp;omega) _).alloc (by simp;omega) _).alloc (by simp;omega) _).alloc (by simp;omega) _),k1 (k1 (k1 (k1 (k1 (za8 rfl))))),k1 (k1 (k1 (k1 (za8 (by simp))))),⟨_,k1 (k1 (k1 (za8 (by simp)))),World.ownsRow_nil _ _ _ _⟩,(fun p hp=>by cases hp),Nat.zero_le _⟩
 have HW0:=hd hW0;clear hW0
 refine zgm rfl (by omega) (gf:=zog) rfl trivial (enters_of Tryz.func167 (by kernel_rfl) rfl) (zjn 7 (by omega) _ _ _ 46 s hs W0 (by omega) (by omega) (by omega) (by omega) (by omega) hsb)
  (fun k hk=>by rcases hk with h | h | h <;> omega) (by omega) (Below.refl _ _) rfl
  (fun pre W=>w.heap.size+6≤W.heap.size∧PI w W pre) (fun pre W=>w.heap.size+6≤W.heap.size∧PX w W pre) (OwnFrom.and (zed _) (PI.own (by omega))) (OwnFrom.and (zed _) (PX.own (by omega))) (fun pre W i u h=>⟨by simp[World.setCell];exact h.1,PI.lets w pre W i u h.2⟩) (fun pre W i u h=>⟨by simp[World.setCell];exact h.1,PX.lets w pre W i u h.2⟩) ⟨by omega,hPI⟩
  (fun x=>{ tmps:=#[.string s,undef,.pointer (some ⟨w.heap.size,0,none⟩),.pointer (some ⟨w.heap.size+1,0,none⟩),.pointer (some ⟨w.heap.size+1+1,0,none⟩),.string x,undef,undef,.string s,.bool false,.bool false,.string s,.int .i64 (s.size:Int),.bool false,.bool false,.string s,
   .func (.func zog) #[] #[.pointer (some ⟨w.heap.size+1+1+1+1,0,none⟩),.pointer (some ⟨w.heap.size+1+1+1,0,none⟩),.pointer (some ⟨w.heap.size+1+1+1+1+1,0,none⟩)],.string x,undef,undef,undef,undef,undef,undef,undef,undef,undef,undef,undef,undef,undef,undef,undef,undef,undef],defers:=[] }) ?assign ?body ?done ?stop
 case assign =>
  intro l x W K hK
  gi_wp2
  exact hK
 case body =>
  rintro l pre x W ⟨hsz,h⟩ ⟨hx,_⟩
  obtain⟨v,hv,hrow⟩:=h.out
  obtain⟨a,cap,rfl⟩:=zaj hrow
  have hR:=read_any x (by omega) (HD.out.below h.bel)
  obtain⟨b,hb⟩ : ∃ b,b=zbs x.data.toList:=⟨_,rfl⟩
  obtain⟨m,hm⟩ : ∃ m,m=pre.length:=⟨_,rfl⟩
  have c0:W.cell? ⟨w.heap.size+1+1,0,none⟩=some (.slice a pre.length cap):=za5 hv 0
  unfold zrd at hR
  rw[← hb] at hR
  obtain⟨Hv,Hrow,HR,Hh,Hc0,Hx⟩:=hd6 hv hrow hR h c0 hx;clear hv hrow hR h c0 hx
  gi_wp2
  refine⟨trivial,(CallsIn.inRound l (callsIn_wide.2 HR.out)).mono ?_⟩
  rintro e W2 ⟨⟨r,q,y,rfl,hpt⟩,hb2⟩
  have hb3:Below W.heap.size W (W2.alloc (.cells #[.int .i64 r,.int .i64 q,.string y] 241)):=hb2.alloc hb2.size _
  have r2:=za0 hb3 Hh.out.r2
  have r3:=za0 hb3 Hh.out.r3
  have d0:(W2.alloc (.cells #[.int .i64 r,.int .i64 q,.string y] 241)).cell? ⟨w.heap.size+1+1,0,none⟩=some (.slice a pre.length cap):=cell_later hb3 Hc0.out
  have d1:(W2.alloc (.cells #[.int .i64 r,.int .i64 q,.string y] 241)).cell? ⟨w.heap.size,0,none⟩=some (.slice none 0 0):=za5 r2 0
  have d2:(W2.alloc (.cells #[.int .i64 r,.int .i64 q,.string y] 241)).cell? ⟨w.heap.size+1,0,none⟩=some (.bool false):=za5 r3 0
  have f1:=zad r2 0
  have f2:=zad r3 0
  obtain⟨Hb2,Hb3,Hr2,Hr3,Hpt,Hb,Hm⟩:=hd7 hb2 hb3 r2 r3 hpt hb hm;clear hb2 hb3 r2 r3 hpt hb hm
  clear Hq
  cases b with
  | false =>
   have hno:=Hh.out.no (B:=W0.heap.size) hsz Hb3.out (.inl Hb.out.symm)
   have hs3:w.heap.size+6≤(((W2.alloc (.cells #[.int .i64 r,.int .i64 q,.string y] 241)).setCell ⟨w.heap.size,0,none⟩ (.slice none 0 0)).setCell ⟨w.heap.size+1,0,none⟩ (.bool false)).heap.size:=by have:=Hb3.out.size;simp[World.setCell] at this ⊢;omega
   have Hno:=hd hno;clear hno
   gi_wp2
   exact⟨Hno.out.1,hs3,Hno.out.2⟩
  | true =>
   by_cases h8:pre.length=8
   ·have hno:=Hh.out.no (B:=W0.heap.size) hsz Hb3.out (x:=x) (.inr h8)
    have hs3:w.heap.size+6≤(((W2.alloc (.cells #[.int .i64 r,.int .i64 q,.string y] 241)).setCell ⟨w.heap.size,0,none⟩ (.slice none 0 0)).setCell ⟨w.heap.size+1,0,none⟩ (.bool false)).heap.size:=by have:=Hb3.out.size;simp[World.setCell] at this ⊢;omega
    have k8:((pre.length:Int) == 8)=true:=by rw[h8];rfl
    obtain⟨Hno,H8⟩:=hd2 hno h8;clear hno h8
    gi_wp2
    exact⟨Hno.out.1,hs3,Hno.out.2⟩
   have k8:((pre.length:Int) == 8)=false:=by rw[beq_eq_false_iff_ne];omega
   have hlen:=Hh.out.len
   have hrow3:=zag Hrow.out Hb3.out
   have hpc:=zsx (Hpt.out rfl)
   obtain⟨i0,hi,hz0,hz1,hz2⟩:=info_parts info_part
   have hadd:=fun (w1:World) (v':Value)=>Hh.out.add (B:=W0.heap.size) hsz Hb3.out Hv.out Hrow.out (w1:=w1) (v':=v') (x:=x) (tmp:=.cells #[.int .i64 r,.int .i64 q,.string y] 241)
   rw[hpc] at hadd
   have hz9:w.heap.size+6≤(W2.alloc (.cells #[.int .i64 r,.int .i64 q,.string y] 241)).heap.size:=by have:=Hb3.out.size;omega
   have g1:pre.length+1≤maxLen:=by unfold maxLen;omega
   have g2:(pre.length+1) * 32≤140737488355328:=by omega
   have g3:w.heap.size+6≤((W2.alloc (.cells #[.int .i64 r,.int .i64 q,.string y] 241)).alloc (.cells #[.int .i64 r,.int .i64 q,.string y] 241)).heap.size:=by simp at hz9 ⊢;omega
   have g4:=lit3 (W2.alloc (.cells #[.int .i64 r,.int .i64 q,.string y] 241)) (.int .i64 r) (.int .i64 q) (.string y) 241 (n:=W2.heap.size+1) (by simp)
   have g5:∀ u∈[Value.int .i64 r,.int .i64 q,.string y],u.oneCell'=true:=by simp[Value.oneCell']
   obtain⟨Hrow3,Hpc,Hadd,Hz9,H8,Hlen,Hg1,Hg2,Hg3,Hg4,Hg5⟩:=hd11 hrow3 hpc hadd hz9 h8 hlen g1 g2 g3 g4 g5;clear hrow3 hpc hadd hz9 h8 hlen g1 g2 g3 g4 g5
   gi_wp2_with (gi_at_builtin;refine wpListIn_append_own _ rfl _ _ 224 rfl (w.heap.size+6) 241 i0 (.agg #[.int .i64 0,.int .i64 0,.string ⟨#[]⟩]) 3 32 Tryz.underlying224 hi hz0 hz1 hz2 rfl (by decide) _ _ _ rfl (Hrow3.out.alloc _) ⟨W2.heap.size+1,0,none⟩ 1 1 [.int .i64 r,.int .i64 q,.string y] rfl rfl Hg4.out Hg5.out Hg1.out Hg2.out Hg3.out ?_;intro v' w1 hown' hgrow _;obtain⟨g',cap',rfl⟩:=ownsRow_succ hown';have hfin:=Hadd.out w1 _ hown' hgrow Hb.out.symm H8.out;clear hown' hgrow;refine Hid.out ?_)
   have e1:=za5 hfin.2.2.2.1 0
   have e2:=zad hfin.2.2.2.1 0
   simp only[List.getElem?_toArray,List.getElem?_cons_zero] at e1
   have Hfin:=hd hfin;clear hfin
   refine Lib.hid ?_
   gi_wp2
   exact⟨Hfin.out.1,Hfin.out.2.1,Hfin.out.2.2.2.2,Hfin.out.2.2.1⟩
 case done =>
  rintro D ys W hD rfl ⟨hsz,h⟩ hK
  obtain⟨v,hv,hrow⟩:=h.out
  obtain⟨a,cap,rfl⟩:=zaj hrow
  have c0:W.cell? ⟨w.heap.size+1+1,0,none⟩=some (.slice a (cutS 46 s).length cap):=za5 hv 0
  have c1:=za5 h.r2 0
  have c2:=za5 h.r3 0
  have f1:=zad h.r2 0
  have f2:=zad h.r3 0
  simp only[List.getElem?_toArray,List.getElem?_cons_zero] at c1 c2
  have hm:=may_yes h0 (by omega) h.ok h.len
  obtain⟨Hv,Hrow,Hh,Hm⟩:=hd4 hv hrow h hm;clear hv hrow h hm
  gi_wp2
  have hK2:((W.setCell ⟨w.heap.size,0,none⟩ (.slice a (cutS 46 s).length cap)).setCell ⟨w.heap.size+1,0,none⟩ (.bool true)).heap[D]? = some (.deferred (some [])):=za3 (za3 hK (by omega)) (by omega)
  have x1:=za3 (b:=w.heap.size+1) (i:=0) (u:=.bool true) (heap_setCell_same W w.heap.size 0 _ _ (.slice a (cutS 46 s).length cap) Hh.out.r2) (by omega)
  have x2:=heap_setCell_same _ (w.heap.size+1) 0 _ _ (.bool true) (za3 (b:=w.heap.size) (i:=0) (u:=.slice a (cutS 46 s).length cap) Hh.out.r3 (by omega))
  have hb9:Below w.heap.size w ((W.setCell ⟨w.heap.size,0,none⟩ (.slice a (cutS 46 s).length cap)).setCell ⟨w.heap.size+1,0,none⟩ (.bool true)):=(Hh.out.bel.setCell (p:=⟨w.heap.size,0,none⟩) (Nat.le_refl _) _).setCell (p:=⟨w.heap.size+1,0,none⟩) (by show w.heap.size≤w.heap.size+1;omega) _
  have ho:((W.setCell ⟨w.heap.size,0,none⟩ (.slice a (cutS 46 s).length cap)).setCell ⟨w.heap.size+1,0,none⟩ (.bool true)).ownsRow (w.heap.size+6) 241 3 (.slice a (cutS 46 s).length cap) (cutL 46 s.data.toList).length (zbm (cutL 46 s.data.toList)):=by
   have hlen:=zc1 46 s
   rw[← hlen,← zfv]
   have:=zd6 (zd6 Hrow.out (p:=w.heap.size) (by omega) 0 (.slice a (cutS 46 s).length cap)) (p:=w.heap.size+1) (by omega) 0 (.bool true)
   exact this
  refine⟨by simp,.inl ⟨_,_,rfl,run_takeDeferred hK2,?_⟩⟩
  refine⟨_,zc0 rfl rfl rfl ((World.putObj_heap_other (by omega)).trans x1) ((World.putObj_heap_other (by omega)).trans x2) (Tryz.isAgg224 _) (Tryz.isAgg4 _),?_⟩
  refine⟨_,by rw[Hm.out],fun _=>zco (ownsRow_putObj ho _ hK2 rfl) (by omega),fun h=>(by rw[Hm.out] at h;cases h),hb9.trans (belowK_b (w:=w) (Nat.le_refl _) _ D _ _ (by omega) hK2 rfl rfl)⟩
 case stop =>
  rintro D pre W hD hpre ⟨hsz,h⟩ hK
  have hm:=may_no hpre h.bad
  have Hm:=hd hm;clear hm
  gi_wp2
  refine⟨by simp,.inl ⟨_,_,rfl,run_takeDeferred hK,?_⟩⟩
  refine⟨_,zc0 rfl rfl rfl ((World.putObj_heap_other (by omega)).trans h.r2) ((World.putObj_heap_other (by omega)).trans h.r3) (Tryz.isAgg224 _) (Tryz.isAgg4 _),?_⟩
  refine⟨_,by rw[Hm.out],fun h=>(by rw[Hm.out] at h;cases h),fun _=>rfl,h.bel.trans (belowK_b (w:=w) (Nat.le_refl _) _ D _ _ (by omega) hK rfl rfl)⟩
end

section
open Go.RowKit Go.Lib VerN
theorem zgq {fn:Func} {p:Tmp} (hres:fn.results=#[.cell p 241]) {R:Ending→World→Prop} {a:Act} {w:World} {g:Nat} {x y z:Value} (hp:a.tmps.getD p undef = .pointer (some ⟨g,0,none⟩))
  (hg:w.heap[g]? = some (.cells #[x,y,z] 241 (0,0))) (hd:a.defers = []) (hR:R (.returned (.agg #[x,y,z])) w):bodyPost Tryz.prog fn R .ret a w :=
 bodyPost_ret (results_cell_row hres a.tmps w g _ _ _ _ hp hg Tryz.underlying241 rfl (by kernel_rfl)) hd hR
theorem zdv:∀ (ps:List (List UInt8)) (i j:Nat) (h:i < ps.length),j < 3→(zbm ps)[i * 3+j]? = (zdc ps[i])[j]?
 | p :: r,0,j,_,hj=>by
  simp only[zbm,List.flatMap_cons,Nat.zero_mul,Nat.zero_add,List.getElem_cons_zero]
  rw[List.getElem?_append_left (by simpa [zdc] using hj)]
 | p :: r,i+1,j,h,hj=>by
  have:=zdv r i j (by simpa using h) hj
  simp only[zbm,List.flatMap_cons,List.getElem_cons_succ] at this ⊢
  rw[List.getElem?_append_right (by simp[zdc];omega),← this]
  congr 1
  simp[zdc]
  omega
theorem zst {w:World} {B:Nat} {v:Value} {n:Nat} {ps:List (List UInt8)} (h:w.ownsRow B 241 3 v n (zbm ps)) (hn:n=ps.length) (i:Nat) (hi:i < ps.length) :
  ∃ g cap,v = .slice (some ⟨g,0,none⟩) n cap∧n≤cap∧w.cell? ⟨g,i * 3,none⟩=some (.int .i64 (zcd ps[i]))∧w.cell? ⟨g,i * 3+1,none⟩=some (.int .i64 (zdd ps[i]))∧w.cell? ⟨g,i * 3+2,none⟩=some (.string ⟨(zcw ps[i]).toArray⟩):=by
 obtain⟨g,cap,rfl,_,_,h1,_,h2⟩:=zdn h (by omega)
 exact⟨g,cap,rfl,h1,h2 _ _ (zdv ps i 0 hi (by omega)),h2 _ _ (zdv ps i 1 hi (by omega)),h2 _ _ (zdv ps i 2 hi (by omega))⟩
theorem at_any {w:World} {B:Nat} {v:Value} {ps:List (List UInt8)} (h:w.ownsRow B 241 3 v ps.length (zbm ps)) (h8:ps.length≤8) (i:Nat) (hi8:i < 8) :
  Calls Tryz.prog 197 #[v,.int .i64 i] w fun e w'=>e = .returned (.agg #[.int .i64 (zcd (ps.getD i [])),.int .i64 (zdd (ps.getD i [])),.string ⟨(zcw (ps.getD i [])).toArray⟩])∧Below w.heap.size w w':=by
 have hb1:Below w.heap.size w (w.alloc (.cells #[.int .i64 0,.int .i64 0,.string ⟨#[]⟩] 241)):=za2 _ _
 have hr1:(w.alloc (.cells #[.int .i64 0,.int .i64 0,.string ⟨#[]⟩] 241)).heap[w.heap.size]? = some (.cells #[.int .i64 0,.int .i64 0,.string ⟨#[]⟩] 241 (0,0)):=za8 rfl
 by_cases hi:i < ps.length
 ·obtain⟨g,cap,rfl,hcap,c0,c1,c2⟩:=zst h rfl i hi
  rw[zgw hi]
  have d0:=cell_later hb1 c0
  have d1:=cell_later hb1 c1
  have d2:=cell_later hb1 c2
  obtain⟨n,hn⟩ : ∃ n,n=ps.length:=⟨_,rfl⟩
  obtain⟨x,hx⟩ : ∃ x,x=zcd ps[i]:=⟨_,rfl⟩
  obtain⟨y,hy⟩ : ∃ y,y=zdd ps[i]:=⟨_,rfl⟩
  obtain⟨z,hz⟩ : ∃ z,z=(⟨(zcw ps[i]).toArray⟩ : ByteArray):=⟨_,rfl⟩
  rw[← hx] at c0 d0 ⊢
  rw[← hy] at c1 d1 ⊢
  rw[← hz] at c2 d2 ⊢
  rw[← hn] at h h8 hi hcap ⊢
  have k1:(i:Int) < (n:Int):=by omega
  have k2:decide ((i:Int) < (n:Int))=true:=decide_eq_true k1
  obtain⟨Hh,Hn,Hx,Hy,Hz,Hb1,Hr1⟩:=hd7 h hn hx hy hz hb1 hr1;clear h hn hx hy hz hb1 hr1
  clear c0 c1 c2
  go_enter Tryz.func197,Tryz.ntmps197
  go_wp2_with fail
  exact zgq rfl rfl (za8 rfl) rfl ⟨by rw[Hx.out,Hy.out,Hz.out],za2 _ _⟩
 obtain⟨a,cap,rfl⟩:=zaj h
 rw[zgx (by omega)]
 obtain⟨n,hn⟩ : ∃ n,n=ps.length:=⟨_,rfl⟩
 rw[← hn] at h h8 hi ⊢
 have k1:decide ((i:Int) < (n:Int))=false:=decide_eq_false (by omega)
 obtain⟨Hh,Hn,Hb1,Hr1⟩:=hd4 h hn hb1 hr1;clear h hn hb1 hr1
 go_enter Tryz.func197,Tryz.ntmps197
 go_wp2_with fail
 exact zgq rfl rfl (za8 rfl) rfl ⟨rfl,za2 _ _⟩
end

section
open Go.Shelf Go.RowKit Go.Lib Go.Sort VerN
theorem or3 (r a b c:Int) (h:(if a≠0 then a else if b≠0 then b else c)=r):orOf [a,b,c]=r:=by
 rw[← h]
 unfold orOf orOf orOf orOf
 split
 ·rfl
 split
 ·rfl
 split
 ·rfl
 rename_i h;simpa using Eq.symm (by simpa using h)
theorem or3_any (c1 c2 c3 r:Int) (hO:orOf [c1,c2,c3]=r) (W:World):Calls Tryz.prog 198 #[.slice (some ⟨W.heap.size,0,none⟩) 3 3] (W.alloc (.cells #[.int .i64 c1,.int .i64 c2,.int .i64 c3] 3)).drew fun e w'=>e = .returned (.int .i64 r)∧(W.alloc (.cells #[.int .i64 c1,.int .i64 c2,.int .i64 c3] 3)).drew=w':=by
 rw[← hO]
 exact or_any W.heap.size 0 3 [c1,c2,c3] _ (by simp) (by
  intro i x hx
  show (W.alloc (.cells #[.int .i64 c1,.int .i64 c2,.int .i64 c3] 3)).cell? ⟨W.heap.size,0+i,none⟩=_
  rw[Nat.zero_add,World.cell?_alloc_new]
  match i,hx with
  | 0,hx=>simpa using hx
  | 1,hx=>simpa using hx
  | 2,hx=>simpa using hx)
theorem zgn (a b:ByteArray) (ha:a.size≤1000000) (hb:b.size≤1000000) {w:World} (hD:zbk w) :
  Calls Tryz.prog 164 #[.string a,.string b] w fun e w'=>e = .returned (.int .i64 (zbd a.data.toList b.data.toList))∧Below w.heap.size w w':=by
 obtain⟨r,hr⟩ : ∃ r,r=zbd a.data.toList b.data.toList:=⟨_,rfl⟩
 have hP:=zjw a ha hD
 have hQ:=fun (W:World) (h:Below w.heap.size w W)=>zjw b hb (hD.below h)
 obtain⟨ps,hps⟩ : ∃ x,x=cutL 46 a.data.toList:=⟨_,rfl⟩
 obtain⟨qs,hqs⟩ : ∃ x,x=cutL 46 b.data.toList:=⟨_,rfl⟩
 obtain⟨p,hp⟩ : ∃ x,x=mayL a.data.toList:=⟨_,rfl⟩
 obtain⟨q,hq⟩ : ∃ x,x=mayL b.data.toList:=⟨_,rfl⟩
 have hcmp:r=if p=false∧q=false then 0 else if p=false then -1 else if q=false then 1 else zc5 ps qs 0 (max ps.length qs.length):=by rw[hr,hp,hq,hps,hqs];rfl
 have hp8:p=true→ps.length≤8:=fun h=>by rw[hps];exact ((zcp _).1 (by rw[← hp];exact h)).2.2.2
 have hq8:q=true→qs.length≤8:=fun h=>by rw[hqs];exact ((zcp _).1 (by rw[← hq];exact h)).2.2.2
 rw[← hr]
 unfold zjx at hP hQ
 rw[← hps,← hp] at hP
 rw[← hqs,← hq] at hQ
 obtain⟨Hr,HP,HQ,Hps,Hqs,Hp,Hq,Hcmp,Hp8,Hq8,HD⟩:=hd11 hr hP hQ hps hqs hp hq hcmp hp8 hq8 hD;clear hr hP hQ hps hqs hp hq hcmp hp8 hq8 hD
 go_enter Tryz.func164,Tryz.ntmps164
 go_wp2_with fail
 refine HP.out.mono ?_
 rintro e w1 ⟨v1,rfl,hv1,hn1,hb1⟩
 have hQ1:=HQ.out w1 hb1
 obtain⟨Hv1,Hn1,Hb1,HQ1⟩:=hd4 hv1 hn1 hb1 hQ1;clear hv1 hn1 hb1 hQ1
 go_wp2_with fail
 refine HQ1.out.mono ?_
 rintro e w2 ⟨v2,rfl,hv2,hn2,hb2⟩
 have hb:=Hb1.out.trans (hb2.mono Hb1.out.size)
 obtain⟨Hv2,Hn2,Hb2,Hb⟩:=hd4 hv2 hn2 hb2 hb;clear hv2 hn2 hb2 hb
 cases p with
 | false =>
  cases q with
  | false =>
   have h0:r=0:=by rw[Hcmp.out];rfl
   have H0:=hd h0;clear h0
   go_wp2_with fail
   go_ret
   exact⟨zey H0.out.symm,Hb.out⟩
  | true =>
   have h0:r = -1:=by rw[Hcmp.out];rfl
   have H0:=hd h0;clear h0
   go_wp2_with fail
   go_ret
   exact⟨zey H0.out.symm,Hb.out⟩
 | true =>
  cases q with
  | false =>
   have h0:r=1:=by rw[Hcmp.out];rfl
   have H0:=hd h0;clear h0
   go_wp2_with fail
   go_ret
   exact⟨zey H0.out.symm,Hb.out⟩
  | true =>
   have h8:=Hp8.out rfl
   have h9:=Hq8.out rfl
   have o1:=zag (Hv1.out rfl) Hb2.out
   have o2:=Hv2.out rfl
   obtain⟨a1,cap1,rfl⟩:=zaj o1
   obtain⟨a2,cap2,rfl⟩:=zaj o2
   have h0:r=zc5 ps qs 0 (max ps.length qs.length):=by rw[Hcmp.out];rfl
   obtain⟨m,hm⟩ : ∃ m,m=ps.length:=⟨_,rfl⟩
   obtain⟨n,hn⟩ : ∃ n,n=qs.length:=⟨_,rfl⟩
   rw[← hm] at h8 o1 h0 ⊢
   rw[← hn] at h9 o2 h0 ⊢
   obtain⟨N,hN⟩ : ∃ N,N=max m n:=⟨_,rfl⟩
   rw[← hN] at h0
   have hN8:N≤8:=by omega
   have hNi:max (m:Int) (n:Int)=(N:Int):=by omega
   obtain⟨H0,Ho1,Ho2,Hm,Hn⟩:=hd5 h0 o1 o2 hm hn;clear h0 o1 o2 hm hn
   clear Hv1 Hv2 Hn1 Hn2 Hcmp Hp8 Hq8 HP HQ HQ1
   go_wp2_with fail
   go_loopw [41] (fun i wr=>∃ k:Nat,k≤N∧i = .int .i64 k∧r=zc5 ps qs k (N - k)∧Below w2.heap.size w2 wr) (fun i _=>N - (RowKit.intOf i).toNat)
   case atStart=>exact⟨0,Nat.zero_le _,rfl,H0.out,Below.refl _ _⟩
   case round =>
    obtain⟨k,hk,rfl,hrk,hbk⟩:=hrel
    by_cases hlt:k < N
    ·have p1:=zag Ho1.out hbk
     have p2:=zag Ho2.out hbk
     have em:=Hm.out
     have en:=Hn.out
     rw[em] at p1
     rw[en] at p2
     have hA:=at_any p1 (by omega) k (by omega)
     have hB:=fun (W:World) (h:Below wr.heap.size wr W)=>at_any (zag p2 h) (by omega) k (by omega)
     rw[← em] at hA
     rw[← en] at hB
     obtain⟨x,hx⟩ : ∃ x,x=ps.getD k []:=⟨_,rfl⟩
     obtain⟨y,hy⟩ : ∃ x,x=qs.getD k []:=⟨_,rfl⟩
     rw[← hx] at hA
     rw[← hy] at hB
     have hr2:r=if pcmp x y≠0 then pcmp x y else zc5 ps qs (k+1) (N - (k+1)):=by
      rw[hrk,show N - k=(N - (k+1))+1 by omega,hx,hy];rfl
     obtain⟨c,hc⟩ : ∃ c,c=pcmp x y:=⟨_,rfl⟩
     rw[← hc] at hr2
     obtain⟨r1,hr1⟩ : ∃ v,v=zcd x:=⟨_,rfl⟩
     obtain⟨m1,hm1⟩ : ∃ v,v=zdd x:=⟨_,rfl⟩
     obtain⟨t1,ht1⟩ : ∃ v,v=(⟨(zcw x).toArray⟩ : ByteArray):=⟨_,rfl⟩
     obtain⟨r2,hrr2⟩ : ∃ v,v=zcd y:=⟨_,rfl⟩
     obtain⟨m2,hm2⟩ : ∃ v,v=zdd y:=⟨_,rfl⟩
     obtain⟨t2,ht2⟩ : ∃ v,v=(⟨(zcw y).toArray⟩ : ByteArray):=⟨_,rfl⟩
     rw[← hr1,← hm1,← ht1] at hA
     rw[← hrr2,← hm2,← ht2] at hB
     obtain⟨c1,hc1⟩ : ∃ v,v=zcu r1 r2:=⟨_,rfl⟩
     obtain⟨c2,hc2⟩ : ∃ v,v=zcu m1 m2:=⟨_,rfl⟩
     obtain⟨c3,hc3⟩ : ∃ v,v=cmpW t1.data.toList t2.data.toList:=⟨_,rfl⟩
     have hC1:=fun W=>zkl r1 r2 W
     have hC2:=fun W=>zkl m1 m2 W
     have hC3:=fun W=>zos t1 t2 W
     rw[← hc1] at hC1
     rw[← hc2] at hC2
     rw[← hc3] at hC3
     have hF:=or3_any c1 c2 c3 c (or3 c c1 c2 c3 (by rw[hc,hc1,hc2,hc3,hr1,hrr2,hm1,hm2,ht1,ht2];rfl))
     clear hr1 hrr2 hm1 hm2 ht1 ht2 hc1 hc2 hc3 hc em en
     obtain⟨Hp1,Hp2,HA,HB,Hx,Hy,Hrk,Hr2,HC1,HC2,HC3,HF,Hbk⟩:=hd13 p1 p2 hA hB hx hy hrk hr2 hC1 hC2 hC3 hF hbk;clear p1 p2 hA hB hx hy hrk hr2 hC1 hC2 hC3 hF hbk
     go_wp2_with fail
     refine HA.out.mono ?_
     rintro e w3 ⟨rfl,hb3⟩
     have hB3:=HB.out w3 hb3
     obtain⟨HB3,Hb3⟩:=hd2 hB3 hb3;clear hB3 hb3
     clear HB
     go_wp2_with fail
     refine HB3.out.mono ?_
     rintro e w4 ⟨rfl,hb4⟩
     have hb5:=Hbk.out.trans ((Hb3.out.trans (hb4.mono Hb3.out.size)).mono Hbk.out.size)
     obtain⟨Hb4,Hb5⟩:=hd2 hb4 hb5;clear hb4 hb5
     obtain⟨A,hA⟩ : ∃ A,A=Obj.cells #[.int .i64 r1,.int .i64 m1,.string t1] 241:=⟨_,rfl⟩
     obtain⟨B,hB⟩ : ∃ A,A=Obj.cells #[.int .i64 r2,.int .i64 m2,.string t2] 241:=⟨_,rfl⟩
     obtain⟨pa,hpa⟩ : ∃ n,n=w4.heap.size:=⟨_,rfl⟩
     obtain⟨pb,hpb⟩ : ∃ n,n=w4.heap.size+1:=⟨_,rfl⟩
     obtain⟨W0,hW0⟩ : ∃ W,W=(w4.alloc A).alloc B:=⟨_,rfl⟩
     have hX:W0.heap[pa]? = some (.cells #[.int .i64 r1,.int .i64 m1,.string t1] 241 (0,0)):=by
      rw[hW0,hpa];exact za0 (za2 _ _) (by rw[hA];exact heap_alloc_new _ _)
     have hY:W0.heap[pb]? = some (.cells #[.int .i64 r2,.int .i64 m2,.string t2] 241 (0,0)):=by
      rw[hW0,hpb,hB,show w4.heap.size+1=(w4.alloc A).heap.size by simp];exact heap_alloc_new _ _
     have hbW:Below w2.heap.size w2 W0:=by
      rw[hW0]
      exact (Hb5.out.alloc Hb5.out.size _).alloc (by have:=Hb5.out.size;simp;omega) _
     obtain⟨x0,x1,x2,_,_,_⟩:=zc7 hX
     obtain⟨y0,y1,y2,_,_,_⟩:=zc7 hY
     obtain⟨HA,HB,Hpa,Hpb,HW0,HX,HY,HbW⟩:=hd8 hA hB hpa hpb hW0 hX hY hbW;clear hA hB hpa hpb hW0 hX hY hbW
     go_upto_region 13 with fail
     rw[← HA.out,← HB.out,← HW0.out,← Hpb.out,← Hpa.out]
     have hS:W0.cell? ⟨pa,0,none⟩=some (.int .i64 r1)∧W0.cell? ⟨pa,1,none⟩=some (.int .i64 m1)∧W0.cell? ⟨pa,2,none⟩=some (.string t1)∧W0.cell? ⟨pb,0,none⟩=some (.int .i64 r2)∧W0.cell? ⟨pb,1,none⟩=some (.int .i64 m2)∧W0.cell? ⟨pb,2,none⟩=some (.string t2):=⟨x0,x1,x2,y0,y1,y2⟩
     have hS1:∀ o,(W0.drew.alloc o).cell? ⟨pa,0,none⟩=some (.int .i64 r1)∧(W0.drew.alloc o).cell? ⟨pa,1,none⟩=some (.int .i64 m1)∧(W0.drew.alloc o).cell? ⟨pa,2,none⟩=some (.string t1)∧(W0.drew.alloc o).cell? ⟨pb,0,none⟩=some (.int .i64 r2)∧(W0.drew.alloc o).cell? ⟨pb,1,none⟩=some (.int .i64 m2)∧(W0.drew.alloc o).cell? ⟨pb,2,none⟩=some (.string t2):=fun o =>
      ⟨cell_later (za2 W0.drew o) x0,cell_later (za2 W0.drew o) x1,cell_later (za2 W0.drew o) x2,cell_later (za2 W0.drew o) y0,cell_later (za2 W0.drew o) y1,cell_later (za2 W0.drew o) y2⟩
     have hbW2:∀ o,Below w2.heap.size w2 (W0.alloc o).drew:=fun o=>(HbW.out.alloc HbW.out.size o).drew
     obtain⟨HS,HS1,HbW2⟩:=hd3 hS hS1 hbW2;clear hS hS1 hbW2
     clear HA HB HW0 Hpa Hpb HX HY
     go_region_held3 (fun w'=>w'.cell? ⟨pa,0,none⟩=some (.int .i64 r1)∧w'.cell? ⟨pa,1,none⟩=some (.int .i64 m1)∧w'.cell? ⟨pa,2,none⟩=some (.string t1)∧w'.cell? ⟨pb,0,none⟩=some (.int .i64 r2)∧w'.cell? ⟨pb,1,none⟩=some (.int .i64 m2)∧w'.cell? ⟨pb,2,none⟩=some (.string t2)) (first | exact HS.out | exact HS1.out _) (first
      | (go_at_call_of 199 (Value.int .i64 r1);refine (HC1.out _).mono ?_;rintro e w5 ⟨rfl,rfl⟩)
      | (go_at_call_of 199 (Value.int .i64 m1);refine (HC2.out _).mono ?_;rintro e w5 ⟨rfl,rfl⟩)
      | (go_at_call_of 200 (Value.string t1);refine (HC3.out _).mono ?_;rintro e w5 ⟨rfl,rfl⟩)
      | (go_at_call 198;refine (HF.out W0).mono ?_;rintro e w5 ⟨rfl,rfl⟩))
     all_goals
      have hbz:=HbW2.out (.cells #[.int .i64 c1,.int .i64 c2,.int .i64 c3] 3)
      generalize (W0.alloc (.cells #[.int .i64 c1,.int .i64 c2,.int .i64 c3] 3)).drew=W9 at hbz ⊢
      by_cases hc0:c=0
      ·have e1:(c != 0)=false:=by rw[hc0];rfl
       have hn_:r=zc5 ps qs (k+1) (N - (k+1)):=by rw[Hr2.out,if_neg (by rw[hc0];simp)]
       obtain⟨Hbz,Hc0,Hn_⟩:=hd3 hbz hc0 hn_;clear hbz hc0 hn_
       go_wp2_with fail
       go_roundw
       case rel=>exact⟨k+1,by omega,by go_num,Hn_.out,Hbz.out⟩
       case measure=>simp[RowKit.intOf];omega
      have e1:(c != 0)=true:=by simpa using hc0
      have hn_:r=c:=by rw[Hr2.out,if_pos hc0]
      have hb9:=Hb.out.trans (hbz.mono Hb.out.size)
      obtain⟨Hbz,Hc0,Hn_,Hb9⟩:=hd4 hbz hc0 hn_ hb9;clear hbz hc0 hn_ hb9
      go_wp2_with fail
      go_ret
      exact⟨zey Hn_.out.symm,Hb9.out⟩
    obtain rfl:k=N:=by omega
    have hfin:r=0:=by rw[hrk,Nat.sub_self];rfl
    have hb9:=Hb.out.trans (hbk.mono Hb.out.size)
    obtain⟨Hrk,Hbk,Hfin,Hb9⟩:=hd4 hrk hbk hfin hb9;clear hrk hbk hfin hb9
    go_wp2_with fail
    go_ret
    exact⟨zey Hfin.out.symm,Hb9.out⟩
end

section
open Go.RowKit Go.Lib
abbrev RTs:Rd (List ByteArray):=zdp 1 RStr
theorem zjg {w:World} {v:Value} {l:List ByteArray} (h:RTs w [v] l):∃ a cap,v = .slice a l.length cap∧l.length≤9223372036854775807∧∀ i (hi:i < l.length),∃ b off,a=some ⟨b,off,none⟩∧w.cell? ⟨b,off+i,none⟩=some (.string l[i])∧l[i].size≤maxLen:=by
 obtain⟨a,cap,hv,hcap,hmax,hel⟩:=h
 simp only[List.cons.injEq,and_true] at hv
 unfold maxLen at hmax
 refine⟨a,cap,hv,by omega,fun i hi=>?_⟩
 obtain⟨b,off,ecs,h1,h2,h3,h4,h5⟩:=hel i l[i] (List.getElem?_eq_getElem hi)
 subst h4
 exact⟨b,off,h1,by simpa using h3 0 _ rfl,h5⟩
theorem ze6 {w:World} {B:Nat} {v:Value} {n:Nat} {l:List ByteArray} (h:w.ownsRow B 9 1 v n (l.map Value.string)) (hs:∀ x∈l,x.size≤maxLen):RTs w [v] l:=by
 obtain rfl:n=l.length:=by have:=h.1;simp at this;omega
 refine zmc (by simp) h fun i u x hu hx=>?_
 rw[List.getElem?_map,hx] at hu
 cases hu
 exact⟨rfl,hs x (List.mem_of_getElem? hx)⟩
end

section
open Go.RowKit Go.Lib VerN
theorem zcn {f:Nat} {args:Array Value} {w W:World} {E:Ending} (h:Below w.heap.size w W) (c:Calls Tryz.prog f args W fun e w'=>e=E∧Below W.heap.size W w'):Calls Tryz.prog f args W fun e w'=>e=E∧Below w.heap.size w w' :=
 c.mono fun _ _ ⟨he,hb⟩=>⟨he,h.trans (hb.mono h.size)⟩
theorem zsc (s:ByteArray) (hs:s.size≤1000000) {w:World} (hD:zbk w):Calls Tryz.prog 124 #[.string s] w fun e w'=>e = .returned (.bool (mayL s.data.toList))∧Below w.heap.size w w':=by
 have hP:=zjw s hs hD
 unfold zjx at hP
 obtain⟨p,hp⟩ : ∃ p,p=mayL s.data.toList:=⟨_,rfl⟩
 rw[← hp] at hP ⊢
 obtain⟨HP,Hp,HD⟩:=hd3 hP hp hD;clear hP hp hD
 go_enter Tryz.func124,Tryz.ntmps124
 go_wp2_with fail
 refine HP.out.mono ?_
 rintro e w1 ⟨v,rfl,_,_,hb1⟩
 have Hb1:=hd hb1;clear hb1
 go_wp2_with fail
 go_ret
 exact⟨rfl,Hb1.out⟩
theorem zox {s:ByteArray} (h:s.size=0):zbp s.data.toList=true:=by unfold zbp;rw[(zbc s).2 h];rfl
theorem zs0 {s:ByteArray} (h:s.size≠0):zbp s.data.toList=mayL s.data.toList:=by unfold zbp;rw[decide_eq_false (fun e=>h ((zbc s).1 e))];rfl
theorem zoy (s:ByteArray) (hs:s.size≤1000000) {w:World} (hD:zbk w):Calls Tryz.prog 162 #[.string s] w fun e w'=>e = .returned (.bool (zbp s.data.toList))∧Below w.heap.size w w':=by
 by_cases h0:s.size=0
 ·rw[zox h0]
  have k1:s.toList.isEmpty=true:=by rw[Txt.no_dec,decide_eq_true h0]
  have HD:=hd hD;clear hD
  go_enter Tryz.func162,Tryz.ntmps162
  go_wp2_with fail
  go_ret
  exact⟨rfl,Below.refl _ _⟩
 have hP:=zsc s hs hD
 rw[zs0 h0]
 have k1:s.toList.isEmpty=false:=by rw[Txt.no_dec,decide_eq_false h0]
 obtain⟨p,hp⟩ : ∃ p,p=mayL s.data.toList:=⟨_,rfl⟩
 rw[← hp] at hP ⊢
 obtain⟨HP,Hp,HD⟩:=hd3 hP hp hD;clear hP hp hD
 go_enter Tryz.func162,Tryz.ntmps162
 go_wp2_with fail
 refine HP.out.mono ?_
 rintro e w1 ⟨rfl,hb1⟩
 have Hb1:=hd hb1;clear hb1
 go_wp2_with fail
 go_ret
 exact⟨rfl,Hb1.out⟩
theorem zlg (s:ByteArray) (hs:s.size≤1000000) (w:World):Calls Tryz.prog 116 #[.string s] w fun e w'=>e = .returned (.bool (zbp s.data.toList))∧Below w.heap.size w w':=by
 by_cases h0:s.size=0
 ·rw[zox h0]
  have k1:s.toList.isEmpty=true:=by rw[Txt.no_dec,decide_eq_true h0]
  go_enter Tryz.func116,Tryz.ntmps116
  go_wp2_with fail
  go_ret
  exact⟨rfl,Below.refl _ _⟩
 have hP:=zj9 s hs w
 rw[zs0 h0]
 have k1:s.toList.isEmpty=false:=by rw[Txt.no_dec,decide_eq_false h0]
 obtain⟨p,hp⟩ : ∃ p,p=mayL s.data.toList:=⟨_,rfl⟩
 rw[← hp] at hP ⊢
 obtain⟨HP,Hp⟩:=hd2 hP hp;clear hP hp
 go_enter Tryz.func116,Tryz.ntmps116
 go_wp2_with fail
 refine HP.out.mono ?_
 rintro e w1 ⟨rfl,hb1⟩
 have Hb1:=hd hb1;clear hb1
 go_wp2_with fail
 go_ret
 exact⟨rfl,Hb1.out⟩
theorem ahead_l {a b:ByteArray} (h:a.size=0):zc3 a.data.toList b.data.toList=false:=by unfold zc3;rw[(zbc a).2 h];rfl
theorem ahead_r {a b:ByteArray} (h:b.size=0):zc3 a.data.toList b.data.toList=false:=by unfold zc3;rw[(zbc b).2 h];simp
theorem ahead_c {a b:ByteArray} (h:a.size≠0) (k:b.size≠0):zc3 a.data.toList b.data.toList=decide (zbd a.data.toList b.data.toList < 0):=by
 have h1:decide (a.data.toList≠[])=true:=decide_eq_true (fun e=>h ((zbc a).1 e))
 have h2:decide (b.data.toList≠[])=true:=decide_eq_true (fun e=>k ((zbc b).1 e))
 unfold zc3
 rw[h1,h2]
 rfl
theorem zkn (a b:ByteArray) (ha:a.size≤1000000) (hb:b.size≤1000000) {w:World} (hD:zbk w):Calls Tryz.prog 125 #[.string a,.string b] w fun e w'=>e = .returned (.bool (zc3 a.data.toList b.data.toList))∧Below w.heap.size w w':=by
 by_cases h0:a.size=0
 ·rw[ahead_l h0]
  have k1:a.toList.isEmpty=true:=by rw[Txt.no_dec,decide_eq_true h0]
  have HD:=hd hD;clear hD
  go_enter Tryz.func125,Tryz.ntmps125
  go_wp2_with fail
  go_ret
  exact⟨rfl,Below.refl _ _⟩
 have k1:a.toList.isEmpty=false:=by rw[Txt.no_dec,decide_eq_false h0]
 by_cases h1:b.size=0
 ·rw[ahead_r h1]
  have k2:b.toList.isEmpty=true:=by rw[Txt.no_dec,decide_eq_true h1]
  have HD:=hd hD;clear hD
  go_enter Tryz.func125,Tryz.ntmps125
  go_wp2_with fail
  go_ret
  exact⟨rfl,Below.refl _ _⟩
 have k2:b.toList.isEmpty=false:=by rw[Txt.no_dec,decide_eq_false h1]
 have hP:=zgn a b ha hb hD
 rw[ahead_c h0 h1]
 obtain⟨p,hp⟩ : ∃ p,p=zbd a.data.toList b.data.toList:=⟨_,rfl⟩
 rw[← hp] at hP ⊢
 obtain⟨HP,Hp,HD⟩:=hd3 hP hp hD;clear hP hp hD
 go_enter Tryz.func125,Tryz.ntmps125
 go_wp2_with fail
 refine HP.out.mono ?_
 rintro e w1 ⟨rfl,hb1⟩
 have Hb1:=hd hb1;clear hb1
 go_wp2_with fail
 go_ret
 exact⟨rfl,Hb1.out⟩
def zcx (a b:ByteArray):ByteArray:=if a.size=0∨zc3 a.data.toList b.data.toList=true then b else a
def zbw (a b:ByteArray):ByteArray:=if a.size=0∨zc3 b.data.toList a.data.toList=true then b else a
theorem zf4 (a b:ByteArray):(zcx a b).data.toList=zcy a.data.toList b.data.toList:=by
 unfold zcx zcy
 simp only[zbc]
 split <;> rfl
theorem ze8 (a b:ByteArray):(zbw a b).data.toList=zbx a.data.toList b.data.toList:=by
 unfold zbw zbx
 simp only[zbc]
 split <;> rfl
theorem zgv {a b:ByteArray} {n:Nat} (ha:a.size≤n) (hb:b.size≤n):(zcx a b).size≤n:=by unfold zcx;split <;> assumption
theorem zfj {a b:ByteArray} {n:Nat} (ha:a.size≤n) (hb:b.size≤n):(zbw a b).size≤n:=by unfold zbw;split <;> assumption
theorem zo7 (a b:ByteArray) (ha:a.size≤1000000) (hb:b.size≤1000000) {w:World} (hD:zbk w):Calls Tryz.prog 166 #[.string a,.string b] w fun e w'=>e = .returned (.string (zcx a b))∧Below w.heap.size w w':=by
 by_cases h0:a.size=0
 ·have hv:zcx a b=b:=by unfold zcx;rw[if_pos (.inl h0)]
  rw[hv]
  have k1:a.toList.isEmpty=true:=by rw[Txt.no_dec,decide_eq_true h0]
  obtain⟨HD,Hv⟩:=hd2 hD hv;clear hD hv
  go_enter Tryz.func166,Tryz.ntmps166
  go_wp2_with fail
  go_ret
  exact⟨rfl,Below.refl _ _⟩
 have k1:a.toList.isEmpty=false:=by rw[Txt.no_dec,decide_eq_false h0]
 have hA:=zkn a b ha hb hD
 obtain⟨p,hp⟩ : ∃ p,p=zc3 a.data.toList b.data.toList:=⟨_,rfl⟩
 rw[← hp] at hA
 cases p with
 | true =>
  have hv:zcx a b=b:=by unfold zcx;rw[if_pos (.inr hp.symm)]
  rw[hv]
  obtain⟨HA,Hp,HD,Hv⟩:=hd4 hA hp hD hv;clear hA hp hD hv
  go_enter Tryz.func166,Tryz.ntmps166
  go_wp2_with fail
  refine HA.out.mono ?_
  rintro e w1 ⟨rfl,hb1⟩
  have Hb1:=hd hb1;clear hb1
  go_wp2_with fail
  go_ret
  exact⟨rfl,Hb1.out⟩
 | false =>
  have hv:zcx a b=a:=by unfold zcx;rw[if_neg (by rintro (h | h);exact h0 h;rw[h] at hp;cases hp)]
  rw[hv]
  obtain⟨HA,Hp,HD,Hv⟩:=hd4 hA hp hD hv;clear hA hp hD hv
  go_enter Tryz.func166,Tryz.ntmps166
  go_wp2_with fail
  refine HA.out.mono ?_
  rintro e w1 ⟨rfl,hb1⟩
  have Hb1:=hd hb1;clear hb1
  go_wp2_with fail
  go_ret
  exact⟨rfl,Hb1.out⟩
theorem zlb (a b:ByteArray) (ha:a.size≤1000000) (hb:b.size≤1000000) {w:World} (hD:zbk w):Calls Tryz.prog 165 #[.string a,.string b] w fun e w'=>e = .returned (.string (zbw a b))∧Below w.heap.size w w':=by
 by_cases h0:a.size=0
 ·have hv:zbw a b=b:=by unfold zbw;rw[if_pos (.inl h0)]
  rw[hv]
  have k1:a.toList.isEmpty=true:=by rw[Txt.no_dec,decide_eq_true h0]
  obtain⟨HD,Hv⟩:=hd2 hD hv;clear hD hv
  go_enter Tryz.func165,Tryz.ntmps165
  go_wp2_with fail
  go_ret
  exact⟨rfl,Below.refl _ _⟩
 have k1:a.toList.isEmpty=false:=by rw[Txt.no_dec,decide_eq_false h0]
 have hA:=zkn b a hb ha hD
 obtain⟨p,hp⟩ : ∃ p,p=zc3 b.data.toList a.data.toList:=⟨_,rfl⟩
 rw[← hp] at hA
 cases p with
 | true =>
  have hv:zbw a b=b:=by unfold zbw;rw[if_pos (.inr hp.symm)]
  rw[hv]
  obtain⟨HA,Hp,HD,Hv⟩:=hd4 hA hp hD hv;clear hA hp hD hv
  go_enter Tryz.func165,Tryz.ntmps165
  go_wp2_with fail
  refine HA.out.mono ?_
  rintro e w1 ⟨rfl,hb1⟩
  have Hb1:=hd hb1;clear hb1
  go_wp2_with fail
  go_ret
  exact⟨rfl,Hb1.out⟩
 | false =>
  have hv:zbw a b=a:=by unfold zbw;rw[if_neg (by rintro (h | h);exact h0 h;rw[h] at hp;cases hp)]
  rw[hv]
  obtain⟨HA,Hp,HD,Hv⟩:=hd4 hA hp hD hv;clear hA hp hD hv
  go_enter Tryz.func165,Tryz.ntmps165
  go_wp2_with fail
  refine HA.out.mono ?_
  rintro e w1 ⟨rfl,hb1⟩
  have Hb1:=hd hb1;clear hb1
  go_wp2_with fail
  go_ret
  exact⟨rfl,Hb1.out⟩
end

section
open Go.RowKit Go.Lib VerN
theorem za9 {w W0 W:World} (h:Below w.heap.size w W0) (k:Below W0.heap.size W0 W):Below w.heap.size w W:=h.trans (k.mono h.size)
theorem zm7 (lo hi:ByteArray) (w W:World) (h:Below (w.alloc (.cells #[.string lo,.string hi] 34)).heap.size (w.alloc (.cells #[.string lo,.string hi] 34)) W):W.cell? ⟨w.heap.size,0,none⟩=some (.string lo)∧W.cell? ⟨w.heap.size,1,none⟩=some (.string hi):=by
 have h1:=za0 h (heap_alloc_new w (.cells #[.string lo,.string hi] 34))
 exact⟨za5 h1 0,za5 h1 1⟩
theorem ze0 (s:ByteArray):s.toList.isEmpty=decide (s.data.toList = []):=by rw[Txt.no_dec];exact decide_eq_decide.2 (zbc s).symm
theorem zcf (lo hi:ByteArray) (hl:lo.size≤1000000) (hh:hi.size≤1000000) {w:World} (hD:zbk w):Calls Tryz.prog 104 #[.agg #[.string lo,.string hi]] w fun e w'=>e = .returned (.bool (mayS (lo.data.toList,hi.data.toList)))∧Below w.heap.size w w':=by
 obtain⟨W0,hW0⟩ : ∃ W0,W0=w.alloc (.cells #[.string lo,.string hi] 34):=⟨_,rfl⟩
 obtain⟨nb,hnb⟩ : ∃ nb,nb=w.heap.size:=⟨_,rfl⟩
 have hw:Below w.heap.size w W0:=by rw[hW0];exact za2 _ _
 have hbx:∀ W,Below W0.heap.size W0 W→W.cell? ⟨nb,0,none⟩=some (.string lo)∧W.cell? ⟨nb,1,none⟩=some (.string hi):=by rw[hW0,hnb];exact zm7 _ _ _
 obtain⟨c0,c1⟩:=hbx W0 (Below.refl _ _)
 have hb0:Below W0.heap.size W0 W0:=Below.refl _ _
 have hA:=fun (W:World) (k:Below W0.heap.size W0 W)=>zcn k (zoy lo hl (hD.below (za9 hw k)))
 have hB:=fun (W:World) (k:Below W0.heap.size W0 W)=>zcn k (zoy hi hh (hD.below (za9 hw k)))
 have hC:=fun (W:World) (k:Below W0.heap.size W0 W)=>zcn k (zkn hi lo hh hl (hD.below (za9 hw k)))
 obtain⟨p,hp⟩ : ∃ p,p=zbp lo.data.toList:=⟨_,rfl⟩
 obtain⟨q,hq⟩ : ∃ p,p=zbp hi.data.toList:=⟨_,rfl⟩
 obtain⟨r,hr⟩ : ∃ p,p=zc3 hi.data.toList lo.data.toList:=⟨_,rfl⟩
 have hm:mayS (lo.data.toList,hi.data.toList)=(p && q && !r):=by rw[hp,hq,hr];rfl
 rw[← hp] at hA
 rw[← hq] at hB
 rw[← hr] at hC
 rw[hm]
 clear hm hp hq hr hD
 obtain⟨HA,HB,HC,Hw,Hbx,Hb0⟩:=hd6 hA hB hC hw hbx hb0;clear hA hB hC hw hbx hb0
 go_enter Tryz.func104,Tryz.ntmps104
 go_upto_region 1 with (fail)
 rw[← hW0,← hnb]
 clear hW0 hnb
 go_wp2_with fail
 refine (HA.out _ Hb0.out).mono ?_
 rintro e w1 ⟨rfl,hb1⟩
 obtain⟨c0,c1⟩:=Hbx.out _ hb1
 have Hb1:=hd hb1;clear hb1
 cases p with
 | false =>
  go_wp2_with fail
  go_ret
  exact⟨rfl,za9 Hw.out Hb1.out⟩
 | true =>
  go_wp2_with fail
  refine (HB.out _ Hb1.out).mono ?_
  rintro e w2 ⟨rfl,hb2⟩
  obtain⟨c0,c1⟩:=Hbx.out _ hb2
  have Hb2:=hd hb2;clear hb2
  cases q with
  | false =>
   go_wp2_with fail
   go_ret
   exact⟨rfl,za9 Hw.out Hb2.out⟩
  | true =>
   go_wp2_with fail
   refine (HC.out _ Hb2.out).mono ?_
   rintro e w3 ⟨rfl,hb3⟩
   obtain⟨c0,c1⟩:=Hbx.out _ hb3
   have Hb3:=hd hb3;clear hb3
   go_wp2_with fail
   go_ret
   exact⟨rfl,za9 Hw.out Hb3.out⟩
theorem ze4 (lo hi:ByteArray) (hl:lo.size≤1000000) (hh:hi.size≤1000000) (w:World):Calls Tryz.prog 59 #[.agg #[.string lo,.string hi]] w fun e w'=>e = .returned (.bool (mayS (lo.data.toList,hi.data.toList)))∧Below w.heap.size w w':=by
 obtain⟨W0,hW0⟩ : ∃ W0,W0=w.alloc (.cells #[.string lo,.string hi] 34):=⟨_,rfl⟩
 obtain⟨nb,hnb⟩ : ∃ nb,nb=w.heap.size:=⟨_,rfl⟩
 have hw:Below w.heap.size w W0:=by rw[hW0];exact za2 _ _
 have hbx:∀ W,Below W0.heap.size W0 W→W.cell? ⟨nb,0,none⟩=some (.string lo)∧W.cell? ⟨nb,1,none⟩=some (.string hi):=by rw[hW0,hnb];exact zm7 _ _ _
 obtain⟨c0,c1⟩:=hbx W0 (Below.refl _ _)
 have hb0:Below W0.heap.size W0 W0:=Below.refl _ _
 have hA:=fun (W:World) (k:Below W0.heap.size W0 W)=>zcn k (zlg lo hl W)
 have hB:=fun (W:World) (k:Below W0.heap.size W0 W)=>zcn k (zlg hi hh W)
 have hC:=fun (W:World) (k:Below W0.heap.size W0 W)=>zcn k (zeo hi lo hh hl W)
 obtain⟨p,hp⟩ : ∃ p,p=zbp lo.data.toList:=⟨_,rfl⟩
 obtain⟨q,hq⟩ : ∃ p,p=zbp hi.data.toList:=⟨_,rfl⟩
 obtain⟨r,hr⟩ : ∃ p,p=zen hi.data.toList lo.data.toList:=⟨_,rfl⟩
 obtain⟨d1,k1⟩ : ∃ p,lo.toList.isEmpty=p:=⟨_,rfl⟩
 obtain⟨d2,k2⟩ : ∃ p,hi.toList.isEmpty=p:=⟨_,rfl⟩
 have hm:mayS (lo.data.toList,hi.data.toList)=(p && q && (d1 || d2 || !r)):=by rw[← refMay_is,hp,hq,hr,← k1,← k2,ze0,ze0];rfl
 rw[← hp] at hA
 rw[← hq] at hB
 rw[← hr] at hC
 rw[hm]
 clear hm hp hq hr
 obtain⟨HA,HB,HC,Hw,Hbx,Hb0⟩:=hd6 hA hB hC hw hbx hb0;clear hA hB hC hw hbx hb0
 go_enter Tryz.func59,Tryz.ntmps59
 go_upto_region 1 with (fail)
 rw[← hW0,← hnb]
 clear hW0 hnb
 go_wp2_with fail
 refine (HA.out _ Hb0.out).mono ?_
 rintro e w1 ⟨rfl,hb1⟩
 obtain⟨c0,c1⟩:=Hbx.out _ hb1
 have Hb1:=hd hb1;clear hb1
 cases p with
 | false =>
  go_wp2_with fail
  go_ret
  exact⟨rfl,za9 Hw.out Hb1.out⟩
 | true =>
  go_wp2_with fail
  refine (HB.out _ Hb1.out).mono ?_
  rintro e w2 ⟨rfl,hb2⟩
  obtain⟨c0,c1⟩:=Hbx.out _ hb2
  have Hb2:=hd hb2;clear hb2
  cases q with
  | false =>
   go_wp2_with fail
   go_ret
   exact⟨rfl,za9 Hw.out Hb2.out⟩
  | true =>
   cases d1 with
   | false =>
    cases d2 with
    | false =>
     go_wp2_with fail
     refine (HC.out _ Hb2.out).mono ?_
     rintro e w3 ⟨rfl,hb3⟩
     obtain⟨c0,c1⟩:=Hbx.out _ hb3
     have Hb3:=hd hb3;clear hb3
     go_wp2_with fail
     go_ret
     exact⟨rfl,za9 Hw.out Hb3.out⟩
    | true =>
     go_wp2_with fail
     go_ret
     exact⟨rfl,za9 Hw.out Hb2.out⟩
   | true =>
    go_wp2_with fail
    go_ret
    exact⟨rfl,za9 Hw.out Hb2.out⟩
end

section
open Go.RowKit Go.Lib VerN
def txR (lo hi:ByteArray):ByteArray:=if lo=hi∧lo.size≠0 then lo else lo ++ ⟨#[58]⟩ ++ hi
def txS (lo hi:ByteArray):ByteArray:=if mayS (lo.data.toList,hi.data.toList)=true then txR lo hi else ⟨#[]⟩
theorem zlr (h a:ByteArray):(h ++ ⟨#[58]⟩ ++ a).data.toList=h.data.toList ++ 58 :: a.data.toList:=by
 rw[Go.Joins.data_append,Go.Joins.data_append,List.append_assoc]
 rfl
theorem ztr (h a:ByteArray):(h ++ ⟨#[58]⟩ ++ a).size=h.size+1+a.size:=by
 rw[← Txt.len,zlr,List.length_append,List.length_cons,Txt.len,Txt.len]
 omega
theorem ba_eq {a b:ByteArray}:a=b↔a.data.toList=b.data.toList:=⟨fun h=>by rw[h],Txt.ext⟩
theorem zqt (lo hi:ByteArray):(txR lo hi).data.toList=zpa (lo.data.toList,hi.data.toList):=by
 unfold txR zpa
 simp only[ba_eq,ne_eq,zbc]
 split
 ·rfl
 exact zlr _ _
theorem zm1 (lo hi:ByteArray):(txS lo hi).data.toList=textS (lo.data.toList,hi.data.toList):=by
 unfold txS textS
 split
 ·exact zqt _ _
 rfl
theorem zm2 (lo hi:ByteArray):(txR lo hi).size≤lo.size+1+hi.size:=by
 unfold txR
 split
 ·omega
 rw[ztr]
 exact Nat.le_refl _
theorem zjt (lo hi:ByteArray) (hl:lo.size≤1000000) (hh:hi.size≤1000000) (w:World):Calls Tryz.prog 114 #[.agg #[.string lo,.string hi]] w fun e w'=>e = .returned (.string (txR lo hi))∧Below w.heap.size w w':=by
 obtain⟨W0,hW0⟩ : ∃ W0,W0=w.alloc (.cells #[.string lo,.string hi] 34):=⟨_,rfl⟩
 obtain⟨nb,hnb⟩ : ∃ nb,nb=w.heap.size:=⟨_,rfl⟩
 have hw:Below w.heap.size w W0:=by rw[hW0];exact za2 _ _
 have hbx:∀ W,Below W0.heap.size W0 W→W.cell? ⟨nb,0,none⟩=some (.string lo)∧W.cell? ⟨nb,1,none⟩=some (.string hi):=by rw[hW0,hnb];exact zm7 _ _ _
 obtain⟨c0,c1⟩:=hbx W0 (Below.refl _ _)
 have hb0:Below W0.heap.size W0 W0:=Below.refl _ _
 obtain⟨d1,k1⟩ : ∃ p,lo.toList.isEmpty=p:=⟨_,rfl⟩
 obtain⟨d2,k2⟩ : ∃ p,(lo.toList == hi.toList)=p:=⟨_,rfl⟩
 have e0:(lo ++ ⟨#[58]⟩).size=lo.size+1:=by rw[← Txt.len,Go.Joins.data_append,List.length_append,Txt.len];rfl
 have hm:txR lo hi=if d2=true then (if d1=true then lo ++ ⟨#[58]⟩ ++ hi else lo) else lo ++ ⟨#[58]⟩ ++ hi:=by
  rw[← k1,← k2,Txt.no_dec,Txt.eq_dec]
  unfold txR
  by_cases h1:lo=hi <;> by_cases h2:lo.size=0 <;> simp[h1,h2]
 rw[hm]
 clear hm
 obtain⟨Hw,Hbx,Hb0⟩:=hd3 hw hbx hb0;clear hw hbx hb0
 go_enter Tryz.func114,Tryz.ntmps114
 go_upto_region 1 with (fail)
 rw[← hW0,← hnb]
 clear hW0 hnb
 cases d2 with
 | false =>
  go_wp2_with fail
  go_ret
  exact⟨rfl,za9 Hw.out Hb0.out⟩
 | true =>
  cases d1 with
  | false =>
   go_wp2_with fail
   go_ret
   exact⟨rfl,za9 Hw.out Hb0.out⟩
  | true =>
   go_wp2_with fail
   go_ret
   exact⟨rfl,za9 Hw.out Hb0.out⟩
theorem zfh (lo hi:ByteArray) (hl:lo.size≤1000000) (hh:hi.size≤1000000) {w:World} (hD:zbk w):Calls Tryz.prog 57 #[.agg #[.string lo,.string hi]] w fun e w'=>e = .returned (.string (txS lo hi))∧Below w.heap.size w w':=by
 obtain⟨W0,hW0⟩ : ∃ W0,W0=w.alloc (.cells #[.string lo,.string hi] 34):=⟨_,rfl⟩
 obtain⟨nb,hnb⟩ : ∃ nb,nb=w.heap.size:=⟨_,rfl⟩
 have hw:Below w.heap.size w W0:=by rw[hW0];exact za2 _ _
 have hbx:∀ W,Below W0.heap.size W0 W→W.cell? ⟨nb,0,none⟩=some (.string lo)∧W.cell? ⟨nb,1,none⟩=some (.string hi):=by rw[hW0,hnb];exact zm7 _ _ _
 obtain⟨c0,c1⟩:=hbx W0 (Below.refl _ _)
 have hb0:Below W0.heap.size W0 W0:=Below.refl _ _
 obtain⟨d1,k1⟩ : ∃ p,lo.toList.isEmpty=p:=⟨_,rfl⟩
 obtain⟨d2,k2⟩ : ∃ p,(lo.toList == hi.toList)=p:=⟨_,rfl⟩
 have e0:(lo ++ ⟨#[58]⟩).size=lo.size+1:=by rw[← Txt.len,Go.Joins.data_append,List.length_append,Txt.len];rfl
 have hA:=fun (W:World) (k:Below W0.heap.size W0 W)=>zcn k (zcf lo hi hl hh (hD.below (za9 hw k)))
 obtain⟨p,hp⟩ : ∃ p,p=mayS (lo.data.toList,hi.data.toList):=⟨_,rfl⟩
 have hm:txS lo hi=if p=true then (if d2=true then (if d1=true then lo ++ ⟨#[58]⟩ ++ hi else lo) else lo ++ ⟨#[58]⟩ ++ hi) else ⟨#[]⟩:=by
  rw[← k1,← k2,Txt.no_dec,Txt.eq_dec]
  unfold txS txR
  rw[← hp]
  by_cases h1:lo=hi <;> by_cases h2:lo.size=0 <;> simp[h1,h2]
 rw[hm]
 rw[← hp] at hA
 clear hm hp hD
 obtain⟨HA,Hw,Hbx,Hb0⟩:=hd4 hA hw hbx hb0;clear hA hw hbx hb0
 go_enter Tryz.func57,Tryz.ntmps57
 go_upto_region 1 with (fail)
 rw[← hW0,← hnb]
 clear hW0 hnb
 go_wp2_with fail
 refine (HA.out _ Hb0.out).mono ?_
 rintro e w1 ⟨rfl,hb1⟩
 obtain⟨c0,c1⟩:=Hbx.out _ hb1
 have Hb1:=hd hb1;clear hb1
 cases p with
 | false =>
  go_wp2_with fail
  go_ret
  exact⟨rfl,za9 Hw.out Hb1.out⟩
 | true =>
  cases d2 with
  | false =>
   go_wp2_with fail
   go_ret
   exact⟨rfl,za9 Hw.out Hb1.out⟩
  | true =>
   cases d1 with
   | false =>
    go_wp2_with fail
    go_ret
    exact⟨rfl,za9 Hw.out Hb1.out⟩
   | true =>
    go_wp2_with fail
    go_ret
    exact⟨rfl,za9 Hw.out Hb1.out⟩
end

namespace VerN
open Go.Lib
theorem zn1 (c:UInt8):∀ (ps:List (List UInt8)) (x:UInt8),x∈glue c ps→x=c∨∃ p∈ps,x∈p
 | [],x,h=>by unfold glue at h;simp at h
 | [p],x,h=>by unfold glue at h;exact .inr ⟨p,by simp,h⟩
 | p :: q :: r,x,h=>by
  unfold glue at h
  rcases List.mem_append.1 h with h | h
  ·exact .inr ⟨p,by simp,h⟩
  rcases List.mem_cons.1 h with h | h
  ·exact .inl h
  rcases zn1 c (q :: r) x h with h | ⟨p',hp,hx⟩
  ·exact .inl h
  exact .inr ⟨p',by simp at hp ⊢;exact .inr hp,hx⟩
theorem zsw {p:List UInt8} (h:zbs p=true):(58:UInt8) ∉ p:=by
 intro hx
 unfold zbs at h
 rcases Bool.or_eq_true _ _ ▸ h with h | h
 ·unfold zcb at h
  simp only[Bool.and_eq_true,List.all_eq_true] at h
  have:=(zdo _).1 (h.2 58 hx)
  simp at this
 unfold zdx at h
 simp only[Bool.and_eq_true,List.all_eq_true] at h
 have:=(zcc _).1 (h.1.1.2 58 hx)
 simp at this
theorem may_colon {l:List UInt8} (h:mayL l=true):(58:UInt8) ∉ l:=by
 intro hx
 have hg:=zgd 46 l []
 rw[List.nil_append] at hg
 rw[← hg] at hx
 rcases zn1 _ _ _ hx with e | ⟨p,hp,hx⟩
 ·exact absurd e (by decide)
 exact zsw (((zcp l).1 h).2.2.1 p hp) hx
theorem zqm {l:List UInt8} (h:zbp l=true):(58:UInt8) ∉ l:=by
 rcases zfx.1 h with h | h
 ·rw[h];simp
 exact may_colon h
theorem zej (c:UInt8):∀ l:List UInt8,c ∉ l→indexByte l c = -1
 | [],_=>rfl
 | x :: r,h=>by
  have hx:x≠c:=fun e=>h (by simp[e])
  have hr:=zej c r (fun e=>h (by simp[e]))
  unfold indexByte
  simp[hx,hr]
theorem zio (c:UInt8):∀ a b:List UInt8,c ∉ a→indexByte (a ++ c :: b) c=a.length
 | [],_,_=>by show indexByte (c :: _) c=_;unfold indexByte;simp
 | x :: r,b,h=>by
  have hx:x≠c:=fun e=>h (by simp[e])
  have hr:=zio c r b (fun e=>h (by simp[e]))
  show indexByte (x :: (r ++ c :: b)) c=_
  unfold indexByte
  rw[hr]
  simp[hx]
theorem cut_none {l:List UInt8} (h:(58:UInt8) ∉ l):cut l [58]=(l,[],false):=by
 unfold cut
 rw[index_one,zej _ _ h,if_neg (by omega)]
theorem cut_at {a b:List UInt8} (h:(58:UInt8) ∉ a):cut (a ++ 58 :: b) [58]=(a,b,true):=by
 unfold cut
 rw[index_one,zio _ _ _ h,if_pos (by omega)]
 simp
theorem zh0 (l:List UInt8):(58:UInt8) ∉ l∨∃ a b,l=a ++ 58 :: b∧(58:UInt8) ∉ a:=by
 by_cases h:(58:UInt8)∈l
 ·exact .inr (List.eq_append_cons_of_mem h)
 exact .inl h
def spO (l:List UInt8):Sp:=if (cut l [58]).2.2=true then ((cut l [58]).1,(cut l [58]).2.1) else ((cut l [58]).1,(cut l [58]).1)
def spOk (l:List UInt8):Bool:=mayS (spO l) && decide (textS (spO l)=l)
def zhe (l:List UInt8):Sp:=if (cutL 58 l).length=1 then (l,l) else ((cutL 58 l).getD 0 [],(cutL 58 l).getD 1 [])
def zi2 (l:List UInt8):Bool:=if (cutL 58 l).length=1 then mayL l else mayS (zhe l) && decide (zpa (zhe l)=l)
theorem znx {l:List UInt8} (h:(58:UInt8) ∉ l):spO l=(l,l):=by unfold spO;rw[cut_none h];rfl
theorem zpp {a b:List UInt8} (h:(58:UInt8) ∉ a):spO (a ++ 58 :: b)=(a,b):=by unfold spO;rw[cut_at h];rfl
theorem zfw {l:List UInt8} (h:(58:UInt8) ∉ l):cutL 58 l = [l]:=zkh 58 l [] (fun x hx e=>h (e ▸ hx))
theorem zqh {a b:List UInt8} (h:(58:UInt8) ∉ a):cutL 58 (a ++ 58 :: b)=a :: cutL 58 b:=by rw[zon,zfw h];rfl
theorem one_may (l:List UInt8):mayS (l,l)=zbp l:=by
 unfold mayS
 rw[zgg.2 (.inr (.inr (le_refl l)))]
 simp
theorem zm3 {s:Sp} (h:mayS s=true):textS s=zpa s:=if_pos h
theorem refOk_is (l:List UInt8) (hl:(cutL 58 l).length≤2):zi2 l=spOk l∧zhe l=spO l:=by
 rcases zh0 l with h | ⟨a,b,rfl,h⟩
 ·have e1:(cutL 58 l).length=1:=by rw[zfw h];rfl
  have e2:zhe l=(l,l):=by unfold zhe;rw[if_pos e1]
  refine⟨?_,by rw[e2,znx h]⟩
  unfold zi2 spOk
  rw[if_pos e1,znx h,one_may]
  by_cases hn:l = []
  ·subst hn;decide
  have hb:zbp l=mayL l:=by unfold zbp;rw[decide_eq_false hn];rfl
  rw[hb]
  cases hm:mayL l with
  | false=>rfl
  | true =>
   have:mayS (l,l)=true:=by rw[one_may,hb,hm]
   rw[zm3 this]
   unfold zpa
   rw[if_pos ⟨rfl,hn⟩]
   simp
 have h2:=zqh (b:=b) h
 rw[h2] at hl
 have hb:(58:UInt8) ∉ b:=by
  intro hx
  obtain⟨a',b',rfl,h'⟩:=List.eq_append_cons_of_mem hx
  rw[zqh h'] at hl
  have:=(zf5 58 b').1
  simp at hl
  have:=List.length_pos_iff.1 (Nat.lt_of_lt_of_le Nat.zero_lt_one this)
  contradiction
 rw[zfw hb] at h2
 have e1:(cutL 58 (a ++ 58 :: b)).length≠1:=by rw[h2];simp
 have e2:zhe (a ++ 58 :: b)=(a,b):=by unfold zhe;rw[if_neg e1,h2];rfl
 refine⟨?_,by rw[e2,zpp h]⟩
 unfold zi2 spOk
 rw[if_neg e1,e2,zpp h]
 cases hm:mayS (a,b) with
 | false=>rfl
 | true=>rw[zm3 hm]
theorem read_many {l:List UInt8} (hl:2 < (cutL 58 l).length):spOk l=false:=by
 rcases zh0 l with h | ⟨a,b,rfl,h⟩
 ·rw[zfw h] at hl;simp at hl
 rw[zqh h] at hl
 have hb:(58:UInt8)∈b:=by
  refine Decidable.byContradiction fun hx=>?_
  rw[zfw hx] at hl
  simp at hl
 unfold spOk
 rw[zpp h]
 cases hm:mayS (a,b) with
 | false=>rfl
 | true=>exact absurd hb (zqm (zbh.1 hm).2.1)
end VerN

section
open Go.RowKit Go.Lib VerN
theorem zab {fn:Func} {p u:Tmp} (hres:fn.results=#[.cell p 34,.tmp u]) {R:Ending→World→Prop} {a:Act} {w:World} {g:Nat} {x y b:Value} (hp:a.tmps.getD p undef = .pointer (some ⟨g,0,none⟩)) (hu:a.tmps.getD u undef=b)
  (hg:w.heap[g]? = some (.cells #[x,y] 34 (0,0))) (hd:a.defers = []) (hR:R (.returned (.tuple #[.agg #[x,y],b])) w):bodyPost Tryz.prog fn R .ret a w:=by
 refine bodyPost_ret (v:=.tuple #[.agg #[x,y],b]) ?_ hd hR
 rw[results_cell_tmp hres,hp,hu]
 simp only[asAddr,Sem.run_pure,Result.andThen,run_loadVar_row w g 34 34 _ _ _ hg Tryz.underlying34 rfl (by kernel_rfl)]
theorem zal {fn:Func} {p:Tmp} (hres:fn.results=#[.cell p 34]) {R:Ending→World→Prop} {a:Act} {w:World} {g:Nat} {x y:Value} (hp:a.tmps.getD p undef = .pointer (some ⟨g,0,none⟩)) (hg:w.heap[g]? = some (.cells #[x,y] 34 (0,0))) (hd:a.defers = []) (hR:R (.returned (.agg #[x,y])) w):bodyPost Tryz.prog fn R .ret a w :=
 bodyPost_ret (results_cell_row hres a.tmps w g _ _ _ _ hp hg Tryz.underlying34 rfl (by kernel_rfl)) hd hR
theorem za1 {w:World} {g:Nat} {t:TypeId} {x y:Value} (h:w.heap[g]? = some (.cells #[x,y] t (0,0))):w.cell? ⟨g,0,none⟩=some x∧w.cell? ⟨g,1,none⟩=some y∧w.frozen? ⟨g,0,none⟩=false∧w.frozen? ⟨g,1,none⟩=false :=
 ⟨za5 h 0,za5 h 1,zad h 0,zad h 1⟩
theorem zah {w:World} {g:Nat} {t:TypeId} {x y:Value} (u v:Value) (h:w.heap[g]? = some (.cells #[x,y] t (0,0))):((w.setCell ⟨g,0,none⟩ u).setCell ⟨g,1,none⟩ v).heap[g]? = some (.cells #[u,v] t (0,0)):=by
 have k0:=heap_setCell_same _ g 0 _ _ u h
 have k1:=heap_setCell_same _ g 1 _ _ v k0
 exact k1
theorem zae {B:Nat} {a w:World} {g:Nat} (u v:Value) (h:Below B a w) (hg:B≤g):Below B a ((w.setCell ⟨g,0,none⟩ u).setCell ⟨g,1,none⟩ v):=(h.setCell (p:=⟨g,0,none⟩) hg _).setCell (p:=⟨g,1,none⟩) hg _
theorem zar {a b c d:ByteArray} {p q:Bool} (h1:a=c) (h2:b=d) (h3:p=q):Ending.returned (.tuple #[.agg #[.string a,.string b],.bool p]) = .returned (.tuple #[.agg #[.string c,.string d],.bool q]):=by rw[h1,h2,h3]
def spB (s:ByteArray):ByteArray × ByteArray:=if (cut s.data.toList [58]).2.2=true then (⟨(cut s.data.toList [58]).1.toArray⟩,⟨(cut s.data.toList [58]).2.1.toArray⟩) else (⟨(cut s.data.toList [58]).1.toArray⟩,⟨(cut s.data.toList [58]).1.toArray⟩)
def spV (s:ByteArray):ByteArray × ByteArray:=if spOk s.data.toList=true then spB s else (⟨#[]⟩,⟨#[]⟩)
theorem zj4 (s:ByteArray):((spB s).1.data.toList,(spB s).2.data.toList)=spO s.data.toList:=by
 unfold spB spO
 split <;> rfl
theorem zkg (s:ByteArray):(cut s.data.toList [58]).1.length≤s.size∧(cut s.data.toList [58]).2.1.length≤s.size:=by
 rw[← Txt.len]
 rcases zh0 s.data.toList with h | ⟨a,b,hab,h⟩
 ·rw[cut_none h]
  exact⟨Nat.le_refl _,Nat.zero_le _⟩
 rw[hab,cut_at h]
 constructor <;> simp
 omega
theorem znm (s:ByteArray) (hs:s.size≤100000) {w:World} (hD:zbk w):Calls Tryz.prog 53 #[.string s] w fun e w'=>e = .returned (.tuple #[.agg #[.string (spV s).1,.string (spV s).2],.bool (spOk s.data.toList)])∧Below w.heap.size w w':=by
 obtain⟨W0,hW0⟩ : ∃ W0,W0=w.alloc (.cells #[.string ⟨#[]⟩,.string ⟨#[]⟩] 34):=⟨_,rfl⟩
 obtain⟨nb,hnb⟩ : ∃ nb,nb=w.heap.size:=⟨_,rfl⟩
 have hw:Below w.heap.size w W0:=by rw[hW0];exact za2 _ _
 have hbx:W0.heap[nb]? = some (.cells #[.string ⟨#[]⟩,.string ⟨#[]⟩] 34 (0,0)):=by rw[hW0,hnb];exact heap_alloc_new _ _
 obtain⟨lo,hlo⟩ : ∃ x:ByteArray,x=⟨(cut s.data.toList [58]).1.toArray⟩:=⟨_,rfl⟩
 obtain⟨hi,hhi⟩ : ∃ x:ByteArray,x=⟨(cut s.data.toList [58]).2.1.toArray⟩:=⟨_,rfl⟩
 obtain⟨two,htwo⟩ : ∃ x:Bool,x=(cut s.data.toList [58]).2.2:=⟨_,rfl⟩
 have hB:spB s=if two=true then (lo,hi) else (lo,lo):=by unfold spB;rw[← hlo,← hhi,← htwo]
 have hl:lo.size≤100000:=by have:=(zkg s).1;rw[hlo];show (cut s.data.toList [58]).1.toArray.size≤_;simp;omega
 have hh:hi.size≤100000:=by have:=(zkg s).2;rw[hhi];show (cut s.data.toList [58]).2.1.toArray.size≤_;simp;omega
 obtain⟨mx,hmx⟩:=(hD.below hw).max
 have hC:=Tryz.strings_Cut s ⟨#[58]⟩ _ W0 (by omega) hmx
 clear hmx
 simp only[← hlo,← hhi,← htwo] at hC
 obtain⟨HC,Hw,Hbx,HB,Hlo,Hhi,Htwo,HD⟩:=hd8 hC hw hbx hB hlo hhi htwo hD;clear hC hw hbx hB hlo hhi htwo hD
 go_enter Tryz.func53,Tryz.ntmps53
 go_upto_region 1 with (fail)
 rw[← hW0,← hnb]
 have hle:w.heap.size≤nb:=Nat.le_of_eq hnb.symm
 clear hW0 hnb
 have Hle:=hd hle;clear hle
 go_wp2_with fail
 refine HC.out.mono ?_
 rintro e w1 ⟨rfl,n,rfl⟩
 have hb1:Below W0.heap.size W0 (W0.drewN n):=zak (Below.refl _ _) n
 generalize W0.drewN n=W1 at hb1 ⊢
 have Hb1:=hd hb1;clear hb1
 cases two with
 | true =>
  go_upto_region 5 with (fail)
  obtain⟨W2,hW2⟩ : ∃ W2,W2=W1.alloc (.cells #[.string lo,.string hi] 34):=⟨_,rfl⟩
  obtain⟨g,hg⟩ : ∃ g,g=W1.heap.size:=⟨_,rfl⟩
  have hb2:Below W0.heap.size W0 W2:=by rw[hW2];exact Hb1.out.alloc Hb1.out.size _
  have hgx:W2.heap[g]? = some (.cells #[.string lo,.string hi] 34 (0,0)):=by rw[hW2,hg];exact heap_alloc_new _ _
  have hr2:=za0 hb2 Hbx.out
  have hA:=fun (W:World) (k:Below W2.heap.size W2 W)=>zcn k (zcf lo hi (by omega) (by omega) (HD.out.below (za9 Hw.out (hb2.trans (k.mono hb2.size)))))
  have hT:=fun (W:World) (k:Below W2.heap.size W2 W)=>zcn k (zfh lo hi (by omega) (by omega) (HD.out.below (za9 Hw.out (hb2.trans (k.mono hb2.size)))))
  obtain⟨p,hp⟩ : ∃ x,x=mayS (lo.data.toList,hi.data.toList):=⟨_,rfl⟩
  obtain⟨tx,htx⟩ : ∃ x,x=txS lo hi:=⟨_,rfl⟩
  obtain⟨d,k1⟩ : ∃ x,(tx.toList == s.toList)=x:=⟨_,rfl⟩
  have hB2:spB s=(lo,hi):=by rw[HB.out];rfl
  have hok:spOk s.data.toList=(p && d):=by
   unfold spOk
   rw[← zj4,hB2,← zm1,← k1,← htx,hp,Txt.eq_dec]
   exact congrArg _ (decide_eq_decide.2 ba_eq.symm)
  have hval:spV s=if (p && d)=true then (lo,hi) else (⟨#[]⟩,⟨#[]⟩):=by unfold spV;rw[hok,hB2]
  rw[← hp] at hA
  rw[← htx] at hT
  have hb0:Below W2.heap.size W2 W2:=Below.refl _ _
  have hgw:=fun (W:World) (k:Below W2.heap.size W2 W)=>za1 (za0 k hgx)
  have hrw:=fun (W:World) (k:Below W2.heap.size W2 W)=>za1 (za0 k hr2)
  obtain⟨c0,c1,f0,f1⟩:=hgw W2 hb0
  obtain⟨x0,x1,y0,y1⟩:=hrw W2 hb0
  rw[← hW2,← hg]
  clear hW2 hg hp htx hB2
  obtain⟨Hb2,Hgx,Hr2,HA,HT,Hok,Hval,Hgw,Hrw,Hb0⟩:=hd10 hb2 hgx hr2 hA hT hok hval hgw hrw hb0;clear hb2 hgx hr2 hA hT hok hval hgw hrw hb0
  go_wp2_with fail
  refine (HA.out _ Hb0.out).mono ?_
  rintro e w2 ⟨rfl,hb3⟩
  obtain⟨c0,c1,f0,f1⟩:=Hgw.out _ hb3
  obtain⟨x0,x1,y0,y1⟩:=Hrw.out _ hb3
  have Hb3:=hd hb3;clear hb3
  cases p with
  | false =>
   have hr3:=za0 Hb3.out Hr2.out
   have hb9:=Hb2.out.trans (Hb3.out.mono Hb2.out.size)
   obtain⟨Hr3,Hb9⟩:=hd2 hr3 hb9;clear hr3 hb9
   go_wp2_with fail
   refine zab rfl rfl rfl (zah _ _ Hr3.out) rfl ?_
   exact⟨zar (by rw[Hval.out];rfl) (by rw[Hval.out];rfl) Hok.out.symm,zae _ _ (za9 Hw.out Hb9.out) Hle.out⟩
  | true =>
   go_wp2_with fail
   refine (HT.out _ Hb3.out).mono ?_
   rintro e w3 ⟨rfl,hb4⟩
   obtain⟨c0,c1,f0,f1⟩:=Hgw.out _ hb4
   obtain⟨x0,x1,y0,y1⟩:=Hrw.out _ hb4
   have hr3:=za0 hb4 Hr2.out
   have hb9:=Hb2.out.trans (hb4.mono Hb2.out.size)
   obtain⟨Hb4,Hr3,Hb9⟩:=hd3 hb4 hr3 hb9;clear hb4 hr3 hb9
   cases d with
   | false =>
    go_wp2_with fail
    refine zab rfl rfl rfl (zah _ _ Hr3.out) rfl ?_
    exact⟨zar (by rw[Hval.out];rfl) (by rw[Hval.out];rfl) Hok.out.symm,zae _ _ (za9 Hw.out Hb9.out) Hle.out⟩
   | true =>
    go_wp2_with fail
    refine zab rfl rfl rfl (zah _ _ Hr3.out) rfl ?_
    exact⟨zar (by rw[Hval.out];rfl) (by rw[Hval.out];rfl) Hok.out.symm,zae _ _ (za9 Hw.out Hb9.out) Hle.out⟩
 | false =>
  go_upto_region 5 with (fail)
  obtain⟨W2,hW2⟩ : ∃ W2,W2=W1.alloc (.cells #[.string lo,.string lo] 34):=⟨_,rfl⟩
  obtain⟨g,hg⟩ : ∃ g,g=W1.heap.size:=⟨_,rfl⟩
  have hb2:Below W0.heap.size W0 W2:=by rw[hW2];exact Hb1.out.alloc Hb1.out.size _
  have hgx:W2.heap[g]? = some (.cells #[.string lo,.string lo] 34 (0,0)):=by rw[hW2,hg];exact heap_alloc_new _ _
  have hr2:=za0 hb2 Hbx.out
  have hA:=fun (W:World) (k:Below W2.heap.size W2 W)=>zcn k (zcf lo lo (by omega) (by omega) (HD.out.below (za9 Hw.out (hb2.trans (k.mono hb2.size)))))
  have hT:=fun (W:World) (k:Below W2.heap.size W2 W)=>zcn k (zfh lo lo (by omega) (by omega) (HD.out.below (za9 Hw.out (hb2.trans (k.mono hb2.size)))))
  obtain⟨p,hp⟩ : ∃ x,x=mayS (lo.data.toList,lo.data.toList):=⟨_,rfl⟩
  obtain⟨tx,htx⟩ : ∃ x,x=txS lo lo:=⟨_,rfl⟩
  obtain⟨d,k1⟩ : ∃ x,(tx.toList == s.toList)=x:=⟨_,rfl⟩
  have hB2:spB s=(lo,lo):=by rw[HB.out];rfl
  have hok:spOk s.data.toList=(p && d):=by
   unfold spOk
   rw[← zj4,hB2,← zm1,← k1,← htx,hp,Txt.eq_dec]
   exact congrArg _ (decide_eq_decide.2 ba_eq.symm)
  have hval:spV s=if (p && d)=true then (lo,lo) else (⟨#[]⟩,⟨#[]⟩):=by unfold spV;rw[hok,hB2]
  rw[← hp] at hA
  rw[← htx] at hT
  have hb0:Below W2.heap.size W2 W2:=Below.refl _ _
  have hgw:=fun (W:World) (k:Below W2.heap.size W2 W)=>za1 (za0 k hgx)
  have hrw:=fun (W:World) (k:Below W2.heap.size W2 W)=>za1 (za0 k hr2)
  obtain⟨c0,c1,f0,f1⟩:=hgw W2 hb0
  obtain⟨x0,x1,y0,y1⟩:=hrw W2 hb0
  rw[← hW2,← hg]
  clear hW2 hg hp htx hB2
  obtain⟨Hb2,Hgx,Hr2,HA,HT,Hok,Hval,Hgw,Hrw,Hb0⟩:=hd10 hb2 hgx hr2 hA hT hok hval hgw hrw hb0;clear hb2 hgx hr2 hA hT hok hval hgw hrw hb0
  go_wp2_with fail
  refine (HA.out _ Hb0.out).mono ?_
  rintro e w2 ⟨rfl,hb3⟩
  obtain⟨c0,c1,f0,f1⟩:=Hgw.out _ hb3
  obtain⟨x0,x1,y0,y1⟩:=Hrw.out _ hb3
  have Hb3:=hd hb3;clear hb3
  cases p with
  | false =>
   have hr3:=za0 Hb3.out Hr2.out
   have hb9:=Hb2.out.trans (Hb3.out.mono Hb2.out.size)
   obtain⟨Hr3,Hb9⟩:=hd2 hr3 hb9;clear hr3 hb9
   go_wp2_with fail
   refine zab rfl rfl rfl (zah _ _ Hr3.out) rfl ?_
   exact⟨zar (by rw[Hval.out];rfl) (by rw[Hval.out];rfl) Hok.out.symm,zae _ _ (za9 Hw.out Hb9.out) Hle.out⟩
  | true =>
   go_wp2_with fail
   refine (HT.out _ Hb3.out).mono ?_
   rintro e w3 ⟨rfl,hb4⟩
   obtain⟨c0,c1,f0,f1⟩:=Hgw.out _ hb4
   obtain⟨x0,x1,y0,y1⟩:=Hrw.out _ hb4
   have hr3:=za0 hb4 Hr2.out
   have hb9:=Hb2.out.trans (hb4.mono Hb2.out.size)
   obtain⟨Hb4,Hr3,Hb9⟩:=hd3 hb4 hr3 hb9;clear hb4 hr3 hb9
   cases d with
   | false =>
    go_wp2_with fail
    refine zab rfl rfl rfl (zah _ _ Hr3.out) rfl ?_
    exact⟨zar (by rw[Hval.out];rfl) (by rw[Hval.out];rfl) Hok.out.symm,zae _ _ (za9 Hw.out Hb9.out) Hle.out⟩
   | true =>
    go_wp2_with fail
    refine zab rfl rfl rfl (zah _ _ Hr3.out) rfl ?_
    exact⟨zar (by rw[Hval.out];rfl) (by rw[Hval.out];rfl) Hok.out.symm,zae _ _ (za9 Hw.out Hb9.out) Hle.out⟩
end

section
open Go.RowKit Go.Lib VerN
abbrev zty (x y:Value):Obj:=.cells #[x,y] 34 (0,0)
theorem pbox1_0 (w:World) (x y:Value):(w.alloc (.cells #[x,y] 34)).heap[w.heap.size]? = some (zty x y):=heap_alloc_new _ _
theorem zml (w:World) (x y z u:Value):((w.alloc (.cells #[x,y] 34)).alloc (.cells #[z,u] 34)).heap[w.heap.size]? = some (zty x y):=za0 (za2 _ _) (heap_alloc_new _ _)
theorem zmk (w:World) (x y z u:Value):((w.alloc (.cells #[x,y] 34)).alloc (.cells #[z,u] 34)).heap[w.heap.size+1]? = some (zty z u):=za8 (by simp)
theorem zmj (w:World) (x y z u p q:Value):(((w.alloc (.cells #[x,y] 34)).alloc (.cells #[z,u] 34)).alloc (.cells #[p,q] 34)).heap[w.heap.size]? = some (zty x y):=za0 (za2 _ _) (zml _ _ _ _ _)
theorem zmi (w:World) (x y z u p q:Value):(((w.alloc (.cells #[x,y] 34)).alloc (.cells #[z,u] 34)).alloc (.cells #[p,q] 34)).heap[w.heap.size+1]? = some (zty z u):=za0 (za2 _ _) (zmk _ _ _ _ _)
theorem zmh (w:World) (x y z u p q:Value):(((w.alloc (.cells #[x,y] 34)).alloc (.cells #[z,u] 34)).alloc (.cells #[p,q] 34)).heap[w.heap.size+1+1]? = some (zty p q):=za8 (by simp)
theorem spn_eqs (s t a b:ByteArray) (W:World):(binOp .eql 34 (.agg #[.string s,.string t]) (.agg #[.string a,.string b])).run Tryz.prog W = .ok (.bool (decide (s=a) && decide (t=b))) W:=by
 have u9:=Tryz.underlying9
 have hS:Tryz.prog.underlying 34=some (.struct (Tryz.prog.fieldsOf 34)):=by kernel_rfl
 have hp:Tryz.prog.stoodInHeld 34=false:=by kernel_rfl
 rw[run_eql_struct,show (10000:Nat)=9999+1 from rfl,run_equalIn_agg W 9999 34 _ _ hS hp]
 simp only[Program.fieldsOf,Tryz.underlying34]
 go_simp
 have e1:=Txt.eq_dec s a
 have e2:=Txt.eq_dec t b
 by_cases h1:s=a <;> by_cases h2:t=b <;> simp[h1,h2] at e1 e2 ⊢ <;> simp_all
end
end Go.Proofs.YteailgjiifdgcaaGreatDoor
