/- Walks and plain facts. Texts merged: RpE, RpF. Condition: none beyond what each says. -/
import Derived.Test.YteailgjiifdgcaaGreatDoorPrintSpecsAll12
set_option linter.unusedVariables false
set_option linter.unusedSimpArgs false
set_option maxRecDepth 10000
set_option maxHeartbeats 4000000
namespace Go.Proofs.YteailgjiifdgcaaGreatDoor
section
open Go.Shelf Go.RowKit Go.Lib VerN VarM
open LexM (Wd)
attribute [local go_sem ↓] Go.wp_at_zero Go.wp_at_succ
def Cond06 (a:Option Addr) (n c:Nat) (fin:Int) (ws:List Wd) (i:Nat) (w:World) (e:Ending) (w':World):Prop :=
 ∃ x b1 n1 c1 b2 n2 c2 i' bad,e = .returned (.tuple #[.agg #[.string x,.slice b1 n1 c1,.slice b2 n2 c2],pv a n c i' fin bad])∧((∃ s,zbn ws i=(some s,i')∧bad=0∧x=s.1∧zcq w' (.slice b1 n1 c1) s.2.1∧zb9 w' (.slice b2 n2 c2) s.2.2)∨(∃ j,zbn ws i=(none,j)∧bad=zb8 ws fin j))∧Below w.heap.size w w'
theorem zm4 (s:ByteArray):s.extract 1 s.size=zji s:=by
 refine Txt.ext ?_
 rw[Lib.extract_data,List.take_of_length_le (by rw[List.length_drop,Txt.len];exact Nat.le_refl _)]
 rfl
theorem zcm {W W8:World} {g:Nat} {a:Option Addr} {n c i':Nat} {fin bad:Int} {p q s:Value} (h1:zai (g+1) (.string ⟨#[]⟩) (.slice none 0 0) (.slice none 0 0) W) (h2:PBox (g+1+1) none 0 0 0 0 0 W)
  (hW:W8=((((((W.setCell ⟨g+1,0,none⟩ p).setCell ⟨g+1,1,none⟩ q).setCell ⟨g+1,2,none⟩ s).setCell ⟨g+1+1,0,none⟩ (.slice a n c)).setCell ⟨g+1+1,1,none⟩ (.int .i64 i')).setCell ⟨g+1+1,2,none⟩ (.int .i64 fin)).setCell ⟨g+1+1,3,none⟩ (.int .i64 bad)) :
  zai (g+1) p q s W8∧PBox (g+1+1) a n c i' fin bad W8∧Frm (fun z=>z=g+1∨z=g+1+1) W W8:=by
 subst hW
 refine⟨?_,?_,?_⟩
 ·have k0:=heap_setCell_same W (g+1) 0 _ _ p h1
  have k1:=heap_setCell_same _ (g+1) 1 _ _ q k0
  have k2:=heap_setCell_same _ (g+1) 2 _ _ s k1
  exact za3 (b:=g+1+1) (i:=3) (za3 (b:=g+1+1) (i:=2) (za3 (b:=g+1+1) (i:=1) (za3 (b:=g+1+1) (i:=0) k2 (by omega)) (by omega)) (by omega)) (by omega)
 ·exact pset (za3 (b:=g+1) (i:=2) (za3 (b:=g+1) (i:=1) (za3 (b:=g+1) (i:=0) h2 (by omega)) (by omega)) (by omega))
 have m1:=(Frm.refl (fun z=>z=g+1∨z=g+1+1) W).setCell (p:=⟨g+1,0,none⟩) (.inr (.inl rfl)) p
 have m2:=m1.setCell (p:=⟨g+1,1,none⟩) (.inr (.inl rfl)) q
 have m3:=m2.setCell (p:=⟨g+1,2,none⟩) (.inr (.inl rfl)) s
 have m4:=m3.setCell (p:=⟨g+1+1,0,none⟩) (.inr (.inr rfl)) (.slice a n c)
 have m5:=m4.setCell (p:=⟨g+1+1,1,none⟩) (.inr (.inr rfl)) (.int .i64 (i':Int))
 have m6:=m5.setCell (p:=⟨g+1+1,2,none⟩) (.inr (.inr rfl)) (.int .i64 fin)
 exact m6.setCell (p:=⟨g+1+1,3,none⟩) (.inr (.inr rfl)) (.int .i64 bad)
structure CnJ (w:World) (g g4:Nat) (a:Option Addr) (n c i:Nat) (fin bad:Int) (va:Option Addr) (vn vc:Nat) (z:Value) (W:World):Prop where
 p:PBox g a n c i fin bad W
 r1:zai (g+1) (.string ⟨#[]⟩) (.slice none 0 0) (.slice none 0 0) W
 r2:PBox (g+1+1) none 0 0 0 0 0 W
 s:zai g4 (.string ⟨#[]⟩) (.slice va vn vc) z W
 bel:Below w.heap.size w W
theorem CnJ.to {w W W':World} {g g4:Nat} {a:Option Addr} {n c i:Nat} {fin bad:Int} {va:Option Addr} {vn vc:Nat} {z:Value} (h:CnJ w g g4 a n c i fin bad va vn vc z W) (hb:Below W.heap.size W W'):CnJ w g g4 a n c i fin bad va vn vc z W' :=
 ⟨za0 hb h.p,za0 hb h.r1,za0 hb h.r2,za0 hb h.s,h.bel.trans (hb.mono h.bel.size)⟩
theorem zrx {w W:World} {g g4:Nat} {a:Option Addr} {n c i:Nat} {fin bad:Int} {va:Option Addr} {vn vc:Nat} {z:Value} (h:CnJ w g g4 a n c i fin bad va vn vc z W):W.cell? ⟨g4,0,none⟩=some (.string ⟨#[]⟩)∧W.cell? ⟨g4,1,none⟩=some (.slice va vn vc)∧W.cell? ⟨g4,2,none⟩=some z∧W.cell? ⟨g,0,none⟩=some (.slice a n c)∧W.cell? ⟨g,1,none⟩=some (.int .i64 i)∧W.cell? ⟨g,2,none⟩=some (.int .i64 fin)∧W.cell? ⟨g,3,none⟩=some (.int .i64 bad):=by
 obtain⟨x0,x1,x2,_⟩:=za4 h.s
 obtain⟨⟨c0,c1,c2,c3⟩,_⟩:=za7 h.p
 exact⟨x0,x1,x2,c0,c1,c2,c3⟩
theorem zkm {w W W':World} {g g4:Nat} {a:Option Addr} {n c i:Nat} {fin bad:Int} {va:Option Addr} {vn vc:Nat} {z:Value} (h:CnJ w g g4 a n c i fin bad va vn vc z W) (hg:g+2 < g4) (hF:Frm (fun z=>z=g+1∨z=g+1+1) W W'):W'.cell? ⟨g4,0,none⟩=some (.string ⟨#[]⟩)∧W'.cell? ⟨g4,1,none⟩=some (.slice va vn vc)∧W'.cell? ⟨g4,2,none⟩=some z∧W'.cell? ⟨g,0,none⟩=some (.slice a n c)∧W'.cell? ⟨g,1,none⟩=some (.int .i64 i)∧W'.cell? ⟨g,2,none⟩=some (.int .i64 fin)∧W'.cell? ⟨g,3,none⟩=some (.int .i64 bad):=by
 obtain⟨x0,x1,x2,_⟩:=za4 (zac hF h.s (by omega))
 obtain⟨⟨c0,c1,c2,c3⟩,_⟩:=za7 (zac hF h.p (by omega))
 exact⟨x0,x1,x2,c0,c1,c2,c3⟩
theorem frm_r1 (W:World) (g:Nat) (p q s:Value):Frm (fun z=>z=g+1∨z=g+1+1) W (((W.setCell ⟨g+1,0,none⟩ p).setCell ⟨g+1,1,none⟩ q).setCell ⟨g+1,2,none⟩ s) :=
 (((Frm.refl _ W).setCell (p:=⟨g+1,0,none⟩) (.inr (.inl rfl)) p).setCell (p:=⟨g+1,1,none⟩) (.inr (.inl rfl)) q).setCell (p:=⟨g+1,2,none⟩) (.inr (.inl rfl)) s
theorem ztq {w:World} {a:Option Addr} {n c:Nat} {ws:List Wd} (hw:RWds w [.slice a n c] ws) (hn1:n≤1000) (hz:∀ x∈ws,x.2.length≤70000) {fin:Int} (hcol:∀ j,zb8 ws fin j≠0) (i:Nat):Calls Tryz.prog 79 #[pv a n c i fin 0] w (Cond06 a n c fin ws i w):=by
 have hn:=(zfe hw).1
 obtain⟨g,hg⟩ : ∃ g,g=w.heap.size:=⟨_,rfl⟩
 obtain⟨W0,hW0⟩ : ∃ W,W=((w.alloc (.cells #[.slice a n c,.int .i64 i,.int .i64 fin,.int .i64 0] 113)).alloc (.cells #[.string ⟨#[]⟩,.slice none 0 0,.slice none 0 0] 51)).alloc (.cells #[.slice none 0 0,.int .i64 0,.int .i64 0,.int .i64 0] 113):=⟨_,rfl⟩
 have hb0:Below w.heap.size w W0:=by rw[hW0];exact ((za2 _ _).alloc (by simp) _).alloc (by simp;omega) _
 have p0:PBox g a n c i fin 0 W0:=by rw[hW0,hg];exact za0 (za2 _ _) (za0 (za2 _ _) (za8 rfl))
 have p1:zai (g+1) (.string ⟨#[]⟩) (.slice none 0 0) (.slice none 0 0) W0:=by rw[hW0,hg];exact za0 (za2 _ _) (za8 (by simp))
 have p2:PBox (g+1+1) none 0 0 0 0 0 W0:=by rw[hW0,hg];exact za8 (by simp)
 have hwg:w.heap.size≤g:=Nat.le_of_eq hg.symm
 have hs0:W0.heap.size=g+3:=by rw[hW0,hg];simp
 have hpk:∀ i,(zb7 ws i).size≤70000:=fun i=>by
  by_cases h:i < ws.length
  ·rw[ze5 h]
   show (ws[i].2.toArray).size≤_
   rw[List.size_toArray]
   exact hz _ (List.getElem_mem h)
  rw[zd1 (by omega)]
  decide
 obtain⟨s,hs⟩ : ∃ s,s=zb7 ws i:=⟨_,rfl⟩
 have hsz:s.size≤70000:=by rw[hs];exact hpk _
 have heq:=Txt.eq_dec s ⟨#[42]⟩
 rw[Lib.toList_data (⟨#[42]⟩ : ByteArray)] at heq
 have hnb:=Txt.no_dec s
 have hWord:=fun (W:World) (h:Below w.heap.size w W)=>zjz (za6 zbb _ _ _ _ hw h) i fin 0
 simp only[← hs] at hWord
 obtain⟨Hw,Hz,Hcol,Hn,Hb0,Hp0,Hp1,Hp2,Hpk,Hs,HWord,Hs0⟩:=hd12 hw hz hcol hn hb0 p0 p1 p2 hpk hs hWord hs0;clear hw hz hcol hn hb0 p0 p1 p2 hpk hs hWord hs0
 go_enter Tryz.func79,Tryz.ntmps79
 go_upto_region 1 with (fail)
 rw[← hW0,← hg]
 clear hW0 hg
 go_wp2_with fail
 refine (zp2 _).mono ?_
 rintro e w3 ⟨rfl,hw3⟩
 have hb3:Below W0.heap.size W0 w3:=by rw[hw3];exact za2 _ _
 have hall:=zfz W0
 rw[← hw3] at hall
 obtain⟨va,hva⟩ : ∃ k:Option Addr,k=some ⟨W0.heap.size,0,none⟩:=⟨_,rfl⟩
 rw[← hva] at hall ⊢
 obtain⟨g4,hg4⟩ : ∃ z,z=w3.heap.size:=⟨_,rfl⟩
 obtain⟨w4,hw4⟩ : ∃ W,W=w3.alloc (.cells #[.string ⟨#[]⟩,.slice va 1 1,.slice none 0 0] 51):=⟨_,rfl⟩
 have hb34:Below w3.heap.size w3 w4:=by rw[hw4];exact za2 _ _
 have hb04:=hb3.trans (hb34.mono hb3.size)
 have hJ:CnJ w g g4 a n c i fin 0 va 1 1 (.slice none 0 0) w4:=⟨za0 hb04 Hp0.out,za0 hb04 Hp1.out,za0 hb04 Hp2.out,by rw[hw4,hg4];exact heap_alloc_new _ _,Hb0.out.trans (hb04.mono Hb0.out.size)⟩
 have hall4:=zap hall hb34
 have hgg:g+3 < g4:=by rw[hg4,hw3];simp[Hs0.out]
 clear hw3 hva
 obtain⟨⟨c0,c1,c2,c3⟩,_⟩:=za7 hJ.p
 obtain⟨Hb3,Hall,Hb34,Hb04,HJ,Hall4⟩:=hd6 hb3 hall hb34 hb04 hJ hall4;clear hb3 hall hb34 hb04 hJ hall4
 go_upto_region 2 with (fail)
 rw[← hw4,← hg4]
 clear hw4 hg4
 go_wp2_with fail
 refine (HWord.out _ HJ.out.bel).mono ?_
 rintro e w5 ⟨rfl,hb5⟩
 have hJ5:=HJ.out.to hb5
 have hall5:=zap Hall4.out hb5
 clear c0 c1 c2 c3
 obtain⟨⟨c0,c1,c2,c3⟩,_⟩:=za7 hJ5.p
 obtain⟨x0,x1,x2,_,_,_⟩:=za4 hJ5.s
 obtain⟨Hb5,HJ5,Hall5⟩:=hd3 hb5 hJ5 hall5;clear hb5 hJ5 hall5
 by_cases hst:s=zds
 ·have k1:(s.toList == [42])=true:=by rw[heq];exact decide_eq_true hst
  have hin:i < n:=by
   rw[Hn.out]
   apply Nat.lt_of_not_le
   intro h
   rw[Hs.out,zd1 h] at hst
   exact absurd hst (by decide)
  have hNx:∀ W,Below w.heap.size w W→Calls Tryz.prog 138 #[pv a n c i fin 0,.bool true] W fun e w'=>e = .returned (pv a n c (i+1) fin 0)∧Below W.heap.size W w':=fun W h=>(zho (za6 zbb _ _ _ _ Hw.out h) hn1 i fin true).mono (by
   rintro e w' ⟨⟨_,_,h⟩ | ⟨h | h,_⟩,hb⟩
   ·exact⟨h,hb⟩
   ·cases h
   omega)
  clear heq hnb
  obtain⟨Hst,Hin,HNx⟩:=hd3 hst hin hNx;clear hst hin hNx
  go_upto_region 6 with (fail)
  have hJd:CnJ w g g4 a n c i fin 0 va 1 1 (.slice none 0 0) w5.drew:=HJ5.out.to (Below.refl _ _).drew
  have halld:zcq w5.drew (.slice va 1 1) allV:=zap Hall5.out (Below.refl _ _).drew
  have hSd:=zrx hJd
  refine wp_region_held_drew (S:=fun w'=>w'.cell? ⟨g4,0,none⟩=some (.string ⟨#[]⟩)∧w'.cell? ⟨g4,1,none⟩=some (.slice va 1 1)∧w'.cell? ⟨g4,2,none⟩=some (.slice none 0 0)∧w'.cell? ⟨g,0,none⟩=some (.slice a n c)∧w'.cell? ⟨g,1,none⟩=some (.int .i64 i)∧w'.cell? ⟨g,2,none⟩=some (.int .i64 fin)∧w'.cell? ⟨g,3,none⟩=some (.int .i64 0)) (by kernel_rfl) (by exact⟨x0,x1,x2,c0,c1,c2,c3⟩) (fun hHeld=>?_)
  clear x0 x1 x2 c0 c1 c2 c3
  generalize w5.drew=wd at hJd halld hSd ⊢
  have hSc:=hSd
  obtain⟨x0,x1,x2,c0,c1,c2,c3⟩:=hSd
  obtain⟨HJd,Halld⟩:=hd2 hJd halld;clear hJd halld
  refine wpAnyH_take (i:=0) (v:=?_) rfl (by kernel_rfl) (by kernel_rfl) (by kernel_rfl) (fun _ _ _ h=>h) (Or.inl ⟨by kernel_rfl,?_⟩) (by assumption) ?_
  rotate_left
  ·(intro w hSw;(try dsimp only at hSw);(try obtain⟨e0,e1,e2,e3,e4,e5,e6⟩:=hSw);go_simp;try with_reducible rfl)
  try simp only[Act.put,lA,lB,lC]
  refine wpAnyH_take (i:=1) (v:=?_) rfl (by kernel_rfl) (by kernel_rfl) (by kernel_rfl) (fun _ _ _ h=>h) (Or.inl ⟨by kernel_rfl,?_⟩) (by assumption) ?_
  rotate_left
  ·(intro w hSw;(try dsimp only at hSw);(try obtain⟨e0,e1,e2,e3,e4,e5,e6⟩:=hSw);go_simp;try with_reducible rfl)
  try simp only[Act.put,lA,lB,lC]
  refine wpAnyH_ready (rs:=[2]) (by kernel_rfl) (by simp) ?_
  refine AllReadyH.cons rfl (fun K hK=>?_) AllReadyH.nil
  go_simp
  refine (HNx.out _ HJd.out.bel).mono ?_
  rintro e wz ⟨rfl,hbz⟩
  have hJz:=HJd.out.to hbz
  have hallz:=zap Halld.out hbz
  have hSz:=zrx hJz
  obtain⟨_,_,_,fr0,fr1,fr2⟩:=za4 hJz.r1
  obtain⟨_,fp0,fp1,fp2,fp3⟩:=za7 hJz.r2
  obtain⟨Hbz,HJz,Hallz,HSz⟩:=hd4 hbz hJz hallz hSz;clear hbz hJz hallz hSz
  go_wp2_with fail
  refine hK.out _ _ (by exact HSz.out) (fun hHeld=>?_)
  clear hK K
  try simp only[Act.put,lA,lB,lC]
  refine wpAnyH_ready (rs:=[3]) (by kernel_rfl) (by simp) ?_
  refine AllReadyH.cons rfl (fun K hK=>?_) AllReadyH.nil
  go_simp
  refine hK.out _ _ (by exact zkm HJz.out (by omega) (frm_r1 _ _ _ _ _)) (fun hHeld=>?_)
  clear hK K
  try simp only[Act.put,lA,lB,lC]
  refine wpAnyH_ready (rs:=[4]) (by kernel_rfl) (by simp) ?_
  refine AllReadyH.cons rfl (fun K hK=>?_) AllReadyH.nil
  go_simp
  refine hK.out _ _ (by exact zkm HJz.out (by omega) ((zcm (i':=i+1) HJz.out.r1 HJz.out.r2 rfl |>.2.2))) (fun hHeld=>?_)
  clear hK K
  try simp only[Act.put,lA,lB,lC]
  refine wpAnyH_done (by kernel_rfl) ?_ _
  go_simp
  go_wp2_with fail
  obtain⟨wT,hwT⟩ : ∃ W,W=(((((((wz.setCell ⟨g+1,0,none⟩ (.string ⟨#[]⟩)).setCell ⟨g+1,1,none⟩ (.slice va 1 1)).setCell ⟨g+1,2,none⟩ (.slice none 0 0)).setCell ⟨g+1+1,0,none⟩ (.slice a n c)).setCell ⟨g+1+1,1,none⟩ (.int .i64 ((i:Int)+1))).setCell ⟨g+1+1,2,none⟩ (.int .i64 fin)).setCell ⟨g+1+1,3,none⟩ (.int .i64 0)):=⟨_,rfl⟩
  rw[← hwT]
  obtain⟨r1,r2,hT⟩:=zcm (i':=i+1) HJz.out.r1 HJz.out.r2 hwT
  clear hwT
  have hbT:Below w.heap.size w wT:=HJz.out.bel.trans (hT.below HJz.out.bel.size (by rintro k (rfl | rfl) <;> omega))
  have hno:No2 wz (fun z=>z=g+1∨z=g+1+1):=by
   rintro z (rfl | rfl)
   ·exact zaq HJz.out.r1 (by decide) (by decide)
   exact zaq HJz.out.r2 (by decide) (by decide)
  refine bodyPost_ret (zb0 (g:=g+1) (k:=g+1+1) rfl rfl rfl r1 r2 Tryz.underlying51 rfl (by kernel_rfl) Tryz.underlying113 rfl (by kernel_rfl)) rfl ?_
  exact⟨⟨#[]⟩,va,1,1,none,0,0,i+1,0,rfl,.inl ⟨(noT,allV,[]),zib (by rw[← Hs.out];exact Hst.out),rfl,rfl,zam Hallz.out hT hno,zno ⟨none,0,rfl,Nat.le_refl _,Nat.zero_le _,fun i x hi=>by simp at hi⟩⟩,hbT⟩
 have k1:(s.toList == [42])=false:=by rw[heq];exact decide_eq_false hst
 clear heq
 have hst':zb7 ws i≠zds:=by rw[← Hs.out];exact hst
 obtain⟨Hst,Hst'⟩:=hd2 hst hst';clear hst hst'
 by_cases hat:zfa s=true
 ·have hpos:0 < s.size:=by
   apply Nat.pos_of_ne_zero
   intro h0
   have:s.data.toList = []:=List.eq_nil_of_length_eq_zero (by rw[Txt.len,h0])
   unfold zfa at hat
   rw[this] at hat
   simp at hat
  have k2:s.toList.isEmpty=false:=by rw[hnb];exact decide_eq_false (by omega)
  have k3:(0:Int) < (s.size:Int):=by omega
  have k4:(((s[0]'hpos).toNat:Int) == 64)=true:=by
   unfold zfa at hat
   have h:=of_decide_eq_true hat
   rw[List.head?_eq_getElem?,List.getElem?_eq_getElem (by rw[Txt.len];exact hpos)] at h
   have h:s[0]'hpos=64:=Option.some.inj h
   rw[h];rfl
  have k5:(1:Int)≤(s.size:Int):=by omega
  obtain⟨tl,htl⟩ : ∃ z,z=s.extract 1 s.size:=⟨_,rfl⟩
  have htl2:tl=zji s:=by rw[htl];exact zm4 s
  have htz:tl.size≤70000:=by rw[htl2];have:=zl9 s;omega
  have hSet:=fun (W:World)=>zle (w:=W) tl htz
  obtain⟨ok,hok⟩ : ∃ b,b=zex tl:=⟨_,rfl⟩
  unfold zif at hSet
  rw[← hok] at hSet
  clear hnb
  obtain⟨Hat,HSet,Hok,Htl2,Htz⟩:=hd5 hat hSet hok htl2 htz;clear hat hSet hok htl2 htz
  go_wp2_with fail
  rw[← htl]
  have Htl:=hd htl;clear htl
  refine (HSet.out w5).mono ?_
  rintro e w6 ⟨a2,n2,q2,rfl,hrd,hb6⟩
  have hJ6:=HJ5.out.to hb6
  obtain⟨_,_,_,_,fz1,_⟩:=za4 hJ6.s
  obtain⟨w6b,hw6b⟩ : ∃ W,W=w6.setCell ⟨g4,1,none⟩ (.slice a2 n2 q2):=⟨_,rfl⟩
  have hF6:Frm (fun z=>z=g4) w6 w6b:=by rw[hw6b];exact zaa (Frm.refl _ _) 1 _
  have hno6:No2 w6 (fun z=>z=g4):=by
   rintro z rfl
   exact zaq hJ6.s (by decide) (by decide)
  have hrd6:ok=true→zcq w6b (.slice a2 n2 q2) (rdV tl):=fun k=>zam (hrd k) hF6 hno6
  have hJ6b:CnJ w g g4 a n c i fin 0 a2 n2 q2 (.slice none 0 0) w6b:=⟨zac hF6 hJ6.p (by omega),zac hF6 hJ6.r1 (by omega),zac hF6 hJ6.r2 (by omega),by rw[hw6b];exact heap_setCell_same _ g4 1 _ _ _ hJ6.s,hJ6.bel.trans (hF6.below hJ6.bel.size (by rintro k rfl;omega))⟩
  clear c0 c1 c2 c3 x0 x1 x2
  obtain⟨Hrd,Hb6,HJ6,HF6,Hno6,Hrd6⟩:=hd6 hrd hb6 hJ6 hF6 hno6 hrd6;clear hrd hb6 hJ6 hF6 hno6 hrd6
  go_upto_region 11 with (fail)
  rw[← hw6b]
  clear hw6b fz1
  obtain⟨⟨c0,c1,c2,c3⟩,_⟩:=za7 hJ6b.p
  have hin:i < n:=by
   rw[Hn.out]
   apply Nat.lt_of_not_le
   intro h
   rw[Hs.out,zd1 h] at hpos
   exact absurd hpos (by decide)
  have hNx:=zho (za6 zbb _ _ _ _ Hw.out hJ6b.bel) hn1 i fin ok
  obtain⟨HJ6b,Hin,HNx⟩:=hd3 hJ6b hin hNx;clear hJ6b hin hNx
  cases ok with
  | false =>
   have hBad:=zoq (ws:=ws) (i:=i) Hst'.out (by rw[← Hs.out];exact Hat.out) (by rw[← Hs.out,← Htl2.out];exact Hok.out.symm)
   obtain⟨bd,hbd⟩ : ∃ z,z=zb8 ws fin i:=⟨_,rfl⟩
   have hbd0:bd≠0:=by rw[hbd];exact Hcol.out i
   have hNx2:Calls Tryz.prog 138 #[pv a n c i fin 0,.bool false] w6b fun e w'=>e = .returned (pv a n c i fin bd)∧Below w6b.heap.size w6b w':=HNx.out.mono (by
    rintro e w' ⟨⟨h,_,_⟩ | ⟨_,h⟩,hb⟩
    ·cases h
    exact⟨by rw[h,hbd],hb⟩)
   obtain⟨HNx2,HBad,Hbd,Hbd0⟩:=hd4 hNx2 hBad hbd hbd0;clear hNx2 hBad hbd hbd0
   go_wp2_with fail
   refine HNx2.out.mono ?_
   rintro e w7 ⟨rfl,hb7⟩
   have hJ7:=HJ6b.out.to hb7
   obtain⟨_,fy0,fy1,fy2,fy3⟩:=za7 hJ7.p
   obtain⟨wt,hwt⟩ : ∃ W,W=(((w7.setCell ⟨g,0,none⟩ (.slice a n c)).setCell ⟨g,1,none⟩ (.int .i64 i)).setCell ⟨g,2,none⟩ (.int .i64 fin)).setCell ⟨g,3,none⟩ (.int .i64 bd):=⟨_,rfl⟩
   have hFt:Frm (fun z=>z=g) w7 wt:=by rw[hwt];exact zaa (zaa (zaa (zaa (Frm.refl _ _) 0 _) 1 _) 2 _) 3 _
   have hJt:CnJ w g g4 a n c i fin bd a2 n2 q2 (.slice none 0 0) wt:=⟨by rw[hwt];exact pset hJ7.p,zac hFt hJ7.r1 (by omega),zac hFt hJ7.r2 (by omega),zac hFt hJ7.s (by omega),hJ7.bel.trans (hFt.below hJ7.bel.size (by rintro k rfl;omega))⟩
   have hnot:No2 w7 (fun z=>z=g):=by
    rintro z rfl
    exact zaq hJ7.p (by decide) (by decide)
   clear c0 c1 c2 c3
   obtain⟨HJ7,Hb7⟩:=hd2 hJ7 hb7;clear hJ7 hb7
   go_upto_region 12 with (fail)
   rw[← hwt]
   clear hwt fy0 fy1 fy2 fy3
   obtain⟨⟨c0,c1,c2,c3⟩,_⟩:=za7 hJt.p
   have hSe:Calls Tryz.prog 140 #[pv a n c i fin bd] wt fun e w'=>∃ b m d i' bad',e = .returned (.tuple #[.slice b m d,pv a n c i' fin bad'])∧((∃ l,bad'=0∧zb9 w' (.slice b m d) l∧zaz ws i []=(some l,i')∧bd=0)∨(bad'≠0∧∃ j,zbn ws i=(none,j)∧bad'=zb8 ws fin j))∧Below wt.heap.size wt w':=(zgo wt a n c i fin bd Hbd0.out).mono (by
    rintro e w9 ⟨⟨b',m,d,rfl⟩,hb9⟩
    exact⟨b',m,d,i,_,rfl,.inr ⟨Hbd0.out,i,HBad.out,Hbd.out⟩,hb9⟩)
   have hA1:∀ l (i':Nat),bd=0→zaz ws i []=(some l,i')→i'≠i→zbn ws i=(some (noT,rdV tl,l),i'):=fun _ _ h=>absurd h Hbd0.out
   have hA2:∀ l (i':Nat),bd=0→zaz ws i []=(some l,i')→i'=i→zbn ws i=(none,i'):=fun _ _ h=>absurd h Hbd0.out
   have hrdT:bd=0→zcq wt (.slice a2 n2 q2) (rdV tl):=fun h=>absurd h Hbd0.out
   obtain⟨HSe,HA1,HA2,HrdT,HJt,HFt,Hnot⟩:=hd7 hSe hA1 hA2 hrdT hJt hFt hnot;clear hSe hA1 hA2 hrdT hJt hFt hnot
   go_wp2_with fail
   refine HSe.out.mono ?_
   rintro e w8 ⟨sb,sm,sd,i',bad',rfl,hfin,hb8⟩
   obtain⟨g10,hg10⟩ : ∃ z,z=w8.heap.size:=⟨_,rfl⟩
   obtain⟨w9,hw9⟩ : ∃ W,W=w8.alloc (.cells #[.slice a n c,.int .i64 i',.int .i64 fin,.int .i64 bad'] 113):=⟨_,rfl⟩
   have hb89:Below w8.heap.size w8 w9:=by rw[hw9];exact za2 _ _
   have hbt9:=hb8.trans (hb89.mono hb8.size)
   have hJ9:=HJt.out.to hbt9
   have p9:PBox g10 a n c i' fin bad' w9:=by rw[hw9,hg10];exact heap_alloc_new _ _
   have hgt:g4 < g10:=by rw[hg10];exact (Array.getElem?_eq_some_iff.1 (za0 hb8 HJt.out.s)).1
   obtain⟨_,_,_,_,_,fz2⟩:=za4 hJ9.s
   obtain⟨w10,hw10⟩ : ∃ W,W=w9.setCell ⟨g4,2,none⟩ (.slice sb sm sd):=⟨_,rfl⟩
   have hF10:Frm (fun z=>z=g4) w9 w10:=by rw[hw10];exact zaa (Frm.refl _ _) 2 _
   have hno10:No2 w9 (fun z=>z=g4):=by
    rintro z rfl
    exact zaq hJ9.s (by decide) (by decide)
   have hJ10:CnJ w g g4 a n c i fin bd a2 n2 q2 (.slice sb sm sd) w10:=⟨zac hF10 hJ9.p (by omega),zac hF10 hJ9.r1 (by omega),zac hF10 hJ9.r2 (by omega),by rw[hw10];exact heap_setCell_same _ g4 2 _ _ _ hJ9.s,hJ9.bel.trans (hF10.below hJ9.bel.size (by rintro k rfl;omega))⟩
   have p10:=zac hF10 p9 (by omega)
   have hrd10:bd=0→zcq w10 (.slice a2 n2 q2) (rdV tl):=fun h=>zam (zap (by first | exact HrdT.out h | exact HrdT.out trivial) hbt9) hF10 hno10
   have hset10:∀ l,zb9 w8 (.slice sb sm sd) l→zb9 w10 (.slice sb sm sd) l:=fun l h=>zas (zax h hb89) hF10 hno10
   clear c0 c1 c2 c3
   obtain⟨Hfin,Hb8,Hb89,Hbt9,HJ9,Hp9,HF10,Hno10,HJ10,Hp10,Hrd10,Hset10⟩:=hd12 hfin hb8 hb89 hbt9 hJ9 p9 hF10 hno10 hJ10 p10 hrd10 hset10;clear hfin hb8 hb89 hbt9 hJ9 p9 hF10 hno10 hJ10 p10 hrd10 hset10
   go_upto_region 13 with (fail)
   rw[← hw9,← hg10]
   clear hw9 hg10
   go_upto_region 14 with (fail)
   rw[← hw10]
   clear hw10 fz2
   obtain⟨x0,x1,x2,_,_,_⟩:=za4 HJ10.out.s
   obtain⟨⟨y0,y1,y2,y3⟩,fy0,fy1,fy2,fy3⟩:=za7 Hp10.out
   obtain⟨_,_,_,fr0,fr1,fr2⟩:=za4 HJ10.out.r1
   obtain⟨_,fp0,fp1,fp2,fp3⟩:=za7 HJ10.out.r2
   have d1:¬ g10=g+1:=by omega
   have d2:¬ g10=g+1+1:=by omega
   have d3:¬ g4=g+1:=by omega
   have d4:¬ g4=g+1+1:=by omega
   have d5:¬ g10=g4:=by omega
   rcases Hfin.out with⟨l,hbz,hset,hse,hb2⟩ | ⟨hbne,j,hcj,hbj⟩
   ·subst hbz
    by_cases hi:i'=i
    ·have k7:((i':Int) == (i:Int))=true:=by rw[hi];simp
     have hcn:=(by first | exact HA2.out l i' hb2 hse hi | exact HA2.out l i' trivial hse hi:zbn ws i=(none,i'))
     have hFl:=zfm (za6 zbb _ _ _ _ Hw.out HJ10.out.bel) i' fin
     obtain⟨bq,hbq⟩ : ∃ z,z=zb8 ws fin i':=⟨_,rfl⟩
     rw[← hbq] at hFl
     obtain⟨Hcn,HFl,Hi,Hset,Hse,Hbq⟩:=hd6 hcn hFl hi hset hse hbq;clear hcn hFl hi hset hse hbq
     go_wp2_with fail
     refine HFl.out.mono ?_
     rintro e w11 ⟨rfl,hb11⟩
     have hJ11:=HJ10.out.to hb11
     have p11:=za0 hb11 Hp10.out
     obtain⟨_,fy0,fy1,fy2,fy3⟩:=za7 p11
     obtain⟨w12,hw12⟩ : ∃ W,W=(((w11.setCell ⟨g10,0,none⟩ (.slice a n c)).setCell ⟨g10,1,none⟩ (.int .i64 i')).setCell ⟨g10,2,none⟩ (.int .i64 fin)).setCell ⟨g10,3,none⟩ (.int .i64 bq):=⟨_,rfl⟩
     have hF12:Frm (fun z=>z=g10) w11 w12:=by rw[hw12];exact zaa (zaa (zaa (zaa (Frm.refl _ _) 0 _) 1 _) 2 _) 3 _
     have hJ12:CnJ w g g4 a n c i fin bd a2 n2 q2 (.slice sb sm sd) w12:=⟨zac hF12 hJ11.p (by omega),zac hF12 hJ11.r1 (by omega),zac hF12 hJ11.r2 (by omega),zac hF12 hJ11.s (by omega),hJ11.bel.trans (hF12.below hJ11.bel.size (by rintro k rfl;omega))⟩
     have p12:PBox g10 a n c i' fin bq w12:=by rw[hw12];exact pset p11
     clear x0 x1 x2 y0 y1 y2 y3 fr0 fr1 fr2 fp0 fp1 fp2 fp3
     obtain⟨Hb11,HJ11,Hp11,HF12,HJ12,Hp12⟩:=hd6 hb11 hJ11 p11 hF12 hJ12 p12;clear hb11 hJ11 p11 hF12 hJ12 p12
     go_upto_region 16 with (fail)
     rw[← hw12]
     clear hw12 fy0 fy1 fy2 fy3
     obtain⟨x0,x1,x2,_,_,_⟩:=za4 HJ12.out.s
     obtain⟨⟨y0,y1,y2,y3⟩,_⟩:=za7 Hp12.out
     obtain⟨_,_,_,fr0,fr1,fr2⟩:=za4 HJ12.out.r1
     obtain⟨_,fp0,fp1,fp2,fp3⟩:=za7 HJ12.out.r2
     go_wp2_with fail
     go_region
     go_wp2_with fail
     obtain⟨wT,hwT⟩ : ∃ W,W=((((((w12.setCell ⟨g+1,0,none⟩ (.string ⟨#[]⟩)).setCell ⟨g+1,1,none⟩ (.slice a2 n2 q2)).setCell ⟨g+1,2,none⟩ (.slice sb sm sd)).setCell ⟨g+1+1,0,none⟩ (.slice a n c)).setCell ⟨g+1+1,1,none⟩ (.int .i64 i')).setCell ⟨g+1+1,2,none⟩ (.int .i64 fin)).setCell ⟨g+1+1,3,none⟩ (.int .i64 bq):=⟨_,rfl⟩
     rw[← hwT]
     obtain⟨r1,r2,hT⟩:=zcm (i':=i') HJ12.out.r1 HJ12.out.r2 hwT
     clear hwT
     have hno:No2 w12 (fun z=>z=g+1∨z=g+1+1):=by
      rintro z (rfl | rfl)
      ·exact zaq HJ12.out.r1 (by decide) (by decide)
      exact zaq HJ12.out.r2 (by decide) (by decide)
     have hbT:Below w.heap.size w wT.drew:=Below.drew (HJ12.out.bel.trans (hT.below HJ12.out.bel.size (by rintro k (rfl | rfl) <;> omega)))
     have hTd:=hT.drew
     have r1d:zai (g+1) (.string ⟨#[]⟩) (.slice a2 n2 q2) (.slice sb sm sd) wT.drew:=r1
     have r2d:PBox (g+1+1) a n c i' fin bq wT.drew:=r2
     generalize wT.drew=wU at hbT hTd r1d r2d ⊢
     refine bodyPost_ret (zb0 (g:=g+1) (k:=g+1+1) rfl rfl rfl r1d r2d Tryz.underlying51 rfl (by kernel_rfl) Tryz.underlying113 rfl (by kernel_rfl)) rfl ?_
     exact⟨⟨#[]⟩,a2,n2,q2,sb,sm,sd,i',bq,rfl,.inr ⟨i',Hcn.out,Hbq.out⟩,hbT⟩
    have k7:((i':Int) == (i:Int))=false:=by rw[beq_eq_false_iff_ne];omega
    have hcn:=(by first | exact HA1.out l i' hb2 hse hi | exact HA1.out l i' trivial hse hi:zbn ws i=(some (noT,(rdV tl),l),i'))
    have hrdx:=(by first | exact Hrd10.out hb2 | exact Hrd10.out trivial:zcq w10 (.slice a2 n2 q2) (rdV tl))
    have hsex:=Hset10.out l hset
    clear fy0 fy1 fy2 fy3
    obtain⟨Hcn,Hi,Hset,Hse,Hrdx,Hsex⟩:=hd6 hcn hi hset hse hrdx hsex;clear hcn hi hset hse hrdx hsex
    go_wp2_with fail
    go_region
    go_wp2_with fail
    obtain⟨wT,hwT⟩ : ∃ W,W=((((((w10.setCell ⟨g+1,0,none⟩ (.string ⟨#[]⟩)).setCell ⟨g+1,1,none⟩ (.slice a2 n2 q2)).setCell ⟨g+1,2,none⟩ (.slice sb sm sd)).setCell ⟨g+1+1,0,none⟩ (.slice a n c)).setCell ⟨g+1+1,1,none⟩ (.int .i64 i')).setCell ⟨g+1+1,2,none⟩ (.int .i64 fin)).setCell ⟨g+1+1,3,none⟩ (.int .i64 0):=⟨_,rfl⟩
    rw[← hwT]
    obtain⟨r1,r2,hT⟩:=zcm (i':=i') HJ10.out.r1 HJ10.out.r2 hwT
    clear hwT
    have hno:No2 w10 (fun z=>z=g+1∨z=g+1+1):=by
     rintro z (rfl | rfl)
     ·exact zaq HJ10.out.r1 (by decide) (by decide)
     exact zaq HJ10.out.r2 (by decide) (by decide)
    have hbT:Below w.heap.size w wT.drew:=Below.drew (HJ10.out.bel.trans (hT.below HJ10.out.bel.size (by rintro k (rfl | rfl) <;> omega)))
    have hTd:=hT.drew
    have r1d:zai (g+1) (.string ⟨#[]⟩) (.slice a2 n2 q2) (.slice sb sm sd) wT.drew:=r1
    have r2d:PBox (g+1+1) a n c i' fin 0 wT.drew:=r2
    generalize wT.drew=wU at hbT hTd r1d r2d ⊢
    refine bodyPost_ret (zb0 (g:=g+1) (k:=g+1+1) rfl rfl rfl r1d r2d Tryz.underlying51 rfl (by kernel_rfl) Tryz.underlying113 rfl (by kernel_rfl)) rfl ?_
    exact⟨⟨#[]⟩,a2,n2,q2,sb,sm,sd,i',0,rfl,.inl ⟨_,Hcn.out,rfl,rfl,zam Hrdx.out hTd hno,zas Hsex.out hTd hno⟩,hbT⟩
   have k7:(bad' == 0)=false:=by simpa using hbne
   clear fy0 fy1 fy2 fy3
   obtain⟨Hbne,Hcj,Hbj⟩:=hd3 hbne hcj hbj;clear hbne hcj hbj
   go_wp2_with fail
   go_region
   go_wp2_with fail
   obtain⟨wT,hwT⟩ : ∃ W,W=((((((w10.setCell ⟨g+1,0,none⟩ (.string ⟨#[]⟩)).setCell ⟨g+1,1,none⟩ (.slice a2 n2 q2)).setCell ⟨g+1,2,none⟩ (.slice sb sm sd)).setCell ⟨g+1+1,0,none⟩ (.slice a n c)).setCell ⟨g+1+1,1,none⟩ (.int .i64 i')).setCell ⟨g+1+1,2,none⟩ (.int .i64 fin)).setCell ⟨g+1+1,3,none⟩ (.int .i64 bad'):=⟨_,rfl⟩
   rw[← hwT]
   obtain⟨r1,r2,hT⟩:=zcm (i':=i') HJ10.out.r1 HJ10.out.r2 hwT
   clear hwT
   have hno:No2 w10 (fun z=>z=g+1∨z=g+1+1):=by
    rintro z (rfl | rfl)
    ·exact zaq HJ10.out.r1 (by decide) (by decide)
    exact zaq HJ10.out.r2 (by decide) (by decide)
   have hbT:Below w.heap.size w wT.drew:=Below.drew (HJ10.out.bel.trans (hT.below HJ10.out.bel.size (by rintro k (rfl | rfl) <;> omega)))
   have hTd:=hT.drew
   have r1d:zai (g+1) (.string ⟨#[]⟩) (.slice a2 n2 q2) (.slice sb sm sd) wT.drew:=r1
   have r2d:PBox (g+1+1) a n c i' fin bad' wT.drew:=r2
   generalize wT.drew=wU at hbT hTd r1d r2d ⊢
   refine bodyPost_ret (zb0 (g:=g+1) (k:=g+1+1) rfl rfl rfl r1d r2d Tryz.underlying51 rfl (by kernel_rfl) Tryz.underlying113 rfl (by kernel_rfl)) rfl ?_
   exact⟨⟨#[]⟩,a2,n2,q2,sb,sm,sd,i',bad',rfl,.inr ⟨j,Hcj.out,Hbj.out⟩,hbT⟩
  | true =>
   have hNx2:Calls Tryz.prog 138 #[pv a n c i fin 0,.bool true] w6b fun e w'=>e = .returned (pv a n c (i+1) fin 0)∧Below w6b.heap.size w6b w':=HNx.out.mono (by
    rintro e w' ⟨⟨_,_,h⟩ | ⟨h | h,_⟩,hb⟩
    ·exact⟨h,hb⟩
    ·cases h
    have:=Hin.out
    omega)
   have HNx2:=hd hNx2;clear hNx2
   go_wp2_with fail
   refine HNx2.out.mono ?_
   rintro e w7 ⟨rfl,hb7⟩
   have hAt:=zrw (ws:=ws) (i:=i) Hst'.out (by rw[← Hs.out];exact Hat.out) (by rw[← Hs.out,← Htl2.out];exact Hok.out.symm)
   rw[← Hs.out,← Htl2.out] at hAt
   have hJ7:=HJ6b.out.to hb7
   obtain⟨_,fy0,fy1,fy2,fy3⟩:=za7 hJ7.p
   obtain⟨wt,hwt⟩ : ∃ W,W=(((w7.setCell ⟨g,0,none⟩ (.slice a n c)).setCell ⟨g,1,none⟩ (.int .i64 ((i:Int)+1))).setCell ⟨g,2,none⟩ (.int .i64 fin)).setCell ⟨g,3,none⟩ (.int .i64 (0:Int)):=⟨_,rfl⟩
   have hFt:Frm (fun z=>z=g) w7 wt:=by rw[hwt];exact zaa (zaa (zaa (zaa (Frm.refl _ _) 0 _) 1 _) 2 _) 3 _
   have hJt:CnJ w g g4 a n c (i+1) fin (0:Int) a2 n2 q2 (.slice none 0 0) wt:=⟨by rw[hwt];exact pset hJ7.p,zac hFt hJ7.r1 (by omega),zac hFt hJ7.r2 (by omega),zac hFt hJ7.s (by omega),hJ7.bel.trans (hFt.below hJ7.bel.size (by rintro k rfl;omega))⟩
   have hnot:No2 w7 (fun z=>z=g):=by
    rintro z rfl
    exact zaq hJ7.p (by decide) (by decide)
   clear c0 c1 c2 c3
   obtain⟨HJ7,Hb7⟩:=hd2 hJ7 hb7;clear hJ7 hb7
   go_upto_region 12 with (fail)
   rw[← hwt]
   clear hwt fy0 fy1 fy2 fy3
   obtain⟨⟨c0,c1,c2,c3⟩,_⟩:=za7 hJt.p
   have hSe:Calls Tryz.prog 140 #[pv a n c (i+1) fin 0] wt fun e w'=>∃ b m d i' bad',e = .returned (.tuple #[.slice b m d,pv a n c i' fin bad'])∧((∃ l,bad'=0∧zb9 w' (.slice b m d) l∧zaz ws (i+1) []=(some l,i')∧(0:Int)=0)∨(bad'≠0∧∃ j,zbn ws i=(none,j)∧bad'=zb8 ws fin j))∧Below wt.heap.size wt w':=(zei (za6 zbb _ _ _ _ Hw.out hJt.bel) hn1 Hz.out Hcol.out (i+1)).mono (by
    rintro e w9 ⟨b',m,d,i',bad,rfl,⟨l,h1,h2,h3⟩ | ⟨j,h1,h2⟩,hb9⟩
    ·exact⟨b',m,d,i',bad,rfl,.inl ⟨l,h2,h3,h1,rfl⟩,hb9⟩
    exact⟨b',m,d,i',bad,rfl,.inr ⟨by rw[h2];exact Hcol.out j,j,by rw[hAt,h1];rfl,h2⟩,hb9⟩)
   have hA1:∀ l (i':Nat),(0:Int)=0→zaz ws (i+1) []=(some l,i')→i'≠i→zbn ws i=(some (noT,rdV tl,l),i'):=fun l j _ h _=>by rw[hAt,h];rfl
   have hA2:∀ l (i':Nat),(0:Int)=0→zaz ws (i+1) []=(some l,i')→i'=i→zbn ws i=(none,i'):=fun l j _ h e=>by
    have:=zhi ws (i+1) []
    rw[h] at this
    simp only at this
    omega
   have hrdT:(0:Int)=0→zcq wt (.slice a2 n2 q2) (rdV tl):=fun _=>zam (zap (Hrd6.out trivial) Hb7.out) hFt hnot
   clear hAt
   obtain⟨HSe,HA1,HA2,HrdT,HJt,HFt,Hnot⟩:=hd7 hSe hA1 hA2 hrdT hJt hFt hnot;clear hSe hA1 hA2 hrdT hJt hFt hnot
   go_wp2_with fail
   refine HSe.out.mono ?_
   rintro e w8 ⟨sb,sm,sd,i',bad',rfl,hfin,hb8⟩
   obtain⟨g10,hg10⟩ : ∃ z,z=w8.heap.size:=⟨_,rfl⟩
   obtain⟨w9,hw9⟩ : ∃ W,W=w8.alloc (.cells #[.slice a n c,.int .i64 i',.int .i64 fin,.int .i64 bad'] 113):=⟨_,rfl⟩
   have hb89:Below w8.heap.size w8 w9:=by rw[hw9];exact za2 _ _
   have hbt9:=hb8.trans (hb89.mono hb8.size)
   have hJ9:=HJt.out.to hbt9
   have p9:PBox g10 a n c i' fin bad' w9:=by rw[hw9,hg10];exact heap_alloc_new _ _
   have hgt:g4 < g10:=by rw[hg10];exact (Array.getElem?_eq_some_iff.1 (za0 hb8 HJt.out.s)).1
   obtain⟨_,_,_,_,_,fz2⟩:=za4 hJ9.s
   obtain⟨w10,hw10⟩ : ∃ W,W=w9.setCell ⟨g4,2,none⟩ (.slice sb sm sd):=⟨_,rfl⟩
   have hF10:Frm (fun z=>z=g4) w9 w10:=by rw[hw10];exact zaa (Frm.refl _ _) 2 _
   have hno10:No2 w9 (fun z=>z=g4):=by
    rintro z rfl
    exact zaq hJ9.s (by decide) (by decide)
   have hJ10:CnJ w g g4 a n c (i+1) fin 0 a2 n2 q2 (.slice sb sm sd) w10:=⟨zac hF10 hJ9.p (by omega),zac hF10 hJ9.r1 (by omega),zac hF10 hJ9.r2 (by omega),by rw[hw10];exact heap_setCell_same _ g4 2 _ _ _ hJ9.s,hJ9.bel.trans (hF10.below hJ9.bel.size (by rintro k rfl;omega))⟩
   have p10:=zac hF10 p9 (by omega)
   have hrd10:0=0→zcq w10 (.slice a2 n2 q2) (rdV tl):=fun h=>zam (zap (by first | exact HrdT.out h | exact HrdT.out trivial) hbt9) hF10 hno10
   have hset10:∀ l,zb9 w8 (.slice sb sm sd) l→zb9 w10 (.slice sb sm sd) l:=fun l h=>zas (zax h hb89) hF10 hno10
   clear c0 c1 c2 c3
   obtain⟨Hfin,Hb8,Hb89,Hbt9,HJ9,Hp9,HF10,Hno10,HJ10,Hp10,Hrd10,Hset10⟩:=hd12 hfin hb8 hb89 hbt9 hJ9 p9 hF10 hno10 hJ10 p10 hrd10 hset10;clear hfin hb8 hb89 hbt9 hJ9 p9 hF10 hno10 hJ10 p10 hrd10 hset10
   go_upto_region 13 with (fail)
   rw[← hw9,← hg10]
   clear hw9 hg10
   go_upto_region 14 with (fail)
   rw[← hw10]
   clear hw10 fz2
   obtain⟨x0,x1,x2,_,_,_⟩:=za4 HJ10.out.s
   obtain⟨⟨y0,y1,y2,y3⟩,fy0,fy1,fy2,fy3⟩:=za7 Hp10.out
   obtain⟨_,_,_,fr0,fr1,fr2⟩:=za4 HJ10.out.r1
   obtain⟨_,fp0,fp1,fp2,fp3⟩:=za7 HJ10.out.r2
   have d1:¬ g10=g+1:=by omega
   have d2:¬ g10=g+1+1:=by omega
   have d3:¬ g4=g+1:=by omega
   have d4:¬ g4=g+1+1:=by omega
   have d5:¬ g10=g4:=by omega
   rcases Hfin.out with⟨l,hbz,hset,hse,hb2⟩ | ⟨hbne,j,hcj,hbj⟩
   ·subst hbz
    by_cases hi:i'=i
    ·have k7:((i':Int) == (i:Int))=true:=by rw[hi];simp
     have hcn:=(by first | exact HA2.out l i' hb2 hse hi | exact HA2.out l i' trivial hse hi:zbn ws i=(none,i'))
     have hFl:=zfm (za6 zbb _ _ _ _ Hw.out HJ10.out.bel) i' fin
     obtain⟨bq,hbq⟩ : ∃ z,z=zb8 ws fin i':=⟨_,rfl⟩
     rw[← hbq] at hFl
     obtain⟨Hcn,HFl,Hi,Hset,Hse,Hbq⟩:=hd6 hcn hFl hi hset hse hbq;clear hcn hFl hi hset hse hbq
     go_wp2_with fail
     refine HFl.out.mono ?_
     rintro e w11 ⟨rfl,hb11⟩
     have hJ11:=HJ10.out.to hb11
     have p11:=za0 hb11 Hp10.out
     obtain⟨_,fy0,fy1,fy2,fy3⟩:=za7 p11
     obtain⟨w12,hw12⟩ : ∃ W,W=(((w11.setCell ⟨g10,0,none⟩ (.slice a n c)).setCell ⟨g10,1,none⟩ (.int .i64 i')).setCell ⟨g10,2,none⟩ (.int .i64 fin)).setCell ⟨g10,3,none⟩ (.int .i64 bq):=⟨_,rfl⟩
     have hF12:Frm (fun z=>z=g10) w11 w12:=by rw[hw12];exact zaa (zaa (zaa (zaa (Frm.refl _ _) 0 _) 1 _) 2 _) 3 _
     have hJ12:CnJ w g g4 a n c (i+1) fin 0 a2 n2 q2 (.slice sb sm sd) w12:=⟨zac hF12 hJ11.p (by omega),zac hF12 hJ11.r1 (by omega),zac hF12 hJ11.r2 (by omega),zac hF12 hJ11.s (by omega),hJ11.bel.trans (hF12.below hJ11.bel.size (by rintro k rfl;omega))⟩
     have p12:PBox g10 a n c i' fin bq w12:=by rw[hw12];exact pset p11
     clear x0 x1 x2 y0 y1 y2 y3 fr0 fr1 fr2 fp0 fp1 fp2 fp3
     obtain⟨Hb11,HJ11,Hp11,HF12,HJ12,Hp12⟩:=hd6 hb11 hJ11 p11 hF12 hJ12 p12;clear hb11 hJ11 p11 hF12 hJ12 p12
     go_upto_region 16 with (fail)
     rw[← hw12]
     clear hw12 fy0 fy1 fy2 fy3
     obtain⟨x0,x1,x2,_,_,_⟩:=za4 HJ12.out.s
     obtain⟨⟨y0,y1,y2,y3⟩,_⟩:=za7 Hp12.out
     obtain⟨_,_,_,fr0,fr1,fr2⟩:=za4 HJ12.out.r1
     obtain⟨_,fp0,fp1,fp2,fp3⟩:=za7 HJ12.out.r2
     go_wp2_with fail
     go_region
     go_wp2_with fail
     obtain⟨wT,hwT⟩ : ∃ W,W=((((((w12.setCell ⟨g+1,0,none⟩ (.string ⟨#[]⟩)).setCell ⟨g+1,1,none⟩ (.slice a2 n2 q2)).setCell ⟨g+1,2,none⟩ (.slice sb sm sd)).setCell ⟨g+1+1,0,none⟩ (.slice a n c)).setCell ⟨g+1+1,1,none⟩ (.int .i64 i')).setCell ⟨g+1+1,2,none⟩ (.int .i64 fin)).setCell ⟨g+1+1,3,none⟩ (.int .i64 bq):=⟨_,rfl⟩
     rw[← hwT]
     obtain⟨r1,r2,hT⟩:=zcm (i':=i') HJ12.out.r1 HJ12.out.r2 hwT
     clear hwT
     have hno:No2 w12 (fun z=>z=g+1∨z=g+1+1):=by
      rintro z (rfl | rfl)
      ·exact zaq HJ12.out.r1 (by decide) (by decide)
      exact zaq HJ12.out.r2 (by decide) (by decide)
     have hbT:Below w.heap.size w wT.drew:=Below.drew (HJ12.out.bel.trans (hT.below HJ12.out.bel.size (by rintro k (rfl | rfl) <;> omega)))
     have hTd:=hT.drew
     have r1d:zai (g+1) (.string ⟨#[]⟩) (.slice a2 n2 q2) (.slice sb sm sd) wT.drew:=r1
     have r2d:PBox (g+1+1) a n c i' fin bq wT.drew:=r2
     generalize wT.drew=wU at hbT hTd r1d r2d ⊢
     refine bodyPost_ret (zb0 (g:=g+1) (k:=g+1+1) rfl rfl rfl r1d r2d Tryz.underlying51 rfl (by kernel_rfl) Tryz.underlying113 rfl (by kernel_rfl)) rfl ?_
     exact⟨⟨#[]⟩,a2,n2,q2,sb,sm,sd,i',bq,rfl,.inr ⟨i',Hcn.out,Hbq.out⟩,hbT⟩
    have k7:((i':Int) == (i:Int))=false:=by rw[beq_eq_false_iff_ne];omega
    have hcn:=(by first | exact HA1.out l i' hb2 hse hi | exact HA1.out l i' trivial hse hi:zbn ws i=(some (noT,(rdV tl),l),i'))
    have hrdx:=(by first | exact Hrd10.out hb2 | exact Hrd10.out trivial:zcq w10 (.slice a2 n2 q2) (rdV tl))
    have hsex:=Hset10.out l hset
    clear fy0 fy1 fy2 fy3
    obtain⟨Hcn,Hi,Hset,Hse,Hrdx,Hsex⟩:=hd6 hcn hi hset hse hrdx hsex;clear hcn hi hset hse hrdx hsex
    go_wp2_with fail
    go_region
    go_wp2_with fail
    obtain⟨wT,hwT⟩ : ∃ W,W=((((((w10.setCell ⟨g+1,0,none⟩ (.string ⟨#[]⟩)).setCell ⟨g+1,1,none⟩ (.slice a2 n2 q2)).setCell ⟨g+1,2,none⟩ (.slice sb sm sd)).setCell ⟨g+1+1,0,none⟩ (.slice a n c)).setCell ⟨g+1+1,1,none⟩ (.int .i64 i')).setCell ⟨g+1+1,2,none⟩ (.int .i64 fin)).setCell ⟨g+1+1,3,none⟩ (.int .i64 0):=⟨_,rfl⟩
    rw[← hwT]
    obtain⟨r1,r2,hT⟩:=zcm (i':=i') HJ10.out.r1 HJ10.out.r2 hwT
    clear hwT
    have hno:No2 w10 (fun z=>z=g+1∨z=g+1+1):=by
     rintro z (rfl | rfl)
     ·exact zaq HJ10.out.r1 (by decide) (by decide)
     exact zaq HJ10.out.r2 (by decide) (by decide)
    have hbT:Below w.heap.size w wT.drew:=Below.drew (HJ10.out.bel.trans (hT.below HJ10.out.bel.size (by rintro k (rfl | rfl) <;> omega)))
    have hTd:=hT.drew
    have r1d:zai (g+1) (.string ⟨#[]⟩) (.slice a2 n2 q2) (.slice sb sm sd) wT.drew:=r1
    have r2d:PBox (g+1+1) a n c i' fin 0 wT.drew:=r2
    generalize wT.drew=wU at hbT hTd r1d r2d ⊢
    refine bodyPost_ret (zb0 (g:=g+1) (k:=g+1+1) rfl rfl rfl r1d r2d Tryz.underlying51 rfl (by kernel_rfl) Tryz.underlying113 rfl (by kernel_rfl)) rfl ?_
    exact⟨⟨#[]⟩,a2,n2,q2,sb,sm,sd,i',0,rfl,.inl ⟨_,Hcn.out,rfl,rfl,zam Hrdx.out hTd hno,zas Hsex.out hTd hno⟩,hbT⟩
   have k7:(bad' == 0)=false:=by simpa using hbne
   clear fy0 fy1 fy2 fy3
   obtain⟨Hbne,Hcj,Hbj⟩:=hd3 hbne hcj hbj;clear hbne hcj hbj
   go_wp2_with fail
   go_region
   go_wp2_with fail
   obtain⟨wT,hwT⟩ : ∃ W,W=((((((w10.setCell ⟨g+1,0,none⟩ (.string ⟨#[]⟩)).setCell ⟨g+1,1,none⟩ (.slice a2 n2 q2)).setCell ⟨g+1,2,none⟩ (.slice sb sm sd)).setCell ⟨g+1+1,0,none⟩ (.slice a n c)).setCell ⟨g+1+1,1,none⟩ (.int .i64 i')).setCell ⟨g+1+1,2,none⟩ (.int .i64 fin)).setCell ⟨g+1+1,3,none⟩ (.int .i64 bad'):=⟨_,rfl⟩
   rw[← hwT]
   obtain⟨r1,r2,hT⟩:=zcm (i':=i') HJ10.out.r1 HJ10.out.r2 hwT
   clear hwT
   have hno:No2 w10 (fun z=>z=g+1∨z=g+1+1):=by
    rintro z (rfl | rfl)
    ·exact zaq HJ10.out.r1 (by decide) (by decide)
    exact zaq HJ10.out.r2 (by decide) (by decide)
   have hbT:Below w.heap.size w wT.drew:=Below.drew (HJ10.out.bel.trans (hT.below HJ10.out.bel.size (by rintro k (rfl | rfl) <;> omega)))
   have hTd:=hT.drew
   have r1d:zai (g+1) (.string ⟨#[]⟩) (.slice a2 n2 q2) (.slice sb sm sd) wT.drew:=r1
   have r2d:PBox (g+1+1) a n c i' fin bad' wT.drew:=r2
   generalize wT.drew=wU at hbT hTd r1d r2d ⊢
   refine bodyPost_ret (zb0 (g:=g+1) (k:=g+1+1) rfl rfl rfl r1d r2d Tryz.underlying51 rfl (by kernel_rfl) Tryz.underlying113 rfl (by kernel_rfl)) rfl ?_
   exact⟨⟨#[]⟩,a2,n2,q2,sb,sm,sd,i',bad',rfl,.inr ⟨j,Hcj.out,Hbj.out⟩,hbT⟩
 have hCw:=zlq (ws:=ws) (i:=i) Hst'.out (by rw[← Hs.out];simpa using hat)
 have hA1:∀ l (i':Nat),(0:Int)=0→zaz ws i []=(some l,i')→i'≠i→zbn ws i=(some (noT,allV,l),i'):=fun l j _ h h2=>hCw.1 l j h h2
 have hA2:∀ l (i':Nat),(0:Int)=0→zaz ws i []=(some l,i')→i'=i→zbn ws i=(none,i'):=fun l j _ h h2=>hCw.2.1 l j h h2
 obtain⟨wt,hwt⟩ : ∃ W,W=w5:=⟨_,rfl⟩
 have hJt:CnJ w g g4 a n c i fin 0 va 1 1 (.slice none 0 0) wt:=by rw[hwt];exact HJ5.out
 have hrdT:(0:Int)=0→zcq wt (.slice va 1 1) allV:=fun _=>by rw[hwt];exact Hall5.out
 have hSe:Calls Tryz.prog 140 #[pv a n c i fin 0] wt fun e w'=>∃ b m d i' bad',e = .returned (.tuple #[.slice b m d,pv a n c i' fin bad'])∧((∃ l,bad'=0∧zb9 w' (.slice b m d) l∧zaz ws i []=(some l,i')∧(0:Int)=0)∨(bad'≠0∧∃ j,zbn ws i=(none,j)∧bad'=zb8 ws fin j))∧Below wt.heap.size wt w':=(zei (za6 zbb _ _ _ _ Hw.out hJt.bel) hn1 Hz.out Hcol.out i).mono (by
  rintro e w9 ⟨b',m,d,i',bad,rfl,⟨l,h1,h2,h3⟩ | ⟨j,h1,h2⟩,hb9⟩
  ·exact⟨b',m,d,i',bad,rfl,.inl ⟨l,h2,h3,h1,rfl⟩,hb9⟩
  exact⟨b',m,d,i',bad,rfl,.inr ⟨by rw[h2];exact Hcol.out j,j,hCw.2.2 j h1,h2⟩,hb9⟩)
 rw[← hwt] at c0 c1 c2 c3 x0 x1 x2 ⊢
 clear hwt hCw
 clear x0 x1 x2
 by_cases h0:s.size=0
 ·have k2:s.toList.isEmpty=true:=by rw[hnb];exact decide_eq_true h0
  clear hnb
  obtain⟨Hat,H0,HSe,HA1,HA2,HrdT,HJt⟩:=hd7 hat h0 hSe hA1 hA2 hrdT hJt;clear hat h0 hSe hA1 hA2 hrdT hJt
  go_wp2_with fail
  refine HSe.out.mono ?_
  rintro e w8 ⟨sb,sm,sd,i',bad',rfl,hfin,hb8⟩
  obtain⟨g10,hg10⟩ : ∃ z,z=w8.heap.size:=⟨_,rfl⟩
  obtain⟨w9,hw9⟩ : ∃ W,W=w8.alloc (.cells #[.slice a n c,.int .i64 i',.int .i64 fin,.int .i64 bad'] 113):=⟨_,rfl⟩
  have hb89:Below w8.heap.size w8 w9:=by rw[hw9];exact za2 _ _
  have hbt9:=hb8.trans (hb89.mono hb8.size)
  have hJ9:=HJt.out.to hbt9
  have p9:PBox g10 a n c i' fin bad' w9:=by rw[hw9,hg10];exact heap_alloc_new _ _
  have hgt:g4 < g10:=by rw[hg10];exact (Array.getElem?_eq_some_iff.1 (za0 hb8 HJt.out.s)).1
  obtain⟨_,_,_,_,_,fz2⟩:=za4 hJ9.s
  obtain⟨w10,hw10⟩ : ∃ W,W=w9.setCell ⟨g4,2,none⟩ (.slice sb sm sd):=⟨_,rfl⟩
  have hF10:Frm (fun z=>z=g4) w9 w10:=by rw[hw10];exact zaa (Frm.refl _ _) 2 _
  have hno10:No2 w9 (fun z=>z=g4):=by
   rintro z rfl
   exact zaq hJ9.s (by decide) (by decide)
  have hJ10:CnJ w g g4 a n c i fin 0 va 1 1 (.slice sb sm sd) w10:=⟨zac hF10 hJ9.p (by omega),zac hF10 hJ9.r1 (by omega),zac hF10 hJ9.r2 (by omega),by rw[hw10];exact heap_setCell_same _ g4 2 _ _ _ hJ9.s,hJ9.bel.trans (hF10.below hJ9.bel.size (by rintro k rfl;omega))⟩
  have p10:=zac hF10 p9 (by omega)
  have hrd10:0=0→zcq w10 (.slice va 1 1) allV:=fun h=>zam (zap (by first | exact HrdT.out h | exact HrdT.out trivial) hbt9) hF10 hno10
  have hset10:∀ l,zb9 w8 (.slice sb sm sd) l→zb9 w10 (.slice sb sm sd) l:=fun l h=>zas (zax h hb89) hF10 hno10
  clear c0 c1 c2 c3
  obtain⟨Hfin,Hb8,Hb89,Hbt9,HJ9,Hp9,HF10,Hno10,HJ10,Hp10,Hrd10,Hset10⟩:=hd12 hfin hb8 hb89 hbt9 hJ9 p9 hF10 hno10 hJ10 p10 hrd10 hset10;clear hfin hb8 hb89 hbt9 hJ9 p9 hF10 hno10 hJ10 p10 hrd10 hset10
  go_upto_region 13 with (fail)
  rw[← hw9,← hg10]
  clear hw9 hg10
  go_upto_region 14 with (fail)
  rw[← hw10]
  clear hw10 fz2
  obtain⟨x0,x1,x2,_,_,_⟩:=za4 HJ10.out.s
  obtain⟨⟨y0,y1,y2,y3⟩,fy0,fy1,fy2,fy3⟩:=za7 Hp10.out
  obtain⟨_,_,_,fr0,fr1,fr2⟩:=za4 HJ10.out.r1
  obtain⟨_,fp0,fp1,fp2,fp3⟩:=za7 HJ10.out.r2
  have d1:¬ g10=g+1:=by omega
  have d2:¬ g10=g+1+1:=by omega
  have d3:¬ g4=g+1:=by omega
  have d4:¬ g4=g+1+1:=by omega
  have d5:¬ g10=g4:=by omega
  rcases Hfin.out with⟨l,hbz,hset,hse,hb2⟩ | ⟨hbne,j,hcj,hbj⟩
  ·subst hbz
   by_cases hi:i'=i
   ·have k7:((i':Int) == (i:Int))=true:=by rw[hi];simp
    have hcn:=(by first | exact HA2.out l i' hb2 hse hi | exact HA2.out l i' trivial hse hi:zbn ws i=(none,i'))
    have hFl:=zfm (za6 zbb _ _ _ _ Hw.out HJ10.out.bel) i' fin
    obtain⟨bq,hbq⟩ : ∃ z,z=zb8 ws fin i':=⟨_,rfl⟩
    rw[← hbq] at hFl
    obtain⟨Hcn,HFl,Hi,Hset,Hse,Hbq⟩:=hd6 hcn hFl hi hset hse hbq;clear hcn hFl hi hset hse hbq
    go_wp2_with fail
    refine HFl.out.mono ?_
    rintro e w11 ⟨rfl,hb11⟩
    have hJ11:=HJ10.out.to hb11
    have p11:=za0 hb11 Hp10.out
    obtain⟨_,fy0,fy1,fy2,fy3⟩:=za7 p11
    obtain⟨w12,hw12⟩ : ∃ W,W=(((w11.setCell ⟨g10,0,none⟩ (.slice a n c)).setCell ⟨g10,1,none⟩ (.int .i64 i')).setCell ⟨g10,2,none⟩ (.int .i64 fin)).setCell ⟨g10,3,none⟩ (.int .i64 bq):=⟨_,rfl⟩
    have hF12:Frm (fun z=>z=g10) w11 w12:=by rw[hw12];exact zaa (zaa (zaa (zaa (Frm.refl _ _) 0 _) 1 _) 2 _) 3 _
    have hJ12:CnJ w g g4 a n c i fin 0 va 1 1 (.slice sb sm sd) w12:=⟨zac hF12 hJ11.p (by omega),zac hF12 hJ11.r1 (by omega),zac hF12 hJ11.r2 (by omega),zac hF12 hJ11.s (by omega),hJ11.bel.trans (hF12.below hJ11.bel.size (by rintro k rfl;omega))⟩
    have p12:PBox g10 a n c i' fin bq w12:=by rw[hw12];exact pset p11
    clear x0 x1 x2 y0 y1 y2 y3 fr0 fr1 fr2 fp0 fp1 fp2 fp3
    obtain⟨Hb11,HJ11,Hp11,HF12,HJ12,Hp12⟩:=hd6 hb11 hJ11 p11 hF12 hJ12 p12;clear hb11 hJ11 p11 hF12 hJ12 p12
    go_upto_region 16 with (fail)
    rw[← hw12]
    clear hw12 fy0 fy1 fy2 fy3
    obtain⟨x0,x1,x2,_,_,_⟩:=za4 HJ12.out.s
    obtain⟨⟨y0,y1,y2,y3⟩,_⟩:=za7 Hp12.out
    obtain⟨_,_,_,fr0,fr1,fr2⟩:=za4 HJ12.out.r1
    obtain⟨_,fp0,fp1,fp2,fp3⟩:=za7 HJ12.out.r2
    go_wp2_with fail
    go_region
    go_wp2_with fail
    obtain⟨wT,hwT⟩ : ∃ W,W=((((((w12.setCell ⟨g+1,0,none⟩ (.string ⟨#[]⟩)).setCell ⟨g+1,1,none⟩ (.slice va 1 1)).setCell ⟨g+1,2,none⟩ (.slice sb sm sd)).setCell ⟨g+1+1,0,none⟩ (.slice a n c)).setCell ⟨g+1+1,1,none⟩ (.int .i64 i')).setCell ⟨g+1+1,2,none⟩ (.int .i64 fin)).setCell ⟨g+1+1,3,none⟩ (.int .i64 bq):=⟨_,rfl⟩
    rw[← hwT]
    obtain⟨r1,r2,hT⟩:=zcm (i':=i') HJ12.out.r1 HJ12.out.r2 hwT
    clear hwT
    have hno:No2 w12 (fun z=>z=g+1∨z=g+1+1):=by
     rintro z (rfl | rfl)
     ·exact zaq HJ12.out.r1 (by decide) (by decide)
     exact zaq HJ12.out.r2 (by decide) (by decide)
    have hbT:Below w.heap.size w wT.drew:=Below.drew (HJ12.out.bel.trans (hT.below HJ12.out.bel.size (by rintro k (rfl | rfl) <;> omega)))
    have hTd:=hT.drew
    have r1d:zai (g+1) (.string ⟨#[]⟩) (.slice va 1 1) (.slice sb sm sd) wT.drew:=r1
    have r2d:PBox (g+1+1) a n c i' fin bq wT.drew:=r2
    generalize wT.drew=wU at hbT hTd r1d r2d ⊢
    refine bodyPost_ret (zb0 (g:=g+1) (k:=g+1+1) rfl rfl rfl r1d r2d Tryz.underlying51 rfl (by kernel_rfl) Tryz.underlying113 rfl (by kernel_rfl)) rfl ?_
    exact⟨⟨#[]⟩,va,1,1,sb,sm,sd,i',bq,rfl,.inr ⟨i',Hcn.out,Hbq.out⟩,hbT⟩
   have k7:((i':Int) == (i:Int))=false:=by rw[beq_eq_false_iff_ne];omega
   have hcn:=(by first | exact HA1.out l i' hb2 hse hi | exact HA1.out l i' trivial hse hi:zbn ws i=(some (noT,allV,l),i'))
   have hrdx:=(by first | exact Hrd10.out hb2 | exact Hrd10.out trivial:zcq w10 (.slice va 1 1) allV)
   have hsex:=Hset10.out l hset
   clear fy0 fy1 fy2 fy3
   obtain⟨Hcn,Hi,Hset,Hse,Hrdx,Hsex⟩:=hd6 hcn hi hset hse hrdx hsex;clear hcn hi hset hse hrdx hsex
   go_wp2_with fail
   go_region
   go_wp2_with fail
   obtain⟨wT,hwT⟩ : ∃ W,W=((((((w10.setCell ⟨g+1,0,none⟩ (.string ⟨#[]⟩)).setCell ⟨g+1,1,none⟩ (.slice va 1 1)).setCell ⟨g+1,2,none⟩ (.slice sb sm sd)).setCell ⟨g+1+1,0,none⟩ (.slice a n c)).setCell ⟨g+1+1,1,none⟩ (.int .i64 i')).setCell ⟨g+1+1,2,none⟩ (.int .i64 fin)).setCell ⟨g+1+1,3,none⟩ (.int .i64 0):=⟨_,rfl⟩
   rw[← hwT]
   obtain⟨r1,r2,hT⟩:=zcm (i':=i') HJ10.out.r1 HJ10.out.r2 hwT
   clear hwT
   have hno:No2 w10 (fun z=>z=g+1∨z=g+1+1):=by
    rintro z (rfl | rfl)
    ·exact zaq HJ10.out.r1 (by decide) (by decide)
    exact zaq HJ10.out.r2 (by decide) (by decide)
   have hbT:Below w.heap.size w wT.drew:=Below.drew (HJ10.out.bel.trans (hT.below HJ10.out.bel.size (by rintro k (rfl | rfl) <;> omega)))
   have hTd:=hT.drew
   have r1d:zai (g+1) (.string ⟨#[]⟩) (.slice va 1 1) (.slice sb sm sd) wT.drew:=r1
   have r2d:PBox (g+1+1) a n c i' fin 0 wT.drew:=r2
   generalize wT.drew=wU at hbT hTd r1d r2d ⊢
   refine bodyPost_ret (zb0 (g:=g+1) (k:=g+1+1) rfl rfl rfl r1d r2d Tryz.underlying51 rfl (by kernel_rfl) Tryz.underlying113 rfl (by kernel_rfl)) rfl ?_
   exact⟨⟨#[]⟩,va,1,1,sb,sm,sd,i',0,rfl,.inl ⟨_,Hcn.out,rfl,rfl,zam Hrdx.out hTd hno,zas Hsex.out hTd hno⟩,hbT⟩
  have k7:(bad' == 0)=false:=by simpa using hbne
  clear fy0 fy1 fy2 fy3
  obtain⟨Hbne,Hcj,Hbj⟩:=hd3 hbne hcj hbj;clear hbne hcj hbj
  go_wp2_with fail
  go_region
  go_wp2_with fail
  obtain⟨wT,hwT⟩ : ∃ W,W=((((((w10.setCell ⟨g+1,0,none⟩ (.string ⟨#[]⟩)).setCell ⟨g+1,1,none⟩ (.slice va 1 1)).setCell ⟨g+1,2,none⟩ (.slice sb sm sd)).setCell ⟨g+1+1,0,none⟩ (.slice a n c)).setCell ⟨g+1+1,1,none⟩ (.int .i64 i')).setCell ⟨g+1+1,2,none⟩ (.int .i64 fin)).setCell ⟨g+1+1,3,none⟩ (.int .i64 bad'):=⟨_,rfl⟩
  rw[← hwT]
  obtain⟨r1,r2,hT⟩:=zcm (i':=i') HJ10.out.r1 HJ10.out.r2 hwT
  clear hwT
  have hno:No2 w10 (fun z=>z=g+1∨z=g+1+1):=by
   rintro z (rfl | rfl)
   ·exact zaq HJ10.out.r1 (by decide) (by decide)
   exact zaq HJ10.out.r2 (by decide) (by decide)
  have hbT:Below w.heap.size w wT.drew:=Below.drew (HJ10.out.bel.trans (hT.below HJ10.out.bel.size (by rintro k (rfl | rfl) <;> omega)))
  have hTd:=hT.drew
  have r1d:zai (g+1) (.string ⟨#[]⟩) (.slice va 1 1) (.slice sb sm sd) wT.drew:=r1
  have r2d:PBox (g+1+1) a n c i' fin bad' wT.drew:=r2
  generalize wT.drew=wU at hbT hTd r1d r2d ⊢
  refine bodyPost_ret (zb0 (g:=g+1) (k:=g+1+1) rfl rfl rfl r1d r2d Tryz.underlying51 rfl (by kernel_rfl) Tryz.underlying113 rfl (by kernel_rfl)) rfl ?_
  exact⟨⟨#[]⟩,va,1,1,sb,sm,sd,i',bad',rfl,.inr ⟨j,Hcj.out,Hbj.out⟩,hbT⟩
 have hpos:0 < s.size:=by omega
 have k2:s.toList.isEmpty=false:=by rw[hnb];exact decide_eq_false h0
 have k3:(0:Int) < (s.size:Int):=by omega
 have k4:(((s[0]'hpos).toNat:Int) == 64)=false:=by
  rw[beq_eq_false_iff_ne]
  intro e
  apply hat
  unfold zfa
  refine decide_eq_true ?_
  rw[List.head?_eq_getElem?,List.getElem?_eq_getElem (by rw[Txt.len];exact hpos)]
  refine congrArg some ?_
  show s[0]'hpos=64
  exact UInt8.toNat_inj.1 (by show (s[0]'hpos).toNat=64;omega)
 clear hnb
 obtain⟨Hat,H0,HSe,HA1,HA2,HrdT,HJt⟩:=hd7 hat h0 hSe hA1 hA2 hrdT hJt;clear hat h0 hSe hA1 hA2 hrdT hJt
 go_wp2_with fail
 refine HSe.out.mono ?_
 rintro e w8 ⟨sb,sm,sd,i',bad',rfl,hfin,hb8⟩
 obtain⟨g10,hg10⟩ : ∃ z,z=w8.heap.size:=⟨_,rfl⟩
 obtain⟨w9,hw9⟩ : ∃ W,W=w8.alloc (.cells #[.slice a n c,.int .i64 i',.int .i64 fin,.int .i64 bad'] 113):=⟨_,rfl⟩
 have hb89:Below w8.heap.size w8 w9:=by rw[hw9];exact za2 _ _
 have hbt9:=hb8.trans (hb89.mono hb8.size)
 have hJ9:=HJt.out.to hbt9
 have p9:PBox g10 a n c i' fin bad' w9:=by rw[hw9,hg10];exact heap_alloc_new _ _
 have hgt:g4 < g10:=by rw[hg10];exact (Array.getElem?_eq_some_iff.1 (za0 hb8 HJt.out.s)).1
 obtain⟨_,_,_,_,_,fz2⟩:=za4 hJ9.s
 obtain⟨w10,hw10⟩ : ∃ W,W=w9.setCell ⟨g4,2,none⟩ (.slice sb sm sd):=⟨_,rfl⟩
 have hF10:Frm (fun z=>z=g4) w9 w10:=by rw[hw10];exact zaa (Frm.refl _ _) 2 _
 have hno10:No2 w9 (fun z=>z=g4):=by
  rintro z rfl
  exact zaq hJ9.s (by decide) (by decide)
 have hJ10:CnJ w g g4 a n c i fin 0 va 1 1 (.slice sb sm sd) w10:=⟨zac hF10 hJ9.p (by omega),zac hF10 hJ9.r1 (by omega),zac hF10 hJ9.r2 (by omega),by rw[hw10];exact heap_setCell_same _ g4 2 _ _ _ hJ9.s,hJ9.bel.trans (hF10.below hJ9.bel.size (by rintro k rfl;omega))⟩
 have p10:=zac hF10 p9 (by omega)
 have hrd10:0=0→zcq w10 (.slice va 1 1) allV:=fun h=>zam (zap (by first | exact HrdT.out h | exact HrdT.out trivial) hbt9) hF10 hno10
 have hset10:∀ l,zb9 w8 (.slice sb sm sd) l→zb9 w10 (.slice sb sm sd) l:=fun l h=>zas (zax h hb89) hF10 hno10
 clear c0 c1 c2 c3
 obtain⟨Hfin,Hb8,Hb89,Hbt9,HJ9,Hp9,HF10,Hno10,HJ10,Hp10,Hrd10,Hset10⟩:=hd12 hfin hb8 hb89 hbt9 hJ9 p9 hF10 hno10 hJ10 p10 hrd10 hset10;clear hfin hb8 hb89 hbt9 hJ9 p9 hF10 hno10 hJ10 p10 hrd10 hset10
 go_upto_region 13 with (fail)
 rw[← hw9,← hg10]
 clear hw9 hg10
 go_upto_region 14 with (fail)
 rw[← hw10]
 clear hw10 fz2
 obtain⟨x0,x1,x2,_,_,_⟩:=za4 HJ10.out.s
 obtain⟨⟨y0,y1,y2,y3⟩,fy0,fy1,fy2,fy3⟩:=za7 Hp10.out
 obtain⟨_,_,_,fr0,fr1,fr2⟩:=za4 HJ10.out.r1
 obtain⟨_,fp0,fp1,fp2,fp3⟩:=za7 HJ10.out.r2
 have d1:¬ g10=g+1:=by omega
 have d2:¬ g10=g+1+1:=by omega
 have d3:¬ g4=g+1:=by omega
 have d4:¬ g4=g+1+1:=by omega
 have d5:¬ g10=g4:=by omega
 rcases Hfin.out with⟨l,hbz,hset,hse,hb2⟩ | ⟨hbne,j,hcj,hbj⟩
 ·subst hbz
  by_cases hi:i'=i
  ·have k7:((i':Int) == (i:Int))=true:=by rw[hi];simp
   have hcn:=(by first | exact HA2.out l i' hb2 hse hi | exact HA2.out l i' trivial hse hi:zbn ws i=(none,i'))
   have hFl:=zfm (za6 zbb _ _ _ _ Hw.out HJ10.out.bel) i' fin
   obtain⟨bq,hbq⟩ : ∃ z,z=zb8 ws fin i':=⟨_,rfl⟩
   rw[← hbq] at hFl
   obtain⟨Hcn,HFl,Hi,Hset,Hse,Hbq⟩:=hd6 hcn hFl hi hset hse hbq;clear hcn hFl hi hset hse hbq
   go_wp2_with fail
   refine HFl.out.mono ?_
   rintro e w11 ⟨rfl,hb11⟩
   have hJ11:=HJ10.out.to hb11
   have p11:=za0 hb11 Hp10.out
   obtain⟨_,fy0,fy1,fy2,fy3⟩:=za7 p11
   obtain⟨w12,hw12⟩ : ∃ W,W=(((w11.setCell ⟨g10,0,none⟩ (.slice a n c)).setCell ⟨g10,1,none⟩ (.int .i64 i')).setCell ⟨g10,2,none⟩ (.int .i64 fin)).setCell ⟨g10,3,none⟩ (.int .i64 bq):=⟨_,rfl⟩
   have hF12:Frm (fun z=>z=g10) w11 w12:=by rw[hw12];exact zaa (zaa (zaa (zaa (Frm.refl _ _) 0 _) 1 _) 2 _) 3 _
   have hJ12:CnJ w g g4 a n c i fin 0 va 1 1 (.slice sb sm sd) w12:=⟨zac hF12 hJ11.p (by omega),zac hF12 hJ11.r1 (by omega),zac hF12 hJ11.r2 (by omega),zac hF12 hJ11.s (by omega),hJ11.bel.trans (hF12.below hJ11.bel.size (by rintro k rfl;omega))⟩
   have p12:PBox g10 a n c i' fin bq w12:=by rw[hw12];exact pset p11
   clear x0 x1 x2 y0 y1 y2 y3 fr0 fr1 fr2 fp0 fp1 fp2 fp3
   obtain⟨Hb11,HJ11,Hp11,HF12,HJ12,Hp12⟩:=hd6 hb11 hJ11 p11 hF12 hJ12 p12;clear hb11 hJ11 p11 hF12 hJ12 p12
   go_upto_region 16 with (fail)
   rw[← hw12]
   clear hw12 fy0 fy1 fy2 fy3
   obtain⟨x0,x1,x2,_,_,_⟩:=za4 HJ12.out.s
   obtain⟨⟨y0,y1,y2,y3⟩,_⟩:=za7 Hp12.out
   obtain⟨_,_,_,fr0,fr1,fr2⟩:=za4 HJ12.out.r1
   obtain⟨_,fp0,fp1,fp2,fp3⟩:=za7 HJ12.out.r2
   go_wp2_with fail
   go_region
   go_wp2_with fail
   obtain⟨wT,hwT⟩ : ∃ W,W=((((((w12.setCell ⟨g+1,0,none⟩ (.string ⟨#[]⟩)).setCell ⟨g+1,1,none⟩ (.slice va 1 1)).setCell ⟨g+1,2,none⟩ (.slice sb sm sd)).setCell ⟨g+1+1,0,none⟩ (.slice a n c)).setCell ⟨g+1+1,1,none⟩ (.int .i64 i')).setCell ⟨g+1+1,2,none⟩ (.int .i64 fin)).setCell ⟨g+1+1,3,none⟩ (.int .i64 bq):=⟨_,rfl⟩
   rw[← hwT]
   obtain⟨r1,r2,hT⟩:=zcm (i':=i') HJ12.out.r1 HJ12.out.r2 hwT
   clear hwT
   have hno:No2 w12 (fun z=>z=g+1∨z=g+1+1):=by
    rintro z (rfl | rfl)
    ·exact zaq HJ12.out.r1 (by decide) (by decide)
    exact zaq HJ12.out.r2 (by decide) (by decide)
   have hbT:Below w.heap.size w wT.drew:=Below.drew (HJ12.out.bel.trans (hT.below HJ12.out.bel.size (by rintro k (rfl | rfl) <;> omega)))
   have hTd:=hT.drew
   have r1d:zai (g+1) (.string ⟨#[]⟩) (.slice va 1 1) (.slice sb sm sd) wT.drew:=r1
   have r2d:PBox (g+1+1) a n c i' fin bq wT.drew:=r2
   generalize wT.drew=wU at hbT hTd r1d r2d ⊢
   refine bodyPost_ret (zb0 (g:=g+1) (k:=g+1+1) rfl rfl rfl r1d r2d Tryz.underlying51 rfl (by kernel_rfl) Tryz.underlying113 rfl (by kernel_rfl)) rfl ?_
   exact⟨⟨#[]⟩,va,1,1,sb,sm,sd,i',bq,rfl,.inr ⟨i',Hcn.out,Hbq.out⟩,hbT⟩
  have k7:((i':Int) == (i:Int))=false:=by rw[beq_eq_false_iff_ne];omega
  have hcn:=(by first | exact HA1.out l i' hb2 hse hi | exact HA1.out l i' trivial hse hi:zbn ws i=(some (noT,allV,l),i'))
  have hrdx:=(by first | exact Hrd10.out hb2 | exact Hrd10.out trivial:zcq w10 (.slice va 1 1) allV)
  have hsex:=Hset10.out l hset
  clear fy0 fy1 fy2 fy3
  obtain⟨Hcn,Hi,Hset,Hse,Hrdx,Hsex⟩:=hd6 hcn hi hset hse hrdx hsex;clear hcn hi hset hse hrdx hsex
  go_wp2_with fail
  go_region
  go_wp2_with fail
  obtain⟨wT,hwT⟩ : ∃ W,W=((((((w10.setCell ⟨g+1,0,none⟩ (.string ⟨#[]⟩)).setCell ⟨g+1,1,none⟩ (.slice va 1 1)).setCell ⟨g+1,2,none⟩ (.slice sb sm sd)).setCell ⟨g+1+1,0,none⟩ (.slice a n c)).setCell ⟨g+1+1,1,none⟩ (.int .i64 i')).setCell ⟨g+1+1,2,none⟩ (.int .i64 fin)).setCell ⟨g+1+1,3,none⟩ (.int .i64 0):=⟨_,rfl⟩
  rw[← hwT]
  obtain⟨r1,r2,hT⟩:=zcm (i':=i') HJ10.out.r1 HJ10.out.r2 hwT
  clear hwT
  have hno:No2 w10 (fun z=>z=g+1∨z=g+1+1):=by
   rintro z (rfl | rfl)
   ·exact zaq HJ10.out.r1 (by decide) (by decide)
   exact zaq HJ10.out.r2 (by decide) (by decide)
  have hbT:Below w.heap.size w wT.drew:=Below.drew (HJ10.out.bel.trans (hT.below HJ10.out.bel.size (by rintro k (rfl | rfl) <;> omega)))
  have hTd:=hT.drew
  have r1d:zai (g+1) (.string ⟨#[]⟩) (.slice va 1 1) (.slice sb sm sd) wT.drew:=r1
  have r2d:PBox (g+1+1) a n c i' fin 0 wT.drew:=r2
  generalize wT.drew=wU at hbT hTd r1d r2d ⊢
  refine bodyPost_ret (zb0 (g:=g+1) (k:=g+1+1) rfl rfl rfl r1d r2d Tryz.underlying51 rfl (by kernel_rfl) Tryz.underlying113 rfl (by kernel_rfl)) rfl ?_
  exact⟨⟨#[]⟩,va,1,1,sb,sm,sd,i',0,rfl,.inl ⟨_,Hcn.out,rfl,rfl,zam Hrdx.out hTd hno,zas Hsex.out hTd hno⟩,hbT⟩
 have k7:(bad' == 0)=false:=by simpa using hbne
 clear fy0 fy1 fy2 fy3
 obtain⟨Hbne,Hcj,Hbj⟩:=hd3 hbne hcj hbj;clear hbne hcj hbj
 go_wp2_with fail
 go_region
 go_wp2_with fail
 obtain⟨wT,hwT⟩ : ∃ W,W=((((((w10.setCell ⟨g+1,0,none⟩ (.string ⟨#[]⟩)).setCell ⟨g+1,1,none⟩ (.slice va 1 1)).setCell ⟨g+1,2,none⟩ (.slice sb sm sd)).setCell ⟨g+1+1,0,none⟩ (.slice a n c)).setCell ⟨g+1+1,1,none⟩ (.int .i64 i')).setCell ⟨g+1+1,2,none⟩ (.int .i64 fin)).setCell ⟨g+1+1,3,none⟩ (.int .i64 bad'):=⟨_,rfl⟩
 rw[← hwT]
 obtain⟨r1,r2,hT⟩:=zcm (i':=i') HJ10.out.r1 HJ10.out.r2 hwT
 clear hwT
 have hno:No2 w10 (fun z=>z=g+1∨z=g+1+1):=by
  rintro z (rfl | rfl)
  ·exact zaq HJ10.out.r1 (by decide) (by decide)
  exact zaq HJ10.out.r2 (by decide) (by decide)
 have hbT:Below w.heap.size w wT.drew:=Below.drew (HJ10.out.bel.trans (hT.below HJ10.out.bel.size (by rintro k (rfl | rfl) <;> omega)))
 have hTd:=hT.drew
 have r1d:zai (g+1) (.string ⟨#[]⟩) (.slice va 1 1) (.slice sb sm sd) wT.drew:=r1
 have r2d:PBox (g+1+1) a n c i' fin bad' wT.drew:=r2
 generalize wT.drew=wU at hbT hTd r1d r2d ⊢
 refine bodyPost_ret (zb0 (g:=g+1) (k:=g+1+1) rfl rfl rfl r1d r2d Tryz.underlying51 rfl (by kernel_rfl) Tryz.underlying113 rfl (by kernel_rfl)) rfl ?_
 exact⟨⟨#[]⟩,va,1,1,sb,sm,sd,i',bad',rfl,.inr ⟨j,Hcj.out,Hbj.out⟩,hbT⟩
end

section
open Go.Shelf Go.RowKit Go.Lib VerN VarM
open LexM (Wd)
attribute [local go_sem ↓] Go.wp_at_zero Go.wp_at_succ
theorem zpe {w:World} {a:Option Addr} {n c:Nat} {fin:Int} {ws:List Wd} (hws:RWds w [.slice a n c] ws) (hn:n≤1000) (hz:∀ x∈ws,x.2.length≤70000) (hcol:∀ j,zb8 ws fin j≠0):Calls Tryz.prog 37 #[.slice a n c,.int .i64 fin,.bool false] w (zkp fin ws w):=by
 obtain⟨g,hg⟩ : ∃ g,g=w.heap.size:=⟨_,rfl⟩
 obtain⟨W0,hW0⟩ : ∃ W,W=((w.alloc (.cells #[.string ⟨#[]⟩,.slice none 0 0,.slice none 0 0] 51)).alloc (.cells #[.slice a n c,.int .i64 0,.int .i64 fin,.int .i64 0] 113)).alloc (.cells #[.string ⟨#[]⟩,.slice none 0 0,.slice none 0 0] 51):=⟨_,rfl⟩
 have hb0:Below w.heap.size w W0:=by rw[hW0];exact ((za2 _ _).alloc (by simp) _).alloc (by simp;omega) _
 have p0:zai g (.string ⟨#[]⟩) (.slice none 0 0) (.slice none 0 0) W0:=by rw[hW0,hg];exact za0 (za2 _ _) (za0 (za2 _ _) (za8 rfl))
 have p1:PBox (g+1) a n c 0 fin 0 W0:=by rw[hW0,hg];exact za0 (za2 _ _) (za8 (by simp))
 have p2:zai (g+1+1) (.string ⟨#[]⟩) (.slice none 0 0) (.slice none 0 0) W0:=by rw[hW0,hg];exact za8 (by simp)
 have hs0:W0.heap.size=g+3:=by rw[hW0,hg];simp
 have hwg:w.heap.size≤g:=Nat.le_of_eq hg.symm
 obtain⟨⟨c0,c1,c2,c3⟩,_⟩:=za7 p1
 have hW:=ztq (za6 zbb _ _ _ _ hws hb0) hn hz hcol 0
 obtain⟨Hws,Hz,Hcol,Hb0,Hp0,Hp1,Hp2,HW⟩:=hd8 hws hz hcol hb0 p0 p1 p2 hW;clear hws hz hcol hb0 p0 p1 p2 hW
 go_enter Tryz.func37,Tryz.ntmps37
 go_upto_region 3 with (fail)
 rw[← hW0,← hg]
 clear hW0 hg
 go_wp2_with fail
 refine HW.out.mono ?_
 rintro e w1 ⟨x,b1,n1,c1',b2,n2,c2',i',bad,rfl,hfin,hb1⟩
 obtain⟨h1,hh1⟩ : ∃ z,z=w1.heap.size:=⟨_,rfl⟩
 obtain⟨w2,hw2⟩ : ∃ W,W=(w1.alloc (.cells #[.string x,.slice b1 n1 c1',.slice b2 n2 c2'] 51)).alloc (.cells #[.slice a n c,.int .i64 i',.int .i64 fin,.int .i64 bad] 113):=⟨_,rfl⟩
 have hb12:Below w1.heap.size w1 w2:=by rw[hw2];exact (za2 _ _).alloc (by simp) _
 have hb02:=hb1.trans (hb12.mono hb1.size)
 have s0:zai h1 (.string x) (.slice b1 n1 c1') (.slice b2 n2 c2') w2:=by rw[hw2,hh1];exact za0 (za2 _ _) (za8 rfl)
 have s1:PBox (h1+1) a n c i' fin bad w2:=by rw[hw2,hh1];exact za8 (by simp)
 have q0:=za0 hb02 Hp0.out
 have q1:=za0 hb02 Hp1.out
 have q2:=za0 hb02 Hp2.out
 have hlt:g+1+1 < h1:=by have:=hb1.size;omega
 have hbw2:=Hb0.out.trans (hb02.mono Hb0.out.size)
 obtain⟨x0,x1,x2,_,_,_⟩:=za4 s0
 obtain⟨⟨y0,y1,y2,y3⟩,_⟩:=za7 s1
 obtain⟨_,fp0,fp1,fp2,fp3⟩:=za7 q1
 obtain⟨_,_,_,fs0,fs1,fs2⟩:=za4 q2
 obtain⟨_,_,_,fr0,fr1,fr2⟩:=za4 q0
 have d1:¬ h1=g:=by omega
 have d2:¬ h1=g+1:=by omega
 have d3:¬ h1=g+1+1:=by omega
 clear c0 c1 c2 c3
 obtain⟨Hfin,Hb1,Hb12,Hb02,Hs0,Hs1,Hq0,Hq1,Hq2,Hbw2⟩:=hd10 hfin hb1 hb12 hb02 s0 s1 q0 q1 q2 hbw2;clear hfin hb1 hb12 hb02 s0 s1 q0 q1 q2 hbw2
 by_cases hbad:bad=0
 ·subst hbad
  go_upto_region 8 with (fail)
  rw[← hw2,← hh1]
  clear hw2 hh1
  go_wp2_with fail
  go_region
  go_wp2_with fail
  obtain⟨w3,hw3⟩ : ∃ W,W=((((((w2.setCell ⟨g+1+1,0,none⟩ (.string x)).setCell ⟨g+1+1,1,none⟩ (.slice b1 n1 c1')).setCell ⟨g+1+1,2,none⟩ (.slice b2 n2 c2')).setCell ⟨g+1,0,none⟩ (.slice a n c)).setCell ⟨g+1,1,none⟩ (.int .i64 i')).setCell ⟨g+1,2,none⟩ (.int .i64 fin)).setCell ⟨g+1,3,none⟩ (.int .i64 0):=⟨_,rfl⟩
  rw[← hw3]
  have hT3:Frm (fun z=>z=g+1+1∨z=g+1) w2 w3:=by
   have m1:=(Frm.refl (fun z=>z=g+1+1∨z=g+1) w2).setCell (p:=⟨g+1+1,0,none⟩) (.inr (.inl rfl)) (.string x)
   have m2:=m1.setCell (p:=⟨g+1+1,1,none⟩) (.inr (.inl rfl)) (.slice b1 n1 c1')
   have m3:=m2.setCell (p:=⟨g+1+1,2,none⟩) (.inr (.inl rfl)) (.slice b2 n2 c2')
   have m4:=m3.setCell (p:=⟨g+1,0,none⟩) (.inr (.inr rfl)) (.slice a n c)
   have m5:=m4.setCell (p:=⟨g+1,1,none⟩) (.inr (.inr rfl)) (.int .i64 (i':Int))
   have m6:=m5.setCell (p:=⟨g+1,2,none⟩) (.inr (.inr rfl)) (.int .i64 fin)
   have m7:=m6.setCell (p:=⟨g+1,3,none⟩) (.inr (.inr rfl)) (.int .i64 0)
   rw[hw3]
   exact m7
  clear hw3
  have r0:=zac hT3 Hq0.out (by omega)
  have hno3:No2 w2 (fun z=>z=g+1+1∨z=g+1):=by
   rintro z (rfl | rfl)
   ·exact zaq Hq2.out (by decide) (by decide)
   exact zaq Hq1.out (by decide) (by decide)
  have hbw3:Below w.heap.size w w3:=Hbw2.out.trans (hT3.below Hbw2.out.size (by rintro k (rfl | rfl) <;> omega))
  obtain⟨w4,hw4⟩ : ∃ W,W=((w3.setCell ⟨g,0,none⟩ (.string x)).setCell ⟨g,1,none⟩ (.slice b1 n1 c1')).setCell ⟨g,2,none⟩ (.slice b2 n2 c2'):=⟨_,rfl⟩
  rw[← hw4]
  have hT4:Frm (fun z=>z=g) w3 w4:=by rw[hw4];exact zaa (zaa (zaa (Frm.refl _ _) 0 _) 1 _) 2 _
  have r4:zai g (.string x) (.slice b1 n1 c1') (.slice b2 n2 c2') w4:=by
   have k0:=heap_setCell_same _ g 0 _ _ (.string x) r0
   have k1:=heap_setCell_same _ g 1 _ _ (.slice b1 n1 c1') k0
   have k2:=heap_setCell_same _ g 2 _ _ (.slice b2 n2 c2') k1
   rw[hw4]
   exact k2
  clear hw4
  have hno4:No2 w3 (fun z=>z=g):=by
   rintro z rfl
   exact zaq r0 (by decide) (by decide)
  have hbw4:Below w.heap.size w w4.drew:=Below.drew (hbw3.trans (hT4.below hbw3.size (by rintro k rfl;omega)))
  have r4d:zai g (.string x) (.slice b1 n1 c1') (.slice b2 n2 c2') w4.drew:=r4
  have hT4d:=hT4.drew
  generalize w4.drew=w5 at hbw4 r4d hT4d ⊢
  refine bodyPost_ret (zbe (g:=g) rfl rfl rfl rfl r4d Tryz.underlying51 rfl (by kernel_rfl)) rfl ?_
  rcases Hfin.out with⟨sp,h1',_,hx,hv1,hv2⟩ | ⟨j,hj,hjc⟩
  ·subst hx
   exact⟨.inl ⟨sp,i',b1,n1,c1',b2,n2,c2',h1',rfl,zam (zam (zap hv1 Hb12.out) hT3 hno3) hT4d hno4,zas (zas (zax hv2 Hb12.out) hT3 hno3) hT4d hno4⟩,hbw4⟩
  exact absurd hjc.symm (Hcol.out j)
 have k1:(bad != 0)=true:=by simpa using hbad
 have Hbad:=hd hbad;clear hbad
 go_upto_region 8 with (fail)
 rw[← hw2,← hh1]
 clear hw2 hh1
 go_wp2_with fail
 go_region
 go_wp2_with fail
 obtain⟨w3,hw3⟩ : ∃ W,W=((((((w2.setCell ⟨g+1+1,0,none⟩ (.string x)).setCell ⟨g+1+1,1,none⟩ (.slice b1 n1 c1')).setCell ⟨g+1+1,2,none⟩ (.slice b2 n2 c2')).setCell ⟨g+1,0,none⟩ (.slice a n c)).setCell ⟨g+1,1,none⟩ (.int .i64 i')).setCell ⟨g+1,2,none⟩ (.int .i64 fin)).setCell ⟨g+1,3,none⟩ (.int .i64 bad):=⟨_,rfl⟩
 rw[← hw3]
 have hT3:Frm (fun z=>z=g+1+1∨z=g+1) w2 w3:=by
  have m1:=(Frm.refl (fun z=>z=g+1+1∨z=g+1) w2).setCell (p:=⟨g+1+1,0,none⟩) (.inr (.inl rfl)) (.string x)
  have m2:=m1.setCell (p:=⟨g+1+1,1,none⟩) (.inr (.inl rfl)) (.slice b1 n1 c1')
  have m3:=m2.setCell (p:=⟨g+1+1,2,none⟩) (.inr (.inl rfl)) (.slice b2 n2 c2')
  have m4:=m3.setCell (p:=⟨g+1,0,none⟩) (.inr (.inr rfl)) (.slice a n c)
  have m5:=m4.setCell (p:=⟨g+1,1,none⟩) (.inr (.inr rfl)) (.int .i64 (i':Int))
  have m6:=m5.setCell (p:=⟨g+1,2,none⟩) (.inr (.inr rfl)) (.int .i64 fin)
  have m7:=m6.setCell (p:=⟨g+1,3,none⟩) (.inr (.inr rfl)) (.int .i64 bad)
  rw[hw3]
  exact m7
 clear hw3
 have r0:=zac hT3 Hq0.out (by omega)
 have hno3:No2 w2 (fun z=>z=g+1+1∨z=g+1):=by
  rintro z (rfl | rfl)
  ·exact zaq Hq2.out (by decide) (by decide)
  exact zaq Hq1.out (by decide) (by decide)
 have hbw3:Below w.heap.size w w3:=Hbw2.out.trans (hT3.below Hbw2.out.size (by rintro k (rfl | rfl) <;> omega))
 obtain⟨w4,hw4⟩ : ∃ W,W=((w3.setCell ⟨g,0,none⟩ (.string ⟨#[]⟩)).setCell ⟨g,1,none⟩ (.slice none 0 0)).setCell ⟨g,2,none⟩ (.slice none 0 0):=⟨_,rfl⟩
 rw[← hw4]
 have hT4:Frm (fun z=>z=g) w3 w4:=by rw[hw4];exact zaa (zaa (zaa (Frm.refl _ _) 0 _) 1 _) 2 _
 have r4:zai g (.string ⟨#[]⟩) (.slice none 0 0) (.slice none 0 0) w4:=by
  have k0:=heap_setCell_same _ g 0 _ _ (.string ⟨#[]⟩) r0
  have k1:=heap_setCell_same _ g 1 _ _ (.slice none 0 0) k0
  have k2:=heap_setCell_same _ g 2 _ _ (.slice none 0 0) k1
  rw[hw4]
  exact k2
 clear hw4
 have hno4:No2 w3 (fun z=>z=g):=by
  rintro z rfl
  exact zaq r0 (by decide) (by decide)
 have hbw4:Below w.heap.size w w4.drew:=Below.drew (hbw3.trans (hT4.below hbw3.size (by rintro k rfl;omega)))
 have r4d:zai g (.string ⟨#[]⟩) (.slice none 0 0) (.slice none 0 0) w4.drew:=r4
 have hT4d:=hT4.drew
 generalize w4.drew=w5 at hbw4 r4d hT4d ⊢
 refine bodyPost_ret (zbe (g:=g) rfl rfl rfl rfl r4d Tryz.underlying51 rfl (by kernel_rfl)) rfl ?_
 rcases Hfin.out with⟨_,_,h,_⟩ | ⟨j,hj,hjc⟩
 ·exact absurd h Hbad.out
 exact⟨.inr ⟨j,hj,by rw[← hjc];rfl⟩,hbw4⟩
end
end Go.Proofs.YteailgjiifdgcaaGreatDoor
