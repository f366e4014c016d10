/- Walks and plain facts. Texts merged: RqR, RqS. Condition: none beyond what each says. -/
import Derived.Test.YteailgjiifdgcaaGreatDoorRequestParsesAll10
set_option linter.unusedVariables false
set_option linter.unusedSimpArgs false
set_option maxRecDepth 10000
set_option maxHeartbeats 4000000
namespace Go.Proofs.YteailgjiifdgcaaGreatDoor
section
open Go.Shelf Go.RowKit Go.Lib VerN VarM
open LexM (Wd)
attribute [local go_sem ↓] Go.wp_at_zero Go.wp_at_succ
def Fin06 (a:Option Addr) (n c:Nat) (fin:Int) (ws:List Wd) (i:Nat) (nm:ByteArray) (L:List BSp) (W:World) (e:Ending) (w':World):Prop :=
 ∃ b m d i' bad,e = .returned (.tuple #[.slice b m d,pv a n c i' fin bad])∧((∃ l,zbb ws i=(some (nm,L,l),i')∧bad=0∧zbj w' (.slice b m d) l)∨(∃ j,zbb ws i=(none,j)∧bad=zb2 ws fin j))∧Below W.heap.size W w'
def Wish06 (a:Option Addr) (n c:Nat) (fin:Int) (ws:List Wd) (i:Nat) (w:World) (e:Ending) (w':World):Prop :=
 ∃ x b1 n1 c1 b2 n2 c2 i' bad,e = .returned (.tuple #[.agg #[.string x,.slice b1 n1 c1,.slice b2 n2 c2],pv a n c i' fin bad])∧((∃ s,zbb ws i=(some s,i')∧bad=0∧x=s.1∧zdk w' (.slice b1 n1 c1) s.2.1∧zbj w' (.slice b2 n2 c2) s.2.2)∨(∃ j,zbb ws i=(none,j)∧bad=zb2 ws fin j))∧Below w.heap.size w w'
theorem zdq {P:Program} {fn:Func} {p q:Tmp} {ty tz t1 t2:TypeId} (h:fn.results=#[.cell p ty,.cell q tz]) {tmps:Array Value} {w:World} {g k:Nat} {cs ds:Array Value} {d1 d2:TypeDesc}
  (hp:tmps.getD p undef = .pointer (some ⟨g,0,none⟩)) (hq:tmps.getD q undef = .pointer (some ⟨k,0,none⟩)) (hg:w.heap[g]? = some (.cells cs t1 (0,0))) (hk:w.heap[k]? = some (.cells ds t2 (0,0)))
  (hu:P.underlying ty=some d1) (hd:(match d1 with | .struct _ | .array _ _=>true | _=>false)=true) (hi:(P.info? ty).map (·.size)=some cs.size)
  (hu2:P.underlying tz=some d2) (hd2:(match d2 with | .struct _ | .array _ _=>true | _=>false)=true) (hi2:(P.info? tz).map (·.size)=some ds.size) :
  (results fn tmps).run P w = .ok (.tuple #[.agg cs,.agg ds]) w:=by
 have hl:=run_loadVar_row w g t1 ty cs (0,0) d1 hg hu hd hi
 have hl2:=run_loadVar_row w k t2 tz ds (0,0) d2 hk hu2 hd2 hi2
 have hp':tmps[p]?.getD undef = .pointer (some ⟨g,0,none⟩):=by simpa using hp
 have hq':tmps[q]?.getD undef = .pointer (some ⟨k,0,none⟩):=by simpa using hq
 simp only[results,h]
 simp[Sem.run_bind,Result.andThen,asAddr,hp',hq',hl,hl2]
theorem zgl {ws:List Wd} {i j:Nat} {s:ByteArray} {x:Spc3} (h:zbb ws i=(some x,j)) (hs:s=zbw ws i):ze2 s=true:=by
 subst hs
 cases hb:ze2 (zbw ws i) with
 | true=>rfl
 | false=>rw[zg9 hb] at h;cases h
theorem zjq:ze2 ⟨#[]⟩=false:=by
 have h:zbu (cutB 64 ⟨#[]⟩).1.data.toList=false:=by decide
 unfold ze2
 rw[h]
 rfl
theorem zm9 {w:World} {a:Option Addr} {n c:Nat} {ws:List Wd} (hw:RWds w [.slice a n c] ws) (hn1:n≤1000) (hz:∀ x∈ws,x.2.length≤70000) {fin:Int} (hcol:∀ j,zb2 ws fin j≠0) (i:Nat) {s nm:ByteArray} {L:List BSp} {b:Bool} (hs:s=zbw ws i) (hb:ze2 s=b) (hnm:nm=(cutB 64 s).1) (hL:L=zeo s) :
  ∀ W,Below w.heap.size w W→Calls Tryz.prog 138 #[pv a n c i fin 0,.bool b] W fun e w'=>(∃ i2 bad2,e = .returned (pv a n c i2 fin bad2)∧∀ W',Below w.heap.size w W'→Calls Tryz.prog 140 #[pv a n c i2 fin bad2] W' (Fin06 a n c fin ws i nm L W'))∧Below W.heap.size W w':=by
 intro W hW
 have hn:=(zen hw).1
 refine (zm6 (zaf zbg _ _ _ _ hw hW) hn1 i fin b).mono ?_
 rintro e w' ⟨⟨rfl,_,rfl⟩ | ⟨hbf,rfl⟩,hb2⟩
 ·obtain⟨y1,y2⟩:=zi0 (L:=L) (by rw[← hs];exact hb) hs hnm hL
  refine⟨⟨_,_,rfl,fun W' hW'=>(zj7 (zaf zbg _ _ _ _ hw hW') hn1 hz hcol (i+1)).mono ?_⟩,hb2⟩
  rintro e w9 ⟨b',m,d,i',bad,rfl,⟨l,h1,h2,h3⟩ | ⟨j,h1,h2⟩,hb9⟩
  ·exact⟨b',m,d,i',bad,rfl,.inl ⟨l,y1 _ _ h1,h2,h3⟩,hb9⟩
  exact⟨b',m,d,i',bad,rfl,.inr ⟨j,y2 _ h1,h2⟩,hb9⟩
 have hnn:ze2 (zbw ws i)=false:=by
  rcases hbf with h | h
  ·rw[← hs,hb,h]
  rw[zd9 (by omega),zjq]
 refine⟨⟨_,_,rfl,fun W' hW'=>(zj6 W' a n c i fin _ (hcol i)).mono ?_⟩,hb2⟩
 rintro e w9 ⟨⟨b',m,d,rfl⟩,hb9⟩
 exact⟨b',m,d,i,_,rfl,.inr ⟨i,zg9 hnn,rfl⟩,hb9⟩
theorem zq9 {w:World} {a:Option Addr} {n c:Nat} {ws:List Wd} (hw:RWds w [.slice a n c] ws) (hn1:n≤1000) (hz:∀ x∈ws,x.2.length≤70000) {fin:Int} (hcol:∀ j,zb2 ws fin j≠0) (i:Nat):Calls Tryz.prog 78 #[pv a n c i fin 0] w (Wish06 a n c fin ws i w):=by
 have hn:=(zen hw).1
 obtain⟨g,hg⟩ : ∃ g,g=w.heap.size:=⟨_,rfl⟩
 obtain⟨W0,hW0⟩ : ∃ W,W=((w.alloc (.cells #[.slice a n c,.int .i64 i,.int .i64 fin,.int .i64 0] 113)).alloc (.cells #[.string ⟨#[]⟩,.slice none 0 0,.slice none 0 0] 51)).alloc (.cells #[.slice none 0 0,.int .i64 0,.int .i64 0,.int .i64 0] 113):=⟨_,rfl⟩
 have hb0:Below w.heap.size w W0:=by rw[hW0];exact ((za2 _ _).alloc (by simp) _).alloc (by simp;omega) _
 have p0:PBox g a n c i fin 0 W0:=by rw[hW0,hg];exact za0 (za2 _ _) (za0 (za2 _ _) (za6 rfl))
 have p1:zan (g+1) (.string ⟨#[]⟩) (.slice none 0 0) (.slice none 0 0) W0:=by rw[hW0,hg];exact za0 (za2 _ _) (za6 (by simp))
 have p2:PBox (g+1+1) none 0 0 0 0 0 W0:=by rw[hW0,hg];exact za6 (by simp)
 have hwg:w.heap.size≤g:=Nat.le_of_eq hg.symm
 have hpk:∀ i,(zbw ws i).size≤70000:=fun i=>by
  by_cases h:i < ws.length
  ·rw[zex h]
   show (ws[i].2.toArray).size≤_
   rw[List.size_toArray]
   exact hz _ (List.getElem_mem h)
  rw[zd9 (by omega)]
  decide
 obtain⟨⟨c0,c1,c2,c3⟩,_⟩:=zac p0
 obtain⟨s,hs⟩ : ∃ s,s=zbw ws i:=⟨_,rfl⟩
 have hsz:s.size≤70000:=by rw[hs];exact hpk _
 have hW:=zm5 (zaf zbg _ _ _ _ hw hb0) i fin 0
 rw[← hs] at hW
 obtain⟨ix,hix⟩ : ∃ z,z=indexByte s.data.toList 64:=⟨_,rfl⟩
 have hA:=fun (W:World)=>zq2 s hsz 64 W
 rw[← hix,show ((64:UInt8).toNat:Int)=64 from rfl] at hA
 obtain⟨Hw,Hz,Hcol,Hn,Hb0,Hp0,Hp1,Hp2,Hpk,Hs,HW,HA⟩:=hd12 hw hz hcol hn hb0 p0 p1 p2 hpk hs hW hA;clear hw hz hcol hn hb0 p0 p1 p2 hpk hs hW hA
 go_enter Tryz.func78,Tryz.ntmps78
 go_upto_region 1 with (fail)
 rw[← hW0,← hg]
 clear hW0 hg
 go_wp2_with fail
 refine HW.out.mono ?_
 rintro e w2 ⟨rfl,hb2⟩
 have Hb2:=hd hb2;clear hb2
 go_wp2_with fail
 refine (all06_any _).mono ?_
 rintro e w3 ⟨rfl,hw3⟩
 have hb3:Below w2.heap.size w2 w3:=by rw[hw3];exact za2 _ _
 have hall:=zn3 w2
 rw[← hw3] at hall
 clear hw3
 obtain⟨va,hva⟩ : ∃ k:Option Addr,k=some ⟨w2.heap.size,0,none⟩:=⟨_,rfl⟩
 rw[← hva] at hall ⊢
 clear hva
 obtain⟨g5,hg5⟩ : ∃ z,z=w3.heap.size:=⟨_,rfl⟩
 obtain⟨w4,hw4⟩ : ∃ W,W=w3.alloc (.cells #[.string s,.slice va 1 1,.slice none 0 0] 51):=⟨_,rfl⟩
 have hb34:Below w3.heap.size w3 w4:=by rw[hw4];exact za2 _ _
 have hb24:=hb3.trans (hb34.mono hb3.size)
 have hb04:=Hb2.out.trans (hb24.mono Hb2.out.size)
 have q5:zan g5 (.string s) (.slice va 1 1) (.slice none 0 0) w4:=by rw[hw4,hg5];exact heap_alloc_new _ _
 have hg5l:g+2 < g5:=by
  have h1:=(Array.getElem?_eq_some_iff.1 (za0 (Hb2.out.trans (hb3.mono Hb2.out.size)) Hp2.out)).1
  omega
 have q0:=za0 hb04 Hp0.out
 have q1:=za0 hb04 Hp1.out
 have q2:=za0 hb04 Hp2.out
 have hall4:=zap hall hb34
 have hbw4:=Hb0.out.trans (hb04.mono Hb0.out.size)
 clear c0 c1 c2 c3
 obtain⟨Hb3,Hall,Hb34,Hb24,Hb04,Hq5,Hq0,Hq1,Hq2,Hall4,Hbw4⟩:=hd11 hb3 hall hb34 hb24 hb04 q5 q0 q1 q2 hall4 hbw4;clear hb3 hall hb34 hb24 hb04 q5 q0 q1 q2 hall4 hbw4
 go_upto_region 5 with (fail)
 rw[← hw4,← hg5]
 clear hw4 hg5
 go_wp2_with fail
 refine (HA.out _).mono ?_
 rintro e w5 ⟨rfl,hw5⟩
 subst hw5
 rcases zgo s.data.toList 64 with hneg | ⟨kk,hkk⟩
 ·obtain rfl:ix = -1:=by rw[hix,hneg]
  obtain⟨_,hcut1,hcut2⟩:=cutB_no hneg
  have hNmF:=fun (W:World)=>zei s (by omega) W
  obtain⟨b,hbn⟩ : ∃ b,b=zbu s.data.toList:=⟨_,rfl⟩
  rw[← hbn] at hNmF
  have hnb:ze2 s=b:=by unfold ze2;rw[hcut1,hcut2,← hbn];simp
  have hsb:allV=zeo s:=by unfold zeo;rw[hcut2];rfl
  have hNx:=zm9 Hw.out hn1 Hz.out Hcol.out i Hs.out hnb hcut1.symm hsb
  have hvL:=fun (_:ze2 s=true)=>Hall4.out
  obtain⟨Hneg,Hix,Hcut1,Hcut2,Hbn,Hnb,Hsb,HNx,HvL⟩:=hd9 hneg hix hcut1 hcut2 hbn hnb hsb hNx hvL;clear hneg hix hcut1 hcut2 hbn hnb hsb hNx hvL
  go_wp2_with fail
  have hbd:Below w5.heap.size w5 w5.drew:=Below.drew (Below.refl _ _)
  have hbWd:=Hbw4.out.trans (hbd.mono Hbw4.out.size)
  have hSd:w5.drew.cell? ⟨g5,0,none⟩=some (.string s):=(zag Hq5.out).1
  have hCd:=(zac (za0 hbd Hq0.out)).1
  obtain⟨HSd,HCd⟩:=hd2 hSd hCd;clear hSd hCd
  refine wp_region_held_drew (S:=fun w'=>w'.cell? ⟨g5,0,none⟩=some (.string s)) (by kernel_rfl) (by exact HSd.out) (fun hHeld=>?_)
  refine wpAnyH_take (i:=1) (v:=?_) rfl (by kernel_rfl) (by kernel_rfl) (by kernel_rfl) (fun _ _ _ h=>h) (Or.inl ⟨by kernel_rfl,?_⟩) (by assumption) ?_
  rotate_left
  ·(intro w hSw;(try dsimp only at hSw);go_simp;try with_reducible rfl)
  try simp only[Act.put,lA,lB,lC]
  refine wpAnyH_take (i:=2) (v:=?_) rfl (by kernel_rfl) (by kernel_rfl) (by kernel_rfl) (fun _ _ _ h=>h) (Or.inl ⟨by kernel_rfl,?_⟩) (by assumption) ?_
  rotate_left
  ·(intro w hSw;(try dsimp only at hSw);go_simp;try with_reducible rfl)
  try simp only[Act.put,lA,lB,lC]
  refine wpAnyH_take (i:=3) (v:=?_) rfl (by kernel_rfl) (by kernel_rfl) (by kernel_rfl) (fun _ _ _ h=>h) (Or.inl ⟨by kernel_rfl,?_⟩) (by assumption) ?_
  rotate_left
  ·(intro w hSw;(try dsimp only at hSw);go_simp;try with_reducible rfl)
  try simp only[Act.put,lA,lB,lC]
  refine wpAnyH_take (i:=4) (v:=?_) rfl (by kernel_rfl) (by kernel_rfl) (by kernel_rfl) (fun _ _ _ h=>h) (Or.inl ⟨by kernel_rfl,?_⟩) (by assumption) ?_
  rotate_left
  ·(intro w hSw;(try dsimp only at hSw);go_simp;try with_reducible rfl)
  try simp only[Act.put,lA,lB,lC]
  refine wpAnyH_ready (rs:=[0,5]) (by kernel_rfl) (by simp) ?_
  refine AllReadyH.cons rfl (fun K hK=>?_) (AllReadyH.cons rfl (fun K hK=>?_) AllReadyH.nil)
  ·obtain⟨c0',c1',c2',c3'⟩:=HCd.out
   go_simp
   refine hK.out _ _ (by exact HSd.out) (fun hHeld=>?_)
   clear hK K
   try simp only[Act.put,lA,lB,lC]
   clear c0' c1' c2' c3'
   refine wpAnyH_ready (rs:=[5]) (by kernel_rfl) (by simp) ?_
   refine AllReadyH.cons rfl (fun K hK=>?_) AllReadyH.nil
   go_simp
   refine (hNmF _).mono ?_
   rintro e wn ⟨rfl,hwn⟩
   subst hwn
   go_wp2_with fail
   refine hK.out _ _ (by exact HSd.out) (fun hHeld=>?_)
   clear hK K
   try simp only[Act.put,lA,lB,lC]
   refine wpAnyH_take (i:=6) (v:=?_) rfl (by kernel_rfl) (by kernel_rfl) (by kernel_rfl) (fun _ _ _ h=>h) (Or.inl ⟨by kernel_rfl,?_⟩) (by assumption) ?_
   rotate_left
   ·(intro w hSw;(try dsimp only at hSw);go_simp;try with_reducible rfl)
   try simp only[Act.put,lA,lB,lC]
   refine wpAnyH_ready (rs:=[7]) (by kernel_rfl) (by simp) ?_
   refine AllReadyH.cons rfl (fun K hK=>?_) AllReadyH.nil
   go_simp
   refine (HNx.out _ hbWd).mono ?_
   rintro e wz ⟨⟨i2,bad2,rfl,hSe⟩,hbz⟩
   have hbWz:=hbd.trans (hbz.mono hbd.size)
   have hbwz:=Hbw4.out.trans (hbWz.mono Hbw4.out.size)
   have z0:=za0 hbWz Hq0.out
   have z1:=za0 hbWz Hq1.out
   have z2:=za0 hbWz Hq2.out
   have z5:=za0 hbWz Hq5.out
   have zL:=fun h=>zap (HvL.out h) hbWz
   obtain⟨_,fy0,fy1,fy2,fy3⟩:=zac z0
   have y5e:=za3 (b:=g) (i:=3) (u:=.int .i64 bad2) (za3 (b:=g) (i:=2) (u:=.int .i64 fin) (za3 (b:=g) (i:=1) (u:=.int .i64 i2) (za3 (b:=g) (i:=0) (u:=.slice a n c) z5 (by omega)) (by omega)) (by omega)) (by omega)
   have hSz:wz.cell? ⟨g5,0,none⟩=some (.string s):=(zag z5).1
   have hSP:=(zag y5e).1
   obtain⟨HSe,Hbz,HbWz,Hbwz,Hz0,Hz1,Hz2,Hz5,HzL,Hy5e,HSz,HSP⟩:=hd12 hSe hbz hbWz hbwz z0 z1 z2 z5 zL y5e hSz hSP;clear hSe hbz hbWz hbwz z0 z1 z2 z5 zL y5e hSz hSP
   go_wp2_with fail
   refine hK.out _ _ (by exact HSz.out) (fun hHeld=>?_)
   clear hK K
   try simp only[Act.put,lA,lB,lC]
   refine wpAnyH_ready (rs:=[8]) (by kernel_rfl) (by simp) ?_
   refine AllReadyH.cons rfl (fun K hK=>?_) AllReadyH.nil
   go_simp
   refine hK.out _ _ (by exact HSP.out) (fun hHeld=>?_)
   clear hK K
   try simp only[Act.put,lA,lB,lC]
   refine wpAnyH_done (by kernel_rfl) ?_ _
   go_simp
   obtain⟨wP,hwP⟩ : ∃ W,W=(((wz.setCell ⟨g,0,none⟩ (.slice a n c)).setCell ⟨g,1,none⟩ (.int .i64 i2)).setCell ⟨g,2,none⟩ (.int .i64 fin)).setCell ⟨g,3,none⟩ (.int .i64 bad2):=⟨_,rfl⟩
   have hTP:Frm (fun z=>z=g) wz wP:=by rw[hwP];exact za9 (za9 (za9 (za9 (Frm.refl _ _) 0 _) 1 _) 2 _) 3 _
   have y0:PBox g a n c i2 fin bad2 wP:=by rw[hwP];exact pset Hz0.out
   have y1:=zas hTP Hz1.out (by omega)
   have y2:=zas hTP Hz2.out (by omega)
   have y5:=zas hTP Hz5.out (by omega)
   have hnoP:No2 wz (fun z=>z=g):=by
    rintro z rfl
    exact zau Hz0.out (by decide) (by decide)
   have yL:=fun h=>zaq (HzL.out h) hTP hnoP
   have hbwP:Below w.heap.size w wP:=Hbwz.out.trans (hTP.below Hbwz.out.size (by rintro k rfl;exact hwg))
   have hSe2:=HSe.out wP hbwP
   obtain⟨⟨d0,d1,d2,d3⟩,_⟩:=zac y0
   rw[← hwP]
   clear hwP
   obtain⟨HTP,Hy0,Hy1,Hy2,Hy5,HnoP,HyL,HbwP,HSe2⟩:=hd9 hTP y0 y1 y2 y5 hnoP yL hbwP hSe2;clear hTP y0 y1 y2 y5 hnoP yL hbwP hSe2
   go_wp2_with fail
   refine HSe2.out.mono ?_
   rintro e wq ⟨sb,sm,sd,i',bad',rfl,hfin,hbq⟩
   obtain⟨wr,hwr⟩ : ∃ W,W=wq.alloc (.cells #[.slice a n c,.int .i64 i',.int .i64 fin,.int .i64 bad'] 113):=⟨_,rfl⟩
   have hbqr:Below wq.heap.size wq wr:=by rw[hwr];exact za2 _ _
   have hbpr:=hbq.trans (hbqr.mono hbq.size)
   obtain⟨h11,hh11⟩ : ∃ z,z=wq.heap.size:=⟨_,rfl⟩
   have t11:PBox h11 a n c i' fin bad' wr:=by rw[hwr,hh11];exact heap_alloc_new _ _
   have x5:=za0 hbpr Hy5.out
   have x1:=za0 hbpr Hy1.out
   have x2:=za0 hbpr Hy2.out
   obtain⟨ux0,ux1,ux2,uf0,uf1,uf2⟩:=zag x5
   obtain⟨_,_,_,vf0,vf1,vf2⟩:=zag x1
   obtain⟨_,wf0,wf1,wf2,wf3⟩:=zac x2
   obtain⟨⟨tx0,tx1,tx2,tx3⟩,_⟩:=zac t11
   have hsz9:g5 < h11:=by rw[hh11];exact (Array.getElem?_eq_some_iff.1 (za0 hbq Hy5.out)).1
   have hd1:¬ h11=g5:=by omega
   have hd2:¬ g5=h11:=by omega
   have hd3:¬ h11=g+1:=by omega
   have hd4:¬ h11=g+1+1:=by omega
   have hd5:¬ g5=g+1:=by omega
   have hd6:¬ g5=g+1+1:=by omega
   have hbw:Below w.heap.size w wr:=HbwP.out.trans (hbpr.mono HbwP.out.size)
   have hL:=fun h=>zap (HyL.out h) hbpr
   have hfin2:(∃ l,zbb ws i=(some (s,allV,l),i')∧bad'=0∧zbj wr (.slice sb sm sd) l)∨(∃ j,zbb ws i=(none,j)∧bad'=zb2 ws fin j):=hfin.imp (fun⟨l,h1,h2,h3⟩=>⟨l,h1,h2,zaz h3 hbqr⟩) id
   obtain⟨Hfin,Hbq,Hbqr,Hbpr,Ht11,Hx5,Hx1,Hx2,Hbw,HL,Hfin2⟩:=hd11 hfin hbq hbqr hbpr t11 x5 x1 x2 hbw hL hfin2;clear hfin hbq hbqr hbpr t11 x5 x1 x2 hbw hL hfin2
   go_upto_region 14 with (fail)
   rw[← hwr,← hh11]
   clear hwr hh11
   go_wp2_with fail
   go_region
   go_wp2_with fail
   obtain⟨wS,hwS⟩ : ∃ W,W=wr.setCell ⟨g5,2,none⟩ (.slice sb sm sd):=⟨_,rfl⟩
   have s1:zan (g+1) (.string ⟨#[]⟩) (.slice none 0 0) (.slice none 0 0) wS:=by rw[hwS];exact za3 Hx1.out (by omega)
   have s2:PBox (g+1+1) none 0 0 0 0 0 wS:=by rw[hwS];exact za3 Hx2.out (by omega)
   rw[← hwS]
   obtain⟨wT,hwT⟩ : ∃ W,W=((((((wS.setCell ⟨g+1,0,none⟩ (.string s)).setCell ⟨g+1,1,none⟩ (.slice va 1 1)).setCell ⟨g+1,2,none⟩ (.slice sb sm sd)).setCell ⟨g+1+1,0,none⟩ (.slice a n c)).setCell ⟨g+1+1,1,none⟩ (.int .i64 i')).setCell ⟨g+1+1,2,none⟩ (.int .i64 fin)).setCell ⟨g+1+1,3,none⟩ (.int .i64 bad'):=⟨_,rfl⟩
   rw[← hwT]
   have r1:zan (g+1) (.string s) (.slice va 1 1) (.slice sb sm sd) wT:=by
    have k0:=heap_setCell_same wS (g+1) 0 _ _ (.string s) s1
    have k1:=heap_setCell_same _ (g+1) 1 _ _ (.slice va 1 1) k0
    have k2:=heap_setCell_same _ (g+1) 2 _ _ (.slice sb sm sd) k1
    have k3:=za3 (b:=g+1+1) (i:=0) (u:=.slice a n c) k2 (by omega)
    have k4:=za3 (b:=g+1+1) (i:=1) (u:=.int .i64 (i':Int)) k3 (by omega)
    have k5:=za3 (b:=g+1+1) (i:=2) (u:=.int .i64 fin) k4 (by omega)
    have k6:=za3 (b:=g+1+1) (i:=3) (u:=.int .i64 bad') k5 (by omega)
    rw[hwT]
    exact k6
   have r2:PBox (g+1+1) a n c i' fin bad' wT:=by
    have k0:=za3 (b:=g+1) (i:=0) (u:=.string s) s2 (by omega)
    have k1:=za3 (b:=g+1) (i:=1) (u:=(.slice va 1 1)) k0 (by omega)
    have k2:=za3 (b:=g+1) (i:=2) (u:=.slice sb sm sd) k1 (by omega)
    rw[hwT]
    exact pset k2
   have hT:Frm (fun z=>z=g5∨z=g+1∨z=g+1+1) wr wT:=by
    have m0:Frm (fun z=>z=g5∨z=g+1∨z=g+1+1) wr wS:=by rw[hwS];exact (Frm.refl _ wr).setCell (p:=⟨g5,2,none⟩) (.inr (.inl rfl)) _
    have m1:=m0.setCell (p:=⟨g+1,0,none⟩) (.inr (.inr (.inl rfl))) (.string s)
    have m2:=m1.setCell (p:=⟨g+1,1,none⟩) (.inr (.inr (.inl rfl))) (.slice va 1 1)
    have m3:=m2.setCell (p:=⟨g+1,2,none⟩) (.inr (.inr (.inl rfl))) (.slice sb sm sd)
    have m4:=m3.setCell (p:=⟨g+1+1,0,none⟩) (.inr (.inr (.inr rfl))) (.slice a n c)
    have m5:=m4.setCell (p:=⟨g+1+1,1,none⟩) (.inr (.inr (.inr rfl))) (.int .i64 (i':Int))
    have m6:=m5.setCell (p:=⟨g+1+1,2,none⟩) (.inr (.inr (.inr rfl))) (.int .i64 fin)
    have m7:=m6.setCell (p:=⟨g+1+1,3,none⟩) (.inr (.inr (.inr rfl))) (.int .i64 bad')
    rw[hwT]
    exact m7
   clear hwT hwS
   have hno:No2 wr (fun z=>z=g5∨z=g+1∨z=g+1+1):=by
    rintro z (rfl | rfl | rfl)
    ·exact zau Hx5.out (by decide) (by decide)
    ·exact zau Hx1.out (by decide) (by decide)
    exact zau Hx2.out (by decide) (by decide)
   have hbT:Below w.heap.size w wT.drew:=Below.drew (Hbw.out.trans (hT.below Hbw.out.size (by rintro k (rfl | rfl | rfl) <;> omega)))
   have hTd:Frm (fun z=>z=g5∨z=g+1∨z=g+1+1) wr wT.drew:=hT.drew
   have r1d:zan (g+1) (.string s) (.slice va 1 1) (.slice sb sm sd) wT.drew:=r1
   have r2d:PBox (g+1+1) a n c i' fin bad' wT.drew:=r2
   generalize wT.drew=wU at hbT hTd r1d r2d ⊢
   clear r1 r2 hT
   refine bodyPost_ret (zdq (g:=g+1) (k:=g+1+1) rfl rfl rfl r1d r2d Tryz.underlying51 rfl (by kernel_rfl) Tryz.underlying113 rfl (by kernel_rfl)) rfl ?_
   have hend:(∃ sp:Spc3,zbb ws i=(some sp,i')∧bad'=0∧s=sp.1∧zdk wU (.slice va 1 1) sp.2.1∧zbj wU (.slice sb sm sd) sp.2.2)∨(∃ j,zbb ws i=(none,j)∧bad'=zb2 ws fin j):=by
    rcases Hfin2.out with⟨l,h1,h2,h3⟩ | h
    ·exact .inl ⟨_,h1,h2,rfl,zaq (HL.out (zgl h1 Hs.out)) hTd hno,zat h3 hTd hno⟩
    exact .inr h
   exact⟨s,va,1,1,sb,sm,sd,i',bad',rfl,hend,hbT⟩
  go_simp
  refine (hNmF _).mono ?_
  rintro e wn ⟨rfl,hwn⟩
  subst hwn
  go_wp2_with fail
  refine hK.out _ _ (by exact HSd.out) (fun hHeld=>?_)
  clear hK K
  try simp only[Act.put,lA,lB,lC]
  refine wpAnyH_take (i:=6) (v:=?_) rfl (by kernel_rfl) (by kernel_rfl) (by kernel_rfl) (fun _ _ _ h=>h) (Or.inl ⟨by kernel_rfl,?_⟩) (by assumption) ?_
  rotate_left
  ·(intro w hSw;(try dsimp only at hSw);go_simp;try with_reducible rfl)
  try simp only[Act.put,lA,lB,lC]
  refine wpAnyH_ready (rs:=[0]) (by kernel_rfl) (by simp) ?_
  refine AllReadyH.cons rfl (fun K hK=>?_) AllReadyH.nil
  obtain⟨c0',c1',c2',c3'⟩:=HCd.out
  go_simp
  refine hK.out _ _ (by exact HSd.out) (fun hHeld=>?_)
  clear hK K
  try simp only[Act.put,lA,lB,lC]
  clear c0' c1' c2' c3'
  refine wpAnyH_ready (rs:=[7]) (by kernel_rfl) (by simp) ?_
  refine AllReadyH.cons rfl (fun K hK=>?_) AllReadyH.nil
  go_simp
  refine (HNx.out _ hbWd).mono ?_
  rintro e wz ⟨⟨i2,bad2,rfl,hSe⟩,hbz⟩
  have hbWz:=hbd.trans (hbz.mono hbd.size)
  have hbwz:=Hbw4.out.trans (hbWz.mono Hbw4.out.size)
  have z0:=za0 hbWz Hq0.out
  have z1:=za0 hbWz Hq1.out
  have z2:=za0 hbWz Hq2.out
  have z5:=za0 hbWz Hq5.out
  have zL:=fun h=>zap (HvL.out h) hbWz
  obtain⟨_,fy0,fy1,fy2,fy3⟩:=zac z0
  have y5e:=za3 (b:=g) (i:=3) (u:=.int .i64 bad2) (za3 (b:=g) (i:=2) (u:=.int .i64 fin) (za3 (b:=g) (i:=1) (u:=.int .i64 i2) (za3 (b:=g) (i:=0) (u:=.slice a n c) z5 (by omega)) (by omega)) (by omega)) (by omega)
  have hSz:wz.cell? ⟨g5,0,none⟩=some (.string s):=(zag z5).1
  have hSP:=(zag y5e).1
  obtain⟨HSe,Hbz,HbWz,Hbwz,Hz0,Hz1,Hz2,Hz5,HzL,Hy5e,HSz,HSP⟩:=hd12 hSe hbz hbWz hbwz z0 z1 z2 z5 zL y5e hSz hSP;clear hSe hbz hbWz hbwz z0 z1 z2 z5 zL y5e hSz hSP
  go_wp2_with fail
  refine hK.out _ _ (by exact HSz.out) (fun hHeld=>?_)
  clear hK K
  try simp only[Act.put,lA,lB,lC]
  refine wpAnyH_ready (rs:=[8]) (by kernel_rfl) (by simp) ?_
  refine AllReadyH.cons rfl (fun K hK=>?_) AllReadyH.nil
  go_simp
  refine hK.out _ _ (by exact HSP.out) (fun hHeld=>?_)
  clear hK K
  try simp only[Act.put,lA,lB,lC]
  refine wpAnyH_done (by kernel_rfl) ?_ _
  go_simp
  obtain⟨wP,hwP⟩ : ∃ W,W=(((wz.setCell ⟨g,0,none⟩ (.slice a n c)).setCell ⟨g,1,none⟩ (.int .i64 i2)).setCell ⟨g,2,none⟩ (.int .i64 fin)).setCell ⟨g,3,none⟩ (.int .i64 bad2):=⟨_,rfl⟩
  have hTP:Frm (fun z=>z=g) wz wP:=by rw[hwP];exact za9 (za9 (za9 (za9 (Frm.refl _ _) 0 _) 1 _) 2 _) 3 _
  have y0:PBox g a n c i2 fin bad2 wP:=by rw[hwP];exact pset Hz0.out
  have y1:=zas hTP Hz1.out (by omega)
  have y2:=zas hTP Hz2.out (by omega)
  have y5:=zas hTP Hz5.out (by omega)
  have hnoP:No2 wz (fun z=>z=g):=by
   rintro z rfl
   exact zau Hz0.out (by decide) (by decide)
  have yL:=fun h=>zaq (HzL.out h) hTP hnoP
  have hbwP:Below w.heap.size w wP:=Hbwz.out.trans (hTP.below Hbwz.out.size (by rintro k rfl;exact hwg))
  have hSe2:=HSe.out wP hbwP
  obtain⟨⟨d0,d1,d2,d3⟩,_⟩:=zac y0
  rw[← hwP]
  clear hwP
  obtain⟨HTP,Hy0,Hy1,Hy2,Hy5,HnoP,HyL,HbwP,HSe2⟩:=hd9 hTP y0 y1 y2 y5 hnoP yL hbwP hSe2;clear hTP y0 y1 y2 y5 hnoP yL hbwP hSe2
  go_wp2_with fail
  refine HSe2.out.mono ?_
  rintro e wq ⟨sb,sm,sd,i',bad',rfl,hfin,hbq⟩
  obtain⟨wr,hwr⟩ : ∃ W,W=wq.alloc (.cells #[.slice a n c,.int .i64 i',.int .i64 fin,.int .i64 bad'] 113):=⟨_,rfl⟩
  have hbqr:Below wq.heap.size wq wr:=by rw[hwr];exact za2 _ _
  have hbpr:=hbq.trans (hbqr.mono hbq.size)
  obtain⟨h11,hh11⟩ : ∃ z,z=wq.heap.size:=⟨_,rfl⟩
  have t11:PBox h11 a n c i' fin bad' wr:=by rw[hwr,hh11];exact heap_alloc_new _ _
  have x5:=za0 hbpr Hy5.out
  have x1:=za0 hbpr Hy1.out
  have x2:=za0 hbpr Hy2.out
  obtain⟨ux0,ux1,ux2,uf0,uf1,uf2⟩:=zag x5
  obtain⟨_,_,_,vf0,vf1,vf2⟩:=zag x1
  obtain⟨_,wf0,wf1,wf2,wf3⟩:=zac x2
  obtain⟨⟨tx0,tx1,tx2,tx3⟩,_⟩:=zac t11
  have hsz9:g5 < h11:=by rw[hh11];exact (Array.getElem?_eq_some_iff.1 (za0 hbq Hy5.out)).1
  have hd1:¬ h11=g5:=by omega
  have hd2:¬ g5=h11:=by omega
  have hd3:¬ h11=g+1:=by omega
  have hd4:¬ h11=g+1+1:=by omega
  have hd5:¬ g5=g+1:=by omega
  have hd6:¬ g5=g+1+1:=by omega
  have hbw:Below w.heap.size w wr:=HbwP.out.trans (hbpr.mono HbwP.out.size)
  have hL:=fun h=>zap (HyL.out h) hbpr
  have hfin2:(∃ l,zbb ws i=(some (s,allV,l),i')∧bad'=0∧zbj wr (.slice sb sm sd) l)∨(∃ j,zbb ws i=(none,j)∧bad'=zb2 ws fin j):=hfin.imp (fun⟨l,h1,h2,h3⟩=>⟨l,h1,h2,zaz h3 hbqr⟩) id
  obtain⟨Hfin,Hbq,Hbqr,Hbpr,Ht11,Hx5,Hx1,Hx2,Hbw,HL,Hfin2⟩:=hd11 hfin hbq hbqr hbpr t11 x5 x1 x2 hbw hL hfin2;clear hfin hbq hbqr hbpr t11 x5 x1 x2 hbw hL hfin2
  go_upto_region 14 with (fail)
  rw[← hwr,← hh11]
  clear hwr hh11
  go_wp2_with fail
  go_region
  go_wp2_with fail
  obtain⟨wS,hwS⟩ : ∃ W,W=wr.setCell ⟨g5,2,none⟩ (.slice sb sm sd):=⟨_,rfl⟩
  have s1:zan (g+1) (.string ⟨#[]⟩) (.slice none 0 0) (.slice none 0 0) wS:=by rw[hwS];exact za3 Hx1.out (by omega)
  have s2:PBox (g+1+1) none 0 0 0 0 0 wS:=by rw[hwS];exact za3 Hx2.out (by omega)
  rw[← hwS]
  obtain⟨wT,hwT⟩ : ∃ W,W=((((((wS.setCell ⟨g+1,0,none⟩ (.string s)).setCell ⟨g+1,1,none⟩ (.slice va 1 1)).setCell ⟨g+1,2,none⟩ (.slice sb sm sd)).setCell ⟨g+1+1,0,none⟩ (.slice a n c)).setCell ⟨g+1+1,1,none⟩ (.int .i64 i')).setCell ⟨g+1+1,2,none⟩ (.int .i64 fin)).setCell ⟨g+1+1,3,none⟩ (.int .i64 bad'):=⟨_,rfl⟩
  rw[← hwT]
  have r1:zan (g+1) (.string s) (.slice va 1 1) (.slice sb sm sd) wT:=by
   have k0:=heap_setCell_same wS (g+1) 0 _ _ (.string s) s1
   have k1:=heap_setCell_same _ (g+1) 1 _ _ (.slice va 1 1) k0
   have k2:=heap_setCell_same _ (g+1) 2 _ _ (.slice sb sm sd) k1
   have k3:=za3 (b:=g+1+1) (i:=0) (u:=.slice a n c) k2 (by omega)
   have k4:=za3 (b:=g+1+1) (i:=1) (u:=.int .i64 (i':Int)) k3 (by omega)
   have k5:=za3 (b:=g+1+1) (i:=2) (u:=.int .i64 fin) k4 (by omega)
   have k6:=za3 (b:=g+1+1) (i:=3) (u:=.int .i64 bad') k5 (by omega)
   rw[hwT]
   exact k6
  have r2:PBox (g+1+1) a n c i' fin bad' wT:=by
   have k0:=za3 (b:=g+1) (i:=0) (u:=.string s) s2 (by omega)
   have k1:=za3 (b:=g+1) (i:=1) (u:=(.slice va 1 1)) k0 (by omega)
   have k2:=za3 (b:=g+1) (i:=2) (u:=.slice sb sm sd) k1 (by omega)
   rw[hwT]
   exact pset k2
  have hT:Frm (fun z=>z=g5∨z=g+1∨z=g+1+1) wr wT:=by
   have m0:Frm (fun z=>z=g5∨z=g+1∨z=g+1+1) wr wS:=by rw[hwS];exact (Frm.refl _ wr).setCell (p:=⟨g5,2,none⟩) (.inr (.inl rfl)) _
   have m1:=m0.setCell (p:=⟨g+1,0,none⟩) (.inr (.inr (.inl rfl))) (.string s)
   have m2:=m1.setCell (p:=⟨g+1,1,none⟩) (.inr (.inr (.inl rfl))) (.slice va 1 1)
   have m3:=m2.setCell (p:=⟨g+1,2,none⟩) (.inr (.inr (.inl rfl))) (.slice sb sm sd)
   have m4:=m3.setCell (p:=⟨g+1+1,0,none⟩) (.inr (.inr (.inr rfl))) (.slice a n c)
   have m5:=m4.setCell (p:=⟨g+1+1,1,none⟩) (.inr (.inr (.inr rfl))) (.int .i64 (i':Int))
   have m6:=m5.setCell (p:=⟨g+1+1,2,none⟩) (.inr (.inr (.inr rfl))) (.int .i64 fin)
   have m7:=m6.setCell (p:=⟨g+1+1,3,none⟩) (.inr (.inr (.inr rfl))) (.int .i64 bad')
   rw[hwT]
   exact m7
  clear hwT hwS
  have hno:No2 wr (fun z=>z=g5∨z=g+1∨z=g+1+1):=by
   rintro z (rfl | rfl | rfl)
   ·exact zau Hx5.out (by decide) (by decide)
   ·exact zau Hx1.out (by decide) (by decide)
   exact zau Hx2.out (by decide) (by decide)
  have hbT:Below w.heap.size w wT.drew:=Below.drew (Hbw.out.trans (hT.below Hbw.out.size (by rintro k (rfl | rfl | rfl) <;> omega)))
  have hTd:Frm (fun z=>z=g5∨z=g+1∨z=g+1+1) wr wT.drew:=hT.drew
  have r1d:zan (g+1) (.string s) (.slice va 1 1) (.slice sb sm sd) wT.drew:=r1
  have r2d:PBox (g+1+1) a n c i' fin bad' wT.drew:=r2
  generalize wT.drew=wU at hbT hTd r1d r2d ⊢
  clear r1 r2 hT
  refine bodyPost_ret (zdq (g:=g+1) (k:=g+1+1) rfl rfl rfl r1d r2d Tryz.underlying51 rfl (by kernel_rfl) Tryz.underlying113 rfl (by kernel_rfl)) rfl ?_
  have hend:(∃ sp:Spc3,zbb ws i=(some sp,i')∧bad'=0∧s=sp.1∧zdk wU (.slice va 1 1) sp.2.1∧zbj wU (.slice sb sm sd) sp.2.2)∨(∃ j,zbb ws i=(none,j)∧bad'=zb2 ws fin j):=by
   rcases Hfin2.out with⟨l,h1,h2,h3⟩ | h
   ·exact .inl ⟨_,h1,h2,rfl,zaq (HL.out (zgl h1 Hs.out)) hTd hno,zat h3 hTd hno⟩
   exact .inr h
  exact⟨s,va,1,1,sb,sm,sd,i',bad',rfl,hend,hbT⟩
 obtain rfl:ix=kk:=by rw[hix,hkk]
 obtain⟨hyes,hcut,hks⟩:=zpt hkk
 obtain⟨k2,hk2⟩ : ∃ z,z=kk+1:=⟨_,rfl⟩
 rw[← hk2] at hcut
 obtain⟨nm,hnm⟩ : ∃ z,z=s.extract 0 kk:=⟨_,rfl⟩
 obtain⟨tl,htl⟩ : ∃ z,z=s.extract k2 s.size:=⟨_,rfl⟩
 rw[← hnm,← htl] at hcut
 have hsgz:nm.size≤70000∧tl.size≤70000:=by
  have:=zgq 64 s
  rw[hcut] at this
  have e1:nm.size≤s.size∧tl.size≤s.size:=this
  omega
 have k5:(0:Int)≤(kk:Int):=by omega
 have k6:(kk:Int)≤(s.size:Int):=by omega
 have k11:IntKind.i64.wrap ((kk:Int)+1)=(k2:Int):=by rw[hk2];exact IntWalk.i64_in _ (by omega)
 have k12:(0:Int)≤(k2:Int):=by omega
 have k13:(k2:Int)≤(s.size:Int):=by omega
 have k14:(kk:Int)+1=(k2:Int):=by omega
 have hNmF:=fun (W:World)=>zei nm (by omega) W
 obtain⟨nk,hnk⟩ : ∃ b,b=zbu nm.data.toList:=⟨_,rfl⟩
 rw[← hnk] at hNmF
 obtain⟨ok,hok⟩ : ∃ b,b=zfl tl:=⟨_,rfl⟩
 have hnb:ze2 s=(nk && ok):=by unfold ze2;rw[hcut,← hnk,← hok];simp
 have hsb:rdV tl=zeo s:=by unfold zeo;rw[hcut];rfl
 have hSet:=zqp tl (by omega) (w:=w5)
 unfold zl9 at hSet
 rw[← hok] at hSet
 have hcut1:nm=(cutB 64 s).1:=by rw[hcut]
 have hNxt:=fun (b:Bool) (h:ze2 s=b)=>zm9 Hw.out hn1 Hz.out Hcol.out i Hs.out h hcut1 hsb
 obtain⟨Hkk,Hix,Hyes,Hcut,Hcut1,Hk2,Hnk,Hok,Hnb,Hsb,HSet,HNxt⟩:=hd12 hkk hix hyes hcut hcut1 hk2 hnk hok hnb hsb hSet hNxt;clear hkk hix hyes hcut hcut1 hk2 hnk hok hnb hsb hSet hNxt
 go_wp2_with fail
 rw[← htl]
 clear htl
 refine HSet.out.mono ?_
 rintro e w6 ⟨a2,n2,c2,rfl,hrd,hb6⟩
 have s5:=za0 hb6 Hq5.out
 obtain⟨_,_,_,fz0,fz1,_⟩:=zag s5
 obtain⟨w7,hw7⟩ : ∃ W,W=(w6.setCell ⟨g5,0,none⟩ (.string nm)).setCell ⟨g5,1,none⟩ (.slice a2 n2 c2):=⟨_,rfl⟩
 have hT7:Frm (fun z=>z=g5) w6 w7:=by rw[hw7];exact za9 (za9 (Frm.refl _ _) 0 _) 1 _
 have r0:=zas hT7 (za0 hb6 Hq0.out) (by omega)
 have r1:=zas hT7 (za0 hb6 Hq1.out) (by omega)
 have r2:=zas hT7 (za0 hb6 Hq2.out) (by omega)
 have r5:zan g5 (.string nm) (.slice a2 n2 c2) (.slice none 0 0) w7:=by
  have k0:=heap_setCell_same _ g5 0 _ _ (.string nm) s5
  have k1:=heap_setCell_same _ g5 1 _ _ (.slice a2 n2 c2) k0
  rw[hw7]
  exact k1
 have hbw6:=Hbw4.out.trans (hb6.mono Hbw4.out.size)
 have hbw7:Below w.heap.size w w7:=hbw6.trans (hT7.below hbw6.size (by rintro k rfl;omega))
 have hvL:=fun (h:ze2 s=true)=>zaq (hrd (by rw[Hnb.out] at h;cases ok with | true=>rfl | false=>simp at h)) hT7 (by
  rintro z rfl
  exact zau s5 (by decide) (by decide))
 obtain⟨Hrd,Hb6,Hs5,HT7,Hr0,Hr1,Hr2,Hr5,Hbw6,Hbw7,HvL⟩:=hd11 hrd hb6 s5 hT7 r0 r1 r2 r5 hbw6 hbw7 hvL;clear hrd hb6 s5 hT7 r0 r1 r2 r5 hbw6 hbw7 hvL
 cases ok with
 | false =>
  have hNx:=HNxt.out false (by rw[Hnb.out];simp)
  have HNx:=hd hNx;clear hNx
  go_upto_region 12 with (fail)
  rw[← hnm,← hw7]
  clear hnm hw7
  have hbd:Below w7.heap.size w7 w7.drew:=Below.drew (Below.refl _ _)
  have hbWd:=Hbw7.out.trans (hbd.mono Hbw7.out.size)
  have hSd:w7.drew.cell? ⟨g5,0,none⟩=some (.string nm):=(zag Hr5.out).1
  have hCd:=(zac (za0 hbd Hr0.out)).1
  obtain⟨HSd,HCd⟩:=hd2 hSd hCd;clear hSd hCd
  refine wp_region_held_drew (S:=fun w'=>w'.cell? ⟨g5,0,none⟩=some (.string nm)) (by kernel_rfl) (by exact HSd.out) (fun hHeld=>?_)
  refine wpAnyH_take (i:=1) (v:=?_) rfl (by kernel_rfl) (by kernel_rfl) (by kernel_rfl) (fun _ _ _ h=>h) (Or.inl ⟨by kernel_rfl,?_⟩) (by assumption) ?_
  rotate_left
  ·(intro w hSw;(try dsimp only at hSw);go_simp;try with_reducible rfl)
  try simp only[Act.put,lA,lB,lC]
  refine wpAnyH_take (i:=2) (v:=?_) rfl (by kernel_rfl) (by kernel_rfl) (by kernel_rfl) (fun _ _ _ h=>h) (Or.inl ⟨by kernel_rfl,?_⟩) (by assumption) ?_
  rotate_left
  ·(intro w hSw;(try dsimp only at hSw);go_simp;try with_reducible rfl)
  try simp only[Act.put,lA,lB,lC]
  refine wpAnyH_take (i:=3) (v:=undef) rfl (by kernel_rfl) (by kernel_rfl) (by kernel_rfl) (fun _ _ _ h=>h) (Or.inr ⟨by kernel_rfl,rfl⟩) (by assumption) ?_
  simp only[Act.put,List.getElem_toArray,List.getElem_cons_succ,List.getElem_cons_zero,lA,lB,lC]
  refine wpAnyH_take (i:=4) (v:=undef) rfl (by kernel_rfl) (by kernel_rfl) (by kernel_rfl) (fun _ _ _ h=>h) (Or.inr ⟨by kernel_rfl,rfl⟩) (by assumption) ?_
  simp only[Act.put,List.getElem_toArray,List.getElem_cons_succ,List.getElem_cons_zero,lA,lB,lC]
  refine wpAnyH_take (i:=5) (v:=undef) rfl (by kernel_rfl) (by kernel_rfl) (by kernel_rfl) (fun _ _ _ h=>h) (Or.inr ⟨by kernel_rfl,rfl⟩) (by assumption) ?_
  simp only[Act.put,List.getElem_toArray,List.getElem_cons_succ,List.getElem_cons_zero,lA,lB,lC]
  refine wpAnyH_take (i:=6) (v:=?_) rfl (by kernel_rfl) (by kernel_rfl) (by kernel_rfl) (fun _ _ _ h=>h) (Or.inl ⟨by kernel_rfl,?_⟩) (by assumption) ?_
  rotate_left
  ·(intro w hSw;(try dsimp only at hSw);go_simp;try with_reducible rfl)
  try simp only[Act.put,lA,lB,lC]
  refine wpAnyH_ready (rs:=[0]) (by kernel_rfl) (by simp) ?_
  refine AllReadyH.cons rfl (fun K hK=>?_) AllReadyH.nil
  obtain⟨c0',c1',c2',c3'⟩:=HCd.out
  go_simp
  refine hK.out _ _ (by exact HSd.out) (fun hHeld=>?_)
  clear hK K
  try simp only[Act.put,lA,lB,lC]
  clear c0' c1' c2' c3'
  refine wpAnyH_ready (rs:=[7]) (by kernel_rfl) (by simp) ?_
  refine AllReadyH.cons rfl (fun K hK=>?_) AllReadyH.nil
  go_simp
  refine (HNx.out _ hbWd).mono ?_
  rintro e wz ⟨⟨i2,bad2,rfl,hSe⟩,hbz⟩
  have hbWz:=hbd.trans (hbz.mono hbd.size)
  have hbwz:=Hbw7.out.trans (hbWz.mono Hbw7.out.size)
  have z0:=za0 hbWz Hr0.out
  have z1:=za0 hbWz Hr1.out
  have z2:=za0 hbWz Hr2.out
  have z5:=za0 hbWz Hr5.out
  have zL:=fun h=>zap (HvL.out h) hbWz
  obtain⟨_,fy0,fy1,fy2,fy3⟩:=zac z0
  have y5e:=za3 (b:=g) (i:=3) (u:=.int .i64 bad2) (za3 (b:=g) (i:=2) (u:=.int .i64 fin) (za3 (b:=g) (i:=1) (u:=.int .i64 i2) (za3 (b:=g) (i:=0) (u:=.slice a n c) z5 (by omega)) (by omega)) (by omega)) (by omega)
  have hSz:wz.cell? ⟨g5,0,none⟩=some (.string nm):=(zag z5).1
  have hSP:=(zag y5e).1
  obtain⟨HSe,Hbz,HbWz,Hbwz,Hz0,Hz1,Hz2,Hz5,HzL,Hy5e,HSz,HSP⟩:=hd12 hSe hbz hbWz hbwz z0 z1 z2 z5 zL y5e hSz hSP;clear hSe hbz hbWz hbwz z0 z1 z2 z5 zL y5e hSz hSP
  go_wp2_with fail
  refine hK.out _ _ (by exact HSz.out) (fun hHeld=>?_)
  clear hK K
  try simp only[Act.put,lA,lB,lC]
  refine wpAnyH_ready (rs:=[8]) (by kernel_rfl) (by simp) ?_
  refine AllReadyH.cons rfl (fun K hK=>?_) AllReadyH.nil
  go_simp
  refine hK.out _ _ (by exact HSP.out) (fun hHeld=>?_)
  clear hK K
  try simp only[Act.put,lA,lB,lC]
  refine wpAnyH_done (by kernel_rfl) ?_ _
  go_simp
  obtain⟨wP,hwP⟩ : ∃ W,W=(((wz.setCell ⟨g,0,none⟩ (.slice a n c)).setCell ⟨g,1,none⟩ (.int .i64 i2)).setCell ⟨g,2,none⟩ (.int .i64 fin)).setCell ⟨g,3,none⟩ (.int .i64 bad2):=⟨_,rfl⟩
  have hTP:Frm (fun z=>z=g) wz wP:=by rw[hwP];exact za9 (za9 (za9 (za9 (Frm.refl _ _) 0 _) 1 _) 2 _) 3 _
  have y0:PBox g a n c i2 fin bad2 wP:=by rw[hwP];exact pset Hz0.out
  have y1:=zas hTP Hz1.out (by omega)
  have y2:=zas hTP Hz2.out (by omega)
  have y5:=zas hTP Hz5.out (by omega)
  have hnoP:No2 wz (fun z=>z=g):=by
   rintro z rfl
   exact zau Hz0.out (by decide) (by decide)
  have yL:=fun h=>zaq (HzL.out h) hTP hnoP
  have hbwP:Below w.heap.size w wP:=Hbwz.out.trans (hTP.below Hbwz.out.size (by rintro k rfl;exact hwg))
  have hSe2:=HSe.out wP hbwP
  obtain⟨⟨d0,d1,d2,d3⟩,_⟩:=zac y0
  rw[← hwP]
  clear hwP
  obtain⟨HTP,Hy0,Hy1,Hy2,Hy5,HnoP,HyL,HbwP,HSe2⟩:=hd9 hTP y0 y1 y2 y5 hnoP yL hbwP hSe2;clear hTP y0 y1 y2 y5 hnoP yL hbwP hSe2
  go_wp2_with fail
  refine HSe2.out.mono ?_
  rintro e wq ⟨sb,sm,sd,i',bad',rfl,hfin,hbq⟩
  obtain⟨wr,hwr⟩ : ∃ W,W=wq.alloc (.cells #[.slice a n c,.int .i64 i',.int .i64 fin,.int .i64 bad'] 113):=⟨_,rfl⟩
  have hbqr:Below wq.heap.size wq wr:=by rw[hwr];exact za2 _ _
  have hbpr:=hbq.trans (hbqr.mono hbq.size)
  obtain⟨h11,hh11⟩ : ∃ z,z=wq.heap.size:=⟨_,rfl⟩
  have t11:PBox h11 a n c i' fin bad' wr:=by rw[hwr,hh11];exact heap_alloc_new _ _
  have x5:=za0 hbpr Hy5.out
  have x1:=za0 hbpr Hy1.out
  have x2:=za0 hbpr Hy2.out
  obtain⟨ux0,ux1,ux2,uf0,uf1,uf2⟩:=zag x5
  obtain⟨_,_,_,vf0,vf1,vf2⟩:=zag x1
  obtain⟨_,wf0,wf1,wf2,wf3⟩:=zac x2
  obtain⟨⟨tx0,tx1,tx2,tx3⟩,_⟩:=zac t11
  have hsz9:g5 < h11:=by rw[hh11];exact (Array.getElem?_eq_some_iff.1 (za0 hbq Hy5.out)).1
  have hd1:¬ h11=g5:=by omega
  have hd2:¬ g5=h11:=by omega
  have hd3:¬ h11=g+1:=by omega
  have hd4:¬ h11=g+1+1:=by omega
  have hd5:¬ g5=g+1:=by omega
  have hd6:¬ g5=g+1+1:=by omega
  have hbw:Below w.heap.size w wr:=HbwP.out.trans (hbpr.mono HbwP.out.size)
  have hL:=fun h=>zap (HyL.out h) hbpr
  have hfin2:(∃ l,zbb ws i=(some (nm,(rdV tl),l),i')∧bad'=0∧zbj wr (.slice sb sm sd) l)∨(∃ j,zbb ws i=(none,j)∧bad'=zb2 ws fin j):=hfin.imp (fun⟨l,h1,h2,h3⟩=>⟨l,h1,h2,zaz h3 hbqr⟩) id
  obtain⟨Hfin,Hbq,Hbqr,Hbpr,Ht11,Hx5,Hx1,Hx2,Hbw,HL,Hfin2⟩:=hd11 hfin hbq hbqr hbpr t11 x5 x1 x2 hbw hL hfin2;clear hfin hbq hbqr hbpr t11 x5 x1 x2 hbw hL hfin2
  go_upto_region 14 with (fail)
  rw[← hwr,← hh11]
  clear hwr hh11
  go_wp2_with fail
  go_region
  go_wp2_with fail
  obtain⟨wS,hwS⟩ : ∃ W,W=wr.setCell ⟨g5,2,none⟩ (.slice sb sm sd):=⟨_,rfl⟩
  have s1:zan (g+1) (.string ⟨#[]⟩) (.slice none 0 0) (.slice none 0 0) wS:=by rw[hwS];exact za3 Hx1.out (by omega)
  have s2:PBox (g+1+1) none 0 0 0 0 0 wS:=by rw[hwS];exact za3 Hx2.out (by omega)
  rw[← hwS]
  obtain⟨wT,hwT⟩ : ∃ W,W=((((((wS.setCell ⟨g+1,0,none⟩ (.string nm)).setCell ⟨g+1,1,none⟩ (.slice a2 n2 c2)).setCell ⟨g+1,2,none⟩ (.slice sb sm sd)).setCell ⟨g+1+1,0,none⟩ (.slice a n c)).setCell ⟨g+1+1,1,none⟩ (.int .i64 i')).setCell ⟨g+1+1,2,none⟩ (.int .i64 fin)).setCell ⟨g+1+1,3,none⟩ (.int .i64 bad'):=⟨_,rfl⟩
  rw[← hwT]
  have r1:zan (g+1) (.string nm) (.slice a2 n2 c2) (.slice sb sm sd) wT:=by
   have k0:=heap_setCell_same wS (g+1) 0 _ _ (.string nm) s1
   have k1:=heap_setCell_same _ (g+1) 1 _ _ (.slice a2 n2 c2) k0
   have k2:=heap_setCell_same _ (g+1) 2 _ _ (.slice sb sm sd) k1
   have k3:=za3 (b:=g+1+1) (i:=0) (u:=.slice a n c) k2 (by omega)
   have k4:=za3 (b:=g+1+1) (i:=1) (u:=.int .i64 (i':Int)) k3 (by omega)
   have k5:=za3 (b:=g+1+1) (i:=2) (u:=.int .i64 fin) k4 (by omega)
   have k6:=za3 (b:=g+1+1) (i:=3) (u:=.int .i64 bad') k5 (by omega)
   rw[hwT]
   exact k6
  have r2:PBox (g+1+1) a n c i' fin bad' wT:=by
   have k0:=za3 (b:=g+1) (i:=0) (u:=.string nm) s2 (by omega)
   have k1:=za3 (b:=g+1) (i:=1) (u:=(.slice a2 n2 c2)) k0 (by omega)
   have k2:=za3 (b:=g+1) (i:=2) (u:=.slice sb sm sd) k1 (by omega)
   rw[hwT]
   exact pset k2
  have hT:Frm (fun z=>z=g5∨z=g+1∨z=g+1+1) wr wT:=by
   have m0:Frm (fun z=>z=g5∨z=g+1∨z=g+1+1) wr wS:=by rw[hwS];exact (Frm.refl _ wr).setCell (p:=⟨g5,2,none⟩) (.inr (.inl rfl)) _
   have m1:=m0.setCell (p:=⟨g+1,0,none⟩) (.inr (.inr (.inl rfl))) (.string nm)
   have m2:=m1.setCell (p:=⟨g+1,1,none⟩) (.inr (.inr (.inl rfl))) (.slice a2 n2 c2)
   have m3:=m2.setCell (p:=⟨g+1,2,none⟩) (.inr (.inr (.inl rfl))) (.slice sb sm sd)
   have m4:=m3.setCell (p:=⟨g+1+1,0,none⟩) (.inr (.inr (.inr rfl))) (.slice a n c)
   have m5:=m4.setCell (p:=⟨g+1+1,1,none⟩) (.inr (.inr (.inr rfl))) (.int .i64 (i':Int))
   have m6:=m5.setCell (p:=⟨g+1+1,2,none⟩) (.inr (.inr (.inr rfl))) (.int .i64 fin)
   have m7:=m6.setCell (p:=⟨g+1+1,3,none⟩) (.inr (.inr (.inr rfl))) (.int .i64 bad')
   rw[hwT]
   exact m7
  clear hwT hwS
  have hno:No2 wr (fun z=>z=g5∨z=g+1∨z=g+1+1):=by
   rintro z (rfl | rfl | rfl)
   ·exact zau Hx5.out (by decide) (by decide)
   ·exact zau Hx1.out (by decide) (by decide)
   exact zau Hx2.out (by decide) (by decide)
  have hbT:Below w.heap.size w wT.drew:=Below.drew (Hbw.out.trans (hT.below Hbw.out.size (by rintro k (rfl | rfl | rfl) <;> omega)))
  have hTd:Frm (fun z=>z=g5∨z=g+1∨z=g+1+1) wr wT.drew:=hT.drew
  have r1d:zan (g+1) (.string nm) (.slice a2 n2 c2) (.slice sb sm sd) wT.drew:=r1
  have r2d:PBox (g+1+1) a n c i' fin bad' wT.drew:=r2
  generalize wT.drew=wU at hbT hTd r1d r2d ⊢
  clear r1 r2 hT
  refine bodyPost_ret (zdq (g:=g+1) (k:=g+1+1) rfl rfl rfl r1d r2d Tryz.underlying51 rfl (by kernel_rfl) Tryz.underlying113 rfl (by kernel_rfl)) rfl ?_
  have hend:(∃ sp:Spc3,zbb ws i=(some sp,i')∧bad'=0∧nm=sp.1∧zdk wU (.slice a2 n2 c2) sp.2.1∧zbj wU (.slice sb sm sd) sp.2.2)∨(∃ j,zbb ws i=(none,j)∧bad'=zb2 ws fin j):=by
   rcases Hfin2.out with⟨l,h1,h2,h3⟩ | h
   ·exact .inl ⟨_,h1,h2,rfl,zaq (HL.out (zgl h1 Hs.out)) hTd hno,zat h3 hTd hno⟩
   exact .inr h
  exact⟨nm,a2,n2,c2,sb,sm,sd,i',bad',rfl,hend,hbT⟩
 | true =>
  have hNx:=HNxt.out nk (by rw[Hnb.out];simp)
  have HNx:=hd hNx;clear hNx
  go_upto_region 12 with (fail)
  rw[← hnm,← hw7]
  clear hnm hw7
  have hbd:Below w7.heap.size w7 w7.drew:=Below.drew (Below.refl _ _)
  have hbWd:=Hbw7.out.trans (hbd.mono Hbw7.out.size)
  have hSd:w7.drew.cell? ⟨g5,0,none⟩=some (.string nm):=(zag Hr5.out).1
  have hCd:=(zac (za0 hbd Hr0.out)).1
  obtain⟨HSd,HCd⟩:=hd2 hSd hCd;clear hSd hCd
  refine wp_region_held_drew (S:=fun w'=>w'.cell? ⟨g5,0,none⟩=some (.string nm)) (by kernel_rfl) (by exact HSd.out) (fun hHeld=>?_)
  refine wpAnyH_take (i:=1) (v:=?_) rfl (by kernel_rfl) (by kernel_rfl) (by kernel_rfl) (fun _ _ _ h=>h) (Or.inl ⟨by kernel_rfl,?_⟩) (by assumption) ?_
  rotate_left
  ·(intro w hSw;(try dsimp only at hSw);go_simp;try with_reducible rfl)
  try simp only[Act.put,lA,lB,lC]
  refine wpAnyH_take (i:=2) (v:=?_) rfl (by kernel_rfl) (by kernel_rfl) (by kernel_rfl) (fun _ _ _ h=>h) (Or.inl ⟨by kernel_rfl,?_⟩) (by assumption) ?_
  rotate_left
  ·(intro w hSw;(try dsimp only at hSw);go_simp;try with_reducible rfl)
  try simp only[Act.put,lA,lB,lC]
  refine wpAnyH_take (i:=3) (v:=?_) rfl (by kernel_rfl) (by kernel_rfl) (by kernel_rfl) (fun _ _ _ h=>h) (Or.inl ⟨by kernel_rfl,?_⟩) (by assumption) ?_
  rotate_left
  ·(intro w hSw;(try dsimp only at hSw);go_simp;try with_reducible rfl)
  try simp only[Act.put,lA,lB,lC]
  refine wpAnyH_take (i:=4) (v:=?_) rfl (by kernel_rfl) (by kernel_rfl) (by kernel_rfl) (fun _ _ _ h=>h) (Or.inl ⟨by kernel_rfl,?_⟩) (by assumption) ?_
  rotate_left
  ·(intro w hSw;(try dsimp only at hSw);go_simp;try with_reducible rfl)
  try simp only[Act.put,lA,lB,lC]
  refine wpAnyH_ready (rs:=[0,5]) (by kernel_rfl) (by simp) ?_
  refine AllReadyH.cons rfl (fun K hK=>?_) (AllReadyH.cons rfl (fun K hK=>?_) AllReadyH.nil)
  ·obtain⟨c0',c1',c2',c3'⟩:=HCd.out
   go_simp
   refine hK.out _ _ (by exact HSd.out) (fun hHeld=>?_)
   clear hK K
   try simp only[Act.put,lA,lB,lC]
   clear c0' c1' c2' c3'
   refine wpAnyH_ready (rs:=[5]) (by kernel_rfl) (by simp) ?_
   refine AllReadyH.cons rfl (fun K hK=>?_) AllReadyH.nil
   go_simp
   refine (hNmF _).mono ?_
   rintro e wn ⟨rfl,hwn⟩
   subst hwn
   go_wp2_with fail
   refine hK.out _ _ (by exact HSd.out) (fun hHeld=>?_)
   clear hK K
   try simp only[Act.put,lA,lB,lC]
   refine wpAnyH_take (i:=6) (v:=?_) rfl (by kernel_rfl) (by kernel_rfl) (by kernel_rfl) (fun _ _ _ h=>h) (Or.inl ⟨by kernel_rfl,?_⟩) (by assumption) ?_
   rotate_left
   ·(intro w hSw;(try dsimp only at hSw);go_simp;try with_reducible rfl)
   try simp only[Act.put,lA,lB,lC]
   refine wpAnyH_ready (rs:=[7]) (by kernel_rfl) (by simp) ?_
   refine AllReadyH.cons rfl (fun K hK=>?_) AllReadyH.nil
   go_simp
   refine (HNx.out _ hbWd).mono ?_
   rintro e wz ⟨⟨i2,bad2,rfl,hSe⟩,hbz⟩
   have hbWz:=hbd.trans (hbz.mono hbd.size)
   have hbwz:=Hbw7.out.trans (hbWz.mono Hbw7.out.size)
   have z0:=za0 hbWz Hr0.out
   have z1:=za0 hbWz Hr1.out
   have z2:=za0 hbWz Hr2.out
   have z5:=za0 hbWz Hr5.out
   have zL:=fun h=>zap (HvL.out h) hbWz
   obtain⟨_,fy0,fy1,fy2,fy3⟩:=zac z0
   have y5e:=za3 (b:=g) (i:=3) (u:=.int .i64 bad2) (za3 (b:=g) (i:=2) (u:=.int .i64 fin) (za3 (b:=g) (i:=1) (u:=.int .i64 i2) (za3 (b:=g) (i:=0) (u:=.slice a n c) z5 (by omega)) (by omega)) (by omega)) (by omega)
   have hSz:wz.cell? ⟨g5,0,none⟩=some (.string nm):=(zag z5).1
   have hSP:=(zag y5e).1
   obtain⟨HSe,Hbz,HbWz,Hbwz,Hz0,Hz1,Hz2,Hz5,HzL,Hy5e,HSz,HSP⟩:=hd12 hSe hbz hbWz hbwz z0 z1 z2 z5 zL y5e hSz hSP;clear hSe hbz hbWz hbwz z0 z1 z2 z5 zL y5e hSz hSP
   go_wp2_with fail
   refine hK.out _ _ (by exact HSz.out) (fun hHeld=>?_)
   clear hK K
   try simp only[Act.put,lA,lB,lC]
   refine wpAnyH_ready (rs:=[8]) (by kernel_rfl) (by simp) ?_
   refine AllReadyH.cons rfl (fun K hK=>?_) AllReadyH.nil
   go_simp
   refine hK.out _ _ (by exact HSP.out) (fun hHeld=>?_)
   clear hK K
   try simp only[Act.put,lA,lB,lC]
   refine wpAnyH_done (by kernel_rfl) ?_ _
   go_simp
   obtain⟨wP,hwP⟩ : ∃ W,W=(((wz.setCell ⟨g,0,none⟩ (.slice a n c)).setCell ⟨g,1,none⟩ (.int .i64 i2)).setCell ⟨g,2,none⟩ (.int .i64 fin)).setCell ⟨g,3,none⟩ (.int .i64 bad2):=⟨_,rfl⟩
   have hTP:Frm (fun z=>z=g) wz wP:=by rw[hwP];exact za9 (za9 (za9 (za9 (Frm.refl _ _) 0 _) 1 _) 2 _) 3 _
   have y0:PBox g a n c i2 fin bad2 wP:=by rw[hwP];exact pset Hz0.out
   have y1:=zas hTP Hz1.out (by omega)
   have y2:=zas hTP Hz2.out (by omega)
   have y5:=zas hTP Hz5.out (by omega)
   have hnoP:No2 wz (fun z=>z=g):=by
    rintro z rfl
    exact zau Hz0.out (by decide) (by decide)
   have yL:=fun h=>zaq (HzL.out h) hTP hnoP
   have hbwP:Below w.heap.size w wP:=Hbwz.out.trans (hTP.below Hbwz.out.size (by rintro k rfl;exact hwg))
   have hSe2:=HSe.out wP hbwP
   obtain⟨⟨d0,d1,d2,d3⟩,_⟩:=zac y0
   rw[← hwP]
   clear hwP
   obtain⟨HTP,Hy0,Hy1,Hy2,Hy5,HnoP,HyL,HbwP,HSe2⟩:=hd9 hTP y0 y1 y2 y5 hnoP yL hbwP hSe2;clear hTP y0 y1 y2 y5 hnoP yL hbwP hSe2
   go_wp2_with fail
   refine HSe2.out.mono ?_
   rintro e wq ⟨sb,sm,sd,i',bad',rfl,hfin,hbq⟩
   obtain⟨wr,hwr⟩ : ∃ W,W=wq.alloc (.cells #[.slice a n c,.int .i64 i',.int .i64 fin,.int .i64 bad'] 113):=⟨_,rfl⟩
   have hbqr:Below wq.heap.size wq wr:=by rw[hwr];exact za2 _ _
   have hbpr:=hbq.trans (hbqr.mono hbq.size)
   obtain⟨h11,hh11⟩ : ∃ z,z=wq.heap.size:=⟨_,rfl⟩
   have t11:PBox h11 a n c i' fin bad' wr:=by rw[hwr,hh11];exact heap_alloc_new _ _
   have x5:=za0 hbpr Hy5.out
   have x1:=za0 hbpr Hy1.out
   have x2:=za0 hbpr Hy2.out
   obtain⟨ux0,ux1,ux2,uf0,uf1,uf2⟩:=zag x5
   obtain⟨_,_,_,vf0,vf1,vf2⟩:=zag x1
   obtain⟨_,wf0,wf1,wf2,wf3⟩:=zac x2
   obtain⟨⟨tx0,tx1,tx2,tx3⟩,_⟩:=zac t11
   have hsz9:g5 < h11:=by rw[hh11];exact (Array.getElem?_eq_some_iff.1 (za0 hbq Hy5.out)).1
   have hd1:¬ h11=g5:=by omega
   have hd2:¬ g5=h11:=by omega
   have hd3:¬ h11=g+1:=by omega
   have hd4:¬ h11=g+1+1:=by omega
   have hd5:¬ g5=g+1:=by omega
   have hd6:¬ g5=g+1+1:=by omega
   have hbw:Below w.heap.size w wr:=HbwP.out.trans (hbpr.mono HbwP.out.size)
   have hL:=fun h=>zap (HyL.out h) hbpr
   have hfin2:(∃ l,zbb ws i=(some (nm,(rdV tl),l),i')∧bad'=0∧zbj wr (.slice sb sm sd) l)∨(∃ j,zbb ws i=(none,j)∧bad'=zb2 ws fin j):=hfin.imp (fun⟨l,h1,h2,h3⟩=>⟨l,h1,h2,zaz h3 hbqr⟩) id
   obtain⟨Hfin,Hbq,Hbqr,Hbpr,Ht11,Hx5,Hx1,Hx2,Hbw,HL,Hfin2⟩:=hd11 hfin hbq hbqr hbpr t11 x5 x1 x2 hbw hL hfin2;clear hfin hbq hbqr hbpr t11 x5 x1 x2 hbw hL hfin2
   go_upto_region 14 with (fail)
   rw[← hwr,← hh11]
   clear hwr hh11
   go_wp2_with fail
   go_region
   go_wp2_with fail
   obtain⟨wS,hwS⟩ : ∃ W,W=wr.setCell ⟨g5,2,none⟩ (.slice sb sm sd):=⟨_,rfl⟩
   have s1:zan (g+1) (.string ⟨#[]⟩) (.slice none 0 0) (.slice none 0 0) wS:=by rw[hwS];exact za3 Hx1.out (by omega)
   have s2:PBox (g+1+1) none 0 0 0 0 0 wS:=by rw[hwS];exact za3 Hx2.out (by omega)
   rw[← hwS]
   obtain⟨wT,hwT⟩ : ∃ W,W=((((((wS.setCell ⟨g+1,0,none⟩ (.string nm)).setCell ⟨g+1,1,none⟩ (.slice a2 n2 c2)).setCell ⟨g+1,2,none⟩ (.slice sb sm sd)).setCell ⟨g+1+1,0,none⟩ (.slice a n c)).setCell ⟨g+1+1,1,none⟩ (.int .i64 i')).setCell ⟨g+1+1,2,none⟩ (.int .i64 fin)).setCell ⟨g+1+1,3,none⟩ (.int .i64 bad'):=⟨_,rfl⟩
   rw[← hwT]
   have r1:zan (g+1) (.string nm) (.slice a2 n2 c2) (.slice sb sm sd) wT:=by
    have k0:=heap_setCell_same wS (g+1) 0 _ _ (.string nm) s1
    have k1:=heap_setCell_same _ (g+1) 1 _ _ (.slice a2 n2 c2) k0
    have k2:=heap_setCell_same _ (g+1) 2 _ _ (.slice sb sm sd) k1
    have k3:=za3 (b:=g+1+1) (i:=0) (u:=.slice a n c) k2 (by omega)
    have k4:=za3 (b:=g+1+1) (i:=1) (u:=.int .i64 (i':Int)) k3 (by omega)
    have k5:=za3 (b:=g+1+1) (i:=2) (u:=.int .i64 fin) k4 (by omega)
    have k6:=za3 (b:=g+1+1) (i:=3) (u:=.int .i64 bad') k5 (by omega)
    rw[hwT]
    exact k6
   have r2:PBox (g+1+1) a n c i' fin bad' wT:=by
    have k0:=za3 (b:=g+1) (i:=0) (u:=.string nm) s2 (by omega)
    have k1:=za3 (b:=g+1) (i:=1) (u:=(.slice a2 n2 c2)) k0 (by omega)
    have k2:=za3 (b:=g+1) (i:=2) (u:=.slice sb sm sd) k1 (by omega)
    rw[hwT]
    exact pset k2
   have hT:Frm (fun z=>z=g5∨z=g+1∨z=g+1+1) wr wT:=by
    have m0:Frm (fun z=>z=g5∨z=g+1∨z=g+1+1) wr wS:=by rw[hwS];exact (Frm.refl _ wr).setCell (p:=⟨g5,2,none⟩) (.inr (.inl rfl)) _
    have m1:=m0.setCell (p:=⟨g+1,0,none⟩) (.inr (.inr (.inl rfl))) (.string nm)
    have m2:=m1.setCell (p:=⟨g+1,1,none⟩) (.inr (.inr (.inl rfl))) (.slice a2 n2 c2)
    have m3:=m2.setCell (p:=⟨g+1,2,none⟩) (.inr (.inr (.inl rfl))) (.slice sb sm sd)
    have m4:=m3.setCell (p:=⟨g+1+1,0,none⟩) (.inr (.inr (.inr rfl))) (.slice a n c)
    have m5:=m4.setCell (p:=⟨g+1+1,1,none⟩) (.inr (.inr (.inr rfl))) (.int .i64 (i':Int))
    have m6:=m5.setCell (p:=⟨g+1+1,2,none⟩) (.inr (.inr (.inr rfl))) (.int .i64 fin)
    have m7:=m6.setCell (p:=⟨g+1+1,3,none⟩) (.inr (.inr (.inr rfl))) (.int .i64 bad')
    rw[hwT]
    exact m7
   clear hwT hwS
   have hno:No2 wr (fun z=>z=g5∨z=g+1∨z=g+1+1):=by
    rintro z (rfl | rfl | rfl)
    ·exact zau Hx5.out (by decide) (by decide)
    ·exact zau Hx1.out (by decide) (by decide)
    exact zau Hx2.out (by decide) (by decide)
   have hbT:Below w.heap.size w wT.drew:=Below.drew (Hbw.out.trans (hT.below Hbw.out.size (by rintro k (rfl | rfl | rfl) <;> omega)))
   have hTd:Frm (fun z=>z=g5∨z=g+1∨z=g+1+1) wr wT.drew:=hT.drew
   have r1d:zan (g+1) (.string nm) (.slice a2 n2 c2) (.slice sb sm sd) wT.drew:=r1
   have r2d:PBox (g+1+1) a n c i' fin bad' wT.drew:=r2
   generalize wT.drew=wU at hbT hTd r1d r2d ⊢
   clear r1 r2 hT
   refine bodyPost_ret (zdq (g:=g+1) (k:=g+1+1) rfl rfl rfl r1d r2d Tryz.underlying51 rfl (by kernel_rfl) Tryz.underlying113 rfl (by kernel_rfl)) rfl ?_
   have hend:(∃ sp:Spc3,zbb ws i=(some sp,i')∧bad'=0∧nm=sp.1∧zdk wU (.slice a2 n2 c2) sp.2.1∧zbj wU (.slice sb sm sd) sp.2.2)∨(∃ j,zbb ws i=(none,j)∧bad'=zb2 ws fin j):=by
    rcases Hfin2.out with⟨l,h1,h2,h3⟩ | h
    ·exact .inl ⟨_,h1,h2,rfl,zaq (HL.out (zgl h1 Hs.out)) hTd hno,zat h3 hTd hno⟩
    exact .inr h
   exact⟨nm,a2,n2,c2,sb,sm,sd,i',bad',rfl,hend,hbT⟩
  go_simp
  refine (hNmF _).mono ?_
  rintro e wn ⟨rfl,hwn⟩
  subst hwn
  go_wp2_with fail
  refine hK.out _ _ (by exact HSd.out) (fun hHeld=>?_)
  clear hK K
  try simp only[Act.put,lA,lB,lC]
  refine wpAnyH_take (i:=6) (v:=?_) rfl (by kernel_rfl) (by kernel_rfl) (by kernel_rfl) (fun _ _ _ h=>h) (Or.inl ⟨by kernel_rfl,?_⟩) (by assumption) ?_
  rotate_left
  ·(intro w hSw;(try dsimp only at hSw);go_simp;try with_reducible rfl)
  try simp only[Act.put,lA,lB,lC]
  refine wpAnyH_ready (rs:=[0]) (by kernel_rfl) (by simp) ?_
  refine AllReadyH.cons rfl (fun K hK=>?_) AllReadyH.nil
  obtain⟨c0',c1',c2',c3'⟩:=HCd.out
  go_simp
  refine hK.out _ _ (by exact HSd.out) (fun hHeld=>?_)
  clear hK K
  try simp only[Act.put,lA,lB,lC]
  clear c0' c1' c2' c3'
  refine wpAnyH_ready (rs:=[7]) (by kernel_rfl) (by simp) ?_
  refine AllReadyH.cons rfl (fun K hK=>?_) AllReadyH.nil
  go_simp
  refine (HNx.out _ hbWd).mono ?_
  rintro e wz ⟨⟨i2,bad2,rfl,hSe⟩,hbz⟩
  have hbWz:=hbd.trans (hbz.mono hbd.size)
  have hbwz:=Hbw7.out.trans (hbWz.mono Hbw7.out.size)
  have z0:=za0 hbWz Hr0.out
  have z1:=za0 hbWz Hr1.out
  have z2:=za0 hbWz Hr2.out
  have z5:=za0 hbWz Hr5.out
  have zL:=fun h=>zap (HvL.out h) hbWz
  obtain⟨_,fy0,fy1,fy2,fy3⟩:=zac z0
  have y5e:=za3 (b:=g) (i:=3) (u:=.int .i64 bad2) (za3 (b:=g) (i:=2) (u:=.int .i64 fin) (za3 (b:=g) (i:=1) (u:=.int .i64 i2) (za3 (b:=g) (i:=0) (u:=.slice a n c) z5 (by omega)) (by omega)) (by omega)) (by omega)
  have hSz:wz.cell? ⟨g5,0,none⟩=some (.string nm):=(zag z5).1
  have hSP:=(zag y5e).1
  obtain⟨HSe,Hbz,HbWz,Hbwz,Hz0,Hz1,Hz2,Hz5,HzL,Hy5e,HSz,HSP⟩:=hd12 hSe hbz hbWz hbwz z0 z1 z2 z5 zL y5e hSz hSP;clear hSe hbz hbWz hbwz z0 z1 z2 z5 zL y5e hSz hSP
  go_wp2_with fail
  refine hK.out _ _ (by exact HSz.out) (fun hHeld=>?_)
  clear hK K
  try simp only[Act.put,lA,lB,lC]
  refine wpAnyH_ready (rs:=[8]) (by kernel_rfl) (by simp) ?_
  refine AllReadyH.cons rfl (fun K hK=>?_) AllReadyH.nil
  go_simp
  refine hK.out _ _ (by exact HSP.out) (fun hHeld=>?_)
  clear hK K
  try simp only[Act.put,lA,lB,lC]
  refine wpAnyH_done (by kernel_rfl) ?_ _
  go_simp
  obtain⟨wP,hwP⟩ : ∃ W,W=(((wz.setCell ⟨g,0,none⟩ (.slice a n c)).setCell ⟨g,1,none⟩ (.int .i64 i2)).setCell ⟨g,2,none⟩ (.int .i64 fin)).setCell ⟨g,3,none⟩ (.int .i64 bad2):=⟨_,rfl⟩
  have hTP:Frm (fun z=>z=g) wz wP:=by rw[hwP];exact za9 (za9 (za9 (za9 (Frm.refl _ _) 0 _) 1 _) 2 _) 3 _
  have y0:PBox g a n c i2 fin bad2 wP:=by rw[hwP];exact pset Hz0.out
  have y1:=zas hTP Hz1.out (by omega)
  have y2:=zas hTP Hz2.out (by omega)
  have y5:=zas hTP Hz5.out (by omega)
  have hnoP:No2 wz (fun z=>z=g):=by
   rintro z rfl
   exact zau Hz0.out (by decide) (by decide)
  have yL:=fun h=>zaq (HzL.out h) hTP hnoP
  have hbwP:Below w.heap.size w wP:=Hbwz.out.trans (hTP.below Hbwz.out.size (by rintro k rfl;exact hwg))
  have hSe2:=HSe.out wP hbwP
  obtain⟨⟨d0,d1,d2,d3⟩,_⟩:=zac y0
  rw[← hwP]
  clear hwP
  obtain⟨HTP,Hy0,Hy1,Hy2,Hy5,HnoP,HyL,HbwP,HSe2⟩:=hd9 hTP y0 y1 y2 y5 hnoP yL hbwP hSe2;clear hTP y0 y1 y2 y5 hnoP yL hbwP hSe2
  go_wp2_with fail
  refine HSe2.out.mono ?_
  rintro e wq ⟨sb,sm,sd,i',bad',rfl,hfin,hbq⟩
  obtain⟨wr,hwr⟩ : ∃ W,W=wq.alloc (.cells #[.slice a n c,.int .i64 i',.int .i64 fin,.int .i64 bad'] 113):=⟨_,rfl⟩
  have hbqr:Below wq.heap.size wq wr:=by rw[hwr];exact za2 _ _
  have hbpr:=hbq.trans (hbqr.mono hbq.size)
  obtain⟨h11,hh11⟩ : ∃ z,z=wq.heap.size:=⟨_,rfl⟩
  have t11:PBox h11 a n c i' fin bad' wr:=by rw[hwr,hh11];exact heap_alloc_new _ _
  have x5:=za0 hbpr Hy5.out
  have x1:=za0 hbpr Hy1.out
  have x2:=za0 hbpr Hy2.out
  obtain⟨ux0,ux1,ux2,uf0,uf1,uf2⟩:=zag x5
  obtain⟨_,_,_,vf0,vf1,vf2⟩:=zag x1
  obtain⟨_,wf0,wf1,wf2,wf3⟩:=zac x2
  obtain⟨⟨tx0,tx1,tx2,tx3⟩,_⟩:=zac t11
  have hsz9:g5 < h11:=by rw[hh11];exact (Array.getElem?_eq_some_iff.1 (za0 hbq Hy5.out)).1
  have hd1:¬ h11=g5:=by omega
  have hd2:¬ g5=h11:=by omega
  have hd3:¬ h11=g+1:=by omega
  have hd4:¬ h11=g+1+1:=by omega
  have hd5:¬ g5=g+1:=by omega
  have hd6:¬ g5=g+1+1:=by omega
  have hbw:Below w.heap.size w wr:=HbwP.out.trans (hbpr.mono HbwP.out.size)
  have hL:=fun h=>zap (HyL.out h) hbpr
  have hfin2:(∃ l,zbb ws i=(some (nm,(rdV tl),l),i')∧bad'=0∧zbj wr (.slice sb sm sd) l)∨(∃ j,zbb ws i=(none,j)∧bad'=zb2 ws fin j):=hfin.imp (fun⟨l,h1,h2,h3⟩=>⟨l,h1,h2,zaz h3 hbqr⟩) id
  obtain⟨Hfin,Hbq,Hbqr,Hbpr,Ht11,Hx5,Hx1,Hx2,Hbw,HL,Hfin2⟩:=hd11 hfin hbq hbqr hbpr t11 x5 x1 x2 hbw hL hfin2;clear hfin hbq hbqr hbpr t11 x5 x1 x2 hbw hL hfin2
  go_upto_region 14 with (fail)
  rw[← hwr,← hh11]
  clear hwr hh11
  go_wp2_with fail
  go_region
  go_wp2_with fail
  obtain⟨wS,hwS⟩ : ∃ W,W=wr.setCell ⟨g5,2,none⟩ (.slice sb sm sd):=⟨_,rfl⟩
  have s1:zan (g+1) (.string ⟨#[]⟩) (.slice none 0 0) (.slice none 0 0) wS:=by rw[hwS];exact za3 Hx1.out (by omega)
  have s2:PBox (g+1+1) none 0 0 0 0 0 wS:=by rw[hwS];exact za3 Hx2.out (by omega)
  rw[← hwS]
  obtain⟨wT,hwT⟩ : ∃ W,W=((((((wS.setCell ⟨g+1,0,none⟩ (.string nm)).setCell ⟨g+1,1,none⟩ (.slice a2 n2 c2)).setCell ⟨g+1,2,none⟩ (.slice sb sm sd)).setCell ⟨g+1+1,0,none⟩ (.slice a n c)).setCell ⟨g+1+1,1,none⟩ (.int .i64 i')).setCell ⟨g+1+1,2,none⟩ (.int .i64 fin)).setCell ⟨g+1+1,3,none⟩ (.int .i64 bad'):=⟨_,rfl⟩
  rw[← hwT]
  have r1:zan (g+1) (.string nm) (.slice a2 n2 c2) (.slice sb sm sd) wT:=by
   have k0:=heap_setCell_same wS (g+1) 0 _ _ (.string nm) s1
   have k1:=heap_setCell_same _ (g+1) 1 _ _ (.slice a2 n2 c2) k0
   have k2:=heap_setCell_same _ (g+1) 2 _ _ (.slice sb sm sd) k1
   have k3:=za3 (b:=g+1+1) (i:=0) (u:=.slice a n c) k2 (by omega)
   have k4:=za3 (b:=g+1+1) (i:=1) (u:=.int .i64 (i':Int)) k3 (by omega)
   have k5:=za3 (b:=g+1+1) (i:=2) (u:=.int .i64 fin) k4 (by omega)
   have k6:=za3 (b:=g+1+1) (i:=3) (u:=.int .i64 bad') k5 (by omega)
   rw[hwT]
   exact k6
  have r2:PBox (g+1+1) a n c i' fin bad' wT:=by
   have k0:=za3 (b:=g+1) (i:=0) (u:=.string nm) s2 (by omega)
   have k1:=za3 (b:=g+1) (i:=1) (u:=(.slice a2 n2 c2)) k0 (by omega)
   have k2:=za3 (b:=g+1) (i:=2) (u:=.slice sb sm sd) k1 (by omega)
   rw[hwT]
   exact pset k2
  have hT:Frm (fun z=>z=g5∨z=g+1∨z=g+1+1) wr wT:=by
   have m0:Frm (fun z=>z=g5∨z=g+1∨z=g+1+1) wr wS:=by rw[hwS];exact (Frm.refl _ wr).setCell (p:=⟨g5,2,none⟩) (.inr (.inl rfl)) _
   have m1:=m0.setCell (p:=⟨g+1,0,none⟩) (.inr (.inr (.inl rfl))) (.string nm)
   have m2:=m1.setCell (p:=⟨g+1,1,none⟩) (.inr (.inr (.inl rfl))) (.slice a2 n2 c2)
   have m3:=m2.setCell (p:=⟨g+1,2,none⟩) (.inr (.inr (.inl rfl))) (.slice sb sm sd)
   have m4:=m3.setCell (p:=⟨g+1+1,0,none⟩) (.inr (.inr (.inr rfl))) (.slice a n c)
   have m5:=m4.setCell (p:=⟨g+1+1,1,none⟩) (.inr (.inr (.inr rfl))) (.int .i64 (i':Int))
   have m6:=m5.setCell (p:=⟨g+1+1,2,none⟩) (.inr (.inr (.inr rfl))) (.int .i64 fin)
   have m7:=m6.setCell (p:=⟨g+1+1,3,none⟩) (.inr (.inr (.inr rfl))) (.int .i64 bad')
   rw[hwT]
   exact m7
  clear hwT hwS
  have hno:No2 wr (fun z=>z=g5∨z=g+1∨z=g+1+1):=by
   rintro z (rfl | rfl | rfl)
   ·exact zau Hx5.out (by decide) (by decide)
   ·exact zau Hx1.out (by decide) (by decide)
   exact zau Hx2.out (by decide) (by decide)
  have hbT:Below w.heap.size w wT.drew:=Below.drew (Hbw.out.trans (hT.below Hbw.out.size (by rintro k (rfl | rfl | rfl) <;> omega)))
  have hTd:Frm (fun z=>z=g5∨z=g+1∨z=g+1+1) wr wT.drew:=hT.drew
  have r1d:zan (g+1) (.string nm) (.slice a2 n2 c2) (.slice sb sm sd) wT.drew:=r1
  have r2d:PBox (g+1+1) a n c i' fin bad' wT.drew:=r2
  generalize wT.drew=wU at hbT hTd r1d r2d ⊢
  clear r1 r2 hT
  refine bodyPost_ret (zdq (g:=g+1) (k:=g+1+1) rfl rfl rfl r1d r2d Tryz.underlying51 rfl (by kernel_rfl) Tryz.underlying113 rfl (by kernel_rfl)) rfl ?_
  have hend:(∃ sp:Spc3,zbb ws i=(some sp,i')∧bad'=0∧nm=sp.1∧zdk wU (.slice a2 n2 c2) sp.2.1∧zbj wU (.slice sb sm sd) sp.2.2)∨(∃ j,zbb ws i=(none,j)∧bad'=zb2 ws fin j):=by
   rcases Hfin2.out with⟨l,h1,h2,h3⟩ | h
   ·exact .inl ⟨_,h1,h2,rfl,zaq (HL.out (zgl h1 Hs.out)) hTd hno,zat h3 hTd hno⟩
   exact .inr h
  exact⟨nm,a2,n2,c2,sb,sm,sd,i',bad',rfl,hend,hbT⟩
end

section
open Go.Shelf Go.RowKit Go.Lib VerN VarM
open LexM (Wd)
attribute [local go_sem ↓] Go.wp_at_zero Go.wp_at_succ
theorem zqg {w:World} {a:Option Addr} {n c:Nat} {fin:Int} {ws:List Wd} (hws:RWds w [.slice a n c] ws) (hn:n≤1000) (hz:∀ x∈ws,x.2.length≤70000) (hcol:∀ j,zb2 ws fin j≠0):Calls Tryz.prog 37 #[.slice a n c,.int .i64 fin,.bool true] w (zh6 fin ws w):=by
 obtain⟨g,hg⟩ : ∃ g,g=w.heap.size:=⟨_,rfl⟩
 obtain⟨W0,hW0⟩ : ∃ W,W=((w.alloc (.cells #[.string ⟨#[]⟩,.slice none 0 0,.slice none 0 0] 51)).alloc (.cells #[.slice a n c,.int .i64 0,.int .i64 fin,.int .i64 0] 113)).alloc (.cells #[.string ⟨#[]⟩,.slice none 0 0,.slice none 0 0] 51):=⟨_,rfl⟩
 have hb0:Below w.heap.size w W0:=by rw[hW0];exact ((za2 _ _).alloc (by simp) _).alloc (by simp;omega) _
 have p0:zan g (.string ⟨#[]⟩) (.slice none 0 0) (.slice none 0 0) W0:=by rw[hW0,hg];exact za0 (za2 _ _) (za0 (za2 _ _) (za6 rfl))
 have p1:PBox (g+1) a n c 0 fin 0 W0:=by rw[hW0,hg];exact za0 (za2 _ _) (za6 (by simp))
 have p2:zan (g+1+1) (.string ⟨#[]⟩) (.slice none 0 0) (.slice none 0 0) W0:=by rw[hW0,hg];exact za6 (by simp)
 have hs0:W0.heap.size=g+3:=by rw[hW0,hg];simp
 have hwg:w.heap.size≤g:=Nat.le_of_eq hg.symm
 obtain⟨⟨c0,c1,c2,c3⟩,_⟩:=zac p1
 have hW:=zq9 (zaf zbg _ _ _ _ hws hb0) hn hz hcol 0
 obtain⟨Hws,Hz,Hcol,Hb0,Hp0,Hp1,Hp2,HW⟩:=hd8 hws hz hcol hb0 p0 p1 p2 hW;clear hws hz hcol hb0 p0 p1 p2 hW
 go_enter Tryz.func37,Tryz.ntmps37
 go_upto_region 3 with (fail)
 rw[← hW0,← hg]
 clear hW0 hg
 go_wp2_with fail
 refine HW.out.mono ?_
 rintro e w1 ⟨x,b1,n1,c1',b2,n2,c2',i',bad,rfl,hfin,hb1⟩
 obtain⟨h1,hh1⟩ : ∃ z,z=w1.heap.size:=⟨_,rfl⟩
 obtain⟨w2,hw2⟩ : ∃ W,W=(w1.alloc (.cells #[.string x,.slice b1 n1 c1',.slice b2 n2 c2'] 51)).alloc (.cells #[.slice a n c,.int .i64 i',.int .i64 fin,.int .i64 bad] 113):=⟨_,rfl⟩
 have hb12:Below w1.heap.size w1 w2:=by rw[hw2];exact (za2 _ _).alloc (by simp) _
 have hb02:=hb1.trans (hb12.mono hb1.size)
 have s0:zan h1 (.string x) (.slice b1 n1 c1') (.slice b2 n2 c2') w2:=by rw[hw2,hh1];exact za0 (za2 _ _) (za6 rfl)
 have s1:PBox (h1+1) a n c i' fin bad w2:=by rw[hw2,hh1];exact za6 (by simp)
 have q0:=za0 hb02 Hp0.out
 have q1:=za0 hb02 Hp1.out
 have q2:=za0 hb02 Hp2.out
 have hlt:g+1+1 < h1:=by have:=hb1.size;omega
 have hbw2:=Hb0.out.trans (hb02.mono Hb0.out.size)
 obtain⟨x0,x1,x2,_,_,_⟩:=zag s0
 obtain⟨⟨y0,y1,y2,y3⟩,_⟩:=zac s1
 obtain⟨_,fp0,fp1,fp2,fp3⟩:=zac q1
 obtain⟨_,_,_,fs0,fs1,fs2⟩:=zag q2
 obtain⟨_,_,_,fr0,fr1,fr2⟩:=zag q0
 have d1:¬ h1=g:=by omega
 have d2:¬ h1=g+1:=by omega
 have d3:¬ h1=g+1+1:=by omega
 clear c0 c1 c2 c3
 obtain⟨Hfin,Hb1,Hb12,Hb02,Hs0,Hs1,Hq0,Hq1,Hq2,Hbw2⟩:=hd10 hfin hb1 hb12 hb02 s0 s1 q0 q1 q2 hbw2;clear hfin hb1 hb12 hb02 s0 s1 q0 q1 q2 hbw2
 by_cases hbad:bad=0
 ·subst hbad
  go_upto_region 5 with (fail)
  rw[← hw2,← hh1]
  clear hw2 hh1
  go_wp2_with fail
  go_region
  go_wp2_with fail
  obtain⟨w3,hw3⟩ : ∃ W,W=((((((w2.setCell ⟨g+1+1,0,none⟩ (.string x)).setCell ⟨g+1+1,1,none⟩ (.slice b1 n1 c1')).setCell ⟨g+1+1,2,none⟩ (.slice b2 n2 c2')).setCell ⟨g+1,0,none⟩ (.slice a n c)).setCell ⟨g+1,1,none⟩ (.int .i64 i')).setCell ⟨g+1,2,none⟩ (.int .i64 fin)).setCell ⟨g+1,3,none⟩ (.int .i64 0):=⟨_,rfl⟩
  rw[← hw3]
  have hT3:Frm (fun z=>z=g+1+1∨z=g+1) w2 w3:=by
   have m1:=(Frm.refl (fun z=>z=g+1+1∨z=g+1) w2).setCell (p:=⟨g+1+1,0,none⟩) (.inr (.inl rfl)) (.string x)
   have m2:=m1.setCell (p:=⟨g+1+1,1,none⟩) (.inr (.inl rfl)) (.slice b1 n1 c1')
   have m3:=m2.setCell (p:=⟨g+1+1,2,none⟩) (.inr (.inl rfl)) (.slice b2 n2 c2')
   have m4:=m3.setCell (p:=⟨g+1,0,none⟩) (.inr (.inr rfl)) (.slice a n c)
   have m5:=m4.setCell (p:=⟨g+1,1,none⟩) (.inr (.inr rfl)) (.int .i64 (i':Int))
   have m6:=m5.setCell (p:=⟨g+1,2,none⟩) (.inr (.inr rfl)) (.int .i64 fin)
   have m7:=m6.setCell (p:=⟨g+1,3,none⟩) (.inr (.inr rfl)) (.int .i64 0)
   rw[hw3]
   exact m7
  clear hw3
  have r0:=zas hT3 Hq0.out (by omega)
  have hno3:No2 w2 (fun z=>z=g+1+1∨z=g+1):=by
   rintro z (rfl | rfl)
   ·exact zau Hq2.out (by decide) (by decide)
   exact zau Hq1.out (by decide) (by decide)
  have hbw3:Below w.heap.size w w3:=Hbw2.out.trans (hT3.below Hbw2.out.size (by rintro k (rfl | rfl) <;> omega))
  obtain⟨w4,hw4⟩ : ∃ W,W=((w3.setCell ⟨g,0,none⟩ (.string x)).setCell ⟨g,1,none⟩ (.slice b1 n1 c1')).setCell ⟨g,2,none⟩ (.slice b2 n2 c2'):=⟨_,rfl⟩
  rw[← hw4]
  have hT4:Frm (fun z=>z=g) w3 w4:=by rw[hw4];exact za9 (za9 (za9 (Frm.refl _ _) 0 _) 1 _) 2 _
  have r4:zan g (.string x) (.slice b1 n1 c1') (.slice b2 n2 c2') w4:=by
   have k0:=heap_setCell_same _ g 0 _ _ (.string x) r0
   have k1:=heap_setCell_same _ g 1 _ _ (.slice b1 n1 c1') k0
   have k2:=heap_setCell_same _ g 2 _ _ (.slice b2 n2 c2') k1
   rw[hw4]
   exact k2
  clear hw4
  have hno4:No2 w3 (fun z=>z=g):=by
   rintro z rfl
   exact zau r0 (by decide) (by decide)
  have hbw4:Below w.heap.size w w4.drew:=Below.drew (hbw3.trans (hT4.below hbw3.size (by rintro k rfl;omega)))
  have r4d:zan g (.string x) (.slice b1 n1 c1') (.slice b2 n2 c2') w4.drew:=r4
  have hT4d:=hT4.drew
  generalize w4.drew=w5 at hbw4 r4d hT4d ⊢
  refine bodyPost_ret (zcs (g:=g) rfl rfl rfl rfl r4d Tryz.underlying51 rfl (by kernel_rfl)) rfl ?_
  rcases Hfin.out with⟨sp,h1',_,hx,hv1,hv2⟩ | ⟨j,hj,hjc⟩
  ·subst hx
   exact⟨.inl ⟨sp,i',b1,n1,c1',b2,n2,c2',h1',rfl,zaq (zaq (zap hv1 Hb12.out) hT3 hno3) hT4d hno4,zat (zat (zaz hv2 Hb12.out) hT3 hno3) hT4d hno4⟩,hbw4⟩
  exact absurd hjc.symm (Hcol.out j)
 have k1:(bad != 0)=true:=by simpa using hbad
 have Hbad:=hd hbad;clear hbad
 go_upto_region 5 with (fail)
 rw[← hw2,← hh1]
 clear hw2 hh1
 go_wp2_with fail
 go_region
 go_wp2_with fail
 obtain⟨w3,hw3⟩ : ∃ W,W=((((((w2.setCell ⟨g+1+1,0,none⟩ (.string x)).setCell ⟨g+1+1,1,none⟩ (.slice b1 n1 c1')).setCell ⟨g+1+1,2,none⟩ (.slice b2 n2 c2')).setCell ⟨g+1,0,none⟩ (.slice a n c)).setCell ⟨g+1,1,none⟩ (.int .i64 i')).setCell ⟨g+1,2,none⟩ (.int .i64 fin)).setCell ⟨g+1,3,none⟩ (.int .i64 bad):=⟨_,rfl⟩
 rw[← hw3]
 have hT3:Frm (fun z=>z=g+1+1∨z=g+1) w2 w3:=by
  have m1:=(Frm.refl (fun z=>z=g+1+1∨z=g+1) w2).setCell (p:=⟨g+1+1,0,none⟩) (.inr (.inl rfl)) (.string x)
  have m2:=m1.setCell (p:=⟨g+1+1,1,none⟩) (.inr (.inl rfl)) (.slice b1 n1 c1')
  have m3:=m2.setCell (p:=⟨g+1+1,2,none⟩) (.inr (.inl rfl)) (.slice b2 n2 c2')
  have m4:=m3.setCell (p:=⟨g+1,0,none⟩) (.inr (.inr rfl)) (.slice a n c)
  have m5:=m4.setCell (p:=⟨g+1,1,none⟩) (.inr (.inr rfl)) (.int .i64 (i':Int))
  have m6:=m5.setCell (p:=⟨g+1,2,none⟩) (.inr (.inr rfl)) (.int .i64 fin)
  have m7:=m6.setCell (p:=⟨g+1,3,none⟩) (.inr (.inr rfl)) (.int .i64 bad)
  rw[hw3]
  exact m7
 clear hw3
 have r0:=zas hT3 Hq0.out (by omega)
 have hno3:No2 w2 (fun z=>z=g+1+1∨z=g+1):=by
  rintro z (rfl | rfl)
  ·exact zau Hq2.out (by decide) (by decide)
  exact zau Hq1.out (by decide) (by decide)
 have hbw3:Below w.heap.size w w3:=Hbw2.out.trans (hT3.below Hbw2.out.size (by rintro k (rfl | rfl) <;> omega))
 obtain⟨w4,hw4⟩ : ∃ W,W=((w3.setCell ⟨g,0,none⟩ (.string ⟨#[]⟩)).setCell ⟨g,1,none⟩ (.slice none 0 0)).setCell ⟨g,2,none⟩ (.slice none 0 0):=⟨_,rfl⟩
 rw[← hw4]
 have hT4:Frm (fun z=>z=g) w3 w4:=by rw[hw4];exact za9 (za9 (za9 (Frm.refl _ _) 0 _) 1 _) 2 _
 have r4:zan g (.string ⟨#[]⟩) (.slice none 0 0) (.slice none 0 0) w4:=by
  have k0:=heap_setCell_same _ g 0 _ _ (.string ⟨#[]⟩) r0
  have k1:=heap_setCell_same _ g 1 _ _ (.slice none 0 0) k0
  have k2:=heap_setCell_same _ g 2 _ _ (.slice none 0 0) k1
  rw[hw4]
  exact k2
 clear hw4
 have hno4:No2 w3 (fun z=>z=g):=by
  rintro z rfl
  exact zau r0 (by decide) (by decide)
 have hbw4:Below w.heap.size w w4.drew:=Below.drew (hbw3.trans (hT4.below hbw3.size (by rintro k rfl;omega)))
 have r4d:zan g (.string ⟨#[]⟩) (.slice none 0 0) (.slice none 0 0) w4.drew:=r4
 have hT4d:=hT4.drew
 generalize w4.drew=w5 at hbw4 r4d hT4d ⊢
 refine bodyPost_ret (zcs (g:=g) rfl rfl rfl rfl r4d Tryz.underlying51 rfl (by kernel_rfl)) rfl ?_
 rcases Hfin.out with⟨_,_,h,_⟩ | ⟨j,hj,hjc⟩
 ·exact absurd h Hbad.out
 exact⟨.inr ⟨j,hj,by rw[← hjc];rfl⟩,hbw4⟩
end
end Go.Proofs.YteailgjiifdgcaaGreatDoor
