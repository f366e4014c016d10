/- Walks and plain facts. Texts merged: RqT, LexR, LexD. Condition: none beyond what each says. -/
import Derived.Test.YteailgjiifdgcaaGreatDoorRequestParsesAll11
set_option linter.unusedVariables false
set_option linter.unusedSimpArgs false
set_option maxRecDepth 10000
set_option maxHeartbeats 4000000
namespace Go.Proofs.YteailgjiifdgcaaGreatDoor
section
open Go.Shelf Go.RowKit Go.Lib VerN VarM
open LexM (Wd Ln zgv)
attribute [local go_sem ↓] Go.wp_at_zero Go.wp_at_succ
theorem zp1 {ws:List Wd}:∀ (f i:Nat) (out:List Setg),i+f≤ws.length→(setsW ws f i out).2≤ws.length
 | 0,i,out,h=>h
 | f+1,i,out,h=>by
  unfold setsW
  split
  ·split
   ·exact zp1 f (i+1) _ (by omega)
   show i≤_;omega
  show i≤_;omega
theorem zor {ws:List Wd} {s:Spc3} {j:Nat} (h:zbb ws 0=(some s,j)):j≤ws.length:=by
 by_cases hb:ze2 (zbw ws 0)=true
 ·have h0:0 < ws.length:=by
   apply Nat.pos_of_ne_zero
   intro e
   rw[zd9 (by omega),zjq] at hb
   cases hb
  unfold zbb at h
  rw[if_pos hb] at h
  have e:=congrArg Prod.snd h
  rw[← show (zbf ws (0+1) []).2=j from e]
  exact zp1 _ _ _ (by omega)
 unfold zbb at h
 rw[if_neg hb] at h
 cases h
def LineCut (W3:World) (fin:Int) (rest:List Wd) (v5 v6 v7:Value) (W:World):Prop :=
 ∃ g5 x b1 n1 c1 b2 n2 c2,∃ (j:Nat) (col:Int),v5 = .pointer (some ⟨g5,0,none⟩)∧v6 = .int .i64 j∧v7 = .int .i64 col∧zan g5 (.string x) (.slice b1 n1 c1) (.slice b2 n2 c2) W∧W3.heap.size≤g5∧Below W3.heap.size W3 W ∧
  ((∃ s,zbb rest 0=(some s,j)∧col=0∧x=s.1∧zdk W (.slice b1 n1 c1) s.2.1∧zbj W (.slice b2 n2 c2) s.2.2)∨(∃ j',zbb rest 0=(none,j')∧col=zb2 rest fin j'))
theorem zr7 {w:World} {a:Option Addr} {n c:Nat} {l:Ln} (hws:RWds w [.slice a n c] l.2) (hl:zgv 70000 l):Calls Tryz.prog 72 #[.agg #[.int .i64 l.1,.slice a n c]] w (zq5 l w):=by
 obtain⟨ln,ws⟩:=l
 obtain⟨hl1,hne,h40,hgood⟩:=hl
 simp only at hws hl1 hne h40 hgood ⊢
 obtain⟨hn,hz,hat⟩:=zen hws
 have hn0:0 < n:=by
  rw[hn]
  cases ws with
  | nil=>exact absurd rfl hne
  | cons x r=>simp
 obtain⟨x,hx,hx2⟩:=zme hn hn0
 obtain⟨b,off,rfl,d0,d1,_⟩:=hat (n - 1) x hx
 obtain⟨y,hy⟩ : ∃ y,ws[0]? = some y:=⟨ws[0],List.getElem?_eq_getElem _⟩
 obtain⟨_,_,e,f0,f1,_⟩:=hat 0 y hy
 injection e with e
 injection e with e1 e2
 subst e1 e2
 simp only[Nat.zero_mul,Nat.add_zero] at f0 f1
 have hgx:=hgood x (List.mem_of_getElem? hx)
 have hgy:=hgood y (List.mem_of_getElem? hy)
 obtain⟨xc,hxc⟩ : ∃ z,z=x.1:=⟨_,rfl⟩
 obtain⟨xt,hxt⟩ : ∃ z:ByteArray,z=⟨x.2.toArray⟩:=⟨_,rfl⟩
 obtain⟨yc,hyc⟩ : ∃ z,z=y.1:=⟨_,rfl⟩
 obtain⟨yt,hyt⟩ : ∃ z:ByteArray,z=⟨y.2.toArray⟩:=⟨_,rfl⟩
 rw[← hxc] at d0
 rw[← hxt] at d1
 rw[← hyc] at f0
 rw[← hyt] at f1
 have hxc1:1≤xc∧xc≤70000:=by rw[hxc];exact⟨hgx.1,hgx.2.1⟩
 have hyc1:1≤yc∧yc≤70000:=by rw[hyc];exact⟨hgy.1,hgy.2.1⟩
 have hxz:xt.size≤70000:=by rw[hxt];show x.2.toArray.size≤_;rw[List.size_toArray];exact hgx.2.2.2
 have hpk:zbw ws 0=yt:=by unfold zbw;rw[hy,hyt]
 have hcl0:zb2 ws (zd4 (ln,ws)) 0=yc:=by unfold zb2;rw[hy,hyc]
 have hfin:zd4 (ln,ws)=xc+xt.size:=by unfold zd4;simp only[hx2];rw[hxc,hxt];show x.1+(x.2.length:Int)=x.1+((x.2.toArray.size:Nat):Int);rw[List.size_toArray]
 have hcol:∀ j,zb2 (ws.drop 1) (zd4 (ln,ws)) j≠0:=fun j=>by
  unfold zb2
  cases hj:(ws.drop 1)[j]? with
  | none=>simp only;omega
  | some z =>
   simp only
   have:=(hgood z (List.mem_of_mem_drop (List.mem_of_getElem? hj))).1
   omega
 have hrest:=fun (W:World) (k:Below w.heap.size w W) (ad:Option Addr) (nn cp:Nat) (h:RWds W [.slice ad nn cp] (ws.drop 1)) (hnn:nn≤1000)=>zqg (w:=W) (fin:=zd4 (ln,ws)) h hnn (fun z hz=>(hgood z (List.mem_of_mem_drop hz)).2.2.2) hcol
 rw[hfin] at hrest hcol
 have heq:=Txt.eq_dec yt zlx
 have k1:((n:Int) - 1)=((n - 1:Nat):Int):=by omega
 have k2:(0:Int)≤((n - 1:Nat):Int):=by omega
 have k3:((n - 1:Nat):Int) < (n:Int):=by omega
 have k4:(0:Int) < (n:Int):=by omega
 have hbw:b < w.heap.size:=World.block_lt_of_cell? w _ d0
 obtain⟨g,hg⟩ : ∃ g,g=w.heap.size:=⟨_,rfl⟩
 obtain⟨W2,hW2⟩ : ∃ W,W=(w.alloc (.cells #[.int .i64 ln,.slice (some ⟨b,off,none⟩) n c] 62)).alloc (.cells #[.string ⟨#[]⟩,.slice none 0 0,.slice none 0 0,.int .i64 0] 101):=⟨_,rfl⟩
 have hb2:Below w.heap.size w W2:=by rw[hW2];exact (za2 _ _).alloc (by simp) _
 have p0:W2.heap[g]? = some (.cells #[.int .i64 ln,.slice (some ⟨b,off,none⟩) n c] 62 (0,0)):=by rw[hW2,hg];exact za0 (za2 _ _) (za6 rfl)
 have p1:zj0 (g+1) (.string ⟨#[]⟩) (.slice none 0 0) (.slice none 0 0) (.int .i64 0) W2:=by rw[hW2,hg];exact za6 (by simp)
 have hs2:W2.heap.size=g+2:=by rw[hW2,hg];simp
 replace d0:=cell_later hb2 d0
 replace d1:=cell_later hb2 d1
 have l0:=za4 p0 0
 have l1:=za4 p0 1
 simp only[List.getElem?_toArray,List.getElem?_cons_zero,List.getElem?_cons_succ] at l0 l1
 have hwg:w.heap.size≤g:=Nat.le_of_eq hg.symm
 have hne1:¬ b=g+1:=by omega
 have hne2:¬ g+1=b:=by omega
 obtain⟨m,hm⟩ : ∃ m,m=n - 1:=⟨_,rfl⟩
 rw[← hm] at d0 d1 k1 k2 k3
 obtain⟨W3,hW3⟩ : ∃ W,W=W2.alloc (.cells #[.int .i64 xc,.string xt] 64):=⟨_,rfl⟩
 have hb23:Below W2.heap.size W2 W3:=by rw[hW3];exact za2 _ _
 have hb3:=hb2.trans (hb23.mono hb2.size)
 have r0:=za0 hb23 p0
 have r1:=za0 hb23 p1
 have r2:W3.heap[g+2]? = some (.cells #[.int .i64 xc,.string xt] 64 (0,0)):=by rw[hW3,← hs2];exact heap_alloc_new _ _
 have hs3:W3.heap.size=g+3:=by rw[hW3];simp[hs2]
 have f0:=cell_later hb3 f0
 have f1:=cell_later hb3 f1
 have m0:=za4 r0 0
 have m1:=za4 r0 1
 simp only[List.getElem?_toArray,List.getElem?_cons_zero,List.getElem?_cons_succ] at m0 m1
 obtain⟨_,z0,z1,z2,z3⟩:=zc9 r1
 obtain⟨Hws,Hat,Hne,Hgood,Hx,Hx2,Hy,Hgx,Hgy,Hxc,Hxt,Hyc,Hyt,Hpk,Hcl0,Hfin⟩:=hd16 hws hat hne hgood hx hx2 hy hgx hgy hxc hxt hyc hyt hpk hcl0 hfin;obtain⟨Hrest,Hcol,Hn,Hl1,Hb2,Hp0,Hp1,Hm,Hb23,Hb3,Hr0,Hr1,Hr2,Hs3⟩:=hd14 hrest hcol hn hl1 hb2 p0 p1 hm hb23 hb3 r0 r1 r2 hs3;clear hws hat hne hgood hx hx2 hy hgx hgy hxc hxt hyc hyt hpk hcl0 hfin hrest hcol hn hl1 hb2 p0 p1 hm hb23 hb3 r0 r1 r2 hs3
 have hrt:zlx.toList = [114,111,111,116]:=by rw[Lib.toList_data];rfl
 rw[hrt] at heq
 clear hrt
 have hcap:n≤c:=by
  obtain⟨_,_,hv,hc,_⟩:=Hws.out
  simp only[List.cons.injEq,and_true,Value.slice.injEq] at hv
  omega
 by_cases hc1:c=1
 ·subst hc1
  have hrd:RWds w [.slice (some ⟨b,off,none⟩) 0 0] (ws.drop 1):=by
   have e:ws.drop 1 = []:=List.drop_eq_nil_of_le (by rw[← Hn.out];omega)
   rw[e]
   exact⟨_,0,rfl,Nat.le_refl _,Nat.zero_le _,fun i x hi=>by simp at hi⟩
  have k16:(1:Int)≤(n:Int):=by omega
  have k17:IntKind.i64.wrap (xc+(xt.size:Int))=xc+(xt.size:Int):=IntWalk.i64_in _ (by omega)
  have hR:=fun (W:World) (k:Below w.heap.size w W)=>Hrest.out W k _ _ _ (zaf zbg _ _ _ _ hrd k) (by have:=Hn.out;omega)
  obtain⟨Hrd,HR⟩:=hd2 hrd hR;clear hrd hR
  go_enter Tryz.func72,Tryz.ntmps72
  go_upto_region 1 with (fail)
  rw[← hW2,← hg]
  clear hW2 hg
  go_upto_region 2 with (fail)
  rw[← hW3]
  clear hW3 hs2 l0 l1 d0 d1
  have q2:=za4 Hr2.out 0
  have q3:=za4 Hr2.out 1
  simp only[List.getElem?_toArray,List.getElem?_cons_zero,List.getElem?_cons_succ] at q2 q3
  go_cut [5,6,7] (fun v5 v6 v7 W=>LineCut W3 (xc+xt.size) (ws.drop 1) v5 v6 v7 W)
  case first =>
   have hbD:Below W3.heap.size W3 W3.drew:=Below.drew (Below.refl _ _)
   have hSS:∀ W,Below W3.heap.size W3 W→W.cell? ⟨g,1,none⟩=some (.slice (some ⟨b,off,none⟩) n 1)∧W.cell? ⟨g+2,0,none⟩=some (.int .i64 xc)∧W.cell? ⟨g+2,1,none⟩=some (.string xt):=fun W k=>⟨cell_later k m1,cell_later k q2,cell_later k q3⟩
   have hbA:Below W3.heap.size W3 (W3.drew.alloc (.cells #[.string ⟨#[]⟩,.slice none 0 0,.slice none 0 0] 51)):=hbD.alloc hbD.size _
   have hna:zan W3.heap.size (.string ⟨#[]⟩) (.slice none 0 0) (.slice none 0 0) (W3.drew.alloc (.cells #[.string ⟨#[]⟩,.slice none 0 0,.slice none 0 0] 51)):=heap_alloc_new W3.drew _
   obtain⟨HbD,HSS,HbA,Hna⟩:=hd4 hbD hSS hbA hna;clear hbD hSS hbA hna
   refine wp_region_held_drew (S:=fun w'=>w'.cell? ⟨g,1,none⟩=some (.slice (some ⟨b,off,none⟩) n 1)∧w'.cell? ⟨g+2,0,none⟩=some (.int .i64 xc)∧w'.cell? ⟨g+2,1,none⟩=some (.string xt)) (by kernel_rfl) (by exact HSS.out _ HbD.out) (fun hHeld=>?_)
   refine wpAnyH_take (i:=0) (v:=?_) rfl (by kernel_rfl) (by kernel_rfl) (by kernel_rfl) (fun _ _ _ h=>h) (Or.inl ⟨by kernel_rfl,?_⟩) (by assumption) ?_
   rotate_left
   ·(intro w hSw;(try dsimp only at hSw);(try obtain⟨e0,e1,e2⟩:=hSw);go_simp;try with_reducible rfl)
   try simp only[Act.put,List.getElem_toArray,List.getElem_cons_succ,List.getElem_cons_zero,lA,lB,lC]
   refine wpAnyH_take (i:=1) (v:=?_) rfl (by kernel_rfl) (by kernel_rfl) (by kernel_rfl) (fun _ _ _ h=>h) (Or.inl ⟨by kernel_rfl,?_⟩) (by assumption) ?_
   rotate_left
   ·(intro w hSw;(try dsimp only at hSw);(try obtain⟨e0,e1,e2⟩:=hSw);go_simp;try with_reducible rfl)
   try simp only[Act.put,List.getElem_toArray,List.getElem_cons_succ,List.getElem_cons_zero,lA,lB,lC]
   refine wpAnyH_take (i:=2) (v:=?_) rfl (by kernel_rfl) (by kernel_rfl) (by kernel_rfl) (fun _ _ _ h=>h) (Or.inl ⟨by kernel_rfl,?_⟩) (by assumption) ?_
   rotate_left
   ·(intro w hSw;(try dsimp only at hSw);(try obtain⟨e0,e1,e2⟩:=hSw);go_simp;try with_reducible rfl)
   try simp only[Act.put,List.getElem_toArray,List.getElem_cons_succ,List.getElem_cons_zero,lA,lB,lC]
   refine wpAnyH_take (i:=3) (v:=?_) rfl (by kernel_rfl) (by kernel_rfl) (by kernel_rfl) (fun _ _ _ h=>h) (Or.inl ⟨by kernel_rfl,?_⟩) (by assumption) ?_
   rotate_left
   ·(intro w hSw;(try dsimp only at hSw);(try obtain⟨e0,e1,e2⟩:=hSw);go_simp;try with_reducible rfl)
   try simp only[Act.put,List.getElem_toArray,List.getElem_cons_succ,List.getElem_cons_zero,lA,lB,lC]
   refine wpAnyH_take (i:=4) (v:=?_) rfl (by kernel_rfl) (by kernel_rfl) (by kernel_rfl) (fun _ _ _ h=>h) (Or.inl ⟨by kernel_rfl,?_⟩) (by assumption) ?_
   rotate_left
   ·(intro w hSw;(try dsimp only at hSw);(try obtain⟨e0,e1,e2⟩:=hSw);go_simp;try with_reducible rfl)
   try simp only[Act.put,List.getElem_toArray,List.getElem_cons_succ,List.getElem_cons_zero,lA,lB,lC]
   refine wpAnyH_take (i:=5) (v:=?_) rfl (by kernel_rfl) (by kernel_rfl) (by kernel_rfl) (fun _ _ _ h=>h) (Or.inl ⟨by kernel_rfl,?_⟩) (by assumption) ?_
   rotate_left
   ·(intro w hSw;(try dsimp only at hSw);(try obtain⟨e0,e1,e2⟩:=hSw);go_simp;try with_reducible rfl)
   try simp only[Act.put,List.getElem_toArray,List.getElem_cons_succ,List.getElem_cons_zero,lA,lB,lC]
   refine wpAnyH_take (i:=6) (v:=?_) rfl (by kernel_rfl) (by kernel_rfl) (by kernel_rfl) (fun _ _ _ h=>h) (Or.inl ⟨by kernel_rfl,?_⟩) (by assumption) ?_
   rotate_left
   ·(intro w hSw;(try dsimp only at hSw);(try obtain⟨e0,e1,e2⟩:=hSw);go_simp;try with_reducible rfl)
   try simp only[Act.put,List.getElem_toArray,List.getElem_cons_succ,List.getElem_cons_zero,lA,lB,lC]
   refine wpAnyH_take (i:=7) (v:=?_) rfl (by kernel_rfl) (by kernel_rfl) (by kernel_rfl) (fun _ _ _ h=>h) (Or.inl ⟨by kernel_rfl,?_⟩) (by assumption) ?_
   rotate_left
   ·(intro w hSw;(try dsimp only at hSw);(try obtain⟨e0,e1,e2⟩:=hSw);go_simp;try with_reducible rfl)
   try simp only[Act.put,List.getElem_toArray,List.getElem_cons_succ,List.getElem_cons_zero,lA,lB,lC]
   refine wpAnyH_take (i:=8) (v:=?_) rfl (by kernel_rfl) (by kernel_rfl) (by kernel_rfl) (fun _ _ _ h=>h) (Or.inl ⟨by kernel_rfl,?_⟩) (by assumption) ?_
   rotate_left
   ·(intro w hSw;(try dsimp only at hSw);(try obtain⟨e0,e1,e2⟩:=hSw);go_simp;try with_reducible rfl)
   try simp only[Act.put,List.getElem_toArray,List.getElem_cons_succ,List.getElem_cons_zero,lA,lB,lC]
   refine wpAnyH_ready (rs:=[9,14]) (by kernel_rfl) (by simp) ?_
   refine AllReadyH.cons rfl (fun K hK=>?_) (AllReadyH.cons rfl (fun K hK=>?_) AllReadyH.nil)
   ·go_simp
    refine (HR.out _ (Hb3.out.trans (HbD.out.mono Hb3.out.size))).mono ?_
    rintro e w4 ⟨⟨s,j,b1,n1,c1',b2,n2,c2',hw,rfl,hv1,hv2⟩ | ⟨j,hw,rfl⟩,hb4⟩
    ·have hbW3:=HbD.out.trans (hb4.mono HbD.out.size)
     have hS4:=HSS.out _ hbW3
     go_wp2_with fail
     refine hK.out _ _ (by exact hS4) (fun hHeld=>?_)
     clear hK K
     try simp only[Act.put,List.getElem_toArray,List.getElem_cons_succ,List.getElem_cons_zero,lA,lB,lC]
     refine wpAnyH_take (i:=10) (v:=?_) rfl (by kernel_rfl) (by kernel_rfl) (by kernel_rfl) (fun _ _ _ h=>h) (Or.inl ⟨by kernel_rfl,?_⟩) (by assumption) ?_
     rotate_left
     ·(intro w hSw;(try dsimp only at hSw);(try obtain⟨e0,e1,e2⟩:=hSw);go_simp;try with_reducible rfl)
     try simp only[Act.put,List.getElem_toArray,List.getElem_cons_succ,List.getElem_cons_zero,lA,lB,lC]
     refine wpAnyH_take (i:=11) (v:=?_) rfl (by kernel_rfl) (by kernel_rfl) (by kernel_rfl) (fun _ _ _ h=>h) (Or.inl ⟨by kernel_rfl,?_⟩) (by assumption) ?_
     rotate_left
     ·(intro w hSw;(try dsimp only at hSw);(try obtain⟨e0,e1,e2⟩:=hSw);go_simp;try with_reducible rfl)
     try simp only[Act.put,List.getElem_toArray,List.getElem_cons_succ,List.getElem_cons_zero,lA,lB,lC]
     refine wpAnyH_take (i:=12) (v:=?_) rfl (by kernel_rfl) (by kernel_rfl) (by kernel_rfl) (fun _ _ _ h=>h) (Or.inl ⟨by kernel_rfl,?_⟩) (by assumption) ?_
     rotate_left
     ·(intro w hSw;(try dsimp only at hSw);(try obtain⟨e0,e1,e2⟩:=hSw);go_simp;try with_reducible rfl)
     try simp only[Act.put,List.getElem_toArray,List.getElem_cons_succ,List.getElem_cons_zero,lA,lB,lC]
     refine wpAnyH_take (i:=13) (v:=?_) rfl (by kernel_rfl) (by kernel_rfl) (by kernel_rfl) (fun _ _ _ h=>h) (Or.inl ⟨by kernel_rfl,?_⟩) (by assumption) ?_
     rotate_left
     ·(intro w hSw;(try dsimp only at hSw);(try obtain⟨e0,e1,e2⟩:=hSw);go_simp;try with_reducible rfl)
     try simp only[Act.put,List.getElem_toArray,List.getElem_cons_succ,List.getElem_cons_zero,lA,lB,lC]
     have hbW:Below w4.heap.size w4 (w4.alloc (.cells #[.string ⟨#[]⟩,.slice none 0 0,.slice none 0 0] 51)):=za2 _ _
     have hbB:=hbW3.trans (hbW.mono hbW3.size)
     have hSa:=HSS.out _ hbB
     have nbx:zan w4.heap.size (.string ⟨#[]⟩) (.slice none 0 0) (.slice none 0 0) (w4.alloc (.cells #[.string ⟨#[]⟩,.slice none 0 0,.slice none 0 0] 51)):=heap_alloc_new w4 _
     have hgB:W3.heap.size≤w4.heap.size:=hbW3.size
     refine wpAnyH_ready (rs:=[14]) (by kernel_rfl) (by simp) ?_
     refine AllReadyH.cons rfl (fun K hK=>?_) AllReadyH.nil
     go_simp
     refine hK.out _ _ (by exact hSa) (fun hHeld=>?_)
     clear hK K
     try simp only[Act.put,List.getElem_toArray,List.getElem_cons_succ,List.getElem_cons_zero,lA,lB,lC]
     obtain⟨_,_,_,fb0,fb1,fb2⟩:=zag nbx
     have hbX:Below w4.heap.size w4 (w4.alloc (.cells #[(.string s.1),(.slice b1 n1 c1'),(.slice b2 n2 c2')] 51)):=za2 _ _
     have hbS:=hbW3.trans (hbX.mono hbW3.size)
     have hSs:=HSS.out _ hbS
     have nst:zan w4.heap.size (.string s.1) (.slice b1 n1 c1') (.slice b2 n2 c2') (w4.alloc (.cells #[(.string s.1),(.slice b1 n1 c1'),(.slice b2 n2 c2')] 51)):=heap_alloc_new w4 _
     refine wpAnyH_ready (rs:=[15]) (by kernel_rfl) (by simp) ?_
     refine AllReadyH.cons rfl (fun K hK=>?_) AllReadyH.nil
     go_simp
     refine hK.out _ _ (by exact hSs) (fun hHeld=>?_)
     clear hK K
     try simp only[Act.put,List.getElem_toArray,List.getElem_cons_succ,List.getElem_cons_zero,lA,lB,lC]
     refine wpAnyH_take (i:=16) (v:=?_) rfl (by kernel_rfl) (by kernel_rfl) (by kernel_rfl) (fun _ _ _ h=>h) (Or.inl ⟨by kernel_rfl,?_⟩) (by assumption) ?_
     rotate_left
     ·(intro w hSw;(try dsimp only at hSw);(try obtain⟨e0,e1,e2⟩:=hSw);go_simp;try with_reducible rfl)
     try simp only[Act.put,List.getElem_toArray,List.getElem_cons_succ,List.getElem_cons_zero,lA,lB,lC]
     refine wpAnyH_take (i:=17) (v:=?_) rfl (by kernel_rfl) (by kernel_rfl) (by kernel_rfl) (fun _ _ _ h=>h) (Or.inl ⟨by kernel_rfl,?_⟩) (by assumption) ?_
     rotate_left
     ·(intro w hSw;(try dsimp only at hSw);(try obtain⟨e0,e1,e2⟩:=hSw);go_simp;try with_reducible rfl)
     try simp only[Act.put,List.getElem_toArray,List.getElem_cons_succ,List.getElem_cons_zero,lA,lB,lC]
     refine wpAnyH_done (by kernel_rfl) ?_ _
     go_simp
     go_wp2_with fail
     go_meet
     exact⟨_,_,_,_,_,_,_,_,_,_,rfl,rfl,rfl,nst,hgB,hbS,.inl ⟨s,hw,rfl,rfl,zap hv1 hbX,zaz hv2 hbX⟩⟩
    have hbW3:=HbD.out.trans (hb4.mono HbD.out.size)
    have hS4:=HSS.out _ hbW3
    obtain⟨cl,hcl⟩ : ∃ z,z=zb2 (ws.drop 1) (xc+xt.size) j:=⟨_,rfl⟩
    rw[← hcl]
    have Hcl:=hd hcl;clear hcl
    go_wp2_with fail
    refine hK.out _ _ (by exact hS4) (fun hHeld=>?_)
    clear hK K
    try simp only[Act.put,List.getElem_toArray,List.getElem_cons_succ,List.getElem_cons_zero,lA,lB,lC]
    refine wpAnyH_take (i:=10) (v:=?_) rfl (by kernel_rfl) (by kernel_rfl) (by kernel_rfl) (fun _ _ _ h=>h) (Or.inl ⟨by kernel_rfl,?_⟩) (by assumption) ?_
    rotate_left
    ·(intro w hSw;(try dsimp only at hSw);(try obtain⟨e0,e1,e2⟩:=hSw);go_simp;try with_reducible rfl)
    try simp only[Act.put,List.getElem_toArray,List.getElem_cons_succ,List.getElem_cons_zero,lA,lB,lC]
    refine wpAnyH_take (i:=11) (v:=?_) rfl (by kernel_rfl) (by kernel_rfl) (by kernel_rfl) (fun _ _ _ h=>h) (Or.inl ⟨by kernel_rfl,?_⟩) (by assumption) ?_
    rotate_left
    ·(intro w hSw;(try dsimp only at hSw);(try obtain⟨e0,e1,e2⟩:=hSw);go_simp;try with_reducible rfl)
    try simp only[Act.put,List.getElem_toArray,List.getElem_cons_succ,List.getElem_cons_zero,lA,lB,lC]
    refine wpAnyH_take (i:=12) (v:=?_) rfl (by kernel_rfl) (by kernel_rfl) (by kernel_rfl) (fun _ _ _ h=>h) (Or.inl ⟨by kernel_rfl,?_⟩) (by assumption) ?_
    rotate_left
    ·(intro w hSw;(try dsimp only at hSw);(try obtain⟨e0,e1,e2⟩:=hSw);go_simp;try with_reducible rfl)
    try simp only[Act.put,List.getElem_toArray,List.getElem_cons_succ,List.getElem_cons_zero,lA,lB,lC]
    refine wpAnyH_take (i:=13) (v:=?_) rfl (by kernel_rfl) (by kernel_rfl) (by kernel_rfl) (fun _ _ _ h=>h) (Or.inl ⟨by kernel_rfl,?_⟩) (by assumption) ?_
    rotate_left
    ·(intro w hSw;(try dsimp only at hSw);(try obtain⟨e0,e1,e2⟩:=hSw);go_simp;try with_reducible rfl)
    try simp only[Act.put,List.getElem_toArray,List.getElem_cons_succ,List.getElem_cons_zero,lA,lB,lC]
    have hbW:Below w4.heap.size w4 (w4.alloc (.cells #[.string ⟨#[]⟩,.slice none 0 0,.slice none 0 0] 51)):=za2 _ _
    have hbB:=hbW3.trans (hbW.mono hbW3.size)
    have hSa:=HSS.out _ hbB
    have nbx:zan w4.heap.size (.string ⟨#[]⟩) (.slice none 0 0) (.slice none 0 0) (w4.alloc (.cells #[.string ⟨#[]⟩,.slice none 0 0,.slice none 0 0] 51)):=heap_alloc_new w4 _
    have hgB:W3.heap.size≤w4.heap.size:=hbW3.size
    refine wpAnyH_ready (rs:=[14]) (by kernel_rfl) (by simp) ?_
    refine AllReadyH.cons rfl (fun K hK=>?_) AllReadyH.nil
    go_simp
    refine hK.out _ _ (by exact hSa) (fun hHeld=>?_)
    clear hK K
    try simp only[Act.put,List.getElem_toArray,List.getElem_cons_succ,List.getElem_cons_zero,lA,lB,lC]
    obtain⟨_,_,_,fb0,fb1,fb2⟩:=zag nbx
    have hbX:Below w4.heap.size w4 (w4.alloc (.cells #[(.string ⟨#[]⟩),(.slice none 0 0),(.slice none 0 0)] 51)):=za2 _ _
    have hbS:=hbW3.trans (hbX.mono hbW3.size)
    have hSs:=HSS.out _ hbS
    have nst:zan w4.heap.size (.string ⟨#[]⟩) (.slice none 0 0) (.slice none 0 0) (w4.alloc (.cells #[(.string ⟨#[]⟩),(.slice none 0 0),(.slice none 0 0)] 51)):=heap_alloc_new w4 _
    refine wpAnyH_ready (rs:=[15]) (by kernel_rfl) (by simp) ?_
    refine AllReadyH.cons rfl (fun K hK=>?_) AllReadyH.nil
    go_simp
    refine hK.out _ _ (by exact hSs) (fun hHeld=>?_)
    clear hK K
    try simp only[Act.put,List.getElem_toArray,List.getElem_cons_succ,List.getElem_cons_zero,lA,lB,lC]
    refine wpAnyH_take (i:=16) (v:=?_) rfl (by kernel_rfl) (by kernel_rfl) (by kernel_rfl) (fun _ _ _ h=>h) (Or.inl ⟨by kernel_rfl,?_⟩) (by assumption) ?_
    rotate_left
    ·(intro w hSw;(try dsimp only at hSw);(try obtain⟨e0,e1,e2⟩:=hSw);go_simp;try with_reducible rfl)
    try simp only[Act.put,List.getElem_toArray,List.getElem_cons_succ,List.getElem_cons_zero,lA,lB,lC]
    refine wpAnyH_take (i:=17) (v:=?_) rfl (by kernel_rfl) (by kernel_rfl) (by kernel_rfl) (fun _ _ _ h=>h) (Or.inl ⟨by kernel_rfl,?_⟩) (by assumption) ?_
    rotate_left
    ·(intro w hSw;(try dsimp only at hSw);(try obtain⟨e0,e1,e2⟩:=hSw);go_simp;try with_reducible rfl)
    try simp only[Act.put,List.getElem_toArray,List.getElem_cons_succ,List.getElem_cons_zero,lA,lB,lC]
    refine wpAnyH_done (by kernel_rfl) ?_ _
    go_simp
    go_wp2_with fail
    go_meet
    exact⟨_,_,_,_,_,_,_,_,0,_,rfl,by first | rfl | simp,rfl,nst,hgB,hbS,.inr ⟨j,hw,Hcl.out⟩⟩
   have hSa:=HSS.out _ HbA.out
   go_simp
   refine hK.out _ _ (by exact hSa) (fun hHeld=>?_)
   clear hK K
   try simp only[Act.put,List.getElem_toArray,List.getElem_cons_succ,List.getElem_cons_zero,lA,lB,lC]
   refine wpAnyH_ready (rs:=[9]) (by kernel_rfl) (by simp) ?_
   refine AllReadyH.cons rfl (fun K hK=>?_) AllReadyH.nil
   go_simp
   refine (HR.out _ (Hb3.out.trans (HbA.out.mono Hb3.out.size))).mono ?_
   rintro e w4 ⟨⟨s,j,b1,n1,c1',b2,n2,c2',hw,rfl,hv1,hv2⟩ | ⟨j,hw,rfl⟩,hb4⟩
   ·have hbB:Below W3.heap.size W3 w4:=HbA.out.trans (hb4.mono HbA.out.size)
    have hS4:=HSS.out _ hbB
    have nbx:=za0 hb4 Hna.out
    have hgB:W3.heap.size≤W3.heap.size:=Nat.le_refl _
    have hbW:=Below.refl w4.heap.size w4
    go_wp2_with fail
    refine hK.out _ _ (by exact hS4) (fun hHeld=>?_)
    clear hK K
    try simp only[Act.put,List.getElem_toArray,List.getElem_cons_succ,List.getElem_cons_zero,lA,lB,lC]
    refine wpAnyH_take (i:=10) (v:=?_) rfl (by kernel_rfl) (by kernel_rfl) (by kernel_rfl) (fun _ _ _ h=>h) (Or.inl ⟨by kernel_rfl,?_⟩) (by assumption) ?_
    rotate_left
    ·(intro w hSw;(try dsimp only at hSw);(try obtain⟨e0,e1,e2⟩:=hSw);go_simp;try with_reducible rfl)
    try simp only[Act.put,List.getElem_toArray,List.getElem_cons_succ,List.getElem_cons_zero,lA,lB,lC]
    refine wpAnyH_take (i:=11) (v:=?_) rfl (by kernel_rfl) (by kernel_rfl) (by kernel_rfl) (fun _ _ _ h=>h) (Or.inl ⟨by kernel_rfl,?_⟩) (by assumption) ?_
    rotate_left
    ·(intro w hSw;(try dsimp only at hSw);(try obtain⟨e0,e1,e2⟩:=hSw);go_simp;try with_reducible rfl)
    try simp only[Act.put,List.getElem_toArray,List.getElem_cons_succ,List.getElem_cons_zero,lA,lB,lC]
    refine wpAnyH_take (i:=12) (v:=?_) rfl (by kernel_rfl) (by kernel_rfl) (by kernel_rfl) (fun _ _ _ h=>h) (Or.inl ⟨by kernel_rfl,?_⟩) (by assumption) ?_
    rotate_left
    ·(intro w hSw;(try dsimp only at hSw);(try obtain⟨e0,e1,e2⟩:=hSw);go_simp;try with_reducible rfl)
    try simp only[Act.put,List.getElem_toArray,List.getElem_cons_succ,List.getElem_cons_zero,lA,lB,lC]
    refine wpAnyH_take (i:=13) (v:=?_) rfl (by kernel_rfl) (by kernel_rfl) (by kernel_rfl) (fun _ _ _ h=>h) (Or.inl ⟨by kernel_rfl,?_⟩) (by assumption) ?_
    rotate_left
    ·(intro w hSw;(try dsimp only at hSw);(try obtain⟨e0,e1,e2⟩:=hSw);go_simp;try with_reducible rfl)
    try simp only[Act.put,List.getElem_toArray,List.getElem_cons_succ,List.getElem_cons_zero,lA,lB,lC]
    obtain⟨_,_,_,fb0,fb1,fb2⟩:=zag nbx
    have hbS:Below W3.heap.size W3 (((w4.setCell ⟨W3.heap.size,0,none⟩ (.string s.1)).setCell ⟨W3.heap.size,1,none⟩ (.slice b1 n1 c1')).setCell ⟨W3.heap.size,2,none⟩ (.slice b2 n2 c2')):=((hbB.setCell (p:=⟨W3.heap.size,0,none⟩) hgB _).setCell (p:=⟨W3.heap.size,1,none⟩) hgB _).setCell (p:=⟨W3.heap.size,2,none⟩) hgB _
    have hSs:=HSS.out _ hbS
    have nst:zan (W3.heap.size) (.string s.1) (.slice b1 n1 c1') (.slice b2 n2 c2') (((w4.setCell ⟨W3.heap.size,0,none⟩ (.string s.1)).setCell ⟨W3.heap.size,1,none⟩ (.slice b1 n1 c1')).setCell ⟨W3.heap.size,2,none⟩ (.slice b2 n2 c2')):=by
     have k0:=heap_setCell_same _ (W3.heap.size) 0 _ _ (.string s.1) nbx
     have k1:=heap_setCell_same _ (W3.heap.size) 1 _ _ (.slice b1 n1 c1') k0
     exact heap_setCell_same _ (W3.heap.size) 2 _ _ (.slice b2 n2 c2') k1
    have hTS:Frm (fun z=>z=W3.heap.size) (w4) (((w4.setCell ⟨W3.heap.size,0,none⟩ (.string s.1)).setCell ⟨W3.heap.size,1,none⟩ (.slice b1 n1 c1')).setCell ⟨W3.heap.size,2,none⟩ (.slice b2 n2 c2')):=za9 (za9 (za9 (Frm.refl _ _) 0 _) 1 _) 2 _
    have hnS:No2 (w4) (fun z=>z=W3.heap.size):=by
     rintro z rfl
     exact zau nbx (by decide) (by decide)
    refine wpAnyH_ready (rs:=[15]) (by kernel_rfl) (by simp) ?_
    refine AllReadyH.cons rfl (fun K hK=>?_) AllReadyH.nil
    go_simp
    refine hK.out _ _ (by exact hSs) (fun hHeld=>?_)
    clear hK K
    try simp only[Act.put,List.getElem_toArray,List.getElem_cons_succ,List.getElem_cons_zero,lA,lB,lC]
    refine wpAnyH_take (i:=16) (v:=?_) rfl (by kernel_rfl) (by kernel_rfl) (by kernel_rfl) (fun _ _ _ h=>h) (Or.inl ⟨by kernel_rfl,?_⟩) (by assumption) ?_
    rotate_left
    ·(intro w hSw;(try dsimp only at hSw);(try obtain⟨e0,e1,e2⟩:=hSw);go_simp;try with_reducible rfl)
    try simp only[Act.put,List.getElem_toArray,List.getElem_cons_succ,List.getElem_cons_zero,lA,lB,lC]
    refine wpAnyH_take (i:=17) (v:=?_) rfl (by kernel_rfl) (by kernel_rfl) (by kernel_rfl) (fun _ _ _ h=>h) (Or.inl ⟨by kernel_rfl,?_⟩) (by assumption) ?_
    rotate_left
    ·(intro w hSw;(try dsimp only at hSw);(try obtain⟨e0,e1,e2⟩:=hSw);go_simp;try with_reducible rfl)
    try simp only[Act.put,List.getElem_toArray,List.getElem_cons_succ,List.getElem_cons_zero,lA,lB,lC]
    refine wpAnyH_done (by kernel_rfl) ?_ _
    go_simp
    go_wp2_with fail
    go_meet
    exact⟨_,_,_,_,_,_,_,_,_,_,rfl,rfl,rfl,nst,hgB,hbS,.inl ⟨s,hw,rfl,rfl,zaq (zap hv1 hbW) hTS hnS,zat (zaz hv2 hbW) hTS hnS⟩⟩
   have hbB:Below W3.heap.size W3 w4:=HbA.out.trans (hb4.mono HbA.out.size)
   have hS4:=HSS.out _ hbB
   have nbx:=za0 hb4 Hna.out
   have hgB:W3.heap.size≤W3.heap.size:=Nat.le_refl _
   have hbW:=Below.refl w4.heap.size w4
   obtain⟨cl,hcl⟩ : ∃ z,z=zb2 (ws.drop 1) (xc+xt.size) j:=⟨_,rfl⟩
   rw[← hcl]
   have Hcl:=hd hcl;clear hcl
   go_wp2_with fail
   refine hK.out _ _ (by exact hS4) (fun hHeld=>?_)
   clear hK K
   try simp only[Act.put,List.getElem_toArray,List.getElem_cons_succ,List.getElem_cons_zero,lA,lB,lC]
   refine wpAnyH_take (i:=10) (v:=?_) rfl (by kernel_rfl) (by kernel_rfl) (by kernel_rfl) (fun _ _ _ h=>h) (Or.inl ⟨by kernel_rfl,?_⟩) (by assumption) ?_
   rotate_left
   ·(intro w hSw;(try dsimp only at hSw);(try obtain⟨e0,e1,e2⟩:=hSw);go_simp;try with_reducible rfl)
   try simp only[Act.put,List.getElem_toArray,List.getElem_cons_succ,List.getElem_cons_zero,lA,lB,lC]
   refine wpAnyH_take (i:=11) (v:=?_) rfl (by kernel_rfl) (by kernel_rfl) (by kernel_rfl) (fun _ _ _ h=>h) (Or.inl ⟨by kernel_rfl,?_⟩) (by assumption) ?_
   rotate_left
   ·(intro w hSw;(try dsimp only at hSw);(try obtain⟨e0,e1,e2⟩:=hSw);go_simp;try with_reducible rfl)
   try simp only[Act.put,List.getElem_toArray,List.getElem_cons_succ,List.getElem_cons_zero,lA,lB,lC]
   refine wpAnyH_take (i:=12) (v:=?_) rfl (by kernel_rfl) (by kernel_rfl) (by kernel_rfl) (fun _ _ _ h=>h) (Or.inl ⟨by kernel_rfl,?_⟩) (by assumption) ?_
   rotate_left
   ·(intro w hSw;(try dsimp only at hSw);(try obtain⟨e0,e1,e2⟩:=hSw);go_simp;try with_reducible rfl)
   try simp only[Act.put,List.getElem_toArray,List.getElem_cons_succ,List.getElem_cons_zero,lA,lB,lC]
   refine wpAnyH_take (i:=13) (v:=?_) rfl (by kernel_rfl) (by kernel_rfl) (by kernel_rfl) (fun _ _ _ h=>h) (Or.inl ⟨by kernel_rfl,?_⟩) (by assumption) ?_
   rotate_left
   ·(intro w hSw;(try dsimp only at hSw);(try obtain⟨e0,e1,e2⟩:=hSw);go_simp;try with_reducible rfl)
   try simp only[Act.put,List.getElem_toArray,List.getElem_cons_succ,List.getElem_cons_zero,lA,lB,lC]
   obtain⟨_,_,_,fb0,fb1,fb2⟩:=zag nbx
   have hbS:Below W3.heap.size W3 (((w4.setCell ⟨W3.heap.size,0,none⟩ (.string ⟨#[]⟩)).setCell ⟨W3.heap.size,1,none⟩ (.slice none 0 0)).setCell ⟨W3.heap.size,2,none⟩ (.slice none 0 0)):=((hbB.setCell (p:=⟨W3.heap.size,0,none⟩) hgB _).setCell (p:=⟨W3.heap.size,1,none⟩) hgB _).setCell (p:=⟨W3.heap.size,2,none⟩) hgB _
   have hSs:=HSS.out _ hbS
   have nst:zan (W3.heap.size) (.string ⟨#[]⟩) (.slice none 0 0) (.slice none 0 0) (((w4.setCell ⟨W3.heap.size,0,none⟩ (.string ⟨#[]⟩)).setCell ⟨W3.heap.size,1,none⟩ (.slice none 0 0)).setCell ⟨W3.heap.size,2,none⟩ (.slice none 0 0)):=by
    have k0:=heap_setCell_same _ (W3.heap.size) 0 _ _ (.string ⟨#[]⟩) nbx
    have k1:=heap_setCell_same _ (W3.heap.size) 1 _ _ (.slice none 0 0) k0
    exact heap_setCell_same _ (W3.heap.size) 2 _ _ (.slice none 0 0) k1
   have hTS:Frm (fun z=>z=W3.heap.size) (w4) (((w4.setCell ⟨W3.heap.size,0,none⟩ (.string ⟨#[]⟩)).setCell ⟨W3.heap.size,1,none⟩ (.slice none 0 0)).setCell ⟨W3.heap.size,2,none⟩ (.slice none 0 0)):=za9 (za9 (za9 (Frm.refl _ _) 0 _) 1 _) 2 _
   have hnS:No2 (w4) (fun z=>z=W3.heap.size):=by
    rintro z rfl
    exact zau nbx (by decide) (by decide)
   refine wpAnyH_ready (rs:=[15]) (by kernel_rfl) (by simp) ?_
   refine AllReadyH.cons rfl (fun K hK=>?_) AllReadyH.nil
   go_simp
   refine hK.out _ _ (by exact hSs) (fun hHeld=>?_)
   clear hK K
   try simp only[Act.put,List.getElem_toArray,List.getElem_cons_succ,List.getElem_cons_zero,lA,lB,lC]
   refine wpAnyH_take (i:=16) (v:=?_) rfl (by kernel_rfl) (by kernel_rfl) (by kernel_rfl) (fun _ _ _ h=>h) (Or.inl ⟨by kernel_rfl,?_⟩) (by assumption) ?_
   rotate_left
   ·(intro w hSw;(try dsimp only at hSw);(try obtain⟨e0,e1,e2⟩:=hSw);go_simp;try with_reducible rfl)
   try simp only[Act.put,List.getElem_toArray,List.getElem_cons_succ,List.getElem_cons_zero,lA,lB,lC]
   refine wpAnyH_take (i:=17) (v:=?_) rfl (by kernel_rfl) (by kernel_rfl) (by kernel_rfl) (fun _ _ _ h=>h) (Or.inl ⟨by kernel_rfl,?_⟩) (by assumption) ?_
   rotate_left
   ·(intro w hSw;(try dsimp only at hSw);(try obtain⟨e0,e1,e2⟩:=hSw);go_simp;try with_reducible rfl)
   try simp only[Act.put,List.getElem_toArray,List.getElem_cons_succ,List.getElem_cons_zero,lA,lB,lC]
   refine wpAnyH_done (by kernel_rfl) ?_ _
   go_simp
   go_wp2_with fail
   go_meet
   exact⟨_,_,_,_,_,_,_,_,0,_,rfl,by first | rfl | simp,rfl,nst,hgB,hbS,.inr ⟨j,hw,Hcl.out⟩⟩
  case rest =>
   obtain⟨g5,x,b1,n1,c1',b2,n2,c2',j,col,rfl,rfl,rfl,hsp,hg5,hbc,hres⟩:=hcut
   obtain⟨w5,hw5⟩ : ∃ W,W=wc:=⟨_,rfl⟩
   rw[← hw5] at hsp hbc hres ⊢
   clear hw5
   have hbw5:=Hb3.out.trans (hbc.mono Hb3.out.size)
   have z0:=za0 hbc Hr0.out
   have z1:=za0 hbc Hr1.out
   have v0:=za4 z0 0
   have v1:=za4 z0 1
   simp only[List.getElem?_toArray,List.getElem?_cons_zero,List.getElem?_cons_succ] at v0 v1
   obtain⟨_,o0,o1,o2,o3⟩:=zc9 z1
   obtain⟨s0,s1,s2,_,_,_⟩:=zag hsp
   have f0':=cell_later hbc f0
   have f1':=cell_later hbc f1
   have hg5s:=Hs3.out
   have hd1:¬ g5=g+1:=by omega
   by_cases hroot:yt=zlx
   ·have k5:(yt.toList == [114,111,111,116])=true:=by rw[heq,decide_eq_true hroot]
    clear heq
    by_cases hcz:col=0
    ·subst hcz
     obtain⟨sp,hwi,hxs,hv1,hv2⟩ : ∃ s,zbb (ws.drop 1) 0=(some s,j)∧x=s.1∧zdk w5 (.slice b1 n1 c1') s.2.1∧zbj w5 (.slice b2 n2 c2') s.2.2:=by
      rcases hres with⟨s,h1,_,h2,h3,h4⟩ | ⟨j',_,h⟩
      ·exact⟨s,h1,h2,h3,h4⟩
      exact absurd h.symm (Hcol.out j')
     by_cases hj:j < n - 1
     ·exfalso;omega
     obtain⟨j1,hj1⟩ : ∃ z,z=j+1:=⟨_,rfl⟩
     have hjle:j≤40:=by
      have h1:=zor hwi
      rw[List.length_drop] at h1
      omega
     have k11:IntKind.i64.wrap ((j:Int)+1)=(j1:Int):=by rw[hj1];exact IntWalk.i64_in _ (by omega)
     have k14:(j:Int)+1=(j1:Int):=by omega
     have k6:decide ((j1:Int) < (n:Int))=false:=decide_eq_false (by omega)
     have k6n:¬ (j1:Int) < (n:Int):=by omega
     have k6m:¬ j1 < n:=by omega
     obtain⟨Hsp,Hbc,Hres,Hbw5,Hz0,Hz1,Hwi,Hxs,Hv1,Hv2,Hroot,Hj,Hj1⟩:=hd13 hsp hbc hres hbw5 z0 z1 hwi hxs hv1 hv2 hroot hj hj1;clear hsp hbc hres hbw5 z0 z1 hwi hxs hv1 hv2 hroot hj hj1
     go_wp2_with fail
     have x0:=heap_setCell_same _ (g+1) 0 _ _ (.string x) Hz1.out
     have x1:=heap_setCell_same _ (g+1) 1 _ _ (.slice b1 n1 c1') x0
     have x2:=heap_setCell_same _ (g+1) 2 _ _ (.slice b2 n2 c2') x1
     have x3:=heap_setCell_same _ (g+1) 3 _ _ (.int .i64 ln) x2
     have hb8:=(((Hbw5.out.setCell (p:=⟨g+1,0,none⟩) (by show w.heap.size≤g+1;omega) (.string x)).setCell (p:=⟨g+1,1,none⟩) (by show w.heap.size≤g+1;omega) (.slice b1 n1 c1')).setCell (p:=⟨g+1,2,none⟩) (by show w.heap.size≤g+1;omega) (.slice b2 n2 c2')).setCell (p:=⟨g+1,3,none⟩) (by show w.heap.size≤g+1;omega) (.int .i64 ln)
     have hT:Frm (fun k=>k=g+1) w5 ((((w5.setCell ⟨g+1,0,none⟩ (.string x)).setCell ⟨g+1,1,none⟩ (.slice b1 n1 c1')).setCell ⟨g+1,2,none⟩ (.slice b2 n2 c2')).setCell ⟨g+1,3,none⟩ (.int .i64 ln)):=za9 (za9 (za9 (za9 (Frm.refl _ _) 0 _) 1 _) 2 _) 3 _
     have hno:No2 w5 (fun k=>k=g+1):=by
      rintro k rfl
      exact zau Hz1.out (by decide) (by decide)
     refine bodyPost_ret (zb1 (g:=g+1) rfl rfl rfl x3 Tryz.underlying101 rfl (by kernel_rfl)) rfl ?_
     refine⟨.inl ⟨sp,0,b1,n1,c1',b2,n2,c2',?_,by rw[← Hxs.out];rfl,zaq Hv1.out hT hno,zat Hv2.out hT hno⟩,hb8⟩
     unfold zdt
     rw[if_pos (by rw[Hpk.out];exact Hroot.out),Hwi.out]
     simp only
     rw[if_neg (by rw[← Hn.out];exact Hj.out)]
    obtain⟨j',hwi,hcj⟩ : ∃ j',zbb (ws.drop 1) 0=(none,j')∧col=zb2 (ws.drop 1) (xc+xt.size) j':=by
     rcases hres with⟨s,_,h,_⟩ | h
     ·exact absurd h hcz
     exact h
    have k6:(col != 0)=true:=by simpa using hcz
    obtain⟨Hsp,Hbc,Hres,Hbw5,Hz0,Hz1,Hwi,Hcj,Hroot,Hcz⟩:=hd10 hsp hbc hres hbw5 z0 z1 hwi hcj hroot hcz;clear hsp hbc hres hbw5 z0 z1 hwi hcj hroot hcz
    go_wp2_with fail
    have x0:=heap_setCell_same _ (g+1) 0 _ _ (.string ⟨#[]⟩) Hz1.out
    have x1:=heap_setCell_same _ (g+1) 1 _ _ (.slice none 0 0) x0
    have x2:=heap_setCell_same _ (g+1) 2 _ _ (.slice none 0 0) x1
    have x3:=heap_setCell_same _ (g+1) 3 _ _ (.int .i64 0) x2
    have hb8:=(((Hbw5.out.setCell (p:=⟨g+1,0,none⟩) (by show w.heap.size≤g+1;omega) (.string ⟨#[]⟩)).setCell (p:=⟨g+1,1,none⟩) (by show w.heap.size≤g+1;omega) (.slice none 0 0)).setCell (p:=⟨g+1,2,none⟩) (by show w.heap.size≤g+1;omega) (.slice none 0 0)).setCell (p:=⟨g+1,3,none⟩) (by show w.heap.size≤g+1;omega) (.int .i64 0)
    refine bodyPost_ret (zb1 (g:=g+1) rfl rfl rfl x3 Tryz.underlying101 rfl (by kernel_rfl)) rfl ?_
    refine⟨.inr ⟨col,?_,Hcz.out,rfl⟩,hb8⟩
    unfold zdt
    rw[if_pos (by rw[Hpk.out];exact Hroot.out),Hwi.out]
    simp only
    rw[Hfin.out,Hcj.out]
   have k5:(yt.toList == [114,111,111,116])=false:=by rw[heq,decide_eq_false hroot]
   clear heq
   obtain⟨Hsp,Hbc,Hres,Hbw5,Hz0,Hz1,Hroot⟩:=hd7 hsp hbc hres hbw5 z0 z1 hroot;clear hsp hbc hres hbw5 z0 z1 hroot
   go_wp2_with fail
   go_region
   go_wp2_with fail
   have x0:=heap_setCell_same _ (g+1) 0 _ _ (.string ⟨#[]⟩) Hz1.out
   have x1:=heap_setCell_same _ (g+1) 1 _ _ (.slice none 0 0) x0
   have x2:=heap_setCell_same _ (g+1) 2 _ _ (.slice none 0 0) x1
   have x3:=heap_setCell_same _ (g+1) 3 _ _ (.int .i64 0) x2
   have hb8:=(((Hbw5.out.setCell (p:=⟨g+1,0,none⟩) (by show w.heap.size≤g+1;omega) (.string ⟨#[]⟩)).setCell (p:=⟨g+1,1,none⟩) (by show w.heap.size≤g+1;omega) (.slice none 0 0)).setCell (p:=⟨g+1,2,none⟩) (by show w.heap.size≤g+1;omega) (.slice none 0 0)).setCell (p:=⟨g+1,3,none⟩) (by show w.heap.size≤g+1;omega) (.int .i64 0)
   refine bodyPost_ret (zb1 (g:=g+1) rfl rfl rfl x3 Tryz.underlying101 rfl (by kernel_rfl)) rfl ?_
   refine⟨.inr ⟨yc,?_,by omega,rfl⟩,Below.drew hb8⟩
   unfold zdt
   rw[if_neg (by rw[Hpk.out];exact Hroot.out),Hcl0.out]
 have hrd:=zos Hws.out
 have k16:(1:Int)≤(n:Int):=by omega
 have k17:IntKind.i64.wrap (xc+(xt.size:Int))=xc+(xt.size:Int):=IntWalk.i64_in _ (by omega)
 have hR:=fun (W:World) (k:Below w.heap.size w W)=>Hrest.out W k _ _ _ (zaf zbg _ _ _ _ hrd k) (by have:=Hn.out;omega)
 obtain⟨Hrd,HR⟩:=hd2 hrd hR;clear hrd hR
 go_enter Tryz.func72,Tryz.ntmps72
 go_upto_region 1 with (fail)
 rw[← hW2,← hg]
 clear hW2 hg
 go_upto_region 2 with (fail)
 rw[← hW3]
 clear hW3 hs2 l0 l1 d0 d1
 have q2:=za4 Hr2.out 0
 have q3:=za4 Hr2.out 1
 simp only[List.getElem?_toArray,List.getElem?_cons_zero,List.getElem?_cons_succ] at q2 q3
 go_cut [5,6,7] (fun v5 v6 v7 W=>LineCut W3 (xc+xt.size) (ws.drop 1) v5 v6 v7 W)
 case first =>
  have hbD:Below W3.heap.size W3 W3.drew:=Below.drew (Below.refl _ _)
  have hSS:∀ W,Below W3.heap.size W3 W→W.cell? ⟨g,1,none⟩=some (.slice (some ⟨b,off,none⟩) n c)∧W.cell? ⟨g+2,0,none⟩=some (.int .i64 xc)∧W.cell? ⟨g+2,1,none⟩=some (.string xt):=fun W k=>⟨cell_later k m1,cell_later k q2,cell_later k q3⟩
  have hbA:Below W3.heap.size W3 (W3.drew.alloc (.cells #[.string ⟨#[]⟩,.slice none 0 0,.slice none 0 0] 51)):=hbD.alloc hbD.size _
  have hna:zan W3.heap.size (.string ⟨#[]⟩) (.slice none 0 0) (.slice none 0 0) (W3.drew.alloc (.cells #[.string ⟨#[]⟩,.slice none 0 0,.slice none 0 0] 51)):=heap_alloc_new W3.drew _
  obtain⟨HbD,HSS,HbA,Hna⟩:=hd4 hbD hSS hbA hna;clear hbD hSS hbA hna
  refine wp_region_held_drew (S:=fun w'=>w'.cell? ⟨g,1,none⟩=some (.slice (some ⟨b,off,none⟩) n c)∧w'.cell? ⟨g+2,0,none⟩=some (.int .i64 xc)∧w'.cell? ⟨g+2,1,none⟩=some (.string xt)) (by kernel_rfl) (by exact HSS.out _ HbD.out) (fun hHeld=>?_)
  refine wpAnyH_take (i:=0) (v:=?_) rfl (by kernel_rfl) (by kernel_rfl) (by kernel_rfl) (fun _ _ _ h=>h) (Or.inl ⟨by kernel_rfl,?_⟩) (by assumption) ?_
  rotate_left
  ·(intro w hSw;(try dsimp only at hSw);(try obtain⟨e0,e1,e2⟩:=hSw);go_simp;try with_reducible rfl)
  try simp only[Act.put,List.getElem_toArray,List.getElem_cons_succ,List.getElem_cons_zero,lA,lB,lC]
  refine wpAnyH_take (i:=1) (v:=?_) rfl (by kernel_rfl) (by kernel_rfl) (by kernel_rfl) (fun _ _ _ h=>h) (Or.inl ⟨by kernel_rfl,?_⟩) (by assumption) ?_
  rotate_left
  ·(intro w hSw;(try dsimp only at hSw);(try obtain⟨e0,e1,e2⟩:=hSw);go_simp;try with_reducible rfl)
  try simp only[Act.put,List.getElem_toArray,List.getElem_cons_succ,List.getElem_cons_zero,lA,lB,lC]
  refine wpAnyH_take (i:=2) (v:=?_) rfl (by kernel_rfl) (by kernel_rfl) (by kernel_rfl) (fun _ _ _ h=>h) (Or.inl ⟨by kernel_rfl,?_⟩) (by assumption) ?_
  rotate_left
  ·(intro w hSw;(try dsimp only at hSw);(try obtain⟨e0,e1,e2⟩:=hSw);go_simp;try with_reducible rfl)
  try simp only[Act.put,List.getElem_toArray,List.getElem_cons_succ,List.getElem_cons_zero,lA,lB,lC]
  refine wpAnyH_take (i:=3) (v:=?_) rfl (by kernel_rfl) (by kernel_rfl) (by kernel_rfl) (fun _ _ _ h=>h) (Or.inl ⟨by kernel_rfl,?_⟩) (by assumption) ?_
  rotate_left
  ·(intro w hSw;(try dsimp only at hSw);(try obtain⟨e0,e1,e2⟩:=hSw);go_simp;try with_reducible rfl)
  try simp only[Act.put,List.getElem_toArray,List.getElem_cons_succ,List.getElem_cons_zero,lA,lB,lC]
  refine wpAnyH_take (i:=4) (v:=?_) rfl (by kernel_rfl) (by kernel_rfl) (by kernel_rfl) (fun _ _ _ h=>h) (Or.inl ⟨by kernel_rfl,?_⟩) (by assumption) ?_
  rotate_left
  ·(intro w hSw;(try dsimp only at hSw);(try obtain⟨e0,e1,e2⟩:=hSw);go_simp;try with_reducible rfl)
  try simp only[Act.put,List.getElem_toArray,List.getElem_cons_succ,List.getElem_cons_zero,lA,lB,lC]
  refine wpAnyH_take (i:=5) (v:=?_) rfl (by kernel_rfl) (by kernel_rfl) (by kernel_rfl) (fun _ _ _ h=>h) (Or.inl ⟨by kernel_rfl,?_⟩) (by assumption) ?_
  rotate_left
  ·(intro w hSw;(try dsimp only at hSw);(try obtain⟨e0,e1,e2⟩:=hSw);go_simp;try with_reducible rfl)
  try simp only[Act.put,List.getElem_toArray,List.getElem_cons_succ,List.getElem_cons_zero,lA,lB,lC]
  refine wpAnyH_take (i:=6) (v:=?_) rfl (by kernel_rfl) (by kernel_rfl) (by kernel_rfl) (fun _ _ _ h=>h) (Or.inl ⟨by kernel_rfl,?_⟩) (by assumption) ?_
  rotate_left
  ·(intro w hSw;(try dsimp only at hSw);(try obtain⟨e0,e1,e2⟩:=hSw);go_simp;try with_reducible rfl)
  try simp only[Act.put,List.getElem_toArray,List.getElem_cons_succ,List.getElem_cons_zero,lA,lB,lC]
  refine wpAnyH_take (i:=7) (v:=?_) rfl (by kernel_rfl) (by kernel_rfl) (by kernel_rfl) (fun _ _ _ h=>h) (Or.inl ⟨by kernel_rfl,?_⟩) (by assumption) ?_
  rotate_left
  ·(intro w hSw;(try dsimp only at hSw);(try obtain⟨e0,e1,e2⟩:=hSw);go_simp;try with_reducible rfl)
  try simp only[Act.put,List.getElem_toArray,List.getElem_cons_succ,List.getElem_cons_zero,lA,lB,lC]
  refine wpAnyH_take (i:=8) (v:=?_) rfl (by kernel_rfl) (by kernel_rfl) (by kernel_rfl) (fun _ _ _ h=>h) (Or.inl ⟨by kernel_rfl,?_⟩) (by assumption) ?_
  rotate_left
  ·(intro w hSw;(try dsimp only at hSw);(try obtain⟨e0,e1,e2⟩:=hSw);go_simp;try with_reducible rfl)
  try simp only[Act.put,List.getElem_toArray,List.getElem_cons_succ,List.getElem_cons_zero,lA,lB,lC]
  refine wpAnyH_ready (rs:=[9,14]) (by kernel_rfl) (by simp) ?_
  refine AllReadyH.cons rfl (fun K hK=>?_) (AllReadyH.cons rfl (fun K hK=>?_) AllReadyH.nil)
  ·go_simp
   refine (HR.out _ (Hb3.out.trans (HbD.out.mono Hb3.out.size))).mono ?_
   rintro e w4 ⟨⟨s,j,b1,n1,c1',b2,n2,c2',hw,rfl,hv1,hv2⟩ | ⟨j,hw,rfl⟩,hb4⟩
   ·have hbW3:=HbD.out.trans (hb4.mono HbD.out.size)
    have hS4:=HSS.out _ hbW3
    go_wp2_with fail
    refine hK.out _ _ (by exact hS4) (fun hHeld=>?_)
    clear hK K
    try simp only[Act.put,List.getElem_toArray,List.getElem_cons_succ,List.getElem_cons_zero,lA,lB,lC]
    refine wpAnyH_take (i:=10) (v:=?_) rfl (by kernel_rfl) (by kernel_rfl) (by kernel_rfl) (fun _ _ _ h=>h) (Or.inl ⟨by kernel_rfl,?_⟩) (by assumption) ?_
    rotate_left
    ·(intro w hSw;(try dsimp only at hSw);(try obtain⟨e0,e1,e2⟩:=hSw);go_simp;try with_reducible rfl)
    try simp only[Act.put,List.getElem_toArray,List.getElem_cons_succ,List.getElem_cons_zero,lA,lB,lC]
    refine wpAnyH_take (i:=11) (v:=?_) rfl (by kernel_rfl) (by kernel_rfl) (by kernel_rfl) (fun _ _ _ h=>h) (Or.inl ⟨by kernel_rfl,?_⟩) (by assumption) ?_
    rotate_left
    ·(intro w hSw;(try dsimp only at hSw);(try obtain⟨e0,e1,e2⟩:=hSw);go_simp;try with_reducible rfl)
    try simp only[Act.put,List.getElem_toArray,List.getElem_cons_succ,List.getElem_cons_zero,lA,lB,lC]
    refine wpAnyH_take (i:=12) (v:=?_) rfl (by kernel_rfl) (by kernel_rfl) (by kernel_rfl) (fun _ _ _ h=>h) (Or.inl ⟨by kernel_rfl,?_⟩) (by assumption) ?_
    rotate_left
    ·(intro w hSw;(try dsimp only at hSw);(try obtain⟨e0,e1,e2⟩:=hSw);go_simp;try with_reducible rfl)
    try simp only[Act.put,List.getElem_toArray,List.getElem_cons_succ,List.getElem_cons_zero,lA,lB,lC]
    refine wpAnyH_take (i:=13) (v:=?_) rfl (by kernel_rfl) (by kernel_rfl) (by kernel_rfl) (fun _ _ _ h=>h) (Or.inl ⟨by kernel_rfl,?_⟩) (by assumption) ?_
    rotate_left
    ·(intro w hSw;(try dsimp only at hSw);(try obtain⟨e0,e1,e2⟩:=hSw);go_simp;try with_reducible rfl)
    try simp only[Act.put,List.getElem_toArray,List.getElem_cons_succ,List.getElem_cons_zero,lA,lB,lC]
    have hbW:Below w4.heap.size w4 (w4.alloc (.cells #[.string ⟨#[]⟩,.slice none 0 0,.slice none 0 0] 51)):=za2 _ _
    have hbB:=hbW3.trans (hbW.mono hbW3.size)
    have hSa:=HSS.out _ hbB
    have nbx:zan w4.heap.size (.string ⟨#[]⟩) (.slice none 0 0) (.slice none 0 0) (w4.alloc (.cells #[.string ⟨#[]⟩,.slice none 0 0,.slice none 0 0] 51)):=heap_alloc_new w4 _
    have hgB:W3.heap.size≤w4.heap.size:=hbW3.size
    refine wpAnyH_ready (rs:=[14]) (by kernel_rfl) (by simp) ?_
    refine AllReadyH.cons rfl (fun K hK=>?_) AllReadyH.nil
    go_simp
    refine hK.out _ _ (by exact hSa) (fun hHeld=>?_)
    clear hK K
    try simp only[Act.put,List.getElem_toArray,List.getElem_cons_succ,List.getElem_cons_zero,lA,lB,lC]
    obtain⟨_,_,_,fb0,fb1,fb2⟩:=zag nbx
    have hbX:Below w4.heap.size w4 (w4.alloc (.cells #[(.string s.1),(.slice b1 n1 c1'),(.slice b2 n2 c2')] 51)):=za2 _ _
    have hbS:=hbW3.trans (hbX.mono hbW3.size)
    have hSs:=HSS.out _ hbS
    have nst:zan w4.heap.size (.string s.1) (.slice b1 n1 c1') (.slice b2 n2 c2') (w4.alloc (.cells #[(.string s.1),(.slice b1 n1 c1'),(.slice b2 n2 c2')] 51)):=heap_alloc_new w4 _
    refine wpAnyH_ready (rs:=[15]) (by kernel_rfl) (by simp) ?_
    refine AllReadyH.cons rfl (fun K hK=>?_) AllReadyH.nil
    go_simp
    refine hK.out _ _ (by exact hSs) (fun hHeld=>?_)
    clear hK K
    try simp only[Act.put,List.getElem_toArray,List.getElem_cons_succ,List.getElem_cons_zero,lA,lB,lC]
    refine wpAnyH_take (i:=16) (v:=?_) rfl (by kernel_rfl) (by kernel_rfl) (by kernel_rfl) (fun _ _ _ h=>h) (Or.inl ⟨by kernel_rfl,?_⟩) (by assumption) ?_
    rotate_left
    ·(intro w hSw;(try dsimp only at hSw);(try obtain⟨e0,e1,e2⟩:=hSw);go_simp;try with_reducible rfl)
    try simp only[Act.put,List.getElem_toArray,List.getElem_cons_succ,List.getElem_cons_zero,lA,lB,lC]
    refine wpAnyH_take (i:=17) (v:=?_) rfl (by kernel_rfl) (by kernel_rfl) (by kernel_rfl) (fun _ _ _ h=>h) (Or.inl ⟨by kernel_rfl,?_⟩) (by assumption) ?_
    rotate_left
    ·(intro w hSw;(try dsimp only at hSw);(try obtain⟨e0,e1,e2⟩:=hSw);go_simp;try with_reducible rfl)
    try simp only[Act.put,List.getElem_toArray,List.getElem_cons_succ,List.getElem_cons_zero,lA,lB,lC]
    refine wpAnyH_done (by kernel_rfl) ?_ _
    go_simp
    go_wp2_with fail
    go_meet
    exact⟨_,_,_,_,_,_,_,_,_,_,rfl,rfl,rfl,nst,hgB,hbS,.inl ⟨s,hw,rfl,rfl,zap hv1 hbX,zaz hv2 hbX⟩⟩
   have hbW3:=HbD.out.trans (hb4.mono HbD.out.size)
   have hS4:=HSS.out _ hbW3
   obtain⟨cl,hcl⟩ : ∃ z,z=zb2 (ws.drop 1) (xc+xt.size) j:=⟨_,rfl⟩
   rw[← hcl]
   have Hcl:=hd hcl;clear hcl
   go_wp2_with fail
   refine hK.out _ _ (by exact hS4) (fun hHeld=>?_)
   clear hK K
   try simp only[Act.put,List.getElem_toArray,List.getElem_cons_succ,List.getElem_cons_zero,lA,lB,lC]
   refine wpAnyH_take (i:=10) (v:=?_) rfl (by kernel_rfl) (by kernel_rfl) (by kernel_rfl) (fun _ _ _ h=>h) (Or.inl ⟨by kernel_rfl,?_⟩) (by assumption) ?_
   rotate_left
   ·(intro w hSw;(try dsimp only at hSw);(try obtain⟨e0,e1,e2⟩:=hSw);go_simp;try with_reducible rfl)
   try simp only[Act.put,List.getElem_toArray,List.getElem_cons_succ,List.getElem_cons_zero,lA,lB,lC]
   refine wpAnyH_take (i:=11) (v:=?_) rfl (by kernel_rfl) (by kernel_rfl) (by kernel_rfl) (fun _ _ _ h=>h) (Or.inl ⟨by kernel_rfl,?_⟩) (by assumption) ?_
   rotate_left
   ·(intro w hSw;(try dsimp only at hSw);(try obtain⟨e0,e1,e2⟩:=hSw);go_simp;try with_reducible rfl)
   try simp only[Act.put,List.getElem_toArray,List.getElem_cons_succ,List.getElem_cons_zero,lA,lB,lC]
   refine wpAnyH_take (i:=12) (v:=?_) rfl (by kernel_rfl) (by kernel_rfl) (by kernel_rfl) (fun _ _ _ h=>h) (Or.inl ⟨by kernel_rfl,?_⟩) (by assumption) ?_
   rotate_left
   ·(intro w hSw;(try dsimp only at hSw);(try obtain⟨e0,e1,e2⟩:=hSw);go_simp;try with_reducible rfl)
   try simp only[Act.put,List.getElem_toArray,List.getElem_cons_succ,List.getElem_cons_zero,lA,lB,lC]
   refine wpAnyH_take (i:=13) (v:=?_) rfl (by kernel_rfl) (by kernel_rfl) (by kernel_rfl) (fun _ _ _ h=>h) (Or.inl ⟨by kernel_rfl,?_⟩) (by assumption) ?_
   rotate_left
   ·(intro w hSw;(try dsimp only at hSw);(try obtain⟨e0,e1,e2⟩:=hSw);go_simp;try with_reducible rfl)
   try simp only[Act.put,List.getElem_toArray,List.getElem_cons_succ,List.getElem_cons_zero,lA,lB,lC]
   have hbW:Below w4.heap.size w4 (w4.alloc (.cells #[.string ⟨#[]⟩,.slice none 0 0,.slice none 0 0] 51)):=za2 _ _
   have hbB:=hbW3.trans (hbW.mono hbW3.size)
   have hSa:=HSS.out _ hbB
   have nbx:zan w4.heap.size (.string ⟨#[]⟩) (.slice none 0 0) (.slice none 0 0) (w4.alloc (.cells #[.string ⟨#[]⟩,.slice none 0 0,.slice none 0 0] 51)):=heap_alloc_new w4 _
   have hgB:W3.heap.size≤w4.heap.size:=hbW3.size
   refine wpAnyH_ready (rs:=[14]) (by kernel_rfl) (by simp) ?_
   refine AllReadyH.cons rfl (fun K hK=>?_) AllReadyH.nil
   go_simp
   refine hK.out _ _ (by exact hSa) (fun hHeld=>?_)
   clear hK K
   try simp only[Act.put,List.getElem_toArray,List.getElem_cons_succ,List.getElem_cons_zero,lA,lB,lC]
   obtain⟨_,_,_,fb0,fb1,fb2⟩:=zag nbx
   have hbX:Below w4.heap.size w4 (w4.alloc (.cells #[(.string ⟨#[]⟩),(.slice none 0 0),(.slice none 0 0)] 51)):=za2 _ _
   have hbS:=hbW3.trans (hbX.mono hbW3.size)
   have hSs:=HSS.out _ hbS
   have nst:zan w4.heap.size (.string ⟨#[]⟩) (.slice none 0 0) (.slice none 0 0) (w4.alloc (.cells #[(.string ⟨#[]⟩),(.slice none 0 0),(.slice none 0 0)] 51)):=heap_alloc_new w4 _
   refine wpAnyH_ready (rs:=[15]) (by kernel_rfl) (by simp) ?_
   refine AllReadyH.cons rfl (fun K hK=>?_) AllReadyH.nil
   go_simp
   refine hK.out _ _ (by exact hSs) (fun hHeld=>?_)
   clear hK K
   try simp only[Act.put,List.getElem_toArray,List.getElem_cons_succ,List.getElem_cons_zero,lA,lB,lC]
   refine wpAnyH_take (i:=16) (v:=?_) rfl (by kernel_rfl) (by kernel_rfl) (by kernel_rfl) (fun _ _ _ h=>h) (Or.inl ⟨by kernel_rfl,?_⟩) (by assumption) ?_
   rotate_left
   ·(intro w hSw;(try dsimp only at hSw);(try obtain⟨e0,e1,e2⟩:=hSw);go_simp;try with_reducible rfl)
   try simp only[Act.put,List.getElem_toArray,List.getElem_cons_succ,List.getElem_cons_zero,lA,lB,lC]
   refine wpAnyH_take (i:=17) (v:=?_) rfl (by kernel_rfl) (by kernel_rfl) (by kernel_rfl) (fun _ _ _ h=>h) (Or.inl ⟨by kernel_rfl,?_⟩) (by assumption) ?_
   rotate_left
   ·(intro w hSw;(try dsimp only at hSw);(try obtain⟨e0,e1,e2⟩:=hSw);go_simp;try with_reducible rfl)
   try simp only[Act.put,List.getElem_toArray,List.getElem_cons_succ,List.getElem_cons_zero,lA,lB,lC]
   refine wpAnyH_done (by kernel_rfl) ?_ _
   go_simp
   go_wp2_with fail
   go_meet
   exact⟨_,_,_,_,_,_,_,_,0,_,rfl,by first | rfl | simp,rfl,nst,hgB,hbS,.inr ⟨j,hw,Hcl.out⟩⟩
  have hSa:=HSS.out _ HbA.out
  go_simp
  refine hK.out _ _ (by exact hSa) (fun hHeld=>?_)
  clear hK K
  try simp only[Act.put,List.getElem_toArray,List.getElem_cons_succ,List.getElem_cons_zero,lA,lB,lC]
  refine wpAnyH_ready (rs:=[9]) (by kernel_rfl) (by simp) ?_
  refine AllReadyH.cons rfl (fun K hK=>?_) AllReadyH.nil
  go_simp
  refine (HR.out _ (Hb3.out.trans (HbA.out.mono Hb3.out.size))).mono ?_
  rintro e w4 ⟨⟨s,j,b1,n1,c1',b2,n2,c2',hw,rfl,hv1,hv2⟩ | ⟨j,hw,rfl⟩,hb4⟩
  ·have hbB:Below W3.heap.size W3 w4:=HbA.out.trans (hb4.mono HbA.out.size)
   have hS4:=HSS.out _ hbB
   have nbx:=za0 hb4 Hna.out
   have hgB:W3.heap.size≤W3.heap.size:=Nat.le_refl _
   have hbW:=Below.refl w4.heap.size w4
   go_wp2_with fail
   refine hK.out _ _ (by exact hS4) (fun hHeld=>?_)
   clear hK K
   try simp only[Act.put,List.getElem_toArray,List.getElem_cons_succ,List.getElem_cons_zero,lA,lB,lC]
   refine wpAnyH_take (i:=10) (v:=?_) rfl (by kernel_rfl) (by kernel_rfl) (by kernel_rfl) (fun _ _ _ h=>h) (Or.inl ⟨by kernel_rfl,?_⟩) (by assumption) ?_
   rotate_left
   ·(intro w hSw;(try dsimp only at hSw);(try obtain⟨e0,e1,e2⟩:=hSw);go_simp;try with_reducible rfl)
   try simp only[Act.put,List.getElem_toArray,List.getElem_cons_succ,List.getElem_cons_zero,lA,lB,lC]
   refine wpAnyH_take (i:=11) (v:=?_) rfl (by kernel_rfl) (by kernel_rfl) (by kernel_rfl) (fun _ _ _ h=>h) (Or.inl ⟨by kernel_rfl,?_⟩) (by assumption) ?_
   rotate_left
   ·(intro w hSw;(try dsimp only at hSw);(try obtain⟨e0,e1,e2⟩:=hSw);go_simp;try with_reducible rfl)
   try simp only[Act.put,List.getElem_toArray,List.getElem_cons_succ,List.getElem_cons_zero,lA,lB,lC]
   refine wpAnyH_take (i:=12) (v:=?_) rfl (by kernel_rfl) (by kernel_rfl) (by kernel_rfl) (fun _ _ _ h=>h) (Or.inl ⟨by kernel_rfl,?_⟩) (by assumption) ?_
   rotate_left
   ·(intro w hSw;(try dsimp only at hSw);(try obtain⟨e0,e1,e2⟩:=hSw);go_simp;try with_reducible rfl)
   try simp only[Act.put,List.getElem_toArray,List.getElem_cons_succ,List.getElem_cons_zero,lA,lB,lC]
   refine wpAnyH_take (i:=13) (v:=?_) rfl (by kernel_rfl) (by kernel_rfl) (by kernel_rfl) (fun _ _ _ h=>h) (Or.inl ⟨by kernel_rfl,?_⟩) (by assumption) ?_
   rotate_left
   ·(intro w hSw;(try dsimp only at hSw);(try obtain⟨e0,e1,e2⟩:=hSw);go_simp;try with_reducible rfl)
   try simp only[Act.put,List.getElem_toArray,List.getElem_cons_succ,List.getElem_cons_zero,lA,lB,lC]
   obtain⟨_,_,_,fb0,fb1,fb2⟩:=zag nbx
   have hbS:Below W3.heap.size W3 (((w4.setCell ⟨W3.heap.size,0,none⟩ (.string s.1)).setCell ⟨W3.heap.size,1,none⟩ (.slice b1 n1 c1')).setCell ⟨W3.heap.size,2,none⟩ (.slice b2 n2 c2')):=((hbB.setCell (p:=⟨W3.heap.size,0,none⟩) hgB _).setCell (p:=⟨W3.heap.size,1,none⟩) hgB _).setCell (p:=⟨W3.heap.size,2,none⟩) hgB _
   have hSs:=HSS.out _ hbS
   have nst:zan (W3.heap.size) (.string s.1) (.slice b1 n1 c1') (.slice b2 n2 c2') (((w4.setCell ⟨W3.heap.size,0,none⟩ (.string s.1)).setCell ⟨W3.heap.size,1,none⟩ (.slice b1 n1 c1')).setCell ⟨W3.heap.size,2,none⟩ (.slice b2 n2 c2')):=by
    have k0:=heap_setCell_same _ (W3.heap.size) 0 _ _ (.string s.1) nbx
    have k1:=heap_setCell_same _ (W3.heap.size) 1 _ _ (.slice b1 n1 c1') k0
    exact heap_setCell_same _ (W3.heap.size) 2 _ _ (.slice b2 n2 c2') k1
   have hTS:Frm (fun z=>z=W3.heap.size) (w4) (((w4.setCell ⟨W3.heap.size,0,none⟩ (.string s.1)).setCell ⟨W3.heap.size,1,none⟩ (.slice b1 n1 c1')).setCell ⟨W3.heap.size,2,none⟩ (.slice b2 n2 c2')):=za9 (za9 (za9 (Frm.refl _ _) 0 _) 1 _) 2 _
   have hnS:No2 (w4) (fun z=>z=W3.heap.size):=by
    rintro z rfl
    exact zau nbx (by decide) (by decide)
   refine wpAnyH_ready (rs:=[15]) (by kernel_rfl) (by simp) ?_
   refine AllReadyH.cons rfl (fun K hK=>?_) AllReadyH.nil
   go_simp
   refine hK.out _ _ (by exact hSs) (fun hHeld=>?_)
   clear hK K
   try simp only[Act.put,List.getElem_toArray,List.getElem_cons_succ,List.getElem_cons_zero,lA,lB,lC]
   refine wpAnyH_take (i:=16) (v:=?_) rfl (by kernel_rfl) (by kernel_rfl) (by kernel_rfl) (fun _ _ _ h=>h) (Or.inl ⟨by kernel_rfl,?_⟩) (by assumption) ?_
   rotate_left
   ·(intro w hSw;(try dsimp only at hSw);(try obtain⟨e0,e1,e2⟩:=hSw);go_simp;try with_reducible rfl)
   try simp only[Act.put,List.getElem_toArray,List.getElem_cons_succ,List.getElem_cons_zero,lA,lB,lC]
   refine wpAnyH_take (i:=17) (v:=?_) rfl (by kernel_rfl) (by kernel_rfl) (by kernel_rfl) (fun _ _ _ h=>h) (Or.inl ⟨by kernel_rfl,?_⟩) (by assumption) ?_
   rotate_left
   ·(intro w hSw;(try dsimp only at hSw);(try obtain⟨e0,e1,e2⟩:=hSw);go_simp;try with_reducible rfl)
   try simp only[Act.put,List.getElem_toArray,List.getElem_cons_succ,List.getElem_cons_zero,lA,lB,lC]
   refine wpAnyH_done (by kernel_rfl) ?_ _
   go_simp
   go_wp2_with fail
   go_meet
   exact⟨_,_,_,_,_,_,_,_,_,_,rfl,rfl,rfl,nst,hgB,hbS,.inl ⟨s,hw,rfl,rfl,zaq (zap hv1 hbW) hTS hnS,zat (zaz hv2 hbW) hTS hnS⟩⟩
  have hbB:Below W3.heap.size W3 w4:=HbA.out.trans (hb4.mono HbA.out.size)
  have hS4:=HSS.out _ hbB
  have nbx:=za0 hb4 Hna.out
  have hgB:W3.heap.size≤W3.heap.size:=Nat.le_refl _
  have hbW:=Below.refl w4.heap.size w4
  obtain⟨cl,hcl⟩ : ∃ z,z=zb2 (ws.drop 1) (xc+xt.size) j:=⟨_,rfl⟩
  rw[← hcl]
  have Hcl:=hd hcl;clear hcl
  go_wp2_with fail
  refine hK.out _ _ (by exact hS4) (fun hHeld=>?_)
  clear hK K
  try simp only[Act.put,List.getElem_toArray,List.getElem_cons_succ,List.getElem_cons_zero,lA,lB,lC]
  refine wpAnyH_take (i:=10) (v:=?_) rfl (by kernel_rfl) (by kernel_rfl) (by kernel_rfl) (fun _ _ _ h=>h) (Or.inl ⟨by kernel_rfl,?_⟩) (by assumption) ?_
  rotate_left
  ·(intro w hSw;(try dsimp only at hSw);(try obtain⟨e0,e1,e2⟩:=hSw);go_simp;try with_reducible rfl)
  try simp only[Act.put,List.getElem_toArray,List.getElem_cons_succ,List.getElem_cons_zero,lA,lB,lC]
  refine wpAnyH_take (i:=11) (v:=?_) rfl (by kernel_rfl) (by kernel_rfl) (by kernel_rfl) (fun _ _ _ h=>h) (Or.inl ⟨by kernel_rfl,?_⟩) (by assumption) ?_
  rotate_left
  ·(intro w hSw;(try dsimp only at hSw);(try obtain⟨e0,e1,e2⟩:=hSw);go_simp;try with_reducible rfl)
  try simp only[Act.put,List.getElem_toArray,List.getElem_cons_succ,List.getElem_cons_zero,lA,lB,lC]
  refine wpAnyH_take (i:=12) (v:=?_) rfl (by kernel_rfl) (by kernel_rfl) (by kernel_rfl) (fun _ _ _ h=>h) (Or.inl ⟨by kernel_rfl,?_⟩) (by assumption) ?_
  rotate_left
  ·(intro w hSw;(try dsimp only at hSw);(try obtain⟨e0,e1,e2⟩:=hSw);go_simp;try with_reducible rfl)
  try simp only[Act.put,List.getElem_toArray,List.getElem_cons_succ,List.getElem_cons_zero,lA,lB,lC]
  refine wpAnyH_take (i:=13) (v:=?_) rfl (by kernel_rfl) (by kernel_rfl) (by kernel_rfl) (fun _ _ _ h=>h) (Or.inl ⟨by kernel_rfl,?_⟩) (by assumption) ?_
  rotate_left
  ·(intro w hSw;(try dsimp only at hSw);(try obtain⟨e0,e1,e2⟩:=hSw);go_simp;try with_reducible rfl)
  try simp only[Act.put,List.getElem_toArray,List.getElem_cons_succ,List.getElem_cons_zero,lA,lB,lC]
  obtain⟨_,_,_,fb0,fb1,fb2⟩:=zag nbx
  have hbS:Below W3.heap.size W3 (((w4.setCell ⟨W3.heap.size,0,none⟩ (.string ⟨#[]⟩)).setCell ⟨W3.heap.size,1,none⟩ (.slice none 0 0)).setCell ⟨W3.heap.size,2,none⟩ (.slice none 0 0)):=((hbB.setCell (p:=⟨W3.heap.size,0,none⟩) hgB _).setCell (p:=⟨W3.heap.size,1,none⟩) hgB _).setCell (p:=⟨W3.heap.size,2,none⟩) hgB _
  have hSs:=HSS.out _ hbS
  have nst:zan (W3.heap.size) (.string ⟨#[]⟩) (.slice none 0 0) (.slice none 0 0) (((w4.setCell ⟨W3.heap.size,0,none⟩ (.string ⟨#[]⟩)).setCell ⟨W3.heap.size,1,none⟩ (.slice none 0 0)).setCell ⟨W3.heap.size,2,none⟩ (.slice none 0 0)):=by
   have k0:=heap_setCell_same _ (W3.heap.size) 0 _ _ (.string ⟨#[]⟩) nbx
   have k1:=heap_setCell_same _ (W3.heap.size) 1 _ _ (.slice none 0 0) k0
   exact heap_setCell_same _ (W3.heap.size) 2 _ _ (.slice none 0 0) k1
  have hTS:Frm (fun z=>z=W3.heap.size) (w4) (((w4.setCell ⟨W3.heap.size,0,none⟩ (.string ⟨#[]⟩)).setCell ⟨W3.heap.size,1,none⟩ (.slice none 0 0)).setCell ⟨W3.heap.size,2,none⟩ (.slice none 0 0)):=za9 (za9 (za9 (Frm.refl _ _) 0 _) 1 _) 2 _
  have hnS:No2 (w4) (fun z=>z=W3.heap.size):=by
   rintro z rfl
   exact zau nbx (by decide) (by decide)
  refine wpAnyH_ready (rs:=[15]) (by kernel_rfl) (by simp) ?_
  refine AllReadyH.cons rfl (fun K hK=>?_) AllReadyH.nil
  go_simp
  refine hK.out _ _ (by exact hSs) (fun hHeld=>?_)
  clear hK K
  try simp only[Act.put,List.getElem_toArray,List.getElem_cons_succ,List.getElem_cons_zero,lA,lB,lC]
  refine wpAnyH_take (i:=16) (v:=?_) rfl (by kernel_rfl) (by kernel_rfl) (by kernel_rfl) (fun _ _ _ h=>h) (Or.inl ⟨by kernel_rfl,?_⟩) (by assumption) ?_
  rotate_left
  ·(intro w hSw;(try dsimp only at hSw);(try obtain⟨e0,e1,e2⟩:=hSw);go_simp;try with_reducible rfl)
  try simp only[Act.put,List.getElem_toArray,List.getElem_cons_succ,List.getElem_cons_zero,lA,lB,lC]
  refine wpAnyH_take (i:=17) (v:=?_) rfl (by kernel_rfl) (by kernel_rfl) (by kernel_rfl) (fun _ _ _ h=>h) (Or.inl ⟨by kernel_rfl,?_⟩) (by assumption) ?_
  rotate_left
  ·(intro w hSw;(try dsimp only at hSw);(try obtain⟨e0,e1,e2⟩:=hSw);go_simp;try with_reducible rfl)
  try simp only[Act.put,List.getElem_toArray,List.getElem_cons_succ,List.getElem_cons_zero,lA,lB,lC]
  refine wpAnyH_done (by kernel_rfl) ?_ _
  go_simp
  go_wp2_with fail
  go_meet
  exact⟨_,_,_,_,_,_,_,_,0,_,rfl,by first | rfl | simp,rfl,nst,hgB,hbS,.inr ⟨j,hw,Hcl.out⟩⟩
 case rest =>
  obtain⟨g5,x,b1,n1,c1',b2,n2,c2',j,col,rfl,rfl,rfl,hsp,hg5,hbc,hres⟩:=hcut
  obtain⟨w5,hw5⟩ : ∃ W,W=wc:=⟨_,rfl⟩
  rw[← hw5] at hsp hbc hres ⊢
  clear hw5
  have hbw5:=Hb3.out.trans (hbc.mono Hb3.out.size)
  have z0:=za0 hbc Hr0.out
  have z1:=za0 hbc Hr1.out
  have v0:=za4 z0 0
  have v1:=za4 z0 1
  simp only[List.getElem?_toArray,List.getElem?_cons_zero,List.getElem?_cons_succ] at v0 v1
  obtain⟨_,o0,o1,o2,o3⟩:=zc9 z1
  obtain⟨s0,s1,s2,_,_,_⟩:=zag hsp
  have f0':=cell_later hbc f0
  have f1':=cell_later hbc f1
  have hg5s:=Hs3.out
  have hd1:¬ g5=g+1:=by omega
  by_cases hroot:yt=zlx
  ·have k5:(yt.toList == [114,111,111,116])=true:=by rw[heq,decide_eq_true hroot]
   clear heq
   by_cases hcz:col=0
   ·subst hcz
    obtain⟨sp,hwi,hxs,hv1,hv2⟩ : ∃ s,zbb (ws.drop 1) 0=(some s,j)∧x=s.1∧zdk w5 (.slice b1 n1 c1') s.2.1∧zbj w5 (.slice b2 n2 c2') s.2.2:=by
     rcases hres with⟨s,h1,_,h2,h3,h4⟩ | ⟨j',_,h⟩
     ·exact⟨s,h1,h2,h3,h4⟩
     exact absurd h.symm (Hcol.out j')
    by_cases hj:j < n - 1
    ·have hjl:j+1 < ws.length:=by have:=Hn.out;omega
     obtain⟨_,_,hat'⟩:=zen (zaf zbg _ _ _ _ Hws.out hbw5)
     obtain⟨b',off',e1,g0,_,_⟩:=hat' (j+1) _ (List.getElem?_eq_getElem hjl)
     injection e1 with e1
     injection e1 with e2 e3
     subst e2 e3
     obtain⟨cc,hcc⟩ : ∃ z,z=ws[j+1].1:=⟨_,rfl⟩
     rw[← hcc] at g0
     have hccc:zb2 (ws.drop 1) (xc+xt.size) j=cc:=by
      unfold zb2
      rw[List.getElem?_drop,show 1+j=j+1 by omega,List.getElem?_eq_getElem hjl,hcc]
     obtain⟨j1,hj1⟩ : ∃ z,z=j+1:=⟨_,rfl⟩
     rw[← hj1] at g0
     have k11:IntKind.i64.wrap ((j:Int)+1)=(j1:Int):=by rw[hj1];exact IntWalk.i64_in _ (by omega)
     have k14:(j:Int)+1=(j1:Int):=by omega
     have k6:decide ((j1:Int) < (n:Int))=true:=decide_eq_true (by omega)
     have k7:(0:Int)≤(j1:Int):=by omega
     have k8:(j1:Int) < (n:Int):=by omega
     clear hat'
     obtain⟨Hsp,Hbc,Hres,Hbw5,Hz0,Hz1,Hwi,Hxs,Hv1,Hv2,Hcc,Hccc,Hroot,Hj,Hj1⟩:=hd15 hsp hbc hres hbw5 z0 z1 hwi hxs hv1 hv2 hcc hccc hroot hj hj1;clear hsp hbc hres hbw5 z0 z1 hwi hxs hv1 hv2 hcc hccc hroot hj hj1
     go_wp2_with fail
     go_region
     go_wp2_with fail
     have x0:=heap_setCell_same _ (g+1) 0 _ _ (.string ⟨#[]⟩) Hz1.out
     have x1:=heap_setCell_same _ (g+1) 1 _ _ (.slice none 0 0) x0
     have x2:=heap_setCell_same _ (g+1) 2 _ _ (.slice none 0 0) x1
     have x3:=heap_setCell_same _ (g+1) 3 _ _ (.int .i64 0) x2
     have hb8:=(((Hbw5.out.setCell (p:=⟨g+1,0,none⟩) (by show w.heap.size≤g+1;omega) (.string ⟨#[]⟩)).setCell (p:=⟨g+1,1,none⟩) (by show w.heap.size≤g+1;omega) (.slice none 0 0)).setCell (p:=⟨g+1,2,none⟩) (by show w.heap.size≤g+1;omega) (.slice none 0 0)).setCell (p:=⟨g+1,3,none⟩) (by show w.heap.size≤g+1;omega) (.int .i64 0)
     refine bodyPost_ret (zb1 (g:=g+1) rfl rfl rfl x3 Tryz.underlying101 rfl (by kernel_rfl)) rfl ?_
     refine⟨.inr ⟨cc,?_,by rw[← Hccc.out];exact Hcol.out j,rfl⟩,Below.drew hb8⟩
     unfold zdt
     rw[if_pos (by rw[Hpk.out];exact Hroot.out),Hwi.out]
     simp only
     rw[if_pos (by rw[← Hn.out];exact Hj.out),Hfin.out,Hccc.out]
    obtain⟨j1,hj1⟩ : ∃ z,z=j+1:=⟨_,rfl⟩
    have hjle:j≤40:=by
     have h1:=zor hwi
     rw[List.length_drop] at h1
     omega
    have k11:IntKind.i64.wrap ((j:Int)+1)=(j1:Int):=by rw[hj1];exact IntWalk.i64_in _ (by omega)
    have k14:(j:Int)+1=(j1:Int):=by omega
    have k6:decide ((j1:Int) < (n:Int))=false:=decide_eq_false (by omega)
    have k6n:¬ (j1:Int) < (n:Int):=by omega
    have k6m:¬ j1 < n:=by omega
    obtain⟨Hsp,Hbc,Hres,Hbw5,Hz0,Hz1,Hwi,Hxs,Hv1,Hv2,Hroot,Hj,Hj1⟩:=hd13 hsp hbc hres hbw5 z0 z1 hwi hxs hv1 hv2 hroot hj hj1;clear hsp hbc hres hbw5 z0 z1 hwi hxs hv1 hv2 hroot hj hj1
    go_wp2_with fail
    have x0:=heap_setCell_same _ (g+1) 0 _ _ (.string x) Hz1.out
    have x1:=heap_setCell_same _ (g+1) 1 _ _ (.slice b1 n1 c1') x0
    have x2:=heap_setCell_same _ (g+1) 2 _ _ (.slice b2 n2 c2') x1
    have x3:=heap_setCell_same _ (g+1) 3 _ _ (.int .i64 ln) x2
    have hb8:=(((Hbw5.out.setCell (p:=⟨g+1,0,none⟩) (by show w.heap.size≤g+1;omega) (.string x)).setCell (p:=⟨g+1,1,none⟩) (by show w.heap.size≤g+1;omega) (.slice b1 n1 c1')).setCell (p:=⟨g+1,2,none⟩) (by show w.heap.size≤g+1;omega) (.slice b2 n2 c2')).setCell (p:=⟨g+1,3,none⟩) (by show w.heap.size≤g+1;omega) (.int .i64 ln)
    have hT:Frm (fun k=>k=g+1) w5 ((((w5.setCell ⟨g+1,0,none⟩ (.string x)).setCell ⟨g+1,1,none⟩ (.slice b1 n1 c1')).setCell ⟨g+1,2,none⟩ (.slice b2 n2 c2')).setCell ⟨g+1,3,none⟩ (.int .i64 ln)):=za9 (za9 (za9 (za9 (Frm.refl _ _) 0 _) 1 _) 2 _) 3 _
    have hno:No2 w5 (fun k=>k=g+1):=by
     rintro k rfl
     exact zau Hz1.out (by decide) (by decide)
    refine bodyPost_ret (zb1 (g:=g+1) rfl rfl rfl x3 Tryz.underlying101 rfl (by kernel_rfl)) rfl ?_
    refine⟨.inl ⟨sp,0,b1,n1,c1',b2,n2,c2',?_,by rw[← Hxs.out];rfl,zaq Hv1.out hT hno,zat Hv2.out hT hno⟩,hb8⟩
    unfold zdt
    rw[if_pos (by rw[Hpk.out];exact Hroot.out),Hwi.out]
    simp only
    rw[if_neg (by rw[← Hn.out];exact Hj.out)]
   obtain⟨j',hwi,hcj⟩ : ∃ j',zbb (ws.drop 1) 0=(none,j')∧col=zb2 (ws.drop 1) (xc+xt.size) j':=by
    rcases hres with⟨s,_,h,_⟩ | h
    ·exact absurd h hcz
    exact h
   have k6:(col != 0)=true:=by simpa using hcz
   obtain⟨Hsp,Hbc,Hres,Hbw5,Hz0,Hz1,Hwi,Hcj,Hroot,Hcz⟩:=hd10 hsp hbc hres hbw5 z0 z1 hwi hcj hroot hcz;clear hsp hbc hres hbw5 z0 z1 hwi hcj hroot hcz
   go_wp2_with fail
   have x0:=heap_setCell_same _ (g+1) 0 _ _ (.string ⟨#[]⟩) Hz1.out
   have x1:=heap_setCell_same _ (g+1) 1 _ _ (.slice none 0 0) x0
   have x2:=heap_setCell_same _ (g+1) 2 _ _ (.slice none 0 0) x1
   have x3:=heap_setCell_same _ (g+1) 3 _ _ (.int .i64 0) x2
   have hb8:=(((Hbw5.out.setCell (p:=⟨g+1,0,none⟩) (by show w.heap.size≤g+1;omega) (.string ⟨#[]⟩)).setCell (p:=⟨g+1,1,none⟩) (by show w.heap.size≤g+1;omega) (.slice none 0 0)).setCell (p:=⟨g+1,2,none⟩) (by show w.heap.size≤g+1;omega) (.slice none 0 0)).setCell (p:=⟨g+1,3,none⟩) (by show w.heap.size≤g+1;omega) (.int .i64 0)
   refine bodyPost_ret (zb1 (g:=g+1) rfl rfl rfl x3 Tryz.underlying101 rfl (by kernel_rfl)) rfl ?_
   refine⟨.inr ⟨col,?_,Hcz.out,rfl⟩,hb8⟩
   unfold zdt
   rw[if_pos (by rw[Hpk.out];exact Hroot.out),Hwi.out]
   simp only
   rw[Hfin.out,Hcj.out]
  have k5:(yt.toList == [114,111,111,116])=false:=by rw[heq,decide_eq_false hroot]
  clear heq
  obtain⟨Hsp,Hbc,Hres,Hbw5,Hz0,Hz1,Hroot⟩:=hd7 hsp hbc hres hbw5 z0 z1 hroot;clear hsp hbc hres hbw5 z0 z1 hroot
  go_wp2_with fail
  go_region
  go_wp2_with fail
  have x0:=heap_setCell_same _ (g+1) 0 _ _ (.string ⟨#[]⟩) Hz1.out
  have x1:=heap_setCell_same _ (g+1) 1 _ _ (.slice none 0 0) x0
  have x2:=heap_setCell_same _ (g+1) 2 _ _ (.slice none 0 0) x1
  have x3:=heap_setCell_same _ (g+1) 3 _ _ (.int .i64 0) x2
  have hb8:=(((Hbw5.out.setCell (p:=⟨g+1,0,none⟩) (by show w.heap.size≤g+1;omega) (.string ⟨#[]⟩)).setCell (p:=⟨g+1,1,none⟩) (by show w.heap.size≤g+1;omega) (.slice none 0 0)).setCell (p:=⟨g+1,2,none⟩) (by show w.heap.size≤g+1;omega) (.slice none 0 0)).setCell (p:=⟨g+1,3,none⟩) (by show w.heap.size≤g+1;omega) (.int .i64 0)
  refine bodyPost_ret (zb1 (g:=g+1) rfl rfl rfl x3 Tryz.underlying101 rfl (by kernel_rfl)) rfl ?_
  refine⟨.inr ⟨yc,?_,by omega,rfl⟩,Below.drew hb8⟩
  unfold zdt
  rw[if_neg (by rw[Hpk.out];exact Hroot.out),Hcl0.out]
end

section
open Go.RowKit
open LexM (Bs Wd Ln St RS)
theorem zhq (c:UInt8) (w:World):Calls Tryz.prog 133 #[.int .u8 c.toNat] w fun e w'=>e = .returned (.bool (LexM.part c))∧w=w':=by
 have hcl:c.toNat < 256:=c.toNat_lt
 obtain⟨n,hn⟩ : ∃ n,n=c.toNat:=⟨_,rfl⟩
 have hp:LexM.part c=(decide (32 < n) && decide (n < 127) && !decide (n=35)):=by rw[hn];rfl
 rw[← hn] at hcl ⊢
 obtain⟨p,hpp⟩ : ∃ p,p=LexM.part c:=⟨_,rfl⟩
 rw[← hpp] at hp ⊢
 clear hn
 by_cases h1:32 < n
 ·by_cases h2:n < 127
  ·by_cases h3:n=35
   ·have hq:p=false:=by rw[hp];simp[h3]
    have hb:((n:Int) != 35)=false:=by rw[h3];rfl
    subst hq
    clear hp hpp h3
    go_enter Tryz.func133,Tryz.ntmps133
    go_wp2_with fail
    go_ret
    exact⟨rfl,rfl⟩
   have hq:p=true:=by rw[hp];simp[h1,h2,h3]
   have hb:((n:Int) != 35)=true:=by rw[bne_iff_ne];omega
   subst hq
   clear hp hpp h3
   go_enter Tryz.func133,Tryz.ntmps133
   go_wp2_with fail
   go_ret
   exact⟨rfl,rfl⟩
  have hq:p=false:=by rw[hp];simp[h2]
  have h3:127≤n:=by omega
  subst hq
  clear hp hpp
  go_enter Tryz.func133,Tryz.ntmps133
  go_wp2_with fail
  go_ret
  exact⟨rfl,rfl⟩
 have hq:p=false:=by rw[hp];simp[h1]
 have h3:n≤32:=by omega
 subst hq
 clear hp hpp
 go_enter Tryz.func133,Tryz.ntmps133
 go_wp2_with fail
 go_ret
 exact⟨rfl,rfl⟩
def zlb (w:World) (r:List Wd × Int × Int) (e:Ending) (w':World):Prop:=∃ v,e = .returned (.tuple #[v,.int .i64 r.2.1,.int .i64 r.2.2])∧w'.ownsRow w.heap.size 64 2 v r.1.length (r.1.flatMap zb4)∧Below w.heap.size w w'
def LineGo (w0:World) (t:Bs) (room:Bool) (k:Nat) (v o:Value) (w:World):Prop :=
 ∃ st:RS,LexM.rline t room=LexM.rgo t room st k (t.drop k)∧o = .bool st.off∧w.ownsRow w0.heap.size 64 2 v st.out.length (st.out.flatMap zb4)∧st.out.length≤k∧Below w0.heap.size w0 w
theorem drop_at (s:ByteArray) (k:Nat) (h:k < s.size):s.data.toList.drop k=s[k] :: s.data.toList.drop (k+1):=by
 rw[List.drop_eq_getElem_cons (by rw[Array.length_toList];exact h)]
 rfl
theorem zg0 (s:ByteArray) (k:Nat) (h:k < s.size):s.data.toList.getD k 0=s[k]:=by
 have h2:k < s.data.toList.length:=by rw[Array.length_toList];exact h
 rw[List.getD_eq_getElem?_getD,List.getElem?_eq_getElem h2]
 rfl
theorem zic {t:Bs} {room:Bool} {st:RS} {k:Nat} {c:UInt8} {r:Bs} {e:Int} (h:LexM.rerr t room st k c=e) (he:e≠0):LexM.rgo t room st k (c :: r)=(st.out,(k:Int)+1,e):=by
 unfold LexM.rgo;rw[if_neg (by rw[h];exact he),h]
theorem zha {t:Bs} {room:Bool} {st:RS} {k:Nat} {c:UInt8} {r:Bs} (h:LexM.rerr t room st k c=0):LexM.rgo t room st k (c :: r)=LexM.rgo t room (LexM.rnext t st k c) (k+1) r:=by
 rw[LexM.rgo,if_pos h]
theorem zj4 {p:UInt8→Bool}:∀ (l:Bs) (m:Nat),m≤l.length→(∀ j,j < m→p (l.getD j 0)=true)→(m < l.length→p (l.getD m 0)=false)→l.takeWhile p=l.take m:=by
 intro l
 induction l with
 | nil=>intro m hm _ _;simp
 | cons a l ih =>
  intro m hm h1 h2
  match m with
  | 0 =>
   have:=h2 (by simp)
   simp only[List.getD_cons_zero] at this
   simp[this]
  | m+1 =>
   have h0:=h1 0 (by omega)
   simp only[List.getD_cons_zero] at h0
   simp only[List.takeWhile_cons,h0,if_true,List.take_succ_cons]
   rw[ih m (by simpa using hm) (fun j hj=>by have:=h1 (j+1) (by omega);simpa using this) (fun hj=>by have:=h2 (by simpa using hj);simpa using this)]
theorem zk4 (s:ByteArray) (k q:Nat) (hk:k≤q) (hq:q≤s.size) (h1:∀ j,k≤j→j < q→LexM.part (s.data.toList.getD j 0)=true) (h2:q < s.size→LexM.part (s.data.toList.getD q 0)=false):bv (LexM.wordAt s.data.toList k) = .string (s.extract k q):=by
 have hl:s.data.toList.length=s.size:=by rw[Array.length_toList];rfl
 have e:LexM.wordAt s.data.toList k=(s.extract k q).data.toList:=by
  rw[Lib.extract_data]
  unfold LexM.wordAt
  refine zj4 _ _ (by rw[List.length_drop];omega) (fun j hj=>?_) (fun hj=>?_)
  ·have:=h1 (k+j) (by omega) (by omega)
   simpa [List.getD,List.getElem?_drop] using this
  rw[List.length_drop] at hj
  have:=h2 (by omega)
  have e2:k+(q - k)=q:=by omega
  simpa [List.getD,List.getElem?_drop,e2] using this
 unfold bv
 rw[e]
theorem zph (s:ByteArray) (room:Bool) (w:World) (hs:s.size≤1000000):Calls Tryz.prog 77 #[.string s,.bool room] w (zlb w (LexM.rline s.data.toList room)):=by
 obtain⟨t,ht⟩ : ∃ t,t=s.data.toList:=⟨_,rfl⟩
 rw[← ht]
 have h0:LineGo w t room 0 (.slice (some ⟨w.heap.size,0,none⟩) 0 0) (.bool false) (w.alloc (.cells #[] 64)) :=
  ⟨⟨false,[]⟩,rfl,rfl,World.ownsRow_lit (base:=w.heap.size) (e:=64) (size:=2) w #[] 0 (Nat.le_refl _) (by decide) rfl,Nat.le_refl _,(Below.refl _ _).alloc (Nat.le_refl _) _⟩
 obtain⟨Ht,H0⟩:=hd2 ht h0;clear ht h0
 go_enter Tryz.func77,Tryz.ntmps77
 go_wp2_with fail
 go_loopw [7,8,9] (fun v o i wr=>∃ k:Nat,k≤s.size∧i = .int .i64 k∧LineGo w t room k v o wr) (fun _ _ i _=>s.size - (intOf i).toNat)
 case atStart=>exact⟨0,Nat.zero_le _,rfl,H0.out⟩
 case round =>
  obtain⟨k,hk,rfl,st,hg,rfl,hown,hle,hbel⟩:=hrel
  obtain⟨va,vc,rfl⟩:=zai hown
  have hB:=hbel.size
  by_cases hlt:k < s.size
  ·have hdr:=drop_at s k hlt
   rw[← Ht.out] at hdr
   rw[hdr] at hg
   obtain⟨c,hc⟩ : ∃ c,c=s[k]:=⟨_,rfl⟩
   have hcl:c.toNat < 256:=c.toNat_lt
   obtain⟨n,hn⟩ : ∃ n,n=c.toNat:=⟨_,rfl⟩
   have hsk:s[k].toNat=n:=by rw[hn,hc]
   rw[← hc] at hg
   rw[← hn] at hcl
   obtain⟨off,hoff⟩ : ∃ off,off=st.off:=⟨_,rfl⟩
   rw[← hoff]
   obtain⟨Hdr,Hc,Hn,Hg,Hoff,Hown,Hbel⟩:=hd7 hdr hc hn hg hoff hown hbel;clear hdr hc hn hg hoff hown hbel
   by_cases hA:n < 32∨126 < n
   ·have hpost:LexM.rline t room=(st.out,(k:Int)+1,3):=by
     rw[Hg.out]
     exact zic (by unfold LexM.rerr;rw[if_pos (by rw[← Hn.out];exact hA)]) (by decide)
    have Hpost:=hd hpost;clear hpost
    by_cases h32:n < 32
    ·clear hA
     go_wp2_with fail
     refine bodyPost_ret (v:=.tuple #[.slice va st.out.length vc,.int .i64 ((k:Int)+1),.int .i64 3]) (by simp[results,Tryz.results77,go_sem]) rfl ?_
     rw[Hpost.out]
     exact⟨_,rfl,Hown.out,Hbel.out⟩
    have h126:126 < n:=by omega
    clear hA
    go_wp2_with fail
    refine bodyPost_ret (v:=.tuple #[.slice va st.out.length vc,.int .i64 ((k:Int)+1),.int .i64 3]) (by simp[results,Tryz.results77,go_sem]) rfl ?_
    rw[Hpost.out]
    exact⟨_,rfl,Hown.out,Hbel.out⟩
   have hlo:32≤n:=by omega
   have hhi:n≤126:=by omega
   have hr:LexM.rerr t room st k c=if LexM.rskip t st k c=true then 0 else if st.out.length=40∨room=false then 4 else 0:=by unfold LexM.rerr;rw[if_neg (by rw[← Hn.out];exact hA)]
   have Hr:=hd hr;clear hr
   clear hA
   cases off
   ·by_cases h35:n=35
    ·have hb35:((n:Int) == 35)=true:=by rw[beq_iff_eq];omega
     have hx:c.toNat=35:=by rw[← Hn.out];exact h35
     have hsk:LexM.rskip t st k c=true:=by unfold LexM.rskip;simp[LexM.roff,hx]
     have herr:LexM.rerr t room st k c=0:=by rw[Hr.out,if_pos hsk]
     have hno:(LexM.rnext t st k c).out=st.out:=by unfold LexM.rnext;rw[if_pos hsk]
     have hro:(LexM.rnext t st k c).off=true:=by unfold LexM.rnext LexM.roff;simp[hx]
     obtain⟨Hsk,Herr,Hno,Hro⟩:=hd4 hsk herr hno hro;clear hsk herr hno hro
     clear hx h35
     go_wp2_with fail
     go_roundw
     case rel=>exact⟨k+1,by omega,by go_num,LexM.rnext t st k c,by rw[Hg.out,zha Herr.out],by rw[Hro.out],by rw[Hno.out];exact Hown.out,by rw[Hno.out];omega,Hbel.out⟩
     case measure=>simp[intOf];omega
    have hb35:((n:Int) == 35)=false:=by rw[beq_eq_false_iff_ne];omega
    have hx:c.toNat≠35:=by rw[← Hn.out];exact h35
    have hof:LexM.roff st c=false:=by unfold LexM.roff;rw[← Hoff.out];simp[hx]
    obtain⟨Hof,Hx⟩:=hd2 hof hx;clear hof hx
    clear h35
    obtain⟨pc,hpc⟩ : ∃ pc,pc=LexM.part c:=⟨_,rfl⟩
    have HP:=Lib.hid (fun w=>zhq c w)
    rw[← hpc,← Hn.out] at HP
    have Hpc:=hd hpc;clear hpc
    cases pc
    ·have hsk:LexM.rskip t st k c=true:=by unfold LexM.rskip;rw[← Hpc.out];simp
     have herr:LexM.rerr t room st k c=0:=by rw[Hr.out,if_pos hsk]
     have hno:(LexM.rnext t st k c).out=st.out:=by unfold LexM.rnext;rw[if_pos hsk]
     have hro:(LexM.rnext t st k c).off=false:=by unfold LexM.rnext LexM.roff;exact Hof.out
     obtain⟨Hsk,Herr,Hno,Hro⟩:=hd4 hsk herr hno hro;clear hsk herr hno hro
     go_wp2_with (go_at_call 133;refine (HP.out _).mono ?_;rintro e w' ⟨rfl,rfl⟩)
     go_roundw
     case rel=>exact⟨k+1,by omega,by go_num,LexM.rnext t st k c,by rw[Hg.out,zha Herr.out],by rw[Hro.out],by rw[Hno.out];exact Hown.out,by rw[Hno.out];omega,Hbel.out⟩
     case measure=>simp[intOf];omega
    obtain⟨pp,hpp⟩ : ∃ pp,pp=(decide (0 < k) && LexM.part (t.getD (k - 1) 0)):=⟨_,rfl⟩
    have hsk:LexM.rskip t st k c=pp:=by unfold LexM.rskip;rw[Hof.out,← Hpc.out,hpp];rfl
    by_cases hk0:0 < k
    ·have hk1:k - 1 < s.size:=by omega
     have hgd:=zg0 s (k - 1) hk1
     rw[← Ht.out] at hgd
     have hpv:pp=LexM.part s[k - 1]:=by rw[hpp,hgd];simp[hk0]
     have HQ:=Lib.hid (fun w=>zhq s[k - 1] w)
     rw[← hpv] at HQ
     obtain⟨Hpv,Hgd,Hpp⟩:=hd3 hpv hgd hpp;clear hpv hgd hpp
     cases pp
     ·have hskn:¬ LexM.rskip t st k c=true:=by rw[hsk];simp
      by_cases h40:st.out.length=40
      ·have hb40:((st.out.length:Int) == 40)=true:=by rw[beq_iff_eq];omega
       have hpost:LexM.rline t room=(st.out,(k:Int)+1,4):=by
        rw[Hg.out]
        exact zic (by rw[Hr.out,if_neg hskn,if_pos (.inl h40)]) (by decide)
       obtain⟨Hpost,Hskn,Hsk,H40⟩:=hd4 hpost hskn hsk h40;clear hpost hskn hsk h40
       go_wp2_with fail
       refine (HP.out _).mono ?_
       rintro e w' ⟨rfl,rfl⟩
       go_wp2_with fail
       refine (HQ.out _).mono ?_
       rintro e w' ⟨rfl,rfl⟩
       go_wp2_with fail
       refine bodyPost_ret (v:=.tuple #[.slice va st.out.length vc,.int .i64 ((k:Int)+1),.int .i64 4]) (by simp[results,Tryz.results77,go_sem]) rfl ?_
       rw[Hpost.out]
       exact⟨_,rfl,Hown.out,Hbel.out⟩
      have hb40:((st.out.length:Int) == 40)=false:=by rw[beq_eq_false_iff_ne];omega
      cases room
      ·have hpost:LexM.rline t false=(st.out,(k:Int)+1,4):=by
        rw[Hg.out]
        exact zic (by rw[Hr.out,if_neg hskn,if_pos (.inr rfl)]) (by decide)
       obtain⟨Hpost,Hskn,Hsk,H40⟩:=hd4 hpost hskn hsk h40;clear hpost hskn hsk h40
       go_wp2_with fail
       refine (HP.out _).mono ?_
       rintro e w' ⟨rfl,rfl⟩
       go_wp2_with fail
       refine (HQ.out _).mono ?_
       rintro e w' ⟨rfl,rfl⟩
       go_wp2_with fail
       refine bodyPost_ret (v:=.tuple #[.slice va st.out.length vc,.int .i64 ((k:Int)+1),.int .i64 4]) (by simp[results,Tryz.results77,go_sem]) rfl ?_
       rw[Hpost.out]
       exact⟨_,rfl,Hown.out,Hbel.out⟩
      have herr:LexM.rerr t true st k c=0:=by rw[Hr.out,if_neg hskn,if_neg];rintro (h | h);exact h40 h;cases h
      have hno:(LexM.rnext t st k c).out=st.out ++ [((k:Int)+1,LexM.wordAt t k)]:=by unfold LexM.rnext;rw[if_neg hskn]
      have hro:(LexM.rnext t st k c).off=false:=Hof.out
      have hpk:LexM.part (t.getD k 0)=true:=by rw[Ht.out,zg0 s k hlt,← Hc.out,← Hpc.out]
      obtain⟨Hskn,Hsk,H40,Herr,Hno,Hro,Hpk⟩:=hd7 hskn hsk h40 herr hno hro hpk;clear hskn hsk h40 herr hno hro hpk
      go_wp2_with fail
      refine (HP.out _).mono ?_
      rintro e w' ⟨rfl,rfl⟩
      go_wp2_with fail
      refine (HQ.out _).mono ?_
      rintro e w' ⟨rfl,rfl⟩
      go_wp2_with fail
      go_loop [10] (fun i=>∃ q:Nat,k≤q∧q≤s.size∧i = .int .i64 q∧∀ j,k≤j→j < q→LexM.part (t.getD j 0)=true) (fun i=>s.size - (intOf i).toNat)
      case atStart=>exact⟨k,Nat.le_refl _,hk,rfl,fun j h1 h2=>by omega⟩
      case round =>
       obtain⟨q,hkq,hqs,rfl,hall⟩:=hrel
       have Hall:=hd hall;clear hall
       by_cases hq:q < s.size
       ·have hgq:=zg0 s q hq
        rw[← Ht.out] at hgq
        obtain⟨pq,hpq⟩ : ∃ pq,pq=LexM.part s[q]:=⟨_,rfl⟩
        have HR:=Lib.hid (fun w=>zhq s[q] w)
        rw[← hpq] at HR
        obtain⟨Hpq,Hgq⟩:=hd2 hpq hgq;clear hpq hgq
        cases pq
        ·have hw:=zk4 s k q hkq (by omega) (by rw[← Ht.out];exact Hall.out) (fun _=>by rw[← Ht.out,Hgq.out,← Hpq.out])
         rw[← Ht.out] at hw
         have Hw:=hd hw;clear hw
         go_wp2_with fail
         refine (HR.out _).mono ?_
         rintro e w' ⟨rfl,rfl⟩
         go_wp2_with (at_builtin;refine zar zf2 rfl (.tmp 80) (.tmp 88) rfl w.heap.size (.slice va st.out.length vc) st.out.length (st.out.flatMap zb4) rfl Hown.out 1 (by decide) #[.int .i64 ((k:Int)+1),.string (s.extract k q)] rfl rfl (by simp[Value.oneCell']) (by omega) (by unfold maxLen;omega) hB ?_)
         intro g8 c8 w8 hown8 hg8 hm8
         have hb8:=zbt Hbel.out Hown.out (Nat.le_refl _) hg8 hB
         have ho8:w8.ownsRow w.heap.size 64 2 (.slice (some ⟨g8,0,none⟩) (st.out.length+1) c8) (LexM.rnext t st k c).out.length ((LexM.rnext t st k c).out.flatMap zb4):=by
          rw[Hno.out,List.length_append,List.flatMap_append]
          simp only[List.flatMap_cons,List.flatMap_nil,List.append_nil,zb4,Hw.out]
          exact hown8
         obtain⟨Hb8,Ho8⟩:=hd2 hb8 ho8;clear hb8 ho8
         clear hown8 hg8 hm8
         go_wp2_with fail
         go_roundw
         case rel=>exact⟨k+1,by omega,by go_num,LexM.rnext t st k c,by rw[Hg.out,zha Herr.out],by rw[Hro.out],Ho8.out,by rw[Hno.out,List.length_append];simp;omega,Hb8.out⟩
         case measure=>simp[intOf];omega
        go_wp2_with fail
        refine (HR.out _).mono ?_
        rintro e w' ⟨rfl,rfl⟩
        go_wp2_with fail
        go_round
        case rel=>exact⟨q+1,by omega,by omega,by go_num,fun j h1 h2=>by
         by_cases e:j=q
         ·rw[e,Hgq.out,← Hpq.out]
         exact Hall.out j h1 (by omega)⟩
        case measure=>simp[intOf];omega
       have hw:=zk4 s k q hkq hqs (by rw[← Ht.out];exact Hall.out) (fun h=>absurd h hq)
       rw[← Ht.out] at hw
       have Hw:=hd hw;clear hw
       go_wp2_with (at_builtin;refine zar zf2 rfl (.tmp 80) (.tmp 88) rfl w.heap.size (.slice va st.out.length vc) st.out.length (st.out.flatMap zb4) rfl Hown.out 1 (by decide) #[.int .i64 ((k:Int)+1),.string (s.extract k q)] rfl rfl (by simp[Value.oneCell']) (by omega) (by unfold maxLen;omega) hB ?_)
       intro g8 c8 w8 hown8 hg8 hm8
       have hb8:=zbt Hbel.out Hown.out (Nat.le_refl _) hg8 hB
       have ho8:w8.ownsRow w.heap.size 64 2 (.slice (some ⟨g8,0,none⟩) (st.out.length+1) c8) (LexM.rnext t st k c).out.length ((LexM.rnext t st k c).out.flatMap zb4):=by
        rw[Hno.out,List.length_append,List.flatMap_append]
        simp only[List.flatMap_cons,List.flatMap_nil,List.append_nil,zb4,Hw.out]
        exact hown8
       obtain⟨Hb8,Ho8⟩:=hd2 hb8 ho8;clear hb8 ho8
       clear hown8 hg8 hm8
       go_wp2_with fail
       go_roundw
       case rel=>exact⟨k+1,by omega,by go_num,LexM.rnext t st k c,by rw[Hg.out,zha Herr.out],by rw[Hro.out],Ho8.out,by rw[Hno.out,List.length_append];simp;omega,Hb8.out⟩
       case measure=>simp[intOf];omega
     have herr:LexM.rerr t room st k c=0:=by rw[Hr.out,if_pos hsk]
     have hno:(LexM.rnext t st k c).out=st.out:=by unfold LexM.rnext;rw[if_pos hsk]
     have hro:(LexM.rnext t st k c).off=false:=Hof.out
     obtain⟨Hsk,Herr,Hno,Hro⟩:=hd4 hsk herr hno hro;clear hsk herr hno hro
     go_wp2_with fail
     refine (HP.out _).mono ?_
     rintro e w' ⟨rfl,rfl⟩
     go_wp2_with fail
     refine (HQ.out _).mono ?_
     rintro e w' ⟨rfl,rfl⟩
     go_wp2_with fail
     go_roundw
     case rel=>exact⟨k+1,by omega,by go_num,LexM.rnext t st k c,by rw[Hg.out,zha Herr.out],by rw[Hro.out],by rw[Hno.out];exact Hown.out,by rw[Hno.out];omega,Hbel.out⟩
     case measure=>simp[intOf];omega
    have hpf:pp=false:=by rw[hpp];simp[hk0]
    subst hpf
    have Hpp:=hd hpp;clear hpp
    have hskn:¬ LexM.rskip t st k c=true:=by rw[hsk];simp
    by_cases h40:st.out.length=40
    ·have hb40:((st.out.length:Int) == 40)=true:=by rw[beq_iff_eq];omega
     have hpost:LexM.rline t room=(st.out,(k:Int)+1,4):=by
      rw[Hg.out]
      exact zic (by rw[Hr.out,if_neg hskn,if_pos (.inl h40)]) (by decide)
     obtain⟨Hpost,Hskn,Hsk,H40⟩:=hd4 hpost hskn hsk h40;clear hpost hskn hsk h40
     go_wp2_with fail
     refine (HP.out _).mono ?_
     rintro e w' ⟨rfl,rfl⟩
     go_wp2_with fail
     refine bodyPost_ret (v:=.tuple #[.slice va st.out.length vc,.int .i64 ((k:Int)+1),.int .i64 4]) (by simp[results,Tryz.results77,go_sem]) rfl ?_
     rw[Hpost.out]
     exact⟨_,rfl,Hown.out,Hbel.out⟩
    have hb40:((st.out.length:Int) == 40)=false:=by rw[beq_eq_false_iff_ne];omega
    cases room
    ·have hpost:LexM.rline t false=(st.out,(k:Int)+1,4):=by
      rw[Hg.out]
      exact zic (by rw[Hr.out,if_neg hskn,if_pos (.inr rfl)]) (by decide)
     obtain⟨Hpost,Hskn,Hsk,H40⟩:=hd4 hpost hskn hsk h40;clear hpost hskn hsk h40
     go_wp2_with fail
     refine (HP.out _).mono ?_
     rintro e w' ⟨rfl,rfl⟩
     go_wp2_with fail
     refine bodyPost_ret (v:=.tuple #[.slice va st.out.length vc,.int .i64 ((k:Int)+1),.int .i64 4]) (by simp[results,Tryz.results77,go_sem]) rfl ?_
     rw[Hpost.out]
     exact⟨_,rfl,Hown.out,Hbel.out⟩
    have herr:LexM.rerr t true st k c=0:=by rw[Hr.out,if_neg hskn,if_neg];rintro (h | h);exact h40 h;cases h
    have hno:(LexM.rnext t st k c).out=st.out ++ [((k:Int)+1,LexM.wordAt t k)]:=by unfold LexM.rnext;rw[if_neg hskn]
    have hro:(LexM.rnext t st k c).off=false:=Hof.out
    have hpk:LexM.part (t.getD k 0)=true:=by rw[Ht.out,zg0 s k hlt,← Hc.out,← Hpc.out]
    obtain⟨Hskn,Hsk,H40,Herr,Hno,Hro,Hpk⟩:=hd7 hskn hsk h40 herr hno hro hpk;clear hskn hsk h40 herr hno hro hpk
    go_wp2_with fail
    refine (HP.out _).mono ?_
    rintro e w' ⟨rfl,rfl⟩
    go_wp2_with fail
    go_loop [10] (fun i=>∃ q:Nat,k≤q∧q≤s.size∧i = .int .i64 q∧∀ j,k≤j→j < q→LexM.part (t.getD j 0)=true) (fun i=>s.size - (intOf i).toNat)
    case atStart=>exact⟨k,Nat.le_refl _,hk,rfl,fun j h1 h2=>by omega⟩
    case round =>
     obtain⟨q,hkq,hqs,rfl,hall⟩:=hrel
     have Hall:=hd hall;clear hall
     by_cases hq:q < s.size
     ·have hgq:=zg0 s q hq
      rw[← Ht.out] at hgq
      obtain⟨pq,hpq⟩ : ∃ pq,pq=LexM.part s[q]:=⟨_,rfl⟩
      have HR:=Lib.hid (fun w=>zhq s[q] w)
      rw[← hpq] at HR
      obtain⟨Hpq,Hgq⟩:=hd2 hpq hgq;clear hpq hgq
      cases pq
      ·have hw:=zk4 s k q hkq (by omega) (by rw[← Ht.out];exact Hall.out) (fun _=>by rw[← Ht.out,Hgq.out,← Hpq.out])
       rw[← Ht.out] at hw
       have Hw:=hd hw;clear hw
       go_wp2_with fail
       refine (HR.out _).mono ?_
       rintro e w' ⟨rfl,rfl⟩
       go_wp2_with (at_builtin;refine zar zf2 rfl (.tmp 80) (.tmp 88) rfl w.heap.size (.slice va st.out.length vc) st.out.length (st.out.flatMap zb4) rfl Hown.out 1 (by decide) #[.int .i64 ((k:Int)+1),.string (s.extract k q)] rfl rfl (by simp[Value.oneCell']) (by omega) (by unfold maxLen;omega) hB ?_)
       intro g8 c8 w8 hown8 hg8 hm8
       have hb8:=zbt Hbel.out Hown.out (Nat.le_refl _) hg8 hB
       have ho8:w8.ownsRow w.heap.size 64 2 (.slice (some ⟨g8,0,none⟩) (st.out.length+1) c8) (LexM.rnext t st k c).out.length ((LexM.rnext t st k c).out.flatMap zb4):=by
        rw[Hno.out,List.length_append,List.flatMap_append]
        simp only[List.flatMap_cons,List.flatMap_nil,List.append_nil,zb4,Hw.out]
        exact hown8
       obtain⟨Hb8,Ho8⟩:=hd2 hb8 ho8;clear hb8 ho8
       clear hown8 hg8 hm8
       go_wp2_with fail
       go_roundw
       case rel=>exact⟨k+1,by omega,by go_num,LexM.rnext t st k c,by rw[Hg.out,zha Herr.out],by rw[Hro.out],Ho8.out,by rw[Hno.out,List.length_append];simp;omega,Hb8.out⟩
       case measure=>simp[intOf];omega
      go_wp2_with fail
      refine (HR.out _).mono ?_
      rintro e w' ⟨rfl,rfl⟩
      go_wp2_with fail
      go_round
      case rel=>exact⟨q+1,by omega,by omega,by go_num,fun j h1 h2=>by
       by_cases e:j=q
       ·rw[e,Hgq.out,← Hpq.out]
       exact Hall.out j h1 (by omega)⟩
      case measure=>simp[intOf];omega
     have hw:=zk4 s k q hkq hqs (by rw[← Ht.out];exact Hall.out) (fun h=>absurd h hq)
     rw[← Ht.out] at hw
     have Hw:=hd hw;clear hw
     go_wp2_with (at_builtin;refine zar zf2 rfl (.tmp 80) (.tmp 88) rfl w.heap.size (.slice va st.out.length vc) st.out.length (st.out.flatMap zb4) rfl Hown.out 1 (by decide) #[.int .i64 ((k:Int)+1),.string (s.extract k q)] rfl rfl (by simp[Value.oneCell']) (by omega) (by unfold maxLen;omega) hB ?_)
     intro g8 c8 w8 hown8 hg8 hm8
     have hb8:=zbt Hbel.out Hown.out (Nat.le_refl _) hg8 hB
     have ho8:w8.ownsRow w.heap.size 64 2 (.slice (some ⟨g8,0,none⟩) (st.out.length+1) c8) (LexM.rnext t st k c).out.length ((LexM.rnext t st k c).out.flatMap zb4):=by
      rw[Hno.out,List.length_append,List.flatMap_append]
      simp only[List.flatMap_cons,List.flatMap_nil,List.append_nil,zb4,Hw.out]
      exact hown8
     obtain⟨Hb8,Ho8⟩:=hd2 hb8 ho8;clear hb8 ho8
     clear hown8 hg8 hm8
     go_wp2_with fail
     go_roundw
     case rel=>exact⟨k+1,by omega,by go_num,LexM.rnext t st k c,by rw[Hg.out,zha Herr.out],by rw[Hro.out],Ho8.out,by rw[Hno.out,List.length_append];simp;omega,Hb8.out⟩
     case measure=>simp[intOf];omega
   have hsk:LexM.rskip t st k c=true:=by unfold LexM.rskip;simp[LexM.roff,← Hoff.out]
   have herr:LexM.rerr t room st k c=0:=by rw[Hr.out,if_pos hsk]
   have hno:(LexM.rnext t st k c).out=st.out:=by unfold LexM.rnext;rw[if_pos hsk]
   have hro:(LexM.rnext t st k c).off=true:=by unfold LexM.rnext LexM.roff;simp[← Hoff.out]
   obtain⟨Hsk,Herr,Hno,Hro⟩:=hd4 hsk herr hno hro;clear hsk herr hno hro
   go_wp2_with fail
   go_roundw
   case rel=>exact⟨k+1,by omega,by go_num,LexM.rnext t st k c,by rw[Hg.out,zha Herr.out],by rw[Hro.out],by rw[Hno.out];exact Hown.out,by rw[Hno.out];omega,Hbel.out⟩
   case measure=>simp[intOf];omega
  have hdr:t.drop k = []:=List.drop_eq_nil_of_le (by rw[Ht.out,Array.length_toList];show s.data.size≤k;have:s.data.size=s.size:=rfl;omega)
  have hpost:LexM.rline t room=(st.out,0,0):=by rw[hg,hdr];rfl
  obtain⟨Hpost,Hown,Hbel⟩:=hd3 hpost hown hbel;clear hpost hown hbel
  clear hg hdr
  go_wp2_with fail
  refine bodyPost_ret (v:=.tuple #[.slice va st.out.length vc,.int .i64 0,.int .i64 0]) (by simp[results,Tryz.results77,go_sem]) rfl ?_
  rw[Hpost.out]
  exact⟨_,rfl,Hown.out,Hbel.out⟩
end

section
open Go.RowKit
open LexM (Bs Wd Ln St RS)
theorem ze0 {w w':World} (h:Below w.drew.heap.size w.drew w'):Below w.heap.size w w':=⟨h.os,h.tape,h.output,h.size,h.block⟩
structure zeq (B:Nat) (out:List Ln) (ov:Value) (rv:List Value) (w:World):Prop where
 row:w.ownsRow B 62 2 ov out.length (zd3 out rv)
 rlen:rv.length=out.length
 rows:∀ (i:Nat) (ln:Ln) (v:Value),out[i]? = some ln→rv[i]? = some v→w.ownsRow B 64 2 v ln.2.length (ln.2.flatMap zb4)
theorem zeq.kept {B:Nat} {out:List Ln} {ov:Value} {rv:List Value} {w w':World} (h:zeq B out ov rv w) {S:Nat→Prop} (hf:Frm S w w') (hS:∀ k cs,S k→w.heap[k]? = some (.cells cs 62 (0,0))→False) (hS2:∀ k cs,S k→w.heap[k]? = some (.cells cs 64 (0,0))→False):zeq B out ov rv w' :=
 ⟨hf.owns h.row (fun k hk e=>by obtain⟨cs,hc⟩:=zdh h.row k hk;exact hS k cs e hc),h.rlen,fun i ln v hi hv=>hf.owns (h.rows i ln v hi hv) (fun k hk e=>by obtain⟨cs,hc⟩:=zdh (h.rows i ln v hi hv) k hk;exact hS2 k cs e hc)⟩
theorem zeq.below {B:Nat} {out:List Ln} {ov:Value} {rv:List Value} {w w':World} (h:zeq B out ov rv w) (hb:Below w.heap.size w w'):zeq B out ov rv w' :=
 h.kept (S:=fun _=>False) (Frm.of_below hb) (fun _ _ h=>h.elim) (fun _ _ h=>h.elim)
theorem zeq.push {B:Nat} {out:List Ln} {ov ov':Value} {rv:List Value} {w w3:World} (h:zeq B out ov rv w) (n:Int) (ws:List Wd) (v:Value) (hv:w.ownsRow B 64 2 v ws.length (ws.flatMap zb4))
  (hown:w3.ownsRow B 62 2 ov' (out.length+1) (zd3 out rv ++ [.int .i64 n,v])) (hg:w.grownBy w3 ov.ownBlock):zeq B (out ++ [(n,ws)]) ov' (rv ++ [v]) w3:=by
 have f1:Frm (fun k=>ov.ownBlock=some k) w w3:=(Frm.refl _ w).grown hg (fun k hk=>.inr hk)
 refine⟨by rw[zhb h.rlen,List.length_append];exact hown,by simp[h.rlen],?_⟩
 intro i ln u hi hu
 by_cases hlt:i < out.length
 ·rw[List.getElem?_append_left hlt] at hi
  rw[List.getElem?_append_left (by rw[h.rlen];exact hlt)] at hu
  have r1:=h.rows i ln u hi hu
  exact f1.owns r1 (fun k hk e=>zca r1 h.row (by decide) k hk e)
 have hil:=(List.getElem?_eq_some_iff.1 hi).1
 simp at hil
 obtain rfl:i=out.length:=by omega
 have hh:=h.rlen
 rw[List.getElem?_append_right (Nat.le_refl _)] at hi
 rw[← hh,List.getElem?_append_right (Nat.le_refl _)] at hu
 simp at hi hu
 subst hi;subst hu
 exact f1.owns hv (fun k hk e=>zca hv h.row (by decide) k hk e)
theorem zeq.reads {B:Nat} {out:List Ln} {ov:Value} {rv:List Value} {w:World} (h:zeq B out ov rv w) {m:Nat} (hm:m≤10000000) (hf:∀ ln∈out,LnOk m ln):RLns w [ov] out:=by
 have hlen:(out.zip rv).length=out.length:=by simp[h.rlen]
 have h1:=h.row
 have h2:zde 2 (fun w cs (y:Ln × Value)=>RLn w cs y.1) w [ov] (out.zip rv):=by
  refine zd6 (B:=B) (e:=62) (fun x:Ln × Value=>[.int .i64 x.1.1,x.2]) _ (fun _ _=>rfl) ?_ (by rw[hlen];exact h1)
  intro y hy
  obtain⟨i,hi,rfl⟩:=List.mem_iff_getElem.1 hy
  have hi1:i < out.length:=by omega
  have hi2:i < rv.length:=by rw[h.rlen];exact hi1
  rw[List.getElem_zip]
  have r1:=h.rows i out[i] rv[i] (List.getElem?_eq_getElem hi1) (List.getElem?_eq_getElem hi2)
  obtain⟨a,b,c⟩:=hf _ (List.getElem_mem hi1)
  exact⟨rv[i],rfl,zd6 zb4 RWd (fun _ _=>rfl) (fun wd hw=>rword hm (c wd hw)) r1,zk5 (n:=out[i].1) a (by omega)⟩
 obtain⟨a,cap,hv,g1,g2,g3⟩:=h2
 rw[hlen] at hv g1
 refine⟨a,cap,hv,g1,g2,fun i ln hi=>?_⟩
 have hi1:=(List.getElem?_eq_some_iff.1 hi).1
 have hi2:i < rv.length:=by rw[h.rlen];exact hi1
 have hzi:(out.zip rv)[i]? = some (ln,rv[i]):=by
  rw[List.getElem?_zip_eq_some]
  exact⟨hi,List.getElem?_eq_getElem hi2⟩
 exact g3 i _ hzi
theorem zr6 (t:Bs) (h:t.length≤65536):∀ ln∈(LexM.docLines t).lines,LnOk 200000 ln:=by
 rw[← LexM.lines_eq]
 unfold LexM.lines
 rw[if_neg (by omega)]
 unfold LexM.close
 split
 ·rename_i h0
  have h1:=zlw t LexM.st0 0 zoy h0
  have h2:=zp3 t LexM.st0 0 zoy ⟨by simp[LexM.st0],by simp[LexM.st0]⟩ h0
  exact ((zg3 h1 h2).mono (by omega)).out
 simp
def zle (w:World) (r:LexM.Res) (e:Ending) (w':World):Prop:=∃ v,e = .returned (.agg #[v,.int .i64 r.at1,.int .i64 r.at2,.int .i64 r.e])∧RLns w' [v] r.lines∧Below w.heap.size w w'
def DocAt (doc:LexM.Res) (t:Bs) (i:Nat) (n:Int) (f:Nat) (out:List Ln):Prop :=
 (i≤t.length∧f≤i∧doc=LexM.rlines n ((t.drop f).take (i - f)) out (t.drop i))∨(i=t.length+1∧f=i∧doc=⟨out,0,0,0⟩)
theorem docAt_on {doc:LexM.Res} {t:Bs} {i:Nat} {n:Int} {f:Nat} {out:List Ln} {c:UInt8} (h:DocAt doc t i n f out) (hi:i < t.length) (hc:t.getD i 0=c) (h10:c.toNat≠10):DocAt doc t (i+1) n f out:=by
 rcases h with⟨h1,h2,h3⟩ | ⟨h1,_,_⟩
 ·left
  refine⟨by omega,by omega,?_⟩
  have hd:t.drop i=c :: t.drop (i+1):=by
   rw[List.drop_eq_getElem_cons hi]
   congr 1
   rw[← hc];simp[List.getD,hi]
  rw[h3,hd]
  conv=>lhs;unfold LexM.rlines
  rw[if_neg h10]
  congr 1
  have:i+1 - f=(i - f)+1:=by omega
  rw[this,List.take_add_one]
  congr 1
  rw[List.getElem?_drop,show f+(i - f)=i by omega]
  have:t[i]? = some c:=by
   rw[List.getElem?_eq_getElem hi,← hc];simp[List.getD,hi]
  rw[this];rfl
 omega
theorem zjw {doc:LexM.Res} {t:Bs} {i:Nat} {n:Int} {f:Nat} {out:List Ln} (h:DocAt doc t i n f out) (hi:i≤t.length) (hc:i < t.length→(t.getD i 0).toNat=10) :
  let q:=LexM.rline ((t.drop f).take (i - f)) (decide (out.length < 2000))
  (q.2.2=0→DocAt doc t (i+1) (n+1) (i+1) (LexM.addLn out n q.1))∧(q.2.2≠0→doc=⟨[],n,q.2.1,q.2.2⟩):=by
 intro q
 rcases h with⟨h1,h2,h3⟩ | ⟨h1,_,_⟩
 ·by_cases hlt:i < t.length
  ·have hd:t.drop i=t.getD i 0 :: t.drop (i+1):=by
    rw[List.drop_eq_getElem_cons hlt]
    congr 1
    simp[List.getD,hlt]
   rw[hd] at h3
   unfold LexM.rlines at h3
   rw[if_pos (hc hlt)] at h3
   dsimp only at h3
   constructor
   ·intro hq
    rw[if_pos hq] at h3
    left
    refine⟨by omega,Nat.le_refl _,?_⟩
    rw[h3,Nat.sub_self]
    rfl
   intro hq
   rw[if_neg hq] at h3
   exact h3
  rw[List.drop_eq_nil_of_le (show t.length≤i by omega)] at h3
  unfold LexM.rlines at h3
  dsimp only at h3
  constructor
  ·intro hq
   rw[if_pos hq] at h3
   right
   exact⟨by omega,rfl,h3⟩
  intro hq
  rw[if_neg hq] at h3
  exact h3
 omega
abbrev zbh (ov:Value):Array Value:=#[ov,.int .i64 0,.int .i64 0,.int .i64 0]
structure zoo (w1:World) (x:Nat) (out:List Ln) (ov:Value) (rv:List Value) (w:World):Prop where
 cells:w.heap[x]? = some (.cells (zbh ov) 58 (0,0))
 own:zeq w1.heap.size out ov rv w
 bel:Below w1.heap.size w1 w
 xB:w1.heap.size≤x
theorem zoo.below {w1 w w':World} {x:Nat} {out:List Ln} {ov:Value} {rv:List Value} (h:zoo w1 x out ov rv w) (hb:Below w.heap.size w w'):zoo w1 x out ov rv w' :=
 ⟨zbc h.cells (Frm.of_below (S:=fun _=>False) hb) (fun h=>h),h.own.below hb,h.bel.trans (hb.mono h.bel.size),h.xB⟩
theorem zoo.push {w1 w w3:World} {x:Nat} {out:List Ln} {ov ov':Value} {rv:List Value} (h:zoo w1 x out ov rv w) (n:Int) (ws:List Wd) (v:Value) (hv:w.ownsRow w1.heap.size 64 2 v ws.length (ws.flatMap zb4))
  (hown:w3.ownsRow w1.heap.size 62 2 ov' (out.length+1) (zd3 out rv ++ [.int .i64 n,v])) (hg:w.grownBy w3 ov.ownBlock):zoo w1 x (out ++ [(n,ws)]) ov' (rv ++ [v]) (w3.setCell ⟨x,0,none⟩ ov'):=by
 have hx:=zah h.own.row h.cells (by decide)
 have f1:Frm (fun k=>ov.ownBlock=some k) w w3:=(Frm.refl _ w).grown hg (fun k hk=>.inr hk)
 have hc3:=zbc h.cells f1 hx
 have f2:=za9 (Frm.refl (fun k=>k=x) w3) 0 ov'
 refine⟨?_,?_,?_,h.xB⟩
 ·rw[heap_setCell_same w3 x 0 _ _ ov' hc3];rfl
 ·refine (h.own.push n ws v hv hown hg).kept f2 (fun k cs e hc=>?_) (fun k cs e hc=>?_)
  ·rw[e,hc3] at hc;simp at hc
  rw[e,hc3] at hc;simp at hc
 have b1:Below w1.heap.size w w3:=f1.below h.bel.size (fun k hk=>(h.own.row.lt k hk).1)
 exact (h.bel.trans b1).trans (f2.below (by have:=h.bel.size;have:=f1.size;omega) (fun k hk=>by rw[hk];exact h.xB))
def DocGo (w1:World) (x:Nat) (doc:LexM.Res) (t:Bs) (i:Nat) (nv fv:Value) (w:World):Prop :=
 ∃ (n:Int) (f:Nat) (out:List Ln) (ov:Value) (rv:List Value),nv = .int .i64 n∧fv = .int .i64 f∧f≤i∧DocAt doc t i n f out∧zoo w1 x out ov rv w∧out.length≤i∧0≤n∧n≤i+1
theorem zl5 (s:ByteArray) (hs:s.size≤140737488351232) (w:World) (h:65536 < s.size):Calls Tryz.prog 36 #[.string s] w (zle w (LexM.docLines s.data.toList)):=by
 have hr:LexM.docLines s.data.toList=⟨[],0,0,4⟩:=by unfold LexM.docLines;rw[if_pos];rw[Array.length_toList];exact h
 rw[hr]
 clear hr
 go_enter Tryz.func36,Tryz.ntmps36
 go_wp2_with fail
 refine bodyPost_ret (v:=.agg #[.slice none 0 0,.int .i64 0,.int .i64 0,.int .i64 4]) (by simp[results,Tryz.results36,go_sem]) rfl ⟨_,rfl,⟨none,0,rfl,Nat.le_refl _,Nat.zero_le _,fun i x hi=>by simp at hi⟩,?_⟩
 exact ((Below.refl _ _).alloc (Nat.le_refl _) _).alloc (by simp) _
theorem zje (s:ByteArray) (w:World) (h:s.size≤65536):Calls Tryz.prog 36 #[.string s] w (zle w (LexM.docLines s.data.toList)):=by
 have hlen:s.data.toList.length=s.size:=by rw[Array.length_toList];rfl
 obtain⟨t,ht⟩ : ∃ t,t=s.data.toList:=⟨_,rfl⟩
 rw[← ht] at hlen ⊢
 have hdoc:LexM.docLines t=LexM.rlines 1 [] [] t:=by unfold LexM.docLines;rw[if_neg (by omega)]
 have hfine:=zr6 t (by omega)
 obtain⟨doc,hd⟩ : ∃ doc,doc=LexM.docLines t:=⟨_,rfl⟩
 rw[← hd] at hfine hdoc ⊢
 obtain⟨w1,hw1⟩ : ∃ w1,w1=w.alloc (.cells (zbh (.slice none 0 0)) 58):=⟨_,rfl⟩
 have hs1:w1.heap.size=w.heap.size+1:=by rw[hw1];simp
 have h0:DocGo w1 (w.heap.size+1) doc t 0 (.int .i64 1) (.int .i64 0) (w1.alloc (.cells (zbh (.slice none 0 0)) 58)):=by
  refine⟨1,0,[],.slice none 0 0,[],rfl,rfl,Nat.le_refl _,.inl ⟨by omega,Nat.le_refl _,by rw[hdoc];simp⟩,⟨?_,⟨World.ownsRow_nil _ _ _ _,rfl,fun i ln v hi=>by simp at hi⟩,(Below.refl _ _).alloc (Nat.le_refl _) _,by omega⟩,by simp,by omega,by omega⟩
  have:=heap_alloc_new w1 (.cells (zbh (.slice none 0 0)) 58)
  rw[hs1] at this
  exact this
 have hblk:w1.heap[w.heap.size]? = some (.cells (zbh (.slice none 0 0)) 58 (0,0)):=by rw[hw1];exact heap_alloc_new w _
 have hbel1:Below w.heap.size w w1:=by rw[hw1];exact (Below.refl _ _).alloc (Nat.le_refl _) _
 obtain⟨Ht,Hlen,Hdoc,Hfine,Hd,H0,Hblk,Hs1,Hbel1⟩:=hd9 ht hlen hdoc hfine hd h0 hblk hs1 hbel1;clear ht hlen hdoc hfine hd h0 hblk hs1 hbel1
 go_enter Tryz.func36,Tryz.ntmps36
 go_wp2_with fail
 have hw2:(w.alloc (.cells #[.slice none 0 0,.int .i64 0,.int .i64 0,.int .i64 0] 58)).alloc (.cells #[.slice none 0 0,.int .i64 0,.int .i64 0,.int .i64 0] 58)=w1.alloc (.cells (zbh (.slice none 0 0)) 58):=by rw[hw1]
 rw[hw2]
 clear hw2 hw1
 go_loopw [4,5,6] (fun nv fv i wr=>∃ k:Nat,k≤s.size+1∧i = .int .i64 k∧DocGo w1 (w.heap.size+1) doc t k nv fv wr) (fun _ _ i _=>s.size+1 - (intOf i).toNat)
 case atStart=>exact⟨0,Nat.zero_le _,rfl,H0.out⟩
 case round =>
  obtain⟨k,hk,rfl,n,f,out,ov,rv,rfl,rfl,hfk,hat,hst,hol,hn0,hn1⟩:=hrel
  obtain⟨oa,oc,rfl⟩:=zai hst.own.row
  by_cases hlt:k≤s.size
  ·by_cases hone:k < s.size
   ·by_cases h10:s[k].toNat=10
    ·have hc10:k < t.length→(t.getD k 0).toNat=10:=by
      intro _
      rw[Ht.out,zg0 s k hone]
      exact h10
     obtain⟨m,hm⟩ : ∃ m,m=s[k].toNat:=⟨_,rfl⟩
     have hm2:s[k].toNat=m:=hm.symm
     have hb:((m:Int) != 10)=false:=by rw[hm,h10];rfl
     clear hm h10
     obtain⟨Hat,Hst⟩:=hd2 hat hst;clear hat hst
     have hblk2:∀ w9,Below wr.heap.size wr w9→w9.heap[w.heap.size]? = some (.cells (zbh (.slice none 0 0)) 58 (0,0)):=by
      intro w9 hb9
      have h1:=Hst.out.bel.size
      have h2:=Hs1.out
      rw[hb9.block _ (by omega),Hst.out.bel.block _ (by omega)]
      exact Hblk.out
     obtain⟨q,hq⟩ : ∃ q,q=LexM.rline ((t.drop f).take (k - f)) (decide (out.length < 2000)):=⟨_,rfl⟩
     have hline:=zjw Hat.out (by have:=Hlen.out;omega) hc10
     rw[← hq] at hline
     have HC:Hid (∀ w',Calls Tryz.prog 77 #[.string (s.extract f k),.bool (decide ((out.length:Int) < 2000))] w' (zlb w' q)):=by
      intro w'
      have h1:=zph (s.extract f k) (decide (out.length < 2000)) w' (by rw[ByteArray.size_extract];omega)
      rw[Lib.extract_data,← Ht.out,← hq] at h1
      have h2:decide ((out.length:Int) < 2000)=decide (out.length < 2000):=by
       congr 1;simp only[eq_iff_iff];omega
      rw[h2]
      exact h1
     have hx0:=za4 Hst.out.cells 0
     simp only[zbh,List.getElem?_toArray,List.getElem?_cons_zero] at hx0
     obtain⟨ws,qa,qe⟩:=q
     obtain⟨Hline,Hq,Hblk2⟩:=hd3 hline hq hblk2;clear hline hq hblk2
     clear hc10
     go_wp2_with fail
     go_region_with (go_at_call 77;refine (HC.out _).mono ?_;rintro e w5 ⟨v5,rfl,hv5,hb5⟩)
     obtain⟨va,vc,rfl⟩:=zai hv5
     have hS5:=Hst.out.below (ze0 hb5)
     have hv6:=zcc hv5 (show w1.heap.size≤wr.heap.size from Hst.out.bel.size)
     have hk5:=Hblk2.out w5 (ze0 hb5)
     have hB5:=hS5.bel.size
     by_cases he:qe=0
     ·have hbe:(qe != 0)=false:=by rw[he];rfl
      have hat3:=Hline.out.1 he
      by_cases hw:ws = []
      ·have hadd:LexM.addLn out n ws=out:=by unfold LexM.addLn;rw[if_pos hw]
       have hwl:ws.length=0:=by rw[hw];rfl
       rw[hadd] at hat3
       obtain⟨HS5,Hv5,Hv6,Hk5,Hb5,He,Hat3,Hadd,Hw⟩:=hd9 hS5 hv5 hv6 hk5 hb5 he hat3 hadd hw;clear hS5 hv5 hv6 hk5 hb5 he hat3 hadd hw
       go_wp2_with fail
       go_roundw
       case rel=>exact⟨k+1,by omega,by go_num,n+1,k+1,out,_,rv,rfl,by go_num,by omega,Hat3.out,HS5.out,by omega,by omega,by omega⟩
       case measure=>simp[intOf];omega
      have hadd:LexM.addLn out n ws=out ++ [(n,ws)]:=by unfold LexM.addLn;rw[if_neg hw]
      have hwl:0 < ws.length:=List.length_pos_iff.2 hw
      rw[hadd] at hat3
      have y0:=za4 hS5.cells 0
      simp only[zbh,List.getElem?_toArray,List.getElem?_cons_zero] at y0
      have hro:=hS5.own.row
      have hnx:=zah hS5.own.row hS5.cells (by decide)
      obtain⟨HS5,Hv5,Hv6,Hk5,Hb5,He,Hat3,Hadd,Hw,Hro,Hnx⟩:=hd11 hS5 hv5 hv6 hk5 hb5 he hat3 hadd hw hro hnx;clear hS5 hv5 hv6 hk5 hb5 he hat3 hadd hw hro hnx
      go_wp2_with (at_builtin;refine zar zis (w:=w5) rfl (.tmp 56) (.tmp 60) rfl w1.heap.size (.slice oa out.length oc) out.length (zd3 out rv) rfl Hro.out 1 (by decide) #[.int .i64 n,.slice va ws.length vc] rfl rfl (by simp[Value.oneCell']) (by omega) (by unfold maxLen;omega) hB5 ?_)
      intro g8 c8 w8 hown8 hg8 hm8
      have hc8:=zbc HS5.out.cells ((Frm.refl _ w5).grown hg8 (S:=fun k=>(Value.slice oa out.length oc).ownBlock=some k) (fun k hk=>.inr hk)) Hnx.out
      have z0:=za4 hc8 0
      have u0:=za8 hc8 0
      simp only[zbh,List.getElem?_toArray,List.getElem?_cons_zero] at z0
      have hP:=HS5.out.push n ws _ Hv6.out hown8 hg8
      have HP:=hd hP;clear hP
      clear hown8 hg8 hm8 hc8
      go_wp2_with fail
      go_roundw
      case rel=>exact⟨k+1,by omega,by go_num,n+1,k+1,out ++ [(n,ws)],_,_,rfl,by go_num,by omega,Hat3.out,HP.out,by simp;omega,by omega,by omega⟩
      case measure=>simp[intOf];omega
     have hbe:(qe != 0)=true:=by rw[bne_iff_ne];exact he
     have hdd:=Hline.out.2 he
     have z0:=za4 hk5 0
     have z1:=za4 hk5 1
     have z2:=za4 hk5 2
     have z3:=za4 hk5 3
     have u0:=za8 hk5 0
     have u1:=za8 hk5 1
     have u2:=za8 hk5 2
     have u3:=za8 hk5 3
     simp only[zbh,List.getElem?_toArray,List.getElem?_cons_succ,List.getElem?_cons_zero] at z0 z1 z2 z3
     have hbel5:=hS5.bel
     obtain⟨HS5,Hv5,Hv6,Hk5,Hb5,He,Hdd,Hbel5⟩:=hd8 hS5 hv5 hv6 hk5 hb5 he hdd hbel5;clear hS5 hv5 hv6 hk5 hb5 he hdd hbel5
     go_wp2_with fail
     refine bodyPost_ret (v:=.agg #[.slice none 0 0,.int .i64 n,.int .i64 qa,.int .i64 qe]) (by simp[results,Tryz.results36,go_sem,z0,z1,z2,z3]) rfl ?_
     rw[Hdd.out]
     refine⟨_,rfl,⟨none,0,rfl,Nat.le_refl _,Nat.zero_le _,fun i x hi=>by simp at hi⟩,?_⟩
     exact ((((Hbel1.out.trans (Hbel5.out.mono (by rw[Hs1.out];omega))).setCell (Nat.le_refl _) _).setCell (Nat.le_refl _) _).setCell (Nat.le_refl _) _).setCell (Nat.le_refl _) _
    have hat2:=docAt_on hat (by have:=Hlen.out;omega) (show t.getD k 0=s[k] by rw[Ht.out];exact zg0 s k hone) h10
    obtain⟨m,hm⟩ : ∃ m,m=s[k].toNat:=⟨_,rfl⟩
    have hm2:s[k].toNat=m:=hm.symm
    have hb:((m:Int) != 10)=true:=by rw[bne_iff_ne,hm];omega
    obtain⟨Hat,Hat2,Hst⟩:=hd3 hat hat2 hst;clear hat hat2 hst
    clear hm h10
    go_wp2_with fail
    go_roundw
    case rel=>exact⟨k+1,by omega,by go_num,n,f,out,_,rv,rfl,rfl,by omega,Hat2.out,Hst.out,by omega,hn0,by omega⟩
    case measure=>simp[intOf];omega
   have hc10:k < t.length→(t.getD k 0).toNat=10:=by
    intro h1
    have:=Hlen.out
    omega
   obtain⟨Hat,Hst⟩:=hd2 hat hst;clear hat hst
   have hblk2:∀ w9,Below wr.heap.size wr w9→w9.heap[w.heap.size]? = some (.cells (zbh (.slice none 0 0)) 58 (0,0)):=by
    intro w9 hb9
    have h1:=Hst.out.bel.size
    have h2:=Hs1.out
    rw[hb9.block _ (by omega),Hst.out.bel.block _ (by omega)]
    exact Hblk.out
   obtain⟨q,hq⟩ : ∃ q,q=LexM.rline ((t.drop f).take (k - f)) (decide (out.length < 2000)):=⟨_,rfl⟩
   have hline:=zjw Hat.out (by have:=Hlen.out;omega) hc10
   rw[← hq] at hline
   have HC:Hid (∀ w',Calls Tryz.prog 77 #[.string (s.extract f k),.bool (decide ((out.length:Int) < 2000))] w' (zlb w' q)):=by
    intro w'
    have h1:=zph (s.extract f k) (decide (out.length < 2000)) w' (by rw[ByteArray.size_extract];omega)
    rw[Lib.extract_data,← Ht.out,← hq] at h1
    have h2:decide ((out.length:Int) < 2000)=decide (out.length < 2000):=by
     congr 1;simp only[eq_iff_iff];omega
    rw[h2]
    exact h1
   have hx0:=za4 Hst.out.cells 0
   simp only[zbh,List.getElem?_toArray,List.getElem?_cons_zero] at hx0
   obtain⟨ws,qa,qe⟩:=q
   obtain⟨Hline,Hq,Hblk2⟩:=hd3 hline hq hblk2;clear hline hq hblk2
   clear hc10
   go_wp2_with fail
   go_region_with (go_at_call 77;refine (HC.out _).mono ?_;rintro e w5 ⟨v5,rfl,hv5,hb5⟩)
   obtain⟨va,vc,rfl⟩:=zai hv5
   have hS5:=Hst.out.below (ze0 hb5)
   have hv6:=zcc hv5 (show w1.heap.size≤wr.heap.size from Hst.out.bel.size)
   have hk5:=Hblk2.out w5 (ze0 hb5)
   have hB5:=hS5.bel.size
   by_cases he:qe=0
   ·have hbe:(qe != 0)=false:=by rw[he];rfl
    have hat3:=Hline.out.1 he
    by_cases hw:ws = []
    ·have hadd:LexM.addLn out n ws=out:=by unfold LexM.addLn;rw[if_pos hw]
     have hwl:ws.length=0:=by rw[hw];rfl
     rw[hadd] at hat3
     obtain⟨HS5,Hv5,Hv6,Hk5,Hb5,He,Hat3,Hadd,Hw⟩:=hd9 hS5 hv5 hv6 hk5 hb5 he hat3 hadd hw;clear hS5 hv5 hv6 hk5 hb5 he hat3 hadd hw
     go_wp2_with fail
     go_roundw
     case rel=>exact⟨k+1,by omega,by go_num,n+1,k+1,out,_,rv,rfl,by go_num,by omega,Hat3.out,HS5.out,by omega,by omega,by omega⟩
     case measure=>simp[intOf];omega
    have hadd:LexM.addLn out n ws=out ++ [(n,ws)]:=by unfold LexM.addLn;rw[if_neg hw]
    have hwl:0 < ws.length:=List.length_pos_iff.2 hw
    rw[hadd] at hat3
    have y0:=za4 hS5.cells 0
    simp only[zbh,List.getElem?_toArray,List.getElem?_cons_zero] at y0
    have hro:=hS5.own.row
    have hnx:=zah hS5.own.row hS5.cells (by decide)
    obtain⟨HS5,Hv5,Hv6,Hk5,Hb5,He,Hat3,Hadd,Hw,Hro,Hnx⟩:=hd11 hS5 hv5 hv6 hk5 hb5 he hat3 hadd hw hro hnx;clear hS5 hv5 hv6 hk5 hb5 he hat3 hadd hw hro hnx
    go_wp2_with (at_builtin;refine zar zis (w:=w5) rfl (.tmp 56) (.tmp 60) rfl w1.heap.size (.slice oa out.length oc) out.length (zd3 out rv) rfl Hro.out 1 (by decide) #[.int .i64 n,.slice va ws.length vc] rfl rfl (by simp[Value.oneCell']) (by omega) (by unfold maxLen;omega) hB5 ?_)
    intro g8 c8 w8 hown8 hg8 hm8
    have hc8:=zbc HS5.out.cells ((Frm.refl _ w5).grown hg8 (S:=fun k=>(Value.slice oa out.length oc).ownBlock=some k) (fun k hk=>.inr hk)) Hnx.out
    have z0:=za4 hc8 0
    have u0:=za8 hc8 0
    simp only[zbh,List.getElem?_toArray,List.getElem?_cons_zero] at z0
    have hP:=HS5.out.push n ws _ Hv6.out hown8 hg8
    have HP:=hd hP;clear hP
    clear hown8 hg8 hm8 hc8
    go_wp2_with fail
    go_roundw
    case rel=>exact⟨k+1,by omega,by go_num,n+1,k+1,out ++ [(n,ws)],_,_,rfl,by go_num,by omega,Hat3.out,HP.out,by simp;omega,by omega,by omega⟩
    case measure=>simp[intOf];omega
   have hbe:(qe != 0)=true:=by rw[bne_iff_ne];exact he
   have hdd:=Hline.out.2 he
   have z0:=za4 hk5 0
   have z1:=za4 hk5 1
   have z2:=za4 hk5 2
   have z3:=za4 hk5 3
   have u0:=za8 hk5 0
   have u1:=za8 hk5 1
   have u2:=za8 hk5 2
   have u3:=za8 hk5 3
   simp only[zbh,List.getElem?_toArray,List.getElem?_cons_succ,List.getElem?_cons_zero] at z0 z1 z2 z3
   have hbel5:=hS5.bel
   obtain⟨HS5,Hv5,Hv6,Hk5,Hb5,He,Hdd,Hbel5⟩:=hd8 hS5 hv5 hv6 hk5 hb5 he hdd hbel5;clear hS5 hv5 hv6 hk5 hb5 he hdd hbel5
   go_wp2_with fail
   refine bodyPost_ret (v:=.agg #[.slice none 0 0,.int .i64 n,.int .i64 qa,.int .i64 qe]) (by simp[results,Tryz.results36,go_sem,z0,z1,z2,z3]) rfl ?_
   rw[Hdd.out]
   refine⟨_,rfl,⟨none,0,rfl,Nat.le_refl _,Nat.zero_le _,fun i x hi=>by simp at hi⟩,?_⟩
   exact ((((Hbel1.out.trans (Hbel5.out.mono (by rw[Hs1.out];omega))).setCell (Nat.le_refl _) _).setCell (Nat.le_refl _) _).setCell (Nat.le_refl _) _).setCell (Nat.le_refl _) _
  obtain rfl:k=s.size+1:=by omega
  have hdd:doc=⟨out,0,0,0⟩:=by
   rcases hat with⟨h1,_,_⟩ | ⟨_,_,h3⟩
   ·have:=Hlen.out;omega
   exact h3
  have hfine2:=Hfine.out
  rw[hdd] at hfine2
  have hk5:wr.heap[w.heap.size]? = some (.cells (zbh (.slice none 0 0)) 58 (0,0)):=by
   rw[hst.bel.block _ (by rw[Hs1.out];omega)]
   exact Hblk.out
  have x0:=za4 hst.cells 0
  have x1:=za4 hst.cells 1
  have x2:=za4 hst.cells 2
  have x3:=za4 hst.cells 3
  have z0:=za4 hk5 0
  have z1:=za4 hk5 1
  have z2:=za4 hk5 2
  have z3:=za4 hk5 3
  have u0:=za8 hk5 0
  have u1:=za8 hk5 1
  have u2:=za8 hk5 2
  have u3:=za8 hk5 3
  simp only[zbh,List.getElem?_toArray,List.getElem?_cons_succ,List.getElem?_cons_zero] at z0 z1 z2 z3 x0 x1 x2 x3
  obtain⟨Hat,Hst,Hdd,Hfine2,Hk5⟩:=hd5 hat hst hdd hfine2 hk5;clear hat hst hdd hfine2 hk5
  go_wp2_with fail
  refine bodyPost_ret (v:=.agg #[.slice oa out.length oc,.int .i64 0,.int .i64 0,.int .i64 0]) (by simp[results,Tryz.results36,go_sem,z0,z1,z2,z3]) rfl ?_
  rw[Hdd.out]
  refine⟨_,rfl,?_,?_⟩
  ·refine (Hst.out.own.kept (S:=fun k=>k=w.heap.size) (za9 (za9 (za9 (za9 (Frm.refl _ wr) 0 _) 1 _) 2 _) 3 _) (fun k cs e hc=>?_) (fun k cs e hc=>?_)).reads (m:=200000) (by omega) Hfine2.out
   ·rw[e,Hk5.out] at hc;simp at hc
   rw[e,Hk5.out] at hc;simp at hc
  exact ((((Hbel1.out.trans (Hst.out.bel.mono (by rw[Hs1.out];omega))).setCell (Nat.le_refl _) _).setCell (Nat.le_refl _) _).setCell (Nat.le_refl _) _).setCell (Nat.le_refl _) _
theorem zmq (s:ByteArray) (hs:s.size≤140737488351232) (w:World):Calls Tryz.prog 36 #[.string s] w (zle w (LexM.docLines s.data.toList)):=by
 by_cases h:65536 < s.size
 ·exact zl5 s hs w h
 exact zje s w (by omega)
end
end Go.Proofs.YteailgjiifdgcaaGreatDoor
