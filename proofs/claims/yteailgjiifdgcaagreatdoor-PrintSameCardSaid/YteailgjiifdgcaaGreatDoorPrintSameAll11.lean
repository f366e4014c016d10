/- Walks and plain facts. Texts merged: PrintSame. Condition: none beyond what each says. -/
import Derived.Test.YteailgjiifdgcaaGreatDoorPrintSameAll10
set_option linter.unusedVariables false
set_option linter.unusedSimpArgs false
set_option maxRecDepth 10000
set_option maxHeartbeats 4000000
namespace Go.Proofs.YteailgjiifdgcaaGreatDoor
section
open Go.Shelf Go.RowKit Go.Lib VerN VarM
attribute [local go_sem ↓] Go.wp_at_zero Go.wp_at_succ
set_option linter.unusedVariables false in
theorem zig {w:World} {x y:RcpM} {v1 v2 u1 u2:Value} (hp:zgb w v1 v2 x) (hq:zgb w u1 u2 y) (hD:zb1 w) :
  Calls Tryz.prog 9 #[.agg #[v1,v2],.agg #[u1,u2]] w fun e w'=>e = .returned (.bool true)∧Below w.heap.size w w':=by
 obtain⟨a1,c1,rfl⟩:=zao hp.1
 obtain⟨a2,c2,rfl⟩:=zao hp.2
 obtain⟨d1,e1,rfl⟩:=zao hq.1
 obtain⟨d2,e2,rfl⟩:=zao hq.2
 obtain⟨n1,hn1⟩ : ∃ n,n=x.pk.length:=⟨_,rfl⟩
 obtain⟨n2,hn2⟩ : ∃ n,n=x.pf.length:=⟨_,rfl⟩
 obtain⟨m1,hm1⟩ : ∃ n,n=y.pk.length:=⟨_,rfl⟩
 obtain⟨m2,hm2⟩ : ∃ n,n=y.pf.length:=⟨_,rfl⟩
 rw[← hn1,← hn2] at hp
 rw[← hm1,← hm2] at hq
 rw[← hn1,← hn2,← hm1,← hm2]
 obtain⟨W1,hW1⟩ : ∃ W,W=(w.alloc (.cells #[.slice a1 n1 c1,.slice a2 n2 c2] 73)).alloc (.cells #[.slice d1 m1 e1,.slice d2 m2 e2] 73):=⟨_,rfl⟩
 obtain⟨g,hg⟩ : ∃ g,g=w.heap.size:=⟨_,rfl⟩
 have hb1:Below w.heap.size w W1:=by rw[hW1];exact (za2 _ _).alloc (by simp) _
 have hp0:W1.heap[g]? = some (.cells #[.slice a1 n1 c1,.slice a2 n2 c2] 73 (0,0)):=by rw[hW1,hg];exact za0 (za2 _ _) (za5 rfl)
 have hp1:W1.heap[g+1]? = some (.cells #[.slice d1 m1 e1,.slice d2 m2 e2] 73 (0,0)):=by rw[hW1,hg];exact za5 (by simp)
 have hcells:∀ W,Below W1.heap.size W1 W→W.cell? ⟨g,0,none⟩=some (.slice a1 n1 c1)∧W.cell? ⟨g,1,none⟩=some (.slice a2 n2 c2)∧W.cell? ⟨g+1,0,none⟩=some (.slice d1 m1 e1)∧W.cell? ⟨g+1,1,none⟩=some (.slice d2 m2 e2):=fun W hW=>by
  have i0:=za1 (za0 hW hp0) 0
  have i1:=za1 (za0 hW hp0) 1
  have j0:=za1 (za0 hW hp1) 0
  have j1:=za1 (za0 hW hp1) 1
  simp only[List.getElem?_toArray,List.getElem?_cons_zero,List.getElem?_cons_succ] at i0 i1 j0 j1
  exact⟨i0,i1,j0,j1⟩
 have hpp:=hp.below hb1
 have hqq:=hq.below hb1
 have hF:=fun (W:World) (k:Below W1.heap.size W1 W)=>zn7 (hD.below (hb1.trans (k.mono hb1.size)))
 have hG1:=zj3 hpp
 have hG2:=fun (W:World) (k:Below W1.heap.size W1 W)=>zj3 (hqq.below k)
 obtain⟨r,hr⟩ : ∃ r,r=zds x y:=⟨_,rfl⟩
 have hA:=fun (W:World) (k:Below W1.heap.size W1 W)=>zf5 (hpp.below k) (hqq.below k)
 have hB:=fun (W:World) (k:Below W1.heap.size W1 W)=>zmh (hpp.below k) (hqq.below k)
 have hC:=fun (W:World) (k:Below W1.heap.size W1 W)=>zf5 (hpp.below k) (hpp.below k)
 simp only[← hr] at hA hB
 simp only[zl0] at hC
 obtain⟨i0,i1,-,-⟩:=hcells W1 (Below.refl _ _)
 obtain⟨Hp,Hq,HD,Hb1,Hp0,Hp1,Hcells,Hpp,Hqq,HF,HG1,HG2,HA,HB,HC,Hn1⟩:=hd16 hp hq hD hb1 hp0 hp1 hcells hpp hqq hF hG1 hG2 hA hB hC hn1;obtain⟨Hn2,Hm1,Hm2⟩:=hd3 hn2 hm1 hm2;clear hp hq hD hb1 hp0 hp1 hcells hpp hqq hF hG1 hG2 hA hB hC hn1 hn2 hm1 hm2
 go_enter Tryz.func9,Tryz.ntmps9
 go_upto_region 1 with (fail)
 rw[← hW1,← hg]
 clear hW1 hg
 go_wp2_with fail
 refine HG1.out.mono ?_
 rintro e w2 ⟨⟨r1,rfl,-⟩,hb2⟩
 clear i0 i1
 cases r1 with
 | true =>
  have Hb2:=hd hb2;clear hb2
  go_wp2_with fail
  refine (HF.out _ Hb2.out).mono ?_
  rintro e w3 ⟨rfl,hb3⟩
  have hbz:=Hb1.out.trans ((Hb2.out.trans (hb3.mono Hb2.out.size)).mono Hb1.out.size)
  obtain⟨Hb3,Hbz⟩:=hd2 hb3 hbz;clear hb3 hbz
  go_wp2_with fail
  go_ret
  exact⟨rfl,Hbz.out⟩
 | false =>
  obtain⟨-,-,j0,j1⟩:=Hcells.out w2 hb2
  have hG3:=HG2.out _ hb2
  obtain⟨Hb2,HG3⟩:=hd2 hb2 hG3;clear hb2 hG3
  go_wp2_with fail
  refine HG3.out.mono ?_
  rintro e w3 ⟨⟨r2,rfl,-⟩,hb3⟩
  clear j0 j1
  have hb23:=Hb2.out.trans (hb3.mono Hb2.out.size)
  cases r2 with
  | true =>
   obtain⟨Hb3,Hb23⟩:=hd2 hb3 hb23;clear hb3 hb23
   go_wp2_with fail
   refine (HF.out _ Hb23.out).mono ?_
   rintro e w4 ⟨rfl,hb4⟩
   have hbz:=Hb1.out.trans ((Hb23.out.trans (hb4.mono Hb23.out.size)).mono Hb1.out.size)
   obtain⟨Hb4,Hbz⟩:=hd2 hb4 hbz;clear hb4 hbz
   go_wp2_with fail
   go_ret
   exact⟨rfl,Hbz.out⟩
  | false =>
   obtain⟨Hb3,Hb23⟩:=hd2 hb3 hb23;clear hb3 hb23
   go_upto_region 3 with (fail)
   have hS0:=Hcells.out _ (Below.drew Hb23.out)
   have hb0:=Below.drew Hb23.out
   refine wp_region_held_drew (S:=fun W=>W.cell? ⟨g,0,none⟩=some (.slice a1 n1 c1)∧W.cell? ⟨g,1,none⟩=some (.slice a2 n2 c2)∧W.cell? ⟨g+1,0,none⟩=some (.slice d1 m1 e1)∧W.cell? ⟨g+1,1,none⟩=some (.slice d2 m2 e2)) (by kernel_rfl) (by exact hS0) (fun hHeld=>?_)
   generalize w3.drew=W0 at hb0 hS0 ⊢
   have Hb0:=hd hb0;clear hb0
   refine wpAnyH_ready (rs:=[0]) (by kernel_rfl) (by simp) ?_
   refine AllReadyH.cons rfl (fun K hK=>?_) AllReadyH.nil
   go_simp
   refine (HF.out _ Hb0.out).mono ?_
   rintro e w4 ⟨rfl,hbb⟩
   have hbw4:=Hb0.out.trans (hbb.mono Hb0.out.size)
   have hSw4:=Hcells.out w4 hbw4
   obtain⟨Hbb,Hbw4⟩:=hd2 hbb hbw4;clear hbb hbw4
   go_wp2_with fail
   refine hK.out _ _ (by exact hSw4) (fun hHeld=>?_)
   clear hK K
   try simp only[Act.put,lA,lB,lC]
   refine wpAnyH_take (i:=1) (v:=?_) rfl (by kernel_rfl) (by kernel_rfl) (by kernel_rfl) (fun _ _ _ h=>h) (Or.inl ⟨by kernel_rfl,?_⟩) (by assumption) ?_
   rotate_left
   ·(intro w hSw;(try dsimp only at hSw);(try obtain⟨o0,o1,o2,o3⟩:=hSw);go_simp;try with_reducible rfl)
   try simp only[Act.put,lA,lB,lC]
   refine wpAnyH_take (i:=2) (v:=?_) rfl (by kernel_rfl) (by kernel_rfl) (by kernel_rfl) (fun _ _ _ h=>h) (Or.inl ⟨by kernel_rfl,?_⟩) (by assumption) ?_
   rotate_left
   ·(intro w hSw;(try dsimp only at hSw);(try obtain⟨o0,o1,o2,o3⟩:=hSw);go_simp;try with_reducible rfl)
   try simp only[Act.put,lA,lB,lC]
   refine wpAnyH_take (i:=3) (v:=?_) rfl (by kernel_rfl) (by kernel_rfl) (by kernel_rfl) (fun _ _ _ h=>h) (Or.inl ⟨by kernel_rfl,?_⟩) (by assumption) ?_
   rotate_left
   ·(intro w hSw;(try dsimp only at hSw);(try obtain⟨o0,o1,o2,o3⟩:=hSw);go_simp;try with_reducible rfl)
   try simp only[Act.put,lA,lB,lC]
   refine wpAnyH_take (i:=5) (v:=?_) rfl (by kernel_rfl) (by kernel_rfl) (by kernel_rfl) (fun _ _ _ h=>h) (Or.inl ⟨by kernel_rfl,?_⟩) (by assumption) ?_
   rotate_left
   ·(intro w hSw;(try dsimp only at hSw);(try obtain⟨o0,o1,o2,o3⟩:=hSw);go_simp;try with_reducible rfl)
   try simp only[Act.put,lA,lB,lC]
   refine wpAnyH_take (i:=6) (v:=?_) rfl (by kernel_rfl) (by kernel_rfl) (by kernel_rfl) (fun _ _ _ h=>h) (Or.inl ⟨by kernel_rfl,?_⟩) (by assumption) ?_
   rotate_left
   ·(intro w hSw;(try dsimp only at hSw);(try obtain⟨o0,o1,o2,o3⟩:=hSw);go_simp;try with_reducible rfl)
   try simp only[Act.put,lA,lB,lC]
   refine wpAnyH_ready (rs:=[4]) (by kernel_rfl) (by simp) ?_
   refine AllReadyH.cons rfl (fun K hK=>?_) AllReadyH.nil
   go_simp
   refine (HA.out _ Hbw4.out).mono ?_
   rintro e w5 ⟨rfl,hbb⟩
   have hbw5:=Hbw4.out.trans (hbb.mono Hbw4.out.size)
   have hSw5:=Hcells.out w5 hbw5
   obtain⟨Hbb,Hbw5⟩:=hd2 hbb hbw5;clear hbb hbw5
   go_wp2_with fail
   refine hK.out _ _ (by exact hSw5) (fun hHeld=>?_)
   clear hK K
   try simp only[Act.put,lA,lB,lC]
   refine wpAnyH_ready (rs:=[7]) (by kernel_rfl) (by simp) ?_
   refine AllReadyH.cons rfl (fun K hK=>?_) AllReadyH.nil
   go_simp
   refine (HB.out _ Hbw5.out).mono ?_
   rintro e w6 ⟨rfl,hbb⟩
   have hbw6:=Hbw5.out.trans (hbb.mono Hbw5.out.size)
   have hSw6:=Hcells.out w6 hbw6
   obtain⟨Hbb,Hbw6⟩:=hd2 hbb hbw6;clear hbb hbw6
   go_wp2_with fail
   refine hK.out _ _ (by exact hSw6) (fun hHeld=>?_)
   clear hK K
   try simp only[Act.put,lA,lB,lC]
   refine wpAnyH_take (i:=8) (v:=?_) rfl (by kernel_rfl) (by kernel_rfl) (by kernel_rfl) (fun _ _ _ h=>h) (Or.inl ⟨by kernel_rfl,?_⟩) (by assumption) ?_
   rotate_left
   ·(intro w hSw;(try dsimp only at hSw);(try obtain⟨o0,o1,o2,o3⟩:=hSw);go_simp;try with_reducible rfl)
   try simp only[Act.put,lA,lB,lC]
   refine wpAnyH_take (i:=9) (v:=?_) rfl (by kernel_rfl) (by kernel_rfl) (by kernel_rfl) (fun _ _ _ h=>h) (Or.inl ⟨by kernel_rfl,?_⟩) (by assumption) ?_
   rotate_left
   ·(intro w hSw;(try dsimp only at hSw);(try obtain⟨o0,o1,o2,o3⟩:=hSw);go_simp;try with_reducible rfl)
   try simp only[Act.put,lA,lB,lC]
   refine wpAnyH_take (i:=10) (v:=?_) rfl (by kernel_rfl) (by kernel_rfl) (by kernel_rfl) (fun _ _ _ h=>h) (Or.inl ⟨by kernel_rfl,?_⟩) (by assumption) ?_
   rotate_left
   ·(intro w hSw;(try dsimp only at hSw);(try obtain⟨o0,o1,o2,o3⟩:=hSw);go_simp;try with_reducible rfl)
   try simp only[Act.put,lA,lB,lC]
   refine wpAnyH_take (i:=11) (v:=?_) rfl (by kernel_rfl) (by kernel_rfl) (by kernel_rfl) (fun _ _ _ h=>h) (Or.inl ⟨by kernel_rfl,?_⟩) (by assumption) ?_
   rotate_left
   ·(intro w hSw;(try dsimp only at hSw);(try obtain⟨o0,o1,o2,o3⟩:=hSw);go_simp;try with_reducible rfl)
   try simp only[Act.put,lA,lB,lC]
   refine wpAnyH_take (i:=12) (v:=?_) rfl (by kernel_rfl) (by kernel_rfl) (by kernel_rfl) (fun _ _ _ h=>h) (Or.inl ⟨by kernel_rfl,?_⟩) (by assumption) ?_
   rotate_left
   ·(intro w hSw;(try dsimp only at hSw);(try obtain⟨o0,o1,o2,o3⟩:=hSw);go_simp;try with_reducible rfl)
   try simp only[Act.put,lA,lB,lC]
   refine wpAnyH_ready (rs:=[13]) (by kernel_rfl) (by simp) ?_
   refine AllReadyH.cons rfl (fun K hK=>?_) AllReadyH.nil
   go_simp
   refine (HC.out _ Hbw6.out).mono ?_
   rintro e w7 ⟨rfl,hbb⟩
   have hbw7:=Hbw6.out.trans (hbb.mono Hbw6.out.size)
   have hSw7:=Hcells.out w7 hbw7
   obtain⟨Hbb,Hbw7⟩:=hd2 hbb hbw7;clear hbb hbw7
   go_wp2_with fail
   refine hK.out _ _ (by exact hSw7) (fun hHeld=>?_)
   clear hK K
   try simp only[Act.put,lA,lB,lC]
   refine wpAnyH_take (i:=14) (v:=?_) rfl (by kernel_rfl) (by kernel_rfl) (by kernel_rfl) (fun _ _ _ h=>h) (Or.inl ⟨by kernel_rfl,?_⟩) (by assumption) ?_
   rotate_left
   ·(intro w hSw;(try dsimp only at hSw);(try obtain⟨o0,o1,o2,o3⟩:=hSw);go_simp;try with_reducible rfl)
   try simp only[Act.put,lA,lB,lC]
   refine wpAnyH_take (i:=15) (v:=?_) rfl (by kernel_rfl) (by kernel_rfl) (by kernel_rfl) (fun _ _ _ h=>h) (Or.inl ⟨by kernel_rfl,?_⟩) (by assumption) ?_
   rotate_left
   ·(intro w hSw;(try dsimp only at hSw);(try obtain⟨o0,o1,o2,o3⟩:=hSw);go_simp;try with_reducible rfl)
   try simp only[Act.put,lA,lB,lC]
   refine wpAnyH_done (by kernel_rfl) ?_ _
   go_simp
   have hbz:=Hb1.out.trans (Hbw7.out.mono Hb1.out.size)
   have Hbz:=hd hbz;clear hbz
   go_wp2_with fail
   go_ret
   exact⟨rfl,Hbz.out⟩
end
end Go.Proofs.YteailgjiifdgcaaGreatDoor
