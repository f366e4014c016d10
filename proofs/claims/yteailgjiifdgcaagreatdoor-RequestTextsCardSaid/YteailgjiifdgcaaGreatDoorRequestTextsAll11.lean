/- Walks and plain facts. Texts merged: ShrE, PnE, PnA, PnB, PnM, RtM, Bld2, RpC, RpD, PnC, PnF, PnD, RpG, PnG, RqV, Eqf, RtA. Condition: none beyond what each says. -/
import Derived.Test.YteailgjiifdgcaaGreatDoorRequestTextsAll10
set_option linter.unusedVariables false
set_option linter.unusedSimpArgs false
set_option maxRecDepth 10000
set_option maxHeartbeats 4000000
namespace Go.Proofs.YteailgjiifdgcaaGreatDoor
section
open Go.RowKit Go.Shelf Go.Lib VerN
theorem zpj {w:World} {v u:Value} {l m:List BSp} (h:RSps w [v] l) (hm:RSps w [u] m):Calls Tryz.prog 69 #[v,u] w fun e w'=>e = .returned (.bool (decide (l=m)))∧∃ q,w'=w.drewN q:=by
 obtain⟨a,cap,rfl,hz,g⟩:=zbz h
 obtain⟨a2,cap2,rfl,hz2,g2⟩:=zbz hm
 obtain⟨n,hn⟩ : ∃ n,n=l.length:=⟨_,rfl⟩
 obtain⟨n2,hn2⟩ : ∃ n,n=m.length:=⟨_,rfl⟩
 obtain⟨r,hr⟩ : ∃ r,r=decide (l=m):=⟨_,rfl⟩
 have q1:=fun s t a b=>zja s t a b
 rw[← hr]
 rw[← hn] at hz h ⊢
 rw[← hn2] at hz2 hm ⊢
 obtain⟨Hh,Hm,Hg,Hg2,Hn,Hn2,Hr,Hq1⟩:=hd8 h hm g g2 hn hn2 hr q1;clear h hm g g2 hn hn2 hr q1
 go_enter Tryz.func69,Tryz.ntmps69
 by_cases hne:n=n2
 case neg =>
  have k1:((n:Int) != (n2:Int))=true:=by simp;omega
  have hf:r=false:=by rw[Hr.out,decide_eq_false_iff_not];intro e;exact hne (by rw[Hn.out,Hn2.out,e])
  obtain⟨Hf,Hne⟩:=hd2 hf hne;clear hf hne
  go_wp2_with fail
  go_ret
  exact⟨zac Hf.out.symm,0,rfl⟩
 have k1:((n:Int) != (n2:Int))=false:=by simp;omega
 have Hne:=hd hne;clear hne
 go_wp2_with fail
 clear k1
 go_loopw [13] (fun i wr=>∃ k:Nat,k≤n∧i = .int .i64 k∧(∀ j (h1:j < l.length) (h2:j < m.length),j < k→l[j]=m[j])∧∃ q,wr=w.drewN q) (fun i _=>n - (RowKit.intOf i).toNat)
 case atStart=>exact⟨0,Nat.zero_le _,rfl,fun _ _ _ h=>by omega,0,rfl⟩
 case round =>
  obtain⟨k,hk,rfl,hno,q,rfl⟩:=hrel
  by_cases hlt:k < n
  ·have hkl:k < l.length:=by have:=Hn.out;omega
   have hkm:k < m.length:=by have:=Hn2.out;have:=Hne.out;omega
   obtain⟨b,off,rfl,d0,d1,_,_⟩:=Hg.out k _ (List.getElem?_eq_getElem hkl)
   obtain⟨b2,off2,rfl,f0,f1,_,_⟩:=Hg2.out k _ (List.getElem?_eq_getElem hkm)
   have hnx:l[k]=m[k]→∀ j (h1:j < l.length) (h2:j < m.length),j < k+1→l[j]=m[j]:=fun h j h1 h2 hjk=>by
    by_cases e:j=k
    ·subst e;exact h
    exact hno j h1 h2 (by omega)
   have hbd:l[k]≠m[k]→l≠m:=fun h e=>h (by subst e;rfl)
   obtain⟨x,hx⟩ : ∃ x,x=l[k]:=⟨_,rfl⟩
   obtain⟨y,hy⟩ : ∃ x,x=m[k]:=⟨_,rfl⟩
   rw[← hx] at d0 d1 hnx hbd
   rw[← hy] at f0 f1 hnx hbd
   have q2:=Hq1.out x.1 x.2 y.1 y.2
   have hxy:(decide (x.1=y.1) && decide (x.2=y.2))=decide (x=y):=by
    rw[Bool.eq_iff_iff]
    simp[Prod.ext_iff]
   rw[hxy] at q2
   obtain⟨s,hs⟩ : ∃ s,s=x.1:=⟨_,rfl⟩
   obtain⟨t,ht⟩ : ∃ s,s=x.2:=⟨_,rfl⟩
   obtain⟨s',hs'⟩ : ∃ s,s=y.1:=⟨_,rfl⟩
   obtain⟨t',ht'⟩ : ∃ s,s=y.2:=⟨_,rfl⟩
   rw[← hs,← ht,← hs',← ht'] at q2
   rw[← hs] at d0
   rw[← ht] at d1
   rw[← hs'] at f0
   rw[← ht'] at f1
   have k5:(0:Int)≤(k:Int):=by omega
   have k6:(k:Int) < (n:Int):=by omega
   have k7:(k:Int) < (n2:Int):=by have:=Hne.out;omega
   clear hxy
   by_cases e:x=y
   ·have hq:=hnx e
    rw[decide_eq_true e] at q2
    simp only[Bool.not_true] at q2
    clear e
    obtain⟨Hno,Hnx,Hbd,Hx,Hy,Hs,Ht,Hs',Ht',Hq⟩:=hd10 hno hnx hbd hx hy hs ht hs' ht' hq;clear hno hnx hbd hx hy hs ht hs' ht' hq
    go_wp2_with fail
    go_region
    go_wp2_with fail
    go_roundw
    case rel=>exact⟨k+1,by omega,by go_num,Hq.out,_,rfl⟩
    case measure=>simp[RowKit.intOf];omega
   have hf:r=false:=by rw[Hr.out,decide_eq_false_iff_not];exact hbd e
   rw[decide_eq_false e] at q2
   simp only[Bool.not_false] at q2
   clear e
   obtain⟨Hno,Hnx,Hbd,Hx,Hy,Hs,Ht,Hs',Ht',Hf⟩:=hd10 hno hnx hbd hx hy hs ht hs' ht' hf;clear hno hnx hbd hx hy hs ht hs' ht' hf
   go_wp2_with fail
   go_region
   go_wp2_with fail
   go_ret
   exact⟨zac Hf.out.symm,_,rfl⟩
  obtain rfl:n=k:=by omega
  have hf:r=true:=by
   rw[Hr.out,decide_eq_true_eq]
   exact List.ext_getElem (by rw[← Hn.out,← Hn2.out,Hne.out]) (fun j h1 h2=>hno j h1 h2 (by have:=Hn.out;omega))
  obtain⟨Hno,Hf⟩:=hd2 hno hf;clear hno hf
  go_wp2_with fail
  go_ret
  exact⟨zac Hf.out.symm,_,rfl⟩
end

section
open Go.RowKit Go.Shelf Go.Lib VerN
theorem zpk {w:World} {v u:Value} {l m:List Setg} (h:ze3 w [v] l) (hm:ze3 w [u] m):Calls Tryz.prog 81 #[v,u] w fun e w'=>e = .returned (.bool (decide (l=m)))∧∃ q,w'=w.drewN q:=by
 obtain⟨a,cap,rfl,hz,g⟩:=zbs h
 obtain⟨a2,cap2,rfl,hz2,g2⟩:=zbs hm
 obtain⟨n,hn⟩ : ∃ n,n=l.length:=⟨_,rfl⟩
 obtain⟨n2,hn2⟩ : ∃ n,n=m.length:=⟨_,rfl⟩
 obtain⟨r,hr⟩ : ∃ r,r=decide (l=m):=⟨_,rfl⟩
 have q1:=fun s t a b=>zsk s t a b
 rw[← hr]
 rw[← hn] at hz h ⊢
 rw[← hn2] at hz2 hm ⊢
 obtain⟨Hh,Hm,Hg,Hg2,Hn,Hn2,Hr,Hq1⟩:=hd8 h hm g g2 hn hn2 hr q1;clear h hm g g2 hn hn2 hr q1
 go_enter Tryz.func81,Tryz.ntmps81
 by_cases hne:n=n2
 case neg =>
  have k1:((n:Int) != (n2:Int))=true:=by simp;omega
  have hf:r=false:=by rw[Hr.out,decide_eq_false_iff_not];intro e;exact hne (by rw[Hn.out,Hn2.out,e])
  obtain⟨Hf,Hne⟩:=hd2 hf hne;clear hf hne
  go_wp2_with fail
  go_ret
  exact⟨zac Hf.out.symm,0,rfl⟩
 have k1:((n:Int) != (n2:Int))=false:=by simp;omega
 have Hne:=hd hne;clear hne
 go_wp2_with fail
 clear k1
 go_loopw [13] (fun i wr=>∃ k:Nat,k≤n∧i = .int .i64 k∧(∀ j (h1:j < l.length) (h2:j < m.length),j < k→l[j]=m[j])∧∃ q,wr=w.drewN q) (fun i _=>n - (RowKit.intOf i).toNat)
 case atStart=>exact⟨0,Nat.zero_le _,rfl,fun _ _ _ h=>by omega,0,rfl⟩
 case round =>
  obtain⟨k,hk,rfl,hno,q,rfl⟩:=hrel
  by_cases hlt:k < n
  ·have hkl:k < l.length:=by have:=Hn.out;omega
   have hkm:k < m.length:=by have:=Hn2.out;have:=Hne.out;omega
   obtain⟨b,off,rfl,d0,d1,_,_⟩:=Hg.out k _ (List.getElem?_eq_getElem hkl)
   obtain⟨b2,off2,rfl,f0,f1,_,_⟩:=Hg2.out k _ (List.getElem?_eq_getElem hkm)
   have hnx:l[k]=m[k]→∀ j (h1:j < l.length) (h2:j < m.length),j < k+1→l[j]=m[j]:=fun h j h1 h2 hjk=>by
    by_cases e:j=k
    ·subst e;exact h
    exact hno j h1 h2 (by omega)
   have hbd:l[k]≠m[k]→l≠m:=fun h e=>h (by subst e;rfl)
   obtain⟨x,hx⟩ : ∃ x,x=l[k]:=⟨_,rfl⟩
   obtain⟨y,hy⟩ : ∃ x,x=m[k]:=⟨_,rfl⟩
   rw[← hx] at d0 d1 hnx hbd
   rw[← hy] at f0 f1 hnx hbd
   have q2:=Hq1.out x.1 x.2 y.1 y.2
   have hxy:(decide (x.1=y.1) && decide (x.2=y.2))=decide (x=y):=by
    rw[Bool.eq_iff_iff]
    simp[Prod.ext_iff]
   rw[hxy] at q2
   obtain⟨s,hs⟩ : ∃ s,s=x.1:=⟨_,rfl⟩
   obtain⟨t,ht⟩ : ∃ s,s=x.2:=⟨_,rfl⟩
   obtain⟨s',hs'⟩ : ∃ s,s=y.1:=⟨_,rfl⟩
   obtain⟨t',ht'⟩ : ∃ s,s=y.2:=⟨_,rfl⟩
   rw[← hs,← ht,← hs',← ht'] at q2
   rw[← hs] at d0
   rw[← ht] at d1
   rw[← hs'] at f0
   rw[← ht'] at f1
   have k5:(0:Int)≤(k:Int):=by omega
   have k6:(k:Int) < (n:Int):=by omega
   have k7:(k:Int) < (n2:Int):=by have:=Hne.out;omega
   clear hxy
   by_cases e:x=y
   ·have hq:=hnx e
    rw[decide_eq_true e] at q2
    simp only[Bool.not_true] at q2
    clear e
    obtain⟨Hno,Hnx,Hbd,Hx,Hy,Hs,Ht,Hs',Ht',Hq⟩:=hd10 hno hnx hbd hx hy hs ht hs' ht' hq;clear hno hnx hbd hx hy hs ht hs' ht' hq
    go_wp2_with fail
    go_region
    go_wp2_with fail
    go_roundw
    case rel=>exact⟨k+1,by omega,by go_num,Hq.out,_,rfl⟩
    case measure=>simp[RowKit.intOf];omega
   have hf:r=false:=by rw[Hr.out,decide_eq_false_iff_not];exact hbd e
   rw[decide_eq_false e] at q2
   simp only[Bool.not_false] at q2
   clear e
   obtain⟨Hno,Hnx,Hbd,Hx,Hy,Hs,Ht,Hs',Ht',Hf⟩:=hd10 hno hnx hbd hx hy hs ht hs' ht' hf;clear hno hnx hbd hx hy hs ht hs' ht' hf
   go_wp2_with fail
   go_region
   go_wp2_with fail
   go_ret
   exact⟨zac Hf.out.symm,_,rfl⟩
  obtain rfl:n=k:=by omega
  have hf:r=true:=by
   rw[Hr.out,decide_eq_true_eq]
   exact List.ext_getElem (by rw[← Hn.out,← Hn2.out,Hne.out]) (fun j h1 h2=>hno j h1 h2 (by have:=Hn.out;omega))
  obtain⟨Hno,Hf⟩:=hd2 hno hf;clear hno hf
  go_wp2_with fail
  go_ret
  exact⟨zac Hf.out.symm,_,rfl⟩
end

section
open Go.Shelf Go.RowKit Go.Lib VerN VarM
attribute [local go_sem ↓] Go.wp_at_zero Go.wp_at_succ
theorem zov {w:World} {v:Value} {L:List BSp} (h:RSps w [v] L):Calls Tryz.prog 178 #[v] w fun e w'=>e = .returned (.bool (decide (L=allV)))∧w'=w:=by
 obtain⟨a,cap,rfl,hz,g⟩:=zbz h
 obtain⟨n,hn⟩ : ∃ n,n=L.length:=⟨_,rfl⟩
 obtain⟨r,hr⟩ : ∃ r,r=decide (L=allV):=⟨_,rfl⟩
 rw[← hr]
 rw[← hn] at hz h ⊢
 by_cases h1:n=1
 ·subst h1
  obtain⟨x,hx⟩ : ∃ x,L = [x]:=List.length_eq_one_iff.1 hn.symm
  obtain⟨b,off,rfl,d0,d1,-,-⟩:=g 0 x (by rw[hx];rfl)
  rw[Nat.zero_mul,Nat.add_zero] at d0 d1
  have q:=fun (W:World)=>spn_eqs x.1 x.2 ⟨#[]⟩ ⟨#[]⟩ W
  have hrr:(decide (x.1=⟨#[]⟩) && decide (x.2=⟨#[]⟩))=r:=by
   rw[hr,hx,Bool.eq_iff_iff]
   simp[allV,Prod.ext_iff]
  simp only[hrr] at q
  obtain⟨s,hs⟩ : ∃ s,s=x.1:=⟨_,rfl⟩
  obtain⟨t,ht⟩ : ∃ s,s=x.2:=⟨_,rfl⟩
  simp only[← hs,← ht] at q
  rw[← hs] at d0
  rw[← ht] at d1
  clear hrr
  obtain⟨Hh,Hg,Hn,Hr,Hx,Hs,Ht⟩:=hd7 h g hn hr hx hs ht;clear h g hn hr hx hs ht
  go_enter Tryz.func178,Tryz.ntmps178
  go_wp2_with fail
  go_ret
  exact⟨rfl,rfl⟩
 have k1:((n:Int) == 1)=false:=by rw[beq_eq_false_iff_ne];omega
 have hf:r=false:=by
  rw[hr,decide_eq_false_iff_not]
  rintro rfl
  exact h1 hn
 obtain⟨Hh,Hg,Hn,Hr,Hf,H1⟩:=hd6 h g hn hr hf h1;clear h g hn hr hf h1
 go_enter Tryz.func178,Tryz.ntmps178
 go_wp2_with fail
 go_ret
 exact⟨zac Hf.out.symm,rfl⟩
theorem zhq {w:World} {n m:ByteArray} {v1 v2 u1 u2:Value} {l1 l2:List BSp} {g1 g2:List Setg} (h1:RSps w [v1] l1) (h2:ze3 w [v2] g1) (h3:RSps w [u1] l2) (h4:ze3 w [u2] g2) :
  Calls Tryz.prog 39 #[.agg #[.string n,v1,v2],.agg #[.string m,u1,u2]] w fun e w'=>e = .returned (.bool (decide ((n,l1,g1)=(m,l2,g2))))∧Below w.heap.size w w':=by
 obtain⟨a1,c1,rfl,-,-⟩:=zbz h1
 obtain⟨a2,c2,rfl,-,-⟩:=zbs h2
 obtain⟨a3,c3,rfl,-,-⟩:=zbz h3
 obtain⟨a4,c4,rfl,-,-⟩:=zbs h4
 obtain⟨W1,hW1⟩ : ∃ W,W=(w.alloc (.cells #[.string n,.slice a1 l1.length c1,.slice a2 g1.length c2] 51)).alloc (.cells #[.string m,.slice a3 l2.length c3,.slice a4 g2.length c4] 51):=⟨_,rfl⟩
 obtain⟨g,hg⟩ : ∃ g,g=w.heap.size:=⟨_,rfl⟩
 have hb1:Below w.heap.size w W1:=by rw[hW1];exact (za2 _ _).alloc (by simp) _
 have p0:zao g (.string n) (.slice a1 l1.length c1) (.slice a2 g1.length c2) W1:=by rw[hW1,hg];exact za0 (za2 _ _) (za6 rfl)
 have p1:zao (g+1) (.string m) (.slice a3 l2.length c3) (.slice a4 g2.length c4) W1:=by rw[hW1,hg];exact za6 (by simp)
 have r1:=za5 zaw _ _ _ _ h1 hb1
 have r2:=za5 zb5 _ _ _ _ h2 hb1
 have r3:=za5 zaw _ _ _ _ h3 hb1
 have r4:=za5 zb5 _ _ _ _ h4 hb1
 obtain⟨x0,x1,x2,-⟩:=zab p0
 obtain⟨y0,y1,y2,-⟩:=zab p1
 obtain⟨r,hr⟩ : ∃ r,r=decide ((n,l1,g1)=(m,l2,g2)):=⟨_,rfl⟩
 have hS:=zpj r1 r3
 have hT:=fun (W:World) (k:Below W1.heap.size W1 W)=>zpk (za5 zb5 _ _ _ _ r2 k) (za5 zb5 _ _ _ _ r4 k)
 obtain⟨n1,hn1⟩ : ∃ n,n=l1.length:=⟨_,rfl⟩
 obtain⟨n2,hn2⟩ : ∃ n,n=g1.length:=⟨_,rfl⟩
 obtain⟨n3,hn3⟩ : ∃ n,n=l2.length:=⟨_,rfl⟩
 obtain⟨n4,hn4⟩ : ∃ n,n=g2.length:=⟨_,rfl⟩
 have hnm:=Txt.eq_dec n m
 rw[← hr]
 rw[← hn1] at x1 hS hW1 ⊢
 rw[← hn2] at x2 hT hW1 ⊢
 rw[← hn3] at y1 hS hW1 ⊢
 rw[← hn4] at y2 hT hW1 ⊢
 obtain⟨bs,hbs⟩ : ∃ b,b=decide (l1=l2):=⟨_,rfl⟩
 obtain⟨bt,hbt⟩ : ∃ b,b=decide (g1=g2):=⟨_,rfl⟩
 obtain⟨bn,hbn⟩ : ∃ b,b=decide (n=m):=⟨_,rfl⟩
 rw[← hbs] at hS
 rw[← hbt] at hT
 rw[← hbn] at hnm
 have hrr:r=(bn && (bs && bt)):=by
  rw[hr,hbn,hbs,hbt,Bool.eq_iff_iff]
  simp[Prod.ext_iff]
 clear hr hbs hbt hbn
 obtain⟨H1,H2,H3,H4,Hb1,Hp0,Hp1,Hr1,Hr2,Hr3,Hr4,Hn1,Hn2,Hn3,Hn4,HS⟩:=hd16 h1 h2 h3 h4 hb1 p0 p1 r1 r2 r3 r4 hn1 hn2 hn3 hn4 hS;obtain⟨HT,Hrr⟩:=hd2 hT hrr;clear h1 h2 h3 h4 hb1 p0 p1 r1 r2 r3 r4 hn1 hn2 hn3 hn4 hS hT hrr
 go_enter Tryz.func39,Tryz.ntmps39
 go_upto_region 1 with (fail)
 rw[← hW1,← hg]
 clear hW1 hg
 cases bn with
 | false =>
  go_wp2_with fail
  go_ret
  exact⟨zac (by rw[Hrr.out];rfl),Hb1.out⟩
 | true =>
  cases bs with
  | false =>
   go_wp2_with fail
   refine HS.out.mono ?_
   rintro e w2 ⟨rfl,q,rfl⟩
   go_wp2_with fail
   go_ret
   exact⟨zac (by rw[Hrr.out];rfl),zaj Hb1.out q⟩
  | true =>
   go_wp2_with fail
   refine HS.out.mono ?_
   rintro e w2 ⟨rfl,q,rfl⟩
   have hbq:Below W1.heap.size W1 (W1.drewN q):=zaj (Below.refl _ _) q
   have hT2:=HT.out _ hbq
   obtain⟨x3,x4,x5,-⟩:=zab (za0 hbq Hp0.out)
   obtain⟨y3,y4,y5,-⟩:=zab (za0 hbq Hp1.out)
   rw[← Hn2.out] at x5
   rw[← Hn4.out] at y5
   obtain⟨HT2,Hbq⟩:=hd2 hT2 hbq;clear hT2 hbq
   go_wp2_with fail
   refine HT2.out.mono ?_
   rintro e w2 ⟨rfl,q2,rfl⟩
   go_wp2_with fail
   go_ret
   exact⟨zac (by rw[Hrr.out];rfl),zaj Hb1.out _⟩
end

section
open Go.Shelf Go.RowKit Go.Lib VerN VarM
attribute [local go_sem ↓] Go.wp_at_zero Go.wp_at_succ
theorem zmp (L:List ByteArray) (x:ByteArray):(L ++ [x]).map Value.string=L.map Value.string ++ [.string x]:=by simp
theorem zjz {l:List Setg} {k:Nat} (h:k < l.length):(l.take (k+1)).map setT=(l.take k).map setT ++ [setT l[k]]:=by rw[List.take_succ_eq_append_getElem h,List.map_append];rfl
def zl1 (s:Spc3) (w:World) (e:Ending) (w':World):Prop:=∃ a c,e = .returned (.slice a (zb1 s).length c)∧RTs w' [.slice a (zb1 s).length c] (zb1 s)∧Below w.heap.size w w'
structure WdI (w:World) (sets:List Setg) (F0:List ByteArray) (k:Nat) (v:Value) (W:World):Prop where
 row:W.ownsRow w.heap.size 9 1 v (F0.length+k) ((F0 ++ (sets.take k).map setT).map Value.string)
 bel:Below w.heap.size w W
theorem word_size (s:Spc3) (h1:s.1.size≤9000) (h3:∀ x∈s.2.2,x.1.size≤9000∧x.2.size≤9000) (h2:(zba s).size≤9223372036854775807):∀ x∈zb1 s,x.size≤maxLen:=by
 have e:∀ a b:ByteArray,(a ++ b).size=a.size+b.size:=fun a b=>by rw[← Txt.len,Go.Joins.data_append,List.length_append,Txt.len,Txt.len]
 have hs:∀ x∈(if zba s=noT then [] else [zba s]) ++ s.2.2.map setT,x.size≤maxLen:=fun x hx=>by
  unfold maxLen
  rcases List.mem_append.1 hx with hx | hx
  ·split at hx
   ·simp at hx
   rw[List.mem_singleton] at hx
   rw[hx]
   exact h2
  obtain⟨y,hy,rfl⟩:=List.mem_map.1 hx
  have:=h3 y hy
  unfold setT
  rw[e,e]
  show y.1.size+1+y.2.size≤_
  omega
 intro x hx
 unfold zb1 at hx
 by_cases hc:(if zba s=noT then [] else [zba s]) ++ s.2.2.map setT = []
 ·rw[if_pos hc,List.mem_singleton] at hx
  rw[hx]
  decide
 rw[if_neg hc] at hx
 exact hs x hx
theorem zms (l:List Tp) (hl:l.length≤1000):(spT (tB l)).size≤20000000:=by
 rw[zlo]
 unfold zc8
 split
 ·decide
 split
 ·decide
 have hF:=zdp l
 have hlen:(zch l).length≤1000:=by have:=zta l;omega
 unfold zpa
 show (Lib.join (((zch l).map zcn).map (·.data.toList)) [44]).length≤_
 have hb:∀ x∈((zch l).map zcn).map (·.data.toList),x.length≤18001:=by
  intro x hx
  obtain⟨y,hy,rfl⟩:=List.mem_map.1 hx
  obtain⟨z,hz,rfl⟩:=List.mem_map.1 hy
  rw[Txt.len]
  exact zka (hF z hz)
 have h1:=zkk 18001 _ hb
 have h2:(((zch l).map zcn).map (·.data.toList)).length≤1000:=by simpa using hlen
 obtain⟨L,hL⟩ : ∃ L,L=((zch l).map zcn).map (·.data.toList):=⟨_,rfl⟩
 rw[← hL] at h1 h2 ⊢
 cases L with
 | nil=>simp[Lib.join_nil]
 | cons x r =>
  rw[Lib.join_length]
  simp only[List.length_cons,List.length_nil] at *
  omega
theorem zlc {w:World} {v1 v2:Value} {nm:ByteArray} {l:List Tp} {sets:List Setg} (h1:RSps w [v1] (tB l)) (h2:ze3 w [v2] sets) (hD:zbo w) (hl:l.length≤1000) (hm:sets.length≤1000) (hnz:nm.size≤9000) (hsz:∀ x∈sets,x.1.size≤9000∧x.2.size≤9000) :
  Calls Tryz.prog 128 #[.agg #[.string nm,v1,v2]] w (zl1 (nm,tB l,sets) w):=by
 obtain⟨a1,c1,rfl,-,-⟩:=zbz h1
 obtain⟨a2,c2,rfl,hz2,hat⟩:=zbs h2
 obtain⟨n1,hn1⟩ : ∃ n,n=(tB l).length:=⟨_,rfl⟩
 obtain⟨n2,hn2⟩ : ∃ n,n=sets.length:=⟨_,rfl⟩
 rw[← hn1] at h1 ⊢
 rw[← hn2] at h2 hz2 hm ⊢
 obtain⟨W1,hW1⟩ : ∃ W,W=w.alloc (.cells #[.string nm,.slice a1 n1 c1,.slice a2 n2 c2] 51):=⟨_,rfl⟩
 obtain⟨g,hg⟩ : ∃ g,g=w.heap.size:=⟨_,rfl⟩
 have hb1:Below w.heap.size w W1:=by rw[hW1];exact za2 _ _
 have p0:zao g (.string nm) (.slice a1 n1 c1) (.slice a2 n2 c2) W1:=by rw[hW1,hg];exact heap_alloc_new _ _
 obtain⟨x0,x1,x2,-⟩:=zab p0
 have r1:=za5 zaw _ _ _ _ h1 hb1
 have hA:=zov r1
 have hT:=zjx r1 (by omega) (hD.below hb1)
 have hts:=zms l hl
 have hst:zba (nm,tB l,sets)=if tB l=allV then nm else nm ++ (⟨#[64]⟩ ++ spT (tB l)):=rfl
 rw[zlo] at hts hst
 obtain⟨tx,htx⟩ : ∃ t,t=zc8 l:=⟨_,rfl⟩
 rw[← htx] at hT hts hst
 have hws:zb1 (nm,tB l,sets)=if (if zba (nm,tB l,sets)=noT then [] else [zba (nm,tB l,sets)]) ++ sets.map setT = [] then [zl6] else (if zba (nm,tB l,sets)=noT then [] else [zba (nm,tB l,sets)]) ++ sets.map setT:=rfl
 have hwz:(zba (nm,tB l,sets)).size≤9223372036854775807→∀ x∈zb1 (nm,tB l,sets),x.size≤maxLen:=word_size (nm,tB l,sets) hnz hsz
 obtain⟨R,hR⟩ : ∃ R,R=zb1 (nm,tB l,sets):=⟨_,rfl⟩
 obtain⟨fi,hfi⟩ : ∃ f,f=zba (nm,tB l,sets):=⟨_,rfl⟩
 rw[← hR] at hws hwz
 rw[← hfi] at hst hws hwz
 unfold zl1
 rw[← hR]
 obtain⟨al,hal⟩ : ∃ b,b=decide (tB l=allV):=⟨_,rfl⟩
 rw[← hal] at hA
 have hnd:=Txt.no_dec nm
 have hsize:∀ a b:ByteArray,(a ++ b).size=a.size+b.size:=fun a b=>by rw[← Txt.len,Go.Joins.data_append,List.length_append,Txt.len,Txt.len]
 obtain⟨H1,H2,HD,Hl,Hb1,Hp0,Hr1,HA,HT,Hts,Hst,Hws,Hwz,HR,Hfi,Htx⟩:=hd16 h1 h2 hD hl hb1 p0 r1 hA hT hts hst hws hwz hR hfi htx;obtain⟨Hal,Hn1,Hn2,Hat,Hsz,Hsize⟩:=hd6 hal hn1 hn2 hat hsz hsize;clear h1 h2 hD hl hb1 p0 r1 hA hT hts hst hws hwz hR hfi htx hal hn1 hn2 hat hsz hsize
 go_enter Tryz.func128,Tryz.ntmps128
 go_upto_region 1 with (fail)
 rw[← hW1,← hg]
 clear hW1 hg
 cases al with
 | true =>
  have hfn:fi=nm:=by rw[Hst.out,if_pos (of_decide_eq_true Hal.out.symm)]
  by_cases hne:nm.size=0
  ·have k1:nm.toList.isEmpty=true:=by rw[hnd];exact decide_eq_true hne
   have hF0':(if fi=noT then [] else [fi])=([] : List ByteArray):=if_pos (by rw[hfn];exact Txt.ext (List.eq_nil_of_length_eq_zero (by rw[Txt.len];exact hne)))
   have hfz:fi.size≤9223372036854775807:=by rw[hfn];omega
   obtain⟨F0,hFe⟩ : ∃ F:List ByteArray,F = []:=⟨_,rfl⟩
   have hF0:(if fi=noT then [] else [fi])=F0:=by rw[hFe];exact hF0'
   clear hF0'
   have hF1:F0.length≤1:=by rw[hFe];exact Nat.zero_le _
   have hI:WdI w sets F0 0 (.slice none 0 0) W1:=⟨by rw[hFe];exact World.ownsRow_nil _ _ _ _,Hb1.out⟩
   clear hnd
   obtain⟨Hfn,Hne,HF0,Hfz,HFe,HF1,HI⟩:=hd7 hfn hne hF0 hfz hFe hF1 hI;clear hfn hne hF0 hfz hFe hF1 hI
   go_wp2_with fail
   refine HA.out.mono ?_
   rintro e wz ⟨rfl,hwz'⟩
   subst hwz'
   go_upto_region 7 with (fail)
   have Hp:=Lib.hid Hp0.out
   obtain⟨y0,y1,y2,-⟩:=zab Hp.out
   clear x0 x1 x2 k1
   go_wp2_with fail
   go_loopw [4,28] (fun v i wr=>∃ k:Nat,k≤n2∧i = .int .i64 k∧WdI w sets F0 k v wr) (fun _ i _=>n2 - (RowKit.intOf i).toNat)
   case atStart=>exact⟨0,Nat.zero_le _,rfl,HI.out⟩
   case round =>
    obtain⟨k,hk,rfl,hI⟩:=hrel
    obtain⟨z,hz⟩ : ∃ z,z=F0.length+k:=⟨_,rfl⟩
    have hrow:=hI.row
    rw[← hz] at hrow
    obtain⟨ra,rc,rfl⟩:=zah hrow
    have hzs:z≤1001:=by have:=HF1.out;omega
    by_cases hlt:k < n2
    ·have hkl:k < sets.length:=by have:=Hn2.out;omega
     obtain⟨x,hx⟩ : ∃ x,x=sets[k]:=⟨_,rfl⟩
     obtain⟨b,off,rfl,d0,d1,hs1,hs2⟩:=Hat.out k x (by rw[hx];exact List.getElem?_eq_getElem hkl)
     have e0:=cell_later hI.bel d0
     have e1:=cell_later hI.bel d1
     have hnext:=zjz hkl
     rw[← hx] at hnext
     have hset:setT x=x.1 ++ ⟨#[61]⟩ ++ x.2:=rfl
     obtain⟨s,hs⟩ : ∃ s,s=x.1:=⟨_,rfl⟩
     obtain⟨t,ht⟩ : ∃ s,s=x.2:=⟨_,rfl⟩
     rw[← hs,← ht] at hset
     have hxz:=Hsz.out x (by rw[hx];exact List.getElem_mem hkl)
     rw[← hs,← ht] at hxz
     obtain⟨hss,htt⟩:=hxz
     rw[← hs] at e0
     rw[← ht] at e1
     obtain⟨sb,hsb⟩ : ∃ z,z=wr.heap.size:=⟨_,rfl⟩
     obtain⟨w5,hw5⟩ : ∃ W,W=wr.alloc (.cells #[.string s,.string t] 109):=⟨_,rfl⟩
     have hba:Below wr.heap.size wr w5:=by rw[hw5];exact za2 _ _
     have p6:w5.heap[sb]? = some (.cells #[.string s,.string t] 109 (0,0)):=by rw[hw5,hsb];exact heap_alloc_new _ _
     have f0:=za4 p6 0
     have f1:=za4 p6 1
     simp only[List.getElem?_toArray,List.getElem?_cons_zero,List.getElem?_cons_succ] at f0 f1
     have hrow5:=zae hrow hba
     have hbel5:=hI.bel.trans (hba.mono hI.bel.size)
     have hbw5:=hbel5.size
     obtain⟨N,hN⟩ : ∃ N,N=(F0 ++ (sets.take k).map setT).map Value.string:=⟨_,rfl⟩
     rw[← hN] at hrow5
     have k5:(0:Int)≤(k:Int):=by omega
     have k6:(k:Int) < (n2:Int):=by omega
     clear d0 d1 hs1 hs2
     obtain⟨HI,Hz,Hrow,Hx,Hs,Ht,Hnext,Hset,Hba,Hrow5,Hbel5,Hbw5,HN,Hp6⟩:=hd14 hI hz hrow hx hs ht hnext hset hba hrow5 hbel5 hbw5 hN p6;clear hI hz hrow hx hs ht hnext hset hba hrow5 hbel5 hbw5 hN p6
     go_upto_region 10 with (fail)
     rw[← hw5,← hsb]
     clear hw5 hsb e0 e1
     go_wp2_with (at_builtin;(refine zap zf8 rfl (.tmp 32) (.tmp 39) rfl w.heap.size (.slice ra z rc) z N rfl Hrow5.out 1 _ rfl rfl (by simp[Value.oneCell']) (by omega) (by unfold maxLen;omega) Hbw5.out ?_;intro v9 w9 hown9 hg9 hm9;obtain⟨a9,c9,rfl⟩:=zah hown9;have hb9:=(zbi Hbel5.out Hrow5.out (Nat.le_refl _) hg9 Hbw5.out:Below w.heap.size w w9);obtain⟨Hown9,Hb9⟩:=hd2 hown9 hb9;clear hown9 hg9 hm9 hb9))
     go_roundw
     case rel =>
      refine⟨k+1,by omega,by go_num,⟨?_,Hb9.out⟩⟩
      rw[Hnext.out,← List.append_assoc,zmp,← HN.out,← Nat.add_assoc,← Hz.out,Hset.out]
      exact Hown9.out
     case measure=>(simp[RowKit.intOf]) <;> omega
    obtain rfl:k=n2:=by omega
    have htk:(sets.take k).map setT=sets.map setT:=by rw[List.take_of_length_le (Nat.le_of_eq Hn2.out.symm)]
    have hws2:=Hws.out
    rw[HF0.out] at hws2
    rw[htk] at hrow
    have hlen:(F0 ++ sets.map setT).length=z:=by rw[List.length_append,List.length_map,hz,Hn2.out]
    have hRz:=Hwz.out Hfz.out
    by_cases hz0:z=0
    ·subst hz0
     have hL:F0 ++ sets.map setT = []:=List.eq_nil_of_length_eq_zero hlen
     rw[if_pos hL] at hws2
     have hlit:(wr.alloc (.cells #[.string ⟨#[42]⟩] 9)).ownsRow wr.heap.size 9 1 (.slice (some ⟨wr.heap.size,0,none⟩) 1 1) 1 [.string ⟨#[42]⟩]:=World.ownsRow_lit (base:=wr.heap.size) (e:=9) (size:=1) wr #[.string ⟨#[42]⟩] 1 (Nat.le_refl _) (by decide) rfl
     have hbz:Below w.heap.size w (wr.alloc (.cells #[.string ⟨#[42]⟩] 9)):=hI.bel.alloc hI.bel.size _
     obtain⟨HI,Hz,Hrow,Htk,Hws2,Hlen,HRz,HL,Hlit,Hbz⟩:=hd10 hI hz hrow htk hws2 hlen hRz hL hlit hbz;clear hI hz hrow htk hws2 hlen hRz hL hlit hbz
     go_wp2_with fail
     go_ret
     have hfin:R = [zl6]:=Hws2.out
     refine⟨some ⟨wr.heap.size,0,none⟩,1,by rw[hfin];rfl,?_,Hbz.out⟩
     rw[hfin]
     exact zej (l:=[zl6]) Hlit.out (fun x hx=>by rw[List.mem_singleton] at hx;rw[hx];decide)
    have k7:((z:Int) == 0)=false:=by rw[beq_eq_false_iff_ne];omega
    have hL:F0 ++ sets.map setT≠[]:=fun e=>by rw[e] at hlen;exact hz0 hlen.symm
    rw[if_neg hL] at hws2
    rw[← hws2] at hrow hlen
    have hI2:=hI
    obtain⟨HI,HI2,Hz,Hrow,Htk,Hws2,Hlen,HRz,HL,Hz0⟩:=hd10 hI hI2 hz hrow htk hws2 hlen hRz hL hz0;clear hI hI2 hz hrow htk hws2 hlen hRz hL hz0
    go_wp2_with fail
    go_ret
    refine⟨ra,rc,by rw[Hlen.out];rfl,?_,HI2.out.bel⟩
    rw[Hlen.out]
    exact zej Hrow.out HRz.out
  have k1:nm.toList.isEmpty=false:=by rw[hnd];exact decide_eq_false hne
  have hF0':(if fi=noT then [] else [fi]) = [nm]:=by rw[hfn];exact if_neg (by intro e;rw[e] at hne;exact hne rfl)
  have hfz:fi.size≤9223372036854775807:=by rw[hfn];omega
  obtain⟨F0,hFe⟩ : ∃ F:List ByteArray,F = [nm]:=⟨_,rfl⟩
  have hF0:(if fi=noT then [] else [fi])=F0:=by rw[hFe];exact hF0'
  clear hF0'
  have hF1:F0.length≤1:=by rw[hFe];exact Nat.le_refl _
  have hbs:=Hb1.out.size
  have hnil:W1.ownsRow w.heap.size 9 1 (.slice none 0 0) 0 []:=World.ownsRow_nil _ _ _ _
  clear hnd
  obtain⟨Hfn,Hne,HF0,Hfz,Hnil,HFe,HF1⟩:=hd7 hfn hne hF0 hfz hnil hFe hF1;clear hfn hne hF0 hfz hnil hFe hF1
  go_wp2_with fail
  refine HA.out.mono ?_
  rintro e wz ⟨rfl,hwz'⟩
  subst hwz'
  go_wp2_with (at_builtin;(refine zap zf8 rfl (.tmp 21) (.tmp 23) rfl w.heap.size (.slice none 0 0) 0 [] rfl Hnil.out 1 #[.string nm] rfl rfl (by simp[Value.oneCell']) (by omega) (by unfold maxLen;omega) hbs ?_;intro v9 w9 hown9 hg9 hm9;obtain⟨a9,c9,rfl⟩:=zah hown9;have hb9:=(zbi Hb1.out Hnil.out (Nat.le_refl _) hg9 hbs:Below w.heap.size w w9);have Hp:=Lib.hid ((hg9.block g (Array.getElem?_eq_some_iff.1 Hp0.out).1 (by simp[Value.ownBlock])).trans Hp0.out:zao g (.string nm) (.slice a1 n1 c1) (.slice a2 n2 c2) w9);have HI:=Lib.hid (⟨by rw[HFe.out];exact hown9,hb9⟩ : WdI w sets F0 0 (.slice a9 1 c9) w9);obtain⟨y0,y1,y2,-⟩:=zab Hp.out;clear hown9 hg9 hm9 hb9))
  clear x0 x1 x2 k1
  go_loopw [4,28] (fun v i wr=>∃ k:Nat,k≤n2∧i = .int .i64 k∧WdI w sets F0 k v wr) (fun _ i _=>n2 - (RowKit.intOf i).toNat)
  case atStart=>exact⟨0,Nat.zero_le _,rfl,HI.out⟩
  case round =>
   obtain⟨k,hk,rfl,hI⟩:=hrel
   obtain⟨z,hz⟩ : ∃ z,z=F0.length+k:=⟨_,rfl⟩
   have hrow:=hI.row
   rw[← hz] at hrow
   obtain⟨ra,rc,rfl⟩:=zah hrow
   have hzs:z≤1001:=by have:=HF1.out;omega
   by_cases hlt:k < n2
   ·have hkl:k < sets.length:=by have:=Hn2.out;omega
    obtain⟨x,hx⟩ : ∃ x,x=sets[k]:=⟨_,rfl⟩
    obtain⟨b,off,rfl,d0,d1,hs1,hs2⟩:=Hat.out k x (by rw[hx];exact List.getElem?_eq_getElem hkl)
    have e0:=cell_later hI.bel d0
    have e1:=cell_later hI.bel d1
    have hnext:=zjz hkl
    rw[← hx] at hnext
    have hset:setT x=x.1 ++ ⟨#[61]⟩ ++ x.2:=rfl
    obtain⟨s,hs⟩ : ∃ s,s=x.1:=⟨_,rfl⟩
    obtain⟨t,ht⟩ : ∃ s,s=x.2:=⟨_,rfl⟩
    rw[← hs,← ht] at hset
    have hxz:=Hsz.out x (by rw[hx];exact List.getElem_mem hkl)
    rw[← hs,← ht] at hxz
    obtain⟨hss,htt⟩:=hxz
    rw[← hs] at e0
    rw[← ht] at e1
    obtain⟨sb,hsb⟩ : ∃ z,z=wr.heap.size:=⟨_,rfl⟩
    obtain⟨w5,hw5⟩ : ∃ W,W=wr.alloc (.cells #[.string s,.string t] 109):=⟨_,rfl⟩
    have hba:Below wr.heap.size wr w5:=by rw[hw5];exact za2 _ _
    have p6:w5.heap[sb]? = some (.cells #[.string s,.string t] 109 (0,0)):=by rw[hw5,hsb];exact heap_alloc_new _ _
    have f0:=za4 p6 0
    have f1:=za4 p6 1
    simp only[List.getElem?_toArray,List.getElem?_cons_zero,List.getElem?_cons_succ] at f0 f1
    have hrow5:=zae hrow hba
    have hbel5:=hI.bel.trans (hba.mono hI.bel.size)
    have hbw5:=hbel5.size
    obtain⟨N,hN⟩ : ∃ N,N=(F0 ++ (sets.take k).map setT).map Value.string:=⟨_,rfl⟩
    rw[← hN] at hrow5
    have k5:(0:Int)≤(k:Int):=by omega
    have k6:(k:Int) < (n2:Int):=by omega
    clear d0 d1 hs1 hs2
    obtain⟨HI,Hz,Hrow,Hx,Hs,Ht,Hnext,Hset,Hba,Hrow5,Hbel5,Hbw5,HN,Hp6⟩:=hd14 hI hz hrow hx hs ht hnext hset hba hrow5 hbel5 hbw5 hN p6;clear hI hz hrow hx hs ht hnext hset hba hrow5 hbel5 hbw5 hN p6
    go_upto_region 10 with (fail)
    rw[← hw5,← hsb]
    clear hw5 hsb e0 e1
    go_wp2_with (at_builtin;(refine zap zf8 rfl (.tmp 32) (.tmp 39) rfl w.heap.size (.slice ra z rc) z N rfl Hrow5.out 1 _ rfl rfl (by simp[Value.oneCell']) (by omega) (by unfold maxLen;omega) Hbw5.out ?_;intro v9 w9 hown9 hg9 hm9;obtain⟨a9,c9,rfl⟩:=zah hown9;have hb9:=(zbi Hbel5.out Hrow5.out (Nat.le_refl _) hg9 Hbw5.out:Below w.heap.size w w9);obtain⟨Hown9,Hb9⟩:=hd2 hown9 hb9;clear hown9 hg9 hm9 hb9))
    go_roundw
    case rel =>
     refine⟨k+1,by omega,by go_num,⟨?_,Hb9.out⟩⟩
     rw[Hnext.out,← List.append_assoc,zmp,← HN.out,← Nat.add_assoc,← Hz.out,Hset.out]
     exact Hown9.out
    case measure=>(simp[RowKit.intOf]) <;> omega
   obtain rfl:k=n2:=by omega
   have htk:(sets.take k).map setT=sets.map setT:=by rw[List.take_of_length_le (Nat.le_of_eq Hn2.out.symm)]
   have hws2:=Hws.out
   rw[HF0.out] at hws2
   rw[htk] at hrow
   have hlen:(F0 ++ sets.map setT).length=z:=by rw[List.length_append,List.length_map,hz,Hn2.out]
   have hRz:=Hwz.out Hfz.out
   by_cases hz0:z=0
   ·subst hz0
    have hL:F0 ++ sets.map setT = []:=List.eq_nil_of_length_eq_zero hlen
    rw[if_pos hL] at hws2
    have hlit:(wr.alloc (.cells #[.string ⟨#[42]⟩] 9)).ownsRow wr.heap.size 9 1 (.slice (some ⟨wr.heap.size,0,none⟩) 1 1) 1 [.string ⟨#[42]⟩]:=World.ownsRow_lit (base:=wr.heap.size) (e:=9) (size:=1) wr #[.string ⟨#[42]⟩] 1 (Nat.le_refl _) (by decide) rfl
    have hbz:Below w.heap.size w (wr.alloc (.cells #[.string ⟨#[42]⟩] 9)):=hI.bel.alloc hI.bel.size _
    obtain⟨HI,Hz,Hrow,Htk,Hws2,Hlen,HRz,HL,Hlit,Hbz⟩:=hd10 hI hz hrow htk hws2 hlen hRz hL hlit hbz;clear hI hz hrow htk hws2 hlen hRz hL hlit hbz
    go_wp2_with fail
    go_ret
    have hfin:R = [zl6]:=Hws2.out
    refine⟨some ⟨wr.heap.size,0,none⟩,1,by rw[hfin];rfl,?_,Hbz.out⟩
    rw[hfin]
    exact zej (l:=[zl6]) Hlit.out (fun x hx=>by rw[List.mem_singleton] at hx;rw[hx];decide)
   have k7:((z:Int) == 0)=false:=by rw[beq_eq_false_iff_ne];omega
   have hL:F0 ++ sets.map setT≠[]:=fun e=>by rw[e] at hlen;exact hz0 hlen.symm
   rw[if_neg hL] at hws2
   rw[← hws2] at hrow hlen
   have hI2:=hI
   obtain⟨HI,HI2,Hz,Hrow,Htk,Hws2,Hlen,HRz,HL,Hz0⟩:=hd10 hI hI2 hz hrow htk hws2 hlen hRz hL hz0;clear hI hI2 hz hrow htk hws2 hlen hRz hL hz0
   go_wp2_with fail
   go_ret
   refine⟨ra,rc,by rw[Hlen.out];rfl,?_,HI2.out.bel⟩
   rw[Hlen.out]
   exact zej Hrow.out HRz.out
 | false =>
  have hfn:fi=nm ++ (⟨#[64]⟩ ++ tx):=by rw[Hst.out,if_neg (of_decide_eq_false Hal.out.symm)]
  have hne:fi≠noT:=by rw[hfn];exact app_ne (ne_app (by decide))
  have hfz:fi.size≤9223372036854775807:=by
   have:=Hts.out
   have e1:=Hsize.out nm (⟨#[64]⟩ ++ tx)
   have e2:=Hsize.out ⟨#[64]⟩ tx
   have e3:(⟨#[64]⟩ : ByteArray).size=1:=rfl
   rw[hfn]
   omega
  obtain⟨F0,hFe⟩ : ∃ F:List ByteArray,F = [nm ++ (⟨#[64]⟩ ++ tx)]:=⟨_,rfl⟩
  have hF0:(if fi=noT then [] else [fi])=F0:=by rw[if_neg hne,hFe,hfn]
  have hF1:F0.length≤1:=by rw[hFe];exact Nat.le_refl _
  have k1:(nm ++ (⟨#[64]⟩ ++ tx)).toList.isEmpty=false:=by
   rw[Txt.no_dec]
   refine decide_eq_false fun h=>?_
   apply hne
   rw[hfn]
   exact Txt.ext (List.eq_nil_of_length_eq_zero (by rw[Txt.len];exact h))
  clear hnd
  have htxz:=Hts.out
  obtain⟨Hfn,Hne,HF0,Hfz,HFe,HF1⟩:=hd6 hfn hne hF0 hfz hFe hF1;clear hfn hne hF0 hfz hFe hF1
  go_wp2_with fail
  refine HA.out.mono ?_
  rintro e wz ⟨rfl,hwz'⟩
  subst hwz'
  go_wp2_with fail
  refine HT.out.mono ?_
  rintro e wt ⟨rfl,hbt1⟩
  have hbt:=Hb1.out.trans (hbt1.mono Hb1.out.size)
  have hpt:=za0 hbt1 Hp0.out
  have hbs:=hbt.size
  have hnil:wt.ownsRow w.heap.size 9 1 (.slice none 0 0) 0 []:=World.ownsRow_nil _ _ _ _
  obtain⟨Hbt1,Hbt,Hpt,Hnil⟩:=hd4 hbt1 hbt hpt hnil;clear hbt1 hbt hpt hnil
  go_wp2_with (at_builtin;(refine zap zf8 rfl (.tmp 21) (.tmp 23) rfl w.heap.size (.slice none 0 0) 0 [] rfl Hnil.out 1 _ rfl rfl (by simp[Value.oneCell']) (by omega) (by unfold maxLen;omega) hbs ?_;intro v9 w9 hown9 hg9 hm9;obtain⟨a9,c9,rfl⟩:=zah hown9;have hb9:=(zbi Hbt.out Hnil.out (Nat.le_refl _) hg9 hbs:Below w.heap.size w w9);have Hp:=Lib.hid ((hg9.block g (Array.getElem?_eq_some_iff.1 Hpt.out).1 (by simp[Value.ownBlock])).trans Hpt.out:zao g (.string nm) (.slice a1 n1 c1) (.slice a2 n2 c2) w9);have HI:=Lib.hid (⟨by rw[HFe.out];exact hown9,hb9⟩ : WdI w sets F0 0 (.slice a9 1 c9) w9);obtain⟨y0,y1,y2,-⟩:=zab Hp.out;clear hown9 hg9 hm9 hb9))
  clear x0 x1 x2 k1
  go_loopw [4,28] (fun v i wr=>∃ k:Nat,k≤n2∧i = .int .i64 k∧WdI w sets F0 k v wr) (fun _ i _=>n2 - (RowKit.intOf i).toNat)
  case atStart=>exact⟨0,Nat.zero_le _,rfl,HI.out⟩
  case round =>
   obtain⟨k,hk,rfl,hI⟩:=hrel
   obtain⟨z,hz⟩ : ∃ z,z=F0.length+k:=⟨_,rfl⟩
   have hrow:=hI.row
   rw[← hz] at hrow
   obtain⟨ra,rc,rfl⟩:=zah hrow
   have hzs:z≤1001:=by have:=HF1.out;omega
   by_cases hlt:k < n2
   ·have hkl:k < sets.length:=by have:=Hn2.out;omega
    obtain⟨x,hx⟩ : ∃ x,x=sets[k]:=⟨_,rfl⟩
    obtain⟨b,off,rfl,d0,d1,hs1,hs2⟩:=Hat.out k x (by rw[hx];exact List.getElem?_eq_getElem hkl)
    have e0:=cell_later hI.bel d0
    have e1:=cell_later hI.bel d1
    have hnext:=zjz hkl
    rw[← hx] at hnext
    have hset:setT x=x.1 ++ ⟨#[61]⟩ ++ x.2:=rfl
    obtain⟨s,hs⟩ : ∃ s,s=x.1:=⟨_,rfl⟩
    obtain⟨t,ht⟩ : ∃ s,s=x.2:=⟨_,rfl⟩
    rw[← hs,← ht] at hset
    have hxz:=Hsz.out x (by rw[hx];exact List.getElem_mem hkl)
    rw[← hs,← ht] at hxz
    obtain⟨hss,htt⟩:=hxz
    rw[← hs] at e0
    rw[← ht] at e1
    obtain⟨sb,hsb⟩ : ∃ z,z=wr.heap.size:=⟨_,rfl⟩
    obtain⟨w5,hw5⟩ : ∃ W,W=wr.alloc (.cells #[.string s,.string t] 109):=⟨_,rfl⟩
    have hba:Below wr.heap.size wr w5:=by rw[hw5];exact za2 _ _
    have p6:w5.heap[sb]? = some (.cells #[.string s,.string t] 109 (0,0)):=by rw[hw5,hsb];exact heap_alloc_new _ _
    have f0:=za4 p6 0
    have f1:=za4 p6 1
    simp only[List.getElem?_toArray,List.getElem?_cons_zero,List.getElem?_cons_succ] at f0 f1
    have hrow5:=zae hrow hba
    have hbel5:=hI.bel.trans (hba.mono hI.bel.size)
    have hbw5:=hbel5.size
    obtain⟨N,hN⟩ : ∃ N,N=(F0 ++ (sets.take k).map setT).map Value.string:=⟨_,rfl⟩
    rw[← hN] at hrow5
    have k5:(0:Int)≤(k:Int):=by omega
    have k6:(k:Int) < (n2:Int):=by omega
    clear d0 d1 hs1 hs2
    obtain⟨HI,Hz,Hrow,Hx,Hs,Ht,Hnext,Hset,Hba,Hrow5,Hbel5,Hbw5,HN,Hp6⟩:=hd14 hI hz hrow hx hs ht hnext hset hba hrow5 hbel5 hbw5 hN p6;clear hI hz hrow hx hs ht hnext hset hba hrow5 hbel5 hbw5 hN p6
    go_upto_region 10 with (fail)
    rw[← hw5,← hsb]
    clear hw5 hsb e0 e1
    go_wp2_with (at_builtin;(refine zap zf8 rfl (.tmp 32) (.tmp 39) rfl w.heap.size (.slice ra z rc) z N rfl Hrow5.out 1 _ rfl rfl (by simp[Value.oneCell']) (by omega) (by unfold maxLen;omega) Hbw5.out ?_;intro v9 w9 hown9 hg9 hm9;obtain⟨a9,c9,rfl⟩:=zah hown9;have hb9:=(zbi Hbel5.out Hrow5.out (Nat.le_refl _) hg9 Hbw5.out:Below w.heap.size w w9);obtain⟨Hown9,Hb9⟩:=hd2 hown9 hb9;clear hown9 hg9 hm9 hb9))
    go_roundw
    case rel =>
     refine⟨k+1,by omega,by go_num,⟨?_,Hb9.out⟩⟩
     rw[Hnext.out,← List.append_assoc,zmp,← HN.out,← Nat.add_assoc,← Hz.out,Hset.out]
     exact Hown9.out
    case measure=>(simp[RowKit.intOf]) <;> omega
   obtain rfl:k=n2:=by omega
   have htk:(sets.take k).map setT=sets.map setT:=by rw[List.take_of_length_le (Nat.le_of_eq Hn2.out.symm)]
   have hws2:=Hws.out
   rw[HF0.out] at hws2
   rw[htk] at hrow
   have hlen:(F0 ++ sets.map setT).length=z:=by rw[List.length_append,List.length_map,hz,Hn2.out]
   have hRz:=Hwz.out Hfz.out
   by_cases hz0:z=0
   ·subst hz0
    have hL:F0 ++ sets.map setT = []:=List.eq_nil_of_length_eq_zero hlen
    rw[if_pos hL] at hws2
    have hlit:(wr.alloc (.cells #[.string ⟨#[42]⟩] 9)).ownsRow wr.heap.size 9 1 (.slice (some ⟨wr.heap.size,0,none⟩) 1 1) 1 [.string ⟨#[42]⟩]:=World.ownsRow_lit (base:=wr.heap.size) (e:=9) (size:=1) wr #[.string ⟨#[42]⟩] 1 (Nat.le_refl _) (by decide) rfl
    have hbz:Below w.heap.size w (wr.alloc (.cells #[.string ⟨#[42]⟩] 9)):=hI.bel.alloc hI.bel.size _
    obtain⟨HI,Hz,Hrow,Htk,Hws2,Hlen,HRz,HL,Hlit,Hbz⟩:=hd10 hI hz hrow htk hws2 hlen hRz hL hlit hbz;clear hI hz hrow htk hws2 hlen hRz hL hlit hbz
    go_wp2_with fail
    go_ret
    have hfin:R = [zl6]:=Hws2.out
    refine⟨some ⟨wr.heap.size,0,none⟩,1,by rw[hfin];rfl,?_,Hbz.out⟩
    rw[hfin]
    exact zej (l:=[zl6]) Hlit.out (fun x hx=>by rw[List.mem_singleton] at hx;rw[hx];decide)
   have k7:((z:Int) == 0)=false:=by rw[beq_eq_false_iff_ne];omega
   have hL:F0 ++ sets.map setT≠[]:=fun e=>by rw[e] at hlen;exact hz0 hlen.symm
   rw[if_neg hL] at hws2
   rw[← hws2] at hrow hlen
   have hI2:=hI
   obtain⟨HI,HI2,Hz,Hrow,Htk,Hws2,Hlen,HRz,HL,Hz0⟩:=hd10 hI hI2 hz hrow htk hws2 hlen hRz hL hz0;clear hI hI2 hz hrow htk hws2 hlen hRz hL hz0
   go_wp2_with fail
   go_ret
   refine⟨ra,rc,by rw[Hlen.out];rfl,?_,HI2.out.bel⟩
   rw[Hlen.out]
   exact zej Hrow.out HRz.out
end

section
open Go.Lib VerN VarM
open LexM (Wd Ln)
abbrev ztu:=List Wd→Nat→Option Spc3 × Nat
def zdt (R:ztu) (t:ByteArray) (s:Spc3):Prop:=(LexM.docLines t.data.toList).e=0∧∃ ln,(LexM.docLines t.data.toList).lines = [ln]∧wt ln.2=t.data.toList∧R ln.2 0=(some s,ln.2.length)
open Classical in
noncomputable def zi8 (R:ztu) (s:Spc3):ByteArray × Bool:=if zdt R (zd7 s) s then (zd7 s,true) else (noT,false)
theorem zod {R:ztu} {s:Spc3} (h:zdt R (zd7 s) s):zi8 R s=(zd7 s,true):=by unfold zi8;rw[if_pos h]
theorem zsc {R:ztu} {s:Spc3} (h:¬ zdt R (zd7 s) s):zi8 R s=(noT,false):=by unfold zi8;rw[if_neg h]
structure Sp (s:Spc3) (l:List Tp):Prop where
 sp:s.2.1=tB l
 l1:l.length≤1000
 nm:s.1.size≤9000
 sl:s.2.2.length≤1000
 sz:∀ x∈s.2.2,x.1.size≤9000∧x.2.size≤9000
theorem zex (a b:ByteArray):(a ++ b).size=a.size+b.size:=by rw[← Txt.len,Go.Joins.data_append,List.length_append,Txt.len,Txt.len]
theorem Sp.first {s:Spc3} {l:List Tp} (h:Sp s l):(zba s).size≤20009001:=by
 have h1:=zms l h.l1
 have h2:=h.nm
 unfold zba
 rw[h.sp]
 split
 ·omega
 rw[zex,zex]
 have:(⟨#[64]⟩ : ByteArray).size=1:=rfl
 omega
theorem Sp.words {s:Spc3} {l:List Tp} (h:Sp s l):(∀ x∈zb1 s,x.size≤20009001)∧(zb1 s).length≤1001∧zb1 s≠[]:=by
 have hs:∀ x∈(if zba s=noT then [] else [zba s]) ++ s.2.2.map setT,x.size≤20009001:=fun x hx=>by
  rcases List.mem_append.1 hx with hx | hx
  ·split at hx
   ·simp at hx
   rw[List.mem_singleton] at hx
   rw[hx]
   exact h.first
  obtain⟨y,hy,rfl⟩:=List.mem_map.1 hx
  have:=h.sz y hy
  unfold setT
  rw[zex,zex]
  have e:(⟨#[61]⟩ : ByteArray).size=1:=rfl
  omega
 have hl:((if zba s=noT then [] else [zba s]) ++ s.2.2.map setT).length≤1001:=by
  have:=h.sl
  rw[List.length_append,List.length_map]
  split <;> simp <;> omega
 unfold zb1
 by_cases hc:(if zba s=noT then [] else [zba s]) ++ s.2.2.map setT = []
 ·rw[if_pos hc]
  exact⟨fun x hx=>by rw[List.mem_singleton] at hx;rw[hx];decide,by simp,by simp⟩
 rw[if_neg hc]
 exact⟨hs,hl,hc⟩
theorem Sp.text {s:Spc3} {l:List Tp} (h:Sp s l):(zd7 s).size≤30000000000:=by
 obtain⟨h1,h2,h3⟩:=h.words
 rw[zgh,← Txt.len,zcb]
 have hb:∀ x∈(zb1 s).map (·.data.toList),x.length≤20009001:=by
  intro x hx
  obtain⟨y,hy,rfl⟩:=List.mem_map.1 hx
  rw[Txt.len]
  exact h1 y hy
 have h4:=zkk 20009001 _ hb
 have h5:((zb1 s).map (·.data.toList)).length≤1001:=by simpa using h2
 obtain⟨L,hL⟩ : ∃ L,L=(zb1 s).map (·.data.toList):=⟨_,rfl⟩
 rw[← hL] at h4 h5 ⊢
 cases L with
 | nil=>simp[Lib.join_nil]
 | cons x r =>
  rw[Lib.join_length]
  simp only[List.length_cons,List.length_nil] at *
  omega
open LexM (zfs)
theorem wt_small {ln:Ln} (h:zfs 70000 ln):(wt ln.2).length≤3000000:=by
 have hs:∀ (ws:List Wd),(∀ x∈ws,x.2.length≤70000)→(wt ws).length≤70001 * ws.length:=by
  intro ws
  have hf:∀ (r:List Wd),(∀ x∈r,x.2.length≤70000)→(r.flatMap fun y=>(32:UInt8) :: y.2).length≤70001 * r.length:=by
   intro r
   induction r with
   | nil=>intro _;simp
   | cons y r ih =>
    intro h
    have h1:=ih (fun x hx=>h x (by simp[hx]))
    have h2:=h y (by simp)
    rw[List.flatMap_cons,List.length_append,List.length_cons,List.length_cons]
    omega
  cases ws with
  | nil=>intro _;simp[wt]
  | cons x r =>
   intro h
   have h1:=hf r (fun y hy=>h y (by simp[hy]))
   have h2:=h x (by simp)
   show (x.2 ++ r.flatMap fun y=>(32:UInt8) :: y.2).length≤_
   rw[List.length_append,List.length_cons]
   omega
 have h1:=hs ln.2 (fun x hx=>(h.2.2.2 x hx).2.2.2)
 have h2:=h.2.2.1
 omega
theorem zne (ln:Ln):ltx [ln]=wt ln.2 ++ [10]:=by simp[ltx]
theorem ltx_eq (ln:Ln) (t:ByteArray):((⟨(ltx [ln]).toArray⟩ : ByteArray).toList == (t ++ ⟨#[10]⟩ : ByteArray).toList)=decide (wt ln.2=t.data.toList):=by
 rw[Txt.eq_dec]
 refine decide_eq_decide.2 ⟨fun h=>?_,fun h=>?_⟩
 ·have h1:=congrArg (fun x:ByteArray=>x.data.toList) h
  simp only[Go.Joins.data_append] at h1
  rw[zne] at h1
  exact List.append_inj_left' h1 rfl
 apply Txt.ext
 rw[Go.Joins.data_append,← h]
 exact zne ln
end

section
open Go.Lib VerN VarM
open LexM (Wd Ln)
noncomputable def zop (s:Spc3):Bool × List ByteArray:=(false,ze5 :: zb1 s)
noncomputable def rqTx (rs:List Spc3):List UInt8:=txT (rs.map zop)
theorem rqTx_nil:rqTx [] = []:=rfl
theorem root_join (s:Spc3) (h:zb1 s≠[]):(zd1 (ze5 :: zb1 s)).data.toList = [114,111,111,116,32] ++ (zd7 s).data.toList:=by
 rw[zgh,zcb,zcb]
 cases hl:zb1 s with
 | nil=>exact absurd hl h
 | cons y r =>
  rw[List.map_cons,List.map_cons,zt6]
  rfl
theorem zhj (s:Spc3):zb1 s≠[]:=by
 unfold zb1
 by_cases h:(if zba s=noT then [] else [zba s]) ++ s.2.2.map setT = []
 ·rw[if_pos h];simp
 rw[if_neg h];exact h
theorem zho (rs:List Spc3) (s:Spc3):rqTx (rs ++ [s])=rqTx rs ++ ([114,111,111,116,32] ++ ((zd7 s).data.toList ++ [10])):=by
 unfold rqTx txT
 rw[List.map_append,List.flatMap_append]
 congr 1
 show lnT (zop s) ++ []=_
 rw[List.append_nil]
 unfold lnT zop
 rw[root_join s (zhj s)]
 simp
theorem zlk {ws:List Wd} {s:Spc3} (h:zat ws 0=(some s,ws.length)):ws.map wtx=zb1 s∧zbl s.1.data.toList=true∧∀ r',Stop r'→zmi (zb1 s ++ r')=some (s,r'):=by
 have h1:=zjq ws 0
 rw[h] at h1
 have h2:zfe ws ws.length = []:=zge (Nat.le_refl _)
 have h3:zmi (zfe ws 0)=some (s,[]):=by rw[h1];show some (s,zfe ws ws.length)=_;rw[h2]
 obtain⟨e,_,_,hn,hr⟩:=ztx h3
 rw[List.append_nil] at e
 exact⟨by rw[← e];unfold zfe;simp,hn,hr⟩
theorem wish_of {ws:List Wd} {s:Spc3} (h:ws.map wtx=zb1 s) (hr:zmi (zb1 s ++ [])=some (s,[])):zat ws 0=(some s,ws.length):=by
 have h1:=zjq ws 0
 have h2:zfe ws 0=zb1 s:=by unfold zfe;simpa using h
 rw[h2] at h1
 rw[List.append_nil] at hr
 rw[hr] at h1
 rcases hw:zat ws 0 with⟨_ | s',j⟩
 ·rw[hw] at h1
  cases h1
 rw[hw] at h1
 have h3:some (s,([] : List ByteArray))=some (s',zfe ws j):=h1
 simp only[Option.some.injEq,Prod.mk.injEq] at h3
 obtain⟨rfl,h4⟩:=h3
 have h5:=(zs3 hw).2
 have h6:=texts_len ws j
 rw[← h4] at h6
 have:j=ws.length:=by simp at h6;omega
 rw[this]
theorem zuf:zj6 ze5:=⟨by decide,by decide⟩
theorem wt_join:∀ us:List Wd,us≠[]→wt us=(zd1 (us.map wtx)).data.toList
 | [],h=>absurd rfl h
 | x :: r,_=>by
  rw[zcb,List.map_cons,List.map_cons,Lib.join_cons]
  show x.2 ++ (r.flatMap fun y=>32 :: y.2)=x.2 ++ _
  congr 1
  unfold Lib.joinTail
  rw[List.flatMap_def,List.map_map,List.map_map]
  rfl
theorem zsq (l:Ln) (s:Spc3):zk5 l=some s↔zcj l=ze5 :: zb1 s∧zbl s.1.data.toList=true∧∀ r',Stop r'→zmi (zb1 s ++ r')=some (s,r'):=by
 have hp:∀ ws:List Wd,zbe ws 0=ze5↔∃ x r,ws=x :: r∧wtx x=ze5:=fun ws=>by
  cases ws with
  | nil=>exact⟨fun h=>absurd (show zbe [] 0=ze5 from h) (by decide),fun⟨x,r,h,_⟩=>by cases h⟩
  | cons x r =>
   rw[zei (by simp)]
   exact⟨fun h=>⟨x,r,rfl,h⟩,fun⟨x',r',h,h2⟩=>by cases h;exact h2⟩
 have e:zk5 l=(zdm l).1:=rfl
 constructor
 ·intro h
  rw[e] at h
  unfold zdm at h
  by_cases h1:zbe l.2 0=ze5
  ·rw[if_pos h1] at h
   obtain⟨x,r,hl,hx⟩:=(hp l.2).1 h1
   have hd:l.2.drop 1=r:=by rw[hl];rfl
   rw[hd] at h
   rcases hw:zat r 0 with⟨_ | s',j⟩
   ·rw[hw] at h
    cases h
   rw[hw] at h
   simp only at h
   split at h
   ·cases h
   rename_i hj
   have hs:s'=s:=Option.some.inj h
   subst hs
   have h5:=(zs3 hw).2
   have h6:j=r.length:=by rw[hl] at hj;simp at hj;omega
   rw[h6] at hw
   obtain⟨k1,k2,k3⟩:=zlk hw
   refine⟨?_,k2,k3⟩
   unfold zcj
   rw[hl,List.map_cons,hx,k1]
  rw[if_neg h1] at h
  cases h
 rintro⟨h1,h2,h3⟩
 unfold zcj at h1
 obtain⟨n,ws⟩:=l
 have h1:ws.map wtx=ze5 :: zb1 s:=h1
 cases ws with
 | nil=>cases h1
 | cons x r =>
  simp only[List.map_cons,List.cons.injEq] at h1
  rw[e]
  unfold zdm
  have hpk:zbe (x :: r) 0=ze5:=(hp _).2 ⟨x,r,rfl,h1.1⟩
  show (if zbe (x :: r) 0=ze5 then _ else _:Option Spc3 × Int).1=_
  rw[if_pos hpk]
  have hw:=wish_of h1.2 (h3 [] (fun x hx=>by simp at hx))
  show (match zat r 0 with | (some s,j)=>_ | (none,j)=>_:Option Spc3 × Int).1=_
  rw[hw]
  simp
theorem rq_iff (rs:List Spc3):((∀ s∈rs,zdt zat (zd7 s) s)∧(LexM.docLines (rqTx rs)).e=0)↔((zf0 (rqTx rs)).e=0∧(zf0 (rqTx rs)).roots.map (·.1)=rs):=by
 constructor
 ·rintro⟨h1,h2⟩
  have hw:∀ s∈rs,(∀ w∈zb1 s,zj6 w)∧zbl s.1.data.toList=true∧∀ r',Stop r'→zmi (zb1 s ++ r')=some (s,r'):=fun s hs=>by
   obtain⟨_,ln,e1,e2,e3⟩:=h1 s hs
   obtain⟨k1,k2,k3⟩:=zlk e3
   refine⟨fun w hw=>?_,k2,k3⟩
   rw[← k1] at hw
   exact (zpr (zd7 s).data.toList).1 ln (by rw[e1];simp) w hw
  have hok:OkT (rs.map zop):=fun x hx=>by
   obtain⟨s,hs,rfl⟩:=List.mem_map.1 hx
   refine⟨by simp[zop],fun w hw2=>?_⟩
   rcases List.mem_cons.1 hw2 with rfl | hw2
   ·exact zuf
   exact (hw s hs).1 w hw2
  have hl:=(doc_txt hok).2 h2
  have hm:(LexM.docLines (rqTx rs)).lines.map zk5=rs.map some:=by
   have hl2:(LexM.docLines (rqTx rs)).lines.map zcj=rs.map fun s=>ze5 :: zb1 s:=by
    have:=hl
    rw[List.map_map] at this
    exact this
   refine List.ext_getElem (by have:=congrArg List.length hl2;simpa using this) fun j a b=>?_
   rw[List.length_map] at a b
   rw[List.getElem_map,List.getElem_map]
   have hj:((LexM.docLines (rqTx rs)).lines.map zcj)[j]? = (rs.map fun s=>ze5 :: zb1 s)[j]?:=by rw[hl2]
   rw[List.getElem?_map,List.getElem?_map,List.getElem?_eq_getElem a,List.getElem?_eq_getElem b] at hj
   have hj:zcj (LexM.docLines (rqTx rs)).lines[j]=ze5 :: zb1 rs[j]:=by simpa using hj
   exact (zsq _ _).2 ⟨hj,(hw _ (List.getElem_mem b)).2⟩
  have hg:=zgz _ _ [] hm
  unfold zf0
  rw[if_pos h2]
  exact⟨hg.1,by rw[hg.2.1];rfl⟩
 rintro⟨h1,h2⟩
 obtain⟨k1,rs',k2,k3⟩:=reqOf_ok h1
 have e:rs'=rs:=k3.symm.trans h2
 subst e
 refine⟨fun s hs=>?_,k1⟩
 have hs2:some s∈(LexM.docLines (rqTx rs')).lines.map zk5:=by rw[k2];exact List.mem_map.2 ⟨s,hs,rfl⟩
 obtain⟨l,hl,hr⟩:=List.mem_map.1 hs2
 obtain⟨q1,q2,q3⟩:=(zsq l s).1 hr
 obtain⟨d1,d2,d3⟩:=zpr (rqTx rs')
 have hgood:∀ w∈zb1 s,zj6 w:=fun w hw=>d1 l hl w (by rw[q1];simp[hw])
 have hlen:(zb1 s).length≤40:=by
  have h40:=((LexM.doc_good (rqTx rs')).1 l hl).2.2.1
  have:(zcj l).length=l.2.length:=by unfold zcj;rw[List.length_map]
  rw[q1] at this
  simp at this
  omega
 have hcost:zfm (zcj l)≤zew ((LexM.docLines (rqTx rs')).lines.map zcj):=by
  have:∀ (L:List (List ByteArray)) (x:List ByteArray),x∈L→zfm x≤zew L:=by
   intro L
   induction L with
   | nil=>intro x hx;simp at hx
   | cons y L ih =>
    intro x hx
    have e:zew (y :: L)=zfm y+zew L:=rfl
    rcases List.mem_cons.1 hx with rfl | hx
    ·omega
    have:=ih x hx;omega
  exact this _ _ (List.mem_map.2 ⟨l,hl,rfl⟩)
 have hz:(rqTx rs').length≤65536:=by
  apply Nat.le_of_not_lt
  intro hk
  unfold LexM.docLines at k1
  rw[if_pos hk] at k1
  cases k1
 have hsz:(zd1 (zb1 s)).size≤65536:=by
  have h5:=join_cost (zhj s)
  rw[Txt.len] at h5
  have h6:zfm (zcj l)=ze5.size+1+zfm (zb1 s):=by rw[q1];rfl
  have h7:ze5.size=4:=rfl
  omega
 obtain⟨o1,n,us,o2,o3⟩:=doc_one (zhj s) hgood hlen hsz
 refine⟨by rw[zgh];exact o1,(n,us),by rw[zgh];exact o2,?_,wish_of o3 (q3 [] (fun x hx=>by simp at hx))⟩
 have hne:us≠[]:=by
  rintro rfl
  exact zhj s o3.symm
 show wt us=_
 rw[wt_join us hne,o3,zgh]
end

section
open Go.RowKit
theorem freeze_at {w:World} {g:Nat} {c:Array Value} {e:TypeId} {fr:Nat × Nat} (h:w.heap[g]? = some (.cells c e fr)) (n:Nat):∃ fr',(w.freeze ⟨g,0,none⟩ n).heap[g]? = some (.cells c e fr'):=by
 unfold World.freeze
 split
 ·exact⟨fr,h⟩
 simp only[Array.getElem?_modify]
 rw[if_pos trivial,h]
 obtain⟨lo,hi⟩:=fr
 exact⟨_,rfl⟩
theorem zph {w:World} {g b:Nat} {o:Obj} (h:w.heap[b]? = some o) (hb:b≠g) (n:Nat):(w.freeze ⟨g,0,none⟩ n).heap[b]? = some o:=by
 unfold World.freeze
 split
 ·exact h
 simp only[Array.getElem?_modify]
 rw[if_neg (fun e=>hb e.symm),h]
def BldF (B b:Nat) (l:List UInt8) (w:World):Prop:=∃ p g cap cur fr,w.heap[b]? = some (.cells #[p,.slice (some ⟨g,0,none⟩) l.length cap] 144 (0,0))∧B≤g∧w.heap[g]? = some (.cells cur 5 fr)∧l.length≤cap∧cap≤maxLen∧cur.size=cap∧cur.toList.take l.length=Lib.byteCells l
theorem bldF_of {B b:Nat} {l:List UInt8} {w:World} (h:Bld B b l w) (h0:l≠[]):BldF B b l w:=by
 obtain⟨p,hB,v,hbk,hown,hne⟩ : ∃ p,Lib.BuilderAt 144 5 B b p (Lib.byteCells l) w:=by
  rcases h with h | h
  ·exact⟨_,h⟩
  exact⟨_,h⟩
 have hl0:l.length≠0:=by simpa using h0
 rw[Lib.byteCells_length] at hown
 rcases hown.2 with⟨_,hz⟩ | ⟨g,cap,cur,rfl,hg,hgg,hnc,hcm,hcs,htake⟩
 ·exact absurd hz hl0
 exact⟨p,g,cap,cur,_,hbk,hg,hgg,hnc,hcm,by omega,by rw[Nat.mul_one] at htake;exact htake⟩
theorem zvo {B b:Nat} {l:List UInt8} {w w':World} (h:BldF B b l w) (hb:Below w.heap.size w w'):BldF B b l w':=by
 obtain⟨p,g,cap,cur,fr,h1,h2,h3,h4⟩:=h
 exact⟨p,g,cap,cur,fr,(hb.block b (Array.getElem?_eq_some_iff.1 h1).1).trans h1,h2,(hb.block g (Array.getElem?_eq_some_iff.1 h3).1).trans h3,h4⟩
theorem bld_str {B b:Nat} {l:List UInt8} {w:World} (h:BldF B b l w) (h0:l≠[]) :
  Calls Tryz.prog 95 #[.pointer (some ⟨b,0,none⟩)] w fun e w'=>e = .returned (.string ⟨l.toArray⟩)∧BldF B b l w'∧Below B w w':=by
 obtain⟨p,g,cap,cur,fr,hbk,hbg,hg,hnc,hcm,hcs,htake⟩:=h
 have hl0:l.length≠0:=by simpa using h0
 have hgb:b≠g:=by
  rintro rfl
  rw[hbk] at hg
  simp at hg
 have c1:w.drew.cell? ⟨b,1,none⟩=some (.slice (some ⟨g,0,none⟩) l.length cap):=by
  have:w.drew.heap[b]? = some (.cells #[p,.slice (some ⟨g,0,none⟩) l.length cap] 144 (0,0)):=hbk
  rw[Lib.cell_of_heap this];rfl
 have hg':w.drew.heap[g]? = some (.cells cur 5 fr):=hg
 have hSD:(Builtin.unsafeSliceData_ #[142] 213 #[.slice (some ⟨g,0,none⟩) l.length cap]).run Tryz.prog w.drew = .ok (.pointer (some ⟨g,0,none⟩)) w.drew :=
  Lib.run_unsafeSliceData_row _ _ _ _ _ _ (by omega)
 have hUS:(Builtin.unsafeString_ #[213,3] 9 #[.pointer (some ⟨g,0,none⟩),.int .i64 l.length]).run Tryz.prog w.drew = .ok (.string ⟨l.toArray⟩) (w.drew.freeze ⟨g,0,none⟩ l.length):=by
  refine Lib.run_unsafeString_row w.drew 213 3 9 5 Tryz.underlying213 zq8 g cur.size (by simp[World.shape?,hg']) l h0 (by omega) (by unfold maxLen at hcm;omega) ?_
  intro j x hx
  have hj:j < l.length:=(List.getElem?_eq_some_iff.1 hx).1
  have h1:(Lib.byteCells l)[j]? = some (.int .u8 x.toNat):=by simp[Lib.byteCells,hx]
  rw[← htake,List.getElem?_take,if_pos hj] at h1
  have h3:cur[j]? = some (.int .u8 x.toNat):=by simpa using h1
  have h4:w.drew.cell? ⟨g,j,none⟩=some (.int .u8 x.toNat):=by
   rw[Lib.cell_of_heap hg']
   exact h3
  rw[Addr.add_lit,Nat.zero_add]
  exact h4
 have hlm:l.length≤9223372036854775807:=by unfold maxLen at hcm;omega
 have hF:BldF B b l (w.drew.freeze ⟨g,0,none⟩ l.length):=by
  obtain⟨fr',hf⟩:=freeze_at hg' l.length
  exact⟨p,g,cap,cur,fr',zph (w:=w.drew) hbk hgb _,hbg,hf,hnc,hcm,hcs,htake⟩
 obtain⟨Hbk,Hg,Hg',Hcs,Htake,HF,Hgb,Hcm⟩:=hd8 hbk hg hg' hcs htake hF hgb hcm;clear hbk hg hg' hcs htake hF hgb hcm
 go_enter Tryz.func95,Tryz.ntmps95
 go_wp2_with fail
 go_region
 all_goals
  go_wp2_with fail
  go_ret
  exact⟨rfl,HF.out,Lib.below_freeze (Below.drew (Below.refl B w)) (p:=⟨g,0,none⟩) hbg _⟩
end

section
open Go.Shelf Go.RowKit Go.Lib VerN VarM
open LexM (Wd)
attribute [local go_sem ↓] Go.wp_at_zero Go.wp_at_succ
end

section
open Go.Shelf Go.RowKit Go.Lib VerN VarM
open LexM (Wd)
attribute [local go_sem ↓] Go.wp_at_zero Go.wp_at_succ
end

section
open Go.Shelf Go.RowKit Go.Lib VerN VarM
open LexM (Wd Ln zfs)
attribute [local go_sem ↓] Go.wp_at_zero Go.wp_at_succ
theorem zld {w:World} {v1 v2:Value} {nm:ByteArray} {L:List BSp} {sets:List Setg} {l:List Tp} (h1:RSps w [v1] L) (h2:ze3 w [v2] sets) (hS:Sp (nm,L,sets) l) (hD:zbo w) :
  Calls Tryz.prog 74 #[.agg #[.string nm,v1,v2],.func (.func 76) #[] #[]] w fun e w'=>e = .returned (.tuple #[.string (zi8 zat (nm,L,sets)).1,.bool (zi8 zat (nm,L,sets)).2])∧Below w.heap.size w w':=by
 have hLt:L=tB l:=hS.sp
 obtain⟨a1,c1,rfl,-,-⟩:=zbz h1
 obtain⟨a2,c2,rfl,-,-⟩:=zbs h2
 obtain⟨n1,hn1⟩ : ∃ n,n=L.length:=⟨_,rfl⟩
 obtain⟨n2,hn2⟩ : ∃ n,n=sets.length:=⟨_,rfl⟩
 rw[← hn1] at h1 ⊢
 rw[← hn2] at h2 ⊢
 obtain⟨W1,hW1⟩ : ∃ W,W=w.alloc (.cells #[.string nm,.slice a1 n1 c1,.slice a2 n2 c2] 51):=⟨_,rfl⟩
 obtain⟨g,hg⟩ : ∃ g,g=w.heap.size:=⟨_,rfl⟩
 have hb1:Below w.heap.size w W1:=by rw[hW1];exact za2 _ _
 have p0:zao g (.string nm) (.slice a1 n1 c1) (.slice a2 n2 c2) W1:=by rw[hW1,hg];exact heap_alloc_new _ _
 obtain⟨x0,x1,x2,-⟩:=zab p0
 have r1:=za5 zaw _ _ _ _ h1 hb1
 have r2:=za5 zb5 _ _ _ _ h2 hb1
 have hW:=zlc (nm:=nm) (l:=l) (by rw[← hLt];exact r1) r2 (hD.below hb1) hS.l1 hS.sl hS.nm hS.sz
 rw[← hLt] at hW
 obtain⟨hwz,hwl,hwn⟩:=hS.words
 have htz:=hS.text
 have hte:=zgh (nm,L,sets)
 obtain⟨s,hs⟩ : ∃ s:Spc3,s=(nm,L,sets):=⟨_,rfl⟩
 rw[← hs] at hW hwz hwl hwn htz hte
 rw[← hs]
 unfold zl1 at hW
 obtain⟨ws,hws⟩ : ∃ l,l=zb1 s:=⟨_,rfl⟩
 rw[← hws] at hW hwz hwl hwn hte
 obtain⟨t,ht⟩ : ∃ t,t=zd7 s:=⟨_,rfl⟩
 rw[← ht] at htz hte
 have hL:=fun (W:World)=>zg2 t (by omega) W
 rw[LexM.lines_eq] at hL
 have hgood:=LexM.doc_good7 t.data.toList
 have hyes:=zod (R:=zat) (s:=s)
 have hno:=zsc (R:=zat) (s:=s)
 unfold zdt at hyes hno
 rw[← ht] at hyes hno
 obtain⟨R,hR⟩ : ∃ R,R=LexM.docLines t.data.toList:=⟨_,rfl⟩
 rw[← hR] at hL hgood hyes hno
 obtain⟨e1,he1⟩ : ∃ z,z=R.at1:=⟨_,rfl⟩
 obtain⟨e2,he2⟩ : ∃ z,z=R.at2:=⟨_,rfl⟩
 obtain⟨er,her⟩ : ∃ z,z=R.e:=⟨_,rfl⟩
 obtain⟨ls,hls⟩ : ∃ z,z=R.lines:=⟨_,rfl⟩
 rw[← her,← hls] at hyes hno
 rw[← hls] at hgood
 unfold zfc at hL
 simp only[← he1,← he2,← her,← hls] at hL
 obtain⟨res,hres⟩ : ∃ q,q=zi8 zat s:=⟨_,rfl⟩
 rw[← hres] at hyes hno ⊢
 clear he1 he2 her hls hR
 have htb:t.size≤30000000000:=htz
 obtain⟨H1,H2,HS,HD,Hb1,Hp0,Hr1,Hr2,HW,Hwz,Hwl,Hwn,Htz,Hte,HL,Hgood⟩:=hd16 h1 h2 hS hD hb1 p0 r1 r2 hW hwz hwl hwn htz hte hL hgood;obtain⟨Hyes,Hno,Hres,HLt,Hn1,Hn2,Hs,Hws,Ht⟩:=hd9 hyes hno hres hLt hn1 hn2 hs hws ht;clear h1 h2 hS hD hb1 p0 r1 r2 hW hwz hwl hwn htz hte hL hgood hyes hno hres hLt hn1 hn2 hs hws ht
 go_enter Tryz.func74,Tryz.ntmps74
 go_upto_region 1 with (fail)
 rw[← hW1,← hg]
 clear hW1 hg
 go_wp2_with fail
 refine HW.out.mono ?_
 rintro e w2 ⟨a,c,rfl,hrd,hb2⟩
 obtain⟨aa,cap,hv,hz,hat⟩:=zo8 hrd
 have hca:ws.length≤c:=by
  obtain⟨a',cap',hv',hc,_⟩:=hrd
  simp only[List.cons.injEq,and_true,Value.slice.injEq] at hv'
  rw[hv'.2.2]
  exact hc
 obtain⟨rfl,-,rfl⟩:=Value.slice.inj hv
 have hpos:0 < ws.length:=List.length_pos_iff.2 Hwn.out
 obtain⟨bk,o,rfl,hc0,-⟩:=hat 0 hpos
 have hJ:=Tryz.strings_Join bk o c ws ⟨#[32]⟩ w2 (fun j x hj=>by
  obtain⟨hjl,hjx⟩:=List.getElem?_eq_some_iff.1 hj
  obtain⟨b',o',e',h',_⟩:=hat j hjl
  cases e'
  rw[← hjx]
  exact h') (World.block_lt_of_cell? _ _ hc0) (by have:=Hwl.out;omega) hca (by
  have:=Htz.out
  rw[Hte.out,← Txt.len,zcb] at this
  exact Nat.le_trans this (by decide))
 have hjt:(⟨(Lib.join (ws.map (·.data.toList)) (⟨#[32]⟩ : ByteArray).data.toList).toArray⟩ : ByteArray)=t:=by rw[Hte.out];rfl
 rw[hjt] at hJ
 have hbw2:=Hb1.out.trans (hb2.mono Hb1.out.size)
 obtain⟨nw,hnw⟩ : ∃ n,n=ws.length:=⟨_,rfl⟩
 rw[← hnw] at hJ ⊢
 clear hat hv hc0 hz
 obtain⟨Hrd,Hb2,Hca,Hpos,HJ,Hjt,Hbw2,Hnw⟩:=hd8 hrd hb2 hca hpos hJ hjt hbw2 hnw;clear hrd hb2 hca hpos hJ hjt hbw2 hnw
 go_wp2_with fail
 refine HJ.out.mono ?_
 rintro e w3 ⟨rfl,hb3⟩
 have hb13:=Hb2.out.trans (hb3.mono Hb2.out.size)
 have hbw3:=Hb1.out.trans (hb13.mono Hb1.out.size)
 have hL3:=HL.out w3
 obtain⟨Hb3,Hb13,Hbw3,HL3⟩:=hd4 hb3 hb13 hbw3 hL3;clear hb3 hb13 hbw3 hL3
 go_wp2_with fail
 refine HL3.out.mono ?_
 rintro e w4 ⟨v,rfl,hln,hb4⟩
 obtain⟨ad,cp,rfl,-,-,hat⟩:=znf hln
 clear hat
 obtain⟨m,hm⟩ : ∃ m,m=ls.length:=⟨_,rfl⟩
 rw[← hm] at hln ⊢
 obtain⟨w5,hw5⟩ : ∃ W,W=w4.alloc (.cells #[.int .i64 e1,.int .i64 e2] 40):=⟨_,rfl⟩
 have hb45:Below w4.heap.size w4 w5:=by rw[hw5];exact za2 _ _
 have hb35:=hb4.trans (hb45.mono hb4.size)
 have hbw5:=Hbw3.out.trans (hb35.mono Hbw3.out.size)
 have hln5:=zhg _ _ _ _ hln hb45
 by_cases he:er=0
 ·have k1:(er != 0)=false:=by rw[he];rfl
  by_cases h1:m=1
  ·subst h1
   obtain⟨ln,hl1⟩ : ∃ x,ls = [x]:=List.length_eq_one_iff.1 hm.symm
   have hg:=Hgood.out.1 ln (by rw[hl1];simp)
   have hwl1:=wt_small hg
   have hTx:=text_any hln5 (by rw[hl1,zne,List.length_append];simp;omega)
   rw[hl1] at hTx
   obtain⟨lt,hlt⟩ : ∃ x:ByteArray,x=⟨(ltx [ln]).toArray⟩:=⟨_,rfl⟩
   rw[← hlt] at hTx
   have hq:(lt.toList == (t ++ ⟨#[10]⟩ : ByteArray).toList)=decide (wt ln.2=t.data.toList):=by rw[hlt];exact ltx_eq ln t
   obtain⟨eq,heq⟩ : ∃ b,b=decide (wt ln.2=t.data.toList):=⟨_,rfl⟩
   rw[← heq] at hq
   have hlz:lt.size≤100000000:=by rw[hlt];show (ltx [ln]).length≤_;rw[zne,List.length_append];simp;omega
   rw[hl1] at hln5
   cases eq with
   | false =>
    have hr:res=(noT,false):=Hno.out (by
     rintro⟨-,ln',h2,h3,-⟩
     rw[hl1] at h2
     cases h2
     exact absurd h3 (of_decide_eq_false heq.symm))
    obtain⟨Hln,Hb4,Hb45,Hb35,Hbw5,Hln5,He,Hm,Hl1,Hg,Hwl1,HTx,Hlt,Heq,Hr,Hlz⟩:=hd16 hln hb4 hb45 hb35 hbw5 hln5 he hm hl1 hg hwl1 hTx hlt heq hr hlz;clear hln hb4 hb45 hb35 hbw5 hln5 he hm hl1 hg hwl1 hTx hlt heq hr hlz
    go_upto_region 3 with (fail)
    rw[← hw5]
    clear hw5
    go_wp2_with fail
    refine HTx.out.mono ?_
    rintro e w6 ⟨rfl,hb6⟩
    have Hb6:=hd hb6;clear hb6
    go_wp2_with fail
    go_ret2
    exact⟨by rw[Hr.out];rfl,Hbw5.out.trans (Hb6.out.mono Hbw5.out.size)⟩
   | true =>
    have hwt:wt ln.2=t.data.toList:=of_decide_eq_true heq.symm
    have hb5':=hb35
    have he0:=he
    have hl1':=hl1
    have hwt':=hwt
    obtain⟨Hln,Hb4,Hb45,Hb35,Hbw5,He,Hm,Hlt,Heq,Hlz,Hl1,Hwt⟩:=hd12 hln hb4 hb45 hb35 hbw5 he hm hlt heq hlz hl1 hwt;clear hln hb4 hb45 hb35 hbw5 he hm hlt heq hlz hl1 hwt
    go_upto_region 3 with (fail)
    rw[← hw5]
    clear hw5
    have Hln5:=Lib.hid hln5
    clear hln5
    have HTx:=Lib.hid hTx
    clear hTx
    go_wp2_with fail
    refine HTx.out.mono ?_
    rintro e w6 ⟨rfl,hb6⟩
    have hbw6:=Hbw5.out.trans (hb6.mono Hbw5.out.size)
    have hln6:=zhg _ _ _ _ Hln5.out hb6
    have hp6:=za0 (hb5'.trans (hb6.mono hb5'.size)) (za0 Hb13.out Hp0.out)
    obtain⟨a',c',ha',-,-,hat⟩:=znf hln6
    simp only[List.length_singleton,Value.slice.injEq] at ha'
    obtain⟨rfl,-,-⟩:=ha'
    obtain⟨bq,o,rfl,c0,v,c1,hwd⟩:=hat 0 (by simp)
    clear hat c0
    rw[Nat.zero_mul,Nat.add_zero] at c1
    rw[List.getElem_cons_zero] at hwd
    obtain⟨wa,wc,rfl⟩:=zo5 hwd
    obtain⟨nw,hnw2⟩ : ∃ n,n=ln.2.length:=⟨_,rfl⟩
    rw[← hnw2] at c1 hwd
    have hcol:∀ j,zb9 ln.2 ((t.size:Int)+1) j≠0:=fun j=>by
     by_cases hj:j < ln.2.length
     ·rw[zjn hj]
      have:=(hg.2.2.2 _ (List.getElem_mem hj)).1
      omega
     rw[znr (by omega)]
     omega
    have hnw40:nw≤40:=by have:=hg.2.2.1;omega
    have hO:=zgs (fin:=(t.size:Int)+1) hwd (HD.out.below hbw6) (by omega) (fun x hx=>(hg.2.2.2 x hx).2.2.2) hcol
    obtain⟨fin,hfin⟩ : ∃ f,f=(t.size:Int)+1:=⟨_,rfl⟩
    rw[← hfin] at hO hcol
    obtain⟨Hln6,Hb6,Hbw6,Hp6,Hwd,HO,Hg,Hnw2,Hcol,Hfin⟩:=hd10 hln6 hb6 hbw6 hp6 hwd hO hg hnw2 hcol hfin;clear hln6 hb6 hbw6 hp6 hwd hO hg hnw2 hcol hfin
    go_wp2_with fail
    rw[← Hfin.out]
    refine HO.out.mono ?_
    rintro e w7 ⟨⟨s2,j,b1,m1,d1,b2,m2,d2,hw,rfl,hv1,hv2⟩ | ⟨j,hw,rfl⟩,hb7⟩
    ·have hbw7:=Hbw6.out.trans (hb7.mono Hbw6.out.size)
     obtain⟨w8,hw8⟩ : ∃ W,W=w7.alloc (.cells #[.string s2.1,.slice b1 m1 d1,.slice b2 m2 d2] 51):=⟨_,rfl⟩
     have hb78:Below w7.heap.size w7 w8:=by rw[hw8];exact za2 _ _
     have hb68:=hb7.trans (hb78.mono hb7.size)
     have hbw8:=Hbw6.out.trans (hb68.mono Hbw6.out.size)
     obtain⟨q,hq⟩ : ∃ k,k=w7.heap.size:=⟨_,rfl⟩
     have pq:zao q (.string s2.1) (.slice b1 m1 d1) (.slice b2 m2 d2) w8:=by rw[hw8,hq];exact heap_alloc_new _ _
     have hp8:=za0 hb68 Hp6.out
     obtain⟨y0,y1,y2,-⟩:=zab pq
     clear x0 x1 x2
     obtain⟨x0,x1,x2,-⟩:=zab hp8
     have c8:=cell_later hb68 c1
     have hSame:=zhq (n:=s2.1) (m:=nm) (zar hv1 hb78).1 (zb0 hv2 hb78).1 (za5 zaw _ _ _ _ H1.out hbw8) (za5 zb5 _ _ _ _ H2.out hbw8)
     obtain⟨s21,hs21⟩ : ∃ x,x=s2.1:=⟨_,rfl⟩
     rw[← hs21] at hSame y0 hw8 ⊢
     obtain⟨same,hsame⟩ : ∃ b,b=decide ((s21,s2.2.1,s2.2.2)=(nm,L,sets)):=⟨_,rfl⟩
     rw[← hsame] at hSame
     have hsm:same=true↔s2=s:=by
      rw[hsame,decide_eq_true_eq,hs21,Hs.out]
     by_cases hj:j=nw
     ·subst hj
      cases same with
      | true =>
       have hs2:s2=s:=hsm.1 rfl
       have hr:res=(t,true):=Hyes.out ⟨he0,ln,hl1',hwt',by rw[← Hnw2.out,← hs2];exact hw⟩
       obtain⟨Hw,Hv1,Hv2,Hb7,Hbw7,Hb78,Hb68,Hbw8,Hq,Hpq,Hp8,HSame,Hs21,Hsame,Hsm,Hs2⟩:=hd16 hw hv1 hv2 hb7 hbw7 hb78 hb68 hbw8 hq pq hp8 hSame hs21 hsame hsm hs2;have Hr:=hd hr;clear hw hv1 hv2 hb7 hbw7 hb78 hb68 hbw8 hq pq hp8 hSame hs21 hsame hsm hs2 hr
       go_upto_region 6 with (fail)
       rw[← hw8,← Hq.out]
       clear hw8
       go_wp2_with fail
       refine HSame.out.mono ?_
       rintro e w9 ⟨rfl,hb9⟩
       have Hb9:=hd hb9;clear hb9
       go_wp2_with fail
       go_ret2
       exact⟨by rw[Hr.out];rfl,Hbw8.out.trans (Hb9.out.mono Hbw8.out.size)⟩
      | false =>
       have hr:res=(noT,false):=Hno.out (by
        rintro⟨-,ln',h2,-,h4⟩
        rw[hl1'] at h2
        cases h2
        rw[hw] at h4
        have h5:s2=s:=by cases h4;rfl
        exact absurd (hsm.2 h5) (by simp))
       obtain⟨Hw,Hv1,Hv2,Hb7,Hbw7,Hb78,Hb68,Hbw8,Hq,Hpq,Hp8,HSame,Hs21,Hsame,Hsm,Hr⟩:=hd16 hw hv1 hv2 hb7 hbw7 hb78 hb68 hbw8 hq pq hp8 hSame hs21 hsame hsm hr;clear hw hv1 hv2 hb7 hbw7 hb78 hb68 hbw8 hq pq hp8 hSame hs21 hsame hsm hr
       go_upto_region 6 with (fail)
       rw[← hw8,← Hq.out]
       clear hw8
       go_wp2_with fail
       refine HSame.out.mono ?_
       rintro e w9 ⟨rfl,hb9⟩
       have Hb9:=hd hb9;clear hb9
       go_wp2_with fail
       go_ret2
       exact⟨by rw[Hr.out];rfl,Hbw8.out.trans (Hb9.out.mono Hbw8.out.size)⟩
     have k3:((j:Int) != (nw:Int))=true:=by simp;omega
     have hr:res=(noT,false):=Hno.out (by
      rintro⟨-,ln',h2,-,h4⟩
      rw[hl1'] at h2
      cases h2
      rw[hw] at h4
      have h5:j=ln.2.length:=by cases h4;rfl
      exact hj (h5.trans Hnw2.out.symm))
     obtain⟨Hw,Hv1,Hv2,Hb7,Hbw7,Hb78,Hb68,Hbw8,Hq,Hpq,Hp8,HSame,Hs21,Hsame,Hsm,Hj⟩:=hd16 hw hv1 hv2 hb7 hbw7 hb78 hb68 hbw8 hq pq hp8 hSame hs21 hsame hsm hj;have Hr:=hd hr;clear hw hv1 hv2 hb7 hbw7 hb78 hb68 hbw8 hq pq hp8 hSame hs21 hsame hsm hj hr
     go_upto_region 6 with (fail)
     rw[← hw8,← Hq.out]
     clear hw8
     go_wp2_with fail
     go_ret2
     exact⟨by rw[Hr.out];rfl,Hbw8.out⟩
    obtain⟨cl,hcl⟩ : ∃ x,x=zb9 ln.2 fin j:=⟨_,rfl⟩
    have hne:(cl != 0)=true:=by rw[hcl];simpa using Hcol.out j
    rw[← hcl]
    have hr:res=(noT,false):=Hno.out (by
     rintro⟨-,ln',h2,-,h4⟩
     rw[hl1'] at h2
     cases h2
     rw[hw] at h4
     cases h4)
    have hbw7:=Hbw6.out.trans (hb7.mono Hbw6.out.size)
    obtain⟨w8,hw8⟩ : ∃ W,W=w7.alloc (.cells #[.string ⟨#[]⟩,.slice none 0 0,.slice none 0 0] 51):=⟨_,rfl⟩
    have hb78:Below w7.heap.size w7 w8:=by rw[hw8];exact za2 _ _
    have hbw8:=hbw7.trans (hb78.mono hbw7.size)
    obtain⟨Hw,Hb7,Hbw7,Hb78,Hbw8,Hcl,Hr⟩:=hd7 hw hb7 hbw7 hb78 hbw8 hcl hr;clear hw hb7 hbw7 hb78 hbw8 hcl hr
    go_upto_region 6 with (fail)
    rw[← hw8]
    clear hw8
    go_wp2_with fail
    go_ret2
    exact⟨by rw[Hr.out];rfl,Hbw8.out⟩
  have k2:((m:Int) != 1)=true:=by simp;omega
  have hr:res=(noT,false):=Hno.out (by
   rintro⟨-,ln',h2,-,-⟩
   rw[h2] at hm
   exact h1 hm)
  obtain⟨Hln,Hb4,Hb45,Hb35,Hbw5,Hln5,He,Hm,H1,Hr⟩:=hd10 hln hb4 hb45 hb35 hbw5 hln5 he hm h1 hr;clear hln hb4 hb45 hb35 hbw5 hln5 he hm h1 hr
  go_upto_region 3 with (fail)
  rw[← hw5]
  clear hw5
  go_wp2_with fail
  go_ret2
  exact⟨by rw[Hr.out];rfl,Hbw5.out⟩
 have k1:(er != 0)=true:=by simpa using he
 have hr:res=(noT,false):=Hno.out (fun h=>he h.1)
 obtain⟨Hln,Hb4,Hb45,Hb35,Hbw5,Hln5,He,Hm,Hr⟩:=hd9 hln hb4 hb45 hb35 hbw5 hln5 he hm hr;clear hln hb4 hb45 hb35 hbw5 hln5 he hm hr
 go_upto_region 3 with (fail)
 rw[← hw5]
 clear hw5
 go_wp2_with fail
 go_ret2
 exact⟨by rw[Hr.out];rfl,Hbw5.out⟩
theorem zn1 {w:World} {v1 v2:Value} {nm:ByteArray} {L:List BSp} {sets:List Setg} {l:List Tp} (h1:RSps w [v1] L) (h2:ze3 w [v2] sets) (hS:Sp (nm,L,sets) l) (hD:zbo w) :
  Calls Tryz.prog 34 #[.agg #[.string nm,v1,v2]] w fun e w'=>e = .returned (.tuple #[.string (zi8 zat (nm,L,sets)).1,.bool (zi8 zat (nm,L,sets)).2])∧Below w.heap.size w w':=by
 obtain⟨a1,c1,rfl⟩:=zbh h1
 obtain⟨a2,c2,rfl⟩:=zdb h2
 obtain⟨W1,hW1⟩ : ∃ W,W=w.alloc (.cells #[.string nm,.slice a1 L.length c1,.slice a2 sets.length c2] 51):=⟨_,rfl⟩
 obtain⟨g,hg⟩ : ∃ g,g=w.heap.size:=⟨_,rfl⟩
 have hb1:Below w.heap.size w W1:=by rw[hW1];exact za2 _ _
 have p0:zao g (.string nm) (.slice a1 L.length c1) (.slice a2 sets.length c2) W1:=by rw[hW1,hg];exact heap_alloc_new _ _
 have hP:=zld (za5 zaw _ _ _ _ h1 hb1) (za5 zb5 _ _ _ _ h2 hb1) hS (hD.below hb1)
 obtain⟨n1,hn1⟩ : ∃ n,n=L.length:=⟨_,rfl⟩
 obtain⟨n2,hn2⟩ : ∃ n,n=sets.length:=⟨_,rfl⟩
 rw[← hn1,← hn2] at hP p0 hW1 ⊢
 obtain⟨res,hres⟩ : ∃ q,q=zi8 zat (nm,L,sets):=⟨_,rfl⟩
 rw[← hres] at hP ⊢
 obtain⟨x0,x1,x2,-⟩:=zab p0
 obtain⟨r1,r2⟩:=res
 obtain⟨H1,H2,HS,HD,Hb1,Hp0,HP,Hn1,Hn2,Hres⟩:=hd10 h1 h2 hS hD hb1 p0 hP hn1 hn2 hres;clear h1 h2 hS hD hb1 p0 hP hn1 hn2 hres
 go_enter Tryz.func34,Tryz.ntmps34
 go_upto_region 1 with (fail)
 rw[← hW1,← hg]
 clear hW1 hg
 go_wp2_with fail
 refine HP.out.mono ?_
 rintro e w2 ⟨rfl,hb2⟩
 have Hb2:=hd hb2;clear hb2
 go_wp2_with fail
 go_ret2
 exact⟨rfl,Hb1.out.trans (Hb2.out.mono Hb1.out.size)⟩
end

section
open Go.Shelf Go.RowKit Go.Lib VerN VarM
attribute [local go_sem ↓] Go.wp_at_zero Go.wp_at_succ
theorem zhz {sets:List Setg} {k:Nat} (h:k < sets.length) (o:ByteArray):(sets.take (k+1)).foldl zck o=zck ((sets.take k).foldl zck o) sets[k]:=by
 rw[List.take_succ_eq_append_getElem h,List.foldl_append]
 rfl
theorem zkr {sets:List Setg} (h:∀ x∈sets,x.1.size≤9000∧x.2.size≤9000):∀ (k:Nat) (o:ByteArray),k≤sets.length→((sets.take k).foldl zck o).size≤o.size+18002 * k
 | 0,o,_=>by simp
 | k+1,o,hk=>by
  have h1:=zkr h k o (by omega)
  have h2:=h _ (List.getElem_mem (show k < sets.length by omega))
  rw[zhz (show k < sets.length by omega)]
  have h3:(zck ((sets.take k).foldl zck o) sets[k]).size≤((sets.take k).foldl zck o).size+1+sets[k].1.size+1+sets[k].2.size:=by
   unfold zck
   rw[zex,zex,zex]
   have e1:(⟨#[61]⟩ : ByteArray).size=1:=rfl
   have e2:(⟨#[32]⟩ : ByteArray).size=1:=rfl
   split
   ·omega
   rw[zex];omega
  omega
theorem tx_spT {l:List Tp} (h:zbm l=true):zj1 (zch l)=spT (tB l):=by
 rw[zlo]
 unfold zc8 zj1
 rw[if_neg (show ¬ zbm l=false by rw[h];simp)]
theorem tx_no {l:List Tp} (h:zbm l=false):spT (tB l)=noT:=by
 rw[zlo]
 unfold zc8
 rw[if_pos h]
 rfl
theorem zii {o:ByteArray} {x:Setg} (h:o=noT):o ++ x.1 ++ ⟨#[61]⟩ ++ x.2=zck o x:=by unfold zck;rw[if_pos h]
theorem zha {o:ByteArray} {x:Setg} (h:o≠noT):o ++ ⟨#[32]⟩ ++ x.1 ++ ⟨#[61]⟩ ++ x.2=zck o x:=by unfold zck;rw[if_neg h]
theorem zf2 (o:ByteArray):o.size=0↔o=noT:=⟨fun h=>Txt.ext (List.eq_nil_of_length_eq_zero (by rw[Txt.len];exact h)),fun h=>by rw[h];rfl⟩
theorem zoq {w:World} {v1 v2:Value} {nm:ByteArray} {L:List BSp} {sets:List Setg} {l:List Tp} (h1:RSps w [v1] L) (h2:ze3 w [v2] sets) (hS:Sp (nm,L,sets) l) :
  Calls Tryz.prog 35 #[.agg #[.string nm,v1,v2]] w fun e w'=>e = .returned (.string (zd7 (nm,L,sets)))∧Below w.heap.size w w':=by
 have hLt:L=tB l:=hS.sp
 obtain⟨a1,c1,rfl,-,hat1⟩:=zbz h1
 obtain⟨a2,c2,rfl,hz2,hat⟩:=zbs h2
 obtain⟨n1,hn1⟩ : ∃ n,n=L.length:=⟨_,rfl⟩
 obtain⟨n2,hn2⟩ : ∃ n,n=sets.length:=⟨_,rfl⟩
 rw[← hn1] at h1 ⊢
 rw[← hn2] at h2 hz2 ⊢
 obtain⟨W1,hW1⟩ : ∃ W,W=w.alloc (.cells #[.string nm,.slice a1 n1 c1,.slice a2 n2 c2] 51):=⟨_,rfl⟩
 obtain⟨g,hg⟩ : ∃ g,g=w.heap.size:=⟨_,rfl⟩
 have hb1:Below w.heap.size w W1:=by rw[hW1];exact za2 _ _
 have p0:zao g (.string nm) (.slice a1 n1 c1) (.slice a2 n2 c2) W1:=by rw[hW1,hg];exact heap_alloc_new _ _
 obtain⟨x0,x1,x2,-⟩:=zab p0
 have r1:=za5 zaw _ _ _ _ h1 hb1
 have hF:=zk9 (l:=l) (by rw[← hLt];exact r1) (by have:=hS.l1;omega)
 unfold zfo at hF
 have hfirst:=hS.first
 have hst:zba (nm,L,sets)=if L=allV then nm else nm ++ (⟨#[64]⟩ ++ spT L):=rfl
 have hsp:zd7 (nm,L,sets)=if sets.foldl zck (zba (nm,L,sets))=noT then zl6 else sets.foldl zck (zba (nm,L,sets)):=rfl
 have hsz:∀ x∈sets,x.1.size≤9000∧x.2.size≤9000:=hS.sz
 have hsl:sets.length≤1000:=hS.sl
 have hnm:nm.size≤9000:=hS.nm
 have htz:=zms l hS.l1
 rw[← hLt] at htz
 obtain⟨fi,hfi⟩ : ∃ f,f=zba (nm,L,sets):=⟨_,rfl⟩
 obtain⟨R,hR⟩ : ∃ R,R=zd7 (nm,L,sets):=⟨_,rfl⟩
 rw[← hfi] at hst hsp hfirst
 rw[← hR] at hsp ⊢
 obtain⟨al,hal⟩ : ∃ b,b=decide (L=allV):=⟨_,rfl⟩
 have hfs:=zkr hsz
 obtain⟨H1,H2,Hb1,Hp0,Hr1,HF,Hst,Hsp,Hsz,Hfi,HR,Hal,Hn1,Hn2,Hat,HS⟩:=hd16 h1 h2 hb1 p0 r1 hF hst hsp hsz hfi hR hal hn1 hn2 hat hS;obtain⟨HLt,Hfs⟩:=hd2 hLt hfs;clear h1 h2 hb1 p0 r1 hF hst hsp hsz hfi hR hal hn1 hn2 hat hS hLt hfs
 go_enter Tryz.func35,Tryz.ntmps35
 go_upto_region 1 with (fail)
 rw[← hW1,← hg]
 clear hW1 hg
 go_upto_region 2 with (fail)
 go_cut [28] (fun v W=>v = .bool (!al)∧W=W1)
 case first =>
  by_cases hk:n1=1
  ·subst hk
   obtain⟨x,hx⟩ : ∃ x,L = [x]:=List.length_eq_one_iff.1 Hn1.out.symm
   obtain⟨b,off,rfl,d0,d1,-,-⟩:=hat1 0 x (by rw[hx];rfl)
   rw[Nat.zero_mul,Nat.add_zero] at d0 d1
   have d0:=cell_later Hb1.out d0
   have d1:=cell_later Hb1.out d1
   have hal2:al=(decide (x.1.size=0) && decide (x.2.size=0)):=by
    rw[Hal.out,hx,Bool.eq_iff_iff]
    simp only[decide_eq_true_eq,Bool.and_eq_true,zf2]
    simp[allV,Prod.ext_iff,noT]
   have e1:=Txt.no_dec x.1
   have e2:=Txt.no_dec x.2
   obtain⟨s,hs⟩ : ∃ s,s=x.1:=⟨_,rfl⟩
   obtain⟨t,ht⟩ : ∃ s,s=x.2:=⟨_,rfl⟩
   rw[← hs] at d0 e1 hal2
   rw[← ht] at d1 e2 hal2
   obtain⟨q1,hq1⟩ : ∃ b,b=decide (s.size=0):=⟨_,rfl⟩
   obtain⟨q2,hq2⟩ : ∃ b,b=decide (t.size=0):=⟨_,rfl⟩
   rw[← hq1] at e1 hal2
   rw[← hq2] at e2 hal2
   clear hat1
   obtain⟨Hx,Hs,Ht,Hal2,Hq1,Hq2⟩:=hd6 hx hs ht hal2 hq1 hq2;clear hx hs ht hal2 hq1 hq2
   cases q1 with
   | false =>
    go_wp2_with fail
    go_meet
    exact⟨by rw[Hal2.out];rfl,rfl⟩
   | true =>
    cases q2 with
    | false =>
     go_wp2_with fail
     go_meet
     exact⟨by rw[Hal2.out];rfl,rfl⟩
    | true =>
     go_wp2_with fail
     go_meet
     exact⟨by rw[Hal2.out];rfl,rfl⟩
  have k1:((n1:Int) != 1)=true:=by simp;omega
  have hf:al=false:=by
   rw[Hal.out,decide_eq_false_iff_not]
   intro e
   have:=Hn1.out
   rw[e] at this
   exact hk this
  clear hat1
  have Hf:=hd hf;clear hf
  go_wp2_with fail
  go_meet
  exact⟨by rw[Hf.out];rfl,rfl⟩
 case rest =>
  obtain⟨rfl,rfl⟩:=hcut
  clear hat1
  cases al with
  | true =>
   have hfn:fi=nm:=by rw[Hst.out,if_pos (of_decide_eq_true Hal.out.symm)]
   have HFI:=Lib.hid hfn
   clear hfn
   have Hbk:=Hb1
   have Hpk:=Hp0
   go_wp2_with fail
   go_loopw [3,45] (fun v i wr=>∃ k:Nat,k≤n2∧i = .int .i64 k∧v = .string ((sets.take k).foldl zck fi)∧Below w.heap.size w wr∧zao g (.string nm) (.slice a1 n1 c1) (.slice a2 n2 c2) wr) (fun _ i _=>n2 - (RowKit.intOf i).toNat)
   case atStart=>exact⟨0,Nat.zero_le _,rfl,by rw[HFI.out];rfl,Hbk.out,Hpk.out⟩
   case round =>
    obtain⟨k,hk,rfl,rfl,hbr,hpr⟩:=hrel
    have hoz:=Hfs.out k fi (by have:=Hn2.out;omega)
    clear x0 x1 x2
    obtain⟨x0,x1,x2,-⟩:=zab hpr
    obtain⟨o,ho⟩ : ∃ o,o=(sets.take k).foldl zck fi:=⟨_,rfl⟩
    rw[← ho] at hoz ⊢
    have hnd:=Txt.no_dec o
    by_cases hlt:k < n2
    ·have hkl:k < sets.length:=by have:=Hn2.out;omega
     obtain⟨x,hx⟩ : ∃ x,x=sets[k]:=⟨_,rfl⟩
     obtain⟨b,off,rfl,d0,d1,-,-⟩:=Hat.out k x (by rw[hx];exact List.getElem?_eq_getElem hkl)
     have e0:=cell_later hbr d0
     have e1:=cell_later hbr d1
     have hnext:=zhz hkl fi
     rw[← ho,← hx] at hnext
     have hxz:=Hsz.out x (by rw[hx];exact List.getElem_mem hkl)
     obtain⟨s,hs⟩ : ∃ s,s=x.1:=⟨_,rfl⟩
     obtain⟨t,ht⟩ : ∃ s,s=x.2:=⟨_,rfl⟩
     rw[← hs,← ht] at hxz
     obtain⟨hss,htt⟩:=hxz
     rw[← hs] at e0
     rw[← ht] at e1
     have k5:(0:Int)≤(k:Int):=by omega
     have k6:(k:Int) < (n2:Int):=by omega
     clear d0 d1
     by_cases hz:o=noT
     ·have k7:o.toList.isEmpty=true:=by rw[hnd];exact decide_eq_true ((zf2 o).2 hz)
      have hadd:=zii (x:=x) hz
      rw[← hnext,← hs,← ht] at hadd
      clear hnd
      obtain⟨Hbr,Hpr,Ho,Hx,Hs,Ht,Hnext,Hz,Hadd⟩:=hd9 hbr hpr ho hx hs ht hnext hz hadd;clear hbr hpr ho hx hs ht hnext hz hadd
      go_wp2_with fail
      go_region
      go_wp2_with fail
      go_roundw
      case rel=>exact⟨k+1,by omega,by go_num,by rw[← Hadd.out],Below.drew Hbr.out,Hpr.out⟩
      case measure=>(simp[RowKit.intOf]) <;> omega
     have k7:o.toList.isEmpty=false:=by rw[hnd];exact decide_eq_false (fun h=>hz ((zf2 o).1 h))
     have hadd:=zha (x:=x) hz
     rw[← hnext,← hs,← ht] at hadd
     clear hnd
     obtain⟨Hbr,Hpr,Ho,Hx,Hs,Ht,Hnext,Hz,Hadd⟩:=hd9 hbr hpr ho hx hs ht hnext hz hadd;clear hbr hpr ho hx hs ht hnext hz hadd
     go_wp2_with fail
     go_region
     go_wp2_with fail
     go_roundw
     case rel=>exact⟨k+1,by omega,by go_num,by rw[← Hadd.out],Below.drew Hbr.out,Hpr.out⟩
     case measure=>(simp[RowKit.intOf]) <;> omega
    obtain rfl:k=n2:=by omega
    have htk:sets.take k=sets:=List.take_of_length_le (Nat.le_of_eq Hn2.out.symm)
    have hsp2:=Hsp.out
    rw[htk] at ho
    rw[← ho] at hsp2
    by_cases hz:o=noT
    ·have k7:o.toList.isEmpty=true:=by rw[hnd];exact decide_eq_true ((zf2 o).2 hz)
     rw[if_pos hz] at hsp2
     clear hnd
     obtain⟨Hbr,Hpr,Ho,Hz,Hsp2,Htk⟩:=hd6 hbr hpr ho hz hsp2 htk;clear hbr hpr ho hz hsp2 htk
     go_wp2_with fail
     go_ret
     exact⟨by rw[Hsp2.out];rfl,Hbr.out⟩
    have k7:o.toList.isEmpty=false:=by rw[hnd];exact decide_eq_false (fun h=>hz ((zf2 o).1 h))
    rw[if_neg hz] at hsp2
    clear hnd
    obtain⟨Hbr,Hpr,Ho,Hz,Hsp2,Htk⟩:=hd6 hbr hpr ho hz hsp2 htk;clear hbr hpr ho hz hsp2 htk
    go_wp2_with fail
    go_ret
    exact⟨by rw[Hsp2.out];rfl,Hbr.out⟩
  | false =>
   have hfn:fi=nm ++ (⟨#[64]⟩ ++ spT L):=by rw[Hst.out,if_neg (of_decide_eq_false Hal.out.symm)]
   obtain⟨f,hf⟩ : ∃ b,b=zbm l:=⟨_,rfl⟩
   obtain⟨q,hq⟩ : ∃ q,q=(zch l).length:=⟨_,rfl⟩
   have hF:=HF.out
   rw[← hf,← hq] at hF
   cases f with
   | false =>
    have hfn2:fi=nm ++ ⟨#[64]⟩:=by rw[hfn,HLt.out,tx_no hf.symm];exact congrArg (nm ++ ·) (Txt.ext (by rw[Go.Joins.data_append];simp[noT]))
    have HFI:=Lib.hid hfn2
    clear hfn2
    obtain⟨HF,Hf,Hq,Hfn⟩:=hd4 hF hf hq hfn;clear hF hf hq hfn
    go_wp2_with fail
    refine HF.out.mono ?_
    rintro e w2 ⟨o,rfl,-,hb2⟩
    have Hbk:=Lib.hid (Hb1.out.trans (hb2.mono Hb1.out.size))
    have hpk:=za0 hb2 Hp0.out
    have Hpk:=Lib.hid hpk
    clear hpk hb2 x0 x1 x2
    obtain⟨x0,x1,x2,-⟩:=zab Hpk.out
    go_wp2_with fail
    go_loopw [3,45] (fun v i wr=>∃ k:Nat,k≤n2∧i = .int .i64 k∧v = .string ((sets.take k).foldl zck fi)∧Below w.heap.size w wr∧zao g (.string nm) (.slice a1 n1 c1) (.slice a2 n2 c2) wr) (fun _ i _=>n2 - (RowKit.intOf i).toNat)
    case atStart=>exact⟨0,Nat.zero_le _,rfl,by rw[HFI.out];rfl,Hbk.out,Hpk.out⟩
    case round =>
     obtain⟨k,hk,rfl,rfl,hbr,hpr⟩:=hrel
     have hoz:=Hfs.out k fi (by have:=Hn2.out;omega)
     clear x0 x1 x2
     obtain⟨x0,x1,x2,-⟩:=zab hpr
     obtain⟨o,ho⟩ : ∃ o,o=(sets.take k).foldl zck fi:=⟨_,rfl⟩
     rw[← ho] at hoz ⊢
     have hnd:=Txt.no_dec o
     by_cases hlt:k < n2
     ·have hkl:k < sets.length:=by have:=Hn2.out;omega
      obtain⟨x,hx⟩ : ∃ x,x=sets[k]:=⟨_,rfl⟩
      obtain⟨b,off,rfl,d0,d1,-,-⟩:=Hat.out k x (by rw[hx];exact List.getElem?_eq_getElem hkl)
      have e0:=cell_later hbr d0
      have e1:=cell_later hbr d1
      have hnext:=zhz hkl fi
      rw[← ho,← hx] at hnext
      have hxz:=Hsz.out x (by rw[hx];exact List.getElem_mem hkl)
      obtain⟨s,hs⟩ : ∃ s,s=x.1:=⟨_,rfl⟩
      obtain⟨t,ht⟩ : ∃ s,s=x.2:=⟨_,rfl⟩
      rw[← hs,← ht] at hxz
      obtain⟨hss,htt⟩:=hxz
      rw[← hs] at e0
      rw[← ht] at e1
      have k5:(0:Int)≤(k:Int):=by omega
      have k6:(k:Int) < (n2:Int):=by omega
      clear d0 d1
      by_cases hz:o=noT
      ·have k7:o.toList.isEmpty=true:=by rw[hnd];exact decide_eq_true ((zf2 o).2 hz)
       have hadd:=zii (x:=x) hz
       rw[← hnext,← hs,← ht] at hadd
       clear hnd
       obtain⟨Hbr,Hpr,Ho,Hx,Hs,Ht,Hnext,Hz,Hadd⟩:=hd9 hbr hpr ho hx hs ht hnext hz hadd;clear hbr hpr ho hx hs ht hnext hz hadd
       go_wp2_with fail
       go_region
       go_wp2_with fail
       go_roundw
       case rel=>exact⟨k+1,by omega,by go_num,by rw[← Hadd.out],Below.drew Hbr.out,Hpr.out⟩
       case measure=>(simp[RowKit.intOf]) <;> omega
      have k7:o.toList.isEmpty=false:=by rw[hnd];exact decide_eq_false (fun h=>hz ((zf2 o).1 h))
      have hadd:=zha (x:=x) hz
      rw[← hnext,← hs,← ht] at hadd
      clear hnd
      obtain⟨Hbr,Hpr,Ho,Hx,Hs,Ht,Hnext,Hz,Hadd⟩:=hd9 hbr hpr ho hx hs ht hnext hz hadd;clear hbr hpr ho hx hs ht hnext hz hadd
      go_wp2_with fail
      go_region
      go_wp2_with fail
      go_roundw
      case rel=>exact⟨k+1,by omega,by go_num,by rw[← Hadd.out],Below.drew Hbr.out,Hpr.out⟩
      case measure=>(simp[RowKit.intOf]) <;> omega
     obtain rfl:k=n2:=by omega
     have htk:sets.take k=sets:=List.take_of_length_le (Nat.le_of_eq Hn2.out.symm)
     have hsp2:=Hsp.out
     rw[htk] at ho
     rw[← ho] at hsp2
     by_cases hz:o=noT
     ·have k7:o.toList.isEmpty=true:=by rw[hnd];exact decide_eq_true ((zf2 o).2 hz)
      rw[if_pos hz] at hsp2
      clear hnd
      obtain⟨Hbr,Hpr,Ho,Hz,Hsp2,Htk⟩:=hd6 hbr hpr ho hz hsp2 htk;clear hbr hpr ho hz hsp2 htk
      go_wp2_with fail
      go_ret
      exact⟨by rw[Hsp2.out];rfl,Hbr.out⟩
     have k7:o.toList.isEmpty=false:=by rw[hnd];exact decide_eq_false (fun h=>hz ((zf2 o).1 h))
     rw[if_neg hz] at hsp2
     clear hnd
     obtain⟨Hbr,Hpr,Ho,Hz,Hsp2,Htk⟩:=hd6 hbr hpr ho hz hsp2 htk;clear hbr hpr ho hz hsp2 htk
     go_wp2_with fail
     go_ret
     exact⟨by rw[Hsp2.out];rfl,Hbr.out⟩
   | true =>
    obtain⟨HF,Hf,Hq,Hfn⟩:=hd4 hF hf hq hfn;clear hF hf hq hfn
    go_wp2_with fail
    refine HF.out.mono ?_
    rintro e w2 ⟨o,rfl,ho,hb2⟩
    have hf:=Hf.out
    have hq:=Hq.out
    have hfn:=Hfn.out
    have ho:=ho trivial
    have hrdF:RSps w2 [o] (zch l):=zdw (fun x hx=>by have:=zdp l x hx;unfold maxLen;omega) (by rw[← hq];exact ho)
    have hfo:zbm l=true:=hf.symm
    have hT:=zio hrdF (zdp l) (zfa.2 (zjj (zec.1 hfo).1).1.1) (by have:=(zec.1 hfo).2;omega)
    rw[tx_spT hfo,← HLt.out] at hT
    obtain⟨oa,oc,rfl⟩:=zah ho
    obtain⟨tx,htx⟩ : ∃ t,t=spT L:=⟨_,rfl⟩
    rw[← htx] at hT htz hfn
    have hbw2:=Hb1.out.trans (hb2.mono Hb1.out.size)
    have hp2:=za0 hb2 Hp0.out
    clear x0 x1 x2
    obtain⟨x0,x1,x2,-⟩:=zab hp2
    have hass:fi=nm ++ ⟨#[64]⟩ ++ tx:=by rw[hfn,ByteArray.append_assoc]
    have HFI:=Lib.hid hass
    clear hass
    obtain⟨Ho,HrdF,Hfo,HT,Hfn,Htx,Hf,Hq,Hb2,Hbw2,Hp2⟩:=hd11 ho hrdF hfo hT hfn htx hf hq hb2 hbw2 hp2;clear ho hrdF hfo hT hfn htx hf hq hb2 hbw2 hp2
    go_wp2_with fail
    refine HT.out.mono ?_
    rintro e w3 ⟨rfl,hb3⟩
    have Hbk:=Lib.hid (Hbw2.out.trans (hb3.mono Hbw2.out.size))
    have hpk:=za0 hb3 Hp2.out
    have Hpk:=Lib.hid hpk
    clear hpk hb3 x0 x1 x2
    obtain⟨x0,x1,x2,-⟩:=zab Hpk.out
    go_wp2_with fail
    go_loopw [3,45] (fun v i wr=>∃ k:Nat,k≤n2∧i = .int .i64 k∧v = .string ((sets.take k).foldl zck fi)∧Below w.heap.size w wr∧zao g (.string nm) (.slice a1 n1 c1) (.slice a2 n2 c2) wr) (fun _ i _=>n2 - (RowKit.intOf i).toNat)
    case atStart=>exact⟨0,Nat.zero_le _,rfl,by rw[HFI.out];rfl,Hbk.out,Hpk.out⟩
    case round =>
     obtain⟨k,hk,rfl,rfl,hbr,hpr⟩:=hrel
     have hoz:=Hfs.out k fi (by have:=Hn2.out;omega)
     clear x0 x1 x2
     obtain⟨x0,x1,x2,-⟩:=zab hpr
     obtain⟨o,ho⟩ : ∃ o,o=(sets.take k).foldl zck fi:=⟨_,rfl⟩
     rw[← ho] at hoz ⊢
     have hnd:=Txt.no_dec o
     by_cases hlt:k < n2
     ·have hkl:k < sets.length:=by have:=Hn2.out;omega
      obtain⟨x,hx⟩ : ∃ x,x=sets[k]:=⟨_,rfl⟩
      obtain⟨b,off,rfl,d0,d1,-,-⟩:=Hat.out k x (by rw[hx];exact List.getElem?_eq_getElem hkl)
      have e0:=cell_later hbr d0
      have e1:=cell_later hbr d1
      have hnext:=zhz hkl fi
      rw[← ho,← hx] at hnext
      have hxz:=Hsz.out x (by rw[hx];exact List.getElem_mem hkl)
      obtain⟨s,hs⟩ : ∃ s,s=x.1:=⟨_,rfl⟩
      obtain⟨t,ht⟩ : ∃ s,s=x.2:=⟨_,rfl⟩
      rw[← hs,← ht] at hxz
      obtain⟨hss,htt⟩:=hxz
      rw[← hs] at e0
      rw[← ht] at e1
      have k5:(0:Int)≤(k:Int):=by omega
      have k6:(k:Int) < (n2:Int):=by omega
      clear d0 d1
      by_cases hz:o=noT
      ·have k7:o.toList.isEmpty=true:=by rw[hnd];exact decide_eq_true ((zf2 o).2 hz)
       have hadd:=zii (x:=x) hz
       rw[← hnext,← hs,← ht] at hadd
       clear hnd
       obtain⟨Hbr,Hpr,Ho,Hx,Hs,Ht,Hnext,Hz,Hadd⟩:=hd9 hbr hpr ho hx hs ht hnext hz hadd;clear hbr hpr ho hx hs ht hnext hz hadd
       go_wp2_with fail
       go_region
       go_wp2_with fail
       go_roundw
       case rel=>exact⟨k+1,by omega,by go_num,by rw[← Hadd.out],Below.drew Hbr.out,Hpr.out⟩
       case measure=>(simp[RowKit.intOf]) <;> omega
      have k7:o.toList.isEmpty=false:=by rw[hnd];exact decide_eq_false (fun h=>hz ((zf2 o).1 h))
      have hadd:=zha (x:=x) hz
      rw[← hnext,← hs,← ht] at hadd
      clear hnd
      obtain⟨Hbr,Hpr,Ho,Hx,Hs,Ht,Hnext,Hz,Hadd⟩:=hd9 hbr hpr ho hx hs ht hnext hz hadd;clear hbr hpr ho hx hs ht hnext hz hadd
      go_wp2_with fail
      go_region
      go_wp2_with fail
      go_roundw
      case rel=>exact⟨k+1,by omega,by go_num,by rw[← Hadd.out],Below.drew Hbr.out,Hpr.out⟩
      case measure=>(simp[RowKit.intOf]) <;> omega
     obtain rfl:k=n2:=by omega
     have htk:sets.take k=sets:=List.take_of_length_le (Nat.le_of_eq Hn2.out.symm)
     have hsp2:=Hsp.out
     rw[htk] at ho
     rw[← ho] at hsp2
     by_cases hz:o=noT
     ·have k7:o.toList.isEmpty=true:=by rw[hnd];exact decide_eq_true ((zf2 o).2 hz)
      rw[if_pos hz] at hsp2
      clear hnd
      obtain⟨Hbr,Hpr,Ho,Hz,Hsp2,Htk⟩:=hd6 hbr hpr ho hz hsp2 htk;clear hbr hpr ho hz hsp2 htk
      go_wp2_with fail
      go_ret
      exact⟨by rw[Hsp2.out];rfl,Hbr.out⟩
     have k7:o.toList.isEmpty=false:=by rw[hnd];exact decide_eq_false (fun h=>hz ((zf2 o).1 h))
     rw[if_neg hz] at hsp2
     clear hnd
     obtain⟨Hbr,Hpr,Ho,Hz,Hsp2,Htk⟩:=hd6 hbr hpr ho hz hsp2 htk;clear hbr hpr ho hz hsp2 htk
     go_wp2_with fail
     go_ret
     exact⟨by rw[Hsp2.out];rfl,Hbr.out⟩
end

section
open Go.Shelf Go.RowKit Go.Lib VerN VarM
open LexM (Wd Ln zfs)
attribute [local go_sem ↓] Go.wp_at_zero Go.wp_at_succ
end

section
open Go.RowKit Go.Shelf Go.Lib VerN
def znu (F:List BSp):Prop:=F.length≤30∧∀ z∈F,z.1.size≤100∧z.2.size≤100
theorem zmy {w:World} {v:Value} {F:List BSp} (h:RSps w [v] F):Calls Tryz.prog 20 #[v] w fun e w'=>(∃ r,e = .returned (.bool r)∧(r=false→znu F))∧w=w':=by
 obtain⟨a,cap,hv,hlen,hop⟩:=zbz h
 have hat:=zhi (by rw[← hv];exact h)
 subst hv
 obtain⟨q,hq⟩ : ∃ q,q=F.length:=⟨_,rfl⟩
 have hsz:=sps_size h
 rw[← hq] at h hlen ⊢
 by_cases h30:30 < q
 ·have kk:decide ((30:Int) < (q:Int))=true:=decide_eq_true (by omega)
  obtain⟨Hh,Hq,Hat,Hop,Hsz⟩:=hd5 h hq hat hop hsz;clear h hq hat hop hsz
  go_enter Tryz.func20,Tryz.ntmps20
  go_wp2_with fail
  go_ret
  exact⟨⟨_,rfl,fun h=>by cases h⟩,rfl⟩
 have kk:decide ((30:Int) < (q:Int))=false:=decide_eq_false (by omega)
 obtain⟨Hh,Hq,Hat,Hop,Hsz⟩:=hd5 h hq hat hop hsz;clear h hq hat hop hsz
 go_enter Tryz.func20,Tryz.ntmps20
 go_wp2_with fail
 go_loopw [9] (fun i wr=>∃ k:Nat,k≤q∧i = .int .i64 k∧(∀ j (hj:j < F.length),j < k→F[j].1.size≤100∧F[j].2.size≤100)∧wr=w) (fun i _=>q - (RowKit.intOf i).toNat)
 case atStart=>exact⟨0,Nat.zero_le _,rfl,(fun _ _ h=>absurd h (Nat.not_lt_zero _)),rfl⟩
 case round =>
  obtain⟨k,hk,rfl,hno,rfl⟩:=hrel
  by_cases hlt:k < q
  ·have hkF:k < F.length:=by have:=Hq.out;omega
   obtain⟨y,hy⟩ : ∃ y,y=F[k]:=⟨_,rfl⟩
   obtain⟨b,off,rfl,c0,c1⟩:=Hat.out k y (by rw[hy];exact List.getElem?_eq_getElem hkF)
   have hys:=Hsz.out y (by rw[hy];exact List.getElem_mem hkF)
   have hnx:y.1.size≤100→y.2.size≤100→∀ j (hj:j < F.length),j < k+1→F[j].1.size≤100∧F[j].2.size≤100:=fun h h' j hj hjk=>by
    by_cases e:j=k
    ·subst e;rw[← hy];exact⟨h,h'⟩
    exact hno j hj (by omega)
   obtain⟨y1,hy1⟩ : ∃ s,s=y.1:=⟨_,rfl⟩
   obtain⟨y2,hy2⟩ : ∃ s,s=y.2:=⟨_,rfl⟩
   rw[← hy1] at c0 hnx hys
   rw[← hy2] at c1 hnx hys
   unfold maxLen at hys
   have k5:(0:Int)≤(k:Int):=by omega
   have k6:(k:Int) < (q:Int):=by omega
   by_cases h1:100 < y1.size
   ·have e1:decide ((100:Int) < (y1.size:Int))=true:=decide_eq_true (by omega)
    obtain⟨Hno,Hy,Hys,Hnx,Hy1,Hy2⟩:=hd6 hno hy hys hnx hy1 hy2;clear hno hy hys hnx hy1 hy2
    go_wp2_with fail
    go_ret
    exact⟨⟨_,rfl,fun h=>by cases h⟩,rfl⟩
   have e1:decide ((100:Int) < (y1.size:Int))=false:=decide_eq_false (by omega)
   by_cases h2:100 < y2.size
   ·have e2:decide ((100:Int) < (y2.size:Int))=true:=decide_eq_true (by omega)
    obtain⟨Hno,Hy,Hys,Hnx,Hy1,Hy2⟩:=hd6 hno hy hys hnx hy1 hy2;clear hno hy hys hnx hy1 hy2
    go_wp2_with fail
    go_ret
    exact⟨⟨_,rfl,fun h=>by cases h⟩,rfl⟩
   have e2:decide ((100:Int) < (y2.size:Int))=false:=decide_eq_false (by omega)
   have hf:=hnx (by omega) (by omega)
   obtain⟨Hno,Hy,Hys,Hnx,Hy1,Hy2,Hf⟩:=hd7 hno hy hys hnx hy1 hy2 hf;clear hno hy hys hnx hy1 hy2 hf
   go_wp2_with fail
   go_roundw
   case rel=>exact⟨k+1,by omega,by go_num,Hf.out,by first | rfl | trivial⟩
   case measure=>(simp[RowKit.intOf]) <;> omega
  obtain rfl:k=q:=by omega
  have hf:znu F:=⟨by have:=Hq.out;omega,fun z hz=>by
   obtain⟨j,hj,rfl⟩:=List.mem_iff_getElem.1 hz
   exact hno j hj (by have:=Hq.out;omega)⟩
  obtain⟨Hno,Hf⟩:=hd2 hno hf;clear hno hf
  go_wp2_with fail
  go_ret
  exact⟨⟨_,rfl,fun _=>Hf.out⟩,rfl⟩
def zd9 (s:Spc3):Prop:=s.1.size≤100∧s.2.2.length≤20∧znu s.2.1∧∀ x∈s.2.2,x.1.size≤100∧x.2.size≤100
theorem zro {w:World} {nm:ByteArray} {u v:Value} {sp:List BSp} {l:List Setg} (hsp:RSps w [u] sp) (h:ze3 w [v] l):Calls Tryz.prog 73 #[.agg #[.string nm,u,v]] w fun e w'=>(∃ r,e = .returned (.bool r)∧(r=false→zd9 (nm,sp,l)))∧Below w.heap.size w w':=by
 have hb0:Below w.heap.size w (w.alloc (.cells #[.string nm,u,v] 51)):=za2 _ _
 have hG:=zmy (za5 zaw _ _ _ _ hsp hb0)
 obtain⟨W0,hW0⟩ : ∃ W0,W0=w.alloc (.cells #[.string nm,u,v] 51):=⟨_,rfl⟩
 obtain⟨nb,hnb⟩ : ∃ nb,nb=w.heap.size:=⟨_,rfl⟩
 have hbx:W0.heap[nb]? = some (.cells #[.string nm,u,v] 51 (0,0)):=by rw[hW0,hnb];exact heap_alloc_new _ _
 rw[← hW0] at hb0 hG
 obtain⟨ua,uc,rfl,hzu,_⟩:=zbz hsp
 obtain⟨m,hm⟩ : ∃ m,m=sp.length:=⟨_,rfl⟩
 rw[← hm] at hG hbx hW0 hzu
 obtain⟨a,cap,rfl,hz,g⟩:=zbs h
 obtain⟨n,hn⟩ : ∃ n,n=l.length:=⟨_,rfl⟩
 rw[← hn] at hz h hbx hW0
 rw[← hm,← hn]
 have c0:=za4 hbx 0
 have c1:=za4 hbx 1
 have c2:=za4 hbx 2
 simp only[List.getElem?_toArray,List.getElem?_cons_zero,List.getElem?_cons_succ] at c0 c1 c2
 obtain⟨Hh,Hsp,Hg,Hn,Hm,HG,Hb0,Hbx⟩:=hd8 h hsp g hn hm hG hb0 hbx;clear h hsp g hn hm hG hb0 hbx
 go_enter Tryz.func73,Tryz.ntmps73
 go_upto_region 1 with (fail)
 rw[← hW0,← hnb]
 obtain⟨HW0,Hnb⟩:=hd2 hW0 hnb;clear hW0 hnb
 by_cases h1:100 < nm.size
 ·have k1:decide ((100:Int) < (nm.size:Int))=true:=by simp;omega
  go_wp2_with fail
  go_ret
  exact⟨⟨true,rfl,fun h=>by cases h⟩,Hb0.out⟩
 have k1:decide ((100:Int) < (nm.size:Int))=false:=by simp;omega
 by_cases h2:20 < n
 ·have k2:decide ((20:Int) < (n:Int))=true:=by simp;omega
  go_wp2_with fail
  go_ret
  exact⟨⟨true,rfl,fun h=>by cases h⟩,Hb0.out⟩
 have k2:decide ((20:Int) < (n:Int))=false:=by simp;omega
 go_wp2_with fail
 refine HG.out.mono ?_
 rintro e w1 ⟨⟨r,rfl,hsm⟩,rfl⟩
 have Hsm:=hd hsm;clear hsm
 cases r with
 | true =>
  go_wp2_with fail
  go_ret
  exact⟨⟨true,rfl,fun h=>by cases h⟩,Hb0.out⟩
 | false =>
  go_wp2_with fail
  clear k1 k2
  obtain⟨H1,H2⟩:=hd2 h1 h2;clear h1 h2
  go_loopw [22] (fun i wr=>∃ k:Nat,k≤n∧i = .int .i64 k∧(∀ j x,j < k→l[j]? = some x→x.1.size≤100∧x.2.size≤100)∧W0=wr) (fun i _=>n - (intOf i).toNat)
  case atStart=>exact⟨0,Nat.zero_le _,rfl,fun j x h=>by omega,rfl⟩
  case round =>
   obtain⟨k,hk,rfl,hsf,rfl⟩:=hrel
   have Hsf:=hd hsf;clear hsf
   by_cases hlt:k < n
   ·have hkl:k < l.length:=by have:=Hn.out;omega
    obtain⟨b,off,rfl,d0,d1,hs1,hs2⟩:=Hg.out k _ (List.getElem?_eq_getElem hkl)
    obtain⟨x,hx⟩ : ∃ x,x=l[k]:=⟨_,rfl⟩
    rw[← hx] at d0 d1 hs1 hs2
    obtain⟨s,hs⟩ : ∃ s,s=x.1:=⟨_,rfl⟩
    obtain⟨t,ht⟩ : ∃ s,s=x.2:=⟨_,rfl⟩
    rw[← hs] at d0 hs1
    rw[← ht] at d1 hs2
    have e0:=cell_later Hb0.out d0
    have e1:=cell_later Hb0.out d1
    have k5:(0:Int)≤(k:Int):=by omega
    have k6:(k:Int) < (n:Int):=by omega
    have hx':l[k]? = some x:=by rw[hx];exact List.getElem?_eq_getElem hkl
    clear hx hkl d0 d1
    obtain⟨Hx',Hs,Ht⟩:=hd3 hx' hs ht;clear hx' hs ht
    by_cases h100:100 < s.size
    ·have k7:decide ((100:Int) < (s.size:Int))=true:=by simp;omega
     go_wp2_with fail
     go_ret
     exact⟨⟨true,rfl,fun h=>by cases h⟩,Hb0.out⟩
    have k7:decide ((100:Int) < (s.size:Int))=false:=by simp;omega
    by_cases hm20:100 < t.size
    ·have k8:decide ((100:Int) < (t.size:Int))=true:=by simp;omega
     go_wp2_with fail
     go_ret
     exact⟨⟨true,rfl,fun h=>by cases h⟩,Hb0.out⟩
    have k8:decide ((100:Int) < (t.size:Int))=false:=by simp;omega
    go_wp2_with fail
    go_roundw
    case rel =>
     refine⟨k+1,by omega,by go_num,fun j y hj hy=>?_,by first | rfl | trivial⟩
     by_cases e:j=k
     ·subst e
      rw[Hx'.out] at hy
      obtain rfl:=Option.some.inj hy
      rw[← Hs.out,← Ht.out]
      omega
     exact Hsf.out j y (by omega) hy
    case measure=>simp[intOf];omega
   obtain rfl:k=n:=by omega
   go_wp2_with fail
   go_ret
   exact⟨⟨false,rfl,fun _=>⟨by have:=H1.out;show nm.size≤100;omega,by have:=H2.out;have:=Hn.out;show l.length≤20;omega,Hsm.out trivial,fun x hx=>by obtain⟨i,hi,e⟩:=List.getElem_of_mem hx;exact Hsf.out i x (by have:=Hn.out;have hi:i < l.length:=hi;omega) (by rw[← e];exact List.getElem?_eq_getElem hi)⟩⟩,Hb0.out⟩
theorem zrn {w:World} {nm:ByteArray} {u v:Value} {sp:List BSp} {l:List Setg} (hsp:RSps w [u] sp) (h:ze3 w [v] l):Calls Tryz.prog 31 #[.agg #[.string nm,u,v]] w fun e w'=>(∃ r,e = .returned (.bool r)∧(r=false→zd9 (nm,sp,l)))∧Below w.heap.size w w':=by
 obtain⟨W0,hW0⟩ : ∃ W0,W0=w.alloc (.cells #[.string nm,u,v] 51):=⟨_,rfl⟩
 obtain⟨nb,hnb⟩ : ∃ nb,nb=w.heap.size:=⟨_,rfl⟩
 have hb0:Below w.heap.size w W0:=by rw[hW0];exact za2 _ _
 have hG:=zro (nm:=nm) (za5 zaw _ _ _ _ hsp hb0) (za5 zb5 _ _ _ _ h hb0)
 have hbx:W0.heap[nb]? = some (.cells #[.string nm,u,v] 51 (0,0)):=by rw[hW0,hnb];exact heap_alloc_new _ _
 obtain⟨ua,uc,rfl⟩:=zbh hsp
 obtain⟨a,cap,rfl⟩:=zdb h
 obtain⟨n1,hn1⟩ : ∃ n,n=sp.length:=⟨_,rfl⟩
 obtain⟨n2,hn2⟩ : ∃ n,n=l.length:=⟨_,rfl⟩
 rw[← hn1,← hn2] at hG hbx hW0
 rw[← hn1,← hn2]
 have c0:=za4 hbx 0
 have c1:=za4 hbx 1
 have c2:=za4 hbx 2
 simp only[List.getElem?_toArray,List.getElem?_cons_zero,List.getElem?_cons_succ] at c0 c1 c2
 obtain⟨Hh,Hsp,HG,Hb0,Hbx,Hn1,Hn2⟩:=hd7 h hsp hG hb0 hbx hn1 hn2;clear h hsp hG hb0 hbx hn1 hn2
 go_enter Tryz.func31,Tryz.ntmps31
 go_upto_region 1 with (fail)
 rw[← hW0,← hnb]
 clear hW0 hnb
 go_wp2_with fail
 refine HG.out.mono ?_
 rintro e w1 ⟨⟨r,rfl,hr⟩,hb⟩
 obtain⟨Hr,Hb⟩:=hd2 hr hb;clear hr hb
 go_wp2_with fail
 go_ret
 exact⟨⟨r,rfl,Hr.out⟩,Hb0.out.trans (Hb.out.mono Hb0.out.size)⟩
end

section
open Go.Shelf Go.RowKit Go.Lib VerN VarM
open LexM (Wd Ln)
attribute [local go_sem ↓] Go.wp_at_zero Go.wp_at_succ
theorem zmr {s:Spc3} (h:zd9 s):∃ l,Sp s l:=by
 obtain⟨h1,h2,⟨h3,h4⟩,h5⟩:=h
 have hex:∀ L:List BSp,(∀ z∈L,z.1.size≤100∧z.2.size≤100)→∃ l:List Tp,L=tB l∧l.length=L.length:=by
  intro L
  induction L with
  | nil=>intro _;exact⟨[],rfl,rfl⟩
  | cons z L ih =>
   intro h
   obtain⟨l,e1,e2⟩:=ih (fun x hx=>h x (by simp[hx]))
   have hz:=h z (by simp)
   exact⟨⟨z,by omega⟩ :: l,by rw[e1];rfl,by simp[e2]⟩
 obtain⟨l,e1,e2⟩:=hex s.2.1 h4
 exact⟨l,e1,by omega,by omega,by omega,fun x hx=>by have:=h5 x hx;omega⟩
end

section
open Go.Shelf Go.RowKit Go.Lib VerN VarM
attribute [local go_sem ↓] Go.wp_at_zero Go.wp_at_succ
theorem zeb {w:World} {v:Value} {l:List Rt} (h:zdo w [v] l):∃ a cap,v = .slice a l.length cap∧l.length≤9223372036854775807∧∀ i x,l[i]? = some x→∃ b off b1 n1 c1 b2 n2 c2,a=some ⟨b,off,none⟩∧w.cell? ⟨b,off+i * 4,none⟩=some (.string x.1.1)∧w.cell? ⟨b,off+i * 4+1,none⟩=some (.slice b1 n1 c1)∧w.cell? ⟨b,off+i * 4+2,none⟩=some (.slice b2 n2 c2)∧w.cell? ⟨b,off+i * 4+3,none⟩=some (.int .i64 x.2)∧RSps w [.slice b1 n1 c1] x.1.2.1∧ze3 w [.slice b2 n2 c2] x.1.2.2:=by
 obtain⟨a,cap,hv,hcap,hmax,hel⟩:=h
 simp only[List.cons.injEq,and_true] at hv
 unfold maxLen at hmax
 refine⟨a,cap,hv,by omega,fun i x hi=>?_⟩
 obtain⟨b,off,ecs,h1,h2,h3,v1,v2,h4,h5,h6⟩:=hel i x hi
 obtain⟨a1,c1,rfl,-,-⟩:=zbz h5
 obtain⟨a2,c2,rfl,-,-⟩:=zbs h6
 subst h4
 exact⟨b,off,a1,_,c1,a2,_,c2,h1,by simpa using h3 0 _ rfl,by simpa using h3 1 _ rfl,by simpa using h3 2 _ rfl,by simpa using h3 3 _ rfl,h5,h6⟩
def eqRt (ln:Bool) (x y:Rt):Bool:=decide (x.1=y.1) && (!ln || decide (x.2=y.2))
def zhn (ln:Bool) (l m:List Rt):Bool:=decide (l.length=m.length) && (l.zip m).all fun p=>eqRt ln p.1 p.2
theorem zuc {ln:Bool} {l m:List Rt} (h:l.length≠m.length):zhn ln l m=false:=by unfold zhn;rw[decide_eq_false h];rfl
theorem sameRq_no {ln:Bool} {l m:List Rt} {k:Nat} (h1:k < l.length) (h2:k < m.length) (h:eqRt ln l[k] m[k]=false):zhn ln l m=false:=by
 unfold zhn
 rw[Bool.and_eq_false_iff]
 right
 rw[List.all_eq_false]
 exact⟨(l[k],m[k]),by
  rw[List.mem_iff_getElem]
  exact⟨k,by rw[List.length_zip];omega,by rw[List.getElem_zip]⟩,by rw[h];simp⟩
theorem zub {ln:Bool} {l m:List Rt} (hl:l.length=m.length) (h:∀ j (h1:j < l.length) (h2:j < m.length),eqRt ln l[j] m[j]=true):zhn ln l m=true:=by
 unfold zhn
 rw[decide_eq_true hl,Bool.true_and,List.all_eq_true]
 intro p hp
 obtain⟨i,hi,e⟩:=List.getElem_of_mem hp
 rw[List.getElem_zip] at e
 rw[← e]
 exact h i (by rw[List.length_zip] at hi;omega) (by rw[List.length_zip] at hi;omega)
end

section
open Go.RowKit
def zj4 {α:Type} (f:α→α→Bool) (l m:List α):Bool:=decide (l.length=m.length) && (l.zip m).all fun p=>f p.1 p.2
section
variable {α : Type} {f : α → α → Bool} {l m : List α}
theorem eqAll_len (h:l.length≠m.length):zj4 f l m=false:=by unfold zj4;rw[decide_eq_false h];rfl
theorem eqAll_no {k:Nat} (h1:k < l.length) (h2:k < m.length) (h:f l[k] m[k]=false):zj4 f l m=false:=by
 unfold zj4
 rw[Bool.and_eq_false_iff]
 right
 rw[List.all_eq_false]
 refine⟨(l[k],m[k]),?_,by simp[h]⟩
 rw[List.mem_iff_getElem]
 exact⟨k,by rw[List.length_zip];omega,by simp⟩
theorem zpl (hl:l.length=m.length) (h:∀ j (h1:j < l.length) (h2:j < m.length),f l[j] m[j]=true):zj4 f l m=true:=by
 unfold zj4
 rw[decide_eq_true hl,Bool.true_and,List.all_eq_true]
 intro p hp
 obtain⟨j,hj,rfl⟩:=List.getElem_of_mem hp
 rw[List.length_zip] at hj
 rw[List.getElem_zip]
 exact h j (by omega) (by omega)
theorem zpm {β:Type} {g:α→β} (hf:∀ x∈l,∀ y∈m,f x y=true↔g x=g y):zj4 f l m=true↔l.map g=m.map g:=by
 constructor
 ·intro h
  unfold zj4 at h
  rw[Bool.and_eq_true,decide_eq_true_eq,List.all_eq_true] at h
  refine List.ext_getElem (by simpa using h.1) fun j h1 h2=>?_
  rw[List.length_map] at h1 h2
  rw[List.getElem_map,List.getElem_map]
  refine (hf _ (List.getElem_mem h1) _ (List.getElem_mem h2)).1 (h.2 (l[j],m[j]) ?_)
  rw[List.mem_iff_getElem]
  exact⟨j,by rw[List.length_zip];omega,by simp⟩
 intro h
 have hl:l.length=m.length:=by have:=congrArg List.length h;simpa using this
 refine zpl hl fun j h1 h2=>(hf _ (List.getElem_mem h1) _ (List.getElem_mem h2)).2 ?_
 have h3:(l.map g)[j]? = (m.map g)[j]?:=by rw[h]
 rw[List.getElem?_map,List.getElem?_map,List.getElem?_eq_getElem h1,List.getElem?_eq_getElem h2] at h3
 simpa using h3
end
theorem zse {α:Type} {sz:Nat} {R:Rd α} {w:World} {a:Option Addr} {n c:Nat} {l:List α} (h:zcs sz R w [.slice a n c] l):n=l.length∧n≤9223372036854775807∧∀ i x,l[i]? = some x→∃ b off ecs,a=some ⟨b,off,none⟩∧ecs.length=sz∧(∀ j u,ecs[j]? = some u→w.cell? ⟨b,off+i * sz+j,none⟩=some u)∧R w ecs x:=by
 obtain⟨a',cap,hv,hcap,hmax,hel⟩:=h
 simp only[List.cons.injEq,and_true,Value.slice.injEq] at hv
 obtain⟨rfl,hn,_⟩:=hv
 unfold maxLen at hmax
 exact⟨hn,by omega,hel⟩
theorem zcp {α:Type} {sz:Nat} {R:Rd α} {w:World} {v:Value} {l:List α} (h:zcs sz R w [v] l):∃ a c,v = .slice a l.length c:=by
 obtain⟨a,cap,hv,_⟩:=h
 simp only[List.cons.injEq,and_true] at hv
 exact⟨a,cap,hv⟩
end

section
open Go.Shelf Go.RowKit Go.Lib VerN VarM
open LexM (Wd Ln)
attribute [local go_sem ↓] Go.wp_at_zero Go.wp_at_succ
open Classical in
noncomputable def rqR (rs:List Spc3):ByteArray × Bool:=if (∀ s∈rs,zdt zat (zd7 s) s)∧(LexM.docLines (rqTx rs)).e=0 then (⟨(rqTx rs).toArray⟩,true) else (noT,false)
theorem zmw {rs:List Spc3} (h:(∀ s∈rs,zdt zat (zd7 s) s)∧(LexM.docLines (rqTx rs)).e=0):rqR rs=(⟨(rqTx rs).toArray⟩,true):=by unfold rqR;rw[if_pos h]
theorem zso {rs:List Spc3} (h:¬ ((∀ s∈rs,zdt zat (zd7 s) s)∧(LexM.docLines (rqTx rs)).e=0)):rqR rs=(noT,false):=by unfold rqR;rw[if_neg h]
theorem zi7 {s:Spc3} (h:zd9 s):(zd7 s).size≤20369042:=by
 obtain⟨l,hl⟩:=zmr h
 have h1:=hl.first
 have h2:=zkr hl.sz s.2.2.length (zba s) (Nat.le_refl _)
 rw[List.take_length] at h2
 have h3:=h.2.1
 unfold zd7
 split
 ·decide
 omega
theorem zez:∀ rs:List Spc3,(∀ s∈rs,zd9 s)→(rqTx rs).length≤20369048 * rs.length
 | [],_=>Nat.le_refl _
 | s :: rs,h=>by
  have h1:=zez rs (fun x hx=>h x (by simp[hx]))
  have h2:=zi7 (h s (by simp))
  have e:rqTx (s :: rs)=rqTx [s] ++ rqTx rs:=by unfold rqTx txT;rw[List.map_cons,List.flatMap_cons];simp
  have e2:=zho [] s
  rw[List.nil_append,rqTx_nil,List.nil_append] at e2
  rw[e,List.length_append,e2,List.length_append,List.length_append,Txt.len,List.length_cons]
  simp
  omega
abbrev RtBox (k:Nat) (x y z u:Value) (W:World):Prop:=W.heap[k]? = some (.cells #[x,y,z,u] 101 (0,0))
theorem zqr {w:World} {v:Value} {l:List Rt} (h:zdo w [v] l) (hsm:∀ x∈l,zd9 x.1) (hl:l.length≤40) (hD:zbo w) :
  Calls Tryz.prog 46 #[.agg #[v]] w fun e w'=>e = .returned (.tuple #[.string (rqR (l.map (·.1))).1,.bool (rqR (l.map (·.1))).2])∧Below w.heap.size w w':=by
 obtain⟨a,c,rfl,hz,hat⟩:=zeb h
 obtain⟨n,hn⟩ : ∃ n,n=l.length:=⟨_,rfl⟩
 rw[← hn] at h hz hl ⊢
 obtain⟨g,hg⟩ : ∃ g,g=w.heap.size:=⟨_,rfl⟩
 obtain⟨w0,hw0⟩ : ∃ W,W=w.alloc (.cells #[.slice a n c] 38):=⟨_,rfl⟩
 have hs0:w0.heap.size=g+1:=by rw[hw0,hg];simp
 have hb0:Below w.heap.size w w0:=by rw[hw0];exact za2 _ _
 have p0:zik g (.slice a n c) w0:=by rw[hw0,hg];exact heap_alloc_new _ _
 obtain⟨w1,hw1⟩ : ∃ W,W=w0.alloc (.cells #[.pointer none,.slice none 0 0] 144):=⟨_,rfl⟩
 have hbd:Bld (g+1) (g+1) [] w1:=by rw[hw1,← hs0];exact bld_new w0
 have hb1:Below (g+1) w0 w1:=by rw[hw1];exact Below.alloc (by rw[← hs0];exact Below.refl _ _) (by omega) _
 have hnew:w1.heap[g+1]? = some (.cells #[.pointer none,.slice none 0 0] 144 (0,0)):=by rw[hw1,← hs0];exact heap_alloc_new _ _
 have hyes:=zmw (rs:=l.map (·.1))
 have hno:=zso (rs:=l.map (·.1))
 obtain⟨res,hres⟩ : ∃ q,q=rqR (l.map (·.1)):=⟨_,rfl⟩
 rw[← hres] at hyes hno ⊢
 have hgw:w.heap.size≤g+1:=by omega
 obtain⟨x0,-⟩:=zak (za0 (w:=w0) (by rw[← hs0] at hb1;exact hb1) p0)
 obtain⟨Hh,Hsm,HD,Hat,Hn,Hb0,Hp0,Hbd,Hb1,Hyes,Hno,Hres,Hs0,Hnew⟩:=hd14 h hsm hD hat hn hb0 p0 hbd hb1 hyes hno hres hs0 hnew;clear h hsm hD hat hn hb0 p0 hbd hb1 hyes hno hres hs0 hnew
 go_enter Tryz.func46,Tryz.ntmps46
 go_upto_region 1 with (fail)
 rw[← hw0,← hg]
 clear hw0 hg
 go_upto_region 2 with (fail)
 rw[← hw1,Hs0.out]
 clear hw1
 go_wp2_with fail
 go_loopw [15] (fun i wr=>∃ k:Nat,k≤n∧i = .int .i64 k∧(∀ s∈(l.take k).map (·.1),zdt zat (zd7 s) s)∧Bld (g+1) (g+1) (rqTx ((l.take k).map (·.1))) wr∧Below (g+1) w0 wr∧(k=0→wr.heap[g+1]? = some (.cells #[.pointer none,.slice none 0 0] 144 (0,0)))) (fun i _=>n - (RowKit.intOf i).toNat)
 case atStart=>exact⟨0,Nat.zero_le _,rfl,fun s hs=>by simp at hs,Hbd.out,Hb1.out,fun _=>Hnew.out⟩
 case round =>
  obtain⟨k,hk,rfl,hall,hB,hbr,hk0f⟩:=hrel
  have Hk0f:=Lib.hid hk0f
  clear hk0f
  have hbr0:Below w0.heap.size w0 wr:=by rw[Hs0.out];exact hbr
  have hbw:=Hb0.out.trans (hbr0.mono Hb0.out.size)
  by_cases hlt:k < n
  ·have hkl:k < l.length:=by have:=Hn.out;omega
   obtain⟨b,off,b1,n1,c1,b2,n2,c2,rfl,d0,d1,d2,d3,r1,r2⟩:=Hat.out k _ (List.getElem?_eq_getElem hkl)
   have d0:=cell_later hbw d0
   have d1:=cell_later hbw d1
   have d2:=cell_later hbw d2
   have d3:=cell_later hbw d3
   have hss:=Hsm.out _ (List.getElem_mem hkl)
   have htk:(l.take (k+1)).map (·.1)=(l.take k).map (·.1) ++ [l[k].1]:=by rw[List.take_succ_eq_append_getElem hkl,List.map_append];rfl
   obtain⟨x,hx⟩ : ∃ x,x=l[k]:=⟨_,rfl⟩
   have hmem:x.1∈l.map (·.1):=List.mem_map.2 ⟨x,by rw[hx];exact List.getElem_mem hkl,rfl⟩
   rw[← hx] at d0 d3 r1 r2 hss htk
   have hsz:=zi7 hss
   obtain⟨tl,htl⟩:=zmr hss
   obtain⟨wa,hwa⟩ : ∃ W,W=wr.alloc (.cells #[.string x.1.1,.slice b1 n1 c1,.slice b2 n2 c2,.int .i64 x.2] 101):=⟨_,rfl⟩
   obtain⟨ba,hba⟩ : ∃ z,z=wr.heap.size:=⟨_,rfl⟩
   have pa:RtBox ba (.string x.1.1) (.slice b1 n1 c1) (.slice b2 n2 c2) (.int .i64 x.2) wa:=by rw[hwa,hba];exact heap_alloc_new _ _
   have hba1:Below wr.heap.size wr wa:=by rw[hwa];exact za2 _ _
   have hbwa:=hbw.trans (hba1.mono hbw.size)
   have y0:=za4 pa 0
   have y1:=za4 pa 1
   have y2:=za4 pa 2
   simp only[List.getElem?_toArray,List.getElem?_cons_zero,List.getElem?_cons_succ] at y0 y1 y2
   have hBa:=zi3 hB hba1
   have hbra:=hbr.trans (hba1.mono (by have:=hbr.size;have:=Hs0.out;omega))
   have hW:=zn1 (nm:=x.1.1) (za5 zaw _ _ _ _ r1 hbwa) (za5 zb5 _ _ _ _ r2 hbwa) htl (HD.out.below hbwa)
   have ht3:=zho ((l.take k).map (·.1)) x.1
   have hyes1:=zod (R:=zat) (s:=x.1)
   have hno1:=zsc (R:=zat) (s:=x.1)
   have hpre:=zez ((l.take k).map (·.1)) (fun s hs=>by
    obtain⟨y,hy,rfl⟩:=List.mem_map.1 hs
    exact Hsm.out y (List.mem_of_mem_take hy))
   rw[List.length_map,List.length_take,Nat.min_eq_left (by omega)] at hpre
   obtain⟨s,hs⟩ : ∃ s,s=x.1:=⟨_,rfl⟩
   have he3:((s.1,s.2.1,s.2.2):Spc3)=s:=rfl
   simp only[← hs] at hW ht3 hyes1 hno1 hsz hall hmem htk
   have hW:Calls Tryz.prog 34 #[.agg #[.string x.1.1,.slice b1 n1 c1,.slice b2 n2 c2]] wa fun e w'=>e = .returned (.tuple #[.string (zi8 zat s).1,.bool (zi8 zat s).2])∧Below wa.heap.size wa w':=by rw[← hs];exact hW
   obtain⟨nm,hnm⟩ : ∃ z,z=x.1.1:=⟨_,rfl⟩
   obtain⟨q,hq⟩ : ∃ q,q=zi8 zat s:=⟨_,rfl⟩
   obtain⟨t,ht⟩ : ∃ t,t=zd7 s:=⟨_,rfl⟩
   rw[← hq] at hW hyes1 hno1
   rw[← ht] at ht3 hyes1 hno1 hsz
   obtain⟨qt,qb⟩:=q
   dsimp only at hW
   rw[← hnm] at hW d0 y0 hwa
   obtain⟨pre,hpr⟩ : ∃ p,p=rqTx ((l.take k).map (·.1)):=⟨_,rfl⟩
   rw[← hpr] at ht3 hB hBa hpre
   have k5:(0:Int)≤(k:Int):=by omega
   have k6:(k:Int) < (n:Int):=by omega
   have k40:k≤40:=by omega
   clear he3
   obtain⟨Hall,HB,Hbr,Hbr0,Hbw,Hss,Htk,Hx,Hmem,Htl,Hpa,Hba1,Hbwa,HBa,Hbra,HW⟩:=hd16 hall hB hbr hbr0 hbw hss htk hx hmem htl pa hba1 hbwa hBa hbra hW;obtain⟨Ht3,Hyes1,Hno1,Hs,Hnm,Hq,Ht,Hpr,Hr1,Hr2⟩:=hd10 ht3 hyes1 hno1 hs hnm hq ht hpr r1 r2;clear hall hB hbr hbr0 hbw hss htk hx hmem htl pa hba1 hbwa hBa hbra hW ht3 hyes1 hno1 hs hnm hq ht hpr r1 r2
   go_upto_region 5 with (fail)
   rw[← hwa,← hba]
   clear hwa hba d0 d1 d2 d3
   go_wp2_with fail
   refine HW.out.mono ?_
   rintro e w3 ⟨rfl,hb3⟩
   have hB3:=zi3 HBa.out hb3
   have hbr3:=Hbra.out.trans (hb3.mono (by have:=Hbra.out.size;have:=Hs0.out;omega))
   cases qb with
   | false =>
    have hr:res=(noT,false):=Hno.out (fun hh=>by
     have:=Hyes1.out (by rw[Ht.out];exact hh.1 s Hmem.out)
     cases this)
    have hfin:=Hb0.out.trans (hbr3.mono hgw)
    obtain⟨Hb3,HB3,Hbr3,Hr,Hfin⟩:=hd5 hb3 hB3 hbr3 hr hfin;clear hb3 hB3 hbr3 hr hfin
    go_wp2_with fail
    go_ret2
    exact⟨by rw[Hr.out];rfl,Hfin.out⟩
   | true =>
    have hok:zdt zat (zd7 s) s:=by
     apply Classical.byContradiction
     intro hc
     have:=Hno1.out (by rw[Ht.out];exact hc)
     cases this
    have hqt:qt=t:=(Prod.mk.inj (Hyes1.out (by rw[Ht.out];exact hok))).1
    subst hqt
    have hS:=zig hB3 (⟨#[114,111,111,116,32]⟩ ++ qt ++ ⟨#[10]⟩) (by
     rw[zex,zex]
     have e1:(⟨#[114,111,111,116,32]⟩ : ByteArray).size=5:=rfl
     have e2:(⟨#[10]⟩ : ByteArray).size=1:=rfl
     have:20369048 * k≤20369048 * 40:=Nat.mul_le_mul_left _ k40
     omega) (by have:=hbr3.size;have:=Hs0.out;omega)
    obtain⟨Hb3,HB3,Hbr3,Hok,HS⟩:=hd5 hb3 hB3 hbr3 hok hS;clear hb3 hB3 hbr3 hok hS
    go_wp2_with fail
    refine HS.out.mono ?_
    rintro e w4 ⟨rfl,hB4,hb4,-⟩
    have hbr4:=Hbr3.out.trans hb4
    have hB4:Bld (g+1) (g+1) (rqTx ((l.take (k+1)).map (·.1))) w4:=by
     have e:rqTx ((l.take (k+1)).map (·.1))=pre ++ (⟨#[114,111,111,116,32]⟩ ++ qt ++ ⟨#[10]⟩ : ByteArray).data.toList:=by
      rw[Htk.out,Ht3.out,Go.Joins.data_append,Go.Joins.data_append,List.append_assoc]
     rw[e]
     exact hB4
    have hall4:∀ s∈(l.take (k+1)).map (·.1),zdt zat (zd7 s) s:=fun s' hs'=>by
     rw[Htk.out] at hs'
     rcases List.mem_append.1 hs' with h | h
     ·exact Hall.out s' h
     rw[List.mem_singleton] at h
     rw[h]
     exact Hok.out
    obtain⟨Hb4,HB4,Hbr4,Hall4⟩:=hd4 hb4 hB4 hbr4 hall4;clear hb4 hB4 hbr4 hall4
    go_wp2_with fail
    go_roundw
    case rel=>exact⟨k+1,by omega,by go_num,Hall4.out,HB4.out,Hbr4.out,fun h=>by omega⟩
    case measure=>(simp[RowKit.intOf]) <;> omega
  obtain rfl:k=n:=by omega
  have htk:l.take k=l:=List.take_of_length_le (by have:=Hn.out;omega)
  rw[htk] at hall hB
  have hpre:=zez (l.map (·.1)) (fun s hs=>by
   obtain⟨y,hy,rfl⟩:=List.mem_map.1 hs
   exact Hsm.out y hy)
  rw[List.length_map,← Hn.out] at hpre
  obtain⟨T,hT⟩ : ∃ T,T=rqTx (l.map (·.1)):=⟨_,rfl⟩
  rw[← hT] at hB hpre
  have htz:(⟨T.toArray⟩ : ByteArray).size≤814761920:=by
   show T.toArray.size≤_
   rw[List.size_toArray]
   have:20369048 * k≤20369048 * 40:=Nat.mul_le_mul_left _ hl
   omega
  have hL:=fun (W:World)=>zg2 (⟨T.toArray⟩ : ByteArray) (by omega) W
  rw[LexM.lines_eq] at hL
  have he:(⟨T.toArray⟩ : ByteArray).data.toList=T:=rfl
  rw[he] at hL
  unfold zfc at hL
  have hyes2:=fun (h:(LexM.docLines T).e=0)=>Hyes.out ⟨hall,by rw[← hT];exact h⟩
  have hno2:=fun (h:(LexM.docLines T).e≠0)=>Hno.out (fun hh=>h (by rw[hT];exact hh.2))
  rw[← hT] at hyes2
  obtain⟨a1,ha1⟩ : ∃ z,z=(LexM.docLines T).at1:=⟨_,rfl⟩
  obtain⟨a2,ha2⟩ : ∃ z,z=(LexM.docLines T).at2:=⟨_,rfl⟩
  obtain⟨er,her⟩ : ∃ z,z=(LexM.docLines T).e:=⟨_,rfl⟩
  simp only[← ha1,← ha2,← her] at hL
  rw[← her] at hyes2 hno2
  obtain⟨tt,htt⟩ : ∃ t:ByteArray,t=⟨T.toArray⟩:=⟨_,rfl⟩
  rw[← htt] at hL hyes2
  -- the text,as often as it is asked for
  obtain⟨P,hP0,hP1⟩ : ∃ P:World→Prop,P wr∧∀ W,P W→Below (g+1) w0 W→Calls Tryz.prog 95 #[.pointer (some ⟨g+1,0,none⟩)] W fun e w'=>e = .returned (.string tt)∧P w'∧Below (g+1) w0 w'∧∀ W',Below w'.heap.size w' W'→P W':=by
   by_cases hT0:T = []
   ·have hnil:l = []:=by
     cases l with
     | nil=>rfl
     | cons y r =>
      have e2:=zho ([] : List Spc3) y.1
      rw[hT] at hT0
      have e3:rqTx ((y :: r).map (·.1))=rqTx [y.1] ++ rqTx (r.map (·.1)):=by unfold rqTx txT;rw[List.map_cons,List.map_cons,List.flatMap_cons];simp
      rw[List.nil_append] at e2
      rw[e3,e2] at hT0
      simp at hT0
    have hk0:k=0:=by rw[Hn.out,hnil];rfl
    have htt0:tt=⟨#[]⟩:=by rw[htt,hT0]
    refine⟨fun W=>W.heap[g+1]? = some (.cells #[.pointer none,.slice none 0 0] 144 (0,0)),Hk0f.out hk0,fun W hW hbW=>(zq6 W hW).mono ?_⟩
    rintro e w' ⟨rfl,hb⟩
    exact⟨by rw[htt0],za0 hb hW,hbW.trans (hb.mono (by have:=hbW.size;have:=Hs0.out;omega)),fun W' hb'=>za0 hb' (za0 hb hW)⟩
   refine⟨BldF (g+1) (g+1) T,bldF_of hB hT0,fun W hW hbW=>(bld_str hW hT0).mono ?_⟩
   rintro e w' ⟨rfl,hF,hb⟩
   exact⟨by rw[htt],hF,hbW.trans hb,fun W' hb'=>zvo hF hb'⟩
  clear hpre htz
  obtain⟨Hall,HB,Hbr,Hbr0,Hbw,Htk,HT,HL,Hyes2,Hno2,Ha1,Ha2,Her,Htt,HP0,HP1⟩:=hd16 hall hB hbr hbr0 hbw htk hT hL hyes2 hno2 ha1 ha2 her htt hP0 hP1;clear hall hB hbr hbr0 hbw htk hT hL hyes2 hno2 ha1 ha2 her htt hP0 hP1
  go_wp2_with fail
  refine (HP1.out _ HP0.out Hbr.out).mono ?_
  rintro e w5 ⟨rfl,hP5,hb5,hP5'⟩
  have hL5:=HL.out w5
  obtain⟨HP5,Hb5,HP5',HL5⟩:=hd4 hP5 hb5 hP5' hL5;clear hP5 hb5 hP5' hL5
  go_wp2_with fail
  refine HL5.out.mono ?_
  rintro e w6 ⟨v6,rfl,hln,hb6⟩
  obtain⟨ad,cp,rfl,-,-,-⟩:=znf hln
  obtain⟨m,hm⟩ : ∃ m,m=(LexM.docLines T).lines.length:=⟨_,rfl⟩
  obtain⟨w7,hw7⟩ : ∃ W,W=w6.alloc (.cells #[.int .i64 a1,.int .i64 a2] 40):=⟨_,rfl⟩
  have hb67:Below w6.heap.size w6 w7:=by rw[hw7];exact za2 _ _
  have hb57:=hb6.trans (hb67.mono hb6.size)
  have hb07:=Hb5.out.trans (hb57.mono (by have:=Hb5.out.size;have:=Hs0.out;omega))
  have hP7:=HP5'.out _ hb57
  have hfin:=Hb0.out.trans (hb07.mono hgw)
  go_upto_region 11 with (fail)
  rw[← hw7]
  clear hw7
  by_cases he0:er=0
  ·have k1:(er != 0)=false:=by rw[he0];rfl
   have hr:=Hyes2.out he0
   obtain⟨Hln,Hb6,Hb67,Hb57,Hb07,HP7,Hr,Hm,He0,Hfin⟩:=hd10 hln hb6 hb67 hb57 hb07 hP7 hr hm he0 hfin;clear hln hb6 hb67 hb57 hb07 hP7 hr hm he0 hfin
   go_wp2_with fail
   refine (HP1.out _ HP7.out Hb07.out).mono ?_
   rintro e w8 ⟨rfl,-,hb8,-⟩
   have hfin8:=Hb0.out.trans (hb8.mono hgw)
   obtain⟨Hb8,Hfin8⟩:=hd2 hb8 hfin8;clear hb8 hfin8
   go_wp2_with fail
   go_ret2
   exact⟨by rw[Hr.out];rfl,Hfin8.out⟩
  have k1:(er != 0)=true:=by simpa using he0
  have hr:=Hno2.out he0
  obtain⟨Hln,Hb6,Hb67,Hb57,Hb07,HP7,Hr,Hm,He0,Hfin⟩:=hd10 hln hb6 hb67 hb57 hb07 hP7 hr hm he0 hfin;clear hln hb6 hb67 hb57 hb07 hP7 hr hm he0 hfin
  go_wp2_with fail
  go_ret2
  exact⟨by rw[Hr.out];rfl,Hfin.out⟩
end
end Go.Proofs.YteailgjiifdgcaaGreatDoor
