/- Walks and plain facts. Texts merged: SpsG, SpsH, IdxM, IdxSpan, StbSpanK, StbSpanR, StbSpanM, StbSpanN1, StbSpanN2, StbSpanN3, StbSpanI, StbSpanT, SpsI, SpsJ. Condition: none beyond what each says. -/
import Derived.Shelf.SlSortCmp.QuietGrown
import Derived.Deep.LoopGhost
import Derived.BigRegion
import Derived.Laws.EntriesVeiled
import Derived.Test.YteailgjiifdgcaaGreatDoorSpansReadsAll3
set_option linter.unusedVariables false
set_option linter.unusedSimpArgs false
set_option maxRecDepth 10000
set_option maxHeartbeats 4000000
namespace Go.Proofs.YteailgjiifdgcaaGreatDoor
section
open Go.RowKit Go.Lib VerN
def Mrg (w0:World) (x:Nat) (O:List BSp) (w:World):Prop:=∃ v,w.heap[x]? = some (.cells #[v,.func (.func 108) #[] #[],.func (.func 109) #[] #[]] 170 (0,0))∧w.ownsRow w0.heap.size 34 2 v O.length (O.flatMap za9)∧Below w0.heap.size w0 w∧w0.heap.size≤x
theorem own_sp {w:World} {B g n cap:Nat} {O:List BSp} (h:w.ownsRow B 34 2 (.slice (some ⟨g,0,none⟩) n cap) n (O.flatMap za9)) (i:Nat) (hi:i < O.length):w.cell? ⟨g,i * 2,none⟩=some (.string O[i].1)∧w.cell? ⟨g,i * 2+1,none⟩=some (.string O[i].2):=by
 have h0:=h.cells (g:=g) rfl (i * 2+0) (.string O[i].1) (by rw[zeg O i hi 0 (by omega)];rfl)
 have h1:=h.cells (g:=g) rfl (i * 2+1) (.string O[i].2) (by rw[zeg O i hi 1 (by omega)];rfl)
 rw[Addr.add_lit,Nat.zero_add] at h0 h1
 exact⟨h0,h1⟩
theorem zfc {w:World} {B g n cap size:Nat} {e:TypeId} {xs:List Value} (h:w.ownsRow B e size (.slice (some ⟨g,0,none⟩) n cap) n xs) (i:Nat):w.frozen? ⟨g,i,none⟩=false:=by
 rcases h.2 with⟨e0,_⟩ | ⟨g',cap',cur,e0,_,hg,_⟩
 ·cases e0
 injection e0 with e1 _ _
 injection e1 with e1
 injection e1 with e1
 subst e1
 exact zai hg i
theorem zl8 {w:World} {B g n cap:Nat} {O:List BSp} (h:w.ownsRow B 34 2 (.slice (some ⟨g,0,none⟩) n cap) n (O.flatMap za9)) (hn:O.length=n) {i:Nat} (hi:i < n) (x:BSp) :
  ((w.setCell ⟨g,i * 2,none⟩ (.string x.1)).setCell ⟨g,i * 2+1,none⟩ (.string x.2)).ownsRow B 34 2 (.slice (some ⟨g,0,none⟩) n cap) n ((O.set i x).flatMap za9):=by
 have S:=SortR.srw_of_owns zch h hn
 have S2:=S.put zch (i:=i) (by simp;omega) x
 have h2:=SortR.owns_of_srw zch (by decide) h S2 (by simp;omega)
 have e:(O.toArray.setIfInBounds i x).toList=O.set i x:=by simp
 rw[e] at h2
 have h3:=h2.1
 rw[Nat.zero_add] at h3
 exact h3
theorem mrg_end {w0 w8:World} {x g8 c8 n:Nat} {v:Value} {O':List BSp} (hc8:w8.heap[x]? = some (.cells #[v,.func (.func 108) #[] #[],.func (.func 109) #[] #[]] 170 (0,0)))
  (hown8:w8.ownsRow w0.heap.size 34 2 (.slice (some ⟨g8,0,none⟩) n c8) n (O'.flatMap za9)) (hn:O'.length=n) (hb:Below w0.heap.size w0 w8) (hxB:w0.heap.size≤x):Mrg w0 x O' (w8.setCell ⟨x,0,none⟩ (.slice (some ⟨g8,0,none⟩) n c8)):=by
 subst hn
 have f8:Frm (fun k=>k=x) w8 (w8.setCell ⟨x,0,none⟩ (.slice (some ⟨g8,0,none⟩) O'.length c8)):=zcr (Frm.refl _ w8) 0 _
 refine⟨_,heap_setCell_same _ x 0 _ _ _ hc8,f8.owns hown8 (fun k hk e=>zbj hown8 hc8 (by decide) (by rw[hk,e])),hb.trans (f8.below hb.size (fun k hk=>by rw[hk];exact hxB)),hxB⟩
theorem zh6 {w0 w:World} {x:Nat} (h:Mrg w0 x [] w) (s:BSp) (hs:s.1.size≤9000∧s.2.size≤9000) (hD:zbf w0) :
  Calls Tryz.prog 110 #[.pointer (some ⟨x,0,none⟩),.agg #[.string s.1,.string s.2]] w fun e w'=>e = .returned (.tuple #[])∧Mrg w0 x (addB [] s) w':=by
 obtain⟨O,hOO⟩ : ∃ O:List BSp,O = []:=⟨_,rfl⟩
 rw[← hOO] at h
 have hO:∀ z∈O,z.1.size≤9000∧z.2.size≤9000:=by rw[hOO];simp
 have hl:O.length≤100000:=by rw[hOO];simp
 obtain⟨v,hx,hown,hbel,hxB⟩:=h
 obtain⟨s1,s2⟩:=s
 have hs1:s1.size≤9000:=hs.1
 have hs2:s2.size≤9000:=hs.2
 obtain⟨W0,hW0⟩ : ∃ W0,W0=w.alloc (.cells #[.string s1,.string s2] 34):=⟨_,rfl⟩
 obtain⟨nb,hnb⟩ : ∃ nb,nb=w.heap.size:=⟨_,rfl⟩
 have hw:Below w.heap.size w W0:=by rw[hW0];exact za2 _ _
 have hx0:=za1 hw hx
 have hn0:W0.heap[nb]? = some (.cells #[.string s1,.string s2] 34 (0,0)):=by rw[hW0,hnb];exact zac rfl
 have hown0:=za7 hown hw
 have hbel0:=hbel.trans (hw.mono hbel.size)
 obtain⟨m,hm⟩ : ∃ m,m=O.length:=⟨_,rfl⟩
 obtain⟨c0,c1,c2,f0,_,_⟩:=zb6 hx0
 obtain⟨b0,b1,_,_⟩:=za0 hn0
 have hne:=zbj hown0 hx0 (by decide)
 rw[← hm] at hown0 hl
 have hlow:∀ j,v.ownBlock=some j→j < nb:=fun j e=>by rw[hnb];exact (hown.lt j e).2
 clear hx hown hbel
 subst hOO
 obtain⟨a,cap,rfl⟩:=zad hown0
 simp only[List.length_nil] at hm
 subst hm
 obtain⟨Hw,Hx0,Hn0,Hown0,Hbel0,Hne,HD,HO,Hlow⟩:=hd9 hw hx0 hn0 hown0 hbel0 hne hD hO hlow;clear hw hx0 hn0 hown0 hbel0 hne hD hO hlow
 go_enter Tryz.func110,Tryz.ntmps110
 go_upto_region 1 with (fail)
 rw[← hW0,← hnb]
 clear hW0 hnb
 go_upto_region 2 with (fail)
 go_quiet (fail)
 go_upto_region 4 with (fail)
 have hbd:Below W0.heap.size W0 (W0.drewN (nq+1)):=zak (Below.refl _ _) (nq+1)
 have hba:Below W0.heap.size W0 ((W0.drewN (nq+1)).alloc (.cells #[.string s1,.string s2] 34)):=hbd.alloc hbd.size _
 have ca0:=cell_later hba c0
 have hownd:=za7 Hown0.out hbd
 have hxd:=za1 hbd Hx0.out
 have hbeld:=Hbel0.out.trans (hbd.mono Hbel0.out.size)
 have hBd:=hbeld.size
 have bb0:=cell_later hbd b0
 have bb1:=cell_later hbd b1
 have cc0:=cell_later hbd c0
 obtain⟨Hownd,Hxd,Hbeld,Hbd,Hba⟩:=hd5 hownd hxd hbeld hbd hba;clear hownd hxd hbeld hbd hba
 go_region_law (refine zd8 zbl (w:=W0.drewN (nq+1)) rfl (.tmp 53) (.tmp 55) rfl w0.heap.size (.slice a 0 cap) 0 [] rfl Hownd.out 1 (by decide) #[.string s1,.string s2] rfl rfl (by simp[Value.oneCell']) (by omega) (by unfold maxLen;omega) hBd ?_;intro g8 c8 w8 hown8 hg8 hm8;have hc8:=zdh Hxd.out (zf5 hg8) Hne.out;have d0:=zag hc8 0;have e0:=zai hc8 0;simp only[List.getElem?_toArray,List.getElem?_cons_zero] at d0)
 all_goals
  go_end0
  exact⟨rfl,mrg_end (O':=addB [] (s1,s2)) hc8 hown8 rfl (zbs Hbeld.out Hownd.out (Nat.le_refl _) hg8 hBd) hxB⟩
theorem zhx {w0 w:World} {x:Nat} {Q:List BSp} {z1 z2:ByteArray} (h:Mrg w0 x (Q ++ [(z1,z2)]) w) (hO:∀ z∈Q ++ [(z1,z2)],z.1.size≤9000∧z.2.size≤9000) (hl:(Q ++ [(z1,z2)]).length≤100000) (s:BSp) (hs:s.1.size≤9000∧s.2.size≤9000) (hok:zb8 (dS (z1,z2)) (dS s)=false) (hD:zbf w0) :
  Calls Tryz.prog 110 #[.pointer (some ⟨x,0,none⟩),.agg #[.string s.1,.string s.2]] w fun e w'=>e = .returned (.tuple #[])∧Mrg w0 x (Q ++ [(z1,z2)] ++ [s]) w':=by
 obtain⟨v,hx,hown,hbel,hxB⟩:=h
 obtain⟨s1,s2⟩:=s
 have hs1:s1.size≤9000:=hs.1
 have hs2:s2.size≤9000:=hs.2
 obtain⟨W0,hW0⟩ : ∃ W0,W0=w.alloc (.cells #[.string s1,.string s2] 34):=⟨_,rfl⟩
 obtain⟨nb,hnb⟩ : ∃ nb,nb=w.heap.size:=⟨_,rfl⟩
 have hw:Below w.heap.size w W0:=by rw[hW0];exact za2 _ _
 have hx0:=za1 hw hx
 have hn0:W0.heap[nb]? = some (.cells #[.string s1,.string s2] 34 (0,0)):=by rw[hW0,hnb];exact zac rfl
 have hown0:=za7 hown hw
 have hbel0:=hbel.trans (hw.mono hbel.size)
 obtain⟨m,hm⟩ : ∃ m,m=(Q ++ [(z1,z2)]).length:=⟨_,rfl⟩
 obtain⟨c0,c1,c2,f0,_,_⟩:=zb6 hx0
 obtain⟨b0,b1,_,_⟩:=za0 hn0
 have hne:=zbj hown0 hx0 (by decide)
 rw[← hm] at hown0 hl
 have hlow:∀ j,v.ownBlock=some j→j < nb:=fun j e=>by rw[hnb];exact (hown.lt j e).2
 clear hx hown hbel
 obtain⟨k,hk⟩ : ∃ k,k=Q.length:=⟨_,rfl⟩
 have hmk:m=k+1:=by rw[hm,hk];simp
 obtain⟨g,cap,rfl⟩ : ∃ g cap,v = .slice (some ⟨g,0,none⟩) m cap:=by
  rcases hown0.2 with⟨h1,h2⟩ | ⟨g,cap,_,h1,_⟩
  ·omega
  exact⟨_,cap,h1⟩
 have hz0:=own_sp hown0 k (by rw[hk];simp)
 have ez:(Q ++ [(z1,z2)])[k]'(by rw[hk];simp)=(z1,z2):=by simp[hk]
 rw[ez] at hz0
 have hzz:=hO (z1,z2) (by simp)
 have hz1:z1.size≤9000:=hzz.1
 have hz2:z2.size≤9000:=hzz.2
 have hS:∀ W,Below W0.heap.size W0 W→W.cell? ⟨x,0,none⟩=some (.slice (some ⟨g,0,none⟩) m cap)∧W.cell? ⟨x,1,none⟩=some (.func (.func 108) #[] #[])∧W.cell? ⟨x,2,none⟩=some (.func (.func 109) #[] #[])∧W.cell? ⟨nb,0,none⟩=some (.string s1)∧W.cell? ⟨nb,1,none⟩=some (.string s2)∧W.cell? ⟨g,k * 2,none⟩=some (.string z1)∧W.cell? ⟨g,k * 2+1,none⟩=some (.string z2):=fun W hW =>
  ⟨cell_later hW c0,cell_later hW c1,cell_later hW c2,cell_later hW b0,cell_later hW b1,cell_later hW hz0.1,cell_later hW hz0.2⟩
 have hgx:x≠g:=fun e=>hne (by rw[e];rfl)
 have hgn:nb≠g:=fun e=>by have:=hlow g rfl;omega
 have hSt:∀ W,Below W0.heap.size W0 W→∀ p q,((W.setCell ⟨g,k * 2,none⟩ p).setCell ⟨g,k * 2+1,none⟩ q).cell? ⟨x,0,none⟩=some (.slice (some ⟨g,0,none⟩) m cap)∧((W.setCell ⟨g,k * 2,none⟩ p).setCell ⟨g,k * 2+1,none⟩ q).cell? ⟨x,2,none⟩=some (.func (.func 109) #[] #[])∧((W.setCell ⟨g,k * 2,none⟩ p).setCell ⟨g,k * 2+1,none⟩ q).cell? ⟨nb,0,none⟩=some (.string s1)∧((W.setCell ⟨g,k * 2,none⟩ p).setCell ⟨g,k * 2+1,none⟩ q).cell? ⟨nb,1,none⟩=some (.string s2):=fun W hW p q=>by
  have hf:=zcr (zcr (Frm.refl (fun b=>b=g) W) (k * 2) p) (k * 2+1) q
  obtain⟨t0,_,t2,_⟩:=zb6 (zdh (za1 hW hx0) hf hgx)
  obtain⟨u0,u1,_⟩:=za0 (zdh (za1 hW hn0) hf hgn)
  exact⟨t0,t2,u0,u1⟩
 have hFz:∀ W,Below W0.heap.size W0 W→W.frozen? ⟨g,k * 2,none⟩=false∧W.frozen? ⟨g,k * 2+1,none⟩=false:=fun W hW=>⟨zfc (za7 hown0 hW) _,zfc (za7 hown0 hW) _⟩
 have hJ:=fun (W:World) (k:Below W0.heap.size W0 W)=>zi0 z1 z2 s1 s2 (by omega) (by omega) (by omega) (by omega) ((hD.from (Nat.le_refl _) hbel0).below k)
 have hK:=fun (W:World) (k:Below W0.heap.size W0 W)=>zkb z1 z2 s1 s2 (by omega) (by omega) (by omega) (by omega) ((hD.from (Nat.le_refl _) hbel0).below k)
 have hok2:zb8 (z1.data.toList,z2.data.toList) (s1.data.toList,s2.data.toList)=false:=hok
 rw[hok2] at hJ
 have hkl:(k:Int) < (m:Int):=by omega
 have k00:(0:Int)≤(k:Int):=by omega
 have kw:IntKind.i64.wrap ((m:Int) - 1)=(k:Int):=by rw[IntWalk.i64_in _ (by omega)];omega
 have kp:(0:Int) < (m:Int):=by omega
 have kn:0 < m:=by omega
 have kln:k < m:=by omega
 have kt:decide ((0:Int) < (m:Int))=true:=decide_eq_true kp
 clear hok hok2 hz0 ez
 obtain⟨Hw,Hx0,Hn0,Hown0,Hbel0,Hne,HD,HO,Hlow,Hgx,Hgn,HS,HSt,HFz,HJ,HK⟩:=hd16 hw hx0 hn0 hown0 hbel0 hne hD hO hlow hgx hgn hS hSt hFz hJ hK;obtain⟨Hm,Hk,Hzz,Hmk⟩:=hd4 hm hk hzz hmk;clear hw hx0 hn0 hown0 hbel0 hne hD hO hlow hgx hgn hS hSt hFz hJ hK hm hk hzz hmk
 go_enter Tryz.func110,Tryz.ntmps110
 go_upto_region 1 with (fail)
 rw[← hW0,← hnb]
 clear hW0 hnb
 go_upto_region 2 with (fail)
 have mixed:Tryz.prog.follows .mixedOrders=true:=by kernel_rfl
 have hbz:=zak (Below.refl W0.heap.size W0) 1
 have hcz:=HS.out _ hbz
 go_region_held3 (fun w'=>w'.cell? ⟨x,0,none⟩=some (.slice (some ⟨g,0,none⟩) m cap)∧w'.cell? ⟨x,1,none⟩=some (.func (.func 108) #[] #[])∧w'.cell? ⟨x,2,none⟩=some (.func (.func 109) #[] #[])∧w'.cell? ⟨nb,0,none⟩=some (.string s1)∧w'.cell? ⟨nb,1,none⟩=some (.string s2)∧w'.cell? ⟨g,k * 2,none⟩=some (.string z1)∧w'.cell? ⟨g,k * 2+1,none⟩=some (.string z2)) (first | exact hcz | go_keep) (first | (go_at_call 108;refine (HJ.out _ (by exact hbz)).mono ?_;rintro e wz ⟨rfl,hsz⟩;replace hbz:=hbz.trans (hsz.mono hbz.size);replace hcz:=HS.out _ hbz))
 go_upto_region 4 with (fail)
 have hbd:Below W0.heap.size W0 wz.drew:=Below.drew hbz
 have hba:Below W0.heap.size W0 (wz.drew.alloc (.cells #[.string s1,.string s2] 34)):=hbd.alloc hbd.size _
 have hba2:Below W0.heap.size W0 (wz.alloc (.cells #[.string s1,.string s2] 34)):=hbz.alloc hbz.size _
 have ca0:=cell_later hba2 c0
 have hownd:=za7 Hown0.out hbd
 have hxd:=za1 hbd Hx0.out
 have hbeld:=Hbel0.out.trans (hbd.mono Hbel0.out.size)
 have hBd:=hbeld.size
 obtain⟨q0,q1,q2,q3,q4,q5,q6⟩:=HS.out _ hbz
 have hm1:m+1≤100001:=by omega
 clear hcz
 obtain⟨Hownd,Hxd,Hbeld,Hbd,Hba,Hba2⟩:=hd6 hownd hxd hbeld hbd hba hba2;clear hownd hxd hbeld hbd hba hba2
 go_region_law (refine zd8 zbl (w:=wz.drew) rfl (.tmp 53) (.tmp 55) rfl w0.heap.size (.slice (some ⟨g,0,none⟩) m cap) m ((Q ++ [(z1,z2)]).flatMap za9) rfl Hownd.out 1 (by decide) #[.string s1,.string s2] rfl rfl (by simp[Value.oneCell']) (by omega) (by unfold maxLen;omega) hBd ?_;intro g8 c8 w8 hown8 hg8 hm8;have hc8:=zdh Hxd.out (zf5 hg8) Hne.out;have d0:=zag hc8 0;have e0:=zai hc8 0;simp only[List.getElem?_toArray,List.getElem?_cons_zero] at d0)
 all_goals
  go_end0
  exact⟨rfl,mrg_end (O':=Q ++ [(z1,z2)] ++ [(s1,s2)]) hc8 (by rw[List.flatMap_append];exact hown8) (by rw[List.length_append,← Hm.out];rfl) (zbs Hbeld.out Hownd.out (Nat.le_refl _) hg8 hBd) hxB⟩
end

section
open Go.RowKit Go.Lib VerN
theorem mrg_put {w0 W:World} {x g m k cap:Nat} {Q:List BSp} {z j:BSp} (hp:((W.setCell ⟨g,k * 2,none⟩ (.string j.1)).setCell ⟨g,k * 2+1,none⟩ (.string j.2)).ownsRow w0.heap.size 34 2 (.slice (some ⟨g,0,none⟩) m cap) m (((Q ++ [z]).set k j).flatMap za9))
  (hx:W.heap[x]? = some (.cells #[.slice (some ⟨g,0,none⟩) m cap,.func (.func 108) #[] #[],.func (.func 109) #[] #[]] 170 (0,0))) (hgx:x≠g) (hb:Below w0.heap.size w0 W) (hm:m=(Q ++ [z]).length) (hk:k=Q.length) (hown:W.ownsRow w0.heap.size 34 2 (.slice (some ⟨g,0,none⟩) m cap) m ((Q ++ [z]).flatMap za9)) (hxB:w0.heap.size≤x) :
  Mrg w0 x (Q ++ [j]) ((W.setCell ⟨g,k * 2,none⟩ (.string j.1)).setCell ⟨g,k * 2+1,none⟩ (.string j.2)):=by
 have hf:=zcr (zcr (Frm.refl (fun b=>b=g) W) (k * 2) (.string j.1)) (k * 2+1) (.string j.2)
 have e:(Q ++ [z]).set k j=Q ++ [j]:=by rw[hk,List.set_append_right _ _ (Nat.le_refl _)];simp
 rw[e] at hp
 have hl:(Q ++ [j]).length=m:=by rw[hm];simp
 have hg:=(hown.lt g rfl).1
 refine⟨_,zdh hx hf hgx,by rw[hl];exact hp,hb.trans (hf.below hb.size fun k hk=>by rw[hk];exact hg),hxB⟩
theorem zh5 {w0 w:World} {x:Nat} {Q:List BSp} {z1 z2:ByteArray} (h:Mrg w0 x (Q ++ [(z1,z2)]) w) (hO:∀ z∈Q ++ [(z1,z2)],z.1.size≤9000∧z.2.size≤9000) (hl:(Q ++ [(z1,z2)]).length≤100000) (s:BSp) (hs:s.1.size≤9000∧s.2.size≤9000) (hok:zb8 (dS (z1,z2)) (dS s)=true) (hD:zbf w0) :
  Calls Tryz.prog 110 #[.pointer (some ⟨x,0,none⟩),.agg #[.string s.1,.string s.2]] w fun e w'=>e = .returned (.tuple #[])∧Mrg w0 x (Q ++ [jnV z1 z2 s.1 s.2]) w':=by
 obtain⟨v,hx,hown,hbel,hxB⟩:=h
 obtain⟨s1,s2⟩:=s
 have hs1:s1.size≤9000:=hs.1
 have hs2:s2.size≤9000:=hs.2
 obtain⟨W0,hW0⟩ : ∃ W0,W0=w.alloc (.cells #[.string s1,.string s2] 34):=⟨_,rfl⟩
 obtain⟨nb,hnb⟩ : ∃ nb,nb=w.heap.size:=⟨_,rfl⟩
 have hw:Below w.heap.size w W0:=by rw[hW0];exact za2 _ _
 have hx0:=za1 hw hx
 have hn0:W0.heap[nb]? = some (.cells #[.string s1,.string s2] 34 (0,0)):=by rw[hW0,hnb];exact zac rfl
 have hown0:=za7 hown hw
 have hbel0:=hbel.trans (hw.mono hbel.size)
 obtain⟨m,hm⟩ : ∃ m,m=(Q ++ [(z1,z2)]).length:=⟨_,rfl⟩
 obtain⟨c0,c1,c2,f0,_,_⟩:=zb6 hx0
 obtain⟨b0,b1,_,_⟩:=za0 hn0
 have hne:=zbj hown0 hx0 (by decide)
 rw[← hm] at hown0 hl
 have hlow:∀ j,v.ownBlock=some j→j < nb:=fun j e=>by rw[hnb];exact (hown.lt j e).2
 clear hx hown hbel
 obtain⟨k,hk⟩ : ∃ k,k=Q.length:=⟨_,rfl⟩
 have hmk:m=k+1:=by rw[hm,hk];simp
 obtain⟨g,cap,rfl⟩ : ∃ g cap,v = .slice (some ⟨g,0,none⟩) m cap:=by
  rcases hown0.2 with⟨h1,h2⟩ | ⟨g,cap,_,h1,_⟩
  ·omega
  exact⟨_,cap,h1⟩
 have hz0:=own_sp hown0 k (by rw[hk];simp)
 have ez:(Q ++ [(z1,z2)])[k]'(by rw[hk];simp)=(z1,z2):=by simp[hk]
 rw[ez] at hz0
 have hzz:=hO (z1,z2) (by simp)
 have hz1:z1.size≤9000:=hzz.1
 have hz2:z2.size≤9000:=hzz.2
 have hS:∀ W,Below W0.heap.size W0 W→W.cell? ⟨x,0,none⟩=some (.slice (some ⟨g,0,none⟩) m cap)∧W.cell? ⟨x,1,none⟩=some (.func (.func 108) #[] #[])∧W.cell? ⟨x,2,none⟩=some (.func (.func 109) #[] #[])∧W.cell? ⟨nb,0,none⟩=some (.string s1)∧W.cell? ⟨nb,1,none⟩=some (.string s2)∧W.cell? ⟨g,k * 2,none⟩=some (.string z1)∧W.cell? ⟨g,k * 2+1,none⟩=some (.string z2):=fun W hW =>
  ⟨cell_later hW c0,cell_later hW c1,cell_later hW c2,cell_later hW b0,cell_later hW b1,cell_later hW hz0.1,cell_later hW hz0.2⟩
 have hgx:x≠g:=fun e=>hne (by rw[e];rfl)
 have hgn:nb≠g:=fun e=>by have:=hlow g rfl;omega
 have hSt:∀ W,Below W0.heap.size W0 W→∀ p q,((W.setCell ⟨g,k * 2,none⟩ p).setCell ⟨g,k * 2+1,none⟩ q).cell? ⟨x,0,none⟩=some (.slice (some ⟨g,0,none⟩) m cap)∧((W.setCell ⟨g,k * 2,none⟩ p).setCell ⟨g,k * 2+1,none⟩ q).cell? ⟨x,2,none⟩=some (.func (.func 109) #[] #[])∧((W.setCell ⟨g,k * 2,none⟩ p).setCell ⟨g,k * 2+1,none⟩ q).cell? ⟨nb,0,none⟩=some (.string s1)∧((W.setCell ⟨g,k * 2,none⟩ p).setCell ⟨g,k * 2+1,none⟩ q).cell? ⟨nb,1,none⟩=some (.string s2):=fun W hW p q=>by
  have hf:=zcr (zcr (Frm.refl (fun b=>b=g) W) (k * 2) p) (k * 2+1) q
  obtain⟨t0,_,t2,_⟩:=zb6 (zdh (za1 hW hx0) hf hgx)
  obtain⟨u0,u1,_⟩:=za0 (zdh (za1 hW hn0) hf hgn)
  exact⟨t0,t2,u0,u1⟩
 have hFz:∀ W,Below W0.heap.size W0 W→W.frozen? ⟨g,k * 2,none⟩=false∧W.frozen? ⟨g,k * 2+1,none⟩=false:=fun W hW=>⟨zfc (za7 hown0 hW) _,zfc (za7 hown0 hW) _⟩
 have hJ:=fun (W:World) (k:Below W0.heap.size W0 W)=>zi0 z1 z2 s1 s2 (by omega) (by omega) (by omega) (by omega) ((hD.from (Nat.le_refl _) hbel0).below k)
 have hK:=fun (W:World) (k:Below W0.heap.size W0 W)=>zkb z1 z2 s1 s2 (by omega) (by omega) (by omega) (by omega) ((hD.from (Nat.le_refl _) hbel0).below k)
 have hok2:zb8 (z1.data.toList,z2.data.toList) (s1.data.toList,s2.data.toList)=true:=hok
 rw[hok2] at hJ
 have hkl:(k:Int) < (m:Int):=by omega
 have k00:(0:Int)≤(k:Int):=by omega
 have kw:IntKind.i64.wrap ((m:Int) - 1)=(k:Int):=by rw[IntWalk.i64_in _ (by omega)];omega
 have kp:(0:Int) < (m:Int):=by omega
 have kn:0 < m:=by omega
 have kln:k < m:=by omega
 have kt:decide ((0:Int) < (m:Int))=true:=decide_eq_true kp
 clear hok hok2 hz0 ez
 obtain⟨Hw,Hx0,Hn0,Hown0,Hbel0,Hne,HD,HO,Hlow,Hgx,Hgn,HS,HSt,HFz,HJ,HK⟩:=hd16 hw hx0 hn0 hown0 hbel0 hne hD hO hlow hgx hgn hS hSt hFz hJ hK;obtain⟨Hm,Hk,Hzz,Hmk⟩:=hd4 hm hk hzz hmk;clear hw hx0 hn0 hown0 hbel0 hne hD hO hlow hgx hgn hS hSt hFz hJ hK hm hk hzz hmk
 go_enter Tryz.func110,Tryz.ntmps110
 go_upto_region 1 with (fail)
 rw[← hW0,← hnb]
 clear hW0 hnb
 go_upto_region 2 with (fail)
 have mixed:Tryz.prog.follows .mixedOrders=true:=by kernel_rfl
 have hbz:=zak (Below.refl W0.heap.size W0) 1
 have hcz:=HS.out _ hbz
 go_region_held3 (fun w'=>w'.cell? ⟨x,0,none⟩=some (.slice (some ⟨g,0,none⟩) m cap)∧w'.cell? ⟨x,1,none⟩=some (.func (.func 108) #[] #[])∧w'.cell? ⟨x,2,none⟩=some (.func (.func 109) #[] #[])∧w'.cell? ⟨nb,0,none⟩=some (.string s1)∧w'.cell? ⟨nb,1,none⟩=some (.string s2)∧w'.cell? ⟨g,k * 2,none⟩=some (.string z1)∧w'.cell? ⟨g,k * 2+1,none⟩=some (.string z2)) (first | exact hcz | go_keep) (first | (go_at_call 108;refine (HJ.out _ (by exact hbz)).mono ?_;rintro e wz ⟨rfl,hsz⟩;replace hbz:=hbz.trans (hsz.mono hbz.size);replace hcz:=HS.out _ hbz))
 go_upto_region 3 with (fail)
 have hbz0:=hbz
 replace hbz:=Below.drew hbz
 obtain⟨_,_,_,_,_,q5,q6⟩:=HS.out _ hbz0
 obtain⟨_,_,_,_,_,q7,q8⟩:=HS.out _ hbz
 replace hcz:_∧_∧_∧_:=⟨(HS.out _ hbz).1,(HS.out _ hbz).2.2.1,(HS.out _ hbz).2.2.2.1,(HS.out _ hbz).2.2.2.2.1⟩
 refine wp_region_held_drew (S:=fun w'=>w'.cell? ⟨x,0,none⟩=some (.slice (some ⟨g,0,none⟩) m cap)∧w'.cell? ⟨x,2,none⟩=some (.func (.func 109) #[] #[])∧w'.cell? ⟨nb,0,none⟩=some (.string s1)∧w'.cell? ⟨nb,1,none⟩=some (.string s2)) (by kernel_rfl) (by exact hcz) (fun hHeld=>?_)
 refine wpAnyH_take (i:=0) (v:=?_) rfl (by kernel_rfl) (by kernel_rfl) (by kernel_rfl) (fun _ _ _ h=>h) (Or.inl ⟨by kernel_rfl,?_⟩) (by assumption) ?_
 rotate_left
 ·(intro w hSw;(try dsimp only at hSw);go_simp;try with_reducible rfl)
 try simp only[Act.put,lA,lB,lC]
 refine wpAnyH_take (i:=1) (v:=?_) rfl (by kernel_rfl) (by kernel_rfl) (by kernel_rfl) (fun _ _ _ h=>h) (Or.inl ⟨by kernel_rfl,?_⟩) (by assumption) ?_
 rotate_left
 ·(intro w hSw;(try dsimp only at hSw);go_simp;try with_reducible rfl)
 try simp only[Act.put,lA,lB,lC]
 refine wpAnyH_take (i:=2) (v:=?_) rfl (by kernel_rfl) (by kernel_rfl) (by kernel_rfl) (fun _ _ _ h=>h) (Or.inl ⟨by kernel_rfl,?_⟩) (by assumption) ?_
 rotate_left
 ·(intro w hSw;(try dsimp only at hSw);go_simp;try with_reducible rfl)
 try simp only[Act.put,lA,lB,lC]
 refine wpAnyH_take (i:=3) (v:=?_) rfl (by kernel_rfl) (by kernel_rfl) (by kernel_rfl) (fun _ _ _ h=>h) (Or.inl ⟨by kernel_rfl,?_⟩) (by assumption) ?_
 rotate_left
 ·(intro w hSw;(try dsimp only at hSw);go_simp;try with_reducible rfl)
 try simp only[Act.put,lA,lB,lC]
 refine wpAnyH_take (i:=4) (v:=?_) rfl (by kernel_rfl) (by kernel_rfl) (by kernel_rfl) (fun _ _ _ h=>h) (Or.inl ⟨by kernel_rfl,?_⟩) (by assumption) ?_
 rotate_left
 ·(intro w hSw;(try dsimp only at hSw);go_simp;try with_reducible rfl)
 try simp only[Act.put,lA,lB,lC]
 refine wpAnyH_take (i:=5) (v:=?_) rfl (by kernel_rfl) (by kernel_rfl) (by kernel_rfl) (fun _ _ _ h=>h) (Or.inl ⟨by kernel_rfl,?_⟩) (by assumption) ?_
 rotate_left
 ·(intro w hSw;(try dsimp only at hSw);go_simp;try with_reducible rfl)
 try simp only[Act.put,lA,lB,lC]
 refine wpAnyH_take (i:=6) (v:=?_) rfl (by kernel_rfl) (by kernel_rfl) (by kernel_rfl) (fun _ _ _ h=>h) (Or.inl ⟨by kernel_rfl,?_⟩) (by assumption) ?_
 rotate_left
 ·(intro w hSw;(try dsimp only at hSw);go_simp;try with_reducible rfl)
 try simp only[Act.put,lA,lB,lC]
 refine wpAnyH_take (i:=7) (v:=?_) rfl (by kernel_rfl) (by kernel_rfl) (by kernel_rfl) (fun _ _ _ h=>h) (Or.inl ⟨by kernel_rfl,?_⟩) (by assumption) ?_
 rotate_left
 ·(intro w hSw;(try dsimp only at hSw);go_simp;try with_reducible rfl)
 try simp only[Act.put,lA,lB,lC]
 refine wpAnyH_take (i:=8) (v:=?_) rfl (by kernel_rfl) (by kernel_rfl) (by kernel_rfl) (fun _ _ _ h=>h) (Or.inl ⟨by kernel_rfl,?_⟩) (by assumption) ?_
 rotate_left
 ·(intro w hSw;(try dsimp only at hSw);go_simp;try with_reducible rfl)
 try simp only[Act.put,lA,lB,lC]
 refine wpAnyH_take (i:=9) (v:=?_) rfl (by kernel_rfl) (by kernel_rfl) (by kernel_rfl) (fun _ _ _ h=>h) (Or.inl ⟨by kernel_rfl,?_⟩) (by assumption) ?_
 rotate_left
 ·(intro w hSw;(try dsimp only at hSw);go_simp;try with_reducible rfl)
 try simp only[Act.put,lA,lB,lC]
 refine wpAnyH_take (i:=10) (v:=?_) rfl (by kernel_rfl) (by kernel_rfl) (by kernel_rfl) (fun _ _ _ h=>h) (Or.inl ⟨by kernel_rfl,?_⟩) (by assumption) ?_
 rotate_left
 ·(intro w hSw;(try dsimp only at hSw);go_simp;try with_reducible rfl)
 try simp only[Act.put,lA,lB,lC]
 refine wpAnyH_take (i:=11) (v:=?_) rfl (by kernel_rfl) (by kernel_rfl) (by kernel_rfl) (fun _ _ _ h=>h) (Or.inl ⟨by kernel_rfl,?_⟩) (by assumption) ?_
 rotate_left
 ·(intro w hSw;(try dsimp only at hSw);go_simp;try with_reducible rfl)
 try simp only[Act.put,lA,lB,lC]
 refine wpAnyH_take (i:=12) (v:=?_) rfl (by kernel_rfl) (by kernel_rfl) (by kernel_rfl) (fun _ _ _ h=>h) (Or.inl ⟨by kernel_rfl,?_⟩) (by assumption) ?_
 rotate_left
 ·(intro w hSw;(try dsimp only at hSw);go_simp;try with_reducible rfl)
 try simp only[Act.put,lA,lB,lC]
 refine wpAnyH_take (i:=13) (v:=?_) rfl (by kernel_rfl) (by kernel_rfl) (by kernel_rfl) (fun _ _ _ h=>h) (Or.inl ⟨by kernel_rfl,?_⟩) (by assumption) ?_
 rotate_left
 ·(intro w hSw;(try dsimp only at hSw);go_simp;try with_reducible rfl)
 try simp only[Act.put,lA,lB,lC]
 refine wpAnyH_take (i:=14) (v:=?_) rfl (by kernel_rfl) (by kernel_rfl) (by kernel_rfl) (fun _ _ _ h=>h) (Or.inl ⟨by kernel_rfl,?_⟩) (by assumption) ?_
 rotate_left
 ·(intro w hSw;(try dsimp only at hSw);go_simp;try with_reducible rfl)
 try simp only[Act.put,lA,lB,lC]
 refine wpAnyH_take (i:=15) (v:=?_) rfl (by kernel_rfl) (by kernel_rfl) (by kernel_rfl) (fun _ _ _ h=>h) (Or.inl ⟨by kernel_rfl,?_⟩) (by assumption) ?_
 rotate_left
 ·(intro w hSw;(try dsimp only at hSw);go_simp;try with_reducible rfl)
 try simp only[Act.put,lA,lB,lC]
 refine wpAnyH_take (i:=16) (v:=?_) rfl (by kernel_rfl) (by kernel_rfl) (by kernel_rfl) (fun _ _ _ h=>h) (Or.inl ⟨by kernel_rfl,?_⟩) (by assumption) ?_
 rotate_left
 ·(intro w hSw;(try dsimp only at hSw);go_simp;try with_reducible rfl)
 try simp only[Act.put,lA,lB,lC]
 refine wpAnyH_take (i:=18) (v:=?_) rfl (by kernel_rfl) (by kernel_rfl) (by kernel_rfl) (fun _ _ _ h=>h) (Or.inl ⟨by kernel_rfl,?_⟩) (by assumption) ?_
 rotate_left
 ·(intro w hSw;(try dsimp only at hSw);go_simp;try with_reducible rfl)
 try simp only[Act.put,lA,lB,lC]
 refine wpAnyH_ready (rs:=[17]) (by kernel_rfl) (by simp) ?_
 refine AllReadyH.cons rfl (fun K hK=>?_) AllReadyH.nil
 go_simp
 refine hK.out _ _ (by exact hcz) (fun hHeld=>?_)
 clear hK K
 try simp only[Act.put,lA,lB,lC]
 refine wpAnyH_ready (rs:=[19]) (by kernel_rfl) (by simp) ?_
 refine AllReadyH.cons rfl (fun K hK=>?_) AllReadyH.nil
 go_simp
 refine (HK.out _ (by exact hbz)).mono ?_
 rintro e wy ⟨rfl,hsz2⟩
 replace hbz:=hbz.trans (hsz2.mono hbz.size)
 replace hcz:_∧_∧_∧_:=⟨(HS.out _ hbz).1,(HS.out _ hbz).2.2.1,(HS.out _ hbz).2.2.2.1,(HS.out _ hbz).2.2.2.2.1⟩
 have fz0:=(HFz.out _ hbz).1
 have fz1:=(HFz.out _ hbz).2
 have r5:=(HS.out _ hbz).2.2.2.2.2.1
 have r6:=(HS.out _ hbz).2.2.2.2.2.2
 clear hHeld
 go_wp2_with fail
 refine hK.out _ _ (by exact hcz) (fun hHeld=>?_)
 clear hK K
 try simp only[Act.put,lA,lB,lC]
 refine wpAnyH_take (i:=20) (v:=?_) rfl (by kernel_rfl) (by kernel_rfl) (by kernel_rfl) (fun _ _ _ h=>h) (Or.inl ⟨by kernel_rfl,?_⟩) (by assumption) ?_
 rotate_left
 ·(intro w hSw;(try dsimp only at hSw);go_simp;try with_reducible rfl)
 try simp only[Act.put,lA,lB,lC]
 refine wpAnyH_ready (rs:=[21]) (by kernel_rfl) (by simp) ?_
 refine AllReadyH.cons rfl (fun K hK=>?_) AllReadyH.nil
 go_simp
 refine hK.out _ _ (by exact HSt.out _ hbz _ _) (fun hHeld=>?_)
 clear hK K
 try simp only[Act.put,lA,lB,lC]
 refine wpAnyH_done (by kernel_rfl) ?_ _
 go_simp
 go_wp2_with fail
 refine bodyPost_ret (v:=.tuple #[]) (results_none rfl _ _ _) rfl ?_
 have hp:=zl8 (za7 Hown0.out hbz) (by rw[← Hm.out]) (i:=k) kln (jnV z1 z2 s1 s2)
 exact⟨rfl,mrg_put hp (za1 hbz Hx0.out) Hgx.out (Hbel0.out.trans (hbz.mono Hbel0.out.size)) Hm.out Hk.out (za7 Hown0.out hbz) hxB⟩
theorem zh7 {w0 w:World} {x:Nat} {O:List BSp} (h:Mrg w0 x O w) (hO:∀ z∈O,z.1.size≤9000∧z.2.size≤9000) (hl:O.length≤100000) (s:BSp) (hs:s.1.size≤9000∧s.2.size≤9000) (hD:zbf w0) :
  Calls Tryz.prog 110 #[.pointer (some ⟨x,0,none⟩),.agg #[.string s.1,.string s.2]] w fun e w'=>e = .returned (.tuple #[])∧Mrg w0 x (addB O s) w':=by
 rcases List.eq_nil_or_concat O with rfl | ⟨Q,z,rfl⟩
 ·exact zh6 h s hs hD
 rw[List.concat_eq_append] at *
 rw[zes]
 obtain⟨z1,z2⟩:=z
 cases hok:zb8 (dS (z1,z2)) (dS s) with
 | true=>rw[if_pos rfl];exact zh5 h hO hl s hs hok hD
 | false=>rw[if_neg (by simp)];exact zhx h hO hl s hs hok hD
end

section
def zgc {α:Type} (p:α→Bool) (l:List α):Int:=match l.findIdx? p with
 | some i=>i
 | none=>-1
def zgp {α:Type} (p:α→Bool) (l:List α) (k:Nat):Prop:=∀ i (h:i < l.length),i < k→p l[i]=false
theorem zj4 {α:Type} (p:α→Bool) (l:List α):zgp p l 0:=fun _ _ h=>by omega
theorem zj5 {α:Type} {p:α→Bool} {l:List α} {k:Nat} (h:k < l.length) (hn:zgp p l k) (hk:p l[k]=false):zgp p l (k+1):=fun i hi hik=>by
 by_cases e:i=k
 ·subst e;exact hk
 exact hn i hi (by omega)
theorem idxOf_at {α:Type} {p:α→Bool} {l:List α} {k:Nat} (h:k < l.length) (hn:zgp p l k) (hk:p l[k]=true):zgc p l=k:=by
 have:l.findIdx? p=some k:=by
  rw[List.findIdx?_eq_some_iff_getElem]
  exact⟨h,hk,fun j hj=>by simpa using hn j (by omega) hj⟩
 unfold zgc;rw[this]
theorem zll {α:Type} {p:α→Bool} {l:List α} {k:Nat} (h:l.length≤k) (hn:zgp p l k):zgc p l = -1:=by
 have:l.findIdx? p=none:=by
  rw[List.findIdx?_eq_none_iff]
  intro x hx
  obtain⟨i,hi,e⟩:=List.mem_iff_getElem.1 hx
  rw[← e];exact hn i hi (by omega)
 unfold zgc;rw[this]
theorem idxOf_any {α:Type} (p:α→Bool) (l:List α):l.any p=true↔0≤zgc p l:=by
 unfold zgc
 cases h:l.findIdx? p with
 | none =>
  rw[List.findIdx?_eq_none_iff] at h
  simp only[List.any_eq_true]
  constructor
  ·rintro⟨x,hx,hp⟩;rw[h x hx] at hp;cases hp
  intro h2;omega
 | some i =>
  rw[List.findIdx?_eq_some_iff_getElem] at h
  obtain⟨hi,hp,_⟩:=h
  simp only[List.any_eq_true]
  exact⟨fun _=>by omega,fun _=>⟨l[i],List.getElem_mem hi,hp⟩⟩
end

section
open Go.RowKit
namespace IdxSpan
theorem cells_2 {ecs:List Value} (h:ecs.length=2):∃ u0 u1,ecs = [u0,u1]:=by
 match ecs,h with
 | [u0,u1],_=>exact⟨u0,u1,rfl⟩
def Pred {α:Type} (R:Rd α) (p:α→Bool) (g:Nat) (cb:Array Value) (l:List α) (w:World):Prop :=
 ∀ W u0 u1 x,Below w.heap.size w W→x∈l→R W [u0,u1] x→Calls Tryz.prog g (#[.agg #[u0,u1]] ++ cb) W fun e w'=>e = .returned (.bool (p x))∧Below W.heap.size W w'
theorem idx_any {α:Type} {R:Rd α} (hR:zls R) (p:α→Bool) (g:Nat) (cb:Array Value) (eg:∀ args w,(callFunc g args).run Tryz.prog w = .ok (.enter g args) w) {w:World} {v:Value} {l:List α} (hl:zg7 2 R w [v] l) (hp:Pred R p g cb l w) :
  Calls Tryz.prog 123 #[v,.func (.func g) #[] cb] w fun e w'=>e = .returned (.int .i64 (zgc p l))∧Below w.heap.size w w':=by
 obtain⟨a,cap,hv,hcap,hmax,hel⟩:=hl
 simp only[List.cons.injEq,and_true] at hv
 subst hv
 unfold maxLen at hmax
 obtain⟨n,hn⟩ : ∃ n,n=l.length:=⟨_,rfl⟩
 rw[← hn] at hcap ⊢
 have hn63:n≤9223372036854775807:=by omega
 obtain⟨Hn,Hel,Hp⟩:=hd3 hn hel hp;clear hn hel hp
 go_enter Tryz.func123,Tryz.ntmps123
 go_wp2_with fail
 go_loopw [8] (fun i wr=>∃ k:Nat,k≤n∧i = .int .i64 k∧zgp p l k∧Below w.heap.size w wr) (fun i _=>n - (intOf i).toNat)
 case atStart=>exact⟨0,Nat.zero_le _,rfl,zj4 p l,Below.refl _ _⟩
 case round =>
  obtain⟨k,hk,rfl,hno,hb⟩:=hrel
  by_cases hlt:k < n
  ·have hkl:k < l.length:=by have:=Hn.out;omega
   obtain⟨x,hx⟩ : ∃ x,x=l[k]'hkl:=⟨_,rfl⟩
   obtain⟨b,off,ecs,rfl,h4,h5,h6⟩:=Hel.out k x (by rw[hx];exact List.getElem?_eq_getElem hkl)
   obtain⟨u0,u1,rfl⟩ : ∃ u0 u1,ecs = [u0,u1]:=cells_2 h4
   have hxl:x∈l:=by rw[hx];exact List.getElem_mem hkl
   have c0:wr.cell? ⟨b,off+k * 2,none⟩=some u0:=cell_later hb (by simpa using h5 0 u0 rfl)
   have c1:wr.cell? ⟨b,off+k * 2+1,none⟩=some u1:=cell_later hb (by simpa using h5 1 u1 rfl)
   have hcall:=Hp.out wr u0 u1 x hb hxl (hR _ _ _ _ h6 hb)
   have q0:(0:Int)≤(k:Int):=by omega
   have q1:(k:Int) < (n:Int):=by omega
   by_cases hpx:p x=true
   ·rw[hpx] at hcall
    have hi:zgc p l=k:=idxOf_at hkl hno (by rw[← hx];exact hpx)
    obtain⟨Hx,Hno,Hcall,H5,H6,Hpx,Hi,Hb,Hxl⟩:=hd9 hx hno hcall h5 h6 hpx hi hb hxl;clear hx hno hcall h5 h6 hpx hi hb hxl
    clear h4
    go_wp2_with fail
    refine Hcall.out.mono ?_
    rintro e w2 ⟨rfl,hb2⟩
    have hb3:=Hb.out.trans (hb2.mono Hb.out.size)
    obtain⟨Hb2,Hb3⟩:=hd2 hb2 hb3;clear hb2 hb3
    go_wp2_with fail
    go_ret
    exact⟨zd3 Hi.out.symm,Hb3.out⟩
   have hpx':p x=false:=by simpa using hpx
   rw[hpx'] at hcall
   have hno2:=zj5 hkl hno (by rw[← hx];exact hpx')
   obtain⟨Hx,Hno,Hcall,H5,H6,Hpx,Hpx',Hno2,Hb,Hxl⟩:=hd10 hx hno hcall h5 h6 hpx hpx' hno2 hb hxl;clear hx hno hcall h5 h6 hpx hpx' hno2 hb hxl
   clear h4
   go_wp2_with fail
   refine Hcall.out.mono ?_
   rintro e w2 ⟨rfl,hb2⟩
   have hb3:=Hb.out.trans (hb2.mono Hb.out.size)
   obtain⟨Hb2,Hb3⟩:=hd2 hb2 hb3;clear hb2 hb3
   go_wp2_with fail
   go_roundw
   case rel=>exact⟨k+1,by omega,by go_num,Hno2.out,Hb3.out⟩
   case measure=>simp[intOf];omega
  have hi:zgc p l = -1:=zll (by have:=Hn.out;omega) hno
  obtain⟨Hno,Hi,Hb⟩:=hd3 hno hi hb;clear hno hi hb
  go_wp2_with fail
  go_ret
  exact⟨zd3 Hi.out.symm,Hb.out⟩
theorem has_any {α:Type} {R:Rd α} (hR:zls R) (p:α→Bool) (g:Nat) (cb:Array Value) (eg:∀ args w,(callFunc g args).run Tryz.prog w = .ok (.enter g args) w) {w:World} {v:Value} {l:List α} (hl:zg7 2 R w [v] l) (hp:Pred R p g cb l w) :
  Calls Tryz.prog 66 #[v,.func (.func g) #[] cb] w fun e w'=>e = .returned (.bool (l.any p))∧Below w.heap.size w w':=by
 have hI:=idx_any hR p g cb eg hl hp
 have hab:=idxOf_any p l
 obtain⟨i,hi⟩ : ∃ i,i=zgc p l:=⟨_,rfl⟩
 rw[← hi] at hI hab
 obtain⟨Hl,Hp,HI,Hi,HR⟩:=hd5 hl hp hI hi hR;clear hl hp hI hi hR
 cases hq:l.any p with
 | true =>
  have hpos:0≤i:=hab.1 hq
  obtain⟨Hq,Hab⟩:=hd2 hq hab;clear hq hab
  go_enter Tryz.func66,Tryz.ntmps66
  go_wp2_with fail
  refine HI.out.mono ?_
  rintro e w2 ⟨rfl,hb2⟩
  have Hb2:=hd hb2;clear hb2
  go_wp2_with fail
  go_ret
  exact⟨rfl,Hb2.out⟩
 | false =>
  have hneg:i < 0:=by
   rcases Int.lt_or_le i 0 with h | h
   ·exact h
   have:=hab.2 h;rw[hq] at this;cases this
  obtain⟨Hq,Hab⟩:=hd2 hq hab;clear hq hab
  go_enter Tryz.func66,Tryz.ntmps66
  go_wp2_with fail
  refine HI.out.mono ?_
  rintro e w2 ⟨rfl,hb2⟩
  have Hb2:=hd hb2;clear hb2
  go_wp2_with fail
  go_ret
  exact⟨zaf (by simpa using hneg),Hb2.out⟩
end IdxSpan
end

section
open Go.Shelf Go.RowKit Go.Lib Go.Sort SortM StbA StbB
namespace StbSpan
variable {α : Type} {f0 : α → ByteArray} {f1 : α → ByteArray} {w0 : World} {blk off : Nat} {d0 : Array α}
def enc (f0:α→ByteArray) (f1:α→ByteArray) (x:α):List Value:=[.string (f0 x),.string (f1 x)]
theorem enc_len:∀ x,(enc f0 f1 x).length=2:=fun _=>rfl
def CmpLays (P:Program) (g:Nat) (cb:Array Value) (f:α→List Value) (_k:Nat) (cf:α→α→Int) (blk _off _size:Nat) (w:World):Prop :=
 ∀ W,Frm (fun b=>b=blk) w W→∀ x y:α,Calls P g (#[.agg (f x).toArray,.agg (f y).toArray] ++ cb) W fun e w'=>e = .returned (.int .i64 (cf x y))∧Below W.heap.size W w'
variable [Inhabited α]
abbrev SWK (f:α→List Value) (k:Nat) (w0:World) (blk off:Nat) (d:Array α) (W:World):Prop:=SortR.SRW 34 f k w0 blk off d W
abbrev RowK (f:α→List Value) (k:Nat) (w0:World) (blk off:Nat) (d:Array α):Prop:=SWK f k w0 blk off d w0
theorem cells {dk:Array α} {W:World} (S:SWK (enc f0 f1) 2 w0 blk off dk W) (_R:RowK (enc f0 f1) 2 w0 blk off d0) (_hs:dk.size=d0.size) (i:Nat) (hi:i < dk.size) :
  W.cell? ⟨blk,off+i * 2,none⟩=some (.string (f0 dk[i]!))∧W.frozen? ⟨blk,off+i * 2,none⟩=false∧W.cell? ⟨blk,off+i * 2+1,none⟩=some (.string (f1 dk[i]!))∧W.frozen? ⟨blk,off+i * 2+1,none⟩=false:=by
 have h0:=S.cell hi (show 0 < 2 by decide) rfl
 rw[Nat.add_zero] at h0
 have h1:=S.cell hi (show 1 < 2 by decide) rfl
 rw[← Nat.add_assoc] at h1
 exact⟨h0.1,h0.2,h1.1,h1.2⟩
theorem exch {dk:Array α} {W:World} (S:SWK (enc f0 f1) 2 w0 blk off dk W) (_R:RowK (enc f0 f1) 2 w0 blk off d0) (i j:Nat) (hi:i < dk.size) (hj:j < dk.size) :
  SWK (enc f0 f1) 2 w0 blk off (swp dk i j) (((((W).setCell ⟨blk,off+i * 2,none⟩ (.string (f0 dk[j]!))).setCell ⟨blk,off+i * 2+1,none⟩ (.string (f1 dk[j]!))).setCell ⟨blk,off+j * 2,none⟩ (.string (f0 dk[i]!))).setCell ⟨blk,off+j * 2+1,none⟩ (.string (f1 dk[i]!))).drew:=by
 have h:=(SortR.SRW.exch S enc_len hi hj).drew
 exact h
end StbSpan
end

section
open Go.Shelf Go.RowKit Go.Lib Go.Sort SortM StbA StbB
namespace StbSpan
variable {α : Type} [Inhabited α] {f0 : α → ByteArray} {f1 : α → ByteArray} {w0 : World} {blk off : Nat} {d0 : Array α}
theorem zgu {d:Array α} {w:World} (R:RowK (enc f0 f1) 2 w0 blk off d0) (hs:d.size=d0.size) (S:SWK (enc f0 f1) 2 w0 blk off d w) (a b m cap:Nat) (hab:a+m≤b) (hb:b+m≤d0.size) (hn:d0.size≤1000000) (cv:Value) :
  Calls Tryz.prog 222 #[.slice (some ⟨blk,off,none⟩) d0.size cap,.int .i64 a,.int .i64 b,.int .i64 m,cv] w fun e w'=>e = .returned (.tuple #[])∧SWK (enc f0 f1) 2 w0 blk off (swr d a b m) w':=by
 have hlen:=size_swr d a b
 obtain⟨N,hN⟩ : ∃ N,N=d0.size:=⟨_,rfl⟩
 rw[← hN] at hb hn hs ⊢
 obtain⟨HS,Hlen⟩:=hd2 S hlen;clear S hlen
 go_enter Tryz.func222,Tryz.ntmps222
 go_wp2_with fail
 go_loopw [10] (fun i wr=>∃ k:Nat,k≤m∧i = .int .i64 k∧SWK (enc f0 f1) 2 w0 blk off (swr d a b k) wr) (fun i _=>m - (intOf i).toNat)
 case atStart=>exact⟨0,Nat.zero_le _,rfl,HS.out⟩
 case round =>
  obtain⟨k,hk,rfl,S⟩:=hrel
  by_cases hlt:k < m
  ·have hl:=Hlen.out k
   obtain⟨dk,hdk⟩ : ∃ dk,dk=swr d a b k:=⟨_,rfl⟩
   rw[← hdk] at S hl
   have hnx:swr d a b (k+1)=swp dk (a+k) (b+k):=by rw[swr,← hdk]
   have hEX:=exch S R (a+k) (b+k) (by omega) (by omega)
   obtain⟨p0,pf0,p1,pf1⟩:=cells S R (by omega) (a+k) (by omega)
   obtain⟨q0,qf0,q1,qf1⟩:=cells S R (by omega) (b+k) (by omega)
   obtain⟨x,hx⟩ : ∃ x,x=dk[a+k]!:=⟨_,rfl⟩
   obtain⟨y,hy⟩ : ∃ y,y=dk[b+k]!:=⟨_,rfl⟩
   rw[← hx] at p0 p1 hEX
   rw[← hy] at q0 q1 hEX
   obtain⟨x0,hx0⟩ : ∃ v,v=f0 x:=⟨_,rfl⟩
   obtain⟨y0,hy0⟩ : ∃ v,v=f0 y:=⟨_,rfl⟩
   rw[← hx0] at p0 hEX
   rw[← hy0] at q0 hEX
   obtain⟨x1,hx1⟩ : ∃ v,v=f1 x:=⟨_,rfl⟩
   obtain⟨y1,hy1⟩ : ∃ v,v=f1 y:=⟨_,rfl⟩
   rw[← hx1] at p1 hEX
   rw[← hy1] at q1 hEX
   have na00:¬ off+(a+k) * 2=off+(b+k) * 2:=by omega
   have nb00:¬ off+(b+k) * 2=off+(a+k) * 2:=by omega
   have na01:¬ off+(a+k) * 2=off+(b+k) * 2+1:=by omega
   have nb01:¬ off+(b+k) * 2=off+(a+k) * 2+1:=by omega
   have na10:¬ off+(a+k) * 2+1=off+(b+k) * 2:=by omega
   have nb10:¬ off+(b+k) * 2+1=off+(a+k) * 2:=by omega
   have na11:¬ off+(a+k) * 2+1=off+(b+k) * 2+1:=by omega
   have nb11:¬ off+(b+k) * 2+1=off+(a+k) * 2+1:=by omega
   have w1:IntKind.i64.wrap ((a:Int)+(k:Int))=(a:Int)+(k:Int):=IntWalk.i64_in _ (by omega)
   have w2:IntKind.i64.wrap ((b:Int)+(k:Int))=(b:Int)+(k:Int):=IntWalk.i64_in _ (by omega)
   have n1:((a:Int)+(k:Int)).toNat=a+k:=by omega
   have n2:((b:Int)+(k:Int)).toNat=b+k:=by omega
   have u1:(0:Int)≤(a:Int)+(k:Int):=by omega
   have u2:(0:Int)≤(b:Int)+(k:Int):=by omega
   have v1:(a:Int)+(k:Int) < (N:Int):=by omega
   have v2:(b:Int)+(k:Int) < (N:Int):=by omega
   rw[← hnx] at hEX
   clear S
   obtain⟨Hdk,Hnx,Hl,Hx,Hy,Hx0,Hy0,Hx1,Hy1,HEX⟩:=hd10 hdk hnx hl hx hy hx0 hy0 hx1 hy1 hEX;clear hdk hnx hl hx hy hx0 hy0 hx1 hy1 hEX
   go_wp2_with fail
   go_region
   all_goals
    go_wp2_with fail
    go_roundw
    case rel=>exact⟨k+1,by omega,by go_num,HEX.out⟩
    case measure=>simp[intOf];omega
  obtain rfl:k=m:=by omega
  have HS:=hd S;clear S
  go_wp2_with fail
  go_end0
  exact⟨rfl,HS.out⟩
end StbSpan
end

section
open Go.Shelf Go.RowKit Go.Lib Go.Sort SortM StbA StbB
namespace StbSpan
variable {α : Type} [Inhabited α] {f0 : α → ByteArray} {f1 : α → ByteArray} {w0 : World} {blk off : Nat} {d0 : Array α}
def Now (f:α→List Value) (k:Nat) (w0:World) (blk off:Nat) (l:List α) (e:Ending) (w':World):Prop:=e = .returned (.tuple #[])∧∃ d:Array α,SWK f k w0 blk off d w'∧d.toList=l
theorem zkx {d:Array α} {w:World} (R:RowK (enc f0 f1) 2 w0 blk off d0) (S:SWK (enc f0 f1) 2 w0 blk off d w) {p u v q:List α} (hd:d.toList=p ++ u ++ v ++ q) (hs:d.size=d0.size) {a m b:Nat} (ha:a=p.length) (hm:m=a+u.length) (hb:b=m+v.length) (hu:0 < u.length) (hv:0 < v.length) (cap:Nat) (hn:d0.size≤1000000) (cv:Value) :
  Calls Tryz.prog 212 #[.slice (some ⟨blk,off,none⟩) d0.size cap,.int .i64 a,.int .i64 m,.int .i64 b,cv] w (Now (enc f0 f1) 2 w0 blk off (p ++ v ++ u ++ q)):=by
 have hst:=RInv.start hd (m:=m) (i:=u.length) (j:=v.length) rfl rfl (by omega)
 have htl:(p ++ v ++ u ++ q).length=d0.size:=by rw[← hs,← hst.size]
 have hle:=hst.le
 obtain⟨iu,hiu⟩ : ∃ n,n=u.length:=⟨_,rfl⟩
 obtain⟨jv,hjv⟩ : ∃ n,n=v.length:=⟨_,rfl⟩
 obtain⟨tgt,htg⟩ : ∃ l,l=p ++ v ++ u ++ q:=⟨_,rfl⟩
 rw[← htg] at hst htl ⊢
 rw[← hiu] at hst hm hu hle
 rw[← hjv] at hst hb hv hle
 have hC:=fun (dk:Array α) (wr:World) (hs:dk.size=d0.size) (S:SWK (enc f0 f1) 2 w0 blk off dk wr) (a b m:Nat) (h1:a+m≤b) (h2:b+m≤d0.size)=>zgu R hs S a b m cap h1 h2 hn cv
 obtain⟨N,hN⟩ : ∃ N,N=d0.size:=⟨_,rfl⟩
 rw[← hN] at hn htl hs hC ⊢
 have i1:IntKind.i64.wrap ((m:Int) - (a:Int))=(iu:Int):=by rw[IntWalk.i64_in _ (by omega)];omega
 have i2:IntKind.i64.wrap ((b:Int) - (m:Int))=(jv:Int):=by rw[IntWalk.i64_in _ (by omega)];omega
 clear hd ha hm hb hle
 obtain⟨Hst,HS,HC,Htl,Htg,Hiu,Hjv,HN⟩:=hd8 hst S hC htl htg hiu hjv hN;clear hst S hC htl htg hiu hjv hN
 go_enter Tryz.func212,Tryz.ntmps212
 go_wp2_with fail
 go_loopw [10,11] (fun x y wr=>∃ (i j:Nat) (dk:Array α),x = .int .i64 i∧y = .int .i64 j∧0 < i∧0 < j∧RInv tgt m i j dk∧SWK (enc f0 f1) 2 w0 blk off dk wr) (fun x y _=>(intOf x).toNat+(intOf y).toNat)
 case atStart=>exact⟨iu,jv,d,rfl,rfl,hu,hv,Hst.out,HS.out⟩
 case round =>
  clear i1 i2
  obtain⟨i,j,dk,rfl,rfl,hi,hj,hI,S⟩:=hrel
  have hsz:=hI.size
  rw[Htl.out] at hsz
  have hl:=hI.le
  rw[hsz] at hl
  have w1:IntKind.i64.wrap ((m:Int) - (i:Int))=((m - i:Nat):Int):=by rw[IntWalk.i64_in _ (by omega)];omega
  rcases Nat.lt_trichotomy i j with hij | hij | hij
  ·have hne:((i:Int) == (j:Int))=false:=by rw[beq_eq_false_iff_ne];omega
   have hgt:decide ((j:Int) < (i:Int))=false:=decide_eq_false (by omega)
   have w2:IntKind.i64.wrap ((m:Int)+(j:Int))=(m:Int)+(j:Int):=IntWalk.i64_in _ (by omega)
   have w3:IntKind.i64.wrap ((m:Int)+(j:Int) - (i:Int))=((m+j - i:Nat):Int):=by rw[IntWalk.i64_in _ (by omega)];omega
   have w4:IntKind.i64.wrap ((j:Int) - (i:Int))=((j - i:Nat):Int):=by rw[IntWalk.i64_in _ (by omega)];omega
   have hc:=HC.out dk wr hsz S (m - i) (m+j - i) i (by omega) (by omega)
   have hnI:=hI.lt hij
   clear S hI
   obtain⟨Hc,HnI,Hsz⟩:=hd3 hc hnI hsz;clear hc hnI hsz
   go_wp2_with fail
   refine Hc.out.mono ?_
   rintro e w2 ⟨rfl,S⟩
   have HS:=hd S;clear S
   go_wp2_with fail
   go_roundw
   case rel=>exact⟨i,j - i,_,rfl,rfl,hi,by omega,HnI.out,HS.out⟩
   case measure=>simp[intOf];omega
  ·subst hij
   have hne:((i:Int) == (i:Int))=true:=by simp
   have hc:=HC.out dk wr hsz S (m - i) m i (by omega) (by omega)
   have hnI:=hI.eq
   clear S hI
   obtain⟨Hc,HnI,Hsz⟩:=hd3 hc hnI hsz;clear hc hnI hsz
   go_wp2_with fail
   refine Hc.out.mono ?_
   rintro e w2 ⟨rfl,S⟩
   have HS:=hd S;clear S
   go_wp2_with fail
   go_end0
   exact⟨rfl,_,HS.out,HnI.out⟩
  have hne:((i:Int) == (j:Int))=false:=by rw[beq_eq_false_iff_ne];omega
  have hgt:decide ((j:Int) < (i:Int))=true:=decide_eq_true (by omega)
  have w4:IntKind.i64.wrap ((i:Int) - (j:Int))=((i - j:Nat):Int):=by rw[IntWalk.i64_in _ (by omega)];omega
  have hc:=HC.out dk wr hsz S (m - i) m j (by omega) (by omega)
  have hnI:=hI.gt hij
  clear S hI
  obtain⟨Hc,HnI,Hsz⟩:=hd3 hc hnI hsz;clear hc hnI hsz
  go_wp2_with fail
  refine Hc.out.mono ?_
  rintro e w2 ⟨rfl,S⟩
  have HS:=hd S;clear S
  go_wp2_with fail
  go_roundw
  case rel=>exact⟨i - j,j,_,rfl,rfl,by omega,hj,HnI.out,HS.out⟩
  case measure=>simp[intOf];omega
end StbSpan
end

section
open Go.Shelf Go.RowKit Go.Lib Go.Sort SortM StbA StbB
namespace StbSpan
variable {α : Type} [Inhabited α] {f0 : α → ByteArray} {f1 : α → ByteArray} {w0 : World} {blk off : Nat} {d0 : Array α}
variable {cf : α → α → Int} {g : Nat} {cb : Array Value}
theorem zlc {dk:Array α} {w:World} (R:RowK (enc f0 f1) 2 w0 blk off d0) (S:SWK (enc f0 f1) 2 w0 blk off dk w) (C:CmpLays Tryz.prog g cb (enc f0 f1) 2 cf blk off d0.size w0) (eg:∀ args w,(callFunc g args).run Tryz.prog w = .ok (.enter g args) w) (hO:Swo (ltOf cf))
  {p v q:List α} {x:α} (hd:dk.toList=p ++ x :: (v ++ q)) (hs:dk.size=d0.size) (hv:zar (ltOf cf) v) {a m b:Nat} (ha:a=p.length) (hm:m=a+1) (hb:b=m+v.length) (cap:Nat) (hn:d0.size≤1000000) :
  Calls Tryz.prog 196 #[.slice (some ⟨blk,off,none⟩) d0.size cap,.int .i64 a,.int .i64 m,.int .i64 b,.func (.func g) #[] cb] w (Now (enc f0 f1) 2 w0 blk off (p ++ zaj (ltOf cf) (x :: v) ++ q)):=by
 have hbn:b≤d0.size:=by rw[← hs,← Array.length_toList,hd];simp;omega
 have hix:zd7 (ltOf cf) m b dk:=zd2 hO (p:=p ++ [x]) (u:=v) (q:=q) (by rw[hd];simp) hv (by simp;omega) (by simp;omega)
 have hM:=mono_left hO (a:=a) hix
 have hend:=fun i (hB:BS (fun c=>ltOf cf dk[c]! dk[a]!) m b i i)=>one_left hO hd hv ha hm hb hB
 have hmb:m≤b:=by omega
 have hB0:=BS.start (fun c=>ltOf cf dk[c]! dk[a]!) hmb
 have hk1:IntKind.i64.wrap ((m:Int) - (a:Int))=1:=by rw[IntWalk.i64_in _ (by omega)];omega
 have hk2:((1:Int) == 1)=true:=by simp
 obtain⟨tgt,htg⟩ : ∃ l,l=p ++ zaj (ltOf cf) (x :: v) ++ q:=⟨_,rfl⟩
 rw[← htg] at hend ⊢
 obtain⟨N,hN⟩ : ∃ N,N=d0.size:=⟨_,rfl⟩
 rw[← hN] at hn hs hbn ⊢
 have ham:a < m:=by omega
 clear hix hd hv ha hm hb
 obtain⟨HS,HM,HB0,Hend,Htg,Hs,HN,Hmb,HC,HR,HO⟩:=hd11 S hM hB0 hend htg hs hN hmb C R hO;clear S hM hB0 hend htg hs hN hmb C R hO
 go_enter Tryz.func196,Tryz.ntmps196
 go_wp2_with fail
 clear hk1
 go_loopw [10,11] (fun x y wr=>∃ (i j:Nat),x = .int .i64 i∧y = .int .i64 j∧BS (fun c=>ltOf cf dk[c]! dk[a]!) m b i j∧SWK (enc f0 f1) 2 w0 blk off dk wr) (fun x y _=>(intOf y).toNat - (intOf x).toNat)
 case atStart=>exact⟨m,b,rfl,rfl,HB0.out,HS.out⟩
 case round =>
  obtain⟨i,j,rfl,rfl,hB,S⟩:=hrel
  have l1:=hB.l1
  have l2:=hB.l2
  have l3:=hB.l3
  by_cases hlt:i < j
  ·have R:=HR.out
   have C:=HC.out
   have hs:=Hs.out
   rw[HN.out] at hs
   have hN':=HN.out
   obtain⟨h,hh⟩ : ∃ h,h=(i+j) / 2:=⟨_,rfl⟩
   have w1:IntKind.i64.wrap ((i:Int)+(j:Int))=(i:Int)+(j:Int):=IntWalk.i64_in _ (by omega)
   have w2:((i:Int)+(j:Int)) / 2=(h:Int):=by omega
   obtain⟨p0,_,p1,_⟩:=cells S R hs (h) (by omega)
   obtain⟨x,hx⟩ : ∃ v,v=dk[h]!:=⟨_,rfl⟩
   rw[← hx] at p0 p1
   obtain⟨x0,hx0⟩ : ∃ v,v=f0 x:=⟨_,rfl⟩
   rw[← hx0] at p0
   obtain⟨x1,hx1⟩ : ∃ v,v=f1 x:=⟨_,rfl⟩
   rw[← hx1] at p1
   obtain⟨q0,_,q1,_⟩:=cells S R hs (a) (by omega)
   obtain⟨y,hy⟩ : ∃ v,v=dk[a]!:=⟨_,rfl⟩
   rw[← hy] at q0 q1
   obtain⟨y0,hy0⟩ : ∃ v,v=f0 y:=⟨_,rfl⟩
   rw[← hy0] at q0
   obtain⟨y1,hy1⟩ : ∃ v,v=f1 y:=⟨_,rfl⟩
   rw[← hy1] at q1
   have hcg:∀ V,Below wr.heap.size wr V→Calls Tryz.prog g (#[.agg #[.string (x0),.string (x1)],.agg #[.string (y0),.string (y1)]] ++ cb) V fun e w'=>e = .returned (.int .i64 (cf x y))∧Below V.heap.size V w':=fun V hV=>by rw[hx0,hy0,hx1,hy1];exact C V (SortR.SRW.below S hV).frm x y
   have hczf:∀ V,Below wr.heap.size wr V→V.cell? ⟨blk,off+(h) * 2,none⟩=some (.string (x0))∧V.cell? ⟨blk,off+(h) * 2+1,none⟩=some (.string (x1))∧V.cell? ⟨blk,off+(a) * 2,none⟩=some (.string (y0))∧V.cell? ⟨blk,off+(a) * 2+1,none⟩=some (.string (y1)):=fun V hV=>⟨cell_later hV p0,cell_later hV p1,cell_later hV q0,cell_later hV q1⟩
   obtain⟨cv,hcv⟩ : ∃ v,v=cf x y:=⟨_,rfl⟩
   rw[← hcv] at hcg
   have hGR:=S
   have hl:(h:Int) < (N:Int):=by omega
   have al:(a:Int) < (N:Int):=by omega
   have hij1:i≤h:=by omega
   have hij2:h < j:=by omega
   clear S hs R C hN'
   cases hdec:decide (cv < 0) with
   | true =>
    have hB2:=hB.left HM.out hij1 hij2 (by rw[← hx,← hy];unfold ltOf;rw[← hcv];exact hdec)
    have hlv:cv < 0:=of_decide_eq_true hdec
    obtain⟨HB,HB2,Hx,Hy,Hx0,Hy0,Hx1,Hy1,HGR,Hcg,Hczf,Hcv,Hh,Hdec⟩:=hd14 hB hB2 hx hy hx0 hy0 hx1 hy1 hGR hcg hczf hcv hh hdec;clear hB hB2 hx hy hx0 hy0 hx1 hy1 hGR hcg hczf hcv hh hdec
    go_wp2_with fail
    have hbz:=zak (Below.refl wr.heap.size wr) 1
    have hcz:=Hczf.out _ hbz
    go_region_held3 (fun w'=>w'.cell? ⟨blk,off+(h) * 2,none⟩=some (.string (x0))∧w'.cell? ⟨blk,off+(h) * 2+1,none⟩=some (.string (x1))∧w'.cell? ⟨blk,off+(a) * 2,none⟩=some (.string (y0))∧w'.cell? ⟨blk,off+(a) * 2+1,none⟩=some (.string (y1))) (first | exact hcz | go_keep) (first | (go_at_fn g;refine (Hcg.out _ (by exact hbz)).mono ?_;rintro e wz ⟨rfl,hsz⟩;replace hbz:=hbz.trans (hsz.mono hbz.size);replace hcz:=Hczf.out _ hbz))
    all_goals
     go_wp2_with fail
     go_roundw
     case rel=>exact⟨h+1,j,by go_num,rfl,HB2.out,HGR.out.below hbz⟩
     case measure=>simp[intOf];omega
   | false =>
    have hB2:=hB.right HM.out hij1 hij2 (by rw[← hx,← hy];unfold ltOf;rw[← hcv];exact hdec)
    have hlv:¬ cv < 0:=of_decide_eq_false hdec
    obtain⟨HB,HB2,Hx,Hy,Hx0,Hy0,Hx1,Hy1,HGR,Hcg,Hczf,Hcv,Hh,Hdec⟩:=hd14 hB hB2 hx hy hx0 hy0 hx1 hy1 hGR hcg hczf hcv hh hdec;clear hB hB2 hx hy hx0 hy0 hx1 hy1 hGR hcg hczf hcv hh hdec
    go_wp2_with fail
    have hbz:=zak (Below.refl wr.heap.size wr) 1
    have hcz:=Hczf.out _ hbz
    go_region_held3 (fun w'=>w'.cell? ⟨blk,off+(h) * 2,none⟩=some (.string (x0))∧w'.cell? ⟨blk,off+(h) * 2+1,none⟩=some (.string (x1))∧w'.cell? ⟨blk,off+(a) * 2,none⟩=some (.string (y0))∧w'.cell? ⟨blk,off+(a) * 2+1,none⟩=some (.string (y1))) (first | exact hcz | go_keep) (first | (go_at_fn g;refine (Hcg.out _ (by exact hbz)).mono ?_;rintro e wz ⟨rfl,hsz⟩;replace hbz:=hbz.trans (hsz.mono hbz.size);replace hcz:=Hczf.out _ hbz))
    all_goals
     go_wp2_with fail
     go_roundw
     case rel=>exact⟨i,h,rfl,rfl,HB2.out,HGR.out.below hbz⟩
     case measure=>simp[intOf];omega
  obtain rfl:i=j:=by omega
  have hE:=Hend.out i hB
  have him:m≤i:=l1
  have hib:i≤b:=l3
  clear l1 l2 l3
  obtain⟨HB,HS,HE⟩:=hd3 hB S hE;clear hB S hE
  have w1:IntKind.i64.wrap ((i:Int) - 1)=(i:Int) - 1:=IntWalk.i64_in _ (by omega)
  go_wp2_with fail
  clear w1
  go_loopw [13] (fun x wr=>∃ kk:Nat,x = .int .i64 kk∧a≤kk∧kk≤i - 1∧SWK (enc f0 f1) 2 w0 blk off (upN dk a (kk - a)) wr) (fun x _=>i - (intOf x).toNat)
  case atStart=>exact⟨a,rfl,Nat.le_refl _,by omega,by rw[Nat.sub_self];exact HS.out⟩
  case round =>
   obtain⟨kk,rfl,k1,k2,S⟩:=hrel
   by_cases hlt:kk < i - 1
   ·obtain⟨ek,hek⟩ : ∃ e,e=upN dk a (kk - a):=⟨_,rfl⟩
    rw[← hek] at S
    have hnx:upN dk a (kk+1 - a)=swp ek kk (kk+1):=by
     rw[show kk+1 - a=(kk - a)+1 by omega,upN,← hek,show a+(kk - a)=kk by omega]
    have R:=HR.out
    have hl:ek.size=d0.size:=by rw[hek,size_upN,Hs.out,HN.out]
    have hN':=HN.out
    have hEX:=exch S R (kk) (kk+1) (by omega) (by omega)
    obtain⟨p0,pf0,p1,pf1⟩:=cells S R hl (kk) (by omega)
    obtain⟨q0,qf0,q1,qf1⟩:=cells S R hl (kk+1) (by omega)
    obtain⟨x,hx⟩ : ∃ x,x=ek[kk]!:=⟨_,rfl⟩
    obtain⟨y,hy⟩ : ∃ y,y=ek[kk+1]!:=⟨_,rfl⟩
    rw[← hx] at p0 p1 hEX
    rw[← hy] at q0 q1 hEX
    obtain⟨x0,hx0⟩ : ∃ v,v=f0 x:=⟨_,rfl⟩
    obtain⟨y0,hy0⟩ : ∃ v,v=f0 y:=⟨_,rfl⟩
    rw[← hx0] at p0 hEX
    rw[← hy0] at q0 hEX
    obtain⟨x1,hx1⟩ : ∃ v,v=f1 x:=⟨_,rfl⟩
    obtain⟨y1,hy1⟩ : ∃ v,v=f1 y:=⟨_,rfl⟩
    rw[← hx1] at p1 hEX
    rw[← hy1] at q1 hEX
    have na00:¬ off+(kk) * 2=off+(kk+1) * 2:=by omega
    have nb00:¬ off+(kk+1) * 2=off+(kk) * 2:=by omega
    have na01:¬ off+(kk) * 2=off+(kk+1) * 2+1:=by omega
    have nb01:¬ off+(kk+1) * 2=off+(kk) * 2+1:=by omega
    have na10:¬ off+(kk) * 2+1=off+(kk+1) * 2:=by omega
    have nb10:¬ off+(kk+1) * 2+1=off+(kk) * 2:=by omega
    have na11:¬ off+(kk) * 2+1=off+(kk+1) * 2+1:=by omega
    have nb11:¬ off+(kk+1) * 2+1=off+(kk) * 2+1:=by omega
    have w1:IntKind.i64.wrap ((kk:Int)+1)=(kk:Int)+1:=IntWalk.i64_in _ (by omega)
    have w2:IntKind.i64.wrap ((i:Int) - 1)=(i:Int) - 1:=IntWalk.i64_in _ (by omega)
    have n2:((kk:Int)+1).toNat=kk+1:=by omega
    have u2:(0:Int)≤(kk:Int)+1:=by omega
    have v1:(kk:Int) < (N:Int):=by omega
    have v2:(kk:Int)+1 < (N:Int):=by omega
    have v3:(kk:Int) < (i:Int) - 1:=by omega
    rw[← hnx] at hEX
    clear S R hN'
    obtain⟨Hek,Hnx,Hl,Hx,Hy,Hx0,Hy0,Hx1,Hy1,HEX⟩:=hd10 hek hnx hl hx hy hx0 hy0 hx1 hy1 hEX;clear hek hnx hl hx hy hx0 hy0 hx1 hy1 hEX
    go_wp2_with fail
    go_region
    all_goals
     go_wp2_with fail
     go_roundw
     case rel=>exact⟨kk+1,by go_num,by omega,by omega,HEX.out⟩
     case measure=>simp[intOf];omega
   obtain rfl:kk=i - 1:=by omega
   have v3:¬ ((i - 1:Nat):Int) < (i:Int) - 1:=by omega
   have w2:IntKind.i64.wrap ((i:Int) - 1)=(i:Int) - 1:=IntWalk.i64_in _ (by omega)
   have HS:=hd S;clear S
   go_wp2_with fail
   go_end0
   exact⟨rfl,_,HS.out,HE.out⟩
end StbSpan
end

section
open Go.Shelf Go.RowKit Go.Lib Go.Sort SortM StbA StbB
namespace StbSpan
variable {α : Type} [Inhabited α] {f0 : α → ByteArray} {f1 : α → ByteArray} {w0 : World} {blk off : Nat} {d0 : Array α}
variable {cf : α → α → Int} {g : Nat} {cb : Array Value}
theorem zj7 {dk:Array α} {w:World} (R:RowK (enc f0 f1) 2 w0 blk off d0) (S:SWK (enc f0 f1) 2 w0 blk off dk w) (C:CmpLays Tryz.prog g cb (enc f0 f1) 2 cf blk off d0.size w0) (eg:∀ args w,(callFunc g args).run Tryz.prog w = .ok (.enter g args) w) (hO:Swo (ltOf cf))
  {p u q:List α} {x:α} (hd:dk.toList=p ++ u ++ x :: q) (hs:dk.size=d0.size) (hu:zar (ltOf cf) u) {a m b:Nat} (ha:a=p.length) (hm:m=a+u.length) (hb:b=m+1) (h2:2≤u.length) (cap:Nat) (hn:d0.size≤1000000) :
  Calls Tryz.prog 196 #[.slice (some ⟨blk,off,none⟩) d0.size cap,.int .i64 a,.int .i64 m,.int .i64 b,.func (.func g) #[] cb] w (Now (enc f0 f1) 2 w0 blk off (p ++ zaj (ltOf cf) (u ++ [x]) ++ q)):=by
 have hbn:b≤d0.size:=by rw[← hs,← Array.length_toList,hd];simp;omega
 have hix:zd7 (ltOf cf) a m dk:=zd2 hO (p:=p) (u:=u) (q:=x :: q) hd hu ha (by omega)
 have hM:=zla hO hix
 have hend:=fun i (hB:BS (fun c=>!ltOf cf dk[m]! dk[c]!) a m i i)=>one_right hO hd hu ha hm hB
 have hmb:a≤m:=by omega
 have hB0:=BS.start (fun c=>!ltOf cf dk[m]! dk[c]!) hmb
 have hk1:IntKind.i64.wrap ((m:Int) - (a:Int))=(m:Int) - (a:Int):=IntWalk.i64_in _ (by omega)
 have hk2:((m:Int) - (a:Int) == 1)=false:=by rw[beq_eq_false_iff_ne];omega
 have hk3:IntKind.i64.wrap ((b:Int) - (m:Int))=1:=by rw[IntWalk.i64_in _ (by omega)];omega
 have hk4:((1:Int) == 1)=true:=by simp
 obtain⟨tgt,htg⟩ : ∃ l,l=p ++ zaj (ltOf cf) (u ++ [x]) ++ q:=⟨_,rfl⟩
 rw[← htg] at hend ⊢
 obtain⟨N,hN⟩ : ∃ N,N=d0.size:=⟨_,rfl⟩
 rw[← hN] at hn hs hbn ⊢
 have hmn:m < N:=by omega
 clear hix hd hu ha hm hb h2
 obtain⟨HS,HM,HB0,Hend,Htg,Hs,HN,Hmb,HC,HR,HO⟩:=hd11 S hM hB0 hend htg hs hN hmb C R hO;clear S hM hB0 hend htg hs hN hmb C R hO
 go_enter Tryz.func196,Tryz.ntmps196
 go_wp2_with fail
 clear hk1 hk2 hk3
 go_loopw [14,15] (fun x y wr=>∃ (i j:Nat),x = .int .i64 i∧y = .int .i64 j∧BS (fun c=>!ltOf cf dk[m]! dk[c]!) a m i j∧SWK (enc f0 f1) 2 w0 blk off dk wr) (fun x y _=>(intOf y).toNat - (intOf x).toNat)
 case atStart=>exact⟨a,m,rfl,rfl,HB0.out,HS.out⟩
 case round =>
  obtain⟨i,j,rfl,rfl,hB,S⟩:=hrel
  have l1:=hB.l1
  have l2:=hB.l2
  have l3:=hB.l3
  by_cases hlt:i < j
  ·have R:=HR.out
   have C:=HC.out
   have hs:=Hs.out
   rw[HN.out] at hs
   have hN':=HN.out
   obtain⟨h,hh⟩ : ∃ h,h=(i+j) / 2:=⟨_,rfl⟩
   have w1:IntKind.i64.wrap ((i:Int)+(j:Int))=(i:Int)+(j:Int):=IntWalk.i64_in _ (by omega)
   have w2:((i:Int)+(j:Int)) / 2=(h:Int):=by omega
   obtain⟨p0,_,p1,_⟩:=cells S R hs (m) (by omega)
   obtain⟨x,hx⟩ : ∃ v,v=dk[m]!:=⟨_,rfl⟩
   rw[← hx] at p0 p1
   obtain⟨x0,hx0⟩ : ∃ v,v=f0 x:=⟨_,rfl⟩
   rw[← hx0] at p0
   obtain⟨x1,hx1⟩ : ∃ v,v=f1 x:=⟨_,rfl⟩
   rw[← hx1] at p1
   obtain⟨q0,_,q1,_⟩:=cells S R hs (h) (by omega)
   obtain⟨y,hy⟩ : ∃ v,v=dk[h]!:=⟨_,rfl⟩
   rw[← hy] at q0 q1
   obtain⟨y0,hy0⟩ : ∃ v,v=f0 y:=⟨_,rfl⟩
   rw[← hy0] at q0
   obtain⟨y1,hy1⟩ : ∃ v,v=f1 y:=⟨_,rfl⟩
   rw[← hy1] at q1
   have hcg:∀ V,Below wr.heap.size wr V→Calls Tryz.prog g (#[.agg #[.string (x0),.string (x1)],.agg #[.string (y0),.string (y1)]] ++ cb) V fun e w'=>e = .returned (.int .i64 (cf x y))∧Below V.heap.size V w':=fun V hV=>by rw[hx0,hy0,hx1,hy1];exact C V (SortR.SRW.below S hV).frm x y
   have hczf:∀ V,Below wr.heap.size wr V→V.cell? ⟨blk,off+(m) * 2,none⟩=some (.string (x0))∧V.cell? ⟨blk,off+(m) * 2+1,none⟩=some (.string (x1))∧V.cell? ⟨blk,off+(h) * 2,none⟩=some (.string (y0))∧V.cell? ⟨blk,off+(h) * 2+1,none⟩=some (.string (y1)):=fun V hV=>⟨cell_later hV p0,cell_later hV p1,cell_later hV q0,cell_later hV q1⟩
   obtain⟨cv,hcv⟩ : ∃ v,v=cf x y:=⟨_,rfl⟩
   rw[← hcv] at hcg
   have hGR:=S
   have hl:(h:Int) < (N:Int):=by omega
   have al:(m:Int) < (N:Int):=by omega
   have hij1:i≤h:=by omega
   have hij2:h < j:=by omega
   clear S hs R C hN'
   cases hdec:decide (cv < 0) with
   | true =>
    have hB2:=hB.right HM.out hij1 hij2 (by show (!ltOf cf dk[m]! dk[h]!)=false;rw[← hx,← hy];unfold ltOf;rw[← hcv,hdec];rfl)
    have hlv:cv < 0:=of_decide_eq_true hdec
    have hlv2:¬ 0≤cv:=by omega
    obtain⟨HB,HB2,Hx,Hy,Hx0,Hy0,Hx1,Hy1,HGR,Hcg,Hczf,Hcv,Hh,Hdec⟩:=hd14 hB hB2 hx hy hx0 hy0 hx1 hy1 hGR hcg hczf hcv hh hdec;clear hB hB2 hx hy hx0 hy0 hx1 hy1 hGR hcg hczf hcv hh hdec
    go_wp2_with fail
    have hbz:=zak (Below.refl wr.heap.size wr) 1
    have hcz:=Hczf.out _ hbz
    go_region_held3 (fun w'=>w'.cell? ⟨blk,off+(m) * 2,none⟩=some (.string (x0))∧w'.cell? ⟨blk,off+(m) * 2+1,none⟩=some (.string (x1))∧w'.cell? ⟨blk,off+(h) * 2,none⟩=some (.string (y0))∧w'.cell? ⟨blk,off+(h) * 2+1,none⟩=some (.string (y1))) (first | exact hcz | go_keep) (first | (go_at_fn g;refine (Hcg.out _ (by exact hbz)).mono ?_;rintro e wz ⟨rfl,hsz⟩;replace hbz:=hbz.trans (hsz.mono hbz.size);replace hcz:=Hczf.out _ hbz))
    all_goals
     go_wp2_with fail
     go_roundw
     case rel=>exact⟨i,h,rfl,rfl,HB2.out,HGR.out.below hbz⟩
     case measure=>simp[intOf];omega
   | false =>
    have hB2:=hB.left HM.out hij1 hij2 (by show (!ltOf cf dk[m]! dk[h]!)=true;rw[← hx,← hy];unfold ltOf;rw[← hcv,hdec];rfl)
    have hlv:¬ cv < 0:=of_decide_eq_false hdec
    have hlv2:0≤cv:=by omega
    have hdn:(!decide (cv < 0))=true:=by rw[hdec];rfl
    obtain⟨HB,HB2,Hx,Hy,Hx0,Hy0,Hx1,Hy1,HGR,Hcg,Hczf,Hcv,Hh,Hdec⟩:=hd14 hB hB2 hx hy hx0 hy0 hx1 hy1 hGR hcg hczf hcv hh hdec;clear hB hB2 hx hy hx0 hy0 hx1 hy1 hGR hcg hczf hcv hh hdec
    go_wp2_with fail
    have hbz:=zak (Below.refl wr.heap.size wr) 1
    have hcz:=Hczf.out _ hbz
    go_region_held3 (fun w'=>w'.cell? ⟨blk,off+(m) * 2,none⟩=some (.string (x0))∧w'.cell? ⟨blk,off+(m) * 2+1,none⟩=some (.string (x1))∧w'.cell? ⟨blk,off+(h) * 2,none⟩=some (.string (y0))∧w'.cell? ⟨blk,off+(h) * 2+1,none⟩=some (.string (y1))) (first | exact hcz | go_keep) (first | (go_at_fn g;refine (Hcg.out _ (by exact hbz)).mono ?_;rintro e wz ⟨rfl,hsz⟩;replace hbz:=hbz.trans (hsz.mono hbz.size);replace hcz:=Hczf.out _ hbz))
    all_goals
     go_wp2_with fail
     go_roundw
     case rel=>exact⟨h+1,j,by go_num,rfl,HB2.out,HGR.out.below hbz⟩
     case measure=>simp[intOf];omega
  obtain rfl:i=j:=by omega
  have hE:=Hend.out i hB
  have him:a≤i:=l1
  have hib:i≤m:=l3
  clear l1 l2 l3
  obtain⟨HB,HS,HE⟩:=hd3 hB S hE;clear hB S hE
  go_wp2_with fail
  go_loopw [17] (fun x wr=>∃ kk:Nat,x = .int .i64 kk∧i≤kk∧kk≤m∧SWK (enc f0 f1) 2 w0 blk off (dnN dk m (m - kk)) wr) (fun x _=>(intOf x).toNat)
  case atStart=>exact⟨m,rfl,hib,Nat.le_refl _,by rw[Nat.sub_self];exact HS.out⟩
  case round =>
   obtain⟨kk,rfl,k1,k2,S⟩:=hrel
   by_cases hlt:i < kk
   ·obtain⟨jp,rfl⟩ : ∃ jp,kk=jp+1:=⟨kk - 1,by omega⟩
    obtain⟨ek,hek⟩ : ∃ e,e=dnN dk m (m - (jp+1)):=⟨_,rfl⟩
    rw[← hek] at S
    have hnx:dnN dk m (m - jp)=swp ek (jp+1) jp:=by
     rw[show m - jp=(m - (jp+1))+1 by omega,dnN,← hek,show m - (m - (jp+1))=jp+1 by omega,Nat.add_sub_cancel]
    have R:=HR.out
    have hl:ek.size=d0.size:=by rw[hek,size_dnN,Hs.out,HN.out]
    have hN':=HN.out
    have hEX:=exch S R (jp+1) (jp) (by omega) (by omega)
    obtain⟨p0,pf0,p1,pf1⟩:=cells S R hl (jp+1) (by omega)
    obtain⟨q0,qf0,q1,qf1⟩:=cells S R hl (jp) (by omega)
    obtain⟨x,hx⟩ : ∃ x,x=ek[jp+1]!:=⟨_,rfl⟩
    obtain⟨y,hy⟩ : ∃ y,y=ek[jp]!:=⟨_,rfl⟩
    rw[← hx] at p0 p1 hEX
    rw[← hy] at q0 q1 hEX
    obtain⟨x0,hx0⟩ : ∃ v,v=f0 x:=⟨_,rfl⟩
    obtain⟨y0,hy0⟩ : ∃ v,v=f0 y:=⟨_,rfl⟩
    rw[← hx0] at p0 hEX
    rw[← hy0] at q0 hEX
    obtain⟨x1,hx1⟩ : ∃ v,v=f1 x:=⟨_,rfl⟩
    obtain⟨y1,hy1⟩ : ∃ v,v=f1 y:=⟨_,rfl⟩
    rw[← hx1] at p1 hEX
    rw[← hy1] at q1 hEX
    have na00:¬ off+(jp+1) * 2=off+(jp) * 2:=by omega
    have nb00:¬ off+(jp) * 2=off+(jp+1) * 2:=by omega
    have na01:¬ off+(jp+1) * 2=off+(jp) * 2+1:=by omega
    have nb01:¬ off+(jp) * 2=off+(jp+1) * 2+1:=by omega
    have na10:¬ off+(jp+1) * 2+1=off+(jp) * 2:=by omega
    have nb10:¬ off+(jp) * 2+1=off+(jp+1) * 2:=by omega
    have na11:¬ off+(jp+1) * 2+1=off+(jp) * 2+1:=by omega
    have nb11:¬ off+(jp) * 2+1=off+(jp+1) * 2+1:=by omega
    have w1:IntKind.i64.wrap (jp:Int)=(jp:Int):=IntWalk.i64_in _ (by omega)
    have n2:((jp:Int)+1).toNat=jp+1:=by omega
    have u2:(0:Int)≤(jp:Int)+1:=by omega
    have v1:(jp:Int) < (N:Int):=by omega
    have v2:(jp:Int)+1 < (N:Int):=by omega
    have v3:(i:Int) < (jp:Int)+1:=by omega
    rw[← hnx] at hEX
    clear S R hN'
    obtain⟨Hek,Hnx,Hl,Hx,Hy,Hx0,Hy0,Hx1,Hy1,HEX⟩:=hd10 hek hnx hl hx hy hx0 hy0 hx1 hy1 hEX;clear hek hnx hl hx hy hx0 hy0 hx1 hy1 hEX
    go_wp2_with fail
    go_region
    all_goals
     go_wp2_with fail
     go_roundw
     case rel=>exact⟨jp,rfl,by omega,by omega,HEX.out⟩
     case measure=>simp[intOf] <;> omega
   obtain rfl:i=kk:=by omega
   have v3:¬ (i:Int) < (i:Int):=by omega
   have HS:=hd S;clear S
   go_wp2_with fail
   go_end0
   exact⟨rfl,_,HS.out,HE.out⟩
end StbSpan
end

section
open Go.Shelf Go.RowKit Go.Lib Go.Sort SortM StbA StbB
namespace StbSpan
variable {α : Type} [Inhabited α] {f0 : α → ByteArray} {f1 : α → ByteArray} {w0 : World} {blk off : Nat} {d0 : Array α}
variable {cf : α → α → Int} {g : Nat} {cb : Array Value}
theorem and_no {P Q:Prop} [Decidable P] [Decidable Q] {x y:Bool} (hx:x=decide P) (hy:y=decide Q) (h:(x && y)=false):¬ P∨¬ Q:=by
 subst hx hy
 by_cases hP:P
 ·by_cases hQ:Q
  ·simp[hP,hQ] at h
  exact .inr hQ
 exact .inl hP
theorem zey {P Q:Prop} [Decidable P] [Decidable Q] {x y:Bool} (hx:x=decide P) (hy:y=decide Q) (h:(x && y)=true):P∧Q:=by
 subst hx hy
 simp only[Bool.and_eq_true,decide_eq_true_eq] at h
 exact h
def zhi (cf:α→α→Int) (f:α→List Value) (g:Nat) (cb:Array Value) (w0:World) (blk off cap:Nat) (d0:Array α) (n:Nat):Prop :=
 ∀ (dk:Array α) (w:World) (p u v q:List α) (a m b:Nat),SWK f 2 w0 blk off dk w→dk.toList=p ++ u ++ v ++ q→dk.size=d0.size→zar (ltOf cf) u→zar (ltOf cf) v→a=p.length→m=a+u.length→b=m+v.length→0 < u.length→0 < v.length→b - a≤n →
  Calls Tryz.prog 196 #[.slice (some ⟨blk,off,none⟩) d0.size cap,.int .i64 a,.int .i64 m,.int .i64 b,.func (.func g) #[] cb] w (Now f 2 w0 blk off (p ++ zaj (ltOf cf) (u ++ v) ++ q))
def At (f:α→List Value) (w0:World) (blk off:Nat) (l:List α) (w:World):Prop:=∃ d:Array α,SWK f 2 w0 blk off d w∧d.toList=l
theorem merge_gen {nn:Nat} {dk:Array α} {w:World} (R:RowK (enc f0 f1) 2 w0 blk off d0) (S:SWK (enc f0 f1) 2 w0 blk off dk w) (C:CmpLays Tryz.prog g cb (enc f0 f1) 2 cf blk off d0.size w0) (eg:∀ args w,(callFunc g args).run Tryz.prog w = .ok (.enter g args) w) (hO:Swo (ltOf cf))
  {p u v q:List α} (hd:dk.toList=p ++ u ++ v ++ q) (hs:dk.size=d0.size) (hu:zar (ltOf cf) u) (hv:zar (ltOf cf) v) {a m b:Nat} (ha:a=p.length) (hm:m=a+u.length) (hb:b=m+v.length) (h2:2≤u.length) (h3:2≤v.length) (hn1:b - a≤nn+1) (cap:Nat) (hn:d0.size≤1000000)
  (IH:zhi cf (enc f0 f1) g cb w0 blk off cap d0 nn) :
  Calls Tryz.prog 196 #[.slice (some ⟨blk,off,none⟩) d0.size cap,.int .i64 a,.int .i64 m,.int .i64 b,.func (.func g) #[] cb] w (Now (enc f0 f1) 2 w0 blk off (p ++ zaj (ltOf cf) (u ++ v) ++ q)):=by
 have hbn:b≤d0.size:=by rw[← hs,← Array.length_toList,hd];simp;omega
 obtain⟨mid,hmid⟩ : ∃ x,x=(a+b) / 2:=⟨_,rfl⟩
 obtain⟨n,hnn⟩ : ∃ x,x=mid+m:=⟨_,rfl⟩
 obtain⟨pn,hpn⟩ : ∃ x,x=n - 1:=⟨_,rfl⟩
 obtain⟨lo,hi,hlo⟩ : ∃ lo hi,(mid < m→lo=n - b∧hi=mid)∧(¬ mid < m→lo=a∧hi=m):=by
  by_cases h:mid < m
  ·exact⟨n - b,mid,fun _=>⟨rfl,rfl⟩,fun h'=>absurd h h'⟩
  exact⟨a,m,fun h'=>absurd h' h,fun _=>⟨rfl,rfl⟩⟩
 have hb1:a≤lo∧lo≤hi∧hi≤m∧hi≤n∧m≤n - hi∧n - 1 - lo < b∧0 < lo+m:=by
  by_cases h:mid < m
  ·have:=hlo.1 h;omega
  have:=hlo.2 h;omega
 have hM:=mono_sym hO (d:=dk) (a:=a) (m:=m) (b:=b) (n:=n) (lo:=lo) (hi:=hi) (zd2 hO (p:=p) (u:=u) (q:=v ++ q) (by rw[hd];simp) hu ha (by omega)) (zd2 hO (p:=p ++ u) (u:=v) (q:=q) hd hv (by simp;omega) (by simp;omega)) hb1.1 hb1.2.2.1 hb1.2.2.2.2.1 hb1.2.2.2.2.2.1 hb1.2.2.2.1
 have hend:=fun s (hB:BS (fun c=>!ltOf cf dk[n - 1 - c]! dk[c]!) lo hi s s)=>sym_cut hO hd hu hv ha hm hb hmid hnn (by omega) hlo hB
 rw[← hpn] at hM hend
 have hB0:=BS.start (fun c=>!ltOf cf dk[pn - c]! dk[c]!) hb1.2.1
 obtain⟨tgt,htg⟩ : ∃ l,l=p ++ zaj (ltOf cf) (u ++ v) ++ q:=⟨_,rfl⟩
 have k1:IntKind.i64.wrap ((m:Int) - (a:Int))=(m:Int) - (a:Int):=IntWalk.i64_in _ (by omega)
 have k2:((m:Int) - (a:Int) == 1)=false:=by rw[beq_eq_false_iff_ne];omega
 have k3:IntKind.i64.wrap ((b:Int) - (m:Int))=(b:Int) - (m:Int):=IntWalk.i64_in _ (by omega)
 have k4:((b:Int) - (m:Int) == 1)=false:=by rw[beq_eq_false_iff_ne];omega
 have k5:IntKind.i64.wrap ((a:Int)+(b:Int))=(a:Int)+(b:Int):=IntWalk.i64_in _ (by omega)
 have k6:((a:Int)+(b:Int)) / 2=(mid:Int):=by omega
 have k7:IntKind.i64.wrap ((mid:Int)+(m:Int))=(n:Int):=by rw[IntWalk.i64_in _ (by omega)];omega
 have k8:IntKind.i64.wrap ((n:Int) - 1)=(pn:Int):=by rw[IntWalk.i64_in _ (by omega)];omega
 have ham:a < m:=by omega
 have hmb:m < b:=by omega
 have amid:a < mid:=by omega
 have midb:mid < b:=by omega
 rw[← htg]
 obtain⟨N,hN⟩ : ∃ N,N=d0.size:=⟨_,rfl⟩
 rw[← hN] at hn hs hbn ⊢
 have IH':zhi cf (enc f0 f1) g cb w0 blk off cap d0 nn:=IH
 clear IH
 have hpp:p.length=a:=ha.symm
 obtain⟨HS,HM,HB0,Hend,Htg,Hs,HN,HC,HR,HO,HIH',Hd,Hu,Hv,Ha,Hm⟩:=hd16 S hM hB0 hend htg hs hN C R hO IH' hd hu hv ha hm;obtain⟨Hb,Hpp,Hmid,Hnn,Hpn,Hlo,Hb1,Hn1⟩:=hd8 hb hpp hmid hnn hpn hlo hb1 hn1;clear S hM hB0 hend htg hs hN C R hO IH' hd hu hv ha hm hb hpp hmid hnn hpn hlo hb1 hn1
 go_enter Tryz.func196,Tryz.ntmps196
 go_upto_if 140 with fail
 clear k1 k2 k3 k4 k5 k6
 go_cut [20,21] from 141 to 146 (fun x y wx=>x = .int .i64 lo∧y = .int .i64 hi∧wx=w)
 case first =>
  by_cases hc:mid < m
  ·obtain⟨e1,e2⟩:=Hlo.out.1 hc
   have k9:IntKind.i64.wrap ((n:Int) - (b:Int))=(lo:Int):=by rw[IntWalk.i64_in _ (by have:=Hmid.out;have:=Hnn.out;omega)];have:=Hmid.out;have:=Hnn.out;omega
   have k10:decide ((mid:Int) < (m:Int))=true:=decide_eq_true (by omega)
   obtain⟨He1,He2⟩:=hd2 e1 e2;clear e1 e2
   go_wp2_with fail
   go_meet
   exact⟨by rw[He1.out],by rw[He2.out],rfl⟩
  obtain⟨e1,e2⟩:=Hlo.out.2 hc
  have k10:decide ((mid:Int) < (m:Int))=false:=decide_eq_false (by omega)
  obtain⟨He1,He2⟩:=hd2 e1 e2;clear e1 e2
  go_wp2_with fail
  go_meet
  exact⟨by rw[He1.out],by rw[He2.out],rfl⟩
 case rest =>
  obtain⟨rfl,rfl,rfl⟩:=hcut
  go_wp2_with fail
  clear k8
  go_loopw [20,21] (fun x y wr=>∃ (i j:Nat),x = .int .i64 i∧y = .int .i64 j∧BS (fun c=>!ltOf cf dk[pn - c]! dk[c]!) lo hi i j∧SWK (enc f0 f1) 2 w0 blk off dk wr) (fun x y _=>(intOf y).toNat - (intOf x).toNat)
  case atStart=>exact⟨lo,hi,rfl,rfl,HB0.out,HS.out⟩
  case round =>
   obtain⟨i,j,rfl,rfl,hB,S⟩:=hrel
   have l1:=hB.l1
   have l2:=hB.l2
   have l3:=hB.l3
   by_cases hlt:i < j
   ·have R:=HR.out
    have C:=HC.out
    have hs:=Hs.out
    rw[HN.out] at hs
    have hN':=HN.out
    have hbb:=Hb1.out
    have hpn:=Hpn.out
    have hdks:dk.size=N:=Hs.out
    obtain⟨h,hh⟩ : ∃ h,h=(i+j) / 2:=⟨_,rfl⟩
    have w1:IntKind.i64.wrap ((i:Int)+(j:Int))=(i:Int)+(j:Int):=IntWalk.i64_in _ (by omega)
    have w2:((i:Int)+(j:Int)) / 2=(h:Int):=by omega
    have hpc:pn - h < N:=by omega
    have hhc:h < N:=by omega
    obtain⟨p0,_,p1,_⟩:=cells S R hs (pn - h) (by omega)
    obtain⟨x,hx⟩ : ∃ v,v=dk[pn - h]!:=⟨_,rfl⟩
    rw[← hx] at p0 p1
    obtain⟨x0,hx0⟩ : ∃ v,v=f0 x:=⟨_,rfl⟩
    rw[← hx0] at p0
    obtain⟨x1,hx1⟩ : ∃ v,v=f1 x:=⟨_,rfl⟩
    rw[← hx1] at p1
    obtain⟨q0,_,q1,_⟩:=cells S R hs (h) (by omega)
    obtain⟨y,hy⟩ : ∃ v,v=dk[h]!:=⟨_,rfl⟩
    rw[← hy] at q0 q1
    obtain⟨y0,hy0⟩ : ∃ v,v=f0 y:=⟨_,rfl⟩
    rw[← hy0] at q0
    obtain⟨y1,hy1⟩ : ∃ v,v=f1 y:=⟨_,rfl⟩
    rw[← hy1] at q1
    have hcg:∀ V,Below wr.heap.size wr V→Calls Tryz.prog g (#[.agg #[.string (x0),.string (x1)],.agg #[.string (y0),.string (y1)]] ++ cb) V fun e w'=>e = .returned (.int .i64 (cf x y))∧Below V.heap.size V w':=fun V hV=>by rw[hx0,hy0,hx1,hy1];exact C V (SortR.SRW.below S hV).frm x y
    have hczf:∀ V,Below wr.heap.size wr V→V.cell? ⟨blk,off+(pn - h) * 2,none⟩=some (.string (x0))∧V.cell? ⟨blk,off+(pn - h) * 2+1,none⟩=some (.string (x1))∧V.cell? ⟨blk,off+(h) * 2,none⟩=some (.string (y0))∧V.cell? ⟨blk,off+(h) * 2+1,none⟩=some (.string (y1)):=fun V hV=>⟨cell_later hV p0,cell_later hV p1,cell_later hV q0,cell_later hV q1⟩
    obtain⟨cv,hcv⟩ : ∃ v,v=cf x y:=⟨_,rfl⟩
    rw[← hcv] at hcg
    have hGR:=S
    have hl:(h:Int) < (N:Int):=by omega
    have w3:IntKind.i64.wrap ((pn:Int) - (h:Int))=((pn - h:Nat):Int):=by rw[IntWalk.i64_in _ (by omega)];omega
    obtain⟨ph,hph⟩ : ∃ x,x=pn - h:=⟨_,rfl⟩
    have al:(ph:Int) < (N:Int):=by omega
    rw[← hph] at w3
    rw[← hph] at p0 p1 hczf
    have hij1:i≤h:=by omega
    have hij2:h < j:=by omega
    clear S hs R C hN' hbb hpn hdks hpc hhc
    cases hdec:decide (cv < 0) with
    | true =>
     have hB2:=hB.right HM.out hij1 hij2 (by show (!ltOf cf dk[pn - h]! dk[h]!)=false;rw[← hx,← hy];unfold ltOf;rw[← hcv,hdec];rfl)
     have hlv:cv < 0:=of_decide_eq_true hdec
     have hdn:(!decide (cv < 0))=false:=by rw[hdec];rfl
     obtain⟨HB,HB2,Hx,Hy,Hx0,Hy0,Hx1,Hy1,HGR,Hcg,Hczf,Hcv,Hh,Hdec,Hph⟩:=hd15 hB hB2 hx hy hx0 hy0 hx1 hy1 hGR hcg hczf hcv hh hdec hph;clear hB hB2 hx hy hx0 hy0 hx1 hy1 hGR hcg hczf hcv hh hdec hph
     go_wp2_with fail
     have mixed:Tryz.prog.follows .mixedOrders=true:=by kernel_rfl
     have hbz:=zak (Below.refl wr.heap.size wr) 1
     have hcz:=Hczf.out _ hbz
     go_region_held3 (fun w'=>w'.cell? ⟨blk,off+(ph) * 2,none⟩=some (.string (x0))∧w'.cell? ⟨blk,off+(ph) * 2+1,none⟩=some (.string (x1))∧w'.cell? ⟨blk,off+(h) * 2,none⟩=some (.string (y0))∧w'.cell? ⟨blk,off+(h) * 2+1,none⟩=some (.string (y1))) (first | exact hcz | go_keep) (first | (go_at_fn g;refine (Hcg.out _ (by exact hbz)).mono ?_;rintro e wz ⟨rfl,hsz⟩;replace hbz:=hbz.trans (hsz.mono hbz.size);replace hcz:=Hczf.out _ hbz))
     all_goals
      go_wp2_with fail
      go_roundw
      case rel=>exact⟨i,h,rfl,rfl,HB2.out,HGR.out.below hbz⟩
      case measure=>simp[intOf];omega
    | false =>
     have hB2:=hB.left HM.out hij1 hij2 (by show (!ltOf cf dk[pn - h]! dk[h]!)=true;rw[← hx,← hy];unfold ltOf;rw[← hcv,hdec];rfl)
     have hlv:¬ cv < 0:=of_decide_eq_false hdec
     have hdn:(!decide (cv < 0))=true:=by rw[hdec];rfl
     obtain⟨HB,HB2,Hx,Hy,Hx0,Hy0,Hx1,Hy1,HGR,Hcg,Hczf,Hcv,Hh,Hdec,Hph⟩:=hd15 hB hB2 hx hy hx0 hy0 hx1 hy1 hGR hcg hczf hcv hh hdec hph;clear hB hB2 hx hy hx0 hy0 hx1 hy1 hGR hcg hczf hcv hh hdec hph
     go_wp2_with fail
     have mixed:Tryz.prog.follows .mixedOrders=true:=by kernel_rfl
     have hbz:=zak (Below.refl wr.heap.size wr) 1
     have hcz:=Hczf.out _ hbz
     go_region_held3 (fun w'=>w'.cell? ⟨blk,off+(ph) * 2,none⟩=some (.string (x0))∧w'.cell? ⟨blk,off+(ph) * 2+1,none⟩=some (.string (x1))∧w'.cell? ⟨blk,off+(h) * 2,none⟩=some (.string (y0))∧w'.cell? ⟨blk,off+(h) * 2+1,none⟩=some (.string (y1))) (first | exact hcz | go_keep) (first | (go_at_fn g;refine (Hcg.out _ (by exact hbz)).mono ?_;rintro e wz ⟨rfl,hsz⟩;replace hbz:=hbz.trans (hsz.mono hbz.size);replace hcz:=Hczf.out _ hbz))
     all_goals
      go_wp2_with fail
      go_roundw
      case rel=>exact⟨h+1,j,by go_num,rfl,HB2.out,HGR.out.below hbz⟩
      case measure=>simp[intOf];omega
   obtain rfl:i=j:=by omega
   have hE:=Hend.out i hB
   obtain⟨HB,HS,HE⟩:=hd3 hB S hE;clear hB S hE
   obtain⟨x1,x2,y1,y2,e1,e2,e3,e4,e5⟩:=HE.out
   have hwn:IntKind.i64.wrap ((n:Int) - (i:Int))=((n - i:Nat):Int):=by
    have:=Hb1.out;have:=Hnn.out;have:=Hmid.out
    rw[IntWalk.i64_in _ (by omega)];omega
   have c1:i < m↔0 < x2.length:=by
    have:=Hm.out;rw[e1,List.length_append] at this;omega
   have c2:m < n - i↔0 < y1.length:=by omega
   have hln:x1.length+y1.length=mid - a:=by have:=Hnn.out;omega
   have c3:a < i↔0 < x1.length:=by omega
   have c4:i < mid↔0 < y1.length:=by omega
   have hlv:m+(y1.length+y2.length)=b:=by have:=Hb.out;rw[e2,List.length_append] at this;omega
   have hlu:a+(x1.length+x2.length)=m:=by have:=Hm.out;rw[e1,List.length_append] at this;omega
   have c5:mid < n - i↔0 < x2.length:=by have:=Hnn.out;omega
   have c6:n - i < b↔0 < y2.length:=by omega
   obtain⟨en,hen⟩ : ∃ x,x=n - i:=⟨_,rfl⟩
   rw[← hen] at hwn c2 c5 c6 e4
   -- the rotation
   have A0:∀ wr,SWK (enc f0 f1) 2 w0 blk off dk wr→0 < x2.length→0 < y1.length→Calls Tryz.prog 212 #[.slice (some ⟨blk,off,none⟩) N cap,.int .i64 i,.int .i64 m,.int .i64 en,.func (.func g) #[] cb] wr (Now (enc f0 f1) 2 w0 blk off (p ++ x1 ++ y1 ++ x2 ++ (y2 ++ q))):=fun wr S h1 h2=>by
    have:=zkx (p:=p ++ x1) (u:=x2) (v:=y1) (q:=y2 ++ q) (a:=i) (m:=m) (b:=en) HR.out S (by rw[Hd.out,e1,e2];simp) (by rw[Hs.out,HN.out]) (by rw[List.length_append,Hpp.out];omega) (by omega) (by omega) h1 h2 cap (by rw[← HN.out];exact hn) (.func (.func g) #[] cb)
    rw[← HN.out] at this
    exact this
   have A1:(¬ 0 < x2.length∨¬ 0 < y1.length)→At (enc f0 f1) w0 blk off (p ++ x1 ++ y1 ++ x2 ++ (y2 ++ q)) wr:=fun h=>by
    refine⟨dk,HS.out,?_⟩
    rw[Hd.out,e1,e2]
    rcases h with h | h
    ·have:x2 = []:=List.eq_nil_of_length_eq_zero (by omega)
     subst this;simp
    have:y1 = []:=List.eq_nil_of_length_eq_zero (by omega)
    subst this;simp
   have hsz:∀ d:Array α,d.toList=p ++ x1 ++ y1 ++ x2 ++ (y2 ++ q)→d.size=d0.size:=fun d h=>by
    rw[← HN.out,← Hs.out,← Array.length_toList,← Array.length_toList,h,Hd.out,e1,e2]
    simp only[List.length_append];omega
   have hsz2:∀ d:Array α,d.toList=p ++ zaj (ltOf cf) (x1 ++ y1) ++ x2 ++ (y2 ++ q)→d.size=d0.size:=fun d h=>by
    rw[← HN.out,← Hs.out,← Array.length_toList,← Array.length_toList,h,Hd.out,e1,e2]
    simp only[List.length_append,zbt HO.out];omega
   have su:zar (ltOf cf) x1∧zar (ltOf cf) x2:=by have:=Hu.out;rw[e1] at this;exact⟨(List.pairwise_append.1 this).1,(List.pairwise_append.1 this).2.1⟩
   have sv:zar (ltOf cf) y1∧zar (ltOf cf) y2:=by have:=Hv.out;rw[e2] at this;exact⟨(List.pairwise_append.1 this).1,(List.pairwise_append.1 this).2.1⟩
   have B0:∀ wr,At (enc f0 f1) w0 blk off (p ++ x1 ++ y1 ++ x2 ++ (y2 ++ q)) wr→0 < x1.length→0 < y1.length→Calls Tryz.prog 196 #[.slice (some ⟨blk,off,none⟩) N cap,.int .i64 a,.int .i64 i,.int .i64 mid,.func (.func g) #[] cb] wr (Now (enc f0 f1) 2 w0 blk off (p ++ zaj (ltOf cf) (x1 ++ y1) ++ (x2 ++ (y2 ++ q)))):=fun wr ⟨d,S,h⟩ h1 h2=>by
    have:=HIH'.out d wr p x1 y1 (x2 ++ (y2 ++ q)) a i mid S (by rw[h];simp) (hsz d h) su.1 sv.1 Hpp.out.symm (by omega) (by omega) h1 h2 (by have:=Hn1.out;omega)
    rw[← HN.out] at this
    exact this
   have B1:∀ wr,At (enc f0 f1) w0 blk off (p ++ x1 ++ y1 ++ x2 ++ (y2 ++ q)) wr→(¬ 0 < x1.length∨¬ 0 < y1.length)→At (enc f0 f1) w0 blk off (p ++ zaj (ltOf cf) (x1 ++ y1) ++ (x2 ++ (y2 ++ q))) wr:=fun wr ⟨d,S,h⟩ h1=>by
    refine⟨d,S,?_⟩
    rw[h]
    rcases h1 with h1 | h1
    ·have:x1 = []:=List.eq_nil_of_length_eq_zero (by omega)
     subst this;simp only[List.append_nil,List.nil_append,zf9 HO.out sv.1,List.append_assoc]
    have:y1 = []:=List.eq_nil_of_length_eq_zero (by omega)
    subst this;simp only[List.append_nil,List.nil_append,zf9 HO.out su.1,List.append_assoc]
   have D0:∀ wr,At (enc f0 f1) w0 blk off (p ++ zaj (ltOf cf) (x1 ++ y1) ++ (x2 ++ (y2 ++ q))) wr→0 < x2.length→0 < y2.length→Calls Tryz.prog 196 #[.slice (some ⟨blk,off,none⟩) N cap,.int .i64 mid,.int .i64 en,.int .i64 b,.func (.func g) #[] cb] wr (Now (enc f0 f1) 2 w0 blk off tgt):=fun wr ⟨d,S,h⟩ h1 h2=>by
    have:=HIH'.out d wr (p ++ zaj (ltOf cf) (x1 ++ y1)) x2 y2 q mid en b S (by rw[h];simp) (hsz2 d (by rw[h];simp)) su.2 sv.2 (by rw[List.length_append,zbt HO.out,List.length_append,Hpp.out];omega) (by omega) (by omega) h1 h2 (by have:=Hn1.out;omega)
    rw[← HN.out] at this
    rw[Htg.out,e5]
    simpa using this
   have D1:∀ wr,At (enc f0 f1) w0 blk off (p ++ zaj (ltOf cf) (x1 ++ y1) ++ (x2 ++ (y2 ++ q))) wr→(¬ 0 < x2.length∨¬ 0 < y2.length)→At (enc f0 f1) w0 blk off tgt wr:=fun wr ⟨d,S,h⟩ h1=>by
    refine⟨d,S,?_⟩
    rw[h,Htg.out,e5]
    rcases h1 with h1 | h1
    ·have:x2 = []:=List.eq_nil_of_length_eq_zero (by omega)
     subst this;simp only[List.append_nil,List.nil_append,zf9 HO.out sv.2,List.append_assoc]
    have:y2 = []:=List.eq_nil_of_length_eq_zero (by omega)
    subst this;simp only[List.append_nil,List.nil_append,zf9 HO.out su.2,List.append_assoc]
   -- which of the parts hold elements
   obtain⟨X1,hX1⟩ : ∃ c,c=decide (0 < x1.length):=⟨_,rfl⟩
   obtain⟨X2,hX2⟩ : ∃ c,c=decide (0 < x2.length):=⟨_,rfl⟩
   obtain⟨Y1,hY1⟩ : ∃ c,c=decide (0 < y1.length):=⟨_,rfl⟩
   obtain⟨Y2,hY2⟩ : ∃ c,c=decide (0 < y2.length):=⟨_,rfl⟩
   have g1:decide ((i:Int) < (m:Int))=X2:=by rw[hX2];exact decide_eq_decide.2 (by omega)
   have g2:decide ((m:Int) < (en:Int))=Y1:=by rw[hY1];exact decide_eq_decide.2 (by omega)
   have g3:decide ((a:Int) < (i:Int))=X1:=by rw[hX1];exact decide_eq_decide.2 (by omega)
   have g4:decide ((i:Int) < (mid:Int))=Y1:=by rw[hY1];exact decide_eq_decide.2 (by omega)
   have g5:decide ((mid:Int) < (en:Int))=X2:=by rw[hX2];exact decide_eq_decide.2 (by omega)
   have g6:decide ((en:Int) < (b:Int))=Y2:=by rw[hY2];exact decide_eq_decide.2 (by omega)
   have r1:decide (i < m)=X2:=by rw[hX2];exact decide_eq_decide.2 (by omega)
   have r2:decide (m < en)=Y1:=by rw[hY1];exact decide_eq_decide.2 (by omega)
   have r3:decide (a < i)=X1:=by rw[hX1];exact decide_eq_decide.2 (by omega)
   have r4:decide (i < mid)=Y1:=by rw[hY1];exact decide_eq_decide.2 (by omega)
   have r5:decide (mid < en)=X2:=by rw[hX2];exact decide_eq_decide.2 (by omega)
   have r6:decide (en < b)=Y2:=by rw[hY2];exact decide_eq_decide.2 (by omega)
   clear c1 c2 c3 c4 c5 c6 e1 e2 e3 e4 e5 hln hlv hlu l1 l2 l3 hlt
   obtain⟨HA0,HA1,HB0,HB1,HD0,HD1,HX1,HX2,HY1,HY2,Hsz,Hsz2,Hsu,Hsv,Hen⟩:=hd15 A0 A1 B0 B1 D0 D1 hX1 hX2 hY1 hY2 hsz hsz2 su sv hen;clear A0 A1 B0 B1 D0 D1 hX1 hX2 hY1 hY2 hsz hsz2 su sv hen
   go_upto_region 39 with fail
   go_cut [185] from 178 to 185 (fun x wx=>x = .bool (X2 && Y1)∧wx=wr)
   case first=>cases X2 <;> cases Y1 <;> (go_wp2_with fail;go_meet;exact⟨rfl,rfl⟩)
   case rest =>
   obtain⟨rfl,rfl⟩:=hcut
   go_upto_if 185 with fail
   go_cut [] from 178 to 191 (fun wx=>At (enc f0 f1) w0 blk off (p ++ x1 ++ y1 ++ x2 ++ (y2 ++ q)) wx)
   case first =>
    cases hc:(X2 && Y1) with
    | true =>
     have hc2:=HA0.out _ HS.out (zey HX2.out HY1.out hc).1 (zey HX2.out HY1.out hc).2
     obtain⟨Hc,Hc2⟩:=hd2 hc hc2;clear hc hc2
     go_wp2_with fail
     refine Hc2.out.mono ?_
     rintro e w2 ⟨rfl,hw2⟩
     have Hw2:=hd hw2;clear hw2
     go_wp2_with fail
     go_meet
     exact Hw2.out
    | false =>
     have hc2:=HA1.out (and_no HX2.out HY1.out hc)
     obtain⟨Hc,Hc2⟩:=hd2 hc hc2;clear hc hc2
     go_wp2_with fail
     go_meet
     exact Hc2.out
   case rest =>
   have hA:=hcut
   clear hcut
   have HA:=hd hA;clear hA
   go_upto_region 41 with fail
   go_cut [199] from 192 to 199 (fun x wx=>x = .bool (X1 && Y1)∧wx=wc)
   case first=>cases X1 <;> cases Y1 <;> (go_wp2_with fail;go_meet;exact⟨rfl,rfl⟩)
   case rest =>
   obtain⟨rfl,rfl⟩:=hcut
   go_upto_if 199 with fail
   go_cut [] from 192 to 205 (fun wx=>At (enc f0 f1) w0 blk off (p ++ zaj (ltOf cf) (x1 ++ y1) ++ (x2 ++ (y2 ++ q))) wx)
   case first =>
    cases hc:(X1 && Y1) with
    | true =>
     have hc2:=HB0.out _ HA.out (zey HX1.out HY1.out hc).1 (zey HX1.out HY1.out hc).2
     obtain⟨Hc,Hc2⟩:=hd2 hc hc2;clear hc hc2
     go_wp2_with fail
     refine Hc2.out.mono ?_
     rintro e w2 ⟨rfl,hw2⟩
     have Hw2:=hd hw2;clear hw2
     go_wp2_with fail
     go_meet
     exact Hw2.out
    | false =>
     have hc2:=HB1.out _ HA.out (and_no HX1.out HY1.out hc)
     obtain⟨Hc,Hc2⟩:=hd2 hc hc2;clear hc hc2
     go_wp2_with fail
     go_meet
     exact Hc2.out
   case rest =>
   have hB:=hcut
   clear hcut
   have HB:=hd hB;clear hB
   go_upto_region 43 with fail
   go_cut [213] from 206 to 213 (fun x wx=>x = .bool (X2 && Y2)∧wx=wc)
   case first=>cases X2 <;> cases Y2 <;> (go_wp2_with fail;go_meet;exact⟨rfl,rfl⟩)
   case rest =>
   obtain⟨rfl,rfl⟩:=hcut
   go_upto_if 213 with fail
   cases hc:(X2 && Y2) with
   | true =>
    have hc2:=HD0.out _ HB.out (zey HX2.out HY2.out hc).1 (zey HX2.out HY2.out hc).2
    obtain⟨Hc,Hc2⟩:=hd2 hc hc2;clear hc hc2
    go_wp2_with fail
    refine Hc2.out.mono ?_
    rintro e w2 ⟨rfl,hw2⟩
    have Hw2:=hd hw2;clear hw2
    go_wp2_with fail
    go_end0
    exact⟨rfl,Hw2.out⟩
   | false =>
    have hc2:=HD1.out _ HB.out (and_no HX2.out HY2.out hc)
    obtain⟨Hc,Hc2⟩:=hd2 hc hc2;clear hc hc2
    go_wp2_with fail
    go_end0
    exact⟨rfl,Hc2.out⟩
end StbSpan
end

section
open Go.Shelf Go.RowKit Go.Lib Go.Sort SortM StbA StbB
namespace StbSpan
variable {α : Type} [Inhabited α] {f0 : α → ByteArray} {f1 : α → ByteArray} {w0 : World} {blk off : Nat} {d0 : Array α}
variable {cf : α → α → Int} {g : Nat} {cb : Array Value}
theorem zha {d:Array α} {w:World} (R:RowK (enc f0 f1) 2 w0 blk off d0) (S:SWK (enc f0 f1) 2 w0 blk off d w) (C:CmpLays Tryz.prog g cb (enc f0 f1) 2 cf blk off d0.size w0) (eg:∀ args w,(callFunc g args).run Tryz.prog w = .ok (.enter g args) w)
  (hs:d.size=d0.size) {a b:Nat} (hab:a≤b) (hb:b≤d0.size) (cap:Nat) (hn:d0.size≤1000000) :
  Calls Tryz.prog 195 #[.slice (some ⟨blk,off,none⟩) d0.size cap,.int .i64 a,.int .i64 b,.func (.func g) #[] cb] w fun e w'=>e = .returned (.tuple #[])∧SWK (enc f0 f1) 2 w0 blk off (Sort.insertionSort (ltOf cf) d a b) w':=by
 obtain⟨N,hN⟩ : ∃ N,N=d0.size:=⟨_,rfl⟩
 rw[← hN] at hn hs hb ⊢
 obtain⟨HS,Hs,HN,HC,HR⟩:=hd5 S hs hN C R;clear S hs hN C R
 go_enter Tryz.func195,Tryz.ntmps195
 go_wp2_with fail
 go_loopw [8] (fun x wr=>∃ (i:Nat) (dk:Array α),x = .int .i64 i∧a < i∧i≤b+1∧dk.size=N∧SWK (enc f0 f1) 2 w0 blk off dk wr∧insOuter (ltOf cf) a b i dk=insOuter (ltOf cf) a b (a+1) d) (fun x _=>b+1 - (intOf x).toNat)
 case atStart=>exact⟨a+1,d,by go_num,by omega,by omega,Hs.out,HS.out,rfl⟩
 case round =>
  obtain⟨i,dk,rfl,hai,hib,hsk,S,hO⟩:=hrel
  by_cases hlt:i < b
  ·have w1:IntKind.i64.wrap ((i:Int)+1)=(i:Int)+1:=IntWalk.i64_in _ (by omega)
   have hltz:(i:Int) < (b:Int):=by omega
   obtain⟨HO,HS,Hsk⟩:=hd3 hO S hsk;clear hO S hsk
   go_wp2_with fail
   go_loopw [9] (fun x wq=>∃ (j:Nat) (dj:Array α),x = .int .i64 j∧a≤j∧j≤i∧dj.size=N∧SWK (enc f0 f1) 2 w0 blk off dj wq∧insInner (ltOf cf) a j dj=insInner (ltOf cf) a i dk) (fun x _=>(intOf x).toNat)
   case atStart=>exact⟨i,dk,rfl,by omega,Nat.le_refl _,Hsk.out,HS.out,rfl⟩
   case round =>
    obtain⟨j,dj,rfl,haj,hji,hl,S,hI⟩:=hrel
    have out:(j≤a∨ltOf cf dj[j]! dj[j - 1]! = false)→insOuter (ltOf cf) a b (i+1) dj=insOuter (ltOf cf) a b (a+1) d:=fun hs=>by
     rw[← HO.out,insOuter_go _ _ _ _ _ hlt,← hI,insInner_stop _ _ _ _ hs]
    by_cases hja:a < j
    ·obtain⟨jp,rfl⟩ : ∃ jp,j=jp+1:=⟨j - 1,by omega⟩
     have hlt2:=hlt
     have R:=HR.out
     have C:=HC.out
     rw[HN.out] at hl
     have hN':=HN.out
     obtain⟨p0,_,p1,_⟩:=cells S R hl (jp+1) (by omega)
     obtain⟨x,hx⟩ : ∃ v,v=dj[jp+1]!:=⟨_,rfl⟩
     rw[← hx] at p0 p1
     obtain⟨x0,hx0⟩ : ∃ v,v=f0 x:=⟨_,rfl⟩
     rw[← hx0] at p0
     obtain⟨x1,hx1⟩ : ∃ v,v=f1 x:=⟨_,rfl⟩
     rw[← hx1] at p1
     obtain⟨q0,_,q1,_⟩:=cells S R hl (jp) (by omega)
     obtain⟨y,hy⟩ : ∃ v,v=dj[jp]!:=⟨_,rfl⟩
     rw[← hy] at q0 q1
     obtain⟨y0,hy0⟩ : ∃ v,v=f0 y:=⟨_,rfl⟩
     rw[← hy0] at q0
     obtain⟨y1,hy1⟩ : ∃ v,v=f1 y:=⟨_,rfl⟩
     rw[← hy1] at q1
     have hcg:∀ V,Below wr.heap.size wr V→Calls Tryz.prog g (#[.agg #[.string (x0),.string (x1)],.agg #[.string (y0),.string (y1)]] ++ cb) V fun e w'=>e = .returned (.int .i64 (cf x y))∧Below V.heap.size V w':=fun V hV=>by rw[hx0,hy0,hx1,hy1];exact C V (SortR.SRW.below S hV).frm x y
     have hczf:∀ V,Below wr.heap.size wr V→V.cell? ⟨blk,off+(jp+1) * 2,none⟩=some (.string (x0))∧V.cell? ⟨blk,off+(jp+1) * 2+1,none⟩=some (.string (x1))∧V.cell? ⟨blk,off+(jp) * 2,none⟩=some (.string (y0))∧V.cell? ⟨blk,off+(jp) * 2+1,none⟩=some (.string (y1)):=fun V hV=>⟨cell_later hV p0,cell_later hV p1,cell_later hV q0,cell_later hV q1⟩
     obtain⟨cv,hcv⟩ : ∃ v,v=cf x y:=⟨_,rfl⟩
     rw[← hcv] at hcg
     have hGR:=S
     have w2:IntKind.i64.wrap (jp:Int)=(jp:Int):=IntWalk.i64_in _ (by omega)
     have n2:((jp:Int)+1).toNat=jp+1:=by omega
     have u2:(0:Int)≤(jp:Int)+1:=by omega
     have v1:(jp:Int) < (N:Int):=by omega
     have v2:(jp:Int)+1 < (N:Int):=by omega
     have v3:(a:Int) < (jp:Int)+1:=by omega
     clear S R C hN'
     cases hdec:decide (cv < 0) with
     | true =>
      have hlv:cv < 0:=of_decide_eq_true hdec
      have hI2:insInner (ltOf cf) a jp (swp dj (jp+1) jp)=insInner (ltOf cf) a i dk:=by
       rw[← hI]
       have:=insInner_go (ltOf cf) a (jp+1) dj hja (by simp only[Nat.add_sub_cancel];rw[← hx,← hy];unfold ltOf;rw[← hcv];exact hdec)
       simp only[Nat.add_sub_cancel] at this
       exact this.symm
      obtain⟨HI,HI2,Hl,Hout,Hx,Hy,Hx0,Hy0,Hx1,Hy1,HGR,Hcg,Hczf,Hcv,Hdec⟩:=hd15 hI hI2 hl out hx hy hx0 hy0 hx1 hy1 hGR hcg hczf hcv hdec;clear hI hI2 hl out hx hy hx0 hy0 hx1 hy1 hGR hcg hczf hcv hdec
      go_wp2_with fail
      have mixed:Tryz.prog.follows .mixedOrders=true:=by kernel_rfl
      have hbz:=zak (Below.refl wr.heap.size wr) 1
      have hcz:=Hczf.out _ hbz
      go_region_held3 (fun w'=>w'.cell? ⟨blk,off+(jp+1) * 2,none⟩=some (.string (x0))∧w'.cell? ⟨blk,off+(jp+1) * 2+1,none⟩=some (.string (x1))∧w'.cell? ⟨blk,off+(jp) * 2,none⟩=some (.string (y0))∧w'.cell? ⟨blk,off+(jp) * 2+1,none⟩=some (.string (y1))) (first | exact hcz | go_keep) (first | (go_at_fn g;refine (Hcg.out _ (by exact hbz)).mono ?_;rintro e wz ⟨rfl,hsz⟩;replace hbz:=hbz.trans (hsz.mono hbz.size);replace hcz:=Hczf.out _ hbz))
      all_goals
       go_wp2_with fail
       have S:=HGR.out.below hbz
       clear Hcg Hczf p0 q0 p1 q1
       obtain⟨w2,hw2⟩ : ∃ w2,w2=wz:=⟨_,rfl⟩
       rw[← hw2] at S ⊢
       have R:=HR.out
       have hl:=Hl.out
       have hN':=HN.out
       have hEX:=exch S R (jp+1) (jp) (by omega) (by omega)
       obtain⟨p0,pf0,p1,pf1⟩:=cells S R hl (jp+1) (by omega)
       obtain⟨q0,qf0,q1,qf1⟩:=cells S R hl (jp) (by omega)
       obtain⟨x,hx⟩ : ∃ x,x=dj[jp+1]!:=⟨_,rfl⟩
       obtain⟨y,hy⟩ : ∃ y,y=dj[jp]!:=⟨_,rfl⟩
       rw[← hx] at p0 p1 hEX
       rw[← hy] at q0 q1 hEX
       obtain⟨x0,hx0⟩ : ∃ v,v=f0 x:=⟨_,rfl⟩
       obtain⟨y0,hy0⟩ : ∃ v,v=f0 y:=⟨_,rfl⟩
       rw[← hx0] at p0 hEX
       rw[← hy0] at q0 hEX
       obtain⟨x1,hx1⟩ : ∃ v,v=f1 x:=⟨_,rfl⟩
       obtain⟨y1,hy1⟩ : ∃ v,v=f1 y:=⟨_,rfl⟩
       rw[← hx1] at p1 hEX
       rw[← hy1] at q1 hEX
       have na00:¬ off+(jp+1) * 2=off+(jp) * 2:=by omega
       have nb00:¬ off+(jp) * 2=off+(jp+1) * 2:=by omega
       have na01:¬ off+(jp+1) * 2=off+(jp) * 2+1:=by omega
       have nb01:¬ off+(jp) * 2=off+(jp+1) * 2+1:=by omega
       have na10:¬ off+(jp+1) * 2+1=off+(jp) * 2:=by omega
       have nb10:¬ off+(jp) * 2+1=off+(jp+1) * 2:=by omega
       have na11:¬ off+(jp+1) * 2+1=off+(jp) * 2+1:=by omega
       have nb11:¬ off+(jp) * 2+1=off+(jp+1) * 2+1:=by omega
       clear S R hN'
       obtain⟨Hl,Hw2,Hx,Hy,Hx0,Hy0,Hx1,Hy1,HEX⟩:=hd9 hl hw2 hx hy hx0 hy0 hx1 hy1 hEX;clear hl hw2 hx hy hx0 hy0 hx1 hy1 hEX
       go_wp2_with fail
       go_region
       all_goals
        go_wp2_with fail
        go_roundw
        case rel=>exact⟨jp,_,rfl,by omega,by omega,by rw[size_swp,Hl.out,HN.out],HEX.out,HI2.out⟩
        case measure=>simp[intOf] <;> omega
     | false =>
      have hlv:¬ cv < 0:=of_decide_eq_false hdec
      have hO2:=out (Or.inr (by simp only[Nat.add_sub_cancel];rw[← hx,← hy];unfold ltOf;rw[← hcv];exact hdec))
      obtain⟨HI,HO2,Hl,Hout,Hx,Hy,Hx0,Hy0,Hx1,Hy1,HGR,Hcg,Hczf,Hcv,Hdec⟩:=hd15 hI hO2 hl out hx hy hx0 hy0 hx1 hy1 hGR hcg hczf hcv hdec;clear hI hO2 hl out hx hy hx0 hy0 hx1 hy1 hGR hcg hczf hcv hdec
      go_wp2_with fail
      have mixed:Tryz.prog.follows .mixedOrders=true:=by kernel_rfl
      have hbz:=zak (Below.refl wr.heap.size wr) 1
      have hcz:=Hczf.out _ hbz
      go_region_held3 (fun w'=>w'.cell? ⟨blk,off+(jp+1) * 2,none⟩=some (.string (x0))∧w'.cell? ⟨blk,off+(jp+1) * 2+1,none⟩=some (.string (x1))∧w'.cell? ⟨blk,off+(jp) * 2,none⟩=some (.string (y0))∧w'.cell? ⟨blk,off+(jp) * 2+1,none⟩=some (.string (y1))) (first | exact hcz | go_keep) (first | (go_at_fn g;refine (Hcg.out _ (by exact hbz)).mono ?_;rintro e wz ⟨rfl,hsz⟩;replace hbz:=hbz.trans (hsz.mono hbz.size);replace hcz:=Hczf.out _ hbz))
      all_goals
       go_wp2_with fail
       go_roundw
       case rel=>exact⟨i+1,dj,by go_num,by omega,by omega,by rw[Hl.out,HN.out],HGR.out.below hbz,HO2.out⟩
       case measure=>simp[intOf];omega
    have v3:¬ (a:Int) < (j:Int):=by omega
    have v4:decide ((a:Int) < (j:Int))=false:=decide_eq_false v3
    have hO2:=out (Or.inl (by omega))
    have hGR:=S.drew
    obtain⟨HI,HO2,Hl,Hout,HS,HGR⟩:=hd6 hI hO2 hl out S hGR;clear hI hO2 hl out S hGR
    go_wp2_with fail
    go_region
    all_goals
     go_wp2_with fail
     go_roundw
     case rel=>exact⟨i+1,dj,by go_num,by omega,by omega,Hl.out,HGR.out,HO2.out⟩
     case measure=>simp[intOf];omega
  have hltz:¬ (i:Int) < (b:Int):=by omega
  have hE:dk=Sort.insertionSort (ltOf cf) d a b:=by unfold Sort.insertionSort;rw[← hO,insOuter_stop _ _ _ _ _ hlt]
  rw[hE] at S
  obtain⟨HS,HO,HE⟩:=hd3 S hO hE;clear S hO hE
  go_wp2_with fail
  go_end0
  exact⟨rfl,HS.out⟩
end StbSpan
end

section
open Go.Shelf Go.RowKit Go.Lib Go.Sort SortM StbA StbB
namespace StbSpan
variable {α : Type} [Inhabited α] {f0 : α → ByteArray} {f1 : α → ByteArray} {w0 : World} {blk off : Nat} {d0 : Array α}
variable {cf : α → α → Int} {g : Nat} {cb : Array Value}
theorem merge_any (R:RowK (enc f0 f1) 2 w0 blk off d0) (C:CmpLays Tryz.prog g cb (enc f0 f1) 2 cf blk off d0.size w0) (eg:∀ args w,(callFunc g args).run Tryz.prog w = .ok (.enter g args) w) (hO:Swo (ltOf cf)) (cap:Nat) (hn:d0.size≤1000000):∀ n,zhi cf (enc f0 f1) g cb w0 blk off cap d0 n:=by
 intro n
 induction n with
 | zero=>intro dk w p u v q a m b S hd hs hu hv ha hm hb h1 h2 hle;omega
 | succ n IH =>
  intro dk w p u v q a m b S hd hs hu hv ha hm hb h1 h2 hle
  match u,hd,hu,hm,h1 with
  | [],_,_,_,h1=>simp at h1
  | [x],hd,hu,hm,h1=>exact zlc R S C eg hO (p:=p) (v:=v) (q:=q) (x:=x) (by rw[hd];simp) hs hv ha (by simpa using hm) hb cap hn
  | x :: x2 :: u,hd,hu,hm,h1 =>
   match v,hd,hv,hb,h2 with
   | [],_,_,_,h2=>simp at h2
   | [y],hd,hv,hb,h2=>exact zj7 R S C eg hO (p:=p) (u:=x :: x2 :: u) (q:=q) (x:=y) (by rw[hd];simp) hs hu ha hm (by simpa using hb) (by simp) cap hn
   | y :: y2 :: v,hd,hv,hb,h2=>exact merge_gen R S C eg hO hd hs hu hv ha hm hb (by simp) (by simp) hle cap hn IH
theorem zks (R:RowK (enc f0 f1) 2 w0 blk off d0) (C:CmpLays Tryz.prog g cb (enc f0 f1) 2 cf blk off d0.size w0) (eg:∀ args w,(callFunc g args).run Tryz.prog w = .ok (.enter g args) w) (hO:Swo (ltOf cf)) (cap:Nat) (hn:d0.size≤1000000) :
  Calls Tryz.prog 163 #[.slice (some ⟨blk,off,none⟩) d0.size cap,.int .i64 d0.size,.func (.func g) #[] cb] w0 (Now (enc f0 f1) 2 w0 blk off (zaj (ltOf cf) d0.toList)):=by
 have hM:=merge_any R C eg hO cap hn d0.size
 have hS:SWK (enc f0 f1) 2 w0 blk off d0 w0:=R
 have hI:=fun (dk:Array α) (wr:World) (a b:Nat) (S:SWK (enc f0 f1) 2 w0 blk off dk wr) (hs:dk.size=d0.size) (hab:a≤b) (hb:b≤d0.size)=>zha R S C eg hs hab hb cap hn
 obtain⟨l0,hl0⟩ : ∃ l,l=d0.toList:=⟨_,rfl⟩
 have hlen:l0.length=d0.size:=by rw[hl0,Array.length_toList]
 have hP0:P1 (ltOf cf) l0 20 0 d0:=P1.start l0 20 hl0.symm
 rw[← hl0]
 unfold zhi at hM
 obtain⟨N,hN⟩ : ∃ N,N=d0.size:=⟨_,rfl⟩
 rw[← hN] at hn hlen hI hM ⊢
 obtain⟨HM,HS,HI,Hl0,Hlen,HP0,HN,HC,HR,HO⟩:=hd10 hM hS hI hl0 hlen hP0 hN C R hO;clear hM hS hI hl0 hlen hP0 hN C R hO
 go_enter Tryz.func163,Tryz.ntmps163
 go_wp2_with fail
 go_loopw [7,8] (fun x y wr=>∃ (a:Nat) (dk:Array α),x = .int .i64 a∧y = .int .i64 ((a:Int)+20)∧P1 (ltOf cf) l0 20 a dk∧SWK (enc f0 f1) 2 w0 blk off dk wr) (fun x _ _=>N+20 - (intOf x).toNat)
 case atStart=>exact⟨0,d0,rfl,rfl,HP0.out,HS.out⟩
 case round =>
  obtain⟨a,dk,rfl,rfl,hP,S⟩:=hrel
  have hle:=hP.le
  rw[Hlen.out] at hle
  have hsz:=hP.size HO.out
  rw[Hlen.out] at hsz
  by_cases hlt:a+20≤N
  ·have v1:decide ((a:Int)+20≤(N:Int))=true:=decide_eq_true (by omega)
   have v2:(a:Int)+20≤(N:Int):=by omega
   have w1:IntKind.i64.wrap ((a:Int)+20+20)=(a:Int)+20+20:=IntWalk.i64_in _ (by omega)
   have hc:=HI.out dk wr a (a+20) S (by rw[hsz]) (by omega) (by omega)
   rw[show ((a+20:Nat):Int)=(a:Int)+20 by omega] at hc
   have hP2:=hP.step HO.out (by rw[Hlen.out];omega)
   obtain⟨HP,HS,HP2,Hc,Hsz,Hle⟩:=hd6 hP S hP2 hc hsz hle;clear hP S hP2 hc hsz hle
   go_wp2_with fail
   refine Hc.out.mono ?_
   rintro e w2 ⟨rfl,S⟩
   have HS:=hd S;clear S
   go_wp2_with fail
   go_roundw
   case rel=>exact⟨a+20,_,by go_num,by go_num,HP2.out,HS.out⟩
   case measure=>simp[intOf];omega
  have v1:decide ((a:Int)+20≤(N:Int))=false:=decide_eq_false (by omega)
  have v2:¬ (a:Int)+20≤(N:Int):=by omega
  have hc:=HI.out dk wr a N S (by rw[hsz]) (by omega) (by omega)
  have hP2:=hP.last HO.out (n:=N) Hlen.out.symm (by omega)
  clear HI
  obtain⟨HP,HS,HP2,Hc,Hsz,Hle⟩:=hd6 hP S hP2 hc hsz hle;clear hP S hP2 hc hsz hle
  go_wp2_with fail
  refine Hc.out.mono ?_
  rintro e w2 ⟨rfl,S⟩
  clear v1 v2
  have HS:=hd S;clear S
  go_wp2_with fail
  go_loopw [6] (fun x wr=>∃ (bs:Nat) (dk:Array α),x = .int .i64 bs∧20≤bs∧bs≤2 * N+20∧P2 (ltOf cf) l0 bs dk∧SWK (enc f0 f1) 2 w0 blk off dk wr) (fun x _=>N - (intOf x).toNat)
  case atStart=>exact⟨20,_,rfl,Nat.le_refl _,by omega,HP2.out,HS.out⟩
  case round =>
   obtain⟨bs,dk,rfl,hb1,hb2,hP,S⟩:=hrel
   by_cases hlt2:bs < N
   ·have v2:(bs:Int) < (N:Int):=by omega
    have w1:IntKind.i64.wrap (2 * (bs:Int))=2 * (bs:Int):=IntWalk.i64_in _ (by omega)
    have w1':IntKind.i64.wrap ((bs:Int) * 2)=2 * (bs:Int):=by rw[IntWalk.i64_in _ (by omega)];omega
    have hP3:=P3.start hP
    obtain⟨HP,HS,HP3⟩:=hd3 hP S hP3;clear hP S hP3
    go_wp2_with fail
    go_loopw [7,8] (fun x y wr=>∃ (a:Nat) (dk:Array α),x = .int .i64 a∧y = .int .i64 ((a:Int)+2 * (bs:Int))∧P3 (ltOf cf) l0 bs a dk∧SWK (enc f0 f1) 2 w0 blk off dk wr) (fun x _ _=>N+2 * bs - (intOf x).toNat)
    case atStart=>exact⟨0,dk,rfl,by go_num,HP3.out,HS.out⟩
    case round =>
     obtain⟨a,dk,rfl,rfl,hP,S⟩:=hrel
     have hsz:=hP.size HO.out
     rw[Hlen.out] at hsz
     obtain⟨hsz,hle⟩:=hsz
     rw[hsz] at hle
     have w2:IntKind.i64.wrap ((a:Int)+(bs:Int))=(a:Int)+(bs:Int):=IntWalk.i64_in _ (by omega)
     by_cases hlt3:a+2 * bs≤N
     ·have v3:decide ((a:Int)+2 * (bs:Int)≤(N:Int))=true:=decide_eq_true (by omega)
      have v4:(a:Int)+2 * (bs:Int)≤(N:Int):=by omega
      have w3:IntKind.i64.wrap ((a:Int)+2 * (bs:Int)+2 * (bs:Int))=(a:Int)+2 * (bs:Int)+2 * (bs:Int):=IntWalk.i64_in _ (by omega)
      obtain⟨p,u,v,q,q1,q2,q3,q4,q5,q6,q7⟩:=hP.step HO.out (by rw[Hlen.out];omega) (by omega)
      have hc:=HM.out dk wr p u v q a (a+bs) (a+2 * bs) S q1 (by rw[hsz,HN.out]) q2 q3 q4 (by omega) (by omega) (by omega) (by omega) (by omega)
      rw[show ((a+bs:Nat):Int)=(a:Int)+(bs:Int) by omega,show ((a+2 * bs:Nat):Int)=(a:Int)+2 * (bs:Int) by omega] at hc
      clear q1 q2 q3 q4 q5 q6
      obtain⟨HP,HS,Hc,Hsz,Hle,Hq7⟩:=hd6 hP S hc hsz hle q7;clear hP S hc hsz hle q7
      go_wp2_with fail
      refine Hc.out.mono ?_
      rintro e w2 ⟨rfl,d2,S,hd2⟩
      have hP2:=Hq7.out d2 hd2
      clear hd2
      obtain⟨HS,HP2⟩:=hd2 S hP2;clear S hP2
      go_wp2_with fail
      go_roundw
      case rel=>exact⟨a+2 * bs,_,by go_num,by go_num,HP2.out,HS.out⟩
      case measure=>simp[intOf];omega
     have v3:decide ((a:Int)+2 * (bs:Int)≤(N:Int))=false:=decide_eq_false (by omega)
     have v4:¬ (a:Int)+2 * (bs:Int)≤(N:Int):=by omega
     by_cases hm:a+bs < N
     ·have v5:(a:Int)+(bs:Int) < (N:Int):=by omega
      obtain⟨p,u,v,q1,q2,q3,q4,q5,q6,q7⟩:=hP.last1 HO.out (n:=N) Hlen.out.symm (by omega) hm
      have hc:=HM.out dk wr p u v [] a (a+bs) N S q1 (by rw[hsz,HN.out]) q2 q3 q4 (by omega) (by omega) (by omega) (by omega) (by omega)
      rw[show ((a+bs:Nat):Int)=(a:Int)+(bs:Int) by omega] at hc
      clear q1 q2 q3 q4 q5 q6
      obtain⟨HP,HS,Hc,Hsz,Hle,Hq7⟩:=hd6 hP S hc hsz hle q7;clear hP S hc hsz hle q7
      go_wp2_with fail
      refine Hc.out.mono ?_
      rintro e w2 ⟨rfl,d2,S,hd2⟩
      have hP2:=Hq7.out d2 hd2
      clear hd2
      obtain⟨HS,HP2⟩:=hd2 S hP2;clear S hP2
      go_wp2_with fail
      go_roundw
      case rel=>exact⟨2 * bs,_,by go_num,by omega,by omega,HP2.out,HS.out⟩
      case measure=>simp[intOf];omega
     have v5:¬ (a:Int)+(bs:Int) < (N:Int):=by omega
     have hP2:=hP.last2 (n:=N) Hlen.out.symm (by omega) hm (by omega)
     obtain⟨HP,HS,Hsz,Hle,HP2⟩:=hd5 hP S hsz hle hP2;clear hP S hsz hle hP2
     go_wp2_with fail
     go_roundw
     case rel=>exact⟨2 * bs,_,by go_num,by omega,by omega,HP2.out,HS.out⟩
     case measure=>simp[intOf];omega
   have v2:¬ (bs:Int) < (N:Int):=by omega
   have hD:=hP.done (by rw[Hlen.out];omega)
   obtain⟨HP,HS,HD⟩:=hd3 hP S hD;clear hP S hD
   go_wp2_with fail
   go_end0
   exact⟨rfl,dk,HS.out,HD.out⟩
theorem sortStable_any (R:RowK (enc f0 f1) 2 w0 blk off d0) (C:CmpLays Tryz.prog g cb (enc f0 f1) 2 cf blk off d0.size w0) (eg:∀ args w,(callFunc g args).run Tryz.prog w = .ok (.enter g args) w) (hO:Swo (ltOf cf)) (cap:Nat) (hn:d0.size≤1000000) :
  Calls Tryz.prog 106 #[.slice (some ⟨blk,off,none⟩) d0.size cap,.func (.func g) #[] cb] w0 (Now (enc f0 f1) 2 w0 blk off (zaj (ltOf cf) d0.toList)):=by
 have hc:=zks R C eg hO cap hn
 obtain⟨l,hl⟩ : ∃ l,l=zaj (ltOf cf) d0.toList:=⟨_,rfl⟩
 rw[← hl] at hc ⊢
 obtain⟨N,hN⟩ : ∃ N,N=d0.size:=⟨_,rfl⟩
 rw[← hN] at hn hc ⊢
 obtain⟨Hc,HN,Hl,HC,HR,HO⟩:=hd6 hc hN hl C R hO;clear hc hN hl C R hO
 go_enter Tryz.func106,Tryz.ntmps106
 go_wp2_with fail
 refine Hc.out.mono ?_
 rintro e w2 ⟨rfl,hw2⟩
 have Hw2:=hd hw2;clear hw2
 go_wp2_with fail
 go_end0
 exact⟨rfl,Hw2.out⟩
end StbSpan
end

section
open Go.Shelf Go.RowKit Go.Lib Go.Sort SortM VerN
abbrev tB (l:List Tp):List BSp:=l.map (·.1)
abbrev spEnc:Tp→List Value:=StbSpan.enc (fun x:Tp=>x.1.1) fun x=>x.1.2
theorem zgf (l:List Tp):l.flatMap spEnc=(tB l).flatMap za9:=by
 induction l with
 | nil=>rfl
 | cons x l ih=>rw[List.flatMap_cons,ih];rfl
theorem zln:∀ args w,(callFunc 107 args).run Tryz.prog w = .ok (.enter 107 args) w:=enters_of Tryz.func107 (by kernel_rfl) rfl
theorem zkv {w w0:World} {g cap:Nat} {l:List Tp} (h:w.ownsRow w0.heap.size 34 2 (.slice (some ⟨g,0,none⟩) l.length cap) l.length ((tB l).flatMap za9)) (hb:Below w0.heap.size w0 w) (hD:zbf w0) (hl:l.length≤80000) :
  Calls Tryz.prog 106 #[.slice (some ⟨g,0,none⟩) l.length cap,.func (.func 107) #[] #[]] w fun e w'=>e = .returned (.tuple #[])∧w'.ownsRow w0.heap.size 34 2 (.slice (some ⟨g,0,none⟩) l.length cap) l.length ((tB (zbu l)).flatMap za9)∧Below w0.heap.size w0 w':=by
 rw[← zgf] at h
 have hR:=SortR.srw_of_owns StbSpan.enc_len h rfl
 have hlow:w0.heap.size≤g:=(h.lt g rfl).1
 have hC:StbSpan.CmpLays Tryz.prog 107 #[] spEnc 2 cfSp g 0 l.toArray.size w:=fun W hW x y =>
  zga x.1.1 x.1.2 y.1.1 y.1.2 (by have:=x.2.1;omega) (by have:=y.2.1;omega) (hD.below (hb.trans (hW.below hb.size (fun k e=>by rw[e];exact hlow))))
 have hs:=StbSpan.sortStable_any hR hC zln zij cap (by simpa using Nat.le_trans hl (by decide))
 have e:l.toArray.size=l.length:=by simp
 rw[e] at hs
 refine hs.mono ?_
 rintro e w' ⟨rfl,d,S,hd⟩
 have hsz:d.size=l.length:=by rw[← Array.length_toList,hd,zbt zij]
 have h2:=SortR.owns_of_srw StbSpan.enc_len (by decide) h S hsz
 rw[hd,zgf] at h2
 exact⟨rfl,h2.1,h2.2 _ hb hb.size⟩
theorem zl9 (lo hi:ByteArray) (hl:lo.size≤1000000) (hh:hi.size≤1000000) {w:World} (hD:zbf w):Calls Tryz.prog 103 #[.agg #[.string lo,.string hi]] w fun e w'=>e = .returned (.bool (!mayS (lo.data.toList,hi.data.toList)))∧Below w.heap.size w w':=by
 obtain⟨W0,hW0⟩ : ∃ W0,W0=w.alloc (.cells #[.string lo,.string hi] 34):=⟨_,rfl⟩
 obtain⟨nb,hnb⟩ : ∃ nb,nb=w.heap.size:=⟨_,rfl⟩
 have hw:Below w.heap.size w W0:=by rw[hW0];exact za2 _ _
 have hn0:W0.heap[nb]? = some (.cells #[.string lo,.string hi] 34 (0,0)):=by rw[hW0,hnb];exact zac rfl
 obtain⟨b0,b1,_,_⟩:=za0 hn0
 have hM:=zbg hw (zbd lo hi hl hh (hD.below hw))
 obtain⟨p,hp⟩ : ∃ p,p=mayS (lo.data.toList,hi.data.toList):=⟨_,rfl⟩
 rw[← hp] at hM ⊢
 obtain⟨HM,Hw,Hn0,Hp,HD⟩:=hd5 hM hw hn0 hp hD;clear hM hw hn0 hp hD
 go_enter Tryz.func103,Tryz.ntmps103
 go_upto_region 1 with (fail)
 rw[← hW0,← hnb]
 clear hW0 hnb
 go_wp2_with fail
 refine HM.out.mono ?_
 rintro e w1 ⟨rfl,hb1⟩
 have Hb1:=hd hb1;clear hb1
 go_wp2_with fail
 go_ret
 exact⟨rfl,Hb1.out⟩
theorem zhg:∀ args w,(callFunc 103 args).run Tryz.prog w = .ok (.enter 103 args) w:=enters_of Tryz.func103 (by kernel_rfl) rfl
theorem zj2 (l:List Tp) {w:World} (hD:zbf w):IdxSpan.Pred RSpn (fun s=>!mayS (dS s)) 103 #[] (tB l) w:=by
 intro W u0 u1 s hb hs hr
 obtain⟨h1,_,_⟩:=hr
 injection h1 with h1 h2
 injection h2 with h2 _
 subst h1 h2
 obtain⟨x,_,rfl⟩:=List.mem_map.1 hs
 exact zl9 _ _ (by have:=x.2.1;omega) (by have:=x.2.2;omega) (hD.below hb)
theorem zlr (l:List BSp):(l.any fun s=>!mayS (dS s)) = !zck l:=by
 unfold zck
 rw[List.not_all_eq_any_not]
end

section
open Go.Shelf Go.RowKit Go.Lib Go.Sort SortM VerN
theorem jn_size {a b:BSp} (ha:a.1.size≤9000∧a.2.size≤9000) (hb:b.1.size≤9000∧b.2.size≤9000):(jnV a.1 a.2 b.1 b.2).1.size≤9000∧(jnV a.1 a.2 b.1 b.2).2.size≤9000:=by
 have h0:(ByteArray.mk #[]).size≤9000:=by decide
 unfold jnV
 split
 ·constructor
  ·show (if _ then _ else _:ByteArray).size≤9000
   split
   ·exact zdd ha.1 hb.1
   exact h0
  show (if _ then _ else _:ByteArray).size≤9000
  split
  ·exact ze7 ha.2 hb.2
  exact h0
 exact⟨h0,h0⟩
def zct (O:List BSp):Prop:=∀ z∈O,z.1.size≤9000∧z.2.size≤9000
theorem zct.add {O:List BSp} (h:zct O) {x:BSp} (hx:x.1.size≤9000∧x.2.size≤9000):zct (addB O x):=by
 rcases List.eq_nil_or_concat O with rfl | ⟨Q,z,rfl⟩
 ·rw[zko]
  intro y hy
  rw[List.mem_singleton.1 hy];exact hx
 rw[List.concat_eq_append] at *
 rw[zes]
 have hq:∀ y∈Q,y.1.size≤9000∧y.2.size≤9000:=fun y hy=>h y (by simp[hy])
 have hz:=h z (by simp)
 split
 ·intro y hy
  rcases List.mem_append.1 hy with k | k
  ·exact hq y k
  rw[List.mem_singleton.1 k];exact jn_size hz hx
 intro y hy
 rcases List.mem_append.1 hy with k | k
 ·exact h y k
 rw[List.mem_singleton.1 k];exact hx
theorem ze5:∀ (r O:List BSp),zct O→zct r→zct (r.foldl addB O)
 | [],_,h,_=>h
 | x :: r,O,h,hr=>ze5 r (addB O x) (h.add (hr x (by simp))) fun y hy=>hr y (by simp[hy])
theorem zci (l:List Tp):zct (tB l):=fun z hz=>by
 obtain⟨x,_,rfl⟩:=List.mem_map.1 hz
 exact x.2
theorem zlb {r:List BSp} {k:Nat} (h:k < r.length):zdg (r.take (k+1))=addB (zdg (r.take k)) r[k]:=by
 unfold zdg
 rw[List.take_succ_eq_append_getElem h,List.foldl_append];rfl
theorem Mrg.below {w0 w w':World} {x:Nat} {O:List BSp} (h:Mrg w0 x O w) (hb:Below w.heap.size w w'):Mrg w0 x O w':=by
 obtain⟨v,h1,h2,h3,h4⟩:=h
 exact⟨v,za1 hb h1,za7 h2 hb,h3.trans (hb.mono h3.size),h4⟩
theorem zin {w w0:World} {o:Value} {l:List Tp} (h:w.ownsRow w0.heap.size 34 2 o l.length ((tB l).flatMap za9)) (hb:Below w0.heap.size w0 w) (hD:zbf w0) (hl:l.length≤80000) :
  Calls Tryz.prog 106 #[o,.func (.func 107) #[] #[]] w fun e w'=>e = .returned (.tuple #[])∧w'.ownsRow w0.heap.size 34 2 o l.length ((tB (zbu l)).flatMap za9)∧Below w0.heap.size w0 w':=by
 rcases h.2 with⟨rfl,h0⟩ | ⟨g,c,cur,rfl,_⟩
 ·have hl0:l = []:=List.length_eq_zero_iff.1 h0
  subst hl0
  exact (zf6 _ w).mono fun e w' ⟨he,hw⟩=>⟨he,hw ▸ World.ownsRow_nil _ _ _ _,hw ▸ hb⟩
 exact zkv h hb hD hl
theorem zku (l:List Tp):(tB (zbu l)).length=l.length:=by rw[List.length_map];exact (zbe l).length_eq
theorem zge {w:World} {oa:Option Addr} {n oc:Nat} {R:List BSp} (h:RSps w [.slice oa n oc] R):∀ i x,R[i]? = some x→∃ b off,oa=some ⟨b,off,none⟩∧w.cell? ⟨b,off+i * 2,none⟩=some (.string x.1)∧w.cell? ⟨b,off+i * 2+1,none⟩=some (.string x.2):=by
 obtain⟨a,cap,hv,_,hg⟩:=zgv h
 injection hv with h1 _ _
 subst h1
 intro i x hi
 obtain⟨b,off,e,c0,c1,_⟩:=hg i x hi
 exact⟨b,off,e,c0,c1⟩
theorem zfv (R:List BSp) (k:Nat):(zdg (R.take k)).length≤k:=by
 have h:=zew (R.take k) []
 rw[List.length_take] at h
 unfold zdg
 simp only[List.length_nil] at h
 omega
def zb1 (l:List Tp):Bool:=zck (tB l) && decide ((zbw l).length≤16)
def zfi (l:List Tp) (w:World) (e:Ending) (w':World):Prop :=
 ∃ o,e = .returned (.tuple #[o,.bool (zb1 l)])∧(zb1 l=true→w'.ownsRow w.heap.size 34 2 o (zbw l).length ((zbw l).flatMap za9))∧(zb1 l=false→o = .slice none 0 0)∧Below w.heap.size w w'
theorem form_no {l:List Tp} {w w':World} (h:zb1 l=false) (hb:Below w.heap.size w w'):zfi l w (.returned (.tuple #[.slice none 0 0,.bool false])) w' :=
 ⟨_,by rw[h],(fun k=>by rw[h] at k;cases k),(fun _=>rfl),hb⟩
theorem zkc {w:World} {v:Value} {l:List Tp} (h:RSps w [v] (tB l)) (hl:l.length≤80000) (hD:zbf w):Calls Tryz.prog 51 #[v] w (zfi l w):=by
 have hC:=IdxSpan.has_any zb7 (fun s=>!mayS (dS s)) 103 #[] zhg h (zj2 l hD)
 rw[zlr] at hC
 have hK:=fun (W:World) (k:Below w.heap.size w W)=>zid (zap zb7 _ _ _ _ h k) (by rw[List.length_map];omega)
 obtain⟨a,cap,rfl⟩:=zcg h
 obtain⟨n,hn⟩ : ∃ n,n=(tB l).length:=⟨_,rfl⟩
 have hnl:n=l.length:=by rw[hn,List.length_map]
 rw[← hn] at hC hK h ⊢
 have hn1:n≤80000:=by omega
 obtain⟨p,hp⟩ : ∃ p,p=zck (tB l):=⟨_,rfl⟩
 rw[← hp] at hC
 cases p with
 | false =>
  have hno:zb1 l=false:=by unfold zb1;rw[← hp];rfl
  obtain⟨Hh,HC,HK,Hn,Hnl,Hp,HD,Hno⟩:=hd8 h hC hK hn hnl hp hD hno;clear h hC hK hn hnl hp hD hno
  go_enter Tryz.func51,Tryz.ntmps51
  go_wp2_with fail
  refine HC.out.mono ?_
  rintro e w1 ⟨rfl,hb1⟩
  have Hb1:=hd hb1;clear hb1
  go_wp2_with fail
  go_ret2
  exact form_no Hno.out Hb1.out
 | true =>
  obtain⟨Hh,HC,HK,Hn,Hnl,Hp,HD⟩:=hd7 h hC hK hn hnl hp hD;clear h hC hK hn hnl hp hD
  go_enter Tryz.func51,Tryz.ntmps51
  go_wp2_with fail
  refine HC.out.mono ?_
  rintro e w1 ⟨rfl,hb1⟩
  have hK1:=HK.out w1 hb1
  unfold zg8 at hK1
  obtain⟨Hb1,HK1⟩:=hd2 hb1 hK1;clear hb1 hK1
  go_wp2_with fail
  refine HK1.out.mono ?_
  rintro e w2 ⟨o,rfl,ho,hb2⟩
  have ho2:w2.ownsRow w1.heap.size 34 2 o l.length ((tB l).flatMap za9):=by rw[← Hnl.out];exact ho
  have hS:=zin ho2 hb2 (HD.out.below Hb1.out) (by have:=Hnl.out;omega)
  rw[← Hnl.out] at hS
  obtain⟨oa,oc,rfl⟩:=zad ho
  clear ho2
  obtain⟨Ho,Hb2,HS⟩:=hd3 ho hb2 hS;clear ho hb2 hS
  go_wp2_with fail
  refine HS.out.mono ?_
  rintro e w3 ⟨rfl,ho3,hb3⟩
  have hrl:=zku l
  rw[← Hnl.out] at hrl
  obtain⟨R,hR⟩ : ∃ R,R=tB (zbu l):=⟨_,rfl⟩
  rw[← hR] at ho3 hrl
  have hRs:zct R:=by rw[hR];exact zci _
  have hrd:RSps w3 [.slice oa n oc] R:=zbz (fun x hx=>by have:=hRs x hx;unfold maxLen;omega) (by rw[hrl];exact ho3)
  have hat:=zge hrd
  have hbw3:=Hb1.out.trans (hb3.mono Hb1.out.size)
  have hD3:=HD.out.below hbw3
  have hfr:zdg R=zbw l:=by rw[hR];rfl
  obtain⟨Ho3,Hb3,Hrl,HR,HRs,Hrd,Hat,Hbw3,HD3,Hfr⟩:=hd10 ho3 hb3 hrl hR hRs hrd hat hbw3 hD3 hfr;clear ho3 hb3 hrl hR hRs hrd hat hbw3 hD3 hfr
  go_upto_region 6 with (fail)
  have hM0:Mrg w3 w3.heap.size [] (w3.alloc (.cells #[.slice none 0 0,.func (.func 108) #[] #[],.func (.func 109) #[] #[]] 170)):=⟨_,heap_alloc_new _ _,World.ownsRow_nil _ _ _ _,za2 _ _,Nat.le_refl _⟩
  have HM0:=hd hM0;clear hM0
  go_wp2_with fail
  go_loopw [17] (fun i wr=>∃ k:Nat,k≤n∧i = .int .i64 k∧Mrg w3 w3.heap.size (zdg (R.take k)) wr) (fun i _=>n - (RowKit.intOf i).toNat)
  case atStart=>exact⟨0,Nat.zero_le _,rfl,HM0.out⟩
  case round =>
   obtain⟨k,hk,rfl,hM⟩:=hrel
   have hbr:Below w3.heap.size w3 wr:=by obtain⟨_,_,_,hb,_⟩:=hM;exact hb
   by_cases hlt:k < n
   ·have hkR:k < R.length:=by have:=Hrl.out;omega
    obtain⟨y,hy⟩ : ∃ y,y=R[k]:=⟨_,rfl⟩
    obtain⟨b,off,rfl,c0,c1⟩:=Hat.out k y (by rw[hy];exact List.getElem?_eq_getElem hkR)
    have d0:=cell_later hbr c0
    have d1:=cell_later hbr c1
    have hys:=HRs.out y (by rw[hy];exact List.getElem_mem hkR)
    have hnext:=zlb hkR
    rw[← hy] at hnext
    obtain⟨O,hO⟩ : ∃ O,O=zdg (R.take k):=⟨_,rfl⟩
    rw[← hO] at hM hnext
    have hOs:zct O:=by rw[hO];exact ze5 _ _ (fun z hz=>by simp at hz) fun z hz=>HRs.out z (List.mem_of_mem_take hz)
    have hOl:O.length≤100000:=by rw[hO];have:=zfv R k;omega
    obtain⟨y1,y2⟩:=y
    have hA:=zh7 (hM.below (za2 wr (.cells #[.string y1,.string y2] 34))) hOs hOl (y1,y2) hys HD3.out
    have k5:(0:Int)≤(k:Int):=by omega
    have k6:(k:Int) < (n:Int):=by omega
    clear c0 c1
    obtain⟨HM,Hbr,Hy,Hys,Hnext,HO,HOs,HA⟩:=hd8 hM hbr hy hys hnext hO hOs hA;clear hM hbr hy hys hnext hO hOs hA
    go_wp2_with fail
    refine HA.out.mono ?_
    rintro e w5 ⟨rfl,hM5⟩
    rw[← Hnext.out] at hM5
    have HM5:=hd hM5;clear hM5
    go_wp2_with fail
    go_roundw
    case rel=>exact⟨k+1,by omega,by go_num,HM5.out⟩
    case measure=>simp[RowKit.intOf];omega
   obtain rfl:k=n:=by omega
   rw[List.take_of_length_le (Nat.le_of_eq Hrl.out),Hfr.out] at hM
   obtain⟨ov,hx,hown,_,_⟩:=hM
   obtain⟨c0,_,_,_⟩:=zb6 hx
   obtain⟨oa2,oc2,rfl⟩:=zad hown
   have hbw:=Hbw3.out.trans (hbr.mono Hbw3.out.size)
   obtain⟨q,hq⟩ : ∃ q,q=(zbw l).length:=⟨_,rfl⟩
   have hown2:=zc6 hown Hbw3.out.size
   rw[← hq] at c0
   by_cases h16:16 < q
   ·have kk:decide ((16:Int) < (q:Int))=true:=decide_eq_true (by omega)
    have hno:zb1 l=false:=by unfold zb1;rw[← Hp.out,← hq,decide_eq_false (by omega)];rfl
    obtain⟨Hx,Hown,Hown2,Hbw,Hq,Hno,Hbr⟩:=hd7 hx hown hown2 hbw hq hno hbr;clear hx hown hown2 hbw hq hno hbr
    go_wp2_with fail
    go_ret2
    exact form_no Hno.out Hbw.out
   have kk:decide ((16:Int) < (q:Int))=false:=decide_eq_false (by omega)
   have hyes:zb1 l=true:=by unfold zb1;rw[← Hp.out,← hq,decide_eq_true (by omega)];rfl
   obtain⟨Hx,Hown,Hown2,Hbw,Hq,Hyes,Hbr⟩:=hd7 hx hown hown2 hbw hq hyes hbr;clear hx hown hown2 hbw hq hyes hbr
   go_wp2_with fail
   go_ret2
   exact⟨.slice oa2 q oc2,(by rw[Hyes.out];rfl),(fun _=>by have h9:=Hown2.out;rw[← Hq.out] at h9 ⊢;exact h9),(fun k=>by rw[Hyes.out] at k;cases k),Hbw.out⟩
end
end Go.Proofs.YteailgjiifdgcaaGreatDoor
