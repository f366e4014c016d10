/- Walks and plain facts. Texts merged: LnD, RcV, LnA, RqE, RqG, RcA, RqF, RqH, LexW, LexB, LexT, LexL, RqI, Eqf, RcE, RqX, RcX, RcB, RcF. Condition: none beyond what each says. -/
import Derived.Recover
import Derived.Laws.Pointers
import Derived.Laws.BytesArg
import Derived.Test.YteailgjiifdgcaaGreatDoorRecipeJoinsAll9
set_option linter.unusedVariables false
set_option linter.unusedSimpArgs false
set_option maxRecDepth 10000
set_option maxHeartbeats 4000000
namespace Go.Proofs.YteailgjiifdgcaaGreatDoor
section
open Go.Shelf Go.RowKit Go.Lib VerN VarM
open LexM (Wd)
attribute [local go_sem ↓] Go.wp_at_zero Go.wp_at_succ
theorem zqn {f:ByteArray} {n:Int} {p:PkgM} {l:List ByteArray} (h:zdj f=false):zax f n p l=none:=by
 unfold zdj at h
 simp only[Bool.or_eq_false_iff,decide_eq_false_iff_not] at h
 obtain⟨⟨⟨⟨⟨h1,h2⟩,h3⟩,h4⟩,h5⟩,h6⟩:=h
 unfold zax
 rw[if_neg h1,if_neg h2,if_neg h3,if_neg h4,if_neg h5,if_neg h6]
theorem zmp {w0 w:World} {r:Nat} {a:Option Addr} {n c:Nat} {fin:Int} {ws:List Wd} {i:Nat} {t:Nat→Nat} {B xb:Nat} {vp vf:Value} {x:RcpM} {line:Int} (C:RdC w0 r a n c fin ws) (S:RdS w0 r a n c fin i w) (hi1:i≤900) (hin:i < n)
  (H:RcSt w t B xb vp vf x) (tr:t r=10) (ta:∀ p,a=some p→p.block≠r∧9 < t p.block) (hBw:B≤w.heap.size) (hf1:zan ws i≠zbf) (hf2:zan ws i≠zcb) (h3:zdj (zan ws i)=false∨x.pk = []) :
  Calls Tryz.prog 93 #[rp r,.int .i64 line,.pointer (some ⟨xb,0,none⟩)] w (zdz r fin ws i t B xb x line w):=by
 obtain⟨first,hfi⟩ : ∃ s,s=zan ws i:=⟨_,rfl⟩
 rw[← hfi] at hf1 hf2 h3
 have k8:(first.toList == [112,97,99,107,97,103,101])=false:=by rw[zau first [112,97,99,107,97,103,101] zbf rfl];exact decide_eq_false hf1
 have k9:(first.toList == [112,114,101,102,101,114])=false:=by rw[zau first [112,114,101,102,101,114] zcb rfl];exact decide_eq_false hf2
 have hrw:r < w.heap.size:=(Array.getElem?_eq_some_iff.1 S.box).1
 have hn:=C.len
 have hn1:=C.n1000
 have hlow:=C.low
 have hrt:=zb5 S.box (by decide)
 have hP:=C.peek S
 simp only[← hfi] at hP
 have hnone:zbb line (zap ws i) x=none:=by
  rw[zaj (by omega),← hfi]
  rcases List.eq_nil_or_concat x.pk with e | ⟨ps,p,e⟩
  ·exact lineL_nil hf1 hf2 e
  rw[List.concat_eq_append] at e
  rw[zey hf1 hf2 e,zqn (h3.resolve_right (by rw[e];simp))]
  rfl
 have hTh:=fun (W:World) (k:Below w.heap.size w W)=>zlv (S.to k).box (C.wds (S.to k))
 have hg:=za2 H.box 0
 simp only[List.getElem?_toArray,List.getElem?_cons_zero,List.getElem?_cons_succ] at hg
 have hB:=zjq first
 have hv:zdj first=true→vp = .slice none 0 0:=fun e=>by
  rcases h3 with h | h
  ·rw[e] at h
   cases h
  rcases H.pk with⟨_,h2⟩ | ⟨ps,p,dss,v2,v3,v4,v5,v6,v7,h1,L⟩
  ·exact h2
  rw[h] at h1
  simp at h1
 obtain⟨bl,hbl⟩ : ∃ b,b=zdj first:=⟨_,rfl⟩
 rw[← hbl] at hB hv
 clear h3
 cases bl with
 | true =>
  obtain rfl:=hv rfl
  obtain⟨HC,HS,HH,Hf1,Hf2,Hfi,HP,Hrt,Htr,Hta,HB,Hbl,HTh,Hnone,Hv⟩:=hd15 C S H hf1 hf2 hfi hP hrt tr ta hB hbl hTh hnone hv;clear C S H hf1 hf2 hfi hP hrt tr ta hB hbl hTh hnone hv
  go_enter Tryz.func93,Tryz.ntmps93
  go_wp2_with fail
  refine HP.out.mono ?_
  rintro e w1 ⟨rfl,q1,rfl⟩
  have hb1:=zac (Below.refl w.heap.size w) q1
  have hg:=cell_later hb1 hg
  generalize w.drewN q1=w1 at hb1 hg ⊢
  have Hb1:=hd hb1;clear hb1
  go_wp2_with fail
  refine (HB.out w1).mono ?_
  rintro e w1' ⟨rfl,hw1⟩
  subst hw1
  have hTh1:=HTh.out w1' Hb1.out
  have HTh1:=hd hTh1;clear hTh1
  go_wp2_with fail
  refine (HTh.out _ (by first | exact Hb1.out | exact Below.drew Hb1.out)).mono ?_
  rintro e u ⟨rfl,q,rfl⟩
  go_wp2_with fail
  exact⟨rfl,zat Hnone.out (zb2 (Frm.refl _ _) (by first | exact Hb1.out | exact Below.drew Hb1.out)) (zac (Below.refl _ _) q) rfl⟩
 | false =>
  obtain⟨HC,HS,HH,Hf1,Hf2,Hfi,HP,Hrt,Htr,Hta,HB,Hbl,HTh,Hnone,Hv⟩:=hd15 C S H hf1 hf2 hfi hP hrt tr ta hB hbl hTh hnone hv;clear C S H hf1 hf2 hfi hP hrt tr ta hB hbl hTh hnone hv
  clear hg
  go_enter Tryz.func93,Tryz.ntmps93
  go_wp2_with fail
  refine HP.out.mono ?_
  rintro e w1 ⟨rfl,q1,rfl⟩
  have hb1:=zac (Below.refl w.heap.size w) q1
  generalize w.drewN q1=w1 at hb1 ⊢
  have Hb1:=hd hb1;clear hb1
  go_wp2_with fail
  refine (HB.out w1).mono ?_
  rintro e w1' ⟨rfl,hw1⟩
  subst hw1
  have hTh1:=HTh.out w1' Hb1.out
  have HTh1:=hd hTh1;clear hTh1
  go_wp2_with fail
  refine (HTh.out _ (by first | exact Hb1.out | exact Below.drew Hb1.out)).mono ?_
  rintro e u ⟨rfl,q,rfl⟩
  go_wp2_with fail
  exact⟨rfl,zat Hnone.out (zb2 (Frm.refl _ _) (by first | exact Hb1.out | exact Below.drew Hb1.out)) (zac (Below.refl _ _) q) rfl⟩
end

section
open Go.Lib VerN VarM
open LexM (Wd Ln)
def FewK (k:Nat) (p:PkgM):Prop:=p.rel.length≤k∧p.vars.length≤k∧p.prov.length≤k∧p.dep.length≤k∧p.conf.length≤k∧p.files.length≤k
def zi6 (k:Nat) (x:RcpM):Prop:=x.pk.length≤k∧x.pf.length≤k∧∀ p∈x.pk,FewK k p
theorem FewK.mono {k m:Nat} {p:PkgM} (h:FewK k p) (hk:k≤m):FewK m p:=by
 obtain⟨h1,h2,h3,h4,h5,h6⟩:=h
 exact⟨by omega,by omega,by omega,by omega,by omega,by omega⟩
theorem FewK.few {k:Nat} {p:PkgM} (h:FewK k p) (hk:k≤70000):FewP p:=h.mono hk
theorem zdc {α β:Type} {o:Option α} {f:α→β} {y:β} (h:o.map f=some y):∃ x,o=some x∧f x=y:=by
 cases o with
 | none=>cases h
 | some x=>exact⟨x,rfl,Option.some.inj h⟩
theorem restL_few {k:Nat} {f:ByteArray} {n:Int} {p q:PkgM} {l:List ByteArray} (hp:FewK k p) (h:zax f n p l=some q):FewK (k+1) q:=by
 obtain⟨h1,h2,h3,h4,h5,h6⟩:=hp
 unfold zax at h
 have fin:∀ q:PkgM,(q.rel.length≤k+1∧q.vars.length≤k+1∧q.prov.length≤k+1∧q.dep.length≤k+1∧q.conf.length≤k+1∧q.files.length≤k+1)→FewK (k+1) q:=fun _ h=>h
 split at h
 ·obtain⟨x,-,rfl⟩:=zdc h
  refine fin _ ⟨?_,?_,?_,?_,?_,?_⟩ <;> simp <;> omega
 split at h
 ·obtain⟨x,-,rfl⟩:=zdc h
  refine fin _ ⟨?_,?_,?_,?_,?_,?_⟩ <;> simp <;> omega
 split at h
 ·obtain⟨x,-,rfl⟩:=zdc h
  refine fin _ ⟨?_,?_,?_,?_,?_,?_⟩ <;> simp <;> omega
 split at h
 ·obtain⟨x,-,rfl⟩:=zdc h
  refine fin _ ⟨?_,?_,?_,?_,?_,?_⟩ <;> simp <;> omega
 split at h
 ·obtain⟨x,-,rfl⟩:=zdc h
  refine fin _ ⟨?_,?_,?_,?_,?_,?_⟩ <;> simp <;> omega
 split at h
 ·obtain⟨x,-,rfl⟩:=zdc h
  refine fin _ ⟨?_,?_,?_,?_,?_,?_⟩ <;> simp <;> omega
 cases h
theorem zja {k:Nat} {n:Int} {x y:RcpM} {l:List ByteArray} (hx:zi6 k x) (h:zbb n l x=some y):zi6 (k+1) y:=by
 obtain⟨h1,h2,h3⟩:=hx
 cases l with
 | nil=>cases h
 | cons f r =>
  have e:zbb n (f :: r) x=if f=zbf then (oneL zcw r).map fun s=>{ x with pk:=x.pk ++ [zdm s n] }
   else if f=zcb then (zia n r).map fun q=>{ x with pf:=x.pf ++ [q] }
   else match x.pk.getLast? with
   | none=>none
   | some p=>(zax f n p r).map fun q=>{ x with pk:=x.pk.dropLast ++ [q] }:=rfl
  rw[e] at h
  split at h
  ·obtain⟨s,-,rfl⟩:=zdc h
   refine⟨by simp;omega,by show x.pf.length≤_;omega,fun p hp=>?_⟩
   rcases List.mem_append.1 hp with hp | hp
   ·exact (h3 p hp).mono (by omega)
   rw[List.mem_singleton.1 hp]
   refine⟨?_,?_,?_,?_,?_,?_⟩ <;> exact Nat.zero_le _
  split at h
  ·obtain⟨s,-,rfl⟩:=zdc h
   exact⟨by show x.pk.length≤_;omega,by simp;omega,fun p hp=>(h3 p hp).mono (by omega)⟩
  split at h
  ·cases h
  rename_i p hp
  obtain⟨q,hq,rfl⟩:=zdc h
  have hpm:p∈x.pk:=List.mem_of_getLast? hp
  refine⟨by simp;omega,by show x.pf.length≤_;omega,fun u hu=>?_⟩
  rcases List.mem_append.1 hu with hu | hu
  ·exact (h3 u ((List.dropLast_sublist x.pk).subset hu)).mono (by omega)
  rw[List.mem_singleton.1 hu]
  exact restL_few (h3 p hpm) hq
theorem zm2:zi6 0 ⟨[],[]⟩:=⟨Nat.le_refl _,Nat.le_refl _,fun p hp=>by simp at hp⟩
theorem zpt {l:Ln} {r:List Ln} {x:RcpM}:goL (l :: r) x=(zbb l.1 (l.2.map wtx) x).bind fun y=>goL r y:=rfl
theorem goL_on {l:Ln} {r:List Ln} {x y:RcpM} (h:zbb l.1 (l.2.map wtx) x=some y):goL (l :: r) x=goL r y:=by rw[zpt,h];rfl
theorem goL_off {l:Ln} {r:List Ln} {x:RcpM} (h:zbb l.1 (l.2.map wtx) x=none):goL (l :: r) x=none:=by rw[zpt,h];rfl
end

section
open Go.Shelf Go.RowKit Go.Lib VerN VarM
open LexM (Wd)
theorem zof {w0 w:World} {r:Nat} {a:Option Addr} {n c:Nat} {fin:Int} {ws:List Wd} {i:Nat} {t:Nat→Nat} {B xb:Nat} {vp vf:Value} {x:RcpM} {line:Int} (C:RdC w0 r a n c fin ws) (S:RdS w0 r a n c fin i w) (hi1:i≤900) (hin:i < n)
  (H:RcSt w t B xb vp vf x) (tr:t r=10) (ta:∀ p,a=some p→p.block≠r∧9 < t p.block) (hBw:B≤w.heap.size) {k:Nat} (hx:zi6 k x) (hk:k≤70000) :
  Calls Tryz.prog 93 #[rp r,.int .i64 line,.pointer (some ⟨xb,0,none⟩)] w (zdz r fin ws i t B xb x line w):=by
 by_cases h1:zan ws i=zbf
 ·exact zr1 C S hi1 hin H tr ta hBw (by have:=hx.1;omega) h1
 by_cases h2:zan ws i=zcb
 ·exact zr2 C S hi1 hin H tr ta hBw (by have:=hx.2.1;omega) h2
 rcases List.eq_nil_or_concat x.pk with h3 | ⟨ps,p,h3⟩
 ·exact zmp C S hi1 hin H tr ta hBw h1 h2 (.inr h3)
 rw[List.concat_eq_append] at h3
 cases h4:zdj (zan ws i) with
 | false=>exact zmp C S hi1 hin H tr ta hBw h1 h2 (.inl h4)
 | true =>
  refine zr0 C S hi1 hin H tr ta hBw h3 ((hx.2.2 p (by rw[h3];simp)).few hk) ?_ h4
  have:=hx.1
  rw[h3] at this
  simp at this
  omega
end

section
open Go.Shelf Go.RowKit Go.Lib VerN VarM
open LexM (Wd)
attribute [local go_sem ↓] Go.wp_at_zero Go.wp_at_succ
abbrev thrownV (c:Int):Value:=.iface 206 (.agg #[.int .i64 c])
theorem zi8 (v:Value) (w:World):(Instr.typeAssert (.iface 206 v) 20 206 true).run Tryz.prog w = .ok (.tuple #[v,.bool true]) w:=by
 have u:=Tryz.underlying206
 unfold Instr.typeAssert
 simp[Sem.run_bind,Sem.run_pure,u,go_sem]
theorem zrm (g:Nat) (w:World):CallsD Tryz.prog 150 #[.pointer (some ⟨g,0,none⟩)] .returning w fun e u' w'=>e = .returned (.tuple #[])∧u' = .returning∧w'=w:=by
 refine callsD_of_wpS Tryz.func150 rfl fun c₀ cs hu=>?_
 apply wpS_seq
 apply wpS_region
 simp[wpOpsS,go_sem,recoverD,hu,Tryz.ntmps150,Exit.thenS]
 have Hu:=hd hu;clear hu
 simp only[Array.replicate_succ,Array.replicate_zero,List.push_toArray,List.append_toArray,List.nil_append,List.cons_append,lA,lB,lC]
 refine wpS_of_wp ?_
 generalize hQ:(fun (e:Exit) (a':Act) (w':World)=>_)=Q
 have HQ:=hd hQ;clear hQ
 go_wp2_with fail
 rw[← HQ.out]
 cases c₀
 have hu:=Hu.out
 simp_all [bodyPostS,results,Tryz.results150]
theorem zop (g:Nat) (c x:Int) (w:World) (hg:w.heap[g]? = some (.cells #[.int .i64 x] 3 (0,0))) :
  CallsD Tryz.prog 150 #[.pointer (some ⟨g,0,none⟩)] (.panicking [{ v:=thrownV c,recovered:=false }]) w fun e u' w' =>
   e = .returned (.tuple #[])∧u' = .panicking [{ v:=thrownV c,recovered:=true }]∧w'=(w.alloc (.cells #[.int .i64 c] 206)).setCell ⟨g,0,none⟩ (.int .i64 c):=by
 refine callsD_of_wpS Tryz.func150 rfl fun c₀ cs hu=>?_
 apply wpS_seq
 apply wpS_region
 simp[wpOpsS,go_sem,recoverD,hu,Tryz.ntmps150,Exit.thenS]
 have ra:=zi8 (.agg #[.int .i64 c])
 have q0:=za2 hg 0
 have q1:=za5 hg 0
 have q2:=za0 (za1 w (.cells #[.int .i64 c] 206)) hg
 have q3:=za2 q2 0
 have q4:=za5 q2 0
 have Hu:=hd hu;clear hu
 simp only[Array.replicate_succ,Array.replicate_zero,List.push_toArray,List.append_toArray,List.nil_append,List.cons_append,lA,lB,lC]
 refine wpS_of_wp ?_
 generalize hQ:(fun (e:Exit) (a':Act) (w':World)=>_)=Q
 have HQ:=hd hQ;clear hQ
 go_wp2_with fail
 rw[← HQ.out]
 cases c₀
 have hu:=Hu.out
 clear ra q0 q1 q2 q3 q4 hg
 simp_all [bodyPostS,results,Tryz.results150]
theorem zrl {w:World} {f:FuncId} {caps:Array Value} (eg:∀ args w,(callFunc f args).run Tryz.prog w = .ok (.enter f args) w) {A:World→Prop} {B:Int→World→Prop}
  (h:Calls Tryz.prog f caps (w.alloc (.cells #[.int .i64 0] 3)) fun e w'=>((e = .returned (.tuple #[])∧A w')∨∃ c,e=zea c∧B c w')∧w'.heap[w.heap.size]? = some (.cells #[.int .i64 0] 3 (0,0))) :
  Calls Tryz.prog 91 #[.func (.func f) #[] caps] w fun e w'=>(∃ w1,A w1∧e = .returned (.int .i64 0)∧w'=w1.setCell ⟨w.heap.size,0,none⟩ (.int .i64 0))∨(∃ c w1,B c w1∧e = .returned (.int .i64 c)∧w'=(w1.alloc (.cells #[.int .i64 c] 206)).setCell ⟨w.heap.size,0,none⟩ (.int .i64 c)):=by
 have hmf:∀ (fn:Fn) (first cap:Array Value) (w:World),(Instr.makeFunc fn first cap).run Tryz.prog w = .ok (.func fn first cap) w:=fun _ _ _ _=>rfl
 have Hh:=hd h;clear h
 go_enter_defers Tryz.func91,Tryz.ntmps91
 go_wp2_with fail
 refine Hh.out.mono ?_
 rintro e w1 ⟨⟨rfl,hA⟩ | ⟨c,rfl,hB⟩,hbx⟩
 ·have q0:=za2 hbx 0
  have q1:=za5 hbx 0
  simp only[List.getElem?_toArray,List.getElem?_cons_zero] at q0
  obtain⟨HA,Hbx⟩:=hd2 hA hbx;clear hA hbx
  go_wp2_with fail
  refine leaves_cons (f:=150) (args:=#[.pointer (some ⟨w.heap.size,0,none⟩)]) (by simp) (by simp[go_sem]) ?_
  refine (zrm _ _).mono ?_
  rintro e u' w'' ⟨rfl,rfl,rfl⟩
  have q2:=za2 (heap_setCell_same w1 w.heap.size 0 _ _ (.int .i64 0) Hbx.out) 0
  have q2:(w1.setCell ⟨w.heap.size,0,none⟩ (.int .i64 0)).cell? ⟨w.heap.size,0,none⟩=some (.int .i64 0):=q2
  simp[Leaves,settle,results,Tryz.results91,go_sem,q2]
  exact .inl ⟨_,HA.out,rfl⟩
 have HB:=hd hB;clear hB
 go_wp2_with fail
 refine leaves_cons (f:=150) (args:=#[.pointer (some ⟨w.heap.size,0,none⟩)]) (by simp) (by simp[go_sem]) ?_
 refine (zop _ c 0 _ hbx).mono ?_
 rintro e u' w'' ⟨rfl,rfl,rfl⟩
 have q2:=za2 (heap_setCell_same _ w.heap.size 0 _ _ (.int .i64 c) (za0 (za1 w1 (.cells #[.int .i64 c] 206)) hbx)) 0
 have q2:((w1.alloc (.cells #[.int .i64 c] 206)).setCell ⟨w.heap.size,0,none⟩ (.int .i64 c)).cell? ⟨w.heap.size,0,none⟩=some (.int .i64 c):=q2
 simp[Leaves,settle,results,Tryz.results91,go_sem,q2]
 exact .inr ⟨_,_,HB.out,rfl,rfl⟩
end

namespace LexM
def znf (N:Nat) (x:Wd):Prop:=1≤x.1∧x.1≤(N:Int)∧x.2≠[]∧x.2.length≤N
def zjx (N:Nat) (l:Ln):Prop:=1≤l.1∧l.2≠[]∧l.2.length≤40∧∀ x∈l.2,znf N x
theorem znf.mono {N M:Nat} (h:N≤M) {x:Wd} (g:znf N x):znf M x:=⟨g.1,by have:=g.2.1;omega,g.2.2.1,Nat.le_trans g.2.2.2 h⟩
theorem rerr_room {t:Bs} {room:Bool} {s:RS} {i:Nat} {c:UInt8} (h:rerr t room s i c=0) (hk:zfb t s i c=false):s.out.length≠40:=by
 intro e
 unfold rerr at h
 rw[hk] at h
 split at h
 ·cases h
 simp[e] at h
theorem zpj {t:Bs} {room:Bool}:∀ (r:Bs) (s:RS) (i:Nat),t.drop i=r→s.out.length≤40→(∀ x∈s.out,znf t.length x)→(∀ x∈(rgo t room s i r).1,znf t.length x)∧(rgo t room s i r).1.length≤40
 | [],s,i,_,hl,h=>⟨h,hl⟩
 | c :: r,s,i,hd,hl,h=>by
  obtain⟨hg,hd2,hi⟩:=zf0 hd
  unfold rgo
  by_cases he:rerr t room s i c=0
  ·rw[if_pos he]
   refine zpj r _ (i+1) hd2 ?_ ?_
   ·unfold zdo
    dsimp only
    split
    ·exact hl
    rename_i hk
    have:=rerr_room he (by simpa using hk)
    rw[List.length_append,List.length_singleton]
    omega
   intro x hx
   unfold zdo at hx
   dsimp only at hx
   split at hx
   ·exact h x hx
   rename_i hk
   rcases List.mem_append.1 hx with hx | hx
   ·exact h x hx
   rw[List.mem_singleton] at hx
   subst hx
   have hp:part c=true:=by
    unfold zfb at hk
    simp only[Bool.or_eq_true,not_or,Bool.not_eq_true',Bool.not_eq_false] at hk
    exact hk.1.2
   refine⟨by show (1:Int)≤(i:Int)+1;omega,by show (i:Int)+1≤(t.length:Int);omega,?_,?_⟩
   ·show zim t i≠[]
    rw[zlr hd hp]
    simp
   show (zim t i).length≤t.length
   unfold zim
   refine Nat.le_trans (List.takeWhile_sublist _).length_le ?_
   rw[List.length_drop]
   omega
  rw[if_neg he]
  exact⟨h,hl⟩
theorem zhm (t:Bs) (room:Bool):(∀ x∈(zc8 t room).1,znf t.length x)∧(zc8 t room).1.length≤40:=zpj t _ 0 rfl (Nat.zero_le _) (fun x hx=>by simp at hx)
theorem zkq {N:Nat} {out:List Ln} {n:Int} {ws:List Wd} (h:∀ l∈out,zjx N l) (hn:1≤n) (h40:ws.length≤40) (hw:∀ x∈ws,znf N x):∀ l∈ze5 out n ws,zjx N l:=by
 unfold ze5
 split
 ·exact h
 rename_i h0
 intro l hl
 rcases List.mem_append.1 hl with hl | hl
 ·exact h l hl
 rw[List.mem_singleton] at hl
 subst hl
 exact⟨hn,h0,h40,hw⟩
theorem znc (out:List Ln) (n:Int) (ws:List Wd):(ze5 out n ws).length≤out.length+1:=by
 unfold ze5
 split <;> simp
theorem zgw {N:Nat}:∀ (r:Bs) (n:Int) (cur:Bs) (out:List Ln),1≤n→cur.length+r.length≤N→(∀ l∈out,zjx N l)→(∀ l∈(zb4 n cur out r).lines,zjx N l)∧(zb4 n cur out r).lines.length≤out.length+r.length+1
 | [],n,cur,out,hn,hN,h=>by
  have hg:=zhm cur (decide (out.length < 2000))
  simp only[List.length_nil] at hN
  unfold zb4
  dsimp only
  split
  ·exact⟨zkq h hn hg.2 (fun x hx=>(hg.1 x hx).mono (by omega)),by have:=znc out n (zc8 cur (decide (out.length < 2000))).1;simp;omega⟩
  exact⟨fun l hl=>by simp at hl,by simp⟩
 | c :: r,n,cur,out,hn,hN,h=>by
  have hg:=zhm cur (decide (out.length < 2000))
  simp only[List.length_cons] at hN ⊢
  unfold zb4
  split
  ·dsimp only
   split
   ·have:=zgw r (n+1) [] (ze5 out n (zc8 cur (decide (out.length < 2000))).1) (by omega) (by simp;omega) (zkq h hn hg.2 (fun x hx=>(hg.1 x hx).mono (by omega)))
    have h2:=znc out n (zc8 cur (decide (out.length < 2000))).1
    exact⟨this.1,by omega⟩
   exact⟨fun l hl=>by simp at hl,by simp⟩
  have:=zgw r n (cur ++ [c]) out hn (by simp;omega) h
  exact⟨this.1,by omega⟩
theorem doc_good (t:Bs):(∀ l∈(docLines t).lines,zjx t.length l)∧(docLines t).lines.length≤t.length+1:=by
 unfold docLines
 split
 ·exact⟨fun l hl=>by simp at hl,by simp⟩
 have:=zgw (N:=t.length) t 1 [] [] (by omega) (by simp) (fun l hl=>by simp at hl)
 simpa using this
theorem doc_good7 (t:Bs):(∀ l∈(docLines t).lines,zjx 70000 l)∧(docLines t).lines.length≤70001:=by
 by_cases h:65536 < t.length
 ·unfold docLines
  rw[if_pos h]
  exact⟨fun l hl=>by simp at hl,by simp⟩
 have h1:=doc_good t
 exact⟨fun l hl=>by obtain⟨k1,k2,k3,k4⟩:=h1.1 l hl;exact⟨k1,k2,k3,fun x hx=>(k4 x hx).mono (by omega)⟩,by omega⟩
end LexM

section
open Go.Shelf Go.RowKit Go.Lib VerN VarM
open LexM (Wd Ln zjx)
attribute [local go_sem ↓] Go.wp_at_zero Go.wp_at_succ
theorem zr4 {w0 w:World} {r:Nat} {a:Option Addr} {n c:Nat} {fin:Int} {ws:List Wd} {t:Nat→Nat} {B xb rv lb:Nat} {vp vf:Value} {x:RcpM} {line:Int} (C:RdC w0 r a n c fin ws) (S:RdS w0 r a n c fin 0 w) (hin:0 < n)
  (H:RcSt w t B xb vp vf x) (tr:t r=10) (ta:∀ p,a=some p→p.block≠r∧9 < t p.block) (hBw:B≤w.heap.size) {k:Nat} (hx:zi6 k x) (hk:k≤70000)
  (c0:w.cell? ⟨rv,0,none⟩=some (rp r)) (c1:w.cell? ⟨lb,0,none⟩=some (.int .i64 line)) :
  Calls Tryz.prog 92 #[.pointer (some ⟨rv,0,none⟩),.pointer (some ⟨lb,0,none⟩),.pointer (some ⟨xb,0,none⟩)] w (zdz r fin ws 0 t B xb x line w):=by
 have hL:=zof (line:=line) C S (by omega) hin H tr ta hBw hx hk
 obtain⟨HC,HS,HH,Hx,HL,Htr,Hta⟩:=hd7 C S H hx hL tr ta;clear C S H hx hL tr ta
 go_enter Tryz.func92,Tryz.ntmps92
 go_wp2_with fail
 refine HL.out.mono ?_
 rintro e w1 ⟨⟨y,t',vp',vf',rfl,h1,h2,h3⟩ | ⟨h1,j,rfl⟩,hF⟩
 ·obtain⟨H1,H2,H3,HF⟩:=hd4 h1 h2 h3 hF;clear h1 h2 h3 hF
  go_wp2_with fail
  go_end0
  exact⟨.inl ⟨y,t',vp',vf',rfl,H1.out,H2.out,H3.out⟩,HF.out⟩
 obtain⟨H1,HF⟩:=hd2 h1 hF;clear h1 hF
 go_wp2_with fail
 exact⟨rfl,.inr ⟨H1.out,j,rfl⟩,HF.out⟩
end

section
open Go.Shelf Go.RowKit Go.Lib VerN VarM
open LexM (Wd)
attribute [local go_sem ↓] Go.wp_at_zero Go.wp_at_succ
end

section
open Go.Shelf Go.RowKit Go.Lib VerN VarM
open LexM (Wd Ln zjx)
attribute [local go_sem ↓] Go.wp_at_zero Go.wp_at_succ
theorem last_some {ws:List Wd} {n:Nat} (hn:n=ws.length) (h0:0 < n):∃ x,ws[n - 1]? = some x∧ws.getLast? = some x:=by
 subst hn
 have h:ws.length - 1 < ws.length:=by omega
 exact⟨ws[ws.length - 1],List.getElem?_eq_getElem h,by rw[List.getLast?_eq_getElem?,List.getElem?_eq_getElem h]⟩
end

section
open Go.RowKit
open LexM (Bs Wd Ln St)
theorem ofNat_toNat (c:UInt8):UInt8.ofNat ((c.toNat:Int)).toNat=c:=by simp
theorem strOf (s:Bs):strOfNums (s.map fun c=>((c.toNat:Int)))=⟨s.toArray⟩:=by
 unfold strOfNums
 congr 2
 rw[List.map_map]
 conv=>rhs;rw[← List.map_id s]
 apply List.map_congr_left
 intro c _
 simp
theorem zrd {w:World} {B:Nat} {v:Value} {s:Bs} (h:w.ownsRow B 5 1 v s.length (zi5 s)) (hs:s≠[]):(convert 142 9 v).run Tryz.prog w = .ok (bv s) w:=by
 have hpos:=List.length_pos_iff.2 hs
 obtain⟨g,cap,rfl,_,_,hn,hm,hc⟩:=zcj h hpos
 have:=run_convert_bytes_arg (P:=Tryz.prog) (w:=w) 142 5 Tryz.underlying142 Tryz.underlying5 g 0 s.length cap (s.map fun c=>((c.toNat:Int))) (by simp) (fun i hi=>by
  have h1:(zi5 s)[i]? = some (.int .u8 (s[i].toNat:Int)):=by simp[zi5,hi]
  rw[Nat.zero_add,hc i _ h1]
  simp[List.getD,hi]) 9 Tryz.underlying9
 rw[this,strOf]
theorem zbu.setEnds {w0 w:World} {x:Nat} {s:St} {wv sv ov:Value} {rv:List Value} (h:zbu w0 x s wv sv ov rv w) :
  zbu w0 x { s with frm:=0,word:=[] } (.slice none 0 0) sv ov rv ((w.setCell ⟨x,2,none⟩ (.int .i64 0)).setCell ⟨x,4,none⟩ (.slice none 0 0)):=by
 have f1:Frm (fun k=>k=x) w (w.setCell ⟨x,2,none⟩ (.int .i64 0)):=Frm.setCell (S:=fun k=>k=x) (Frm.refl _ _) (p:=⟨x,2,none⟩) (.inr rfl) _
 have f2:=Frm.setCell f1 (p:=⟨x,4,none⟩) (.inr rfl) (.slice none 0 0)
 refine h.to f2 ?_ (.inr ⟨rfl,rfl⟩) (.inl ⟨rfl,rfl⟩) rfl
 have h1:=heap_setCell_same w x 2 _ _ (.int .i64 0) h.cells
 rw[heap_setCell_same _ x 4 _ _ (.slice none 0 0) h1]
 rfl
abbrev lexp (x:Nat):Value:=.pointer (some ⟨x,0,none⟩)
def zh1 (w0:World) (x:Nat) (s:St) (e:Ending) (w':World):Prop:=e = .returned (.tuple #[])∧∃ wv sv ov rv,zbu w0 x s wv sv ov rv w'
theorem zl9 {w0 w:World} {x:Nat} {s s':St} {wv sv ov:Value} {rv:List Value} (h:zbu w0 x s' wv sv ov rv w) (e:s'=s):zh1 w0 x s (.returned (.tuple #[])) w:=⟨rfl,wv,sv,ov,rv,e ▸ h⟩
theorem ends_some {w0 w:World} {x:Nat} {s:St} {wv sv ov:Value} {rv:List Value} (h:zbu w0 x s wv sv ov rv w) {m:Nat} (hm:m≤1000000) (hs:Small s m) (hf:0 < s.frm) :
  Calls Tryz.prog 176 #[lexp x] w (zh1 w0 x (LexM.ends s)):=by
 have hne:=hs.begun hf
 have hwl:=hs.words
 have hB:=h.bel.size
 have hcv:(convert 142 9 wv).run Tryz.prog w.drew = .ok (bv s.word) w.drew:=zrd (w:=w.drew) h.word hne
 have hnx:=za3 h.words h.cells (by decide)
 have c2:=za2 h.cells 2
 have c4:=za2 h.cells 4
 have c5:=za2 h.cells 5
 simp only[zb0,List.getElem?_toArray,List.getElem?_cons_succ,List.getElem?_cons_zero] at c2 c4 c5
 have a5:∀ o:Obj,(w.alloc o).cell? ⟨x,5,none⟩=some sv:=fun o=>((Frm.refl _ w).alloc o).keep c5
 have hwd:(w.drew).ownsRow w0.heap.size 64 2 sv s.words.length (s.words.flatMap ze8):=h.words
 have hBd:w0.heap.size≤w.drew.heap.size:=hB
 obtain⟨Hh,Hwd,Hnx,Hs⟩:=hd4 h hwd hnx hs;clear h hwd hnx hs
 go_enter Tryz.func176,Tryz.ntmps176
 go_wp2_with fail
 go_region_law (refine zb3 elem_word (w:=w.drew) rfl (.tmp 11) (.tmp 22) rfl w0.heap.size sv s.words.length (s.words.flatMap ze8) rfl Hwd.out 1 (by decide) #[.int .i64 s.frm,bv s.word] rfl rfl (by simp[Value.oneCell',bv]) (by omega) (by unfold maxLen;omega) hBd ?_;intro g8 c8 w8 hown8 hg8 hm8;have hc8:=zaf Hh.out.cells ((Frm.drew (Frm.refl _ w)).grown hg8 (S:=fun k=>sv.ownBlock=some k) (fun k hk=>.inr hk)) Hnx.out;have d5:=za2 hc8 5;have e5:=za5 hc8 5;simp only[zb0,List.getElem?_toArray,List.getElem?_cons_succ,List.getElem?_cons_zero] at d5)
 all_goals
  have hP:=Hh.out.pushWord (s.frm,s.word) hown8 (zbn hg8) (fun k hk=>hm8 k hk)
  obtain⟨w9,hw9⟩ : ∃ w9,w9=w8.setCell ⟨x,5,none⟩ (.slice (some ⟨g8,0,none⟩) (s.words.length+1) c8):=⟨_,rfl⟩
  rw[← hw9] at hP ⊢
  have z2:=za5 hP.cells 2
  have z4:=za5 hP.cells 4
  have y2:=za2 hP.cells 2
  have y4:=za2 hP.cells 4
  simp only[zb0,List.getElem?_toArray,List.getElem?_cons_succ,List.getElem?_cons_zero] at y2 y4
  have hL:=hP.setEnds
  obtain⟨HP,HL⟩:=hd2 hP hL;clear hP hL
  clear hown8 hg8 hm8 hc8 d5 e5 hw9 c2 c4 c5 a5 hcv
  go_wp2_with fail
  go_end0
  exact zl9 HL.out (by unfold LexM.ends;rw[if_pos hf])
theorem ends_none {w0 w:World} {x:Nat} {s:St} {wv sv ov:Value} {rv:List Value} (h:zbu w0 x s wv sv ov rv w) (hf:¬ 0 < s.frm) :
  Calls Tryz.prog 176 #[lexp x] w (zh1 w0 x (LexM.ends s)):=by
 have z2:=za5 h.cells 2
 have z4:=za5 h.cells 4
 have y2:=za2 h.cells 2
 have y4:=za2 h.cells 4
 simp only[zb0,List.getElem?_toArray,List.getElem?_cons_succ,List.getElem?_cons_zero] at y2 y4
 have hL:=h.setEnds
 obtain⟨Hh,HL⟩:=hd2 h hL;clear h hL
 go_enter Tryz.func176,Tryz.ntmps176
 go_wp2_with fail
 go_end0
 exact zl9 HL.out (by unfold LexM.ends;rw[if_neg (by omega)])
theorem zij {w0 w:World} {x:Nat} {s:St} {wv sv ov:Value} {rv:List Value} (h:zbu w0 x s wv sv ov rv w) {m:Nat} (hm:m≤1000000) (hs:Small s m) :
  Calls Tryz.prog 176 #[lexp x] w (zh1 w0 x (LexM.ends s)):=by
 by_cases hf:0 < s.frm
 ·exact ends_some h hm hs hf
 exact ends_none h hf
end

section
open Go.RowKit
open LexM (Bs Wd Ln St)
theorem ends_len (s:St) (m:Nat) (h:s.words.length≤m):(LexM.ends s).words.length≤m+1:=by
 unfold LexM.ends
 dsimp only
 split <;> (try simp) <;> omega
theorem zor {w0 w:World} {x:Nat} {s:St} {wv sv ov:Value} {rv:List Value} (h:zbu w0 x s wv sv ov rv w) {m:Nat} (hm:m≤1000000) (hs:Small s m) (hw:(LexM.ends s).words≠[]) :
  Calls Tryz.prog 127 #[lexp x] w (zh1 w0 x (LexM.breaks s)):=by
 have HE:=Lib.hid (zij h hm hs)
 have hso:=hs.out
 have hsl:=hs.line
 have hlen:=ends_len s m hs.words
 have hpos:=List.length_pos_iff.2 hw
 obtain⟨Hh,Hs,Hw⟩:=hd3 h hs hw;clear h hs hw
 go_enter Tryz.func127,Tryz.ntmps127
 go_wp2_with fail
 refine HE.out.mono ?_
 rintro e w1 ⟨rfl,wv1,sv1,ov1,rv1,h1⟩
 have hB:=h1.bel.size
 have hnx:=za3 h1.out h1.cells (by decide)
 obtain⟨sa,sc,rfl⟩:=za9 h1.words
 have c0:=za2 h1.cells 0
 have c5:=za2 h1.cells 5
 have c6:=za2 h1.cells 6
 simp only[zb0,LexM.ends,List.getElem?_toArray,List.getElem?_cons_succ,List.getElem?_cons_zero] at c0 c5 c6
 obtain⟨ws,hws⟩ : ∃ ws,ws=(LexM.ends s).words:=⟨_,rfl⟩
 have c5':w1.cell? ⟨x,5,none⟩=some (.slice sa ws.length sc):=by rw[hws];exact c5
 rw[← hws] at hpos hlen
 have a6:∀ o:Obj,(w1.alloc o).cell? ⟨x,6,none⟩=some ov1:=fun o=>((Frm.refl _ w1).alloc o).keep c6
 have hwd:(w1.drew).ownsRow w0.heap.size 62 2 ov1 s.out.length (zfy s.out rv1):=h1.out
 have hBd:w0.heap.size≤w1.drew.heap.size:=hB
 obtain⟨H1,Hwd,Hnx,Hws⟩:=hd4 h1 hwd hnx hws;clear h1 hwd hnx hws
 clear c5
 go_wp2_with fail
 go_region_law (refine zb3 elem_line (w:=w1.drew) rfl (.tmp 14) (.tmp 24) rfl w0.heap.size ov1 s.out.length (zfy s.out rv1) rfl Hwd.out 1 (by decide) #[.int .i64 s.line,.slice sa ws.length sc] rfl rfl (by simp[Value.oneCell']) (by omega) (by unfold maxLen;omega) hBd ?_;intro g8 c8 w8 hown8 hg8 hm8;have hc8:=zaf H1.out.cells ((Frm.drew (Frm.refl _ w1)).grown hg8 (S:=fun k=>ov1.ownBlock=some k) (fun k hk=>.inr hk)) Hnx.out;have d6:=za2 hc8 6;have e6:=za5 hc8 6;simp only[zb0,LexM.ends,List.getElem?_toArray,List.getElem?_cons_succ,List.getElem?_cons_zero] at d6)
 all_goals
  have d0:=za2 hc8 0
  have d1:=za2 hc8 1
  have d3:=za2 hc8 3
  have d5:=za2 hc8 5
  have e0:=za5 hc8 0
  have e1:=za5 hc8 1
  have e3:=za5 hc8 3
  have e5:=za5 hc8 5
  simp only[zb0,LexM.ends,List.getElem?_toArray,List.getElem?_cons_succ,List.getElem?_cons_zero] at d0 d1 d3 d5
  have hcells:=hc8
  have hl1 : -9223372036854775808≤s.line+1∧s.line+1≤9223372036854775807:=by omega
  obtain⟨Hown8,Hg8,Hcells⟩:=hd3 hown8 hg8 hcells;clear hown8 hg8 hcells
  clear hm8 hc8 c0 c5' c6 a6
  go_wp2_with fail
  go_end0
  have hS:LexM.breaks s = { (LexM.ends s) with out:=s.out ++ [(s.line,(LexM.ends s).words)],words:=[],off:=false,line:=s.line+1,col:=0 }:=by
   unfold LexM.breaks
   rw[if_neg Hw.out]
  refine zl9 (H1.out.pushLine (s':=LexM.breaks s) (by have:=Hown8.out;rw[Hws.out] at this;exact this) (zbn Hg8.out) ?_ ?_ ?_ ?_ ?_) rfl
  ·exact zad (zad (zad (zad (zad (Frm.refl _ w8) 6 _) 5 _) 3 _) 0 _) 1 _
  ·rw[hS]
   have k0:=heap_setCell_same _ x 6 _ _ (.slice (some ⟨g8,0,none⟩) (s.out.length+1) c8) Hcells.out
   have k1:=heap_setCell_same _ x 5 _ _ (.slice none 0 0) k0
   have k2:=heap_setCell_same _ x 3 _ _ (.bool false) k1
   have k3:=heap_setCell_same _ x 0 _ _ (.int .i64 (s.line+1)) k2
   have k4:=heap_setCell_same _ x 1 _ _ (.int .i64 0) k3
   rw[k4]
   rfl
  ·rw[hS]
  ·rw[hS]
  rw[hS];rfl
theorem zos {w0 w:World} {x:Nat} {s:St} {wv sv ov:Value} {rv:List Value} (h:zbu w0 x s wv sv ov rv w) {m:Nat} (hm:m≤1000000) (hs:Small s m) (hw:(LexM.ends s).words = []) :
  Calls Tryz.prog 127 #[lexp x] w (zh1 w0 x (LexM.breaks s)):=by
 have HE:=Lib.hid (zij h hm hs)
 have hsl:=hs.line
 obtain⟨Hh,Hs,Hw⟩:=hd3 h hs hw;clear h hs hw
 go_enter Tryz.func127,Tryz.ntmps127
 go_wp2_with fail
 refine HE.out.mono ?_
 rintro e w1 ⟨rfl,wv1,sv1,ov1,rv1,h1⟩
 obtain⟨sa,sc,rfl⟩:=za9 h1.words
 have hcells:=h1.cells
 rw[Hw.out] at hcells
 have d0:=za2 hcells 0
 have d1:=za2 hcells 1
 have d3:=za2 hcells 3
 have d5:=za2 hcells 5
 have e0:=za5 hcells 0
 have e1:=za5 hcells 1
 have e3:=za5 hcells 3
 have e5:=za5 hcells 5
 simp only[zb0,LexM.ends,List.getElem?_toArray,List.getElem?_cons_succ,List.getElem?_cons_zero,List.length_nil] at d0 d1 d3 d5
 have hl1 : -9223372036854775808≤s.line+1∧s.line+1≤9223372036854775807:=by omega
 obtain⟨H1,Hcells⟩:=hd2 h1 hcells;clear h1 hcells
 go_wp2_with fail
 go_end0
 have hS:LexM.breaks s = { (LexM.ends s) with out:=s.out,words:=[],off:=false,line:=s.line+1,col:=0 }:=by
  unfold LexM.breaks
  rw[if_pos Hw.out]
 refine zl9 (H1.out.to (s':=LexM.breaks s) (wv':=wv1) (sv':=.slice none 0 0) ?_ ?_ (.inl ⟨rfl,?_⟩) (.inr ⟨rfl,?_⟩) ?_) rfl
 ·exact zad (zad (zad (zad (Frm.refl _ w1) 5 _) 3 _) 0 _) 1 _
 ·rw[hS]
  have k1:=heap_setCell_same _ x 5 _ _ (.slice none 0 0) Hcells.out
  have k2:=heap_setCell_same _ x 3 _ _ (.bool false) k1
  have k3:=heap_setCell_same _ x 0 _ _ (.int .i64 (s.line+1)) k2
  have k4:=heap_setCell_same _ x 1 _ _ (.int .i64 0) k3
  rw[k4]
  rfl
 ·rw[hS]
 ·rw[hS]
 rw[hS];rfl
theorem zkp {w0 w:World} {x:Nat} {s:St} {wv sv ov:Value} {rv:List Value} (h:zbu w0 x s wv sv ov rv w) {m:Nat} (hm:m≤1000000) (hs:Small s m) :
  Calls Tryz.prog 127 #[lexp x] w (zh1 w0 x (LexM.breaks s)):=by
 by_cases hw:(LexM.ends s).words = []
 ·exact zos h hm hs hw
 exact zor h hm hs hw
end

section
open Go.RowKit
open LexM (Bs Wd Ln St)
def zlp (w0:World) (x:Nat) (s:St) (v:Value) (e:Ending) (w':World):Prop:=e = .returned v∧∃ wv sv ov rv,zbu w0 x s wv sv ov rv w'
theorem zdh {w0 w:World} {x:Nat} {s s':St} {wv sv ov v v':Value} {rv:List Value} (h:zbu w0 x s' wv sv ov rv w) (e:s'=s) (hv:v'=v):zlp w0 x s v (.returned v') w:=⟨by rw[hv],wv,sv,ov,rv,e ▸ h⟩
theorem zbu.scal {w0 w:World} {x:Nat} {s:St} {wv sv ov:Value} {rv:List Value} (h:zbu w0 x s wv sv ov rv w) (i:Nat) (u:Value) (s':St) (hc:((zb0 s wv sv ov).setIfInBounds i u)=zb0 s' wv sv ov) (h1:s'.word=s.word) (h2:s'.words=s.words) (h3:s'.out=s.out) :
  zbu w0 x s' wv sv ov rv (w.setCell ⟨x,i,none⟩ u):=by
 refine h.to (Frm.setCell (S:=fun k=>k=x) (Frm.refl _ _) (p:=⟨x,i,none⟩) (.inr rfl) _) ?_ (.inl ⟨rfl,h1⟩) (.inl ⟨rfl,h2⟩) h3
 rw[heap_setCell_same w x i _ _ u h.cells,hc]
theorem zrn {w0 w:World} {x:Nat} {s:St} {wv sv ov:Value} {rv:List Value} (h:zbu w0 x s wv sv ov rv w) (hf:¬ 0 < s.frm) :
  Calls Tryz.prog 177 #[lexp x] w (zlp w0 x { s with frm:=s.col } (.bool (LexM.mayBegin s))):=by
 obtain⟨sa,sc,rfl⟩:=za9 h.words
 obtain⟨oa,oc,rfl⟩:=za9 h.out
 have d1:=za2 h.cells 1
 have d2:=za2 h.cells 2
 have d5:=za2 h.cells 5
 have d6:=za2 h.cells 6
 have e2:=za5 h.cells 2
 simp only[zb0,List.getElem?_toArray,List.getElem?_cons_succ,List.getElem?_cons_zero] at d1 d2 d5 d6
 have hL:=h.scal 2 (.int .i64 s.col) { s with frm:=s.col } rfl rfl rfl rfl
 obtain⟨Hh,HL⟩:=hd2 h hL;clear h hL
 by_cases h1:s.words.length < 40
 ·by_cases h2:0 < s.words.length
  ·have hb:LexM.mayBegin s=true:=by unfold LexM.mayBegin;simp[h1,h2]
   have Hb:=hd hb;clear hb
   go_enter Tryz.func177,Tryz.ntmps177
   go_wp2_with fail
   go_ret
   exact zdh HL.out rfl (by rw[Hb.out];rfl)
  by_cases h3:s.out.length < 2000
  ·have hb:LexM.mayBegin s=true:=by unfold LexM.mayBegin;simp[h1,h3]
   have Hb:=hd hb;clear hb
   go_enter Tryz.func177,Tryz.ntmps177
   go_wp2_with fail
   go_ret
   exact zdh HL.out rfl (by rw[Hb.out];exact congrArg Value.bool (decide_eq_true (by omega)))
  have hb:LexM.mayBegin s=false:=by unfold LexM.mayBegin;simp[h2,h3]
  have Hb:=hd hb;clear hb
  go_enter Tryz.func177,Tryz.ntmps177
  go_wp2_with fail
  go_ret
  exact zdh HL.out rfl (by rw[Hb.out];exact congrArg Value.bool (decide_eq_false (by omega)))
 have hb:LexM.mayBegin s=false:=by unfold LexM.mayBegin;simp[h1]
 have Hb:=hd hb;clear hb
 go_enter Tryz.func177,Tryz.ntmps177
 go_wp2_with fail
 go_ret
 exact zdh HL.out rfl (by rw[Hb.out];rfl)
theorem begins_on {w0 w:World} {x:Nat} {s:St} {wv sv ov:Value} {rv:List Value} (h:zbu w0 x s wv sv ov rv w) (hf:0 < s.frm) :
  Calls Tryz.prog 177 #[lexp x] w (zlp w0 x s (.bool true)):=by
 have d2:=za2 h.cells 2
 simp only[zb0,List.getElem?_toArray,List.getElem?_cons_succ,List.getElem?_cons_zero] at d2
 have Hh:=hd h;clear h
 go_enter Tryz.func177,Tryz.ntmps177
 go_wp2_with fail
 go_ret
 exact zdh Hh.out rfl rfl
theorem zkw {s:St} {m:Nat} (h:Small s m):Small (LexM.onward s) (m+1):=by
 obtain⟨a,b,c,d,e,f,g⟩:=h
 refine⟨?_,?_,?_,?_,?_,?_,g⟩ <;> simp only[LexM.onward] <;> omega
theorem zbu.on {w0 w:World} {x:Nat} {s:St} {wv sv ov:Value} {rv:List Value} (h:zbu w0 x s wv sv ov rv w):zbu w0 x (LexM.onward s) wv sv ov rv (w.setCell ⟨x,1,none⟩ (.int .i64 (s.col+1))) :=
 h.scal 1 (.int .i64 (s.col+1)) (LexM.onward s) rfl rfl rfl rfl
def zgd (w0:World) (x:Nat) (s:St) (c:UInt8):Ending→World→Prop:=zlp w0 x (LexM.takes s c).1 (.int .i64 (LexM.takes s c).2)
theorem takes_any {w0 w:World} {x:Nat} {s:St} {wv sv ov:Value} {rv:List Value} (h:zbu w0 x s wv sv ov rv w) {m:Nat} (hm:m < 1000000) (hs:Small s m) (c:UInt8) :
  Calls Tryz.prog 126 #[lexp x,.int .u8 c.toNat] w (zgd w0 x s c):=by
 have hcol:=hs.col
 have hcl:c.toNat < 256:=c.toNat_lt
 have d1:=za2 h.cells 1
 have e1:=za5 h.cells 1
 have h2:=h.on
 have hs2:=zkw hs
 obtain⟨n,hn⟩ : ∃ n,n=c.toNat:=⟨_,rfl⟩
 rw[← hn] at hcl ⊢
 simp only[zb0,List.getElem?_toArray,List.getElem?_cons_succ,List.getElem?_cons_zero] at d1
 obtain⟨Hh,H2,Hs,Hs2,Hn⟩:=hd5 h h2 hs hs2 hn;clear h h2 hs hs2 hn
 by_cases h10:n=10
 ·have ht:LexM.takes s c=(LexM.breaks (LexM.onward s),0):=by unfold LexM.takes;rw[if_pos (by rw[← Hn.out];exact h10)]
  have b10:((n:Int) == 10)=true:=by rw[beq_iff_eq];omega
  have HB:=Lib.hid (zkp H2.out (by omega) Hs2.out)
  unfold zgd
  rw[ht]
  obtain⟨Ht,H10⟩:=hd2 ht h10;clear ht h10
  go_enter Tryz.func126,Tryz.ntmps126
  go_wp2_with fail
  refine HB.out.mono ?_
  rintro e w1 ⟨rfl,wv1,sv1,ov1,rv1,h1⟩
  have H1:=hd h1;clear h1
  go_wp2_with fail
  go_ret
  exact zdh H1.out rfl rfl
 have c10:¬ c.toNat=10:=by rw[← Hn.out];exact h10
 have b10:((n:Int) == 10)=false:=by rw[beq_eq_false_iff_ne];omega
 by_cases hA:n < 32∨126 < n
 ·have ht:LexM.takes s c=(LexM.onward s,3):=by unfold LexM.takes;rw[if_neg c10,if_pos (by rw[← Hn.out];exact hA)]
  unfold zgd
  rw[ht]
  clear ht h10 c10
  by_cases h32:n < 32
  ·clear hA
   go_enter Tryz.func126,Tryz.ntmps126
   go_wp2_with fail
   go_ret
   exact zdh H2.out rfl rfl
  have h126:126 < n:=by omega
  clear hA
  go_enter Tryz.func126,Tryz.ntmps126
  go_wp2_with fail
  go_ret
  exact zdh H2.out rfl rfl
 have hlo:32≤n:=by omega
 have hhi:n≤126:=by omega
 have cA:¬ (c.toNat < 32∨126 < c.toNat):=by rw[← Hn.out];exact hA
 have d3:=za2 Hh.out.cells 3
 simp only[zb0,List.getElem?_toArray,List.getElem?_cons_succ,List.getElem?_cons_zero] at d3
 obtain⟨off,hoff⟩ : ∃ off,off=s.off:=⟨_,rfl⟩
 rw[← hoff] at d3
 clear hA h10
 cases off
 ·have coff:¬ s.off=true:=by rw[← hoff];simp
  clear hoff
  by_cases h35:n=35
  ·have ht:LexM.takes s c=({ LexM.ends (LexM.onward s) with off:=true },0):=by unfold LexM.takes;rw[if_neg c10,if_neg cA,if_neg coff,if_pos (by rw[← Hn.out];exact h35)]
   have b35:((n:Int) == 35)=true:=by rw[beq_iff_eq];omega
   have HE:=Lib.hid (zij H2.out (by omega) Hs2.out)
   unfold zgd
   rw[ht]
   clear ht c10 cA coff h35
   go_enter Tryz.func126,Tryz.ntmps126
   go_wp2_with fail
   refine HE.out.mono ?_
   rintro e w1 ⟨rfl,wv1,sv1,ov1,rv1,h1⟩
   have e3:=za2 h1.cells 3
   have f3:=za5 h1.cells 3
   simp only[zb0,List.getElem?_toArray,List.getElem?_cons_succ,List.getElem?_cons_zero] at e3
   have hX:=h1.scal 3 (.bool true) { LexM.ends (LexM.onward s) with off:=true } rfl rfl rfl rfl
   obtain⟨H1,HX⟩:=hd2 h1 hX;clear h1 hX
   go_wp2_with fail
   go_ret
   exact zdh HX.out rfl rfl
  have c35:¬ c.toNat=35:=by rw[← Hn.out];exact h35
  have b35:((n:Int) == 35)=false:=by rw[beq_eq_false_iff_ne];omega
  by_cases h32:n=32
  ·have ht:LexM.takes s c=(LexM.ends (LexM.onward s),0):=by unfold LexM.takes;rw[if_neg c10,if_neg cA,if_neg coff,if_neg c35,if_pos (by rw[← Hn.out];exact h32)]
   have b32:((n:Int) == 32)=true:=by rw[beq_iff_eq];omega
   have HE:=Lib.hid (zij H2.out (by omega) Hs2.out)
   unfold zgd
   rw[ht]
   clear ht c10 cA coff h35 c35 h32
   go_enter Tryz.func126,Tryz.ntmps126
   go_wp2_with fail
   refine HE.out.mono ?_
   rintro e w1 ⟨rfl,wv1,sv1,ov1,rv1,h1⟩
   have H1:=hd h1;clear h1
   go_wp2_with fail
   go_ret
   exact zdh H1.out rfl rfl
  have c32:¬ c.toNat=32:=by rw[← Hn.out];exact h32
  have b32:((n:Int) == 32)=false:=by rw[beq_eq_false_iff_ne];omega
  by_cases hfr:0 < s.frm
  ·have ht:LexM.takes s c=({ LexM.onward s with word:=s.word ++ [c] },0):=by unfold LexM.takes;rw[if_neg c10,if_neg cA,if_neg coff,if_neg c35,if_neg c32,if_pos hfr]
   have HE:=Lib.hid (begins_on H2.out (show 0 < (LexM.onward s).frm from hfr))
   have Ht:=hd ht;clear ht
   clear c10 cA coff h35 c35 h32 c32 hfr
   go_enter Tryz.func126,Tryz.ntmps126
   go_wp2_with fail
   refine HE.out.mono ?_
   rintro e w1 ⟨rfl,wv1,sv1,ov1,rv1,h1⟩
   have e4:=za2 h1.cells 4
   simp only[zb0,List.getElem?_toArray,List.getElem?_cons_succ,List.getElem?_cons_zero] at e4
   have hB1:=h1.bel.size
   have hx1:=za3 h1.word h1.cells (by decide)
   have how:=h1.word
   have hwl:s.word.length≤m:=Hs.out.word
   obtain⟨H1,Hx1,How⟩:=hd3 h1 hx1 how;clear h1 hx1 how
   go_wp2_with (at_builtin;refine zeo zn0 (w:=w1) rfl (.tmp 16) (.tmp 18) rfl w0.heap.size wv1 s.word.length (zi5 s.word) rfl How.out 1 (by decide) #[.int .u8 n] rfl rfl (by simp[Value.oneCell']) (by omega) (by unfold maxLen;omega) hB1 ?_)
   intro g8 c8 w8 hown8 hg8 hm8
   have hc8:=zaf H1.out.cells ((Frm.refl _ w1).grown hg8 (S:=fun k=>wv1.ownBlock=some k) (fun k hk=>.inr hk)) Hx1.out
   have k4:=za2 hc8 4
   have f4:=za5 hc8 4
   simp only[zb0,List.getElem?_toArray,List.getElem?_cons_succ,List.getElem?_cons_zero] at k4
   have hP:=H1.out.pushByte c (by rw[← Hn.out];exact hown8) hg8
   have HP:=hd hP;clear hP
   clear hown8 hg8 hm8 hc8
   go_wp2_with fail
   go_ret
   exact zdh HP.out (by rw[Ht.out];rfl) (by rw[Ht.out];rfl)
  have HE:=Lib.hid (zrn H2.out (show ¬ 0 < (LexM.onward s).frm from hfr))
  by_cases hmb:LexM.mayBegin s=true
  ·have ht:LexM.takes s c=({ LexM.onward s with frm:=s.col+1,word:=s.word ++ [c] },0):=by unfold LexM.takes;rw[if_neg c10,if_neg cA,if_neg coff,if_neg c35,if_neg c32,if_neg hfr,if_pos hmb]
   have hmb2:LexM.mayBegin (LexM.onward s)=true:=hmb
   rw[hmb2] at HE
   have Ht:=hd ht;clear ht
   clear c10 cA coff h35 c35 h32 c32 hfr hmb hmb2
   go_enter Tryz.func126,Tryz.ntmps126
   go_wp2_with fail
   refine HE.out.mono ?_
   rintro e w1 ⟨rfl,wv1,sv1,ov1,rv1,h1⟩
   have e4:=za2 h1.cells 4
   simp only[zb0,List.getElem?_toArray,List.getElem?_cons_succ,List.getElem?_cons_zero] at e4
   have hB1:=h1.bel.size
   have hx1:=za3 h1.word h1.cells (by decide)
   have how:=h1.word
   have hwl:s.word.length≤m:=Hs.out.word
   obtain⟨H1,Hx1,How⟩:=hd3 h1 hx1 how;clear h1 hx1 how
   go_wp2_with (at_builtin;refine zeo zn0 (w:=w1) rfl (.tmp 16) (.tmp 18) rfl w0.heap.size wv1 s.word.length (zi5 s.word) rfl How.out 1 (by decide) #[.int .u8 n] rfl rfl (by simp[Value.oneCell']) (by omega) (by unfold maxLen;omega) hB1 ?_)
   intro g8 c8 w8 hown8 hg8 hm8
   have hc8:=zaf H1.out.cells ((Frm.refl _ w1).grown hg8 (S:=fun k=>wv1.ownBlock=some k) (fun k hk=>.inr hk)) Hx1.out
   have k4:=za2 hc8 4
   have f4:=za5 hc8 4
   simp only[zb0,List.getElem?_toArray,List.getElem?_cons_succ,List.getElem?_cons_zero] at k4
   have hP:=H1.out.pushByte c (by rw[← Hn.out];exact hown8) hg8
   have HP:=hd hP;clear hP
   clear hown8 hg8 hm8 hc8
   go_wp2_with fail
   go_ret
   exact zdh HP.out (by rw[Ht.out];rfl) (by rw[Ht.out];rfl)
  have ht:LexM.takes s c=({ LexM.onward s with frm:=s.col+1 },4):=by unfold LexM.takes;rw[if_neg c10,if_neg cA,if_neg coff,if_neg c35,if_neg c32,if_neg hfr,if_neg hmb]
  have hmb2:LexM.mayBegin (LexM.onward s)=false:=(by simpa using hmb:LexM.mayBegin s=false)
  rw[hmb2] at HE
  have Ht:=hd ht;clear ht
  clear c10 cA coff h35 c35 h32 c32 hfr hmb hmb2
  go_enter Tryz.func126,Tryz.ntmps126
  go_wp2_with fail
  refine HE.out.mono ?_
  rintro e w1 ⟨rfl,wv1,sv1,ov1,rv1,h1⟩
  have H1:=hd h1;clear h1
  go_wp2_with fail
  go_ret
  exact zdh H1.out (by rw[Ht.out];rfl) (by rw[Ht.out];rfl)
 have coff:s.off=true:=hoff.symm
 have ht:LexM.takes s c=(LexM.onward s,0):=by unfold LexM.takes;rw[if_neg c10,if_neg cA,if_pos coff]
 unfold zgd
 rw[ht]
 clear ht c10 cA coff hoff
 go_enter Tryz.func126,Tryz.ntmps126
 go_wp2_with fail
 go_ret
 exact zdh H2.out rfl rfl
end

section
open Go.RowKit
open LexM (Bs Wd Ln St)
theorem small0:Small LexM.st0 0:=⟨by decide,by decide,by decide,by decide,by decide,by decide,by decide⟩
theorem zkm {s:St} {m:Nat} (h:Small s m):Small (LexM.ends s) (m+1):=by
 obtain⟨a,b,c,d,e,f,g⟩:=h
 refine⟨?_,?_,?_,?_,?_,?_,?_⟩ <;> unfold LexM.ends <;> dsimp only
 ·omega
 ·omega
 ·omega
 ·simp
 ·split <;> (try simp) <;> omega
 ·omega
 intro h;exact absurd h (by decide)
theorem zn8 {s:St} {m:Nat} (h:Small s m):Small (LexM.breaks s) (m+1):=by
 obtain⟨a,b,c,d,e,f,g⟩:=h
 refine⟨?_,?_,?_,?_,?_,?_,?_⟩ <;> unfold LexM.breaks LexM.ends <;> dsimp only
 ·omega
 ·omega
 ·omega
 ·simp
 ·simp
 ·(repeat' split) <;> (try simp) <;> omega
 intro h;exact absurd h (by decide)
theorem Small.mono {s:St} {m k:Nat} (h:Small s m) (hk:m≤k):Small s k:=by
 obtain⟨a,b,c,d,e,f,g⟩:=h
 exact⟨by omega,by omega,by omega,by omega,by omega,by omega,g⟩
theorem zio {s:St} {m:Nat} (h:Small s m) (c:UInt8) (h0:(LexM.takes s c).2=0):Small (LexM.takes s c).1 (m+2):=by
 have h1:=zkw h
 unfold LexM.takes at h0 ⊢
 split
 ·exact zn8 h1
 rename_i c10
 rw[if_neg c10] at h0
 split
 ·rename_i cA;rw[if_pos cA] at h0;cases h0
 rename_i cA
 rw[if_neg cA] at h0
 split
 ·exact h1.mono (by omega)
 rename_i co
 rw[if_neg co] at h0
 split
 ·obtain⟨a,b,c,d,e,f,g⟩:=zkm h1
  exact⟨a,b,c,d,e,f,g⟩
 rename_i c35
 rw[if_neg c35] at h0
 split
 ·exact zkm h1
 rename_i c32
 rw[if_neg c32] at h0
 have hw:=h.word
 have hc:=h.col
 obtain⟨a,b,c,d,e,f,g⟩:=h1
 split
 ·exact⟨by dsimp only;omega,by dsimp only;omega,by dsimp only;omega,by simp;omega,by dsimp only;omega,by dsimp only;omega,fun _=>by simp⟩
 rename_i cf
 rw[if_neg cf] at h0
 split
 ·refine⟨by dsimp only;omega,by dsimp only;omega,by dsimp only;omega,by simp;omega,by dsimp only;omega,by dsimp only;omega,fun _=>by simp⟩
 rename_i cm
 rw[if_neg cm] at h0
 cases h0
theorem run_small (t:Bs):∀ (s:St) (m:Nat),Small s m→(LexM.run s t).2=0→Small (LexM.run s t).1 (m+2 * t.length):=by
 induction t with
 | nil=>intro s m h _;exact h
 | cons c r ih =>
  intro s m h h0
  by_cases hz:(LexM.takes s c).2=0
  ·rw[LexM.run_ok hz] at h0 ⊢
   have:=ih _ _ (zio h c hz) h0
   rw[List.length_cons]
   exact this.mono (by omega)
  rw[LexM.run_bad hz] at h0;exact absurd h0 hz
theorem zny (t:Bs) (c:UInt8) (s:St) (h:(LexM.run s t).2=0):LexM.run s (t ++ [c])=if (LexM.takes (LexM.run s t).1 c).2=0 then ((LexM.takes (LexM.run s t).1 c).1,0) else LexM.takes (LexM.run s t).1 c:=by
 rw[LexM.run_append,if_pos h]
 by_cases hz:(LexM.takes (LexM.run s t).1 c).2=0
 ·rw[LexM.run_ok hz,if_pos hz];rfl
 rw[LexM.run_bad hz,if_neg hz]
theorem run_stop (t r:Bs) (s:St) (h:(LexM.run s t).2≠0):LexM.run s (t ++ r)=LexM.run s t:=by rw[LexM.run_append,if_neg h]
def WdOk (m:Nat) (x:Wd):Prop:=0≤x.1∧x.1≤m∧x.2.length≤m
def LnOk (m:Nat) (x:Ln):Prop:=0≤x.1∧x.1≤m+1∧∀ wd∈x.2,WdOk m wd
structure Fine (s:St) (m:Nat):Prop where
 words:∀ wd∈s.words,WdOk m wd
 out:∀ ln∈s.out,LnOk m ln
theorem WdOk.mono {m k:Nat} {x:Wd} (h:WdOk m x) (hk:m≤k):WdOk k x:=by obtain⟨a,b,c⟩:=h;exact⟨a,by omega,by omega⟩
theorem LnOk.mono {m k:Nat} {x:Ln} (h:LnOk m x) (hk:m≤k):LnOk k x:=by obtain⟨a,b,c⟩:=h;exact⟨a,by omega,fun wd hw=>(c wd hw).mono hk⟩
theorem Fine.mono {s:St} {m k:Nat} (h:Fine s m) (hk:m≤k):Fine s k:=⟨fun wd hw=>(h.words wd hw).mono hk,fun ln hl=>(h.out ln hl).mono hk⟩
theorem zmy {s:St} {m:Nat} (hs:Small s m) (h:Fine s m):Fine (LexM.ends s) m:=by
 refine⟨?_,h.out⟩
 unfold LexM.ends
 dsimp only
 split
 ·intro wd hw
  rcases List.mem_append.1 hw with hw | hw
  ·exact h.words wd hw
  simp at hw
  subst hw
  exact⟨hs.frm.1,hs.frm.2,hs.word⟩
 exact h.words
theorem zjp {s:St} {m:Nat} (hs:Small s m) (h:Fine s m):Fine (LexM.breaks s) m:=by
 have h1:=zmy hs h
 unfold LexM.breaks
 refine⟨by simp,?_⟩
 dsimp only
 split
 ·exact h.out
 intro ln hl
 rcases List.mem_append.1 hl with hl | hl
 ·exact h.out ln hl
 simp at hl
 subst hl
 exact⟨hs.line.1,hs.line.2,h1.words⟩
theorem zqa {s:St} {m:Nat} (hs:Small s m) (h:Fine s m) (c:UInt8):Fine (LexM.takes s c).1 (m+2):=by
 have h1:=zkw hs
 have h2:Fine (LexM.onward s) (m+1):=⟨(h.mono (Nat.le_succ m)).words,(h.mono (Nat.le_succ m)).out⟩
 have h3:=(zmy h1 h2).mono (Nat.le_succ _)
 have h4:=h2.mono (Nat.le_succ (m+1))
 unfold LexM.takes
 split
 ·exact (zjp h1 h2).mono (Nat.le_succ _)
 split
 ·exact h4
 split
 ·exact h4
 split
 ·exact⟨h3.words,h3.out⟩
 split
 ·exact h3
 split
 ·exact⟨h4.words,h4.out⟩
 split
 ·exact⟨h4.words,h4.out⟩
 exact⟨h4.words,h4.out⟩
theorem run_fine (t:Bs):∀ (s:St) (m:Nat),Small s m→Fine s m→(LexM.run s t).2=0→Fine (LexM.run s t).1 (m+2 * t.length):=by
 induction t with
 | nil=>intro s m _ h _;exact h
 | cons c r ih =>
  intro s m hs h h0
  by_cases hz:(LexM.takes s c).2=0
  ·rw[LexM.run_ok hz] at h0 ⊢
   have:=ih _ _ (zio hs c hz) (zqa hs h c) h0
   rw[List.length_cons]
   exact this.mono (by omega)
  rw[LexM.run_bad hz] at h0;exact absurd h0 hz
theorem zp0 {n:Int} (h0:0≤n) (h1:n≤9223372036854775807):(Lit.int .i64 n).wf=true:=by
 simp[Lit.wf,IntKind.min,IntKind.max,IntKind.signed,IntKind.bits]
 omega
theorem rword {w:World} {m:Nat} (hm:m≤10000000) {x:Wd} (h:WdOk m x):RWd w (ze8 x) x:=by
 obtain⟨a,b,c⟩:=h
 exact⟨rfl,zp0 a (by omega),by unfold maxLen;omega⟩
theorem zbu.reads {w0 w w':World} {x:Nat} {s:St} {wv sv ov:Value} {rv:List Value} (h:zbu w0 x s wv sv ov rv w) (hfr:Frm (fun k=>k < w0.heap.size) w w') {m:Nat} (hm:m≤10000000) (hf:Fine s m):RLns w' [ov] s.out:=by
 have hz:(zfy s.out rv)=(s.out.zip rv).flatMap fun x=>[.int .i64 x.1.1,x.2]:=rfl
 have hlen:(s.out.zip rv).length=s.out.length:=by simp[h.rlen]
 have h1:=hfr.owns h.out (fun k hk e=>by have:=(h.out.lt k hk).1;omega)
 rw[hz] at h1
 have h2:zb8 2 (fun w cs (y:Ln × Value)=>RLn w cs y.1) w' [ov] (s.out.zip rv):=by
  refine zgk (B:=w0.heap.size) (e:=62) (fun x:Ln × Value=>[.int .i64 x.1.1,x.2]) _ (fun _ _=>rfl) ?_ (by rw[hlen];exact h1)
  intro y hy
  obtain⟨i,hi,rfl⟩:=List.mem_iff_getElem.1 hy
  have hi1:i < s.out.length:=by omega
  have hi2:i < rv.length:=by rw[h.rlen];exact hi1
  rw[List.getElem_zip]
  obtain⟨r0,_⟩:=h.rows i s.out[i] rv[i] (List.getElem?_eq_getElem hi1) (List.getElem?_eq_getElem hi2)
  have r1:=hfr.owns r0 (fun k hk e=>by have:=(r0.lt k hk).1;omega)
  obtain⟨a,b,c⟩:=hf.out _ (List.getElem_mem hi1)
  refine⟨rv[i],rfl,zgk ze8 RWd (fun _ _=>rfl) (fun wd hw=>rword hm (c wd hw)) r1,zp0 (n:=s.out[i].1) a (by omega)⟩
 obtain⟨a,cap,hv,g1,g2,g3⟩:=h2
 rw[hlen] at hv g1
 refine⟨a,cap,hv,g1,g2,fun i ln hi=>?_⟩
 have hi1:=(List.getElem?_eq_some_iff.1 hi).1
 have hi2:i < rv.length:=by rw[h.rlen];exact hi1
 have hzi:(s.out.zip rv)[i]? = some (ln,rv[i]):=by
  rw[List.getElem?_zip_eq_some]
  exact⟨hi,List.getElem?_eq_getElem hi2⟩
 exact g3 i _ hzi
def zhg (w:World) (r:LexM.Res) (e:Ending) (w':World):Prop:=∃ v,e = .returned (.tuple #[v,.agg #[.int .i64 r.at1,.int .i64 r.at2],.int .i64 r.e])∧RLns w' [v] r.lines∧Below w.heap.size w w'
theorem zla (s:ByteArray) (hs:s.size≤140737488351232) (w:World) (h:65536 < s.size):Calls Tryz.prog 70 #[.string s] w (zhg w (LexM.lines s.data.toList)):=by
 have hr:LexM.lines s.data.toList=⟨[],0,0,4⟩:=by unfold LexM.lines;rw[if_pos];rw[Array.length_toList];exact h
 rw[hr]
 clear hr
 go_enter Tryz.func70,Tryz.ntmps70
 go_wp2_with fail
 refine bodyPost_ret (v:=.tuple #[.slice none 0 0,.agg #[.int .i64 0,.int .i64 0],.int .i64 4]) (by simp[results,Tryz.results70,go_sem]) rfl ⟨_,rfl,⟨none,0,rfl,Nat.le_refl _,Nat.zero_le _,fun i x hi=>by simp at hi⟩,?_⟩
 exact (Below.refl _ _).alloc (Nat.le_refl _) _
theorem zbu.start (w1:World):zbu w1 w1.heap.size LexM.st0 (.slice none 0 0) (.slice none 0 0) (.slice none 0 0) [] (w1.alloc (.cells (zb0 LexM.st0 (.slice none 0 0) (.slice none 0 0) (.slice none 0 0)) 182)) :=
 ⟨heap_alloc_new w1 _,World.ownsRow_nil _ _ _ _,World.ownsRow_nil _ _ _ _,World.ownsRow_nil _ _ _ _,rfl,fun i ln v hi=>by simp[LexM.st0] at hi,(Below.refl _ _).alloc (Nat.le_refl _) _,Nat.le_refl _⟩
def zov (w1:World) (x:Nat) (t:Bs) (k:Nat) (w:World):Prop:=(LexM.run LexM.st0 (t.take k)).2=0∧∃ wv sv ov rv,zbu w1 x (LexM.run LexM.st0 (t.take k)).1 wv sv ov rv w
theorem byte_at (s:ByteArray) (k:Nat) (h:k < s.size):s.data.toList.take (k+1)=s.data.toList.take k ++ [s[k]]:=by
 rw[List.take_add_one,List.getElem?_eq_getElem (by rw[Array.length_toList];exact h)]
 rfl
theorem zk1 (s:ByteArray) (w:World) (h:s.size≤65536):Calls Tryz.prog 70 #[.string s] w (zhg w (LexM.lines s.data.toList)):=by
 have hlen:s.data.toList.length=s.size:=by rw[Array.length_toList];rfl
 have hr:LexM.lines s.data.toList=LexM.close (LexM.run LexM.st0 s.data.toList):=by unfold LexM.lines;rw[if_neg];omega
 rw[hr]
 clear hr
 obtain⟨t,ht⟩ : ∃ t,t=s.data.toList:=⟨_,rfl⟩
 rw[← ht] at hlen ⊢
 have h0:=zbu.start (w.alloc (.cells #[.int .i64 0,.int .i64 0] 40))
 simp only[World.size_alloc] at h0
 have hg0:zov (w.alloc (.cells #[.int .i64 0,.int .i64 0] 40)) (w.heap.size+1) t 0 ((w.alloc (.cells #[.int .i64 0,.int .i64 0] 40)).alloc (.cells (zb0 LexM.st0 (.slice none 0 0) (.slice none 0 0) (.slice none 0 0)) 182)):=⟨rfl,_,_,_,_,h0⟩
 obtain⟨Ht,Hlen,Hg0⟩:=hd3 ht hlen hg0;clear ht hlen hg0
 clear h0
 go_enter Tryz.func70,Tryz.ntmps70
 go_wp2_with fail
 obtain⟨w2,hw2⟩ : ∃ w2,w2=((w.alloc (.cells #[.int .i64 0,.int .i64 0] 40)).alloc (.cells (zb0 LexM.st0 (.slice none 0 0) (.slice none 0 0) (.slice none 0 0)) 182)):=⟨_,rfl⟩
 rw[← hw2] at Hg0
 have hw3:=hw2
 simp only[zb0,LexM.st0] at hw3
 rw[← hw3]
 clear hw2 hw3
 go_loopw [16] (fun i wr=>∃ k:Nat,k≤s.size∧i = .int .i64 k∧zov (w.alloc (.cells #[.int .i64 0,.int .i64 0] 40)) (w.heap.size+1) t k wr) (fun i _=>s.size - (intOf i).toNat)
 case atStart=>exact⟨0,Nat.zero_le _,rfl,Hg0.out⟩
 case round =>
  obtain⟨k,hk,rfl,hg⟩:=hrel
  obtain⟨hz,wv,sv,ov,rv,hL⟩:=hg
  have hS:=run_small (t.take k) LexM.st0 0 small0 hz
  have htl:(t.take k).length≤k:=List.length_take_le _ _
  obtain⟨st,hst⟩ : ∃ st,st=(LexM.run LexM.st0 (t.take k)).1:=⟨_,rfl⟩
  rw[← hst] at hL hS
  by_cases hlt:k < s.size
  ·have hsn:=byte_at s k hlt
   obtain⟨Hz,HL,HS,Hst,Hsn⟩:=hd5 hz hL hS hst hsn;clear hz hL hS hst hsn
   go_wp2_with fail
   refine (takes_any HL.out (by omega) HS.out s[k]).mono ?_
   rintro e w3 ⟨rfl,wv3,sv3,ov3,rv3,h3⟩
   obtain⟨er,her⟩ : ∃ er,er=(LexM.takes st s[k]).2:=⟨_,rfl⟩
   have htk:LexM.run LexM.st0 (t.take (k+1))=if (LexM.takes st s[k]).2=0 then ((LexM.takes st s[k]).1,0) else LexM.takes st s[k]:=by
    rw[Ht.out,Hsn.out,← Ht.out,zny _ _ _ Hz.out,← Hst.out]
   rw[← her] at htk ⊢
   by_cases he:er=0
   ·have hb:(er != 0)=false:=by rw[he];rfl
    rw[if_pos he] at htk
    have hg:zov (w.alloc (.cells #[.int .i64 0,.int .i64 0] 40)) (w.heap.size+1) t (k+1) w3:=⟨by rw[htk],wv3,sv3,ov3,rv3,by rw[htk];exact h3⟩
    obtain⟨Hg,Htk,Her,He⟩:=hd4 hg htk her he;clear hg htk her he
    clear h3
    go_wp2_with fail
    go_roundw
    case rel=>exact⟨k+1,by omega,by go_num,Hg.out⟩
    case measure=>simp[intOf];omega
   have hb:(er != 0)=true:=by rw[bne_iff_ne];exact he
   rw[if_neg he] at htk
   have hsplit:t=t.take (k+1) ++ t.drop (k+1):=(List.take_append_drop _ _).symm
   have hrun:LexM.run LexM.st0 t=LexM.takes st s[k]:=by
    rw[hsplit,run_stop _ _ _ (by rw[htk];rw[← her];exact he),htk]
   have hcl:LexM.close (LexM.run LexM.st0 t)=⟨[],(LexM.takes st s[k]).1.line,(LexM.takes st s[k]).1.col,er⟩:=by
    rw[hrun];unfold LexM.close;rw[← her,if_neg he]
   have x0:=za2 h3.cells 0
   have x1:=za2 h3.cells 1
   simp only[zb0,List.getElem?_toArray,List.getElem?_cons_succ,List.getElem?_cons_zero] at x0 x1
   obtain⟨l3,hl3⟩ : ∃ l3,l3=(LexM.takes st s[k]).1.line:=⟨_,rfl⟩
   obtain⟨c3,hc3⟩ : ∃ c3,c3=(LexM.takes st s[k]).1.col:=⟨_,rfl⟩
   rw[← hl3] at x0 hcl
   rw[← hc3] at x1 hcl
   have hblk:w3.heap[w.heap.size]? = some (.cells #[.int .i64 0,.int .i64 0] 40 (0,0)):=by
    rw[h3.bel.block _ (by simp)];exact heap_alloc_new w _
   have z0:=za2 hblk 0
   have z1:=za2 hblk 1
   have y0:=za5 hblk 0
   have y1:=za5 hblk 1
   simp only[List.getElem?_toArray,List.getElem?_cons_succ,List.getElem?_cons_zero] at z0 z1
   have hbel:=h3.bel
   obtain⟨Hbel,Htk,Her,He,Hrun,Hcl,Hsplit,Hl3,Hc3,H3⟩:=hd10 hbel htk her he hrun hcl hsplit hl3 hc3 h3;clear hbel htk her he hrun hcl hsplit hl3 hc3 h3
   clear hblk
   go_wp2_with fail
   go_region
   all_goals
    go_wp2_with fail
    refine bodyPost_ret (v:=.tuple #[.slice none 0 0,.agg #[.int .i64 l3,.int .i64 c3],.int .i64 er]) (by simp[results,Tryz.results70,go_sem,z0,z1]) rfl ?_
    rw[Hcl.out]
    refine⟨_,rfl,⟨none,0,rfl,Nat.le_refl _,Nat.zero_le _,fun i x hi=>by simp at hi⟩,?_⟩
    exact ((((Below.refl _ _).alloc (Nat.le_refl _) _).trans (Hbel.out.mono (by simp))).setCell (Nat.le_refl _) _).setCell (Nat.le_refl _) _ |>.drew
  obtain rfl:k=s.size:=by omega
  have htake:t.take s.size=t:=List.take_of_length_le (by have:=Hlen.out;omega)
  have hF:=run_fine (t.take s.size) LexM.st0 0 small0 ⟨by simp[LexM.st0],by simp[LexM.st0]⟩ hz
  rw[← hst] at hF
  have hcl:LexM.close (LexM.run LexM.st0 t)=⟨(LexM.breaks st).out,0,0,0⟩:=by
   rw[htake] at hz hst
   unfold LexM.close;rw[if_pos hz,← hst]
  have hF2:=zjp hS hF
  obtain⟨Hz,HL,HS,Hst,Htake,Hcl,HF,HF2⟩:=hd8 hz hL hS hst htake hcl hF hF2;clear hz hL hS hst htake hcl hF hF2
  go_wp2_with fail
  refine (zkp HL.out (by omega) HS.out).mono ?_
  rintro e w3 ⟨rfl,wv3,sv3,ov3,rv3,h3⟩
  have x6:=za2 h3.cells 6
  simp only[zb0,List.getElem?_toArray,List.getElem?_cons_succ,List.getElem?_cons_zero] at x6
  have hblk:w3.heap[w.heap.size]? = some (.cells #[.int .i64 0,.int .i64 0] 40 (0,0)):=by
   rw[h3.bel.block _ (by simp)];exact heap_alloc_new w _
  have z0:=za2 hblk 0
  have z1:=za2 hblk 1
  have y0:=za5 hblk 0
  have y1:=za5 hblk 1
  simp only[List.getElem?_toArray,List.getElem?_cons_succ,List.getElem?_cons_zero] at z0 z1
  have hRd:=h3.reads (w':=(w3.setCell ⟨w.heap.size,0,none⟩ (.int .i64 0)).setCell ⟨w.heap.size,1,none⟩ (.int .i64 0)) (Frm.setCell (Frm.setCell (Frm.refl _ _) (p:=⟨w.heap.size,0,none⟩) (.inr (by simp)) _) (p:=⟨w.heap.size,1,none⟩) (.inr (by simp)) _) (by omega) HF2.out
  have hbel:=h3.bel
  obtain⟨Hbel,HRd,H3⟩:=hd3 hbel hRd h3;clear hbel hRd h3
  clear hblk
  go_wp2_with fail
  refine bodyPost_ret (v:=.tuple #[ov3,.agg #[.int .i64 0,.int .i64 0],.int .i64 0]) (by simp[results,Tryz.results70,go_sem,z0,z1]) rfl ?_
  rw[Hcl.out]
  refine⟨_,rfl,?_,?_⟩
  ·exact HRd.out
  exact (((((Below.refl _ _).alloc (Nat.le_refl _) _).trans (Hbel.out.mono (by simp))).setCell (Nat.le_refl _) _).setCell (Nat.le_refl _) _)
theorem zmq (s:ByteArray) (hs:s.size≤140737488351232) (w:World):Calls Tryz.prog 70 #[.string s] w (zhg w (LexM.lines s.data.toList)):=by
 by_cases h:65536 < s.size
 ·exact zla s hs w h
 exact zk1 s w (by omega)
end

section
open Go.Shelf Go.RowKit Go.Lib VerN VarM
open LexM (Wd Ln zjx)
attribute [local go_sem ↓] Go.wp_at_zero Go.wp_at_succ
abbrev Rt:=Spc3 × Int
def RRootT (W:World) (cs:List Value) (x:Rt):Prop:=∃ v1 v2,cs = [.string x.1.1,v1,v2,.int .i64 x.2]∧zg2 W v1 x.1.2.1∧zel W v2 x.1.2.2
def RRoot:Rd Rt:=fun W cs x=>∃ v1 v2,cs = [.string x.1.1,v1,v2,.int .i64 x.2]∧RSps W [v1] x.1.2.1∧zfj W [v2] x.1.2.2
abbrev RRoots:Rd (List Rt):=zb8 4 RRoot
structure RqSt (w:World) (g:Nat) (rs:List Rt) (css:List (List Value)) (v:Value) (W:World):Prop where
 box:W.heap[g]? = some (.cells #[v] 38 (0,0))
 row:W.ownsRow w.heap.size 101 4 v rs.length css.flatten
 len:css.length=rs.length
 els:∀ (i:Nat) cs x,css[i]? = some cs→rs[i]? = some x→RRootT W cs x
 bel:Below w.heap.size w W
theorem RqSt.to {w W W':World} {g:Nat} {rs:List Rt} {css:List (List Value)} {v:Value} (h:RqSt w g rs css v W) (hb:Below W.heap.size W W'):RqSt w g rs css v W' :=
 ⟨za0 hb h.box,za6 h.row hb,h.len,fun i cs x h1 h2=>by
  obtain⟨v1,v2,e,k1,k2⟩:=h.els i cs x h1 h2
  exact⟨v1,v2,e,zdn k1 hb,znr k2 hb⟩,h.bel.trans (hb.mono h.bel.size)⟩
theorem RqSt.reads {w W:World} {g:Nat} {rs:List Rt} {css:List (List Value)} {v:Value} (h:RqSt w g rs css v W):RRoots W [v] rs:=by
 refine zcf (by decide) h.len (fun cs hcs=>?_) h.row (fun i cs x h1 h2=>?_)
 ·obtain⟨i,hi,e⟩:=List.getElem_of_mem hcs
  obtain⟨v1,v2,e2,_⟩:=h.els i cs (rs[i]'(by rw[← h.len];exact hi)) (by rw[← e];exact List.getElem?_eq_getElem hi) (List.getElem?_eq_getElem (by rw[← h.len];exact hi))
  rw[e2];rfl
 obtain⟨v1,v2,e,k1,k2⟩:=h.els i cs x h1 h2
 exact⟨v1,v2,e,k1.1,k2.1⟩
theorem RqSt.other {w W W':World} {g:Nat} {rs:List Rt} {css:List (List Value)} {v:Value} {T:Nat→Prop} (h:RqSt w g rs css v W) (hF:Frm T W W') (hT:No2 W T) (hO:∀ k,T k→v.ownBlock≠some k):RRoots W' [v] rs:=by
 refine zcf (by decide) h.len (fun cs hcs=>?_) (hF.owns h.row (fun k hk kT=>hO k kT hk)) (fun i cs x h1 h2=>?_)
 ·obtain⟨i,hi,e⟩:=List.getElem_of_mem hcs
  obtain⟨v1,v2,e2,_⟩:=h.els i cs (rs[i]'(by rw[← h.len];exact hi)) (by rw[← e];exact List.getElem?_eq_getElem hi) (List.getElem?_eq_getElem (by rw[← h.len];exact hi))
  rw[e2];rfl
 obtain⟨v1,v2,e,k1,k2⟩:=h.els i cs x h1 h2
 exact⟨v1,v2,e,(zbr k1 hF hT).1,(zcn k2 hF hT).1⟩
theorem RqSt.push {w W w9:World} {g:Nat} {rs:List Rt} {css:List (List Value)} {v v9 v1 v2:Value} {x:Rt} (h:RqSt w g rs css v W) (hg:w.heap.size≤g) (h1:zg2 W v1 x.1.2.1) (h2:zel W v2 x.1.2.2)
  (ho:w9.ownsRow w.heap.size 101 4 v9 (rs.length+1) (css.flatten ++ [.string x.1.1,v1,v2,.int .i64 x.2])) (hgr:W.grownBy w9 v.ownBlock) :
  RqSt w g (rs ++ [x]) (css ++ [[.string x.1.1,v1,v2,.int .i64 x.2]]) v9 (w9.setCell ⟨g,0,none⟩ v9)∧w9.heap[g]? = some (.cells #[v] 38 (0,0)):=by
 have f1:Frm (fun k=>v.ownBlock=some k) W w9:=za7 hgr
 have hvg:=za3 h.row h.box (by decide)
 have hb9:=zaf h.box f1 hvg
 have hv9g:=za3 ho hb9 (by decide)
 have f2:Frm (fun k=>k=g) w9 (w9.setCell ⟨g,0,none⟩ v9):=zad (Frm.refl _ _) 0 _
 have fT:Frm (fun k=>v.ownBlock=some k∨k=g) W (w9.setCell ⟨g,0,none⟩ v9):=(f1.mono (fun _ _ h=>.inl h)).trans f2 (fun _ _ h=>.inr h)
 have hT:No2 W (fun k=>v.ownBlock=some k∨k=g):=by
  rintro k (hk | rfl)
  ·obtain⟨cs,hc⟩:=zbt h.row k hk
   exact zi0 hc (by decide) (by decide)
  exact zi0 h.box (by decide) (by decide)
 refine⟨⟨heap_setCell_same w9 g 0 _ _ v9 hb9,?_,by simp[h.len],fun i cs y e1 e2=>?_,?_⟩,hb9⟩
 ·rw[List.length_append,List.flatten_append]
  have:=f2.owns ho (fun k hk e=>hv9g (by rw[hk,e]))
  simpa using this
 ·by_cases hi:i < css.length
  ·rw[List.getElem?_append_left hi] at e1
   rw[List.getElem?_append_left (by rw[← h.len];exact hi)] at e2
   obtain⟨u1,u2,e,k1,k2⟩:=h.els i cs y e1 e2
   exact⟨u1,u2,e,zbr k1 fT hT,zcn k2 fT hT⟩
  have hlt:=(List.getElem?_eq_some_iff.1 e1).1
  have e:i=css.length:=by simp at hlt;omega
  rw[List.getElem?_append_right (by omega),e,Nat.sub_self] at e1
  rw[List.getElem?_append_right (by rw[← h.len];omega),e,h.len,Nat.sub_self] at e2
  simp at e1 e2
  subst e1 e2
  exact⟨v1,v2,rfl,zbr h1 fT hT,zcn h2 fT hT⟩
 exact h.bel.trans (fT.below h.bel.size (by
  rintro k (hk | rfl)
  ·exact (h.row.lt k hk).1
  exact hg))
theorem lns_at {w:World} {a:Option Addr} {n c:Nat} {ls:List Ln} (h:RLns w [.slice a n c] ls):n=ls.length∧n≤9223372036854775807∧∀ i x,ls[i]? = some x→∃ b off a2 n2 c2,a=some ⟨b,off,none⟩∧w.cell? ⟨b,off+i * 2,none⟩=some (.int .i64 x.1)∧w.cell? ⟨b,off+i * 2+1,none⟩=some (.slice a2 n2 c2)∧RWds w [.slice a2 n2 c2] x.2:=by
 obtain⟨a',cap,hv,hcap,hmax,hel⟩:=h
 simp only[List.cons.injEq,and_true,Value.slice.injEq] at hv
 obtain⟨rfl,hn,_⟩:=hv
 unfold maxLen at hmax
 refine⟨hn,by omega,fun i x hi=>?_⟩
 obtain⟨b,off,ecs,h1,h2,h3,v,h4,h5,_⟩:=hel i x hi
 obtain⟨a2,c2,rfl⟩:=wds_shape h5
 subst h4
 exact⟨b,off,a2,_,c2,h1,by simpa using h3 0 _ rfl,by simpa using h3 1 _ rfl,h5⟩
theorem zgx {P:Program} {fn:Func} {p q u:Tmp} {ty tz t1 t2:TypeId} (h:fn.results=#[.cell p ty,.cell q tz,.tmp u]) {tmps:Array Value} {w:World} {g k:Nat} {cs ds:Array Value} {d1 d2:TypeDesc} {x:Value}
  (hp:tmps.getD p undef = .pointer (some ⟨g,0,none⟩)) (hq:tmps.getD q undef = .pointer (some ⟨k,0,none⟩)) (hx:tmps.getD u undef=x) (hg:w.heap[g]? = some (.cells cs t1 (0,0))) (hk:w.heap[k]? = some (.cells ds t2 (0,0)))
  (hu:P.underlying ty=some d1) (hd:(match d1 with | .struct _ | .array _ _=>true | _=>false)=true) (hi:(P.info? ty).map (·.size)=some cs.size)
  (hu2:P.underlying tz=some d2) (hd2:(match d2 with | .struct _ | .array _ _=>true | _=>false)=true) (hi2:(P.info? tz).map (·.size)=some ds.size) :
  (results fn tmps).run P w = .ok (.tuple #[.agg cs,.agg ds,x]) w:=by
 have hl:=run_loadVar_row w g t1 ty cs (0,0) d1 hg hu hd hi
 have hl2:=run_loadVar_row w k t2 tz ds (0,0) d2 hk hu2 hd2 hi2
 have hp':tmps[p]?.getD undef = .pointer (some ⟨g,0,none⟩):=by simpa using hp
 have hq':tmps[q]?.getD undef = .pointer (some ⟨k,0,none⟩):=by simpa using hq
 have hx':tmps[u]?.getD undef=x:=by simpa using hx
 simp only[results,h]
 simp[Sem.run_bind,Result.andThen,asAddr,hp',hq',hx',hl,hl2]
abbrev WhBox (k:Nat) (x y:Int) (W:World):Prop:=W.heap[k]? = some (.cells #[.int .i64 x,.int .i64 y] 40 (0,0))
theorem zid {k:Nat} {x y:Int} {W:World} (h:WhBox k x y W):W.cell? ⟨k,0,none⟩=some (.int .i64 x)∧W.cell? ⟨k,1,none⟩=some (.int .i64 y)∧W.frozen? ⟨k,0,none⟩=false∧W.frozen? ⟨k,1,none⟩=false:=⟨za2 h 0,za2 h 1,za5 h 0,za5 h 1⟩
end

section
open Go.RowKit
section
variable {α : Type} {f : α → α → Bool} {l m : List α}
end
theorem zf9 {α:Type} {sz:Nat} {R:Rd α} {w:World} {v:Value} {l:List α} (h:zb8 sz R w [v] l):∃ a c,v = .slice a l.length c:=by
 obtain⟨a,cap,hv,_⟩:=h
 simp only[List.cons.injEq,and_true] at hv
 exact⟨a,cap,hv⟩
end

section
open Go.Shelf Go.RowKit Go.Lib VerN VarM
open LexM (Wd Ln zjx)
attribute [local go_sem ↓] Go.wp_at_zero Go.wp_at_succ
abbrev zbi (k:Nat) (u v:Value) (W:World):Prop:=W.heap[k]? = some (.cells #[u,v] 73 (0,0))
theorem zar {k:Nat} {u v:Value} {W:World} (h:zbi k u v W):W.cell? ⟨k,0,none⟩=some u∧W.cell? ⟨k,1,none⟩=some v∧W.frozen? ⟨k,0,none⟩=false∧W.frozen? ⟨k,1,none⟩=false:=⟨za2 h 0,za2 h 1,za5 h 0,za5 h 1⟩
def zou (w:World) (o:Option RcpM) (e:Ending) (w':World):Prop:=∃ a1 n1 c1 a2 n2 c2 x1 x2 er,e = .returned (.tuple #[.agg #[.slice a1 n1 c1,.slice a2 n2 c2],.agg #[.int .i64 x1,.int .i64 x2],.int .i64 er])∧((∃ x,o=some x∧er=0∧zhu w' (.slice a1 n1 c1) (.slice a2 n2 c2) x)∨(o=none∧er≠0))∧Below w.heap.size w w'
structure PcSt (w:World) (t:Nat→Nat) (vp vf:Value) (x:RcpM) (W:World):Prop where
 st:RcSt W t w.heap.size w.heap.size vp vf x
 low:∀ k,k < w.heap.size→t k=10
 bel:Below w.heap.size w W
theorem pf_shape {W:World} {t:Nat→Nat} {B xb:Nat} {vp vf:Value} {x:RcpM} (h:RcSt W t B xb vp vf x):∃ a1 c1 a2 c2,vp = .slice a1 x.pk.length c1∧vf = .slice a2 x.pf.length c2:=by
 obtain⟨h1,h2⟩:=h.reads
 obtain⟨a1,c1,e1⟩:=zf9 h1
 obtain⟨a2,c2,e2⟩:=zf9 h2
 exact⟨a1,c1,a2,c2,e1,e2⟩
def PcA (r:Nat) (ws:List Wd) (t:Nat→Nat) (B xb:Nat) (x:RcpM) (line:Int) (w W:World):Prop:=∃ y t' vp vf,zbb line (zap ws 0) x=some y∧RcSt W t' B xb vp vf y∧(∀ k,k < w.heap.size→9 < t k→t' k=t k)∧Frm (fun k=>k=r∨t k≤9) w W
def PcB (r:Nat) (ws:List Wd) (t:Nat→Nat) (x:RcpM) (line:Int) (w:World) (c:Int) (W:World):Prop:=zbb line (zap ws 0) x=none∧c≠0∧Frm (fun k=>k=r∨t k≤9) w W
theorem zga (t:ByteArray) (ht:t.size≤140737488351232) {w:World} (hD:zbz w):Calls Tryz.prog 44 #[.string t] w (zou w (zge t.data.toList)):=by
 have hgood:=LexM.doc_good7 t.data.toList
 have hL:=fun (W:World)=>zmq t (by omega) W
 rw[LexM.lines_eq] at hL
 obtain⟨R,hR⟩ : ∃ R,R=LexM.docLines t.data.toList:=⟨_,rfl⟩
 have hreq:zge t.data.toList=if R.e=0 then goL R.lines ⟨[],[]⟩ else none:=by unfold zge;rw[hR]
 rw[← hR] at hL hgood
 have hlen:t.data.toList.length=t.size:=Txt.len t
 obtain⟨g,hg⟩ : ∃ g,g=w.heap.size:=⟨_,rfl⟩
 obtain⟨W1,hW1⟩ : ∃ W,W=(w.alloc (.cells #[.slice none 0 0,.slice none 0 0] 73)).alloc (.cells #[.int .i64 0,.int .i64 0] 40):=⟨_,rfl⟩
 have hb1:Below w.heap.size w W1:=by rw[hW1];exact (za1 _ _).alloc (by simp) _
 have p0:zbi g (.slice none 0 0) (.slice none 0 0) W1:=by rw[hW1,hg];exact za0 (za1 _ _) (zag rfl)
 have p1:WhBox (g+1) 0 0 W1:=by rw[hW1,hg];exact zag (by simp)
 have hs1:W1.heap.size=g+2:=by rw[hW1,hg];simp
 have hwg:w.heap.size≤g:=Nat.le_of_eq hg.symm
 have hL1:=hL W1
 unfold zhg at hL1
 obtain⟨a1,ha1⟩ : ∃ z,z=R.at1:=⟨_,rfl⟩
 obtain⟨a2,ha2⟩ : ∃ z,z=R.at2:=⟨_,rfl⟩
 obtain⟨er,her⟩ : ∃ z,z=R.e:=⟨_,rfl⟩
 obtain⟨ls,hls⟩ : ∃ z,z=R.lines:=⟨_,rfl⟩
 rw[← her,← hls] at hreq
 rw[← ha1,← ha2,← her,← hls] at hL1
 rw[← hls] at hgood
 clear hL
 obtain⟨HD,Hgood,Hreq,HL1,Hb1,Hp0,Hp1,HR,Hlen,Ha1,Ha2,Her,Hls⟩:=hd13 hD hgood hreq hL1 hb1 p0 p1 hR hlen ha1 ha2 her hls;clear hD hgood hreq hL1 hb1 p0 p1 hR hlen ha1 ha2 her hls
 go_enter Tryz.func44,Tryz.ntmps44
 go_upto_region 1 with (fail)
 rw[← hW1,← hg]
 clear hW1 hg
 go_wp2_with fail
 refine HL1.out.mono ?_
 rintro e w2 ⟨v,rfl,hln,hb2⟩
 obtain⟨ad,cp,rfl⟩ : ∃ a c,v = .slice a ls.length c:=by
  obtain⟨a,cap,hv,_⟩:=hln
  simp only[List.cons.injEq,and_true] at hv
  exact⟨a,cap,hv⟩
 obtain⟨n,hn⟩ : ∃ n,n=ls.length:=⟨_,rfl⟩
 rw[← hn] at hln ⊢
 obtain⟨w3,hw3⟩ : ∃ W,W=w2.alloc (.cells #[.int .i64 a1,.int .i64 a2] 40):=⟨_,rfl⟩
 have hb23:Below w2.heap.size w2 w3:=by rw[hw3];exact za1 _ _
 have hb13:=hb2.trans (hb23.mono hb2.size)
 have hb3:=Hb1.out.trans (hb13.mono Hb1.out.size)
 have hs2:g+2≤w2.heap.size:=by have:=hb2.size;omega
 have p6:WhBox w2.heap.size a1 a2 w3:=by rw[hw3];exact heap_alloc_new _ _
 have p0':=za0 hb13 Hp0.out
 have p1':=za0 hb13 Hp1.out
 have hln3:=stays_lns _ _ _ _ hln hb23
 have hs3:w3.heap.size=w2.heap.size+1:=by rw[hw3];simp
 obtain⟨x0,x1,_,_⟩:=zid p6
 obtain⟨_,_,f0,f00⟩:=zar p0'
 obtain⟨_,_,f1,f2⟩:=zid p1'
 by_cases he:er=0
 ·have k1:(er != 0)=false:=by rw[he];rfl
  have hq:=Hreq.out
  rw[if_pos he] at hq
  obtain⟨q,hqq⟩ : ∃ q,q=w3.heap.size:=⟨_,rfl⟩
  obtain⟨w4,hw4⟩ : ∃ W,W=w3.alloc (.cells #[.slice none 0 0,.slice none 0 0] 73):=⟨_,rfl⟩
  have hI0:PcSt w3 (fun k=>if k=w3.heap.size then 0 else 10) (.slice none 0 0) (.slice none 0 0) ⟨[],[]⟩ w4 :=
   ⟨RcSt.nil (by rw[hw4];exact heap_alloc_new _ _) (if_pos rfl),fun k hk=>if_neg (by omega),by rw[hw4];exact za1 _ _⟩
  have hn1:n≤70001:=by have:=Hgood.out.2;omega
  clear x0 x1 f0 f00 f1 f2
  obtain⟨Hln,Hb2,Hb23,Hb13,Hb3,Hp6,Hp0',Hp1',Hln3,Hn,Hq,He,HI0,Hs3⟩:=hd14 hln hb2 hb23 hb13 hb3 p6 p0' p1' hln3 hn hq he hI0 hs3;clear hln hb2 hb23 hb13 hb3 p6 p0' p1' hln3 hn hq he hI0 hs3
  go_upto_region 2 with (fail)
  rw[← hw3]
  clear hw3
  go_upto_region 5 with (fail)
  rw[← hw4,← hqq]
  clear hw4
  have Hqq:=Lib.hid hqq
  clear hqq
  go_wp2_with fail
  go_loopw [27] (fun v wr=>∃ (k:Nat) (t1:Nat→Nat) (vp vf:Value) (x:RcpM),k≤n∧v = .int .i64 k∧PcSt w3 t1 vp vf x wr∧zi6 k x∧zge t.data.toList=goL (ls.drop k) x) (fun v _=>n - (RowKit.intOf v).toNat)
  case atStart=>exact⟨0,_,_,_,_,Nat.zero_le _,rfl,HI0.out,zm2,by rw[List.drop_zero];exact Hq.out⟩
  case round =>
   obtain⟨wo,hwo⟩ : ∃ W,W=wr:=⟨_,rfl⟩
   rw[← hwo] at hrel ⊢
   clear hwo wr
   obtain⟨k,t1,vp,vf,x,hk,rfl,hI,hsm,hgo⟩:=hrel
   have hqs:q < wo.heap.size:=by have:=(Array.getElem?_eq_some_iff.1 hI.st.box).1;rw[Hqq.out];exact this
   by_cases hlt:k < n
   ·have hkl:k < ls.length:=by have:=Hn.out;omega
    obtain⟨l,hl⟩ : ∃ x,x=ls[k]:=⟨_,rfl⟩
    obtain⟨-,-,hat⟩:=lns_at Hln3.out
    obtain⟨b,off,a2',n2,c2,rfl,c0,c1,hwd⟩:=hat k l (by rw[hl];exact List.getElem?_eq_getElem hkl)
    clear hat
    have d0:=cell_later hI.bel c0
    have d1:=cell_later hI.bel c1
    obtain⟨ln,hln0⟩ : ∃ z,z=l.1:=⟨_,rfl⟩
    rw[← hln0] at d0
    have hgx:zjx 70000 l:=Hgood.out.1 l (by rw[hl];exact List.getElem_mem hkl)
    have hdr:ls.drop k=l :: ls.drop (k+1):=by rw[hl];exact List.drop_eq_getElem_cons hkl
    rw[hdr] at hgo
    obtain⟨hl1,hne,h40,hgood⟩:=hgx
    obtain⟨ws,hws⟩ : ∃ z,z=l.2:=⟨_,rfl⟩
    rw[← hws] at hwd hne h40 hgood
    obtain⟨hn2,hz2,hat2⟩:=zp1 hwd
    have hn0:0 < n2:=by
     rw[hn2]
     exact List.length_pos_iff.2 hne
    obtain⟨y,hy,-⟩:=last_some hn2 hn0
    obtain⟨b2,off2,rfl,d2,d3,-⟩:=hat2 (n2 - 1) y hy
    clear hat2
    have hb2lt:b2 < w3.heap.size:=World.block_lt_of_cell? w3 _ d2
    have hgy:=hgood y (List.mem_of_getElem? hy)
    obtain⟨yc,hyc⟩ : ∃ z,z=y.1:=⟨_,rfl⟩
    obtain⟨yt,hyt⟩ : ∃ z:ByteArray,z=⟨y.2.toArray⟩:=⟨_,rfl⟩
    have hyc1:1≤yc∧yc≤70000:=by rw[hyc];exact⟨hgy.1,hgy.2.1⟩
    have hyz:yt.size≤70000:=by rw[hyt];show y.2.toArray.size≤_;rw[List.size_toArray];exact hgy.2.2.2
    rw[← hyc] at d2
    rw[← hyt] at d3
    obtain⟨m,hm⟩ : ∃ m,m=n2 - 1:=⟨_,rfl⟩
    rw[← hm] at d2 d3
    have j1:IntKind.i64.wrap ((n2:Int) - 1)=((m:Nat):Int):=by rw[show ((n2:Int) - 1)=((m:Nat):Int) by omega];exact IntWalk.i64_in _ (by omega)
    have j2:(0:Int)≤((m:Nat):Int):=by omega
    have j3:((m:Nat):Int) < (n2:Int):=by omega
    have hcap2:n2≤c2:=by
     obtain⟨_,_,hv,hc,_⟩:=hwd
     simp only[List.cons.injEq,and_true,Value.slice.injEq] at hv
     omega
    obtain⟨lb,hlb⟩ : ∃ z,z=wo.heap.size:=⟨_,rfl⟩
    obtain⟨w5,hw5⟩ : ∃ W,W=wo.alloc (.cells #[.int .i64 ln,.slice (some ⟨b2,off2,none⟩) n2 c2] 62):=⟨_,rfl⟩
    have hb5:Below wo.heap.size wo w5:=by rw[hw5];exact za1 _ _
    have hs5:w5.heap.size=lb+1:=by rw[hw5,hlb];simp
    have p10:w5.heap[lb]? = some (.cells #[.int .i64 ln,.slice (some ⟨b2,off2,none⟩) n2 c2] 62 (0,0)):=by rw[hw5,hlb];exact heap_alloc_new _ _
    have hb35:=hI.bel.trans (hb5.mono hI.bel.size)
    have y0:=za2 p10 0
    have y1:=za2 p10 1
    simp only[List.getElem?_toArray,List.getElem?_cons_zero,List.getElem?_cons_succ] at y0 y1
    have d4:=cell_later hb35 d2
    have d5:=cell_later hb35 d3
    obtain⟨w6,hw6⟩ : ∃ W,W=w5.alloc (.cells #[.int .i64 yc,.string yt] 64):=⟨_,rfl⟩
    have hb6:Below w5.heap.size w5 w6:=by rw[hw6];exact za1 _ _
    have hs6:w6.heap.size=lb+2:=by rw[hw6];simp[hs5]
    have p11:w6.heap[lb+1]? = some (.cells #[.int .i64 yc,.string yt] 64 (0,0)):=by rw[hw6,← hs5];exact heap_alloc_new _ _
    have p10a:=za0 hb6 p10
    have z0:=za2 p10a 0
    have z1:=za2 p10a 1
    have z2:=za2 p11 0
    have z3:=za2 p11 1
    simp only[List.getElem?_toArray,List.getElem?_cons_zero,List.getElem?_cons_succ] at z0 z1 z2 z3
    obtain⟨fin,hfin⟩ : ∃ z:Int,z=yc+(yt.size:Int):=⟨_,rfl⟩
    obtain⟨w7,hw7⟩ : ∃ W,W=(w6.alloc (.cells #[.slice (some ⟨b2,off2,none⟩) n2 c2,.int .i64 0,.int .i64 fin] 137)).alloc (.cells #[rp (lb+2)] 135):=⟨_,rfl⟩
    have hb7:Below w6.heap.size w6 w7:=by rw[hw7];exact (za1 _ _).alloc (by simp) _
    have hs7:w7.heap.size=lb+4:=by rw[hw7];simp[hs6]
    have p12:RBox (lb+2) (.slice (some ⟨b2,off2,none⟩) n2 c2) 0 fin w7:=by rw[hw7,← hs6];exact za0 (za1 _ _) (zag rfl)
    have hfin0:=hfin
    have p13:w7.heap[lb+3]? = some (.cells #[rp (lb+2)] 135 (0,0)):=by rw[hw7];exact zag (by simp[hs6])
    obtain⟨w8,hw8⟩ : ∃ W,W=w7.alloc (.cells #[.int .i64 0] 3):=⟨_,rfl⟩
    have hb8:Below w7.heap.size w7 w8:=by rw[hw8];exact za1 _ _
    have hbo8:Below wo.heap.size wo w8:=((hb5.trans (hb6.mono (by omega))).trans (hb7.mono (by omega))).trans (hb8.mono (by omega))
    have hb38:=hI.bel.trans (hbo8.mono hI.bel.size)
    have hb37:Below w3.heap.size w3 w7:=hI.bel.trans (((hb5.trans (hb6.mono (by omega))).trans (hb7.mono (by omega))).mono hI.bel.size)
    have q10:=za0 hb8 (za0 hb7 p10a)
    have q12:RBox (lb+2) (.slice (some ⟨b2,off2,none⟩) n2 c2) 0 fin w8:=za0 hb8 p12
    have q13:=za0 hb8 p13
    have q14:w8.heap[w7.heap.size]? = some (.cells #[.int .i64 0] 3 (0,0)):=by rw[hw8];exact heap_alloc_new _ _
    have hst8:RcSt w8 (zah t1 wo.heap.size 10) w3.heap.size w3.heap.size vp vf x:=hI.st.to (Frm.of_below (S:=fun _=>False) hbo8) (fun _ _ h=>h.elim) (fun k hk _=>za8 hk)
    have hz3:=hI.bel.size
    have C:RdC w3 (lb+2) (some ⟨b2,off2,none⟩) n2 c2 fin ws:=⟨hwd,HD.out.below Hb3.out,by omega,by omega,fun z hz=>(hgood z hz).2.2.2⟩
    have S:RdS w3 (lb+2) (some ⟨b2,off2,none⟩) n2 c2 fin 0 w8:=⟨q12,hb38⟩
    have e13:=za2 q13 0
    have e10:=za2 q10 0
    simp only[List.getElem?_toArray,List.getElem?_cons_zero,List.getElem?_cons_succ] at e13 e10
    have htn:∀ k,k < w3.heap.size→zah t1 wo.heap.size 10 k=10:=fun k hk=>by rw[za8 (by omega),hI.low k hk]
    have hC:=zr4 (line:=ln) C S hn0 hst8 (zbl (by omega)) (fun p hp=>by cases hp;exact⟨by show b2≠lb+2;omega,by show 9 < zah t1 wo.heap.size 10 b2;rw[htn b2 hb2lt];omega⟩) hb38.size hsm (by omega) e13 e10
    have hcol:∀ j,zf6 ws fin j≠0:=fun j=>by
     unfold zf6
     cases hj:ws[j]? with
     | none=>simp only;omega
     | some z =>
      simp only
      have:=(hgood z (List.mem_of_getElem? hj)).1
      omega
    have hK:=zrl (enters_of Tryz.func92 (by kernel_rfl) rfl) (w:=w7) (caps:=#[.pointer (some ⟨lb+3,0,none⟩),.pointer (some ⟨lb,0,none⟩),.pointer (some ⟨w3.heap.size,0,none⟩)])
     (A:=PcA (lb+2) ws (zah t1 wo.heap.size 10) w3.heap.size w3.heap.size x ln w8) (B:=PcB (lb+2) ws (zah t1 wo.heap.size 10) x ln w8) (by
      rw[← hw8]
      refine hC.mono ?_
      rintro e w9 ⟨⟨y',t',vp',vf',rfl,k1,k2,k3⟩ | ⟨k1,j,rfl⟩,hF⟩
      ·exact⟨.inl ⟨rfl,y',t',vp',vf',k1,k2,k3,hF⟩,zaf q14 hF (fun h=>by
        rcases h with h | h
        ·omega
        rw[zbl (by omega)] at h;omega)⟩
      exact⟨.inr ⟨_,rfl,k1,hcol j,hF⟩,zaf q14 hF (fun h=>by
       rcases h with h | h
       ·omega
       rw[zbl (by omega)] at h;omega)⟩)
    rw[← Hqq.out] at hK
    have hwtx:zbb l.1 (l.2.map wtx) x=zbb ln (zap ws 0) x:=by rw[hln0,hws];rfl
    have hcb:lb+4=w7.heap.size:=hs7.symm
    have J1:=Lib.hid j1
    have J2:=Lib.hid j2
    have J3:=Lib.hid j3
    have hgl:g+2 < lb:=by have:=Hs3.out;omega
    have Hfin:=Lib.hid hfin
    clear j1 j2 j3 c0 c1 hfin0 hfin
    obtain⟨HI,Hsm,Hgo,Hl,Hln0,Hl1,Hne,H40,Hgood,Hdr,Hws,Hwd,Hn2,Hz2,Hy,Hgy⟩:=hd16 hI hsm hgo hl hln0 hl1 hne h40 hgood hdr hws hwd hn2 hz2 hy hgy;obtain⟨Hyc,Hyt,Hm,Hb5,Hs5,Hp10,Hb35,Hb6,Hs6,Hp11,Hp10a,Hb7,Hs7,Hp12,Hp13,Hb8⟩:=hd16 hyc hyt hm hb5 hs5 p10 hb35 hb6 hs6 p11 p10a hb7 hs7 p12 p13 hb8;obtain⟨Hbo8,Hb38,Hb37,Hq10,Hq12,Hq13,Hq14,Hst8,HC,HS,HC,Hcol,HK,Hwtx,Htn,Hw8⟩:=hd16 hbo8 hb38 hb37 q10 q12 q13 q14 hst8 C S hC hcol hK hwtx htn hw8;obtain⟨Hz3,Hcb,He13,He10⟩:=hd4 hz3 hcb e13 e10;clear hI hsm hgo hl hln0 hl1 hne h40 hgood hdr hws hwd hn2 hz2 hy hgy hyc hyt hm hb5 hs5 p10 hb35 hb6 hs6 p11 p10a hb7 hs7 p12 p13 hb8 hbo8 hb38 hb37 q10 q12 q13 q14 hst8 C S hC hcol hK hwtx htn hw8 hz3 hcb e13 e10
    clear d2 d3
    have K5:(0:Int)≤(k:Int):=by omega
    have K6:(k:Int) < (n:Int):=by omega
    go_upto_region 8 with (fail)
    rw[← hw5,← hlb]
    have Hlb:=Lib.hid hlb
    clear hw5 d0 d1 hlb
    have j1:=J1.out
    have j2:=J2.out
    have j3:=J3.out
    go_upto_region 9 with (fail)
    rw[← hw6]
    clear hw6 j1 j2 j3 y0 y1 d4 d5
    rw[Hs5.out]
    go_upto_region 10 with (fail)
    rw[Hs6.out,← Hfin.out,← hw7,show lb+2+1=lb+3 from rfl]
    clear hw7 z0 z1 z2 z3
    go_wp2_with fail
    refine HK.out.mono ?_
    rintro e w9 (⟨w1,hA,rfl,rfl⟩ | ⟨c,w1,hB,rfl,rfl⟩)
    ·obtain⟨y2,t2,vp2,vf2,hyl,hst,htk,hF⟩:=hA
     rw[Hqq.out] at hst
     have htc:t2 w7.heap.size=10:=by
      have e:zah t1 wo.heap.size 10 w7.heap.size=10:=zbl (by have:=Hcb.out;have:=Hlb.out;omega)
      rw[htk _ (Array.getElem?_eq_some_iff.1 Hq14.out).1 (by rw[e];omega),e]
     have hcb9:=zaf Hq14.out hF (fun h=>by
      rcases h with h | h
      ·have:=Hcb.out;have:=Hlb.out;omega
      rw[zbl (by have:=Hcb.out;have:=Hlb.out;omega)] at h;omega)
     obtain⟨w9,hw9⟩ : ∃ W,W=w1.setCell ⟨w7.heap.size,0,none⟩ (.int .i64 0):=⟨_,rfl⟩
     have hF2:Frm (fun k=>k=w7.heap.size) w1 w9:=by rw[hw9];exact zad (Frm.refl _ _) 0 _
     have hst9:RcSt w9 t2 w3.heap.size w3.heap.size vp2 vf2 y2:=hst.to hF2 (fun z _ e=>by subst e;exact⟨by omega,zb5 hcb9 (by decide)⟩) (fun _ _ _=>rfl)
     have hlow9:∀ z,z < w3.heap.size→t2 z=10:=fun z hz=>by
      have e:=Htn.out z hz
      rw[htk z (Nat.lt_of_lt_of_le hz Hb38.out.size) (by rw[e];omega),e]
     have hF3:Frm (fun z=>(z=lb+2∨zah t1 wo.heap.size 10 z≤9)∨z=w7.heap.size) w8 w9:=(hF.mono fun _ _ h=>.inl h).trans hF2 fun _ _ h=>.inr h
     have hb9:Below w3.heap.size w3 w9:=Hb38.out.trans (hF3.below Hb38.out.size (by
      intro z hz
      apply Nat.le_of_not_lt
      intro hlt
      have e:=Htn.out z hlt
      have:=Hcb.out
      have:=Hlb.out
      have:=Hz3.out
      rcases hz with (hz | hz) | hz <;> omega))
     rw[← hw9]
     clear hw9
     obtain⟨Hyl,Hst,Htk,HF,Htc,Hcb9,HF2,Hst9,Hlow9,HF3,Hb9⟩:=hd11 hyl hst htk hF htc hcb9 hF2 hst9 hlow9 hF3 hb9;clear hyl hst htk hF htc hcb9 hF2 hst9 hlow9 hF3 hb9
     go_wp2_with fail
     go_roundw
     case rel =>
      exact⟨k+1,t2,vp2,vf2,y2,by omega,by go_num,⟨Hst9.out,Hlow9.out,Hb9.out⟩,zja Hsm.out Hyl.out,by rw[Hgo.out,goL_on (Hwtx.out.trans Hyl.out)]⟩
     case measure=>simp[RowKit.intOf];omega
    obtain⟨hyl,hc0,hF⟩:=hB
    have hcb9:=zaf Hq14.out hF (fun h=>by
     rcases h with h | h
     ·have:=Hcb.out;have:=Hlb.out;omega
     rw[zbl (by have:=Hcb.out;have:=Hlb.out;omega)] at h;omega)
    have hcl:=zaf Hq10.out hF (fun h=>by
     rcases h with h | h
     ·omega
     rw[zbl (by have:=Hlb.out;omega)] at h;omega)
    have hbw:Below w3.heap.size w3 w1:=Hb38.out.trans (hF.below Hb38.out.size (by
     intro z hz
     apply Nat.le_of_not_lt
     intro hlt
     have e:=Htn.out z hlt
     have:=Hz3.out
     have:=Hlb.out
     rcases hz with hz | hz <;> omega))
    obtain⟨w9,hw9⟩ : ∃ W,W=(w1.alloc (.cells #[.int .i64 c] 206)).setCell ⟨w7.heap.size,0,none⟩ (.int .i64 c):=⟨_,rfl⟩
    have hb9:Below w3.heap.size w3 w9:=by
     rw[hw9]
     refine (hbw.alloc hbw.size _).setCell ?_ _
     show w3.heap.size≤w7.heap.size
     have:=Hcb.out
     have:=Hlb.out
     have:=Hz3.out
     omega
    have hcl9:w9.heap[lb]? = some (.cells #[.int .i64 ln,.slice (some ⟨b2,off2,none⟩) n2 c2] 62 (0,0)):=by
     rw[hw9]
     exact zaa (za0 (za1 _ _) hcl) (by have:=Hcb.out;have:=Hlb.out;omega)
    have z0:=za0 hb9 Hp0'.out
    have z1:=za0 hb9 Hp1'.out
    have hb39:=Hb3.out.trans (hb9.mono Hb3.out.size)
    have t0:=za2 hcl9 0
    simp only[List.getElem?_toArray,List.getElem?_cons_zero,List.getElem?_cons_succ] at t0
    obtain⟨_,_,f0,f00⟩:=zar z0
    obtain⟨_,_,f1,f2⟩:=zid z1
    have hne1:¬ lb=g:=by omega
    have hne2:¬ lb=g+1:=by omega
    have hne:(c != 0)=true:=by simpa using hc0
    rw[← hw9]
    clear hw9
    obtain⟨Hyl,Hc0,HF,Hcb9,Hcl,Hbw,Hb9,Hcl9,Hz0,Hz1,Hb39⟩:=hd11 hyl hc0 hF hcb9 hcl hbw hb9 hcl9 z0 z1 hb39;clear hyl hc0 hF hcb9 hcl hbw hb9 hcl9 z0 z1 hb39
    go_wp2_with fail
    go_region
    go_wp2_with fail
    have x0:=zaa (b:=g+1) (i:=1) (u:=.int .i64 c) (zaa (b:=g+1) (i:=0) (u:=.int .i64 ln) (heap_setCell_same _ g 1 _ _ (.slice none 0 0) (heap_setCell_same w9 g 0 _ _ (.slice none 0 0) Hz0.out)) (by omega)) (by omega)
    have x1:=heap_setCell_same _ (g+1) 1 _ _ (.int .i64 c) (heap_setCell_same _ (g+1) 0 _ _ (.int .i64 ln) (zaa (b:=g) (i:=1) (u:=.slice none 0 0) (zaa (b:=g) (i:=0) (u:=.slice none 0 0) Hz1.out (by omega)) (by omega)))
    refine bodyPost_ret (zgx (g:=g) (k:=g+1) rfl rfl rfl rfl x0 x1 Tryz.underlying73 rfl (by kernel_rfl) Tryz.underlying40 rfl (by kernel_rfl)) rfl ?_
    exact⟨_,_,_,_,_,_,_,_,_,rfl,.inr ⟨by rw[Hgo.out,goL_off (Hwtx.out.trans Hyl.out)],by decide⟩,Below.drew ((((Hb39.out.setCell (p:=⟨g,0,none⟩) hwg _).setCell (p:=⟨g,1,none⟩) hwg _).setCell (p:=⟨g+1,0,none⟩) (by show w.heap.size≤g+1;omega) _).setCell (p:=⟨g+1,1,none⟩) (by show w.heap.size≤g+1;omega) _)⟩
   obtain rfl:k=n:=by omega
   have hd:ls.drop k = []:=List.drop_eq_nil_of_le (Nat.le_of_eq Hn.out.symm)
   rw[hd] at hgo
   have z0:=za0 hI.bel Hp0'.out
   have z1:=za0 hI.bel Hp1'.out
   obtain⟨au,cu,bu,du,rfl,rfl⟩:=pf_shape hI.st
   obtain⟨m1,hm1⟩ : ∃ m,m=x.pk.length:=⟨_,rfl⟩
   obtain⟨m2,hm2⟩ : ∃ m,m=x.pf.length:=⟨_,rfl⟩
   rw[← hm1,← hm2] at hI
   have hbx:=hI.st.box
   rw[← Hqq.out] at hbx
   obtain⟨qc,qd,-,-⟩:=zar hbx
   obtain⟨_,_,f0,f00⟩:=zar z0
   obtain⟨_,_,f1,f2⟩:=zid z1
   have hb3o:=Hb3.out.trans (hI.bel.mono Hb3.out.size)
   have hg3:g+1 < w3.heap.size:=by have:=Hs3.out;omega
   obtain⟨HI,Hgo,Hsm,Hz0,Hz1,Hb3o,Hd,Hbx,Hm1,Hm2⟩:=hd10 hI hgo hsm z0 z1 hb3o hd hbx hm1 hm2;clear hI hgo hsm z0 z1 hb3o hd hbx hm1 hm2
   go_wp2_with fail
   have x0:=zaa (b:=g+1) (i:=1) (u:=.int .i64 0) (zaa (b:=g+1) (i:=0) (u:=.int .i64 0) (heap_setCell_same _ g 1 _ _ (.slice bu m2 du) (heap_setCell_same wo g 0 _ _ (.slice au m1 cu) Hz0.out)) (by omega)) (by omega)
   have x1:=heap_setCell_same _ (g+1) 1 _ _ (.int .i64 0) (heap_setCell_same _ (g+1) 0 _ _ (.int .i64 0) (zaa (b:=g) (i:=1) (u:=.slice bu m2 du) (zaa (b:=g) (i:=0) (u:=.slice au m1 cu) Hz1.out (by omega)) (by omega)))
   have hT:Frm (fun z=>z=g∨z=g+1) wo ((((wo.setCell ⟨g,0,none⟩ (.slice au m1 cu)).setCell ⟨g,1,none⟩ (.slice bu m2 du)).setCell ⟨g+1,0,none⟩ (.int .i64 0)).setCell ⟨g+1,1,none⟩ (.int .i64 0)) :=
    ((((Frm.refl _ wo).setCell (p:=⟨g,0,none⟩) (.inr (.inl rfl)) _).setCell (p:=⟨g,1,none⟩) (.inr (.inl rfl)) _).setCell (p:=⟨g+1,0,none⟩) (.inr (.inr rfl)) _).setCell (p:=⟨g+1,1,none⟩) (.inr (.inr rfl)) _
   have hst:=HI.out.st.to (t':=t1) hT (fun z _ hz=>by
    rcases hz with rfl | rfl
    ·exact⟨by rw[HI.out.low _ (by omega)];omega,zb5 Hz0.out (by decide)⟩
    exact⟨by rw[HI.out.low _ (by omega)];omega,zb5 Hz1.out (by decide)⟩) (fun _ _ _=>rfl)
   refine bodyPost_ret (zgx (g:=g) (k:=g+1) rfl rfl rfl rfl x0 x1 Tryz.underlying73 rfl (by kernel_rfl) Tryz.underlying40 rfl (by kernel_rfl)) rfl ?_
   exact⟨_,_,_,_,_,_,_,_,_,rfl,.inl ⟨x,by rw[Hgo.out];rfl,rfl,hst.reads⟩,(((Hb3o.out.setCell (p:=⟨g,0,none⟩) hwg _).setCell (p:=⟨g,1,none⟩) hwg _).setCell (p:=⟨g+1,0,none⟩) (by show w.heap.size≤g+1;omega) _).setCell (p:=⟨g+1,1,none⟩) (by show w.heap.size≤g+1;omega) _⟩
 have k1:(er != 0)=true:=by simpa using he
 have hq:=Hreq.out
 rw[if_neg he] at hq
 obtain⟨Hln,Hb2,Hb23,Hb13,Hb3,Hp6,Hp0',Hp1',Hln3,Hn,Hq⟩:=hd11 hln hb2 hb23 hb13 hb3 p6 p0' p1' hln3 hn hq;clear hln hb2 hb23 hb13 hb3 p6 p0' p1' hln3 hn hq
 go_upto_region 2 with (fail)
 rw[← hw3]
 clear hw3
 go_wp2_with fail
 go_region
 go_wp2_with fail
 have x0:=zaa (b:=g+1) (i:=1) (u:=.int .i64 a2) (zaa (b:=g+1) (i:=0) (u:=.int .i64 a1) (heap_setCell_same _ g 1 _ _ (.slice none 0 0) (heap_setCell_same w3 g 0 _ _ (.slice none 0 0) Hp0'.out)) (by omega)) (by omega)
 have x1:=heap_setCell_same _ (g+1) 1 _ _ (.int .i64 a2) (heap_setCell_same _ (g+1) 0 _ _ (.int .i64 a1) (zaa (b:=g) (i:=1) (u:=.slice none 0 0) (zaa (b:=g) (i:=0) (u:=.slice none 0 0) Hp1'.out (by omega)) (by omega)))
 refine bodyPost_ret (zgx (g:=g) (k:=g+1) rfl rfl rfl rfl x0 x1 Tryz.underlying73 rfl (by kernel_rfl) Tryz.underlying40 rfl (by kernel_rfl)) rfl ?_
 exact⟨_,_,_,_,_,_,_,_,_,rfl,.inr ⟨Hq.out,he⟩,Below.drew ((((Hb3.out.setCell (p:=⟨g,0,none⟩) hwg _).setCell (p:=⟨g,1,none⟩) hwg _).setCell (p:=⟨g+1,0,none⟩) (by show w.heap.size≤g+1;omega) _).setCell (p:=⟨g+1,1,none⟩) (by show w.heap.size≤g+1;omega) _)⟩
end

section
open Go.Lib VerN VarM
open LexM (Wd Ln)
def zmw:ByteArray:=⟨#[49,58]⟩
def fx8Sp:Tp:=⟨(⟨#[49]⟩,⟨#[]⟩),by decide⟩
theorem fx8_rd:rdSp zmw = [(⟨#[49]⟩,⟨#[]⟩)]:=by decide +kernel
theorem fx8_rdV:rdV zmw = [(⟨#[49]⟩,⟨#[]⟩)]:=by
 unfold rdV
 rw[if_neg (by decide)]
 exact fx8_rd
theorem fx8_rd3:Rd3 zmw:=by
 refine .inr ⟨by decide +kernel,fun l hl=>?_⟩
 rw[fx8_rd] at hl
 have e:l = [fx8Sp]:=by
  match l,hl with
  | [x],hl =>
   have h1:x.1=(⟨#[49]⟩,⟨#[]⟩):=by simpa [tB] using hl
   rw[show x=fx8Sp from Subtype.ext h1]
  | [],hl=>simp[tB] at hl
  | _ :: _ :: _,hl=>simp[tB] at hl
 rw[e]
 decide +kernel
open Classical in
theorem fx8_set:zed zmw=true:=by
 unfold zed
 refine decide_eq_true ⟨fx8_rd3,?_⟩
 rw[fx8_rdV]
 exact⟨by simp,by simp⟩
end

section
open Go.Lib VerN VarM
open LexM (Wd Ln)
def fx6T:ByteArray:=⟨#[112,97,99,107,97,103,101,32,97,10,100,101,112,101,110,100,115,32,122,108,105,98,64,49,58,32,115,104,97,114,101,100,61,111,110,32,119,104,101,110,32,115,115,108,61,111,110]⟩
def fx6L:Ln:=(1,[(1,[112,97,99,107,97,103,101]),(9,[97])])
def fx6M:Ln:=(2,[(1,[100,101,112,101,110,100,115]),(9,[122,108,105,98,64,49,58]),(17,[115,104,97,114,101,100,61,111,110]),(27,[119,104,101,110]),(32,[115,115,108,61,111,110])])
theorem fx6_doc:LexM.docLines fx6T.data.toList=⟨[fx6L,fx6M],0,0,0⟩:=by kernel_rfl
def fx6Z:ByteArray:=⟨#[122,108,105,98,64,49,58]⟩
def fx6D:DepM:=((⟨#[122,108,105,98]⟩,[(⟨#[49]⟩,⟨#[]⟩)],[(⟨#[115,104,97,114,101,100]⟩,⟨#[111,110]⟩)]),(noT,allV,[(⟨#[115,115,108]⟩,⟨#[111,110]⟩)]),2)
theorem fx6_set1:zj0 [⟨#[115,104,97,114,101,100,61,111,110]⟩,zhh,⟨#[115,115,108,61,111,110]⟩] []=some ([(⟨#[115,104,97,114,101,100]⟩,⟨#[111,110]⟩)],[zhh,⟨#[115,115,108,61,111,110]⟩]):=by kernel_rfl
theorem fx6_set2:zj0 [⟨#[115,115,108,61,111,110]⟩] []=some ([(⟨#[115,115,108]⟩,⟨#[111,110]⟩)],[]):=by kernel_rfl
theorem fx6_wish:zng [fx6Z,⟨#[115,104,97,114,101,100,61,111,110]⟩,zhh,⟨#[115,115,108,61,111,110]⟩]=some ((⟨#[122,108,105,98]⟩,[(⟨#[49]⟩,⟨#[]⟩)],[(⟨#[115,104,97,114,101,100]⟩,⟨#[111,110]⟩)]),[zhh,⟨#[115,115,108,61,111,110]⟩]):=by
 have hc:cutB 64 fx6Z=(⟨#[122,108,105,98]⟩,zmw,true):=by kernel_rfl
 have hn:zho fx6Z=true:=by
  unfold zho
  rw[hc,fx8_set]
  kernel_rfl
 have hs:zhx fx6Z = [(⟨#[49]⟩,⟨#[]⟩)]:=by
  unfold zhx
  rw[hc,if_pos rfl]
  exact fx8_rdV
 show (if zho fx6Z=true then (zj0 _ []).map fun q=>(((cutB 64 fx6Z).1,zhx fx6Z,q.1),q.2) else none)=_
 rw[if_pos hn,fx6_set1,hs,hc]
 rfl
theorem fx6_cond:zon [⟨#[115,115,108,61,111,110]⟩]=some ((noT,allV,[(⟨#[115,115,108]⟩,⟨#[111,110]⟩)]),[]):=by
 show (if (⟨#[115,115,108,61,111,110]⟩ : ByteArray)=ziv then some ((noT,allV,[]),[]) else if zfm ⟨#[115,115,108,61,111,110]⟩=true then (if zed (zgq ⟨#[115,115,108,61,111,110]⟩)=true then (zj0 [] []).map fun q=>((noT,rdV (zgq ⟨#[115,115,108,61,111,110]⟩),q.1),q.2) else none) else if hasB 61 ⟨#[115,115,108,61,111,110]⟩=true then (zj0 [⟨#[115,115,108,61,111,110]⟩] []).map fun q=>((noT,allV,q.1),q.2) else none)=_
 rw[if_neg (by decide),if_neg (by decide),if_pos (by kernel_rfl),fx6_set2]
 rfl
theorem fx6_dep:depL 2 [fx6Z,⟨#[115,104,97,114,101,100,61,111,110]⟩,zhh,⟨#[115,115,108,61,111,110]⟩]=some fx6D:=by
 unfold depL
 rw[fx6_wish]
 simp only[if_pos]
 rw[fx6_cond]
 rfl
theorem fx6_rcp:zge fx6T.data.toList=some ⟨[{ zdm ⟨#[97]⟩ 1 with dep:=[fx6D] }],[]⟩:=by
 unfold zge
 rw[fx6_doc,if_pos rfl]
 have h1:zbb fx6L.1 (fx6L.2.map wtx) ⟨[],[]⟩=some ⟨[zdm ⟨#[97]⟩ 1],[]⟩:=by
  show zbb 1 (zbf :: [⟨#[97]⟩]) ⟨[],[]⟩=_
  rw[zff rfl]
  kernel_rfl
 have h2:zbb fx6M.1 (fx6M.2.map wtx) ⟨[zdm ⟨#[97]⟩ 1],[]⟩=some ⟨[{ zdm ⟨#[97]⟩ 1 with dep:=[fx6D] }],[]⟩:=by
  show zbb 2 (zda :: [fx6Z,⟨#[115,104,97,114,101,100,61,111,110]⟩,zhh,⟨#[115,115,108,61,111,110]⟩]) ⟨[zdm ⟨#[97]⟩ 1],[]⟩=_
  rw[zey (ps:=[]) (by decide) (by decide) rfl]
  have h3:zax zda 2 (zdm ⟨#[97]⟩ 1) [fx6Z,⟨#[115,104,97,114,101,100,61,111,110]⟩,zhh,⟨#[115,115,108,61,111,110]⟩]=some { zdm ⟨#[97]⟩ 1 with dep:=[fx6D] }:=by
   unfold zax
   rw[if_neg (by decide),if_neg (by decide),if_neg (by decide),if_pos rfl,fx6_dep]
   rfl
  rw[h3]
  rfl
 show goL [fx6L,fx6M] _=_
 show (zbb fx6L.1 (fx6L.2.map wtx) _).bind _=_
 rw[h1]
 show (zbb fx6M.1 (fx6M.2.map wtx) _).bind _=_
 rw[h2]
 rfl
end

section
open Go.RowKit Go.Shelf Go.Lib VerN VarM
theorem zhr {α β:Type} {f:α→β} {l m:List α} (hl:l.length=m.length) (h:∀ j (h1:j < l.length) (h2:j < m.length),f l[j]=f m[j]):l.map f=m.map f :=
 List.ext_getElem (by simp[hl]) fun j h1 h2=>by
  rw[List.getElem_map,List.getElem_map]
  exact h j (by simpa using h1) (by simpa using h2)
theorem zl8 {α β:Type} {f:α→β} {l m:List α} (h:l.length≠m.length):l.map f≠m.map f:=fun e=>h (by have:=congrArg List.length e;simpa using this)
theorem zkh {α β:Type} {f:α→β} {l m:List α} {k:Nat} (h1:k < l.length) (h2:k < m.length) (h:f l[k]≠f m[k]):l.map f≠m.map f:=fun e=>h (by
 have e1:(l.map f)[k]'(by simpa using h1)=f l[k]:=List.getElem_map _
 have e2:(m.map f)[k]'(by simpa using h2)=f m[k]:=List.getElem_map _
 rw[← e1,← e2]
 simp only[e])
def tupP (p:PkgM):ByteArray × List RlsM × List zln × List ByteArray × List DepM × List DepM × List ByteArray:=(p.name,p.rel,p.vars,p.prov,p.dep.map zcs,p.conf.map zcs,p.files)
theorem zp6 {p q:PkgM}:zd5 p=zd5 q↔tupP p=tupP q:=by
 unfold zd5 tupP
 simp only[PkgM.mk.injEq,Prod.mk.injEq,true_and]
theorem bare_iff {x y:RcpM}:bare x=bare y↔x.pk.map tupP=y.pk.map tupP∧x.pf.map zfo=y.pf.map zfo:=by
 unfold bare
 rw[RcpM.mk.injEq]
 constructor
 ·rintro⟨h1,h2⟩
  have hl:x.pk.length=y.pk.length:=by have:=congrArg List.length h1;simpa using this
  refine⟨zhr hl fun j k1 k2=>zp6.1 (Classical.byContradiction fun hne=>zkh k1 k2 hne h1),h2⟩
 rintro⟨h1,h2⟩
 have hl:x.pk.length=y.pk.length:=by have:=congrArg List.length h1;simpa using this
 refine⟨zhr hl fun j k1 k2=>zp6.2 (Classical.byContradiction fun hne=>zkh k1 k2 hne h1),h2⟩
instance decDepM:DecidableEq DepM:=@instDecidableEqProd Spc3 (Spc3 × Int) inferInstance (@instDecidableEqProd Spc3 Int inferInstance inferInstance)
instance decTupP:DecidableEq (ByteArray × List RlsM × List zln × List ByteArray × List DepM × List DepM × List ByteArray) :=
 @instDecidableEqProd _ _ inferInstance (@instDecidableEqProd _ _ inferInstance (@instDecidableEqProd _ _ inferInstance (@instDecidableEqProd _ _ inferInstance (@instDecidableEqProd _ _ inferInstance (@instDecidableEqProd _ _ inferInstance inferInstance)))))
def zch (l m:List DepM):Bool:=decide (l.map zcs=m.map zcs)
def zfw (p q:PkgM):Bool:=decide (tupP p=tupP q)
def zhz (l m:List PrfM):Bool:=decide (l.map zfo=m.map zfo)
def zfv (l m:List PkgM):Bool:=decide (l.map tupP=m.map tupP)
def zhk (x y:RcpM):Bool:=zfv x.pk y.pk && zhz x.pf y.pf
theorem znu {x y:RcpM}:zhk x y=true↔bare x=bare y:=by
 unfold zhk zfv zhz
 rw[bare_iff]
 simp
theorem samePk_is (p q:PkgM):zfw p q=(decide (p.name=q.name) && (decide (p.rel=q.rel) && (decide (p.vars=q.vars) && (decide (p.prov=q.prov) && (decide (p.files=q.files) && (zch p.dep q.dep && zch p.conf q.conf)))))):=by
 unfold zfw zch tupP
 rw[Bool.eq_iff_iff]
 simp only[Prod.mk.injEq,decide_eq_true_eq,Bool.and_eq_true]
 constructor
 ·rintro⟨h1,h2,h3,h4,h5,h6,h7⟩
  exact⟨h1,h2,h3,h4,h7,h5,h6⟩
 rintro⟨h1,h2,h3,h4,h7,h5,h6⟩
 exact⟨h1,h2,h3,h4,h5,h6,h7⟩
theorem zph {w:World} {v:Value} {l:List RlsM} (h:zb8 2 zjw w [v] l):∃ a cap,v = .slice a l.length cap∧l.length≤9223372036854775807∧∀ i x,l[i]? = some x→∃ b off,a=some ⟨b,off,none⟩∧w.cell? ⟨b,off+i * 2,none⟩=some (.string x.1)∧w.cell? ⟨b,off+i * 2+1,none⟩=some (.bool x.2):=by
 obtain⟨a,cap,hv,hcap,hmax,hel⟩:=h
 simp only[List.cons.injEq,and_true] at hv
 unfold maxLen at hmax
 refine⟨a,cap,hv,by omega,fun i x hi=>?_⟩
 obtain⟨b,off,ecs,h1,h2,h3,h4⟩:=hel i x hi
 have h4':ecs = [.string x.1,.bool x.2]:=h4
 subst h4'
 exact⟨b,off,h1,by simpa using h3 0 _ rfl,by simpa using h3 1 _ rfl⟩
theorem zk5 {w:World} {v:Value} {l:List zln} (h:zb8 2 zic w [v] l):∃ a cap,v = .slice a l.length cap∧l.length≤9223372036854775807∧∀ i x,l[i]? = some x→∃ b off b1 c1,a=some ⟨b,off,none⟩∧w.cell? ⟨b,off+i * 2,none⟩=some (.string x.1)∧w.cell? ⟨b,off+i * 2+1,none⟩=some (.slice b1 x.2.length c1)∧RTs w [.slice b1 x.2.length c1] x.2:=by
 obtain⟨a,cap,hv,hcap,hmax,hel⟩:=h
 simp only[List.cons.injEq,and_true] at hv
 unfold maxLen at hmax
 refine⟨a,cap,hv,by omega,fun i x hi=>?_⟩
 obtain⟨b,off,ecs,h1,h2,h3,v1,h4,h5⟩:=hel i x hi
 obtain⟨a1,c1,rfl,-,-⟩:=ze9 h5
 subst h4
 exact⟨b,off,a1,c1,h1,by simpa using h3 0 _ rfl,by simpa using h3 1 _ rfl,h5⟩
theorem pfs_open {w:World} {v:Value} {l:List PrfM} (h:zb8 3 RPfM w [v] l):∃ a cap,v = .slice a l.length cap∧l.length≤9223372036854775807∧∀ i x,l[i]? = some x→∃ b off b1 c1,a=some ⟨b,off,none⟩∧w.cell? ⟨b,off+i * 3,none⟩=some (.string x.1)∧w.cell? ⟨b,off+i * 3+1,none⟩=some (.slice b1 x.2.1.length c1)∧w.cell? ⟨b,off+i * 3+2,none⟩=some (.int .i64 x.2.2)∧RTs w [.slice b1 x.2.1.length c1] x.2.1:=by
 obtain⟨a,cap,hv,hcap,hmax,hel⟩:=h
 simp only[List.cons.injEq,and_true] at hv
 unfold maxLen at hmax
 refine⟨a,cap,hv,by omega,fun i x hi=>?_⟩
 obtain⟨b,off,ecs,h1,h2,h3,v1,h4,h5⟩:=hel i x hi
 obtain⟨a1,c1,rfl,-,-⟩:=ze9 h5
 subst h4
 exact⟨b,off,a1,c1,h1,by simpa using h3 0 _ rfl,by simpa using h3 1 _ rfl,by simpa using h3 2 _ rfl,h5⟩
theorem zlz {w:World} {a b c:Value} {s:Spc3} (h:zjv w a b c s):∃ b1 c1 b2 c2,a = .string s.1∧b = .slice b1 s.2.1.length c1∧c = .slice b2 s.2.2.length c2∧RSps w [.slice b1 s.2.1.length c1] s.2.1∧zfj w [.slice b2 s.2.2.length c2] s.2.2:=by
 obtain⟨h1,h2,h3⟩:=h
 obtain⟨a1,c1,rfl,-,-⟩:=zg9 h2
 obtain⟨a2,c2,rfl,-,-⟩:=zf3 h3
 exact⟨a1,c1,a2,c2,h1,rfl,rfl,h2,h3⟩
theorem zji {w:World} {v:Value} {l:List DepM} (h:zb8 7 zfp w [v] l):∃ a cap,v = .slice a l.length cap∧l.length≤9223372036854775807∧∀ i x,l[i]? = some x→∃ b off b1 c1 b2 c2 b3 c3 b4 c4,a=some ⟨b,off,none⟩ ∧
  w.cell? ⟨b,off+i * 7,none⟩=some (.string x.1.1)∧w.cell? ⟨b,off+i * 7+1,none⟩=some (.slice b1 x.1.2.1.length c1)∧w.cell? ⟨b,off+i * 7+2,none⟩=some (.slice b2 x.1.2.2.length c2) ∧
  w.cell? ⟨b,off+i * 7+3,none⟩=some (.string x.2.1.1)∧w.cell? ⟨b,off+i * 7+4,none⟩=some (.slice b3 x.2.1.2.1.length c3)∧w.cell? ⟨b,off+i * 7+5,none⟩=some (.slice b4 x.2.1.2.2.length c4)∧w.cell? ⟨b,off+i * 7+6,none⟩=some (.int .i64 x.2.2) ∧
  (RSps w [.slice b1 x.1.2.1.length c1] x.1.2.1∧zfj w [.slice b2 x.1.2.2.length c2] x.1.2.2)∧RSps w [.slice b3 x.2.1.2.1.length c3] x.2.1.2.1∧zfj w [.slice b4 x.2.1.2.2.length c4] x.2.1.2.2:=by
 obtain⟨a,cap,hv,hcap,hmax,hel⟩:=h
 simp only[List.cons.injEq,and_true] at hv
 unfold maxLen at hmax
 refine⟨a,cap,hv,by omega,fun i x hi=>?_⟩
 obtain⟨b,off,ecs,h1,h2,h3,a1,a2,a3,a4,a5,a6,h4,h5,h6⟩:=hel i x hi
 obtain⟨b1,c1,b2,c2,rfl,rfl,rfl,k1,k2⟩:=zlz h5
 obtain⟨b3,c3,b4,c4,rfl,rfl,rfl,k3,k4⟩:=zlz h6
 subst h4
 exact⟨b,off,b1,c1,b2,c2,b3,c3,b4,c4,h1,by simpa using h3 0 _ rfl,by simpa using h3 1 _ rfl,by simpa using h3 2 _ rfl,by simpa using h3 3 _ rfl,by simpa using h3 4 _ rfl,by simpa using h3 5 _ rfl,by simpa using h3 6 _ rfl,⟨k1,k2⟩,k3,k4⟩
def RPkR (w:World) (v2 v3 v4 v5 v6 v7:Value) (x:PkgM):Prop:=zb8 2 zjw w [v2] x.rel∧zb8 2 zic w [v3] x.vars∧RTs w [v4] x.prov∧zb8 7 zfp w [v5] x.dep∧zb8 7 zfp w [v6] x.conf∧RTs w [v7] x.files
theorem RPkR.below {w w':World} {v2 v3 v4 v5 v6 v7:Value} {x:PkgM} (h:RPkR w v2 v3 v4 v5 v6 v7 x) (hb:Below w.heap.size w w'):RPkR w' v2 v3 v4 v5 v6 v7 x:=by
 obtain⟨h2,h3,h4,h5,h6,h7⟩:=h
 exact⟨zam zk9 _ _ _ _ h2 hb,zam zk8 _ _ _ _ h3 hb,zbc h4 hb,zam zg7 _ _ _ _ h5 hb,zam zg7 _ _ _ _ h6 hb,zbc h7 hb⟩
theorem RPkR.shape {w:World} {v2 v3 v4 v5 v6 v7:Value} {x:PkgM} (h:RPkR w v2 v3 v4 v5 v6 v7 x):∃ b2 c2 b3 c3 b4 c4 b5 c5 b6 c6 b7 c7,v2 = .slice b2 x.rel.length c2∧v3 = .slice b3 x.vars.length c3∧v4 = .slice b4 x.prov.length c4∧v5 = .slice b5 x.dep.length c5∧v6 = .slice b6 x.conf.length c6∧v7 = .slice b7 x.files.length c7:=by
 obtain⟨h2,h3,h4,h5,h6,h7⟩:=h
 obtain⟨b2,c2,rfl,-,-⟩:=zph h2
 obtain⟨b3,c3,rfl,-,-⟩:=zk5 h3
 obtain⟨b4,c4,rfl,-,-⟩:=ze9 h4
 obtain⟨b5,c5,rfl,-,-⟩:=zji h5
 obtain⟨b6,c6,rfl,-,-⟩:=zji h6
 obtain⟨b7,c7,rfl,-,-⟩:=ze9 h7
 exact⟨b2,c2,b3,c3,b4,c4,b5,c5,b6,c6,b7,c7,rfl,rfl,rfl,rfl,rfl,rfl⟩
theorem pks_open {w:World} {v:Value} {l:List PkgM} (h:zb8 8 RPkM w [v] l):∃ a cap,v = .slice a l.length cap∧l.length≤9223372036854775807∧∀ i x,l[i]? = some x→∃ b off b2 c2 b3 c3 b4 c4 b5 c5 b6 c6 b7 c7,a=some ⟨b,off,none⟩ ∧
  w.cell? ⟨b,off+i * 8,none⟩=some (.string x.name)∧w.cell? ⟨b,off+i * 8+1,none⟩=some (.int .i64 x.line)∧w.cell? ⟨b,off+i * 8+2,none⟩=some (.slice b2 x.rel.length c2)∧w.cell? ⟨b,off+i * 8+3,none⟩=some (.slice b3 x.vars.length c3) ∧
  w.cell? ⟨b,off+i * 8+4,none⟩=some (.slice b4 x.prov.length c4)∧w.cell? ⟨b,off+i * 8+5,none⟩=some (.slice b5 x.dep.length c5)∧w.cell? ⟨b,off+i * 8+6,none⟩=some (.slice b6 x.conf.length c6)∧w.cell? ⟨b,off+i * 8+7,none⟩=some (.slice b7 x.files.length c7) ∧
  RPkR w (.slice b2 x.rel.length c2) (.slice b3 x.vars.length c3) (.slice b4 x.prov.length c4) (.slice b5 x.dep.length c5) (.slice b6 x.conf.length c6) (.slice b7 x.files.length c7) x:=by
 obtain⟨a,cap,hv,hcap,hmax,hel⟩:=h
 simp only[List.cons.injEq,and_true] at hv
 unfold maxLen at hmax
 refine⟨a,cap,hv,by omega,fun i x hi=>?_⟩
 obtain⟨b,off,ecs,h1,h2,h3,v2,v3,v4,v5,v6,v7,h4,h5⟩:=hel i x hi
 have h5:RPkR w v2 v3 v4 v5 v6 v7 x:=h5
 obtain⟨b2,c2,b3,c3,b4,c4,b5,c5,b6,c6,b7,c7,rfl,rfl,rfl,rfl,rfl,rfl⟩:=h5.shape
 subst h4
 exact⟨b,off,b2,c2,b3,c3,b4,c4,b5,c5,b6,c6,b7,c7,h1,by simpa using h3 0 _ rfl,by simpa using h3 1 _ rfl,by simpa using h3 2 _ rfl,by simpa using h3 3 _ rfl,by simpa using h3 4 _ rfl,by simpa using h3 5 _ rfl,by simpa using h3 6 _ rfl,by simpa using h3 7 _ rfl,h5⟩
theorem rls_at {w:World} {a:Option Addr} {n c:Nat} {l:List RlsM} (h:zb8 2 zjw w [.slice a n c] l):n=l.length∧n≤9223372036854775807∧∀ i x,l[i]? = some x→∃ b off,a=some ⟨b,off,none⟩∧w.cell? ⟨b,off+i * 2,none⟩=some (.string x.1)∧w.cell? ⟨b,off+i * 2+1,none⟩=some (.bool x.2):=by
 obtain⟨a',cap,e,hz,g⟩:=zph h
 cases e
 exact⟨rfl,hz,g⟩
theorem zp3 {w:World} {a:Option Addr} {n c:Nat} {l:List zln} (h:zb8 2 zic w [.slice a n c] l):n=l.length∧n≤9223372036854775807∧∀ i x,l[i]? = some x→∃ b off b1 c1,a=some ⟨b,off,none⟩∧w.cell? ⟨b,off+i * 2,none⟩=some (.string x.1)∧w.cell? ⟨b,off+i * 2+1,none⟩=some (.slice b1 x.2.length c1)∧RTs w [.slice b1 x.2.length c1] x.2:=by
 obtain⟨a',cap,e,hz,g⟩:=zk5 h
 cases e
 exact⟨rfl,hz,g⟩
theorem pfs_at {w:World} {a:Option Addr} {n c:Nat} {l:List PrfM} (h:zb8 3 RPfM w [.slice a n c] l):n=l.length∧n≤9223372036854775807∧∀ i x,l[i]? = some x→∃ b off b1 c1,a=some ⟨b,off,none⟩∧w.cell? ⟨b,off+i * 3,none⟩=some (.string x.1)∧w.cell? ⟨b,off+i * 3+1,none⟩=some (.slice b1 x.2.1.length c1)∧w.cell? ⟨b,off+i * 3+2,none⟩=some (.int .i64 x.2.2)∧RTs w [.slice b1 x.2.1.length c1] x.2.1:=by
 obtain⟨a',cap,e,hz,g⟩:=pfs_open h
 cases e
 exact⟨rfl,hz,g⟩
theorem zjj {w:World} {a:Option Addr} {n c:Nat} {l:List DepM} (h:zb8 7 zfp w [.slice a n c] l):n=l.length∧n≤9223372036854775807∧∀ i x,l[i]? = some x→∃ b off b1 c1 b2 c2 b3 c3 b4 c4,a=some ⟨b,off,none⟩ ∧
  w.cell? ⟨b,off+i * 7,none⟩=some (.string x.1.1)∧w.cell? ⟨b,off+i * 7+1,none⟩=some (.slice b1 x.1.2.1.length c1)∧w.cell? ⟨b,off+i * 7+2,none⟩=some (.slice b2 x.1.2.2.length c2) ∧
  w.cell? ⟨b,off+i * 7+3,none⟩=some (.string x.2.1.1)∧w.cell? ⟨b,off+i * 7+4,none⟩=some (.slice b3 x.2.1.2.1.length c3)∧w.cell? ⟨b,off+i * 7+5,none⟩=some (.slice b4 x.2.1.2.2.length c4)∧w.cell? ⟨b,off+i * 7+6,none⟩=some (.int .i64 x.2.2) ∧
  (RSps w [.slice b1 x.1.2.1.length c1] x.1.2.1∧zfj w [.slice b2 x.1.2.2.length c2] x.1.2.2)∧RSps w [.slice b3 x.2.1.2.1.length c3] x.2.1.2.1∧zfj w [.slice b4 x.2.1.2.2.length c4] x.2.1.2.2:=by
 obtain⟨a',cap,e,hz,g⟩:=zji h
 cases e
 exact⟨rfl,hz,g⟩
theorem pks_at {w:World} {a:Option Addr} {n c:Nat} {l:List PkgM} (h:zb8 8 RPkM w [.slice a n c] l):n=l.length∧n≤9223372036854775807∧∀ i x,l[i]? = some x→∃ b off b2 c2 b3 c3 b4 c4 b5 c5 b6 c6 b7 c7,a=some ⟨b,off,none⟩ ∧
  w.cell? ⟨b,off+i * 8,none⟩=some (.string x.name)∧w.cell? ⟨b,off+i * 8+1,none⟩=some (.int .i64 x.line)∧w.cell? ⟨b,off+i * 8+2,none⟩=some (.slice b2 x.rel.length c2)∧w.cell? ⟨b,off+i * 8+3,none⟩=some (.slice b3 x.vars.length c3) ∧
  w.cell? ⟨b,off+i * 8+4,none⟩=some (.slice b4 x.prov.length c4)∧w.cell? ⟨b,off+i * 8+5,none⟩=some (.slice b5 x.dep.length c5)∧w.cell? ⟨b,off+i * 8+6,none⟩=some (.slice b6 x.conf.length c6)∧w.cell? ⟨b,off+i * 8+7,none⟩=some (.slice b7 x.files.length c7) ∧
  RPkR w (.slice b2 x.rel.length c2) (.slice b3 x.vars.length c3) (.slice b4 x.prov.length c4) (.slice b5 x.dep.length c5) (.slice b6 x.conf.length c6) (.slice b7 x.files.length c7) x:=by
 obtain⟨a',cap,e,hz,g⟩:=pks_open h
 cases e
 exact⟨rfl,hz,g⟩
end

section
open Go.Shelf Go.RowKit Go.Lib VerN VarM
attribute [local go_sem ↓] Go.wp_at_zero Go.wp_at_succ
theorem zom {w:World} (hD:zbz w):Calls Tryz.prog 43 #[] w fun e w'=>e = .returned (.bool true)∧Below w.heap.size w w':=by
 have hP:=zga fx6T (by decide) hD
 rw[fx6_rcp] at hP
 unfold zou at hP
 unfold fx6T at hP
 obtain⟨HP,HD⟩:=hd2 hP hD;clear hP hD
 go_enter Tryz.func43,Tryz.ntmps43
 go_wp2_with fail
 refine HP.out.mono ?_
 rintro e w1 ⟨a1,n1,c1,a2,n2,c2,u1,u2,er,rfl,⟨x,hx,rfl,hr1,hr2⟩ | ⟨hx,-⟩,hb1⟩
 case inr=>cases hx
 cases hx
 obtain⟨hn,-,hat⟩:=pks_at hr1
 obtain rfl:n1=1:=hn
 obtain⟨b,off,b2,e2,b3,e3,b4,e4,b5,e5,b6,e6,b7,e7,rfl,-,-,-,-,-,x5,-,-,rk⟩:=hat 0 _ rfl
 have x5:w1.cell? ⟨b,off+5,none⟩=some (.slice b5 1 e5):=by
  rw[show off+5=off+0 * 8+5 by omega]
  exact x5
 obtain⟨-,-,hd⟩:=zjj rk.2.2.2.1
 obtain⟨db,dof,p1,q1,p2,q2,p3,q3,p4,q4,rfl,d0,d1,d2,d3,d4,d5,d6,⟨r1,-⟩,-⟩:=hd 0 fx6D rfl
 rw[Nat.zero_mul,Nat.add_zero] at d0 d1 d2 d3 d4 d5 d6
 have d1:w1.cell? ⟨db,dof+1,none⟩=some (.slice p1 1 q1):=d1
 have d2:w1.cell? ⟨db,dof+2,none⟩=some (.slice p2 1 q2):=d2
 have d4:w1.cell? ⟨db,dof+4,none⟩=some (.slice p3 1 q3):=d4
 have d5:w1.cell? ⟨db,dof+5,none⟩=some (.slice p4 1 q4):=d5
 have d6:w1.cell? ⟨db,dof+6,none⟩=some (.int .i64 2):=d6
 obtain⟨sb,sof,rfl,s0,-⟩:=zp8 r1 0 _ rfl
 rw[Nat.zero_mul,Nat.add_zero] at s0
 obtain⟨z1,hz1⟩ : ∃ z,z=fx6D.1.1:=⟨_,rfl⟩
 obtain⟨z2,hz2⟩ : ∃ z,z=fx6D.2.1.1:=⟨_,rfl⟩
 obtain⟨z3,hz3⟩ : ∃ z:ByteArray,z=⟨#[49]⟩:=⟨_,rfl⟩
 have s0:w1.cell? ⟨sb,sof,none⟩=some (.string z3):=by rw[hz3];exact s0
 rw[← hz1] at d0
 rw[← hz2] at d3
 have t1:(z1.toList == [122,108,105,98])=true:=by rw[hz1,Lib.toList_data];rfl
 have t3:(z3.toList == [49])=true:=by rw[hz3,Lib.toList_data];rfl
 obtain⟨g,hg⟩ : ∃ g,g=w1.heap.size:=⟨_,rfl⟩
 obtain⟨w2,hw2⟩ : ∃ W,W=(w1.alloc (.cells #[.slice (some ⟨b,off,none⟩) 1 c1,.slice a2 n2 c2] 73)).alloc (.cells #[.int .i64 u1,.int .i64 u2] 40):=⟨_,rfl⟩
 have hb2:Below w1.heap.size w1 w2:=by rw[hw2];exact (za1 _ _).alloc (by simp) _
 have p0:zbi g (.slice (some ⟨b,off,none⟩) 1 c1) (.slice a2 n2 c2) w2:=by rw[hw2,hg];exact za0 (za1 _ _) (zag rfl)
 obtain⟨i0,-⟩:=zar p0
 have x5:=cell_later hb2 x5
 have d0:=cell_later hb2 d0
 have d1:=cell_later hb2 d1
 have d2:=cell_later hb2 d2
 have d3:=cell_later hb2 d3
 have d4:=cell_later hb2 d4
 have d5:=cell_later hb2 d5
 have d6:=cell_later hb2 d6
 have s0:=cell_later hb2 s0
 have hbw:=hb1.trans (hb2.mono hb1.size)
 obtain⟨h,hh⟩ : ∃ g,g=w2.heap.size:=⟨_,rfl⟩
 obtain⟨w3,hw3⟩ : ∃ W,W=w2.alloc (.cells #[.string z1,.slice (some ⟨sb,sof,none⟩) 1 q1,.slice p2 1 q2,.string z2,.slice p3 1 q3,.slice p4 1 q4,.int .i64 2] 134):=⟨_,rfl⟩
 have hb3:Below w2.heap.size w2 w3:=by rw[hw3];exact za1 _ _
 have p4':w3.heap[h]? = some (.cells #[.string z1,.slice (some ⟨sb,sof,none⟩) 1 q1,.slice p2 1 q2,.string z2,.slice p3 1 q3,.slice p4 1 q4,.int .i64 2] 134 (0,0)):=by rw[hw3,hh];exact heap_alloc_new _ _
 have hbz:=hbw.trans (hb3.mono hbw.size)
 have j0:=za2 p4' 0
 have j1:=za2 p4' 1
 have j2:=za2 p4' 2
 have j5:=za2 p4' 5
 have j6:=za2 p4' 6
 simp only[List.getElem?_toArray,List.getElem?_cons_zero,List.getElem?_cons_succ] at j0 j1 j2 j5 j6
 have s1:=cell_later hb3 s0
 obtain⟨Hr1,Hr2,Hat,Hd,Hrk,Hr1,Hb1,Hb2,Hp0,Hbw,Hb3,Hp4',Hbz,Hz1,Hz2,Hz3⟩:=hd16 hr1 hr2 hat hd rk r1 hb1 hb2 p0 hbw hb3 p4' hbz hz1 hz2 hz3;clear hr1 hr2 hat hd rk r1 hb1 hb2 p0 hbw hb3 p4' hbz hz1 hz2 hz3
 go_upto_region 2 with (fail)
 rw[← hw2,← hg]
 clear hw2 hg
 go_upto_region 5 with (fail)
 rw[← hw3,← hh]
 clear hw3 hh
 go_wp2_with fail
 go_ret
 exact⟨rfl,Hbz.out⟩
end
end Go.Proofs.YteailgjiifdgcaaGreatDoor
