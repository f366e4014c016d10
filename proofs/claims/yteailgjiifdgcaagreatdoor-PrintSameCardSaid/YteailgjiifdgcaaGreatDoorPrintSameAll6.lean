/- Walks and plain facts. Texts merged: SpsJ, SpsT, SpnRm, SpsW, SpsB, Ins, SpsX, SpsP, SpnRf, SpsS, SpsU, SpsY, VarM, VarN, VarR, WishR, LexM, RqM, RpM, RcM, RcS, LexK, Eqf. Condition: none beyond what each says. -/
import Derived.Laws.EntriesVeiled
import Derived.Lib.Join
import Derived.Lib.Small
import Derived.Deep.Cut
import Derived.Deep.DrawnRows
import Derived.Test.YteailgjiifdgcaaGreatDoorPrintSameAll5
set_option linter.unusedVariables false
set_option linter.unusedSimpArgs false
set_option maxRecDepth 10000
set_option maxHeartbeats 4000000
namespace Go.Proofs.YteailgjiifdgcaaGreatDoor
section
open Go.Shelf Go.RowKit Go.Lib Go.Sort SortM VerN
theorem jn_size {a b:BSp} (ha:a.1.size≤9000∧a.2.size≤9000) (hb:b.1.size≤9000∧b.2.size≤9000):(jnV a.1 a.2 b.1 b.2).1.size≤9000∧(jnV a.1 a.2 b.1 b.2).2.size≤9000:=by
 have h0:(ByteArray.mk #[]).size≤9000:=by decide
 unfold jnV
 split
 ·constructor
  ·show (if _ then _ else _:ByteArray).size≤9000
   split
   ·exact ze9 ha.1 hb.1
   exact h0
  show (if _ then _ else _:ByteArray).size≤9000
  split
  ·exact zfh ha.2 hb.2
  exact h0
 exact⟨h0,h0⟩
def ze5 (O:List BSp):Prop:=∀ z∈O,z.1.size≤9000∧z.2.size≤9000
theorem ze5.add {O:List BSp} (h:ze5 O) {x:BSp} (hx:x.1.size≤9000∧x.2.size≤9000):ze5 (addB O x):=by
 rcases List.eq_nil_or_concat O with rfl | ⟨Q,z,rfl⟩
 ·rw[zoo]
  intro y hy
  rw[List.mem_singleton.1 hy];exact hx
 rw[List.concat_eq_append] at *
 rw[zi6]
 have hq:∀ y∈Q,y.1.size≤9000∧y.2.size≤9000:=fun y hy=>h y (by simp[hy])
 have hz:=h z (by simp)
 split
 ·intro y hy
  rcases List.mem_append.1 hy with k | k
  ·exact hq y k
  rw[List.mem_singleton.1 k];exact jn_size hz hx
 intro y hy
 rcases List.mem_append.1 hy with k | k
 ·exact h y k
 rw[List.mem_singleton.1 k];exact hx
theorem zfd:∀ (r O:List BSp),ze5 O→ze5 r→ze5 (r.foldl addB O)
 | [],_,h,_=>h
 | x :: r,O,h,hr=>zfd r (addB O x) (h.add (hr x (by simp))) fun y hy=>hr y (by simp[hy])
theorem zh9 (l:List Tp):ze5 (tB l):=fun z hz=>by
 obtain⟨x,_,rfl⟩:=List.mem_map.1 hz
 exact x.2
theorem zpp {r:List BSp} {k:Nat} (h:k < r.length):zf7 (r.take (k+1))=addB (zf7 (r.take k)) r[k]:=by
 unfold zf7
 rw[List.take_succ_eq_append_getElem h,List.foldl_append];rfl
theorem Mrg.below {w0 w w':World} {x:Nat} {O:List BSp} (h:Mrg w0 x O w) (hb:Below w.heap.size w w'):Mrg w0 x O w':=by
 obtain⟨v,h1,h2,h3,h4⟩:=h
 exact⟨v,za0 hb h1,za8 h2 hb,h3.trans (hb.mono h3.size),h4⟩
theorem zmb {w w0:World} {o:Value} {l:List Tp} (h:w.ownsRow w0.heap.size 34 2 o l.length ((tB l).flatMap zak)) (hb:Below w0.heap.size w0 w) (hD:zb1 w0) (hl:l.length≤80000) :
  Calls Tryz.prog 106 #[o,.func (.func 107) #[] #[]] w fun e w'=>e = .returned (.tuple #[])∧w'.ownsRow w0.heap.size 34 2 o l.length ((tB (zh8 l)).flatMap zak)∧Below w0.heap.size w0 w':=by
 rcases h.2 with⟨rfl,h0⟩ | ⟨g,c,cur,rfl,_⟩
 ·have hl0:l = []:=List.length_eq_zero_iff.1 h0
  subst hl0
  exact (zgm _ w).mono fun e w' ⟨he,hw⟩=>⟨he,hw ▸ World.ownsRow_nil _ _ _ _,hw ▸ hb⟩
 exact zp2 h hb hD hl
theorem zp1 (l:List Tp):(tB (zh8 l)).length=l.length:=by rw[List.length_map];exact (zh7 l).length_eq
theorem zns {w:World} {oa:Option Addr} {n oc:Nat} {R:List BSp} (h:RSps w [.slice oa n oc] R):∀ i x,R[i]? = some x→∃ b off,oa=some ⟨b,off,none⟩∧w.cell? ⟨b,off+i * 2,none⟩=some (.string x.1)∧w.cell? ⟨b,off+i * 2+1,none⟩=some (.string x.2):=by
 obtain⟨a,cap,hv,_,hg⟩:=zb8 h
 injection hv with h1 _ _
 subst h1
 intro i x hi
 obtain⟨b,off,e,c0,c1,_⟩:=hg i x hi
 exact⟨b,off,e,c0,c1⟩
theorem zho (R:List BSp) (k:Nat):(zf7 (R.take k)).length≤k:=by
 have h:=zg3 (R.take k) []
 rw[List.length_take] at h
 unfold zf7
 simp only[List.length_nil] at h
 omega
def ze4 (l:List Tp):Bool:=zon (tB l) && decide ((zey l).length≤16)
def zki (l:List Tp) (w:World) (e:Ending) (w':World):Prop :=
 ∃ o,e = .returned (.tuple #[o,.bool (ze4 l)])∧(ze4 l=true→w'.ownsRow w.heap.size 34 2 o (zey l).length ((zey l).flatMap zak))∧(ze4 l=false→o = .slice none 0 0)∧Below w.heap.size w w'
theorem form_no {l:List Tp} {w w':World} (h:ze4 l=false) (hb:Below w.heap.size w w'):zki l w (.returned (.tuple #[.slice none 0 0,.bool false])) w' :=
 ⟨_,by rw[h],(fun k=>by rw[h] at k;cases k),(fun _=>rfl),hb⟩
theorem form_any {w:World} {v:Value} {l:List Tp} (h:RSps w [v] (tB l)) (hl:l.length≤80000) (hD:zb1 w):Calls Tryz.prog 51 #[v] w (zki l w):=by
 have hC:=IdxSpan.has_any zaf (fun s=>!mayS (dS s)) 103 #[] zk6 h (zmw l hD)
 rw[zqe] at hC
 have hK:=fun (W:World) (k:Below w.heap.size w W)=>zlt (za3 zaf _ _ _ _ h k) (by rw[List.length_map];omega)
 obtain⟨a,cap,rfl⟩:=zcw h
 obtain⟨n,hn⟩ : ∃ n,n=(tB l).length:=⟨_,rfl⟩
 have hnl:n=l.length:=by rw[hn,List.length_map]
 rw[← hn] at hC hK h ⊢
 have hn1:n≤80000:=by omega
 obtain⟨p,hp⟩ : ∃ p,p=zon (tB l):=⟨_,rfl⟩
 rw[← hp] at hC
 cases p with
 | false =>
  have hno:ze4 l=false:=by unfold ze4;rw[← hp];rfl
  obtain⟨Hh,HC,HK,Hn,Hnl,Hp,HD,Hno⟩:=hd8 h hC hK hn hnl hp hD hno;clear h hC hK hn hnl hp hD hno
  go_enter Tryz.func51,Tryz.ntmps51
  go_wp2_with fail
  refine HC.out.mono ?_
  rintro e w1 ⟨rfl,hb1⟩
  have Hb1:=hd hb1;clear hb1
  go_wp2_with fail
  go_ret2
  exact form_no Hno.out Hb1.out
 | true =>
  obtain⟨Hh,HC,HK,Hn,Hnl,Hp,HD⟩:=hd7 h hC hK hn hnl hp hD;clear h hC hK hn hnl hp hD
  go_enter Tryz.func51,Tryz.ntmps51
  go_wp2_with fail
  refine HC.out.mono ?_
  rintro e w1 ⟨rfl,hb1⟩
  have hK1:=HK.out w1 hb1
  unfold zi9 at hK1
  obtain⟨Hb1,HK1⟩:=hd2 hb1 hK1;clear hb1 hK1
  go_wp2_with fail
  refine HK1.out.mono ?_
  rintro e w2 ⟨o,rfl,ho,hb2⟩
  have ho2:w2.ownsRow w1.heap.size 34 2 o l.length ((tB l).flatMap zak):=by rw[← Hnl.out];exact ho
  have hS:=zmb ho2 hb2 (HD.out.below Hb1.out) (by have:=Hnl.out;omega)
  rw[← Hnl.out] at hS
  obtain⟨oa,oc,rfl⟩:=zaj ho
  clear ho2
  obtain⟨Ho,Hb2,HS⟩:=hd3 ho hb2 hS;clear ho hb2 hS
  go_wp2_with fail
  refine HS.out.mono ?_
  rintro e w3 ⟨rfl,ho3,hb3⟩
  have hrl:=zp1 l
  rw[← Hnl.out] at hrl
  obtain⟨R,hR⟩ : ∃ R,R=tB (zh8 l):=⟨_,rfl⟩
  rw[← hR] at ho3 hrl
  have hRs:ze5 R:=by rw[hR];exact zh9 _
  have hrd:RSps w3 [.slice oa n oc] R:=zfn (fun x hx=>by have:=hRs x hx;unfold maxLen;omega) (by rw[hrl];exact ho3)
  have hat:=zns hrd
  have hbw3:=Hb1.out.trans (hb3.mono Hb1.out.size)
  have hD3:=HD.out.below hbw3
  have hfr:zf7 R=zey l:=by rw[hR];rfl
  obtain⟨Ho3,Hb3,Hrl,HR,HRs,Hrd,Hat,Hbw3,HD3,Hfr⟩:=hd10 ho3 hb3 hrl hR hRs hrd hat hbw3 hD3 hfr;clear ho3 hb3 hrl hR hRs hrd hat hbw3 hD3 hfr
  go_upto_region 6 with (fail)
  have hM0:Mrg w3 w3.heap.size [] (w3.alloc (.cells #[.slice none 0 0,.func (.func 108) #[] #[],.func (.func 109) #[] #[]] 170)):=⟨_,heap_alloc_new _ _,World.ownsRow_nil _ _ _ _,za2 _ _,Nat.le_refl _⟩
  have HM0:=hd hM0;clear hM0
  go_wp2_with fail
  go_loopw [17] (fun i wr=>∃ k:Nat,k≤n∧i = .int .i64 k∧Mrg w3 w3.heap.size (zf7 (R.take k)) wr) (fun i _=>n - (RowKit.intOf i).toNat)
  case atStart=>exact⟨0,Nat.zero_le _,rfl,HM0.out⟩
  case round =>
   obtain⟨k,hk,rfl,hM⟩:=hrel
   have hbr:Below w3.heap.size w3 wr:=by obtain⟨_,_,_,hb,_⟩:=hM;exact hb
   by_cases hlt:k < n
   ·have hkR:k < R.length:=by have:=Hrl.out;omega
    obtain⟨y,hy⟩ : ∃ y,y=R[k]:=⟨_,rfl⟩
    obtain⟨b,off,rfl,c0,c1⟩:=Hat.out k y (by rw[hy];exact List.getElem?_eq_getElem hkR)
    have d0:=cell_later hbr c0
    have d1:=cell_later hbr c1
    have hys:=HRs.out y (by rw[hy];exact List.getElem_mem hkR)
    have hnext:=zpp hkR
    rw[← hy] at hnext
    obtain⟨O,hO⟩ : ∃ O,O=zf7 (R.take k):=⟨_,rfl⟩
    rw[← hO] at hM hnext
    have hOs:ze5 O:=by rw[hO];exact zfd _ _ (fun z hz=>by simp at hz) fun z hz=>HRs.out z (List.mem_of_mem_take hz)
    have hOl:O.length≤100000:=by rw[hO];have:=zho R k;omega
    obtain⟨y1,y2⟩:=y
    have hA:=zjw (hM.below (za2 wr (.cells #[.string y1,.string y2] 34))) hOs hOl (y1,y2) hys HD3.out
    have k5:(0:Int)≤(k:Int):=by omega
    have k6:(k:Int) < (n:Int):=by omega
    clear c0 c1
    obtain⟨HM,Hbr,Hy,Hys,Hnext,HO,HOs,HA⟩:=hd8 hM hbr hy hys hnext hO hOs hA;clear hM hbr hy hys hnext hO hOs hA
    go_wp2_with fail
    refine HA.out.mono ?_
    rintro e w5 ⟨rfl,hM5⟩
    rw[← Hnext.out] at hM5
    have HM5:=hd hM5;clear hM5
    go_wp2_with fail
    go_roundw
    case rel=>exact⟨k+1,by omega,by go_num,HM5.out⟩
    case measure=>simp[RowKit.intOf];omega
   obtain rfl:k=n:=by omega
   rw[List.take_of_length_le (Nat.le_of_eq Hrl.out),Hfr.out] at hM
   obtain⟨ov,hx,hown,_,_⟩:=hM
   obtain⟨c0,_,_,_⟩:=zba hx
   obtain⟨oa2,oc2,rfl⟩:=zaj hown
   have hbw:=Hbw3.out.trans (hbr.mono Hbw3.out.size)
   obtain⟨q,hq⟩ : ∃ q,q=(zey l).length:=⟨_,rfl⟩
   have hown2:=zee hown Hbw3.out.size
   rw[← hq] at c0
   by_cases h16:16 < q
   ·have kk:decide ((16:Int) < (q:Int))=true:=decide_eq_true (by omega)
    have hno:ze4 l=false:=by unfold ze4;rw[← Hp.out,← hq,decide_eq_false (by omega)];rfl
    obtain⟨Hx,Hown,Hown2,Hbw,Hq,Hno,Hbr⟩:=hd7 hx hown hown2 hbw hq hno hbr;clear hx hown hown2 hbw hq hno hbr
    go_wp2_with fail
    go_ret2
    exact form_no Hno.out Hbw.out
   have kk:decide ((16:Int) < (q:Int))=false:=decide_eq_false (by omega)
   have hyes:ze4 l=true:=by unfold ze4;rw[← Hp.out,← hq,decide_eq_true (by omega)];rfl
   obtain⟨Hx,Hown,Hown2,Hbw,Hq,Hyes,Hbr⟩:=hd7 hx hown hown2 hbw hq hyes hbr;clear hx hown hown2 hbw hq hyes hbr
   go_wp2_with fail
   go_ret2
   exact⟨.slice oa2 q oc2,(by rw[Hyes.out];rfl),(fun _=>by have h9:=Hown2.out;rw[← Hq.out] at h9 ⊢;exact h9),(fun k=>by rw[Hyes.out] at k;cases k),Hbw.out⟩
end

section
open Go.Shelf Go.RowKit Go.Lib Go.Sort SortM VerN
theorem zdn:Elem Tryz.prog 88 9 (.string ⟨#[]⟩) 1 16:=⟨Tryz.underlying88,by kernel_rfl,rfl,by decide⟩
def zc7 (s:BSp):ByteArray:=txS s.1 s.2
theorem zhh {s:BSp} (h:s.1.size≤9000∧s.2.size≤9000):(zc7 s).size≤18001:=by
 unfold zc7 txS
 split
 ·have:=txR_size s.1 s.2;omega
 decide
def joinF (F:List BSp):ByteArray:=⟨(Lib.join ((F.map zc7).map (·.data.toList)) [44]).toArray⟩
theorem zk1 (B:Nat):∀ (L:List (List UInt8)),(∀ x∈L,x.length≤B)→Lib.lens L≤B * L.length
 | [],_=>by simp[Lib.lens]
 | x :: L,h=>by
  have h1:=zk1 B L fun y hy=>h y (by simp[hy])
  have h2:=h x (by simp)
  simp only[Lib.lens,List.map_cons,List.sum_cons,List.length_cons] at *
  rw[Nat.mul_add]
  omega
theorem zpv {F:List BSp} (h:ze5 F) (hl:F.length≤80000):(Lib.join ((F.map zc7).map (·.data.toList)) [44]).length≤140737488355328:=by
 have hb:∀ x∈(F.map zc7).map (·.data.toList),x.length≤18001:=by
  intro x hx
  obtain⟨y,hy,rfl⟩:=List.mem_map.1 hx
  obtain⟨z,hz,rfl⟩:=List.mem_map.1 hy
  rw[Txt.len]
  exact zhh (h z hz)
 have h1:=zk1 18001 _ hb
 have h2:((F.map zc7).map (·.data.toList)).length≤80000:=by simpa using hl
 obtain⟨L,hL⟩ : ∃ L,L=(F.map zc7).map (·.data.toList):=⟨_,rfl⟩
 rw[← hL] at h1 h2 ⊢
 cases L with
 | nil=>simp[Lib.join_nil]
 | cons x r =>
  rw[Lib.join_length]
  simp only[List.length_cons,List.length_nil] at *
  omega
def zc0 (l:List Tp):ByteArray:=if ze4 l=false then ⟨#[]⟩ else if (zey l).length=0 then ⟨#[33]⟩ else joinF (zey l)
theorem zha (l:List Tp):ze5 (zey l):=zfd _ _ (fun z hz=>by simp at hz) (zh9 _)
theorem zmm {F:List BSp} {k:Nat} (h:k < F.length):((F.take (k+1)).map fun s=>Value.string (zc7 s))=((F.take k).map fun s=>Value.string (zc7 s)) ++ [Value.string (zc7 F[k])]:=by
 rw[List.take_succ_eq_append_getElem h,List.map_append];rfl
theorem zh4 {w:World} {v:Value} {l:List Tp} (h:RSps w [v] (tB l)) (hl:l.length≤80000) (hD:zb1 w):Calls Tryz.prog 19 #[v] w fun e w'=>e = .returned (.string (zc0 l))∧Below w.heap.size w w':=by
 have hF:=form_any h hl hD
 unfold zki at hF
 obtain⟨a,cap,rfl⟩:=zcw h
 obtain⟨ok,hok⟩ : ∃ b,b=ze4 l:=⟨_,rfl⟩
 obtain⟨n,hn⟩ : ∃ n,n=(tB l).length:=⟨_,rfl⟩
 obtain⟨F,hFF⟩ : ∃ F,F=zey l:=⟨_,rfl⟩
 rw[← hok,← hFF] at hF
 rw[← hn] at hF h ⊢
 cases ok with
 | false =>
  have ht:zc0 l=⟨#[]⟩:=by unfold zc0;rw[if_pos hok.symm]
  rw[ht]
  obtain⟨Hh,HF,Hok,Hn,HFF,HD,Ht⟩:=hd7 h hF hok hn hFF hD ht;clear h hF hok hn hFF hD ht
  go_enter Tryz.func19,Tryz.ntmps19
  go_wp2_with fail
  refine HF.out.mono ?_
  rintro e w1 ⟨o,rfl,_,ho,hb1⟩
  obtain⟨Ho,Hb1⟩:=hd2 ho hb1;clear ho hb1
  go_wp2_with fail
  go_ret
  exact⟨rfl,Hb1.out⟩
 | true =>
  have hlen:F.length≤80000:=by rw[hFF];have:=zod l;omega
  have hFs:ze5 F:=by rw[hFF];exact zha l
  obtain⟨Hh,HF,Hok,Hn,HFF,HD,HFs⟩:=hd7 h hF hok hn hFF hD hFs;clear h hF hok hn hFF hD hFs
  go_enter Tryz.func19,Tryz.ntmps19
  go_wp2_with fail
  refine HF.out.mono ?_
  rintro e w1 ⟨o,rfl,ho,_,hb1⟩
  have ho:=ho trivial
  obtain⟨oa,oc,rfl⟩:=zaj ho
  have hrd:RSps w1 [.slice oa F.length oc] F:=zfn (fun x hx=>by have:=HFs.out x hx;unfold maxLen;omega) ho
  have hat:=zns hrd
  obtain⟨q,hq⟩ : ∃ q,q=F.length:=⟨_,rfl⟩
  rw[← hq] at hlen ⊢
  by_cases h0:q=0
  ·subst h0
   have ht:zc0 l=⟨#[33]⟩:=by unfold zc0;rw[if_neg (by rw[← Hok.out];simp),← HFF.out,if_pos hq.symm]
   obtain⟨Ho,Hb1,Hrd,Hat,Hq,Ht⟩:=hd6 ho hb1 hrd hat hq ht;clear ho hb1 hrd hat hq ht
   go_wp2_with fail
   go_ret
   exact⟨by rw[Ht.out];rfl,Hb1.out⟩
  have k0:((q:Int) == 0)=false:=by rw[beq_eq_false_iff_ne];omega
  have ht:zc0 l=joinF F:=by unfold zc0;rw[if_neg (by rw[← Hok.out];simp),← HFF.out,if_neg (by rw[← hq];exact h0)]
  have hr0:w1.ownsRow w1.heap.size 9 1 (.slice none 0 0) 0 ((F.take 0).map fun s=>Value.string (zc7 s)):=World.ownsRow_nil _ _ _ _
  obtain⟨Ho,Hb1,Hrd,Hat,Hq,Ht,Hr0⟩:=hd7 ho hb1 hrd hat hq ht hr0;clear ho hb1 hrd hat hq ht hr0
  go_wp2_with fail
  go_loopw [5,22] (fun v i wr=>∃ k:Nat,k≤q∧i = .int .i64 k∧wr.ownsRow w1.heap.size 9 1 v k ((F.take k).map fun s=>Value.string (zc7 s))∧Below w1.heap.size w1 wr) (fun _ i _=>q - (RowKit.intOf i).toNat)
  case atStart=>exact⟨0,Nat.zero_le _,rfl,Hr0.out,Below.refl _ _⟩
  case round =>
   obtain⟨k,hk,rfl,hrow,hbr⟩:=hrel
   obtain⟨ra,rc,rfl⟩:=zaj hrow
   by_cases hlt:k < q
   ·have hkF:k < F.length:=by have:=Hq.out;omega
    obtain⟨y,hy⟩ : ∃ y,y=F[k]:=⟨_,rfl⟩
    obtain⟨b,off,rfl,c0,c1⟩:=Hat.out k y (by rw[hy];exact List.getElem?_eq_getElem hkF)
    have d0:=cell_later hbr c0
    have d1:=cell_later hbr c1
    have hys:=HFs.out y (by rw[hy];exact List.getElem_mem hkF)
    have hnext:=zmm hkF
    rw[← hy] at hnext
    obtain⟨N,hN⟩ : ∃ N,N=(F.take k).map fun s=>Value.string (zc7 s):=⟨_,rfl⟩
    rw[← hN] at hrow hnext
    obtain⟨y1,y2⟩:=y
    have hba:Below wr.heap.size wr (wr.alloc (.cells #[.string y1,.string y2] 34)):=za2 _ _
    have hbw:=Hb1.out.trans ((hbr.trans (hba.mono hbr.size)).mono Hb1.out.size)
    have hT:=ze7 y1 y2 (by have:=hys.1;simp only at this;omega) (by have:=hys.2;simp only at this;omega) (HD.out.below hbw)
    obtain⟨P,hP⟩ : ∃ P,P=txS y1 y2:=⟨_,rfl⟩
    rw[← hP] at hT
    have hPp:zc7 (y1,y2)=P:=hP.symm
    rw[hPp] at hnext
    have k5:(0:Int)≤(k:Int):=by omega
    have k6:(k:Int) < (q:Int):=by omega
    clear c0 c1
    obtain⟨Hrow,Hbr,Hy,Hys,Hnext,HN,Hba,Hbw,HT,HP,HPp⟩:=hd11 hrow hbr hy hys hnext hN hba hbw hT hP hPp;clear hrow hbr hy hys hnext hN hba hbw hT hP hPp
    go_wp2_with fail
    refine HT.out.mono ?_
    rintro e w5 ⟨rfl,hb5⟩
    have hb15:=Hbr.out.trans ((Hba.out.trans (hb5.mono Hba.out.size)).mono Hbr.out.size)
    have hrow5:=za8 (za8 Hrow.out Hba.out) hb5
    have hz5:=hb15.size
    obtain⟨Hb5,Hb15,Hrow5⟩:=hd3 hb5 hb15 hrow5;clear hb5 hb15 hrow5
    go_wp2_with (at_builtin;(refine zan zdn rfl (.tmp 26) (.tmp 29) rfl w1.heap.size (.slice ra k rc) k N rfl Hrow5.out 1 #[.string P] rfl rfl (by simp[Value.oneCell']) (by omega) (by unfold maxLen;omega) (by omega) ?_;intro v9 w9 hown9 hg9 hm9;obtain⟨a9,c9,rfl⟩:=zaj hown9;have hb9:=(zdg Hb15.out Hrow5.out (Nat.le_refl _) hg9 (by omega):Below w1.heap.size w1 w9);obtain⟨Hown9,Hb9⟩:=hd2 hown9 hb9;clear hown9 hg9 hm9 hb9))
    go_roundw
    case rel=>exact⟨k+1,by omega,by go_num,by rw[Hnext.out];exact Hown9.out,Hb9.out⟩
    case measure=>(simp[RowKit.intOf]) <;> omega
   obtain rfl:k=q:=by omega
   rw[List.take_of_length_le (Nat.le_of_eq Hq.out.symm)] at hrow
   obtain⟨gr,rc2,hra⟩ : ∃ g c,Value.slice ra k rc = .slice (some ⟨g,0,none⟩) k c:=by
    rcases hrow.2 with⟨h1,h2⟩ | ⟨g,cap,_,h1,_⟩
    ·omega
    exact⟨_,cap,h1⟩
   injection hra with hra _ hrc
   subst hra hrc
   have hJ:=Tryz.strings_Join gr 0 rc (F.map zc7) ⟨#[44]⟩ wr (fun j x hj=>by
    have hjl:=(List.getElem?_eq_some_iff.1 hj).1
    have:=hrow.cells (g:=gr) rfl j (.string x) (by
     rw[List.getElem?_map] at hj ⊢
     obtain⟨z,hz,rfl⟩:=Option.map_eq_some_iff.1 hj
     rw[hz];rfl)
    rw[Addr.add_lit] at this
    exact this) (hrow.lt gr rfl).2 (by rw[List.length_map];have:=Hq.out;omega) (by
     rw[List.length_map,← Hq.out]
     rcases hrow.2 with⟨e0,_⟩ | ⟨g',cap',cur,e0,_,_,hn9,_⟩
     ·cases e0
     injection e0 with _ _ e3
     omega) (zpv HFs.out (by have:=Hq.out;omega))
   rw[List.length_map,← Hq.out] at hJ
   have hbw:=Hb1.out.trans (hbr.mono Hb1.out.size)
   obtain⟨T,hT⟩ : ∃ T,T=joinF F:=⟨_,rfl⟩
   have hJ2:Calls Tryz.prog 58 #[.slice (some ⟨gr,0,none⟩) k rc,.string ⟨#[44]⟩] wr fun e w'=>e = .returned (.string T)∧Below wr.heap.size wr w':=by rw[hT];exact hJ
   clear hJ
   obtain⟨Hrow,Hbr,Hbw,HT,HJ2⟩:=hd5 hrow hbr hbw hT hJ2;clear hrow hbr hbw hT hJ2
   go_wp2_with fail
   refine HJ2.out.mono ?_
   rintro e w6 ⟨rfl,hb6⟩
   have Hb6:=hd hb6;clear hb6
   go_wp2_with fail
   go_ret
   exact⟨by rw[Ht.out,← HT.out];rfl,Hbw.out.trans (Hb6.out.mono Hbw.out.size)⟩
end

section
open Go.RowKit Go.Lib VerN
set_option linter.unusedSimpArgs false
end

section
open Go.Shelf Go.RowKit Go.Lib Go.Sort SortM VerN
instance:Inhabited Tp:=⟨⟨(⟨#[]⟩,⟨#[]⟩),by decide⟩⟩
end

section
open Go.RowKit Go.Lib VerN
end

section
open SortM
end

section
open Go.Shelf Go.RowKit Go.Lib Go.Sort SortM VerN
structure Left (l L:List Tp):Prop where
 may:mayT L
 cov:∀ p,covT L p↔covT l p
 len:L.length≤l.length
theorem Left.step {l L M:List Tp} (h:Left l L) (hs:MStep L M):Left l M∧M.length < L.length:=by
 obtain⟨h1,h2,h3⟩:=zoz h.may hs
 exact⟨⟨h1,fun p=>(h2 p).trans (h.cov p),by have:=h.len;omega⟩,by omega⟩
end

section
open Go.RowKit Go.Shelf Go.Lib VerN
attribute [local go_sem] Oper.semAt_some
def zhf (pre:List ByteArray):List Value:=pre.flatMap fun p=>zak (spV p)
theorem zp7 (pre:List ByteArray) (x:ByteArray):zhf (pre ++ [x])=zhf pre ++ zak (spV x):=by simp[zhf]
theorem zl2 (pre:List ByteArray):zhf pre=(pre.map spV).flatMap zak:=by rw[List.flatMap_map];rfl
structure SI (w W:World) (pre:List ByteArray):Prop where
 bel:Below w.heap.size w W
 r2:W.heap[w.heap.size]? = some (.cells #[.slice none 0 0] 23 (0,0))
 r3:W.heap[w.heap.size+1]? = some (.cells #[.bool false] 4 (0,0))
 out:∃ v,W.heap[w.heap.size+1+1]? = some (.cells #[v] 23 (0,0))∧W.ownsRow (w.heap.size+6) 34 2 v pre.length (zhf pre)
 ok:∀ p∈pre,spOk p.data.toList=true
structure SX (w W:World) (pre:List ByteArray):Prop where
 bel:Below w.heap.size w W
 r2:W.heap[w.heap.size]? = some (.cells #[.slice none 0 0] 23 (0,0))
 r3:W.heap[w.heap.size+1]? = some (.cells #[.bool false] 4 (0,0))
 bad:∃ p∈pre,spOk p.data.toList=false
theorem SI.own {w:World} {B:Nat} (hB:w.heap.size+6≤B):OwnFrom B (fun (pre:List ByteArray) W=>SI w W pre):=by
 rintro pre W W' row h hg hr
 have hr':∀ r,row=some r→B≤r:=fun r e=>(hr r e).1
 obtain⟨v,hv,hrow⟩:=h.out
 refine⟨h.bel.grown hg h.bel.size (fun k e=>by have:=hr' k e;omega),zbw hg hr' (by omega) h.r2,zbw hg hr' (by omega) h.r3,⟨v,zbw hg hr' (by omega) hv,hrow.kept hg ?_⟩,h.ok⟩
 rcases hrow.2 with⟨rfl,_⟩ | ⟨g,cap,cur,rfl,_,hgb,_⟩
 ·exact .inl rfl
 refine .inr fun e'=>?_
 obtain⟨_,o,ho,hc⟩:=hr g (by simpa [Value.ownBlock] using e'.symm)
 rw[hgb] at ho
 cases ho
 cases hc
theorem SX.own {w:World} {B:Nat} (hB:w.heap.size+6≤B):OwnFrom B (fun (pre:List ByteArray) W=>SX w W pre):=by
 rintro pre W W' row h hg hr
 have hr':∀ r,row=some r→B≤r:=fun r e=>(hr r e).1
 exact⟨h.bel.grown hg h.bel.size (fun k e=>by have:=hr' k e;omega),zbw hg hr' (by omega) h.r2,zbw hg hr' (by omega) h.r3,h.bad⟩
theorem SI.lets (w:World):Lets (w.heap.size+1+1+1) (fun (pre:List ByteArray) W=>SI w W pre):=by
 rintro pre W i u h
 obtain⟨v,hv,hrow⟩:=h.out
 exact⟨h.bel.setCell (p:=⟨w.heap.size+1+1+1,i,none⟩) (by show w.heap.size≤w.heap.size+1+1+1;omega) _,za6 h.r2 (by omega),za6 h.r3 (by omega),⟨v,za6 hv (by omega),zcz hrow (by omega) i u⟩,h.ok⟩
theorem SX.lets (w:World):Lets (w.heap.size+1+1+1) (fun (pre:List ByteArray) W=>SX w W pre):=by
 rintro pre W i u h
 exact⟨h.bel.setCell (p:=⟨w.heap.size+1+1+1,i,none⟩) (by show w.heap.size≤w.heap.size+1+1+1;omega) _,za6 h.r2 (by omega),za6 h.r3 (by omega),h.bad⟩
theorem SI.size {w W:World} {pre:List ByteArray} (h:SI w W pre) (hs:w.heap.size+6≤W.heap.size):∀ k,sb w k→k < W.heap.size:=by
 rintro k (rfl | rfl | rfl) <;> omega
theorem SI.add {w W W3 w1:World} {pre:List ByteArray} {x:ByteArray} {tmp:Obj} {B:Nat} (h:SI w W pre) (hs:w.heap.size+6≤W.heap.size) (hb:Below W.heap.size W W3) {v v':Value}
  (hv:W.heap[w.heap.size+1+1]? = some (.cells #[v] 23 (0,0))) (hrow:W.ownsRow (w.heap.size+6) 34 2 v pre.length (zhf pre))
  (hown:w1.ownsRow (w.heap.size+6) 34 2 v' (pre.length+1) (zhf pre ++ zak (spV x))) (hg:(W3.alloc tmp).grownBy w1 v.ownBlock) (hx:spOk x.data.toList=true) :
  KeepsFrom B W (w1.setCell ⟨w.heap.size+1+1,0,none⟩ v')∧zdo (sb w) W (w1.setCell ⟨w.heap.size+1+1,0,none⟩ v')∧SI w (w1.setCell ⟨w.heap.size+1+1,0,none⟩ v') (pre ++ [x])∧w1.heap[w.heap.size+1+1]? = some (.cells #[v] 23 (0,0))∧w.heap.size+6≤(w1.setCell ⟨w.heap.size+1+1,0,none⟩ v').heap.size:=by
 have hb3:Below W.heap.size W (W3.alloc tmp):=hb.alloc hb.size _
 have hrow3:(W3.alloc tmp).ownsRow (w.heap.size+6) 34 2 v pre.length (zhf pre):=za8 hrow hb3
 have old:∀ {k:Nat} {o:Obj},k < w.heap.size+6→W.heap[k]? = some o→w1.heap[k]? = some o:=fun {k o} hk ho =>
  (hg.block k (by have:=hb3.size;have:=(Array.getElem?_eq_some_iff.1 ho).1;omega) (fun e=>by have:=(hrow3.lt k e.symm).1;omega)).trans (za0 hb3 ho)
 refine⟨?_,?_,⟨?_,za6 (old (by omega) h.r2) (by omega),za6 (old (by omega) h.r3) (by omega),⟨v',heap_setCell_same _ _ 0 _ _ _ (old (by omega) hv),?_⟩,?_⟩,old (by omega) hv,by have:=hg.size;have:=hb3.size;simp[World.setCell];omega⟩
 ·have k1:KeepsFrom B W (W3.alloc tmp):=zcb hb3
  have k2:KeepsFrom B (W3.alloc tmp) w1:=⟨hg.size,fun k o _ hk hc=>(hg.block k (Array.getElem?_eq_some_iff.1 hk).1 (fun e=>by
   obtain⟨cs,hcs⟩:=zdu hrow3 k e.symm
   rw[hcs] at hk
   cases hk
   cases hc)).trans hk⟩
  exact (k1.trans k2).trans ((KeepsOthers.setCell _ _ _).from B)
 ·intro k hk
  have hlt:=h.size hs k hk
  have hlt6:k < w.heap.size+6:=by rcases hk with rfl | rfl | rfl <;> omega
  have hne:k≠w.heap.size+1+1:=by rcases hk with h | h | h <;> omega
  rw[Below.heap_setCell _ _ _ _ hne]
  cases ho:W.heap[k]? with
  | none=>exact absurd ho (by rw[Array.getElem?_eq_getElem hlt];simp)
  | some o=>exact old hlt6 ho
 ·exact ((h.bel.trans (hb3.mono h.bel.size)).grown hg (by have:=hb3.size;have:=h.bel.size;omega) (fun k e=>by have:=(hrow3.lt k e).1;omega)).setCell (p:=⟨w.heap.size+1+1,0,none⟩) (by show w.heap.size≤w.heap.size+1+1;omega) _
 ·rw[zp7,List.length_append]
  exact zcz hown (by omega) 0 v'
 intro p hp
 rcases List.mem_append.1 hp with hp | hp
 ·exact h.ok p hp
 rw[List.mem_singleton] at hp;subst hp;exact hx
theorem SI.no {w W W3:World} {pre:List ByteArray} {x:ByteArray} {B:Nat} (h:SI w W pre) (hs:w.heap.size+6≤W.heap.size) (hb:Below W.heap.size W W3) (hx:spOk x.data.toList=false) :
  KeepsFrom B W ((W3.setCell ⟨w.heap.size,0,none⟩ (.slice none 0 0)).setCell ⟨w.heap.size+1,0,none⟩ (.bool false))∧SX w ((W3.setCell ⟨w.heap.size,0,none⟩ (.slice none 0 0)).setCell ⟨w.heap.size+1,0,none⟩ (.bool false)) (pre ++ [x]):=by
 refine⟨((zcb hb).trans ((KeepsOthers.setCell _ _ _).from B)).trans ((KeepsOthers.setCell _ _ _).from B),?_,?_,?_,?_⟩
 ·exact (((h.bel.trans (hb.mono h.bel.size)).setCell (p:=⟨w.heap.size,0,none⟩) (Nat.le_refl _) _).setCell (p:=⟨w.heap.size+1,0,none⟩) (by show w.heap.size≤w.heap.size+1;omega) _)
 ·exact za6 (heap_setCell_same _ _ 0 _ _ _ (za0 hb h.r2)) (by omega)
 ·exact heap_setCell_same _ _ 0 _ _ _ (za6 (za0 hb h.r3) (by omega))
 exact⟨x,by simp,hx⟩
def rdSp (t:ByteArray):List BSp:=(cutS 44 t).map spV
theorem spV_size (s:ByteArray):(spV s).1.size≤s.size∧(spV s).2.size≤s.size:=by
 have h:=zhy s
 have e:∀ l:List UInt8,(⟨l.toArray⟩ : ByteArray).size=l.length:=fun l=>rfl
 unfold spV spB
 split
 ·split
  ·exact⟨by rw[e];exact h.1,by rw[e];exact h.2⟩
  exact⟨by rw[e];exact h.1,by rw[e];exact h.1⟩
 exact⟨Nat.zero_le _,Nat.zero_le _⟩
theorem spV_small {p:ByteArray} (h:spOk p.data.toList=true):(spV p).1.size≤40∧(spV p).2.size≤40:=by
 have hm:mayS (spO p.data.toList)=true:=by
  have h2:=h
  unfold spOk at h2
  simp only[Bool.and_eq_true] at h2
  exact h2.1
 have h1:=zbp.1 hm
 have b40:∀ x:ByteArray,zbo x.data.toList=true→x.size≤40:=fun x hx=>by
  rw[← Txt.len]
  rcases bound_iff.1 hx with h | h
  ·rw[h];simp
  exact ((zdw _).1 h).2.1
 rw[← zjk p] at h1
 unfold spV
 rw[if_pos h]
 exact⟨b40 _ h1.1,b40 _ h1.2.1⟩
theorem rd_ok (t:ByteArray) (hok:∀ p∈cutS 44 t,spOk p.data.toList=true):∃ l:List Tp,tB l=rdSp t:=by
 have hs:∀ s∈cutS 44 t,(spV s).1.size≤9000∧(spV s).2.size≤9000:=fun s h=>by
  have h1:=spV_small (hok s h)
  omega
 refine⟨(cutS 44 t).pmap (fun s h=>(⟨spV s,h⟩ : Tp)) hs,?_⟩
 unfold rdSp tB
 rw[List.map_pmap]
 simp
theorem lit2 (w:World) (x y:Value) (t:TypeId) {n:Nat} (hn:w.heap.size=n):∀ j u,[x,y][j]? = some u→(w.alloc (.cells #[x,y] t)).cell? ((⟨n,0,none⟩ : Addr).add j)=some u:=by
 intro j u hu
 subst hn
 rw[Addr.add_lit,Nat.zero_add,World.cell?_alloc_new]
 simpa using hu
def RdPost (t:ByteArray) (w:World) (e:Ending) (w':World):Prop :=
 ((∃ v,e = .returned (.tuple #[v,.bool true])∧((t=⟨#[33]⟩∧v = .slice none 0 0)∨(t≠⟨#[33]⟩∧(∀ p∈cutS 44 t,spOk p.data.toList=true)∧(∀ l,tB l=rdSp t→zc0 l=t)∧w'.ownsRow w.heap.size 34 2 v (rdSp t).length ((rdSp t).flatMap zak)))) ∨
  (e = .returned (.tuple #[.slice none 0 0,.bool false])∧t≠⟨#[33]⟩∧((∃ p∈cutS 44 t,spOk p.data.toList=false)∨∀ l,tB l=rdSp t→zc0 l≠t)))∧Below w.heap.size w w'
theorem info_span:(Tryz.prog.info? 34).map (fun i=>(i.zero,i.size,i.bytes))=some (some (.agg #[.string ⟨#[]⟩,.string ⟨#[]⟩]),2,32):=by kernel_rfl
theorem zma (s:ByteArray) (hs:s.size≤70000) {w:World} (hD:zb1 w):Calls Tryz.prog 16 #[.string s] w (RdPost s w):=by
 refine (callsIn_wide (n:=8)).1 ?_
 refine callsIn_of_wp_marks Tryz.func16 rfl trivial ?_ rfl
 simp only[Tryz.ntmps16,List.size_toArray,List.length_cons,List.length_nil,Nat.reduceAdd,Nat.reduceSub,Array.replicate_succ,Array.replicate_zero,List.push_toArray,List.append_toArray,List.nil_append,List.cons_append]
 have e33:(⟨#[33]⟩ : ByteArray).toList = [33]:=by rw[Lib.toList_data]
 by_cases h0:s=⟨#[33]⟩
 ·have k1:(s.toList == [33])=true:=by rw[← e33,Txt.eq_dec,decide_eq_true h0]
  clear e33
  obtain⟨HD,H0⟩:=hd2 hD h0;clear hD h0
  gi_wp2
  refine⟨_,zb4 rfl rfl rfl (za0 (za2 _ _) (za0 (za2 _ _) (za5 rfl))) (za0 (za2 _ _) (za5 (by simp))) (Tryz.isAgg23 _) (Tryz.isAgg4 _),?_⟩
  exact⟨.inl ⟨_,rfl,.inl ⟨H0.out,rfl⟩⟩,(((Below.refl _ w).alloc (Nat.le_refl _) _).alloc (by simp) _).alloc (by simp;omega) _⟩
 have k1:(s.toList == [33])=false:=by rw[← e33,Txt.eq_dec,decide_eq_false h0]
 clear e33
 have hq:=zgc s 44 (((w.alloc (.cells #[.slice none 0 0] 23)).alloc (.cells #[.bool false] 4)).alloc (.cells #[.slice none 0 0] 23))
 obtain⟨Hq,HD,H0⟩:=hd3 hq hD h0;clear hq hD h0
 gi_wp2
 refine⟨trivial,(callsIn_wide.2 Hq.out).mono ?_⟩
 rintro e w2 ⟨rfl,rfl⟩
 gi_wp2
 have hsb:SBox (w.heap.size+1+1+1) (w.heap.size+1+1+1+1) (w.heap.size+1+1+1+1+1) 44 s ((((((w.alloc (.cells #[.slice none 0 0] 23)).alloc (.cells #[.bool false] 4)).alloc (.cells #[.slice none 0 0] 23)).alloc (.cells #[.string s] 9)).alloc (.cells #[.string ⟨#[44]⟩] 9)).alloc (.cells #[.int .i64 0] 3)):=by
  have a1:=za5 (w:=(((w.alloc (.cells #[.slice none 0 0] 23)).alloc (.cells #[.bool false] 4)).alloc (.cells #[.slice none 0 0] 23))) (o:=.cells #[.string s] 9) (n:=w.heap.size+1+1+1) (by simp)
  have a2:=za5 (w:=((((w.alloc (.cells #[.slice none 0 0] 23)).alloc (.cells #[.bool false] 4)).alloc (.cells #[.slice none 0 0] 23)).alloc (.cells #[.string s] 9))) (o:=.cells #[.string ⟨#[44]⟩] 9) (n:=w.heap.size+1+1+1+1) (by simp)
  have a3:=za5 (w:=(((((w.alloc (.cells #[.slice none 0 0] 23)).alloc (.cells #[.bool false] 4)).alloc (.cells #[.slice none 0 0] 23)).alloc (.cells #[.string s] 9)).alloc (.cells #[.string ⟨#[44]⟩] 9))) (o:=.cells #[.int .i64 0] 3) (n:=w.heap.size+1+1+1+1+1) (by simp)
  exact⟨za0 (za2 _ _) (za0 (za2 _ _) a1),za0 (za2 _ _) a2,a3⟩
 obtain⟨W0,hW0⟩ : ∃ W0,W0=((((((w.alloc (.cells #[.slice none 0 0] 23)).alloc (.cells #[.bool false] 4)).alloc (.cells #[.slice none 0 0] 23)).alloc (.cells #[.string s] 9)).alloc (.cells #[.string ⟨#[44]⟩] 9)).alloc (.cells #[.int .i64 0] 3)):=⟨_,rfl⟩
 have hs0:W0.heap.size=w.heap.size+6:=by rw[hW0];simp
 rw[← hW0] at hsb ⊢
 have hSI:SI w W0 []:=by
  rw[hW0]
  have k1:∀ {w':World} {o:Obj} {k:Nat} {o':Obj},w'.heap[k]? = some o→(w'.alloc o').heap[k]? = some o:=fun h=>za0 (za2 _ _) h
  refine⟨(((((((Below.refl _ w).alloc (Nat.le_refl _) _).alloc (by simp) _).alloc (by simp;omega) _).alloc (by simp;omega) _).alloc (by simp;omega) _).alloc (by simp;omega) _),k1 (k1 (k1 (k1 (k1 (za5 rfl))))),k1 (k1 (k1 (k1 (za5 (by simp))))),⟨_,k1 (k1 (k1 (za5 (by simp)))),World.ownsRow_nil _ _ _ _⟩,(fun p hp=>by cases hp)⟩
 have HW0:=hd hW0;clear hW0
 refine zf0 rfl (by omega) (gf:=zlh) rfl trivial (enters_of Tryz.func167 (by kernel_rfl) rfl) (zh5 7 (by omega) _ _ _ 44 s (by omega) W0 (by omega) (by omega) (by omega) (by omega) (by omega) hsb)
  (fun k hk=>by rcases hk with h | h | h <;> omega) (by omega) (Below.refl _ _) rfl
  (fun pre W=>w.heap.size+6≤W.heap.size∧SI w W pre) (fun pre W=>w.heap.size+6≤W.heap.size∧SX w W pre) (OwnFrom.and (zdb _) (SI.own (by omega))) (OwnFrom.and (zdb _) (SX.own (by omega))) (fun pre W i u h=>⟨by simp[World.setCell];exact h.1,SI.lets w pre W i u h.2⟩) (fun pre W i u h=>⟨by simp[World.setCell];exact h.1,SX.lets w pre W i u h.2⟩) ⟨by omega,hSI⟩
  (fun x=>{ tmps:=#[.string s,undef,.pointer (some ⟨w.heap.size,0,none⟩),.pointer (some ⟨w.heap.size+1,0,none⟩),.pointer (some ⟨w.heap.size+1+1,0,none⟩),.string x,undef,undef,.string s,.bool false,.string s,
   .func (.func zlh) #[] #[.pointer (some ⟨w.heap.size+1+1+1+1,0,none⟩),.pointer (some ⟨w.heap.size+1+1+1,0,none⟩),.pointer (some ⟨w.heap.size+1+1+1+1+1,0,none⟩)],.string x,undef,undef,undef,undef,undef,undef,undef,undef,undef,undef,undef,undef,undef,undef,undef,undef],defers:=[] }) ?assign ?body ?done ?stop
 case assign =>
  intro l x W K hK
  gi_wp2
  exact hK
 case body =>
  rintro l pre x W ⟨hsz,h⟩ ⟨hx,hpx⟩
  obtain⟨v,hv,hrow⟩:=h.out
  obtain⟨a,cap,rfl⟩:=zaj hrow
  have hR:=zkt x (by omega) (HD.out.below h.bel)
  obtain⟨b,hb⟩ : ∃ b,b=spOk x.data.toList:=⟨_,rfl⟩
  obtain⟨y1,hy1⟩ : ∃ y,y=(spV x).1:=⟨_,rfl⟩
  obtain⟨y2,hy2⟩ : ∃ y,y=(spV x).2:=⟨_,rfl⟩
  have c0:W.cell? ⟨w.heap.size+1+1,0,none⟩=some (.slice a pre.length cap):=za1 hv 0
  rw[← hb,← hy1,← hy2] at hR
  have hpl:pre.length≤70000:=by
   have h1:=hpx.length_le
   have h2:(cutS 44 s).length≤s.size+1:=by rw[zfv,← dlen s];exact (zk9 44 _).2
   rw[List.length_append,List.length_singleton] at h1
   omega
  obtain⟨Hv,Hrow,HR,Hh,Hc0,Hx,Hpx,Hy1,Hy2⟩:=hd9 hv hrow hR h c0 hx hpx hy1 hy2;clear hv hrow hR h c0 hx hpx hy1 hy2
  gi_wp2
  refine⟨trivial,(CallsIn.inRound l (callsIn_wide.2 HR.out)).mono ?_⟩
  rintro e W2 ⟨rfl,hb2⟩
  have hb3:Below W.heap.size W (W2.alloc (.cells #[.string y1,.string y2] 34)):=hb2.alloc hb2.size _
  have r2:=za0 hb3 Hh.out.r2
  have r3:=za0 hb3 Hh.out.r3
  have d0:(W2.alloc (.cells #[.string y1,.string y2] 34)).cell? ⟨w.heap.size+1+1,0,none⟩=some (.slice a pre.length cap):=cell_later hb3 Hc0.out
  have d1:(W2.alloc (.cells #[.string y1,.string y2] 34)).cell? ⟨w.heap.size,0,none⟩=some (.slice none 0 0):=za1 r2 0
  have d2:(W2.alloc (.cells #[.string y1,.string y2] 34)).cell? ⟨w.heap.size+1,0,none⟩=some (.bool false):=za1 r3 0
  have f1:=za7 r2 0
  have f2:=za7 r3 0
  obtain⟨Hb2,Hb3,Hr2,Hr3,Hb⟩:=hd5 hb2 hb3 r2 r3 hb;clear hb2 hb3 r2 r3 hb
  clear Hq
  cases b with
  | false =>
   have hno:=Hh.out.no (B:=W0.heap.size) hsz Hb3.out Hb.out.symm
   have hs3:w.heap.size+6≤(((W2.alloc (.cells #[.string y1,.string y2] 34)).setCell ⟨w.heap.size,0,none⟩ (.slice none 0 0)).setCell ⟨w.heap.size+1,0,none⟩ (.bool false)).heap.size:=by have:=Hb3.out.size;simp[World.setCell] at this ⊢;omega
   have Hno:=hd hno;clear hno
   gi_wp2
   exact⟨Hno.out.1,hs3,Hno.out.2⟩
  | true =>
   have hrow3:=za8 Hrow.out Hb3.out
   obtain⟨i0,hi,hz0,hz1,hz2⟩:=info_parts info_span
   have hadd:=fun (w1:World) (v':Value)=>Hh.out.add (B:=W0.heap.size) hsz Hb3.out Hv.out Hrow.out (w1:=w1) (v':=v') (x:=x) (tmp:=.cells #[.string y1,.string y2] 34)
   have hsp:zak (spV x) = [.string y1,.string y2]:=by rw[Hy1.out,Hy2.out];rfl
   rw[hsp] at hadd
   have hz9:w.heap.size+6≤(W2.alloc (.cells #[.string y1,.string y2] 34)).heap.size:=by have:=Hb3.out.size;omega
   have g1:pre.length+1≤maxLen:=by unfold maxLen;omega
   have g2:(pre.length+1) * 32≤140737488355328:=by omega
   have g3:w.heap.size+6≤((W2.alloc (.cells #[.string y1,.string y2] 34)).alloc (.cells #[.string y1,.string y2] 34)).heap.size:=by simp at hz9 ⊢;omega
   have g4:=lit2 (W2.alloc (.cells #[.string y1,.string y2] 34)) (.string y1) (.string y2) 34 (n:=W2.heap.size+1) (by simp)
   have g5:∀ u∈[Value.string y1,.string y2],u.oneCell'=true:=by simp[Value.oneCell']
   obtain⟨Hrow3,Hsp,Hadd,Hz9,Hg1,Hg2,Hg3,Hg4,Hg5⟩:=hd9 hrow3 hsp hadd hz9 g1 g2 g3 g4 g5;clear hrow3 hsp hadd hz9 g1 g2 g3 g4 g5
   gi_wp2_with (gi_at_builtin;refine wpListIn_append_own _ rfl _ _ 23 rfl (w.heap.size+6) 34 i0 (.agg #[.string ⟨#[]⟩,.string ⟨#[]⟩]) 2 32 Tryz.underlying23 hi hz0 hz1 hz2 rfl (by decide) _ _ _ rfl (Hrow3.out.alloc _) ⟨W2.heap.size+1,0,none⟩ 1 1 [.string y1,.string y2] rfl rfl Hg4.out Hg5.out Hg1.out Hg2.out Hg3.out ?_;intro v' w1 hown' hgrow _;obtain⟨g',cap',rfl⟩:=ownsRow_succ hown';have hfin:=Hadd.out w1 _ hown' hgrow Hb.out.symm;clear hown' hgrow;refine Hid.out ?_)
   have e1:=za1 hfin.2.2.2.1 0
   have e2:=za7 hfin.2.2.2.1 0
   simp only[List.getElem?_toArray,List.getElem?_cons_zero] at e1
   have Hfin:=hd hfin;clear hfin
   refine Lib.hid ?_
   gi_wp2
   exact⟨Hfin.out.1,Hfin.out.2.1,Hfin.out.2.2.2.2,Hfin.out.2.2.1⟩
 case done =>
  rintro D ys W hD rfl ⟨hsz,h⟩ hK
  obtain⟨v,hv,hrow⟩:=h.out
  obtain⟨a,cap,rfl⟩:=zaj hrow
  have c0:W.cell? ⟨w.heap.size+1+1,0,none⟩=some (.slice a (cutS 44 s).length cap):=za1 hv 0
  obtain⟨l,hl⟩:=rd_ok s h.ok
  have hll:l.length=(cutS 44 s).length:=by have:=congrArg List.length hl;simpa [rdSp] using this
  have hn1:(cutS 44 s).length≤s.size+1:=by rw[zfv,← dlen s];exact (zk9 44 _).2
  have hrl:(rdSp s).length=(cutS 44 s).length:=by simp[rdSp]
  have hrd:RSps W [.slice a (cutS 44 s).length cap] (tB l):=by
   rw[hl]
   refine zfn (B:=w.heap.size+6) (fun x hx=>?_) ?_
   ·obtain⟨p,hp,rfl⟩:=List.mem_map.1 hx
    have h1:=zq7 hp
    have h2:=spV_size p
    unfold maxLen;omega
   rw[hrl]
   have h3:=hrow
   rw[zl2] at h3
   exact h3
  have hT:=zh4 hrd (by omega) (HD.out.below h.bel)
  have hall:=h.ok
  have hinj:∀ l',tB l'=rdSp s→l'=l:=fun l' h'=>(List.map_inj_right fun _ _ e=>Subtype.ext e).1 (h'.trans hl.symm)
  obtain⟨T,hTT⟩ : ∃ T,T=zc0 l:=⟨_,rfl⟩
  rw[← hTT] at hT
  have k2:(T.toList == s.toList)=decide (T=s):=Txt.eq_dec _ _
  by_cases htx:T=s
  ·have k3:(T.toList == s.toList)=true:=by rw[k2,decide_eq_true htx]
   clear k2
   obtain⟨Hv,Hrow,Hh,HT,Hall,Hinj,HTT,Htx,Hrd,Hl,Hll,Hrl⟩:=hd12 hv hrow h hT hall hinj hTT htx hrd hl hll hrl;clear hv hrow h hT hall hinj hTT htx hrd hl hll hrl
   gi_wp2
   refine⟨trivial,(callsIn_wide.2 HT.out).mono ?_⟩
   rintro e W5 ⟨rfl,hb5⟩
   have r2:=za0 hb5 Hh.out.r2
   have r3:=za0 hb5 Hh.out.r3
   have hK5:=za0 hb5 hK
   have c5:=cell_later hb5 c0
   have hrow5:=za8 Hrow.out hb5
   have c1:=za1 r2 0
   have c2:=za1 r3 0
   have f1:=za7 r2 0
   have f2:=za7 r3 0
   simp only[List.getElem?_toArray,List.getElem?_cons_zero] at c1 c2
   obtain⟨Hb5,Hr2,Hr3,Hrow5⟩:=hd4 hb5 r2 r3 hrow5;clear hb5 r2 r3 hrow5
   gi_wp2
   have hK2:((W5.setCell ⟨w.heap.size,0,none⟩ (.slice a (cutS 44 s).length cap)).setCell ⟨w.heap.size+1,0,none⟩ (.bool true)).heap[D]? = some (.deferred (some [])):=za6 (za6 hK5 (by omega)) (by omega)
   have x1:=za6 (b:=w.heap.size+1) (i:=0) (u:=.bool true) (heap_setCell_same W5 w.heap.size 0 _ _ (.slice a (cutS 44 s).length cap) Hr2.out) (by omega)
   have x2:=heap_setCell_same _ (w.heap.size+1) 0 _ _ (.bool true) (za6 (b:=w.heap.size) (i:=0) (u:=.slice a (cutS 44 s).length cap) Hr3.out (by omega))
   have hb9:Below w.heap.size w ((W5.setCell ⟨w.heap.size,0,none⟩ (.slice a (cutS 44 s).length cap)).setCell ⟨w.heap.size+1,0,none⟩ (.bool true)):=((Hh.out.bel.trans (Hb5.out.mono Hh.out.bel.size)).setCell (p:=⟨w.heap.size,0,none⟩) (Nat.le_refl _) _).setCell (p:=⟨w.heap.size+1,0,none⟩) (by show w.heap.size≤w.heap.size+1;omega) _
   have ho:((W5.setCell ⟨w.heap.size,0,none⟩ (.slice a (cutS 44 s).length cap)).setCell ⟨w.heap.size+1,0,none⟩ (.bool true)).ownsRow (w.heap.size+6) 34 2 (.slice a (cutS 44 s).length cap) (cutS 44 s).length (zhf (cutS 44 s)):=zcz (zcz Hrow5.out (p:=w.heap.size) (by omega) 0 (.slice a (cutS 44 s).length cap)) (p:=w.heap.size+1) (by omega) 0 (.bool true)
   refine⟨by simp,.inl ⟨_,_,rfl,run_takeDeferred hK2,?_⟩⟩
   refine⟨_,zb4 rfl rfl rfl ((World.putObj_heap_other (by omega)).trans x1) ((World.putObj_heap_other (by omega)).trans x2) (Tryz.isAgg23 _) (Tryz.isAgg4 _),?_⟩
   refine⟨.inl ⟨_,rfl,.inr ⟨H0.out,Hall.out,fun l' h'=>by rw[Hinj.out l' h',← HTT.out,Htx.out],?_⟩⟩,hb9.trans (belowK_b (w:=w) (Nat.le_refl _) _ D _ _ (by omega) hK2 rfl rfl)⟩
   have e9:(rdSp s).flatMap zak=zhf (cutS 44 s):=(zl2 _).symm
   rw[e9,Hrl.out]
   exact zee (ownsRow_putObj ho _ hK2 rfl) (by omega)
  have k3:(T.toList == s.toList)=false:=by rw[k2,decide_eq_false htx]
  clear k2
  obtain⟨Hv,Hrow,Hh,HT,Hall,Hinj,HTT,Htx,Hrd,Hl,Hll,Hrl⟩:=hd12 hv hrow h hT hall hinj hTT htx hrd hl hll hrl;clear hv hrow h hT hall hinj hTT htx hrd hl hll hrl
  gi_wp2
  refine⟨trivial,(callsIn_wide.2 HT.out).mono ?_⟩
  rintro e W5 ⟨rfl,hb5⟩
  have r2:=za0 hb5 Hh.out.r2
  have r3:=za0 hb5 Hh.out.r3
  have hK5:=za0 hb5 hK
  have c5:=cell_later hb5 c0
  have hrow5:=za8 Hrow.out hb5
  have c1:=za1 r2 0
  have c2:=za1 r3 0
  have f1:=za7 r2 0
  have f2:=za7 r3 0
  simp only[List.getElem?_toArray,List.getElem?_cons_zero] at c1 c2
  obtain⟨Hb5,Hr2,Hr3,Hrow5⟩:=hd4 hb5 r2 r3 hrow5;clear hb5 r2 r3 hrow5
  gi_wp2
  have hK2:((W5.setCell ⟨w.heap.size,0,none⟩ (.slice none 0 0)).setCell ⟨w.heap.size+1,0,none⟩ (.bool false)).heap[D]? = some (.deferred (some [])):=za6 (za6 hK5 (by omega)) (by omega)
  have x1:=za6 (b:=w.heap.size+1) (i:=0) (u:=.bool false) (heap_setCell_same W5 w.heap.size 0 _ _ (.slice none 0 0) Hr2.out) (by omega)
  have x2:=heap_setCell_same _ (w.heap.size+1) 0 _ _ (.bool false) (za6 (b:=w.heap.size) (i:=0) (u:=.slice none 0 0) Hr3.out (by omega))
  have hb9:Below w.heap.size w ((W5.setCell ⟨w.heap.size,0,none⟩ (.slice none 0 0)).setCell ⟨w.heap.size+1,0,none⟩ (.bool false)):=((Hh.out.bel.trans (Hb5.out.mono Hh.out.bel.size)).setCell (p:=⟨w.heap.size,0,none⟩) (Nat.le_refl _) _).setCell (p:=⟨w.heap.size+1,0,none⟩) (by show w.heap.size≤w.heap.size+1;omega) _
  have ho:((W5.setCell ⟨w.heap.size,0,none⟩ (.slice none 0 0)).setCell ⟨w.heap.size+1,0,none⟩ (.bool false)).ownsRow (w.heap.size+6) 34 2 (.slice a (cutS 44 s).length cap) (cutS 44 s).length (zhf (cutS 44 s)):=zcz (zcz Hrow5.out (p:=w.heap.size) (by omega) 0 (.slice none 0 0)) (p:=w.heap.size+1) (by omega) 0 (.bool false)
  refine⟨by simp,.inl ⟨_,_,rfl,run_takeDeferred hK2,?_⟩⟩
  refine⟨_,zb4 rfl rfl rfl ((World.putObj_heap_other (by omega)).trans x1) ((World.putObj_heap_other (by omega)).trans x2) (Tryz.isAgg23 _) (Tryz.isAgg4 _),?_⟩
  refine⟨.inr ⟨rfl,H0.out,.inr fun l' h'=>by rw[Hinj.out l' h',← HTT.out];exact Htx.out⟩,hb9.trans (belowK_b (w:=w) (Nat.le_refl _) _ D _ _ (by omega) hK2 rfl rfl)⟩
 case stop =>
  rintro D pre W hD hpre ⟨hsz,h⟩ hK
  obtain⟨p,hp,hf⟩:=h.bad
  have hbad:∃ p∈cutS 44 s,spOk p.data.toList=false:=⟨p,hpre.subset hp,hf⟩
  have Hbad:=hd hbad;clear hbad
  gi_wp2
  refine⟨by simp,.inl ⟨_,_,rfl,run_takeDeferred hK,?_⟩⟩
  refine⟨_,zb4 rfl rfl rfl ((World.putObj_heap_other (by omega)).trans h.r2) ((World.putObj_heap_other (by omega)).trans h.r3) (Tryz.isAgg23 _) (Tryz.isAgg4 _),?_⟩
  exact⟨.inr ⟨rfl,H0.out,.inl Hbad.out⟩,h.bel.trans (belowK_b (w:=w) (Nat.le_refl _) _ D _ _ (by omega) hK rfl rfl)⟩
end

section
open Go.RowKit Go.Lib VerN
end

section
open Go.Lib VerN
end

section
open Go.Shelf Go.RowKit Go.Lib VerN
end

section
open Go.Shelf Go.RowKit Go.Lib VerN
def Rd3 (t:ByteArray):Prop:=t=⟨#[33]⟩∨((∀ p∈cutS 44 t,spOk p.data.toList=true)∧∀ l,tB l=rdSp t→zc0 l=t)
def rdV (t:ByteArray):List BSp:=if t=⟨#[33]⟩ then [] else rdSp t
def zm5 (t:ByteArray) (w:World) (e:Ending) (w':World):Prop :=
 ((∃ v,e = .returned (.tuple #[v,.bool true])∧Rd3 t∧zgr w' v (rdV t))∨(∃ v,e = .returned (.tuple #[v,.bool false])∧¬ Rd3 t∧RSps w' [v] []))∧Below w.heap.size w w'
end

namespace VarM
def letN (n:Nat):Bool:=decide (97≤n) && decide (n≤122)
def digN (n:Nat):Bool:=decide (48≤n) && decide (n≤57)
def okN (n:Nat):Bool:=letN n || digN n || decide (n=45)
abbrev Bs:=List UInt8
def okB (c:UInt8):Bool:=okN c.toNat
def digB (c:UInt8):Bool:=digN c.toNat
def zlf (l:Bs):Nat:=(l.headD 0).toNat
def zdk (l:Bs):Bool:=l.all okB && (decide (0 < l.length) && (decide (l.length≤24) && letN (zlf l)))
def zoe (l:Bs):Bool:=l.all digB && decide (0 < l.length)
def zdp (l:Bs):Bool:=zdk l || (zoe l && decide (l.length≤3))
theorem all_succ {p:UInt8→Bool} {l:Bs} {k:Nat} (h:k < l.length) (h1:(l.take k).all p=true) (h2:p l[k]=true):(l.take (k+1)).all p=true:=by
 rw[List.take_succ_eq_append_getElem h,List.all_append,h1];simp[h2]
theorem all_no {p:UInt8→Bool} {l:Bs} {k:Nat} (h:k < l.length) (h2:p l[k]=false):l.all p=false:=by
 rw[Bool.eq_false_iff];intro h3
 have:=List.all_eq_true.1 h3 _ (List.getElem_mem h)
 rw[h2] at this;cases this
theorem name_no {l:Bs} (h:l.all okB=false):zdk l=false:=by unfold zdk;rw[h];rfl
theorem name_all {l:Bs} (h:l.all okB=true):zdk l=(decide (0 < l.length) && (decide (l.length≤24) && letN (zlf l))):=by unfold zdk;rw[h];rfl
theorem okN_let {n:Nat} (h:letN n=true):okN n=true:=by unfold okN;rw[h];rfl
theorem okN_dig {n:Nat} (h:digN n=true):okN n=true:=by unfold okN;rw[h];simp
theorem okN_no {n:Nat} (h1:letN n=false) (h2:digN n=false) (h3:n≠45):okN n=false:=by unfold okN;rw[h1,h2];simp[h3]
end VarM

section
open Go.RowKit
open VarM (letN digN okN okB digB zdk zdp zoe zlf)
theorem dl (s:ByteArray):s.data.toList.length=s.size:=by rw[Array.length_toList];rfl
theorem ziz (n:Nat) (h:n < 256) (w:World):Calls Tryz.prog 186 #[.int .u8 (n:Int)] w fun e w'=>e = .returned (.bool (letN n))∧w=w':=by
 obtain⟨r,hr⟩ : ∃ r,r=letN n:=⟨_,rfl⟩
 rw[← hr]
 rcases Nat.lt_or_ge n 97 with h1 | h1
 ·have hf:r=false:=by rw[hr];unfold letN;rw[decide_eq_false (by omega)];rfl
  obtain⟨Hr,Hf⟩:=hd2 hr hf;clear hr hf
  go_enter Tryz.func186,Tryz.ntmps186
  go_wp2_with fail
  go_ret
  exact⟨zab Hf.out.symm,rfl⟩
 rcases Nat.lt_or_ge 122 n with h2 | h2
 ·have hf:r=false:=by rw[hr];unfold letN;rw[decide_eq_false (p:=n≤122) (by omega)];simp
  have k2:decide ((n:Int)≤122)=false:=by simp;omega
  obtain⟨Hr,Hf⟩:=hd2 hr hf;clear hr hf
  go_enter Tryz.func186,Tryz.ntmps186
  go_wp2_with fail
  go_ret
  exact⟨zab Hf.out.symm,rfl⟩
 have hf:r=true:=by rw[hr];unfold letN;rw[decide_eq_true h1,decide_eq_true h2];rfl
 have k2:decide ((n:Int)≤122)=true:=by simp;omega
 obtain⟨Hr,Hf⟩:=hd2 hr hf;clear hr hf
 go_enter Tryz.func186,Tryz.ntmps186
 go_wp2_with fail
 go_ret
 exact⟨zab Hf.out.symm,rfl⟩
theorem zlo (n:Nat) (h:n < 256) (w:World):Calls Tryz.prog 187 #[.int .u8 (n:Int)] w fun e w'=>e = .returned (.bool (digN n))∧w=w':=by
 obtain⟨r,hr⟩ : ∃ r,r=digN n:=⟨_,rfl⟩
 rw[← hr]
 rcases Nat.lt_or_ge n 48 with h1 | h1
 ·have hf:r=false:=by rw[hr];unfold digN;rw[decide_eq_false (by omega)];rfl
  obtain⟨Hr,Hf⟩:=hd2 hr hf;clear hr hf
  go_enter Tryz.func187,Tryz.ntmps187
  go_wp2_with fail
  go_ret
  exact⟨zab Hf.out.symm,rfl⟩
 rcases Nat.lt_or_ge 57 n with h2 | h2
 ·have hf:r=false:=by rw[hr];unfold digN;rw[decide_eq_false (p:=n≤57) (by omega)];simp
  have k2:decide ((n:Int)≤57)=false:=by simp;omega
  obtain⟨Hr,Hf⟩:=hd2 hr hf;clear hr hf
  go_enter Tryz.func187,Tryz.ntmps187
  go_wp2_with fail
  go_ret
  exact⟨zab Hf.out.symm,rfl⟩
 have hf:r=true:=by rw[hr];unfold digN;rw[decide_eq_true h1,decide_eq_true h2];rfl
 have k2:decide ((n:Int)≤57)=true:=by simp;omega
 obtain⟨Hr,Hf⟩:=hd2 hr hf;clear hr hf
 go_enter Tryz.func187,Tryz.ntmps187
 go_wp2_with fail
 go_ret
 exact⟨zab Hf.out.symm,rfl⟩
theorem head_is (s:ByteArray) (h:0 < s.size):zlf s.data.toList=s[0].toNat:=by
 unfold zlf
 have e:s.data.toList=s[0] :: s.data.toList.drop 1:=by
  have:=List.drop_eq_getElem_cons (l:=s.data.toList) (i:=0) (by rw[dl];exact h)
  rw[List.drop_zero] at this
  exact this
 rw[e];rfl
theorem zo8 (s:ByteArray) (hs:s.size≤9223372036854775807) (w:World):Calls Tryz.prog 153 #[.string s] w fun e w'=>e = .returned (.bool (zdk s.data.toList))∧w=w':=by
 obtain⟨l,hl⟩ : ∃ l,l=s.data.toList:=⟨_,rfl⟩
 have hln:l.length=s.size:=by rw[hl];exact dl s
 obtain⟨r,hr⟩ : ∃ r,r=zdk l:=⟨_,rfl⟩
 rw[← hl,← hr]
 have hh:=head_is s
 rw[← hl] at hh
 obtain⟨Hl,Hln,Hr,Hh⟩:=hd4 hl hln hr hh;clear hl hln hr hh
 go_enter Tryz.func153,Tryz.ntmps153
 go_wp2_with fail
 go_loop [6] (fun i=>∃ k:Nat,k≤s.size∧i = .int .i64 k∧(l.take k).all okB=true) (fun i=>s.size - (intOf i).toNat)
 case atStart=>exact⟨0,Nat.zero_le _,rfl,by simp⟩
 case round =>
  obtain⟨k,hk,rfl,hall⟩:=hrel
  by_cases hlt:k < s.size
  ·have hkl:k < l.length:=by have:=Hln.out;omega
   obtain⟨n,hn⟩ : ∃ n,n=s[k].toNat:=⟨_,rfl⟩
   have hn256:n < 256:=by rw[hn];exact s[k].toNat_lt
   have hck:okB l[k]=okN n:=by
    have e:l[k]=s[k]:=by simp only[Hl.out];rfl
    unfold okB
    rw[e,hn]
   have hL:=fun W=>ziz n hn256 W
   have hD:=fun W=>zlo n hn256 W
   have hsk:s[k].toNat=n:=hn.symm
   have hyes:okN n=true→(l.take (k+1)).all okB=true:=fun h=>VarM.all_succ hkl hall (by rw[hck];exact h)
   have hno:okN n=false→r=false:=fun h=>by rw[Hr.out];exact VarM.name_no (VarM.all_no hkl (by rw[hck];exact h))
   clear hn hck
   clear hkl
   cases h1:letN n with
   | true =>
    have hnext:=hyes (VarM.okN_let h1)
    rw[h1] at hL
    obtain⟨Hall,HL,HD,Hyes,Hno,Hnext,H1⟩:=hd7 hall hL hD hyes hno hnext h1;clear hall hL hD hyes hno hnext h1
    go_wp2_with fail
    refine (HL.out _).mono ?_
    rintro e w1 ⟨rfl,rfl⟩
    go_wp2_with fail
    go_round
    case rel=>exact⟨k+1,by omega,by go_num,Hnext.out⟩
    case measure=>simp[intOf];omega
   | false =>
    rw[h1] at hL
    cases h2:digN n with
    | true =>
     have hnext:=hyes (VarM.okN_dig h2)
     rw[h2] at hD
     obtain⟨Hall,HL,HD,Hyes,Hno,Hnext,H1,H2⟩:=hd8 hall hL hD hyes hno hnext h1 h2;clear hall hL hD hyes hno hnext h1 h2
     go_wp2_with fail
     refine (HL.out _).mono ?_
     rintro e w1 ⟨rfl,rfl⟩
     go_wp2_with fail
     refine (HD.out _).mono ?_
     rintro e w1 ⟨rfl,rfl⟩
     go_wp2_with fail
     go_round
     case rel=>exact⟨k+1,by omega,by go_num,Hnext.out⟩
     case measure=>simp[intOf];omega
    | false =>
     rw[h2] at hD
     by_cases h3:n=45
     ·have hnext:=hyes (by unfold okN;simp[h3])
      have e3:((n:Int) != 45)=false:=by rw[h3];rfl
      obtain⟨Hall,HL,HD,Hyes,Hno,Hnext,H1,H2,H3⟩:=hd9 hall hL hD hyes hno hnext h1 h2 h3;clear hall hL hD hyes hno hnext h1 h2 h3
      go_wp2_with fail
      refine (HL.out _).mono ?_
      rintro e w1 ⟨rfl,rfl⟩
      go_wp2_with fail
      refine (HD.out _).mono ?_
      rintro e w1 ⟨rfl,rfl⟩
      go_wp2_with fail
      go_round
      case rel=>exact⟨k+1,by omega,by go_num,Hnext.out⟩
      case measure=>simp[intOf];omega
     have hf:=hno (VarM.okN_no h1 h2 h3)
     have e3:((n:Int) != 45)=true:=by rw[bne_iff_ne];omega
     obtain⟨Hall,HL,HD,Hyes,Hno,Hf,H1,H2,H3⟩:=hd9 hall hL hD hyes hno hf h1 h2 h3;clear hall hL hD hyes hno hf h1 h2 h3
     go_wp2_with fail
     refine (HL.out _).mono ?_
     rintro e w1 ⟨rfl,rfl⟩
     go_wp2_with fail
     refine (HD.out _).mono ?_
     rintro e w1 ⟨rfl,rfl⟩
     go_wp2_with fail
     go_ret
     exact⟨zab Hf.out.symm,rfl⟩
  obtain rfl:k=s.size:=by omega
  have hall2:l.all okB=true:=by rw[List.take_of_length_le (by have:=Hln.out;omega)] at hall;exact hall
  have hrr:r=(decide (0 < s.size) && (decide (s.size≤24) && letN (zlf l))):=by rw[Hr.out,VarM.name_all hall2,Hln.out]
  by_cases h0:0 < s.size
  ·by_cases h24:s.size≤24
   ·have hf:r=letN (zlf l):=by rw[hrr,decide_eq_true h0,decide_eq_true h24];rfl
    rw[Hh.out h0] at hf
    obtain⟨n,hn⟩ : ∃ n,n=s[0].toNat:=⟨_,rfl⟩
    have hn256:n < 256:=by rw[hn];exact s[0].toNat_lt
    have hL:=fun W=>ziz n hn256 W
    rw[← hn] at hf
    rw[← hf] at hL
    have hsk:s[0].toNat=n:=hn.symm
    have k1:(0:Int) < (s.size:Int):=by omega
    have k2:(s.size:Int)≤24:=by omega
    have k3:decide ((s.size:Int)≤24)=true:=by simpa using k2
    clear hn
    obtain⟨Hall,Hall2,Hrr,Hf,HL⟩:=hd5 hall hall2 hrr hf hL;clear hall hall2 hrr hf hL
    go_wp2_with fail
    refine (HL.out _).mono ?_
    rintro e w1 ⟨rfl,rfl⟩
    go_wp2_with fail
    go_ret
    exact⟨rfl,rfl⟩
   have hf:r=false:=by rw[hrr,decide_eq_false h24];simp
   have k2:(24:Int) < (s.size:Int):=by omega
   have k3:decide ((s.size:Int)≤24)=false:=by simpa using k2
   obtain⟨Hall,Hall2,Hrr,Hf⟩:=hd4 hall hall2 hrr hf;clear hall hall2 hrr hf
   go_wp2_with fail
   go_ret
   exact⟨zab Hf.out.symm,rfl⟩
  have hf:r=false:=by rw[hrr,decide_eq_false h0];rfl
  have k2:s.size≤0:=by omega
  have k3:decide (0 < (s.size:Int))=false:=decide_eq_false (by omega)
  obtain⟨Hall,Hall2,Hrr,Hf⟩:=hd4 hall hall2 hrr hf;clear hall hall2 hrr hf
  go_wp2_with fail
  go_ret
  exact⟨zab Hf.out.symm,rfl⟩
theorem value_any (s:ByteArray) (hs:s.size≤9223372036854775807) (w:World):Calls Tryz.prog 189 #[.string s] w fun e w'=>e = .returned (.bool (zdp s.data.toList))∧w=w':=by
 have hN:=fun W=>zo8 s hs W
 obtain⟨l,hl⟩ : ∃ l,l=s.data.toList:=⟨_,rfl⟩
 have hln:l.length=s.size:=by rw[hl];exact dl s
 obtain⟨r,hr⟩ : ∃ r,r=zdp l:=⟨_,rfl⟩
 rw[← hl] at hN
 rw[← hl,← hr]
 cases hq:zdk l with
 | true =>
  rw[hq] at hN
  have hf:r=true:=by rw[hr];unfold zdp;rw[hq];rfl
  obtain⟨Hl,Hln,Hr,HN,Hf,Hq⟩:=hd6 hl hln hr hN hf hq;clear hl hln hr hN hf hq
  go_enter Tryz.func189,Tryz.ntmps189
  go_wp2_with fail
  refine (HN.out _).mono ?_
  rintro e w1 ⟨rfl,rfl⟩
  go_wp2_with fail
  go_ret
  exact⟨zab Hf.out.symm,rfl⟩
 | false =>
  rw[hq] at hN
  have hv:r=(l.all digB && decide (0 < l.length) && decide (l.length≤3)):=by rw[hr];unfold zdp zoe;rw[hq];rfl
  obtain⟨Hl,Hln,Hr,HN,Hv,Hq⟩:=hd6 hl hln hr hN hv hq;clear hl hln hr hN hv hq
  go_enter Tryz.func189,Tryz.ntmps189
  go_wp2_with fail
  refine (HN.out _).mono ?_
  rintro e w1 ⟨rfl,rfl⟩
  go_wp2_with fail
  go_loop [8] (fun i=>∃ k:Nat,k≤s.size∧i = .int .i64 k∧(l.take k).all digB=true) (fun i=>s.size - (intOf i).toNat)
  case atStart=>exact⟨0,Nat.zero_le _,rfl,by simp⟩
  case round =>
   obtain⟨k,hk,rfl,hall⟩:=hrel
   by_cases hlt:k < s.size
   ·have hkl:k < l.length:=by have:=Hln.out;omega
    obtain⟨n,hn⟩ : ∃ n,n=s[k].toNat:=⟨_,rfl⟩
    have hn256:n < 256:=by rw[hn];exact s[k].toNat_lt
    have hck:digB l[k]=digN n:=by
     have e:l[k]=s[k]:=by simp only[Hl.out];rfl
     unfold digB
     rw[e,hn]
    have hD:=fun W=>zlo n hn256 W
    have hsk:s[k].toNat=n:=hn.symm
    have hyes:digN n=true→(l.take (k+1)).all digB=true:=fun h=>VarM.all_succ hkl hall (by rw[hck];exact h)
    have hno:digN n=false→r=false:=fun h=>by rw[Hv.out,VarM.all_no hkl (by rw[hck];exact h)];rfl
    clear hn hck
    clear hkl
    cases h2:digN n with
    | true =>
     have hnext:=hyes h2
     rw[h2] at hD
     obtain⟨Hall,HD,Hyes,Hno,Hnext,H2⟩:=hd6 hall hD hyes hno hnext h2;clear hall hD hyes hno hnext h2
     go_wp2_with fail
     refine (HD.out _).mono ?_
     rintro e w1 ⟨rfl,rfl⟩
     go_wp2_with fail
     go_round
     case rel=>exact⟨k+1,by omega,by go_num,Hnext.out⟩
     case measure=>simp[intOf];omega
    | false =>
     have hf:=hno h2
     rw[h2] at hD
     obtain⟨Hall,HD,Hyes,Hno,Hf,H2⟩:=hd6 hall hD hyes hno hf h2;clear hall hD hyes hno hf h2
     go_wp2_with fail
     refine (HD.out _).mono ?_
     rintro e w1 ⟨rfl,rfl⟩
     go_wp2_with fail
     go_ret
     exact⟨zab Hf.out.symm,rfl⟩
   obtain rfl:k=s.size:=by omega
   have hall2:l.all digB=true:=by rw[List.take_of_length_le (by have:=Hln.out;omega)] at hall;exact hall
   have hrr:r=(decide (0 < s.size) && decide (s.size≤3)):=by rw[Hv.out,hall2,Hln.out];rfl
   by_cases h0:0 < s.size
   ·by_cases h3:s.size≤3
    ·have hf:r=true:=by rw[hrr,decide_eq_true h0,decide_eq_true h3];rfl
     have k1:(0:Int) < (s.size:Int):=by omega
     have k2:(s.size:Int)≤3:=by omega
     have k3:decide ((s.size:Int)≤3)=true:=by simpa using k2
     obtain⟨Hall,Hall2,Hrr,Hf⟩:=hd4 hall hall2 hrr hf;clear hall hall2 hrr hf
     go_wp2_with fail
     go_ret
     exact⟨zab Hf.out.symm,rfl⟩
    have hf:r=false:=by rw[hrr,decide_eq_false h3];simp
    have k2:(3:Int) < (s.size:Int):=by omega
    have k3:decide ((s.size:Int)≤3)=false:=by simpa using k2
    obtain⟨Hall,Hall2,Hrr,Hf⟩:=hd4 hall hall2 hrr hf;clear hall hall2 hrr hf
    go_wp2_with fail
    go_ret
    exact⟨zab Hf.out.symm,rfl⟩
   have hf:r=false:=by rw[hrr,decide_eq_false h0];rfl
   have k2:s.size≤0:=by omega
   have k3:decide (0 < (s.size:Int))=false:=decide_eq_false (by omega)
   obtain⟨Hall,Hall2,Hrr,Hf⟩:=hd4 hall hall2 hrr hf;clear hall hall2 hrr hf
   go_wp2_with fail
   go_ret
   exact⟨zab Hf.out.symm,rfl⟩
theorem empty_iff (s:ByteArray):s.toList = []↔s.size=0:=by
 rw[Lib.toList_data,← dl]
 exact List.length_eq_zero_iff.symm
end

section
open Go.RowKit
open VarM (letN digN okN okB digB zdk zdp zoe zlf)
end

section
open Go.RowKit Go.Shelf VarM
attribute [local go_sem ↓] Go.wp_at_zero Go.wp_at_succ
theorem zd9 {P:Program} {f:FuncId} {args:Array Value} {w:World} {n:Nat} {v:Value}
  (h:Calls P f args (w.drewN n) fun e w'=>e = .returned v∧∃ q,w'=(w.drewN n).drewN q):Calls P f args (w.drewN n) fun e w''=>e = .returned v∧∃ m,w''=w.drewN m :=
 h.mono fun _ _ ⟨he,q,hq⟩=>⟨he,n+q,by rw[hq,World.drewN_drewN]⟩
def zf1 (l:List Setg) (i:Nat):Bool:=match l[i]? with
 | none=>true
 | some x=>zdk x.1.data.toList && zdp x.2.data.toList && (decide (i=0) || Op.bytesLess (l.getD (i - 1) (⟨#[]⟩,⟨#[]⟩)).1.toList x.1.toList)
def ze2 (l:List Setg):Bool:=(List.range l.length).all (zf1 l)
theorem wishAt_eq {l:List Setg} {i:Nat} (h:i < l.length):zf1 l i=(zdk l[i].1.data.toList && zdp l[i].2.data.toList && (decide (i=0) || Op.bytesLess (l.getD (i - 1) (⟨#[]⟩,⟨#[]⟩)).1.toList l[i].1.toList)):=by
 unfold zf1
 rw[List.getElem?_eq_getElem h]
theorem wishIs_no {l:List Setg} {i:Nat} (h:i < l.length) (hi:zf1 l i=false):ze2 l=false:=by
 unfold ze2
 rw[List.all_eq_false]
 exact⟨i,List.mem_range.2 h,by rw[hi];simp⟩
theorem zot {l:List Setg} (h:∀ i,i < l.length→zf1 l i=true):ze2 l=true:=by
 unfold ze2
 rw[List.all_eq_true]
 exact fun i hi=>h i (List.mem_range.1 hi)
theorem zou {w:World} {v:Value} {l:List Setg} (h:zbm w [v] l):Calls Tryz.prog 209 #[v] w fun e w'=>e = .returned (.bool (ze2 l))∧Below w.heap.size w w':=by
 obtain⟨a,cap,rfl,hz,g⟩:=zbc h
 obtain⟨n,hn⟩ : ∃ n,n=l.length:=⟨_,rfl⟩
 obtain⟨r,hr⟩ : ∃ r,r=ze2 l:=⟨_,rfl⟩
 rw[← hr]
 rw[← hn] at hz h ⊢
 obtain⟨Hh,Hg,Hn,Hr⟩:=hd4 h g hn hr;clear h g hn hr
 go_enter Tryz.func209,Tryz.ntmps209
 go_wp2_with fail
 go_loopw [7] (fun i wr=>∃ k:Nat,k≤n∧i = .int .i64 k∧(∀ j,j < k→zf1 l j=true)∧Below w.heap.size w wr) (fun i _=>n - (intOf i).toNat)
 case atStart=>exact⟨0,Nat.zero_le _,rfl,fun _ h=>by omega,Below.refl _ _⟩
 case round =>
  obtain⟨k,hk,rfl,hno,hb⟩:=hrel
  by_cases hlt:k < n
  ·have hkl:k < l.length:=by have:=Hn.out;omega
   obtain⟨b,off,rfl,d0,d1,hs1,hs2⟩:=Hg.out k _ (List.getElem?_eq_getElem hkl)
   have hwa:=wishAt_eq hkl
   have hnx:zf1 l k=true→∀ j,j < k+1→zf1 l j=true:=fun h j hj=>by
    by_cases e:j=k
    ·rw[e];exact h
    exact hno j (by omega)
   have hbd:=fun (h:zf1 l k=false)=>wishIs_no hkl h
   obtain⟨x,hx⟩ : ∃ x,x=l[k]:=⟨_,rfl⟩
   rw[← hx] at d0 d1 hs1 hs2 hwa
   obtain⟨s,hs⟩ : ∃ s,s=x.1:=⟨_,rfl⟩
   obtain⟨t,ht⟩ : ∃ s,s=x.2:=⟨_,rfl⟩
   rw[← hs] at d0 hs1 hwa
   rw[← ht] at d1 hs2 hwa
   have hN:=fun (W:World)=>(zo8 s hs1 W).mono (fun e w' (⟨he,hw⟩ : _∧W=w')=>(⟨he,0,hw.symm⟩ : e=_∧∃ m,w'=W.drewN m))
   have hV:=fun (W:World)=>(value_any t hs2 W).mono (fun e w' (⟨he,hw⟩ : _∧W=w')=>(⟨he,0,hw.symm⟩ : e=_∧∃ m,w'=W.drewN m))
   obtain⟨p1,hp1⟩ : ∃ p,p=zdk s.data.toList:=⟨_,rfl⟩
   obtain⟨p2,hp2⟩ : ∃ p,p=zdp t.data.toList:=⟨_,rfl⟩
   rw[← hp1] at hN hwa
   rw[← hp2] at hV hwa
   have e0:=cell_later hb d0
   have e1:=cell_later hb d1
   obtain⟨W1,hW1⟩ : ∃ W1,W1=wr.alloc (.cells #[.string s,.string t] 109):=⟨_,rfl⟩
   have hbn:Below wr.heap.size wr W1:=by rw[hW1];exact za2 _ _
   have hb1:=hb.trans (hbn.mono hb.size)
   obtain⟨D,hD⟩ : ∃ D,D=wr.heap.size:=⟨_,rfl⟩
   have hdb:W1.heap[D]? = some (.cells #[.string s,.string t] 109 (0,0)):=by rw[hW1,hD];exact heap_alloc_new _ _
   have f0:=za1 hdb 0
   have f1:=za1 hdb 1
   simp only[List.getElem?_toArray,List.getElem?_cons_zero,List.getElem?_cons_succ] at f0 f1
   have k5:(0:Int)≤(k:Int):=by omega
   have k6:(k:Int) < (n:Int):=by omega
   clear hx hs ht
   obtain⟨HN,HV,Hp1,Hp2,Hno,Hnx,Hbd,Hwa,Hb,Hbn,Hb1,Hdb⟩:=hd12 hN hV hp1 hp2 hno hnx hbd hwa hb hbn hb1 hdb;clear hN hV hp1 hp2 hno hnx hbd hwa hb hbn hb1 hdb
   go_upto_region 4 with (fail)
   rw[← hW1,← hD]
   obtain⟨HW1,HD⟩:=hd2 hW1 hD;clear hW1 hD
   clear e0 e1
   cases p1 with
   | false =>
    have hf:r=false:=by rw[Hr.out];exact Hbd.out (by rw[Hwa.out];rfl)
    have Hf:=hd hf;clear hf
    go_quiet (first | (go_at_call 153;exact zd9 (HN.out _)) | (go_at_call 189;exact zd9 (HV.out _)))
    go_wp2_with fail
    go_ret
    exact⟨zab Hf.out.symm,za9 Hb1.out _⟩
   | true =>
    cases p2 with
    | false =>
     have hf:r=false:=by rw[Hr.out];exact Hbd.out (by rw[Hwa.out];rfl)
     have Hf:=hd hf;clear hf
     go_quiet (first | (go_at_call 153;exact zd9 (HN.out _)) | (go_at_call 189;exact zd9 (HV.out _)))
     go_wp2_with fail
     go_ret
     exact⟨zab Hf.out.symm,za9 Hb1.out _⟩
    | true =>
     by_cases h0:0 < k
     ·obtain⟨k',rfl⟩ : ∃ k',k=k' + 1:=⟨k - 1,by omega⟩
      have hkl':k' < l.length:=by have:=Hn.out;omega
      obtain⟨b2,off2,e2,y0,_,_,_⟩:=Hg.out k' _ (List.getElem?_eq_getElem hkl')
      injection e2 with e2
      injection e2 with e3 e4
      subst e3 e4
      obtain⟨z,hz4⟩ : ∃ z,z=l[k'].1:=⟨_,rfl⟩
      rw[← hz4] at y0
      have y0:=cell_later Hb1.out y0
      have hwb:zf1 l (k' + 1)=Op.bytesLess z.toList s.toList:=by rw[Hwa.out,hz4];simp[List.getD_eq_getElem?_getD,List.getElem?_eq_getElem hkl']
      obtain⟨Hz4,Hwb⟩:=hd2 hz4 hwb;clear hz4 hwb
      have k7:decide ((0:Int) < ((k' + 1:Nat):Int))=true:=by rw[decide_eq_true_eq];omega
      have k8:(((k' + 1:Nat):Int) - 1)=(k':Int):=by omega
      have k11:IntKind.i64.wrap (((k' + 1:Nat):Int) - 1)=(k':Int):=by rw[k8];exact IntWalk.i64_in _ (by omega)
      have k9:(0:Int)≤(k':Int):=by omega
      have k10:(k':Int) < (n:Int):=by omega
      go_quiet (first | (go_at_call 153;exact zd9 (HN.out _)) | (go_at_call 189;exact zd9 (HV.out _)))
      obtain⟨bl,hbl⟩ : ∃ b,b=Op.bytesLess z.toList s.toList:=⟨_,rfl⟩
      have hwb:=Hwb.out
      rw[← hbl] at hwb ⊢
      obtain⟨Hbl,Hwb⟩:=hd2 hbl hwb;clear hbl hwb
      cases bl with
      | true =>
       have hq:=Hnx.out Hwb.out
       have Hq:=hd hq;clear hq
       go_wp2_with fail
       go_roundw
       case rel=>exact⟨k' + 1+1,by omega,by go_num,Hq.out,za9 Hb1.out _⟩
       case measure=>simp[intOf];omega
      | false =>
       have hf:r=false:=by rw[Hr.out];exact Hbd.out Hwb.out
       have Hf:=hd hf;clear hf
       go_wp2_with fail
       go_ret
       exact⟨zab Hf.out.symm,za9 Hb1.out _⟩
     have k7:decide ((0:Int) < (k:Int))=false:=by rw[decide_eq_false_iff_not];omega
     have hq:=Hnx.out (by rw[Hwa.out,show k=0 by omega];rfl)
     have Hq:=hd hq;clear hq
     go_quiet (first | (go_at_call 153;exact zd9 (HN.out _)) | (go_at_call 189;exact zd9 (HV.out _)))
     go_wp2_with fail
     go_roundw
     case rel=>exact⟨k+1,by omega,by go_num,Hq.out,za9 Hb1.out _⟩
     case measure=>simp[intOf];omega
  obtain rfl:n=k:=by omega
  have hf:r=true:=by rw[Hr.out];exact zot (by rw[← Hn.out];exact hno)
  obtain⟨Hno,Hf,Hb⟩:=hd3 hno hf hb;clear hno hf hb
  go_wp2_with fail
  go_ret
  exact⟨zab Hf.out.symm,Hb.out⟩
end

namespace LexM
abbrev Bs:=List UInt8
abbrev Wd:=Int × Bs
abbrev Ln:=Int × List Wd
structure St where
 line:Int
 col:Int
 frm:Int
 off:Bool
 word:Bs
 words:List Wd
 out:List Ln
def ends (s:St):St:={ s with frm:=0,word:=[],words:=if 0 < s.frm then s.words ++ [(s.frm,s.word)] else s.words }
def breaks (s:St):St :=
 { (ends s) with out:=if (ends s).words = [] then s.out else s.out ++ [(s.line,(ends s).words)],words:=[],off:=false,line:=s.line+1,col:=0 }
def mayBegin (s:St):Bool:=decide (s.words.length < 40) && (decide (0 < s.words.length) || decide (s.out.length < 2000))
def onward (s:St):St:={ s with col:=s.col+1 }
def takes (s:St) (c:UInt8):St × Int :=
 if c.toNat=10 then (breaks (onward s),0)
 else if c.toNat < 32∨126 < c.toNat then (onward s,3)
 else if s.off=true then (onward s,0)
 else if c.toNat=35 then ({ ends (onward s) with off:=true },0)
 else if c.toNat=32 then (ends (onward s),0)
 else if 0 < s.frm then ({ onward s with word:=s.word ++ [c] },0)
 else if mayBegin s=true then ({ onward s with frm:=s.col+1,word:=s.word ++ [c] },0)
 else ({ onward s with frm:=s.col+1 },4)
def run:St→Bs→St × Int
 | s,[] => (s,0)
 | s,c :: r=>if (takes s c).2=0 then run (takes s c).1 r else takes s c
def st0:St:=⟨1,0,0,false,[],[],[]⟩
structure Res where
 lines:List Ln
 at1:Int
 at2:Int
 e:Int
def close (r:St × Int):Res:=if r.2=0 then ⟨(breaks r.1).out,0,0,0⟩ else ⟨[],r.1.line,r.1.col,r.2⟩
def lines (t:Bs):Res:=if 65536 < t.length then ⟨[],0,0,4⟩ else close (run st0 t)
def part (c:UInt8):Bool:=decide (32 < c.toNat) && decide (c.toNat < 127) && !decide (c.toNat=35)
def zim (t:Bs) (i:Nat):Bs:=(t.drop i).takeWhile part
structure RS where
 off:Bool
 out:List Wd
def roff (s:RS) (c:UInt8):Bool:=s.off || decide (c.toNat=35)
def zec (t:Bs) (s:RS) (i:Nat) (c:UInt8):Bool:=roff s c || !part c || (decide (0 < i) && part (t.getD (i - 1) 0))
def zed (t:Bs) (s:RS) (i:Nat) (c:UInt8):RS:=⟨roff s c,if zec t s i c=true then s.out else s.out ++ [((i:Int)+1,zim t i)]⟩
def rerr (t:Bs) (room:Bool) (s:RS) (i:Nat) (c:UInt8):Int :=
 if c.toNat < 32∨126 < c.toNat then 3
 else if zec t s i c=true then 0
 else if s.out.length=40∨room=false then 4 else 0
def rgo (t:Bs) (room:Bool) (s:RS) (i:Nat):Bs→List Wd × Int × Int
 | [] => (s.out,0,0)
 | c :: r=>if rerr t room s i c=0 then rgo t room (zed t s i c) (i+1) r else (s.out,(i:Int)+1,rerr t room s i c)
def zgp (t:Bs) (room:Bool):List Wd × Int × Int:=rgo t room ⟨false,[]⟩ 0 t
def zkc (out:List Ln) (n:Int) (ws:List Wd):List Ln:=if ws = [] then out else out ++ [(n,ws)]
def zf4 (n:Int) (cur:Bs) (out:List Ln):Bs→Res
 | [] => let r:=zgp cur (decide (out.length < 2000));if r.2.2=0 then ⟨zkc out n r.1,0,0,0⟩ else ⟨[],n,r.2.1,r.2.2⟩
 | c :: r =>
  if c.toNat=10 then
   let q:=zgp cur (decide (out.length < 2000))
   if q.2.2=0 then zf4 (n+1) [] (zkc out n q.1) r else ⟨[],n,q.2.1,q.2.2⟩
  else zf4 n (cur ++ [c]) out r
def docLines (t:Bs):Res:=if 65536 < t.length then ⟨[],0,0,4⟩ else zf4 1 [] [] t
theorem run_ok {s:St} {c:UInt8} {r:Bs} (h:(takes s c).2=0):run s (c :: r)=run (takes s c).1 r:=by simp[run,h]
theorem run_bad {s:St} {c:UInt8} {r:Bs} (h:(takes s c).2≠0):run s (c :: r)=takes s c:=by simp[run,h]
theorem run_append (a b:Bs):∀ s,run s (a ++ b)=if (run s a).2=0 then run (run s a).1 b else run s a:=by
 induction a with
 | nil=>intro s;simp[run]
 | cons c r ih =>
  intro s
  by_cases h:(takes s c).2=0
  ·rw[List.cons_append,run_ok h,ih,run_ok h]
  rw[List.cons_append,run_bad h,run_bad h,if_neg h]
theorem zkj {t:Bs} {i:Nat} {c:UInt8} {r:Bs} (h:t.drop i=c :: r) (hc:part c=true):zim t i=c :: r.takeWhile part:=by
 unfold zim;rw[h];simp[hc]
structure Inv (t:Bs) (room:Bool) (p:St) (s:RS) (i:Nat):Prop where
 col:p.col=i
 off:p.off=s.off
 none:p.frm=0→p.word = []∧s.out=p.words∧(p.off=true∨i=0∨part (t.getD (i - 1) 0)=false)
 some:p.frm≠0→p.off=false∧0 < i∧part (t.getD (i - 1) 0)=true∧∃ j:Nat,p.frm=(j:Int)+1∧s.out=p.words ++ [((j:Int)+1,p.word ++ (t.drop i).takeWhile part)]
 nonneg:0≤p.frm
 room:room=decide (p.out.length < 2000)
 had:p.words≠[]∨p.frm≠0→p.out.length < 2000
 le:s.out.length≤40
theorem zjr (c:UInt8):part c=true↔32 < c.toNat∧c.toNat < 127∧c.toNat≠35:=by
 unfold part;simp[and_assoc]
theorem zeg {t:Bs} {i:Nat} {c:UInt8} {r:Bs} (h:t.drop i=c :: r):t.getD i 0=c∧t.drop (i+1)=r∧i < t.length:=by
 have hi:i < t.length:=by
  rcases Nat.lt_or_ge i t.length with hi | hi
  ·exact hi
  rw[List.drop_eq_nil_of_le hi] at h;cases h
 rw[List.drop_eq_getElem_cons hi] at h
 injection h with h1 h2
 refine⟨?_,h2,hi⟩
 simp[List.getD,hi,h1]
theorem step_inv {t:Bs} {room:Bool} {p:St} {s:RS} {i:Nat} {c:UInt8} {r:Bs} (h:Inv t room p s i) (hd:t.drop i=c :: r) (hc:c.toNat≠10) :
  (takes p c).2=rerr t room s i c∧(takes p c).1.col=(i:Int)+1∧(takes p c).1.line=p.line∧(takes p c).1.out=p.out∧((takes p c).2=0→Inv t room (takes p c).1 (zed t s i c) (i+1)):=by
 obtain⟨hg,hd2,hi⟩:=zeg hd
 have hg2:t.getD (i+1 - 1) 0=c:=by rw[Nat.add_sub_cancel];exact hg
 have hcol:=h.col
 unfold takes
 rw[if_neg hc]
 by_cases hf:c.toNat < 32∨126 < c.toNat
 ·rw[if_pos hf]
  have e1:rerr t room s i c=3:=by unfold rerr;rw[if_pos hf]
  exact⟨e1.symm,by simp[onward,hcol],rfl,rfl,fun h=>by cases h⟩
 rw[if_neg hf]
 have hr:rerr t room s i c=if zec t s i c=true then 0 else if s.out.length=40∨room=false then 4 else 0:=by unfold rerr;rw[if_neg hf]
 by_cases ho:p.off=true
 ·rw[if_pos ho]
  have hso:s.off=true:=by rw[← h.off];exact ho
  have hro:roff s c=true:=by unfold roff;rw[hso];rfl
  have hsk:zec t s i c=true:=by unfold zec;rw[hro];rfl
  have hf0:p.frm=0:=Classical.byContradiction fun hn=>by have:=(h.some hn).1;rw[ho] at this;cases this
  refine⟨by rw[hr,if_pos hsk],by simp[onward,hcol],rfl,rfl,fun _=>?_⟩
  have hn:=h.none hf0
  exact⟨by simp[onward,hcol],by simp[onward,zed,hro,ho],fun _=>⟨hn.1,by simp[zed,hsk];exact hn.2.1,.inl ho⟩,fun hx=>absurd hf0 hx,h.nonneg,h.room,h.had,by simp only[zed,if_pos hsk];exact h.le⟩
 rw[if_neg ho]
 have hoff:p.off=false:=by simpa using ho
 have hso:s.off=false:=by rw[← h.off];exact hoff
 have endsEq:∀ b:Bool,b=roff s c→part c=false→zec t s i c=true→Inv t room { ends (onward p) with off:=b } (zed t s i c) (i+1):=by
  intro b hb hpc hsk
  refine⟨by simp[ends,onward,hcol],by simp[zed,hb],fun _=>⟨rfl,?_,.inr (.inr ?_)⟩,fun hx=>absurd rfl hx,Int.le_refl _,h.room,?_,by simp only[zed,if_pos hsk];exact h.le⟩
  ·simp only[zed,if_pos hsk]
   by_cases h0:p.frm=0
   ·rw[(h.none h0).2.1]
    simp[ends,onward,h0]
   obtain⟨_,_,_,j,hj,hso⟩:=h.some h0
   rw[hso,hd]
   have hp:0 < (j:Int)+1:=by omega
   simp[ends,onward,hp,hj,hpc]
  ·rw[hg2];exact hpc
  intro hne
  apply h.had
  by_cases h0:p.frm=0
  ·left
   simpa [ends,onward,h0] using hne
  exact .inr h0
 by_cases h35:c.toNat=35
 ·rw[if_pos h35]
  have hpc:part c=false:=by
   have:=zjr c
   cases hh:part c
   ·rfl
   have:=this.1 hh;omega
  have hro:roff s c=true:=by unfold roff;simp[h35]
  have hsk:zec t s i c=true:=by unfold zec;rw[hro];rfl
  exact⟨by rw[hr,if_pos hsk],by simp[ends,onward,hcol],rfl,rfl,fun _=>endsEq true hro.symm hpc hsk⟩
 rw[if_neg h35]
 have hro:roff s c=false:=by unfold roff;simp[hso,h35]
 by_cases h32:c.toNat=32
 ·rw[if_pos h32]
  have hpc:part c=false:=by
   have:=zjr c
   cases hh:part c
   ·rfl
   have:=this.1 hh;omega
  have hsk:zec t s i c=true:=by unfold zec;rw[hpc];simp
  refine⟨by rw[hr,if_pos hsk],by simp[ends,onward,hcol],rfl,rfl,fun _=>?_⟩
  have:=endsEq false hro.symm hpc hsk
  have e:ends (onward p) = { ends (onward p) with off:=false }:=by simp[ends,onward,hoff]
  rw[e]
  exact this
 rw[if_neg h32]
 have hpc:part c=true:=(zjr c).2 (by omega)
 by_cases h0:p.frm=0
 ·have hn:=h.none h0
  have hprev:(decide (0 < i) && part (t.getD (i - 1) 0))=false:=by
   rcases hn.2.2 with h1 | h1 | h1
   ·rw[hoff] at h1;cases h1
   ·simp[h1]
   rw[h1];simp
  have hsk:zec t s i c=false:=by unfold zec;rw[hro,hpc,hprev];rfl
  have hsk':¬ zec t s i c=true:=by rw[hsk];simp
  rw[if_neg (by omega)]
  by_cases hm:mayBegin p=true
  ·rw[if_pos hm]
   have hm':=hm
   unfold mayBegin at hm'
   simp only[Bool.and_eq_true,Bool.or_eq_true,decide_eq_true_eq] at hm'
   have hout:p.out.length < 2000:=by
    rcases hm'.2 with h1 | h1
    ·exact h.had (.inl (List.ne_nil_of_length_pos h1))
    exact h1
   have hl:s.out.length < 40:=by rw[hn.2.1];exact hm'.1
   refine⟨?_,by simp[onward,hcol],rfl,rfl,fun _=>⟨by simp[onward,hcol],by simp[onward,zed,hro,hoff],fun hx=>?_,fun _=>⟨hoff,by omega,by rw[hg2];exact hpc,i,by simp[hcol],?_⟩,by simp;omega,h.room,fun _=>hout,?_⟩⟩
   ·rw[hr,if_neg hsk',if_neg]
    rintro (h1 | h1)
    ·omega
    rw[h.room] at h1;simp at h1;omega
   ·exfalso
    simp at hx
    omega
   ·simp only[zed,if_neg hsk',hd2,hn.1,hn.2.1,onward]
    rw[zkj hd hpc]
    rfl
   simp only[zed,if_neg hsk',List.length_append,List.length_singleton]
   omega
  rw[if_neg hm]
  refine⟨?_,by simp[onward,hcol],rfl,rfl,fun hx=>by cases hx⟩
  rw[hr,if_neg hsk',if_pos]
  unfold mayBegin at hm
  simp only[Bool.and_eq_true,Bool.or_eq_true,decide_eq_true_eq] at hm
  have hle:=h.le
  rw[hn.2.1] at hle ⊢
  by_cases h40:p.words.length=40
  ·exact .inl h40
  right
  rw[h.room]
  simp
  omega
 obtain⟨ha,hb,hpv,j,hj,hso2⟩:=h.some h0
 have hsk:zec t s i c=true:=by unfold zec;rw[hpv];simp[hb]
 have hp:0 < p.frm:=by omega
 rw[if_pos hp]
 refine⟨by rw[hr,if_pos hsk],by simp[onward,hcol],rfl,rfl,fun _=>⟨by simp[onward,hcol],by simp[onward,zed,hro,hoff],fun hx=>absurd hx h0,fun _=>⟨hoff,by omega,by rw[hg2];exact hpc,j,hj,?_⟩,h.nonneg,h.room,h.had,by simp only[zed,if_pos hsk];exact h.le⟩⟩
 simp only[zed,if_pos hsk,onward]
 rw[hso2,hd,hd2]
 simp[hpc]
theorem line_inv {t:Bs} {room:Bool} (r:Bs):∀ (p:St) (s:RS) (i:Nat),Inv t room p s i→t.drop i=r→(∀ c∈r,c.toNat≠10) →
  (run p r).2=(rgo t room s i r).2.2∧(run p r).1.line=p.line∧(run p r).1.out=p.out∧((run p r).2≠0→(run p r).1.col=(rgo t room s i r).2.1)∧((run p r).2=0→(ends (run p r).1).words=(rgo t room s i r).1):=by
 induction r with
 | nil =>
  intro p s i h hd _
  refine⟨rfl,rfl,rfl,fun hx=>absurd rfl hx,fun _=>?_⟩
  simp only[run,rgo]
  by_cases h0:p.frm=0
  ·rw[(h.none h0).2.1];simp[ends,h0]
  obtain⟨_,_,_,j,hj,hso⟩:=h.some h0
  have hp:0 < (j:Int)+1:=by omega
  rw[hso,hd]
  simp[ends,hj,hp]
 | cons c r ih =>
  intro p s i h hd hn
  obtain⟨e1,e2,e3,e4,e5⟩:=step_inv h hd (hn c (by simp))
  simp only[rgo,← e1]
  by_cases hz:(takes p c).2=0
  ·rw[run_ok hz,if_pos hz]
   obtain⟨f1,f2,f3,f4,f5⟩:=ih _ _ (i+1) (e5 hz) (zeg hd).2.1 (fun x hx=>hn x (by simp[hx]))
   exact⟨f1,f2.trans e3,f3.trans e4,f4,f5⟩
  rw[run_bad hz,if_neg hz]
  exact⟨rfl,e3,e4,fun _=>e2,fun hx=>absurd hx hz⟩
def zei (n:Int) (out:List Ln):St:=⟨n,0,0,false,[],[],out⟩
theorem inv0 (t:Bs) (n:Int) (out:List Ln):Inv t (decide (out.length < 2000)) (zei n out) ⟨false,[]⟩ 0 :=
 ⟨rfl,rfl,fun _=>⟨rfl,rfl,.inr (.inl rfl)⟩,fun h=>absurd rfl h,Int.le_refl _,rfl,fun h=>by rcases h with h | h <;> exact absurd rfl h,by simp⟩
theorem zo9 (t:Bs) (n:Int) (out:List Ln) (h:∀ c∈t,c.toNat≠10) :
  (run (zei n out) t).2=(zgp t (decide (out.length < 2000))).2.2∧(run (zei n out) t).1.line=n∧(run (zei n out) t).1.out=out∧((run (zei n out) t).2≠0→(run (zei n out) t).1.col=(zgp t (decide (out.length < 2000))).2.1) ∧
  ((run (zei n out) t).2=0→(ends (run (zei n out) t).1).words=(zgp t (decide (out.length < 2000))).1) :=
 line_inv t _ _ 0 (inv0 t n out) rfl h
theorem zlv (p:St) (n:Int) (out:List Ln) (ws:List Wd) (hl:p.line=n) (ho:p.out=out) (hw:(ends p).words=ws):breaks p=zei (n+1) (zkc out n ws):=by
 subst hl;subst ho;subst hw
 rfl
theorem rlines_eq (r:Bs):∀ (n:Int) (cur:Bs) (out:List Ln),(∀ c∈cur,c.toNat≠10)→zf4 n cur out r=close (run (zei n out) (cur ++ r)):=by
 induction r with
 | nil =>
  intro n cur out hc
  obtain⟨e1,e2,e3,e4,e5⟩:=zo9 cur n out hc
  rw[List.append_nil]
  unfold zf4 close
  dsimp only
  rw[← e1]
  by_cases hz:(run (zei n out) cur).2=0
  ·rw[if_pos hz,if_pos hz,zlv _ n out _ e2 e3 (e5 hz)]
   rfl
  rw[if_neg hz,if_neg hz,e2,e4 hz]
 | cons c r ih =>
  intro n cur out hc
  unfold zf4
  by_cases h10:c.toNat=10
  ·rw[if_pos h10]
   dsimp only
   obtain⟨e1,e2,e3,e4,e5⟩:=zo9 cur n out hc
   rw[run_append,← e1]
   by_cases hz:(run (zei n out) cur).2=0
   ·rw[if_pos hz,if_pos hz,ih _ _ _ (by simp)]
    have:run (run (zei n out) cur).1 (c :: r)=run (zei (n+1) (zkc out n (zgp cur (decide (out.length < 2000))).1)) r:=by
     have h1:takes (run (zei n out) cur).1 c=(breaks (onward (run (zei n out) cur).1),0):=by unfold takes;rw[if_pos h10]
     rw[run_ok (by rw[h1]),h1]
     rw[zlv (onward (run (zei n out) cur).1) n out (zgp cur (decide (out.length < 2000))).1 e2 e3 (e5 hz)]
    rw[this]
    rfl
   rw[if_neg hz,if_neg hz]
   unfold close
   rw[if_neg hz,e2,e4 hz]
  rw[if_neg h10,ih _ _ _ (by
   intro x hx
   rcases List.mem_append.1 hx with hx | hx
   ·exact hc x hx
   simp at hx;rw[hx];exact h10)]
  simp
theorem lines_eq (t:Bs):lines t=docLines t:=by
 unfold lines docLines
 by_cases h:65536 < t.length
 ·rw[if_pos h,if_pos h]
 rw[if_neg h,if_neg h,rlines_eq t 1 [] [] (by simp)]
 rfl
end LexM

section
open Go.Lib VerN VarM
open LexM (Wd Ln)
abbrev Spc3:=ByteArray × List BSp × List Setg
def zb6 (ws:List Wd) (i:Nat):ByteArray:=match ws[i]? with
 | some x=>⟨x.2.toArray⟩
 | none=>⟨#[]⟩
def zez (ws:List Wd) (fin:Int) (i:Nat):Int:=match ws[i]? with
 | some x=>x.1
 | none=>fin
def cutB (c:UInt8) (s:ByteArray):ByteArray × ByteArray × Bool:=(⟨(cut s.data.toList [c]).1.toArray⟩,⟨(cut s.data.toList [c]).2.1.toArray⟩,(cut s.data.toList [c]).2.2)
def hasB (c:UInt8) (s:ByteArray):Bool:=decide (0≤indexByte s.data.toList c)
def zgn (s:ByteArray):Setg:=((cutB 61 s).1,(cutB 61 s).2.1)
def zjn (ws:List Wd):Nat→Nat→List Setg→Option (List Setg) × Nat
 | 0,i,out=>(some out,i)
 | f+1,i,out=>if hasB 61 (zb6 ws i)=true then (if ze2 (out ++ [zgn (zb6 ws i)])=true then zjn ws f (i+1) (out ++ [zgn (zb6 ws i)]) else (none,i)) else (some out,i)
theorem zhj {ws:List Wd} {i:Nat} (h:ws.length≤i):zb6 ws i=⟨#[]⟩:=by unfold zb6;rw[List.getElem?_eq_none h]
theorem zhi {ws:List Wd} {i:Nat} (h:i < ws.length):zb6 ws i=⟨ws[i].2.toArray⟩:=by unfold zb6;rw[List.getElem?_eq_getElem h]
theorem zoh {ws:List Wd} {fin:Int} {i:Nat} (h:ws.length≤i):zez ws fin i=fin:=by unfold zez;rw[List.getElem?_eq_none h]
theorem zog {ws:List Wd} {fin:Int} {i:Nat} (h:i < ws.length):zez ws fin i=ws[i].1:=by unfold zez;rw[List.getElem?_eq_getElem h]
theorem has_none:hasB 61 ⟨#[]⟩=false:=by decide
def zb7 (ws:List Wd) (i:Nat) (out:List Setg):Option (List Setg) × Nat:=zjn ws (ws.length - i) i out
theorem ziv {ws:List Wd} {i:Nat} {out:List Setg} (h:hasB 61 (zb6 ws i)=false):zb7 ws i out=(some out,i):=by
 unfold zb7
 cases hf:ws.length - i with
 | zero=>rfl
 | succ f=>unfold zjn;rw[if_neg (by rw[h];simp)]
theorem zoc {ws:List Wd} {i:Nat} (h:hasB 61 (zb6 ws i)=true):i < ws.length:=by
 apply Nat.lt_of_not_le
 intro hk
 rw[zhj hk,has_none] at h
 cases h
theorem zkw {ws:List Wd} {i:Nat} {out:List Setg} (h:hasB 61 (zb6 ws i)=true) (hw:ze2 (out ++ [zgn (zb6 ws i)])=true):zb7 ws i out=zb7 ws (i+1) (out ++ [zgn (zb6 ws i)]):=by
 have hl:=zoc h
 unfold zb7
 obtain⟨f,hf⟩ : ∃ f,ws.length - i=f+1:=⟨ws.length - i - 1,by omega⟩
 rw[hf,show ws.length - (i+1)=f by omega]
 show (if _ then _ else _)=_
 rw[if_pos h,if_pos hw]
theorem zkx {ws:List Wd} {i:Nat} {out:List Setg} (h:hasB 61 (zb6 ws i)=true) (hw:ze2 (out ++ [zgn (zb6 ws i)])=false):zb7 ws i out=(none,i):=by
 have hl:=zoc h
 unfold zb7
 obtain⟨f,hf⟩ : ∃ f,ws.length - i=f+1:=⟨ws.length - i - 1,by omega⟩
 rw[hf]
 show (if _ then _ else _)=_
 rw[if_pos h,if_neg (by rw[hw];simp)]
open Classical in
noncomputable def zfp (t:ByteArray):Bool:=decide (Rd3 t∧rdV t≠[]∧(rdV t).head?≠some (⟨#[]⟩,⟨#[]⟩))
def allV:List BSp:=[(⟨#[]⟩,⟨#[]⟩)]
end

section
open Go.Lib VerN VarM
open LexM (Wd Ln)
def wtx (x:Wd):ByteArray:=⟨x.2.toArray⟩
def texts (ws:List Wd) (i:Nat):List ByteArray:=(ws.drop i).map wtx
def zdd:ByteArray:=⟨#[42]⟩
def noT:ByteArray:=⟨#[]⟩
def zgk (s:ByteArray):Bool:=decide (s.data.toList.head? = some 64)
def zjf (s:ByteArray):ByteArray:=⟨(s.data.toList.drop 1).toArray⟩
noncomputable def zce (ws:List Wd) (i:Nat):Option Spc3 × Nat :=
 if zb6 ws i=zdd then (some (noT,allV,[]),i+1)
 else if zgk (zb6 ws i)=true then
  (if zfp (zjf (zb6 ws i))=true then ((zb7 ws (i+1) []).1.map fun l=>(noT,rdV (zjf (zb6 ws i)),l),(zb7 ws (i+1) []).2) else (none,i))
 else if hasB 61 (zb6 ws i)=true then ((zb7 ws i []).1.map fun l=>(noT,allV,l),(zb7 ws i []).2)
 else (none,i)
theorem znx (ws:List Wd):∀ (f i:Nat) (out:List Setg),i≤(zjn ws f i out).2∧(zjn ws f i out).2≤max i ws.length
 | 0,i,out=>⟨Nat.le_refl _,Nat.le_max_left _ _⟩
 | f+1,i,out=>by
  by_cases h1:hasB 61 (zb6 ws i)=true
  ·have hl:=zoc h1
   by_cases h2:ze2 (out ++ [zgn (zb6 ws i)])=true
   ·have e:zjn ws (f+1) i out=zjn ws f (i+1) (out ++ [zgn (zb6 ws i)]):=by
     show (if _ then _ else _)=_
     rw[if_pos h1,if_pos h2]
    rw[e]
    have:=znx ws f (i+1) (out ++ [zgn (zb6 ws i)])
    omega
   have e:zjn ws (f+1) i out=(none,i):=by
    show (if _ then _ else _)=_
    rw[if_pos h1,if_neg h2]
   rw[e]
   exact⟨Nat.le_refl _,Nat.le_max_left _ _⟩
  have e:zjn ws (f+1) i out=(some out,i):=by
   show (if _ then _ else _)=_
   rw[if_neg h1]
  rw[e]
  exact⟨Nat.le_refl _,Nat.le_max_left _ _⟩
theorem zhc (ws:List Wd) (i:Nat) (out:List Setg):i≤(zb7 ws i out).2∧(zb7 ws i out).2≤max i ws.length:=znx ws _ i out
theorem cut_parts (c:UInt8) (s:ByteArray):(∃ k:Nat,indexByte s.data.toList c=k∧k < s.data.toList.length∧s.data.toList[k]? = some c∧hasB c s=true∧cutB c s=(⟨(s.data.toList.take k).toArray⟩,⟨(s.data.toList.drop (k+1)).toArray⟩,true)) ∨
  (hasB c s=false∧cutB c s=(s,⟨#[]⟩,false)):=by
 obtain⟨l,hl⟩ : ∃ l,l=s.data.toList:=⟨_,rfl⟩
 have hs:s=⟨l.toArray⟩:=Txt.ext (by rw[hl])
 unfold hasB cutB cut
 rw[← hl,index_one]
 have hge:=indexByte_ge l c
 by_cases h:0≤indexByte l c
 ·left
  obtain⟨k,hk⟩ : ∃ k:Nat,indexByte l c=k:=⟨(indexByte l c).toNat,by omega⟩
  have h1:=(indexByte_some hk).1
  refine⟨k,hk,(List.getElem?_eq_some_iff.1 h1).1,h1,decide_eq_true h,?_⟩
  rw[if_pos h,hk]
  rfl
 right
 refine⟨decide_eq_false h,?_⟩
 rw[if_neg h,hs]
theorem cut_none {c:UInt8} {s:ByteArray} (h:(cutB c s).2.2=false):(cutB c s).1=s:=by
 rcases cut_parts c s with⟨k,_,_,_,_,e⟩ | ⟨_,e⟩
 ·rw[e] at h
  cases h
 rw[e]
def setT (x:Setg):ByteArray:=x.1 ++ ⟨#[61]⟩ ++ x.2
open Classical in
noncomputable def spT (L:List BSp):ByteArray:=if h:∃ l,tB l=L then zc0 h.choose else ⟨#[]⟩
theorem tB_inj:∀ {a b:List Tp},tB a=tB b→a=b
 | [],[],_=>rfl
 | [],_ :: _,h=>by simp[tB] at h
 | _ :: _,[],h=>by simp[tB] at h
 | x :: a,y :: b,h=>by
  have h1:x.1=y.1∧tB a=tB b:=by simpa [tB] using h
  rw[Subtype.ext h1.1,tB_inj h1.2]
theorem spT_tB (l:List Tp):spT (tB l)=zc0 l:=by
 unfold spT
 have h:∃ k,tB k=tB l:=⟨l,rfl⟩
 rw[dif_pos h,tB_inj h.choose_spec]
open Classical in
noncomputable def zay (s:Spc3):ByteArray:=if s.2.1=allV then s.1 else s.1 ++ (⟨#[64]⟩ ++ spT s.2.1)
open Classical in
noncomputable def zcf (s:Spc3):List ByteArray :=
 if (if zay s=noT then [] else [zay s]) ++ s.2.2.map setT = [] then [zdd] else (if zay s=noT then [] else [zay s]) ++ s.2.2.map setT
def Stop (r:List ByteArray):Prop:=∀ x,r.head? = some x→hasB 61 x=false
theorem ne_app {a b:ByteArray} (h:a≠noT):a ++ b≠noT:=by
 intro e
 apply h
 have h1:=congrArg (fun x:ByteArray=>x.data.toList) e
 simp only[Go.Joins.data_append] at h1
 exact Txt.ext (List.append_eq_nil_iff.1 h1).1
end

section
open Go.Lib VerN VarM
open LexM (Wd Ln)
abbrev RlsM:=ByteArray × Bool
abbrev zik:=ByteArray × List ByteArray
abbrev DepM:=Spc3 × Spc3 × Int
abbrev PrfM:=ByteArray × List ByteArray × Int
structure PkgM where
 name:ByteArray
 line:Int
 rel:List RlsM
 vars:List zik
 prov:List ByteArray
 dep:List DepM
 conf:List DepM
 files:List ByteArray
structure RcpM where
 pk:List PkgM
 pf:List PrfM
def zc4 (d:DepM):DepM:=(d.1,d.2.1,0)
def bareP (p:PkgM):PkgM:={ p with line:=0,dep:=p.dep.map zc4,conf:=p.conf.map zc4 }
def zg7 (p:PrfM):PrfM:=(p.1,p.2.1,0)
def bare (x:RcpM):RcpM:=⟨x.pk.map bareP,x.pf.map zg7⟩
def both (x y:RcpM):RcpM:=⟨x.pk ++ y.pk,x.pf ++ y.pf⟩
end

section
open Go.RowKit
def zga:Rd RlsM:=fun _ cs x=>cs = [.string x.1,.bool x.2]
def zfy:Rd zik:=fun W cs x=>∃ v,cs = [.string x.1,v]∧RTs W [v] x.2
def zqg (W:World) (a b c:Value) (s:Spc3):Prop:=a = .string s.1∧RSps W [b] s.2.1∧zbm W [c] s.2.2
def zcq:Rd DepM:=fun W cs x=>∃ a1 a2 a3 b1 b2 b3,cs = [a1,a2,a3,b1,b2,b3,.int .i64 x.2.2]∧zqg W a1 a2 a3 x.1∧zqg W b1 b2 b3 x.2.1
def RPfM:Rd PrfM:=fun W cs x=>∃ v,cs = [.string x.1,v,.int .i64 x.2.2]∧RTs W [v] x.2.1
def RPkM:Rd PkgM:=fun W cs x=>∃ v2 v3 v4 v5 v6 v7,cs = [.string x.name,.int .i64 x.line,v2,v3,v4,v5,v6,v7]∧zad 2 zga W [v2] x.rel∧zad 2 zfy W [v3] x.vars∧RTs W [v4] x.prov∧zad 7 zcq W [v5] x.dep∧zad 7 zcq W [v6] x.conf∧RTs W [v7] x.files
def zgb (W:World) (vp vf:Value) (x:RcpM):Prop:=zad 8 RPkM W [vp] x.pk∧zad 3 RPfM W [vf] x.pf
theorem zeo:zdh zga:=fun _ _ _ _ h _=>h
theorem zdi:zdh zfy:=fun _ _ _ _ ⟨v,e,h⟩ hb=>⟨v,e,zah h hb⟩
theorem zqg.below {W W':World} {a b c:Value} {s:Spc3} (h:zqg W a b c s) (hb:Below W.heap.size W W'):zqg W' a b c s:=⟨h.1,za3 zaf _ _ _ _ h.2.1 hb,za3 zag _ _ _ _ h.2.2 hb⟩
theorem zbk:zdh zcq:=fun _ _ _ _ ⟨a1,a2,a3,b1,b2,b3,e,h1,h2⟩ hb=>⟨a1,a2,a3,b1,b2,b3,e,h1.below hb,h2.below hb⟩
theorem zfm:zdh RPfM:=fun _ _ _ _ ⟨v,e,h⟩ hb=>⟨v,e,zah h hb⟩
theorem zkm:zdh RPkM:=fun _ _ _ _ ⟨v2,v3,v4,v5,v6,v7,e,h2,h3,h4,h5,h6,h7⟩ hb =>
 ⟨v2,v3,v4,v5,v6,v7,e,za3 zeo _ _ _ _ h2 hb,za3 zdi _ _ _ _ h3 hb,zah h4 hb,za3 zbk _ _ _ _ h5 hb,za3 zbk _ _ _ _ h6 hb,zah h7 hb⟩
theorem zgb.below {W W':World} {vp vf:Value} {x:RcpM} (h:zgb W vp vf x) (hb:Below W.heap.size W W'):zgb W' vp vf x:=⟨za3 zkm _ _ _ _ h.1 hb,za3 zfm _ _ _ _ h.2 hb⟩
theorem len_rlsM {W:World} {cs:List Value} {x:RlsM} (h:zga W cs x):cs.length=2:=by rw[show cs=_ from h];rfl
theorem len_varM {W:World} {cs:List Value} {x:zik} (h:zfy W cs x):cs.length=2:=by obtain⟨v,e,_⟩:=h;rw[e];rfl
theorem zoa {W:World} {cs:List Value} {x:DepM} (h:zcq W cs x):cs.length=7:=by obtain⟨a1,a2,a3,b1,b2,b3,e,_⟩:=h;rw[e];rfl
theorem len_pfM {W:World} {cs:List Value} {x:PrfM} (h:RPfM W cs x):cs.length=3:=by obtain⟨v,e,_⟩:=h;rw[e];rfl
theorem len_pkM {W:World} {cs:List Value} {x:PkgM} (h:RPkM W cs x):cs.length=8:=by obtain⟨v2,v3,v4,v5,v6,v7,e,_⟩:=h;rw[e];rfl
theorem len_str {W:World} {cs:List Value} {x:ByteArray} (h:RStr W cs x):cs.length=1:=by rw[h.1];rfl
structure PkS (W:World) (t:Nat→Nat) (B:Nat) (p:PkgM) (v2 v3 v4 v5 v6 v7:Value):Prop where
 rel:∃ css,RowL W t 4 B 157 2 zga v2 p.rel css
 vars:∃ css,RowL W t 5 B 159 2 zfy v3 p.vars css
 prov:∃ css,RowL W t 6 B 9 1 RStr v4 p.prov css
 dep:∃ css,RowL W t 7 B 134 7 zcq v5 p.dep css
 conf:∃ css,RowL W t 8 B 197 7 zcq v6 p.conf css
 files:∃ css,RowL W t 9 B 9 1 RStr v7 p.files css
def Live (n:Nat):Prop:=4≤n∧n≤9
section
variable {W W' : World} {t t' : Nat → Nat} {B : Nat} {p : PkgM} {v2 v3 v4 v5 v6 v7 : Value} {T : Nat → Prop}
theorem PkS.to (h:PkS W t B p v2 v3 v4 v5 v6 v7) (hF:Frm T W W') (hT:∀ k,k < W.heap.size→T k→¬ Live (t k)∧t k≠3∧¬ Ty W k) (hG:∀ k,k < W.heap.size→(t k=3∨Live (t k))→t' k=t k):PkS W' t' B p v2 v3 v4 v5 v6 v7:=by
 have go:∀ {α:Type} {c:Nat} {e:TypeId} {size:Nat} {R:Rd α} {v:Value} {l:List α},Live c→(∃ css,RowL W t c B e size R v l css)→∃ css,RowL W' t' c B e size R v l css:=by
  rintro α c e size R v l hc ⟨css,h⟩
  exact⟨css,h.to hF (fun k k1 k2=>⟨fun e=>(hT k k1 k2).1 (by rw[e];exact hc),(hT k k1 k2).2⟩) (fun k k1 k2=>by rw[hG k k1 (.inl k2),k2]) (fun k k1 k2=>by rw[hG k k1 (.inr (by rw[k2];exact hc)),k2])⟩
 exact⟨go ⟨by omega,by omega⟩ h.rel,go ⟨by omega,by omega⟩ h.vars,go ⟨by omega,by omega⟩ h.prov,go ⟨by omega,by omega⟩ h.dep,go ⟨by omega,by omega⟩ h.conf,go ⟨by omega,by omega⟩ h.files⟩
theorem PkS.below (h:PkS W t B p v2 v3 v4 v5 v6 v7) (hb:Below W.heap.size W W'):PkS W' t B p v2 v3 v4 v5 v6 v7:=h.to (Frm.of_below (S:=fun _=>False) hb) (fun _ _ h=>h.elim) (fun _ _ _=>rfl)
theorem PkS.ft (h:PkS W t B p v2 v3 v4 v5 v6 v7):Ft W (fun k=>Fx W t k∨Live (t k)) fun W'=>RPkM W' [.string p.name,.int .i64 p.line,v2,v3,v4,v5,v6,v7] p:=by
 obtain⟨⟨c2,h2⟩,⟨c3,h3⟩,⟨c4,h4⟩,⟨c5,h5⟩,⟨c6,h6⟩,⟨c7,h7⟩⟩:=h
 have go:∀ {c:Nat} {P:World→Prop},Live c→Ft W (fun k=>t k=c∨Fx W t k) P→Ft W (fun k=>Fx W t k∨Live (t k)) P:=fun hc h=>h.mono fun k _ hk=>hk.elim (fun e=>.inr (by rw[e];exact hc)) .inl
 have e2:=go ⟨by omega,by omega⟩ (h2.ft (by omega) fun _ _ _=>len_rlsM)
 have e3:=go ⟨by omega,by omega⟩ (h3.ft (by omega) fun _ _ _=>len_varM)
 have e4:=go ⟨by omega,by omega⟩ (h4.ft (by omega) fun _ _ _=>len_str)
 have e5:=go ⟨by omega,by omega⟩ (h5.ft (by omega) fun _ _ _=>zoa)
 have e6:=go ⟨by omega,by omega⟩ (h6.ft (by omega) fun _ _ _=>zoa)
 have e7:=go ⟨by omega,by omega⟩ (h7.ft (by omega) fun _ _ _=>len_str)
 exact ((((((e2.and e3).and e4).and e5).and e6).and e7)).imp fun V ⟨⟨⟨⟨⟨k2,k3⟩,k4⟩,k5⟩,k6⟩,k7⟩=>⟨_,_,_,_,_,_,rfl,k2,k3,k4,k5,k6,k7⟩
end
structure znl (W:World) (t:Nat→Nat) (B:Nat) (vp:Value) (ps:List PkgM) (p:PkgM) (dss:List (List Value)) (v2 v3 v4 v5 v6 v7:Value):Prop where
 row:W.ownsRow B 123 8 vp (ps.length+1) (dss.flatten ++ [.string p.name,.int .i64 p.line,v2,v3,v4,v5,v6,v7])
 len:dss.length=ps.length
 fix:Ft W (Fx W t) (fun W'=>∀ (i:Nat) cs x,dss[i]? = some cs→ps[i]? = some x→RPkM W' cs x)
 tag:∀ k,vp.ownBlock=some k→t k=1
 last:PkS W t B p v2 v3 v4 v5 v6 v7
def PkRow (W:World) (t:Nat→Nat) (B:Nat) (vp:Value) (pks:List PkgM):Prop :=
 (pks = []∧vp = .slice none 0 0)∨∃ (ps:List PkgM) (p:PkgM) (dss:List (List Value)) (v2 v3 v4 v5 v6 v7:Value),pks=ps ++ [p]∧znl W t B vp ps p dss v2 v3 v4 v5 v6 v7
structure RcSt (W:World) (t:Nat→Nat) (B xb:Nat) (vp vf:Value) (x:RcpM):Prop where
 box:W.heap[xb]? = some (.cells #[vp,vf] 73 (0,0))
 tbox:t xb=0
 pf:∃ css,RowL W t 2 B 125 3 RPfM vf x.pf css
 pk:PkRow W t B vp x.pk
section
variable {W W' : World} {t t' : Nat → Nat} {B xb : Nat} {vp vf : Value} {x : RcpM} {pks : List PkgM} {T : Nat → Prop}
theorem znl.to {ps:List PkgM} {p:PkgM} {dss:List (List Value)} {v2 v3 v4 v5 v6 v7:Value} (h:znl W t B vp ps p dss v2 v3 v4 v5 v6 v7) (hF:Frm T W W') (hT:∀ k,k < W.heap.size→T k→¬ Live (t k)∧t k≠3∧t k≠1∧¬ Ty W k) (hG:∀ k,k < W.heap.size→(t k=3∨Live (t k)∨t k=1)→t' k=t k):znl W' t' B vp ps p dss v2 v3 v4 v5 v6 v7 :=
 ⟨hF.owns h.row fun k hk kT=>(hT k (h.row.lt k hk).2 kT).2.2.1 (h.tag k hk),h.len,h.fix.fx hF (fun k k1 k2=>⟨(hT k k1 k2).2.1,(hT k k1 k2).2.2.2⟩) (fun k k1 k2=>by rw[hG k k1 (.inl k2),k2]),fun k hk=>by rw[hG k (h.row.lt k hk).2 (.inr (.inr (h.tag k hk))),h.tag k hk],h.last.to hF (fun k k1 k2=>⟨(hT k k1 k2).1,(hT k k1 k2).2.1,(hT k k1 k2).2.2.2⟩) fun k k1 k2=>hG k k1 (k2.elim .inl fun h=>.inr (.inl h))⟩
theorem PkRow.to (h:PkRow W t B vp pks) (hF:Frm T W W') (hT:∀ k,k < W.heap.size→T k→¬ Live (t k)∧t k≠3∧t k≠1∧¬ Ty W k) (hG:∀ k,k < W.heap.size→(t k=3∨Live (t k)∨t k=1)→t' k=t k):PkRow W' t' B vp pks:=by
 rcases h with h | ⟨ps,p,dss,v2,v3,v4,v5,v6,v7,h1,L⟩
 ·exact .inl h
 exact .inr ⟨ps,p,dss,v2,v3,v4,v5,v6,v7,h1,L.to hF hT hG⟩
theorem RcSt.to (h:RcSt W t B xb vp vf x) (hF:Frm T W W') (hT:∀ k,k < W.heap.size→T k→9 < t k∧¬ Ty W k) (hG:∀ k,k < W.heap.size→t k≤9→t' k=t k):RcSt W' t' B xb vp vf x:=by
 have hx:=(Array.getElem?_eq_some_iff.1 h.box).1
 refine⟨zbh h.box hF fun k=>by have:=(hT xb hx k).1;have:=h.tbox;omega,by rw[hG xb hx (by rw[h.tbox];omega),h.tbox],?_,h.pk.to hF (fun k k1 k2=>?_) fun k k1 k2=>hG k k1 ?_⟩
 ·obtain⟨css,hp⟩:=h.pf
  exact⟨css,hp.to hF (fun k k1 k2=>by have:=hT k k1 k2;exact⟨by omega,by omega,this.2⟩) (fun k k1 k2=>by rw[hG k k1 (by omega),k2]) (fun k k1 k2=>by rw[hG k k1 (by omega),k2])⟩
 ·have:=hT k k1 k2
  unfold Live
  exact⟨by omega,by omega,by omega,this.2⟩
 rcases k2 with k | k | k
 ·omega
 ·exact k.2
 omega
theorem RcSt.below (h:RcSt W t B xb vp vf x) (hb:Below W.heap.size W W'):RcSt W' t B xb vp vf x:=h.to (Frm.of_below (S:=fun _=>False) hb) (fun _ _ h=>h.elim) (fun _ _ _=>rfl)
theorem znl.reads {ps:List PkgM} {p:PkgM} {dss:List (List Value)} {v2 v3 v4 v5 v6 v7:Value} (h:znl W t B vp ps p dss v2 v3 v4 v5 v6 v7):zad 8 RPkM W [vp] (ps ++ [p]):=by
 have hall:∀ (i:Nat) cs y,(dss ++ [[.string p.name,.int .i64 p.line,v2,v3,v4,v5,v6,v7]])[i]? = some cs→(ps ++ [p])[i]? = some y→RPkM W cs y:=fun i cs y e1 e2=>by
  by_cases hi:i < dss.length
  ·rw[List.getElem?_append_left hi] at e1
   rw[List.getElem?_append_left (by rw[← h.len];exact hi)] at e2
   exact h.fix.here i cs y e1 e2
  have hlt:=(List.getElem?_eq_some_iff.1 e1).1
  have e:i=dss.length:=by simp at hlt;omega
  rw[List.getElem?_append_right (by omega),e,Nat.sub_self] at e1
  rw[List.getElem?_append_right (by rw[← h.len];omega),e,h.len,Nat.sub_self] at e2
  simp at e1 e2
  subst e1 e2
  exact h.last.ft.here
 refine zde (B:=B) (e:=123) (css:=dss ++ [[.string p.name,.int .i64 p.line,v2,v3,v4,v5,v6,v7]]) (by decide) (by simp[h.len]) (fun cs hcs=>?_) (by simpa using h.row) hall
 obtain⟨i,hi,e⟩:=List.getElem_of_mem hcs
 exact len_pkM (hall i cs ((ps ++ [p])[i]'(by have:=h.len;simp at hi ⊢;omega)) (by rw[← e];exact List.getElem?_eq_getElem hi) (List.getElem?_eq_getElem _))
theorem RcSt.reads (h:RcSt W t B xb vp vf x):zgb W vp vf x:=by
 obtain⟨css,hp⟩:=h.pf
 refine⟨?_,hp.reads (by omega) fun _ _ _=>len_pfM⟩
 rcases h.pk with⟨h1,h2⟩ | ⟨ps,p,dss,v2,v3,v4,v5,v6,v7,h1,L⟩
 ·rw[h1,h2]
  exact⟨_,0,rfl,Nat.zero_le _,Nat.zero_le _,fun i x hi=>by simp at hi⟩
 rw[h1]
 exact L.reads
theorem RcSt.nil (h:W.heap[xb]? = some (.cells #[.slice none 0 0,.slice none 0 0] 73 (0,0))) (ht:t xb=0):RcSt W t B xb (.slice none 0 0) (.slice none 0 0) ⟨[],[]⟩ :=
 ⟨h,ht,⟨[],RowL.nil⟩,.inl ⟨rfl,rfl⟩⟩
theorem RcSt.step {ps:List PkgM} {p p':PkgM} {dss:List (List Value)} {v2 v3 v4 v5 v6 v7:Value} (h:RcSt W t B xb vp vf x) (L':znl W' t' B vp ps p' dss v2 v3 v4 v5 v6 v7) (hF:Frm T W W') (hT:∀ k,k < W.heap.size→T k→(Live (t k)∨t k=1)∧¬ Ty W k) (hG:∀ k,k < W.heap.size→t' k=t k):RcSt W' t' B xb vp vf ⟨ps ++ [p'],x.pf⟩:=by
 have hx:=(Array.getElem?_eq_some_iff.1 h.box).1
 refine⟨zbh h.box hF fun k=>by have:=(hT xb hx k).1;have:=h.tbox;unfold Live at *;omega,by rw[hG xb hx,h.tbox],?_,.inr ⟨_,_,_,_,_,_,_,_,_,rfl,L'⟩⟩
 obtain⟨css,hp⟩:=h.pf
 exact⟨css,hp.to hF (fun k k1 k2=>by have:=hT k k1 k2;unfold Live at this;exact⟨by omega,by omega,this.2⟩) (fun k k1 k2=>by rw[hG k k1,k2]) (fun k k1 k2=>by rw[hG k k1,k2])⟩
end
end

section
open Go.RowKit
open LexM (Bs Wd Ln St)
abbrev bv (s:Bs):Value:=.string ⟨s.toArray⟩
def zch (x:Wd):List Value:=[.int .i64 x.1,bv x.2]
def zgi (s:Bs):List Value:=s.map fun c=>.int .u8 c.toNat
def zef (out:List Ln) (rv:List Value):List Value:=(out.zip rv).flatMap fun x=>[.int .i64 x.1.1,x.2]
theorem zln:Elem Tryz.prog 142 5 (.int .u8 0) 1 1:=⟨Tryz.underlying142,by kernel_rfl,rfl,by decide⟩
theorem elem_word:Elem Tryz.prog 60 64 (.agg #[.int .i64 0,.string ⟨#[]⟩]) 2 24:=⟨Tryz.underlying60,by kernel_rfl,rfl,by decide⟩
theorem elem_line:Elem Tryz.prog 56 62 (.agg #[.int .i64 0,.slice none 0 0]) 2 32:=⟨Tryz.underlying56,by kernel_rfl,rfl,by decide⟩
def zal (s:St) (wv sv ov:Value):Array Value:=#[.int .i64 s.line,.int .i64 s.col,.int .i64 s.frm,.bool s.off,wv,sv,ov]
structure zb2 (w0:World) (x:Nat) (s:St) (wv sv ov:Value) (rv:List Value) (w:World):Prop where
 cells:w.heap[x]? = some (.cells (zal s wv sv ov) 182 (0,0))
 word:w.ownsRow w0.heap.size 5 1 wv s.word.length (zgi s.word)
 words:w.ownsRow w0.heap.size 64 2 sv s.words.length (s.words.flatMap zch)
 out:w.ownsRow w0.heap.size 62 2 ov s.out.length (zef s.out rv)
 rlen:rv.length=s.out.length
 rows:∀ (i:Nat) (ln:Ln) (v:Value),s.out[i]? = some ln→rv[i]? = some v→w.ownsRow w0.heap.size 64 2 v ln.2.length (ln.2.flatMap zch)∧∀ k,v.ownBlock=some k→sv.ownBlock≠some k
 bel:Below w0.heap.size w0 w
 xB:w0.heap.size≤x
theorem zb2.xs {w0 w:World} {x:Nat} {s:St} {wv sv ov:Value} {rv:List Value} (h:zb2 w0 x s wv sv ov rv w):x < w.heap.size:=(Array.getElem?_eq_some_iff.1 h.cells).1
theorem zb2.to {w0 w w':World} {x:Nat} {s s':St} {wv sv ov wv' sv':Value} {rv:List Value} (h:zb2 w0 x s wv sv ov rv w) (hf:Frm (fun k=>k=x) w w')
  (hc:w'.heap[x]? = some (.cells (zal s' wv' sv' ov) 182 (0,0)))
  (h1:(wv'=wv∧s'.word=s.word)∨(wv' = .slice none 0 0∧s'.word = [])) (h2:(sv'=sv∧s'.words=s.words)∨(sv' = .slice none 0 0∧s'.words = [])) (h3:s'.out=s.out):zb2 w0 x s' wv' sv' ov rv w':=by
 have hxw:=zae h.word h.cells (by decide)
 have hxs:=zae h.words h.cells (by decide)
 have hxo:=zae h.out h.cells (by decide)
 refine⟨hc,?_,?_,?_,by rw[h3];exact h.rlen,?_,h.bel.trans (hf.below h.bel.size (fun k hk=>by rw[hk];exact h.xB)),h.xB⟩
 ·rcases h1 with⟨rfl,e⟩ | ⟨rfl,e⟩
  ·rw[e];exact hf.owns h.word (fun k hk e=>hxw (by rw[hk,e]))
  rw[e];exact World.ownsRow_nil _ _ _ _
 ·rcases h2 with⟨rfl,e⟩ | ⟨rfl,e⟩
  ·rw[e];exact hf.owns h.words (fun k hk e=>hxs (by rw[hk,e]))
  rw[e];exact World.ownsRow_nil _ _ _ _
 ·rw[h3];exact hf.owns h.out (fun k hk e=>hxo (by rw[hk,e]))
 intro i ln v hi hv
 rw[h3] at hi
 obtain⟨r1,r2⟩:=h.rows i ln v hi hv
 have hxv:=zae r1 h.cells (by decide)
 refine⟨hf.owns r1 (fun k hk e=>hxv (by rw[hk,e])),fun k hk=>?_⟩
 rcases h2 with⟨rfl,e⟩ | ⟨rfl,e⟩
 ·exact r2 k hk
 simp[Value.ownBlock]
theorem zb2.keep {w0 w w':World} {x:Nat} {s:St} {wv sv ov:Value} {rv:List Value} (h:zb2 w0 x s wv sv ov rv w) (hf:Frm (fun _=>False) w w'):zb2 w0 x s wv sv ov rv w' :=
 h.to (hf.mono (fun _ _ h=>h.elim)) (zbh h.cells hf (fun h=>h)) (.inl ⟨rfl,rfl⟩) (.inl ⟨rfl,rfl⟩) rfl
theorem zb2.pushByte {w0 w w3:World} {x:Nat} {s:St} {wv sv ov:Value} {rv:List Value} (h:zb2 w0 x s wv sv ov rv w) (c:UInt8) {wv':Value}
  (hown:w3.ownsRow w0.heap.size 5 1 wv' (s.word.length+1) (zgi s.word ++ [.int .u8 c.toNat])) (hg:w.grownBy w3 wv.ownBlock) :
  zb2 w0 x { s with word:=s.word ++ [c] } wv' sv ov rv (w3.setCell ⟨x,4,none⟩ wv'):=by
 have hxw:=zae h.word h.cells (by decide)
 have f1:Frm (fun k=>wv.ownBlock=some k) w w3:=(Frm.refl _ w).grown hg (fun k hk=>.inr hk)
 have hc3:=zbh h.cells f1 hxw
 have f2:Frm (fun k=>k=x) w3 (w3.setCell ⟨x,4,none⟩ wv'):=Frm.setCell (S:=fun k=>k=x) (Frm.refl _ _) (p:=⟨x,4,none⟩) (.inr rfl) _
 have hx3:=zae hown hc3 (by decide)
 refine⟨?_,?_,?_,?_,h.rlen,?_,?_,h.xB⟩
 ·rw[heap_setCell_same w3 x 4 _ _ wv' hc3];rfl
 ·simp only[List.length_append,List.length_singleton,zgi,List.map_append]
  exact f2.owns hown (fun k hk e=>hx3 (by rw[hk,e]))
 ·have:=f1.owns h.words (fun k hk e=>zc3 h.words h.word (by decide) k hk e)
  have hxs:=zae this hc3 (by decide)
  exact f2.owns this (fun k hk e=>hxs (by rw[hk,e]))
 ·have:=f1.owns h.out (fun k hk e=>zc3 h.out h.word (by decide) k hk e)
  have hxs:=zae this hc3 (by decide)
  exact f2.owns this (fun k hk e=>hxs (by rw[hk,e]))
 ·intro i ln v hi hv
  obtain⟨r1,r2⟩:=h.rows i ln v hi hv
  have:=f1.owns r1 (fun k hk e=>zc3 r1 h.word (by decide) k hk e)
  have hxs:=zae this hc3 (by decide)
  exact⟨f2.owns this (fun k hk e=>hxs (by rw[hk,e])),r2⟩
 have b1:Below w0.heap.size w w3:=f1.below h.bel.size (fun k hk=>(h.word.lt k hk).1)
 exact (h.bel.trans b1).trans (f2.below (by have:=h.bel.size;have:=f1.size;omega) (fun k hk=>by rw[hk];exact h.xB))
theorem zb2.pushWord {w0 w w3:World} {x:Nat} {s:St} {wv sv ov:Value} {rv:List Value} (h:zb2 w0 x s wv sv ov rv w) (a:Wd) {sv':Value}
  (hown:w3.ownsRow w0.heap.size 64 2 sv' (s.words.length+1) (s.words.flatMap zch ++ zch a)) (hg:w.grownBy w3 sv.ownBlock) (hm:zke w sv sv') :
  zb2 w0 x { s with words:=s.words ++ [a] } wv sv' ov rv (w3.setCell ⟨x,5,none⟩ sv'):=by
 have hxw:=zae h.words h.cells (by decide)
 have f1:Frm (fun k=>sv.ownBlock=some k) w w3:=(Frm.refl _ w).grown hg (fun k hk=>.inr hk)
 have hc3:=zbh h.cells f1 hxw
 have f2:Frm (fun k=>k=x) w3 (w3.setCell ⟨x,5,none⟩ sv'):=Frm.setCell (S:=fun k=>k=x) (Frm.refl _ _) (p:=⟨x,5,none⟩) (.inr rfl) _
 have hx3:=zae hown hc3 (by decide)
 refine⟨?_,?_,?_,?_,h.rlen,?_,?_,h.xB⟩
 ·rw[heap_setCell_same w3 x 5 _ _ sv' hc3];rfl
 ·have:=f1.owns h.word (fun k hk e=>zc3 h.word h.words (by decide) k hk e)
  have hxs:=zae this hc3 (by decide)
  exact f2.owns this (fun k hk e=>hxs (by rw[hk,e]))
 ·simp only[List.length_append,List.length_singleton,List.flatMap_append,List.flatMap_cons,List.flatMap_nil,List.append_nil]
  exact f2.owns hown (fun k hk e=>hx3 (by rw[hk,e]))
 ·have:=f1.owns h.out (fun k hk e=>zc3 h.out h.words (by decide) k hk e)
  have hxs:=zae this hc3 (by decide)
  exact f2.owns this (fun k hk e=>hxs (by rw[hk,e]))
 ·intro i ln v hi hv
  obtain⟨r1,r2⟩:=h.rows i ln v hi hv
  have:=f1.owns r1 (fun k hk e=>r2 k hk e)
  have hxs:=zae this hc3 (by decide)
  refine⟨f2.owns this (fun k hk e=>hxs (by rw[hk,e])),fun k hk e=>?_⟩
  rcases hm k e with e | e
  ·exact r2 k hk e
  have:=(r1.lt k hk).2;omega
 have b1:Below w0.heap.size w w3:=f1.below h.bel.size (fun k hk=>(h.words.lt k hk).1)
 exact (h.bel.trans b1).trans (f2.below (by have:=h.bel.size;have:=f1.size;omega) (fun k hk=>by rw[hk];exact h.xB))
theorem zla {out:List Ln} {rv:List Value} (h:rv.length=out.length) (ln:Ln) (v:Value):zef (out ++ [ln]) (rv ++ [v])=zef out rv ++ [.int .i64 ln.1,v]:=by
 unfold zef
 rw[List.zip_append h.symm]
 simp
theorem zb2.pushLine {w0 w w3 w':World} {x:Nat} {s s':St} {wv sv ov:Value} {rv:List Value} (h:zb2 w0 x s wv sv ov rv w) {ov':Value}
  (hown:w3.ownsRow w0.heap.size 62 2 ov' (s.out.length+1) (zef s.out rv ++ [.int .i64 s.line,sv])) (hg:w.grownBy w3 ov.ownBlock) (hf:Frm (fun k=>k=x) w3 w')
  (hc:w'.heap[x]? = some (.cells (zal s' wv (.slice none 0 0) ov') 182 (0,0))) (h1:s'.word=s.word) (h2:s'.words = []) (h3:s'.out=s.out ++ [(s.line,s.words)]) :
  zb2 w0 x s' wv (.slice none 0 0) ov' (rv ++ [sv]) w':=by
 have hxw:=zae h.out h.cells (by decide)
 have f1:Frm (fun k=>ov.ownBlock=some k) w w3:=(Frm.refl _ w).grown hg (fun k hk=>.inr hk)
 have hc3:=zbh h.cells f1 hxw
 have hx3:=zae hown hc3 (by decide)
 refine⟨hc,?_,?_,?_,by rw[h3];simp[h.rlen],?_,?_,h.xB⟩
 ·rw[h1]
  have:=f1.owns h.word (fun k hk e=>zc3 h.word h.out (by decide) k hk e)
  have hxs:=zae this hc3 (by decide)
  exact hf.owns this (fun k hk e=>hxs (by rw[hk,e]))
 ·rw[h2];exact World.ownsRow_nil _ _ _ _
 ·rw[h3,zla h.rlen,List.length_append]
  exact hf.owns hown (fun k hk e=>hx3 (by rw[hk,e]))
 ·intro i ln v hi hv
  refine⟨?_,by simp[Value.ownBlock]⟩
  rw[h3] at hi
  by_cases hlt:i < s.out.length
  ·rw[List.getElem?_append_left hlt] at hi
   rw[List.getElem?_append_left (by rw[h.rlen];exact hlt)] at hv
   obtain⟨r1,r2⟩:=h.rows i ln v hi hv
   have:=f1.owns r1 (fun k hk e=>zc3 r1 h.out (by decide) k hk e)
   have hxs:=zae this hc3 (by decide)
   exact hf.owns this (fun k hk e=>hxs (by rw[hk,e]))
  have hil:=(List.getElem?_eq_some_iff.1 hi).1
  simp at hil
  obtain rfl:i=s.out.length:=by omega
  have hh:=h.rlen
  rw[List.getElem?_append_right (Nat.le_refl _)] at hi
  rw[← hh,List.getElem?_append_right (Nat.le_refl _)] at hv
  simp at hi hv
  subst hi;subst hv
  have:=f1.owns h.words (fun k hk e=>zc3 h.words h.out (by decide) k hk e)
  have hxs:=zae this hc3 (by decide)
  exact hf.owns this (fun k hk e=>hxs (by rw[hk,e]))
 have b1:Below w0.heap.size w w3:=f1.below h.bel.size (fun k hk=>(h.out.lt k hk).1)
 exact (h.bel.trans b1).trans (hf.below (by have:=h.bel.size;have:=f1.size;omega) (fun k hk=>by rw[hk];exact h.xB))
structure Small (s:St) (m:Nat):Prop where
 col:0≤s.col∧s.col≤m
 line:0≤s.line∧s.line≤m+1
 frm:0≤s.frm∧s.frm≤m
 word:s.word.length≤m
 words:s.words.length≤m
 out:s.out.length≤m
 begun:0 < s.frm→s.word≠[]
def RWd:Rd Wd:=fun _ cs x=>cs=zch x∧(Lit.int .i64 x.1).wf=true∧x.2.length≤maxLen
def RLn:Rd Ln:=fun w cs x=>∃ v,cs = [.int .i64 x.1,v]∧zad 2 RWd w [v] x.2∧(Lit.int .i64 x.1).wf=true
abbrev RLns:Rd (List Ln):=zad 2 RLn
theorem zji:zdh RWd:=fun _ _ _ _ h _=>h
theorem stays_ln:zdh RLn:=fun _ _ _ _ ⟨v,h1,h2,h3⟩ hb=>⟨v,h1,za3 zji _ _ _ _ h2 hb,h3⟩
theorem zkn:zdh RLns:=za3 stays_ln
theorem zf3 {α:Type} {w:World} {B:Nat} {e:TypeId} {sz:Nat} {v:Value} {l:List α} (f:α→List Value) (R:Rd α) (hsz:∀ x∈l,(f x).length=sz) (hR:∀ x∈l,R w (f x) x) (h:w.ownsRow B e sz v l.length (l.flatMap f)):zad sz R w [v] l:=by
 have hget:∀ (i:Nat) x,l[i]? = some x→∀ j u,(f x)[j]? = some u→(l.flatMap f)[i * sz+j]? = some u:=by
  clear h hR
  induction l with
  | nil=>intro i x hi;simp at hi
  | cons a l ih =>
   intro i x hi j u hu
   rw[List.flatMap_cons]
   have ha:=hsz a (by simp)
   have hj:j < sz:=by
    have hx:=hsz x (List.mem_of_getElem? hi)
    have:=(List.getElem?_eq_some_iff.1 hu).1
    omega
   match i,hi with
   | 0,hi =>
    simp at hi
    subst hi
    rw[List.getElem?_append_left (by omega)]
    simpa using hu
   | i+1,hi =>
    have hge:sz≤(i+1) * sz+j:=by rw[Nat.succ_mul];omega
    rw[List.getElem?_append_right (by omega),ha,show (i+1) * sz+j - sz=i * sz+j by rw[Nat.succ_mul];omega]
    exact ih (fun y hy=>hsz y (by simp[hy])) i x (by simpa using hi) j u hu
 rcases h.2 with⟨rfl,h0⟩ | ⟨g,cap,cur,rfl,hg,hh,hn,hm,hs,ht⟩
 ·exact⟨none,0,by rw[h0],by omega,Nat.zero_le _,fun i x hi=>by have:=(List.getElem?_eq_some_iff.1 hi).1;omega⟩
 refine⟨some ⟨g,0,none⟩,cap,rfl,hn,hm,fun i x hi=>⟨g,0,f x,rfl,hsz x (List.mem_of_getElem? hi),fun j u hu=>?_,hR x (List.mem_of_getElem? hi)⟩⟩
 have:=h.cells (g:=g) rfl (i * sz+j) u (hget i x hi j u hu)
 rw[Addr.add_lit] at this
 simpa [Nat.add_assoc] using this
end

section
open Go.RowKit
def zcu {α:Type} (f:α→α→Bool) (l m:List α):Bool:=decide (l.length=m.length) && (l.zip m).all fun p=>f p.1 p.2
section
variable {α : Type} {f : α → α → Bool} {l m : List α}
theorem zej (h:l.length≠m.length):zcu f l m=false:=by unfold zcu;rw[decide_eq_false h];rfl
theorem zfu {k:Nat} (h1:k < l.length) (h2:k < m.length) (h:f l[k] m[k]=false):zcu f l m=false:=by
 unfold zcu
 rw[Bool.and_eq_false_iff]
 right
 rw[List.all_eq_false]
 refine⟨(l[k],m[k]),?_,by simp[h]⟩
 rw[List.mem_iff_getElem]
 exact⟨k,by rw[List.length_zip];omega,by simp⟩
theorem zdm (hl:l.length=m.length) (h:∀ j (h1:j < l.length) (h2:j < m.length),f l[j] m[j]=true):zcu f l m=true:=by
 unfold zcu
 rw[decide_eq_true hl,Bool.true_and,List.all_eq_true]
 intro p hp
 obtain⟨j,hj,rfl⟩:=List.getElem_of_mem hp
 rw[List.length_zip] at hj
 rw[List.getElem_zip]
 exact h j (by omega) (by omega)
theorem eqAll_map {β:Type} {g:α→β} (hf:∀ x∈l,∀ y∈m,f x y=true↔g x=g y):zcu f l m=true↔l.map g=m.map g:=by
 constructor
 ·intro h
  unfold zcu at h
  rw[Bool.and_eq_true,decide_eq_true_eq,List.all_eq_true] at h
  refine List.ext_getElem (by simpa using h.1) fun j h1 h2=>?_
  rw[List.length_map] at h1 h2
  rw[List.getElem_map,List.getElem_map]
  refine (hf _ (List.getElem_mem h1) _ (List.getElem_mem h2)).1 (h.2 (l[j],m[j]) ?_)
  rw[List.mem_iff_getElem]
  exact⟨j,by rw[List.length_zip];omega,by simp⟩
 intro h
 have hl:l.length=m.length:=by have:=congrArg List.length h;simpa using this
 refine zdm hl fun j h1 h2=>(hf _ (List.getElem_mem h1) _ (List.getElem_mem h2)).2 ?_
 have h3:(l.map g)[j]? = (m.map g)[j]?:=by rw[h]
 rw[List.getElem?_map,List.getElem?_map,List.getElem?_eq_getElem h1,List.getElem?_eq_getElem h2] at h3
 simpa using h3
end
theorem zcj {α:Type} {sz:Nat} {R:Rd α} {w:World} {a:Option Addr} {n c:Nat} {l:List α} (h:zad sz R w [.slice a n c] l):n=l.length∧n≤9223372036854775807∧∀ i x,l[i]? = some x→∃ b off ecs,a=some ⟨b,off,none⟩∧ecs.length=sz∧(∀ j u,ecs[j]? = some u→w.cell? ⟨b,off+i * sz+j,none⟩=some u)∧R w ecs x:=by
 obtain⟨a',cap,hv,hcap,hmax,hel⟩:=h
 simp only[List.cons.injEq,and_true,Value.slice.injEq] at hv
 obtain⟨rfl,hn,_⟩:=hv
 unfold maxLen at hmax
 exact⟨hn,by omega,hel⟩
theorem zao {α:Type} {sz:Nat} {R:Rd α} {w:World} {v:Value} {l:List α} (h:zad sz R w [v] l):∃ a c,v = .slice a l.length c:=by
 obtain⟨a,cap,hv,_⟩:=h
 simp only[List.cons.injEq,and_true] at hv
 exact⟨a,cap,hv⟩
end
end Go.Proofs.YteailgjiifdgcaaGreatDoor
