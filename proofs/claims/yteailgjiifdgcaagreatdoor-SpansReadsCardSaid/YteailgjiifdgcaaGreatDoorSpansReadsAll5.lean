/- Walks and plain facts. Texts merged: SpsT, SpsFx, SpsR, SpsK, SpnRm, SpsW, SpsB, Ins. Condition: none beyond what each says. -/
import Derived.Lib.Join
import Derived.Test.YteailgjiifdgcaaGreatDoorSpansReadsAll4
set_option linter.unusedVariables false
set_option linter.unusedSimpArgs false
set_option maxRecDepth 10000
set_option maxHeartbeats 4000000
namespace Go.Proofs.YteailgjiifdgcaaGreatDoor
section
open Go.Shelf Go.RowKit Go.Lib Go.Sort SortM VerN
theorem elem_txts:Elem Tryz.prog 88 9 (.string ⟨#[]⟩) 1 16:=⟨Tryz.underlying88,by kernel_rfl,rfl,by decide⟩
def zby (s:BSp):ByteArray:=txS s.1 s.2
theorem ziz {s:BSp} (h:s.1.size≤9000∧s.2.size≤9000):(zby s).size≤18001:=by
 unfold zby txS
 split
 ·have:=zgs s.1 s.2;omega
 decide
def zjg (F:List BSp):ByteArray:=⟨(Lib.join ((F.map zby).map (·.data.toList)) [44]).toArray⟩
theorem zje (B:Nat):∀ (L:List (List UInt8)),(∀ x∈L,x.length≤B)→Lib.lens L≤B * L.length
 | [],_=>by simp[Lib.lens]
 | x :: L,h=>by
  have h1:=zje B L fun y hy=>h y (by simp[hy])
  have h2:=h x (by simp)
  simp only[Lib.lens,List.map_cons,List.sum_cons,List.length_cons] at *
  rw[Nat.mul_add]
  omega
theorem zli {F:List BSp} (h:zct F) (hl:F.length≤80000):(Lib.join ((F.map zby).map (·.data.toList)) [44]).length≤140737488355328:=by
 have hb:∀ x∈(F.map zby).map (·.data.toList),x.length≤18001:=by
  intro x hx
  obtain⟨y,hy,rfl⟩:=List.mem_map.1 hx
  obtain⟨z,hz,rfl⟩:=List.mem_map.1 hy
  rw[Txt.len]
  exact ziz (h z hz)
 have h1:=zje 18001 _ hb
 have h2:((F.map zby).map (·.data.toList)).length≤80000:=by simpa using hl
 obtain⟨L,hL⟩ : ∃ L,L=(F.map zby).map (·.data.toList):=⟨_,rfl⟩
 rw[← hL] at h1 h2 ⊢
 cases L with
 | nil=>simp[Lib.join_nil]
 | cons x r =>
  rw[Lib.join_length]
  simp only[List.length_cons,List.length_nil] at *
  omega
def zbh (l:List Tp):ByteArray:=if zb1 l=false then ⟨#[]⟩ else if (zbw l).length=0 then ⟨#[33]⟩ else zjg (zbw l)
theorem ze4 (l:List Tp):zct (zbw l):=ze5 _ _ (fun z hz=>by simp at hz) (zci _)
theorem zix {F:List BSp} {k:Nat} (h:k < F.length):((F.take (k+1)).map fun s=>Value.string (zby s))=((F.take k).map fun s=>Value.string (zby s)) ++ [Value.string (zby F[k])]:=by
 rw[List.take_succ_eq_append_getElem h,List.map_append];rfl
theorem ze3 {w:World} {v:Value} {l:List Tp} (h:RSps w [v] (tB l)) (hl:l.length≤80000) (hD:zbf w):Calls Tryz.prog 19 #[v] w fun e w'=>e = .returned (.string (zbh l))∧Below w.heap.size w w':=by
 have hF:=zkc h hl hD
 unfold zfi at hF
 obtain⟨a,cap,rfl⟩:=zcg h
 obtain⟨ok,hok⟩ : ∃ b,b=zb1 l:=⟨_,rfl⟩
 obtain⟨n,hn⟩ : ∃ n,n=(tB l).length:=⟨_,rfl⟩
 obtain⟨F,hFF⟩ : ∃ F,F=zbw l:=⟨_,rfl⟩
 rw[← hok,← hFF] at hF
 rw[← hn] at hF h ⊢
 cases ok with
 | false =>
  have ht:zbh l=⟨#[]⟩:=by unfold zbh;rw[if_pos hok.symm]
  rw[ht]
  obtain⟨Hh,HF,Hok,Hn,HFF,HD,Ht⟩:=hd7 h hF hok hn hFF hD ht;clear h hF hok hn hFF hD ht
  go_enter Tryz.func19,Tryz.ntmps19
  go_wp2_with fail
  refine HF.out.mono ?_
  rintro e w1 ⟨o,rfl,_,ho,hb1⟩
  obtain⟨Ho,Hb1⟩:=hd2 ho hb1;clear ho hb1
  go_wp2_with fail
  go_ret
  exact⟨rfl,Hb1.out⟩
 | true =>
  have hlen:F.length≤80000:=by rw[hFF];have:=form_len l;omega
  have hFs:zct F:=by rw[hFF];exact ze4 l
  obtain⟨Hh,HF,Hok,Hn,HFF,HD,HFs⟩:=hd7 h hF hok hn hFF hD hFs;clear h hF hok hn hFF hD hFs
  go_enter Tryz.func19,Tryz.ntmps19
  go_wp2_with fail
  refine HF.out.mono ?_
  rintro e w1 ⟨o,rfl,ho,_,hb1⟩
  have ho:=ho trivial
  obtain⟨oa,oc,rfl⟩:=zad ho
  have hrd:RSps w1 [.slice oa F.length oc] F:=zbz (fun x hx=>by have:=HFs.out x hx;unfold maxLen;omega) ho
  have hat:=zge hrd
  obtain⟨q,hq⟩ : ∃ q,q=F.length:=⟨_,rfl⟩
  rw[← hq] at hlen ⊢
  by_cases h0:q=0
  ·subst h0
   have ht:zbh l=⟨#[33]⟩:=by unfold zbh;rw[if_neg (by rw[← Hok.out];simp),← HFF.out,if_pos hq.symm]
   obtain⟨Ho,Hb1,Hrd,Hat,Hq,Ht⟩:=hd6 ho hb1 hrd hat hq ht;clear ho hb1 hrd hat hq ht
   go_wp2_with fail
   go_ret
   exact⟨by rw[Ht.out];rfl,Hb1.out⟩
  have k0:((q:Int) == 0)=false:=by rw[beq_eq_false_iff_ne];omega
  have ht:zbh l=zjg F:=by unfold zbh;rw[if_neg (by rw[← Hok.out];simp),← HFF.out,if_neg (by rw[← hq];exact h0)]
  have hr0:w1.ownsRow w1.heap.size 9 1 (.slice none 0 0) 0 ((F.take 0).map fun s=>Value.string (zby s)):=World.ownsRow_nil _ _ _ _
  obtain⟨Ho,Hb1,Hrd,Hat,Hq,Ht,Hr0⟩:=hd7 ho hb1 hrd hat hq ht hr0;clear ho hb1 hrd hat hq ht hr0
  go_wp2_with fail
  go_loopw [5,22] (fun v i wr=>∃ k:Nat,k≤q∧i = .int .i64 k∧wr.ownsRow w1.heap.size 9 1 v k ((F.take k).map fun s=>Value.string (zby s))∧Below w1.heap.size w1 wr) (fun _ i _=>q - (RowKit.intOf i).toNat)
  case atStart=>exact⟨0,Nat.zero_le _,rfl,Hr0.out,Below.refl _ _⟩
  case round =>
   obtain⟨k,hk,rfl,hrow,hbr⟩:=hrel
   obtain⟨ra,rc,rfl⟩:=zad hrow
   by_cases hlt:k < q
   ·have hkF:k < F.length:=by have:=Hq.out;omega
    obtain⟨y,hy⟩ : ∃ y,y=F[k]:=⟨_,rfl⟩
    obtain⟨b,off,rfl,c0,c1⟩:=Hat.out k y (by rw[hy];exact List.getElem?_eq_getElem hkF)
    have d0:=cell_later hbr c0
    have d1:=cell_later hbr c1
    have hys:=HFs.out y (by rw[hy];exact List.getElem_mem hkF)
    have hnext:=zix hkF
    rw[← hy] at hnext
    obtain⟨N,hN⟩ : ∃ N,N=(F.take k).map fun s=>Value.string (zby s):=⟨_,rfl⟩
    rw[← hN] at hrow hnext
    obtain⟨y1,y2⟩:=y
    have hba:Below wr.heap.size wr (wr.alloc (.cells #[.string y1,.string y2] 34)):=za2 _ _
    have hbw:=Hb1.out.trans ((hbr.trans (hba.mono hbr.size)).mono Hb1.out.size)
    have hT:=zdb y1 y2 (by have:=hys.1;simp only at this;omega) (by have:=hys.2;simp only at this;omega) (HD.out.below hbw)
    obtain⟨P,hP⟩ : ∃ P,P=txS y1 y2:=⟨_,rfl⟩
    rw[← hP] at hT
    have hPp:zby (y1,y2)=P:=hP.symm
    rw[hPp] at hnext
    have k5:(0:Int)≤(k:Int):=by omega
    have k6:(k:Int) < (q:Int):=by omega
    clear c0 c1
    obtain⟨Hrow,Hbr,Hy,Hys,Hnext,HN,Hba,Hbw,HT,HP,HPp⟩:=hd11 hrow hbr hy hys hnext hN hba hbw hT hP hPp;clear hrow hbr hy hys hnext hN hba hbw hT hP hPp
    go_wp2_with fail
    refine HT.out.mono ?_
    rintro e w5 ⟨rfl,hb5⟩
    have hb15:=Hbr.out.trans ((Hba.out.trans (hb5.mono Hba.out.size)).mono Hbr.out.size)
    have hrow5:=za7 (za7 Hrow.out Hba.out) hb5
    have hz5:=hb15.size
    obtain⟨Hb5,Hb15,Hrow5⟩:=hd3 hb5 hb15 hrow5;clear hb5 hb15 hrow5
    go_wp2_with (at_builtin;(refine zav elem_txts rfl (.tmp 26) (.tmp 29) rfl w1.heap.size (.slice ra k rc) k N rfl Hrow5.out 1 #[.string P] rfl rfl (by simp[Value.oneCell']) (by omega) (by unfold maxLen;omega) (by omega) ?_;intro v9 w9 hown9 hg9 hm9;obtain⟨a9,c9,rfl⟩:=zad hown9;have hb9:=(zbs Hb15.out Hrow5.out (Nat.le_refl _) hg9 (by omega):Below w1.heap.size w1 w9);obtain⟨Hown9,Hb9⟩:=hd2 hown9 hb9;clear hown9 hg9 hm9 hb9))
    go_roundw
    case rel=>exact⟨k+1,by omega,by go_num,by rw[Hnext.out];exact Hown9.out,Hb9.out⟩
    case measure=>(simp[RowKit.intOf]) <;> omega
   obtain rfl:k=q:=by omega
   rw[List.take_of_length_le (Nat.le_of_eq Hq.out.symm)] at hrow
   obtain⟨gr,rc2,hra⟩ : ∃ g c,Value.slice ra k rc = .slice (some ⟨g,0,none⟩) k c:=by
    rcases hrow.2 with⟨h1,h2⟩ | ⟨g,cap,_,h1,_⟩
    ·omega
    exact⟨_,cap,h1⟩
   injection hra with hra _ hrc
   subst hra hrc
   have hJ:=Tryz.strings_Join gr 0 rc (F.map zby) ⟨#[44]⟩ wr (fun j x hj=>by
    have hjl:=(List.getElem?_eq_some_iff.1 hj).1
    have:=hrow.cells (g:=gr) rfl j (.string x) (by
     rw[List.getElem?_map] at hj ⊢
     obtain⟨z,hz,rfl⟩:=Option.map_eq_some_iff.1 hj
     rw[hz];rfl)
    rw[Addr.add_lit] at this
    exact this) (hrow.lt gr rfl).2 (by rw[List.length_map];have:=Hq.out;omega) (by
     rw[List.length_map,← Hq.out]
     rcases hrow.2 with⟨e0,_⟩ | ⟨g',cap',cur,e0,_,_,hn9,_⟩
     ·cases e0
     injection e0 with _ _ e3
     omega) (zli HFs.out (by have:=Hq.out;omega))
   rw[List.length_map,← Hq.out] at hJ
   have hbw:=Hb1.out.trans (hbr.mono Hb1.out.size)
   obtain⟨T,hT⟩ : ∃ T,T=zjg F:=⟨_,rfl⟩
   have hJ2:Calls Tryz.prog 58 #[.slice (some ⟨gr,0,none⟩) k rc,.string ⟨#[44]⟩] wr fun e w'=>e = .returned (.string T)∧Below wr.heap.size wr w':=by rw[hT];exact hJ
   clear hJ
   obtain⟨Hrow,Hbr,Hbw,HT,HJ2⟩:=hd5 hrow hbr hbw hT hJ2;clear hrow hbr hbw hT hJ2
   go_wp2_with fail
   refine HJ2.out.mono ?_
   rintro e w6 ⟨rfl,hb6⟩
   have Hb6:=hd hb6;clear hb6
   go_wp2_with fail
   go_ret
   exact⟨by rw[Ht.out,← HT.out];rfl,Hbw.out.trans (Hb6.out.mono Hbw.out.size)⟩
end

section
open Go.Shelf Go.RowKit Go.Lib VerN
def fx3:List Tp:=[⟨(⟨#[53]⟩,⟨#[53]⟩),by decide⟩,⟨(⟨#[50]⟩,⟨#[51]⟩),by decide⟩,⟨(⟨#[49]⟩,⟨#[50]⟩),by decide⟩]
def fx4:List Tp:=[⟨(⟨#[49]⟩,⟨#[51]⟩),by decide⟩,⟨(⟨#[53]⟩,⟨#[53]⟩),by decide⟩]
theorem fx3_form:zbw fx3=tB fx4:=by decide
theorem fx3_ok:zb1 fx3=true:=by decide
theorem fx4_text:zbh fx4=⟨#[49,58,51,44,53]⟩:=by decide
theorem fx_fixed:(⟨#[49,58,51,44,53]⟩ : ByteArray).toList = [49,58,51,44,53]:=by rw[Lib.toList_data]
theorem zjk {w:World} (hD:zbf w):Calls Tryz.prog 15 #[] w fun e w'=>e = .returned (.bool true)∧Below w.heap.size w w':=by
 obtain⟨w0,hW0⟩ : ∃ W,W=w.alloc (.cells #[.string ⟨#[53]⟩,.string ⟨#[53]⟩,.string ⟨#[50]⟩,.string ⟨#[51]⟩,.string ⟨#[49]⟩,.string ⟨#[50]⟩] 34):=⟨_,rfl⟩
 obtain⟨nb,hnb⟩ : ∃ n,n=w.heap.size:=⟨_,rfl⟩
 have hw:Below w.heap.size w w0:=by rw[hW0];exact za2 _ _
 have hown:w0.ownsRow w.heap.size 34 2 (.slice (some ⟨nb,0,none⟩) 3 3) 3 ((tB fx3).flatMap za9):=by
  rw[hW0,hnb]
  exact World.ownsRow_lit (base:=w.heap.size) (e:=34) (size:=2) w #[.string ⟨#[53]⟩,.string ⟨#[53]⟩,.string ⟨#[50]⟩,.string ⟨#[51]⟩,.string ⟨#[49]⟩,.string ⟨#[50]⟩] 3 (Nat.le_refl _) (by decide) rfl
 have hrd:RSps w0 [.slice (some ⟨nb,0,none⟩) 3 3] (tB fx3):=zbz (fun x hx=>by have:=zci fx3 x hx;unfold maxLen;omega) hown
 have hF:=zkc hrd (by decide) (hD.below hw)
 unfold zfi at hF
 rw[fx3_ok,fx3_form] at hF
 rw[show (tB fx4).length=2 from rfl] at hF
 obtain⟨tx,htx⟩ : ∃ t,t=zbh fx4:=⟨_,rfl⟩
 have hte:(tx.toList == [49,58,51,44,53])=true:=by
  have h9:=Txt.eq_dec tx ⟨#[49,58,51,44,53]⟩
  rw[fx_fixed] at h9
  rw[h9,decide_eq_true]
  rw[htx,fx4_text]
 obtain⟨Hw,Hown,Hrd,HF,HD,Htx⟩:=hd6 hw hown hrd hF hD htx;clear hw hown hrd hF hD htx
 go_enter Tryz.func15,Tryz.ntmps15
 go_upto_region 1 with (fail)
 go_wp2_with fail
 rw[← hW0,← hnb]
 clear hW0 hnb
 refine HF.out.mono ?_
 rintro e w1 ⟨o,rfl,ho,_,hb1⟩
 have ho:=ho trivial
 have hrd2:RSps w1 [o] (tB fx4):=zbz (fun x hx=>by have:=zci fx4 x hx;unfold maxLen;omega) ho
 obtain⟨a,c,rfl⟩:=zad ho
 have hbw:=Hw.out.trans (hb1.mono Hw.out.size)
 have hT:=ze3 hrd2 (by decide) (HD.out.below hbw)
 rw[← Htx.out] at hT
 obtain⟨Ho,Hrd2,Hb1,Hbw,HT⟩:=hd5 ho hrd2 hb1 hbw hT;clear ho hrd2 hb1 hbw hT
 go_wp2_with fail
 refine HT.out.mono ?_
 rintro e w2 ⟨rfl,hb2⟩
 have hbw2:=Hbw.out.trans (hb2.mono Hbw.out.size)
 obtain⟨Hb2,Hbw2⟩:=hd2 hb2 hbw2;clear hb2 hbw2
 go_wp2_with fail
 go_ret
 exact⟨rfl,Hbw2.out⟩
end

section
open Go.Lib VerN SortM
def jnT (a b:Tp):Tp:=⟨jnV a.1.1 a.1.2 b.1.1 b.1.2,by
 have ha:=a.2
 have hb:=b.2
 have h0:(ByteArray.mk #[]).size≤9000:=by decide
 unfold jnV
 split
 ·constructor
  ·show (if _ then _ else _:ByteArray).size≤9000
   split
   ·exact zdd ha.1 hb.1
   exact h0
  show (if _ then _ else _:ByteArray).size≤9000
  split
  ·exact ze7 ha.2 hb.2
  exact h0
 exact⟨h0,h0⟩⟩
def mtT (a b:Tp):Bool:=zb8 (dS a.1) (dS b.1)
def mayT (l:List Tp):Prop:=∀ s∈l,mayS (dS s.1)=true
def covT (l:List Tp) (p:Pt):Prop:=cov (l.map fun x=>dS x.1) p
theorem zh8 {l:List Tp}:mayT l↔zck (l.map (·.1))=true:=by
 rw[zdv]
 unfold mayT
 rw[List.map_map]
 constructor
 ·intro h s hs
  obtain⟨x,hx,rfl⟩:=List.mem_map.1 hs
  exact h x hx
 intro h x hx
 exact h _ (List.mem_map.2 ⟨x,hx,rfl⟩)
theorem mt_symm {a b:Tp} (ha:mayS (dS a.1)=true) (hb:mayS (dS b.1)=true) (h:mtT a b=false):mtT b a=false:=by
 unfold mtT at *
 rw[Bool.eq_false_iff] at *
 intro k
 have:=(zfe hb ha).1 k
 exact h ((zfe ha hb).2 ⟨this.2,this.1⟩)
def MStep (l l':List Tp):Prop:=∃ a b r,l.Perm (a :: b :: r)∧mtT a b=true∧l'=jnT a b :: r
def zgq (l:List Tp):Prop:=l.Pairwise fun a b=>mtT a b=false
theorem zg4 (a:Tp) (l:List Tp) (p:Pt):covT (a :: l) p↔covS (dS a.1) p∨covT l p:=by
 unfold covT cov
 simp only[List.map_cons,List.mem_cons,or_and_right,exists_or,exists_eq_left]
theorem covT_perm {a b:List Tp} (h:a.Perm b) (p:Pt):covT a p↔covT b p:=zhh (h.map _) p
theorem zkr {l l':List Tp} (hm:mayT l) (h:MStep l l'):mayT l'∧(∀ p,covT l' p↔covT l p)∧l'.length+1=l.length:=by
 obtain⟨a,b,r,hp,hab,rfl⟩:=h
 have ha:mayS (dS a.1)=true:=hm a (hp.mem_iff.2 (by simp))
 have hb:mayS (dS b.1)=true:=hm b (hp.mem_iff.2 (by simp))
 have e:dS (jnT a b).1=zc9 (dS a.1) (dS b.1):=jn_dS a.1 b.1
 refine⟨fun s hs=>?_,fun p=>?_,?_⟩
 ·rcases List.mem_cons.1 hs with rfl | hs
  ·rw[e];exact zk9 ha hb
  exact hm s (hp.mem_iff.2 (by simp[hs]))
 ·rw[covT_perm hp,zg4,zg4,zg4,e,zka ha hb hab,or_assoc]
 have:=hp.length_eq
 simp only[List.length_cons] at *
 omega
theorem zl1 {l L:List Tp} (hl:mayT l) (hL:mayT L) (hc:∀ p,covT L p↔covT l p) (hn:zgq L):zbw l=(zbu L).map (·.1):=by
 refine form_of (zh8.1 hl) ?_ fun p=>?_
 ·rw[List.map_map]
  refine sep_of (fun s hs=>?_) (zho L) ?_
  ·obtain⟨x,hx,rfl⟩:=List.mem_map.1 hs
   exact hL x ((zbe L).mem_iff.1 hx)
  rw[List.pairwise_map]
  have h2:L.Pairwise fun a b=>(mtT a b=false∧mayS (dS a.1)=true∧mayS (dS b.1)=true):=hn.imp_of_mem fun ha hb h=>⟨h,hL _ ha,hL _ hb⟩
  have h3:=((zbe L).pairwise_iff (fun {a b} h=>⟨mt_symm h.2.1 h.2.2 h.1,h.2.2,h.2.1⟩)).2 h2
  exact h3.imp fun h=>h.1
 rw[List.map_map,List.map_map]
 exact (zhh ((zbe L).map _) p).trans (hc p)
theorem zl7 {l:List Tp} (h:∀ i k (hi:i < l.length) (hk:k < l.length),i < k→mtT l[i] l[k]=false):zgq l:=by
 unfold zgq
 rw[List.pairwise_iff_getElem]
 intro i k hi hk hik
 exact h i k hi hk hik
def zbk {α:Type} [Inhabited α] (l:List α) (i k:Nat):Nat→List α
 | 0=>[]
 | n+1=>if n≠i∧n≠k then zbk l i k n ++ [l[n]!] else zbk l i k n
theorem zhu {α:Type} [Inhabited α] (l:List α) {i k:Nat} (hik:i < k):∀ n,n≤l.length→(l.take n).Perm ((if i < n then [l[i]!] else []) ++ (if k < n then [l[k]!] else []) ++ zbk l i k n)
 | 0,_=>by simp[zbk]
 | n+1,hn=>by
  have ih:=zhu l hik n (by omega)
  have hl:n < l.length:=by omega
  have e:l[n]! = l[n]:=getElem!_pos l n hl
  rw[List.take_succ_eq_append_getElem hl]
  unfold zbk
  by_cases h1:n=i
  ·subst h1
   rw[if_neg (Nat.lt_irrefl _),if_neg (by omega)] at ih
   rw[if_pos (by omega),if_neg (by omega),if_neg (by simp),e]
   simp only[List.nil_append,List.append_nil] at ih ⊢
   exact (ih.append_right _).trans List.perm_append_comm
  by_cases h2:n=k
  ·subst h2
   rw[if_pos hik,if_neg (Nat.lt_irrefl _)] at ih
   rw[if_pos (by omega),if_pos (by omega),if_neg (by simp),e]
   simp only[List.append_nil] at ih
   refine (ih.append_right _).trans ?_
   rw[List.append_assoc,List.append_assoc]
   exact List.Perm.append_left _ List.perm_append_comm
  rw[if_pos (show n≠i∧n≠k from ⟨h1,h2⟩),e,← List.append_assoc]
  have c1:(i < n+1)=(i < n):=by apply propext;omega
  have c2:(k < n+1)=(k < n):=by apply propext;omega
  simp only[c1,c2]
  exact ih.append_right _
theorem pick_all {α:Type} [Inhabited α] (l:List α) {i k:Nat} (hik:i < k) (hk:k < l.length):l.Perm (l[i]'(by omega) :: l[k] :: zbk l i k l.length):=by
 have h:=zhu l hik l.length (Nat.le_refl _)
 rw[List.take_length,if_pos (by omega),if_pos hk,getElem!_pos l i (by omega),getElem!_pos l k hk] at h
 exact h
theorem zk4 {α:Type} [Inhabited α] (l:List α) (i k:Nat):∀ n,(zbk l i k n).length≤n
 | 0=>by simp[zbk]
 | n+1=>by
  have:=zk4 l i k n
  unfold zbk
  split
  ·simp;omega
  omega
theorem step_of {l:List Tp} {i k:Nat} (hik:i < k) (hk:k < l.length) (h:mtT (l[i]'(by omega)) l[k]=true):MStep l (jnT (l[i]'(by omega)) l[k] :: zbk l i k l.length) :=
 ⟨_,_,_,pick_all l hik hk,h,rfl⟩
end

section
open Go.RowKit Go.Lib VerN
set_option linter.unusedSimpArgs false
theorem size0 {s:ByteArray} (h:s.size=0):s=⟨#[]⟩:=Txt.ext ((zan s).2 h)
theorem jn_lo (lo hi lp hj:ByteArray) (m1:mayS (lo.data.toList,hi.data.toList)=true) (m2:mayS (lp.data.toList,hj.data.toList)=true):(jnV lo hi lp hj).1=if lp.size=0∨(lo.size≠0∧zcw lp.data.toList lo.data.toList=true) then lp else lo:=by
 unfold jnV
 rw[if_pos ⟨m1,m2⟩]
 show (if lo.size≠0∧lp.size≠0 then zay lo lp else ⟨#[]⟩)=_
 by_cases h1:lp.size=0
 ·rw[if_neg (fun h=>h.2 h1),if_pos (.inl h1)];exact (size0 h1).symm
 by_cases h2:lo.size=0
 ·rw[if_neg (fun h=>h.1 h2),if_neg (by rintro (h | h);exact h1 h;exact h.1 h2)];exact (size0 h2).symm
 rw[if_pos ⟨h2,h1⟩]
 unfold zay
 have e:zb3 lp.data.toList lo.data.toList=zcw lp.data.toList lo.data.toList:=by
  rw[zd0,decide_eq_true (show lp.data.toList≠[] from fun e=>h1 ((zan lp).1 e)),decide_eq_true (show lo.data.toList≠[] from fun e=>h2 ((zan lo).1 e))];rfl
 rw[e]
 simp[h1,h2]
theorem jn_hi (lo hi lp hj:ByteArray) (m1:mayS (lo.data.toList,hi.data.toList)=true) (m2:mayS (lp.data.toList,hj.data.toList)=true):(jnV lo hi lp hj).2=if hj.size=0∨(hi.size≠0∧zcw hi.data.toList hj.data.toList=true) then hj else hi:=by
 unfold jnV
 rw[if_pos ⟨m1,m2⟩]
 show (if hi.size≠0∧hj.size≠0 then zbq hi hj else ⟨#[]⟩)=_
 by_cases h1:hj.size=0
 ·rw[if_neg (fun h=>h.2 h1),if_pos (.inl h1)];exact (size0 h1).symm
 by_cases h2:hi.size=0
 ·rw[if_neg (fun h=>h.1 h2),if_neg (by rintro (h | h);exact h1 h;exact h.1 h2)];exact (size0 h2).symm
 rw[if_pos ⟨h2,h1⟩]
 unfold zbq
 have e:zb3 hi.data.toList hj.data.toList=zcw hi.data.toList hj.data.toList:=by
  rw[zd0,decide_eq_true (show hi.data.toList≠[] from fun e=>h2 ((zan hi).1 e)),decide_eq_true (show hj.data.toList≠[] from fun e=>h1 ((zan hj).1 e))];rfl
 rw[e]
 simp[h1,h2]
theorem ziu (lo hi lp hj:ByteArray) (hl:lo.size≤1000000) (hh:hi.size≤1000000) (hl2:lp.size≤1000000) (hh2:hj.size≤1000000) (m1:mayS (lo.data.toList,hi.data.toList)=true) (m2:mayS (lp.data.toList,hj.data.toList)=true) (w:World):Calls Tryz.prog 119 #[.agg #[.string lo,.string hi],.agg #[.string lp,.string hj]] w fun e w'=>e = .returned (.agg #[.string (jnV lo hi lp hj).1,.string (jnV lo hi lp hj).2])∧Below w.heap.size w w':=by
 obtain⟨w0,hW0⟩ : ∃ W0,W0=((w.alloc (.cells #[.string lo,.string hi] 34)).alloc (.cells #[.string lp,.string hj] 34)).alloc (.cells #[.string ⟨#[]⟩,.string ⟨#[]⟩] 34):=⟨_,rfl⟩
 obtain⟨nb,hnb⟩ : ∃ nb,nb=w.heap.size:=⟨_,rfl⟩
 have hw:Below w.heap.size w w0:=by rw[hW0];exact ((za2 _ _).alloc (za2 _ _).size _).alloc ((za2 _ _).alloc (za2 _ _).size _).size _
 have hb0:Below w0.heap.size w0 w0:=Below.refl _ _
 have ha:w0.heap[nb]? = some (.cells #[.string lo,.string hi] 34 (0,0)):=by rw[hW0,hnb];exact zh2 _ _ _ _ _ _ _
 obtain⟨a0,a1,a2,a3⟩:=za0 ha
 have hb:w0.heap[nb+1]? = some (.cells #[.string lp,.string hj] 34 (0,0)):=by rw[hW0,hnb];exact zh1 _ _ _ _ _ _ _
 obtain⟨b0,b1,b2,b3⟩:=za0 hb
 have hr:w0.heap[nb+1+1]? = some (.cells #[.string ⟨#[]⟩,.string ⟨#[]⟩] 34 (0,0)):=by rw[hW0,hnb];exact zh0 _ _ _ _ _ _ _
 obtain⟨r0,r1,r2,r3⟩:=za0 hr
 have hX:=fun (W:World) (_:Below w0.heap.size w0 W)=>zcx lp lo hl2 hl W
 have hY:=fun (W:World) (_:Below w0.heap.size w0 W)=>zcx hi hj hh hh2 W
 have hlv:=jn_lo lo hi lp hj m1 m2
 have hsv:=jn_hi lo hi lp hj m1 m2
 obtain⟨rx,hrx⟩ : ∃ x,x=zcw lp.data.toList lo.data.toList:=⟨_,rfl⟩
 obtain⟨ry,hry⟩ : ∃ x,x=zcw hi.data.toList hj.data.toList:=⟨_,rfl⟩
 obtain⟨d1,k1⟩ : ∃ x,lp.toList.isEmpty=x:=⟨_,rfl⟩
 obtain⟨d2,k2⟩ : ∃ x,lo.toList.isEmpty=x:=⟨_,rfl⟩
 obtain⟨d3,k3⟩ : ∃ x,hj.toList.isEmpty=x:=⟨_,rfl⟩
 obtain⟨d4,k4⟩ : ∃ x,hi.toList.isEmpty=x:=⟨_,rfl⟩
 rw[← hrx] at hlv
 rw[← hry] at hsv
 have hlv:(jnV lo hi lp hj).1=if d1=true∨(d2=false∧rx=true) then lp else lo:=by rw[hlv,← k1,← k2];simp only[Txt.no_dec,decide_eq_false_iff_not,ne_eq,decide_eq_true_eq]
 have hsv:(jnV lo hi lp hj).2=if d3=true∨(d4=false∧ry=true) then hj else hi:=by rw[hsv,← k3,← k4];simp only[Txt.no_dec,decide_eq_false_iff_not,ne_eq,decide_eq_true_eq]
 have hle:w.heap.size≤nb+1+1:=by omega
 obtain⟨vv1,hvv1⟩ : ∃ x,x=(jnV lo hi lp hj).1:=⟨_,rfl⟩
 obtain⟨vv2,hvv2⟩ : ∃ x,x=(jnV lo hi lp hj).2:=⟨_,rfl⟩
 rw[← hvv1] at hlv ⊢
 rw[← hvv2] at hsv ⊢
 rw[← hrx] at hX
 rw[← hry] at hY
 clear hrx hry m1 m2 hvv1 hvv2
 obtain⟨HX,HY,Hlv,Hsv,Hle,Hw,Hb0,Ha,Hb,Hr⟩:=hd10 hX hY hlv hsv hle hw hb0 ha hb hr;clear hX hY hlv hsv hle hw hb0 ha hb hr
 go_enter Tryz.func119,Tryz.ntmps119
 go_upto_region 1 with (fail)
 rw[← hW0,← hnb]
 clear hW0 hnb
 go_upto_region 2 with (fail)
 obtain⟨w1,hv⟩ : ∃ W,W=w0.alloc (.cells #[.string lo,.string hi] 34):=⟨_,rfl⟩
 obtain⟨go,hg⟩ : ∃ g,g=w0.heap.size:=⟨_,rfl⟩
 have hs:Below w0.heap.size w0 w1:=by rw[hv];exact za2 _ _
 have hb1:=Hb0.out.trans (hs.mono Hb0.out.size)
 have hgeo:w0.heap.size≤go:=by rw[hg];exact Hb0.out.size
 have hneao:nb≠go:=by have:=(Array.getElem?_eq_some_iff.1 Ha.out).1;omega
 have hnebo:nb+1≠go:=by have:=(Array.getElem?_eq_some_iff.1 Hb.out).1;omega
 have hnero:nb+1+1≠go:=by have:=(Array.getElem?_eq_some_iff.1 Hr.out).1;omega
 have ha:=za1 hs Ha.out
 clear Ha a0 a1 a2 a3
 obtain⟨a0,a1,a2,a3⟩:=za0 ha
 have hb:=za1 hs Hb.out
 clear Hb b0 b1 b2 b3
 obtain⟨b0,b1,b2,b3⟩:=za0 hb
 have hr:=za1 hs Hr.out
 clear Hr r0 r1 r2 r3
 obtain⟨r0,r1,r2,r3⟩:=za0 hr
 have ho:w1.heap[go]? = some (.cells #[.string lo,.string hi] 34 (0,0)):=by rw[hv,hg];exact heap_alloc_new _ _
 obtain⟨o0,o1,o2,o3⟩:=za0 ho
 rw[← hv,← hg]
 clear hv hg
 obtain⟨Hs,Hb1,Hgeo,Ha,Hb,Hr,Ho,Hneao,Hnebo,Hnero⟩:=hd10 hs hb1 hgeo ha hb hr ho hneao hnebo hnero;clear hs hb1 hgeo ha hb hr ho hneao hnebo hnero
 cases d1 with
 | false =>
  cases d2 with
  | false =>
   go_wp2_with fail
   refine (HX.out _ Hb1.out).mono ?_
   rintro e w2 ⟨rfl,hs⟩
   have hb2:=Hb1.out.trans (hs.mono Hb1.out.size)
   have ha:=za1 hs Ha.out
   clear Ha a0 a1 a2 a3
   obtain⟨a0,a1,a2,a3⟩:=za0 ha
   have hb:=za1 hs Hb.out
   clear Hb b0 b1 b2 b3
   obtain⟨b0,b1,b2,b3⟩:=za0 hb
   have hr:=za1 hs Hr.out
   clear Hr r0 r1 r2 r3
   obtain⟨r0,r1,r2,r3⟩:=za0 hr
   have ho:=za1 hs Ho.out
   clear Ho o0 o1 o2 o3
   obtain⟨o0,o1,o2,o3⟩:=za0 ho
   obtain⟨Hs,Hb2,Ha,Hb,Hr,Ho⟩:=hd6 hs hb2 ha hb hr ho;clear hs hb2 ha hb hr ho
   cases rx with
   | false =>
    cases d3 with
    | false =>
     cases d4 with
     | false =>
      go_wp2_with fail
      refine (HY.out _ Hb2.out).mono ?_
      rintro e w3 ⟨rfl,hs⟩
      have hb3:=Hb2.out.trans (hs.mono Hb2.out.size)
      have ha:=za1 hs Ha.out
      clear Ha a0 a1 a2 a3
      obtain⟨a0,a1,a2,a3⟩:=za0 ha
      have hb:=za1 hs Hb.out
      clear Hb b0 b1 b2 b3
      obtain⟨b0,b1,b2,b3⟩:=za0 hb
      have hr:=za1 hs Hr.out
      clear Hr r0 r1 r2 r3
      obtain⟨r0,r1,r2,r3⟩:=za0 hr
      have ho:=za1 hs Ho.out
      clear Ho o0 o1 o2 o3
      obtain⟨o0,o1,o2,o3⟩:=za0 ho
      obtain⟨Hs,Hb3,Ha,Hb,Hr,Ho⟩:=hd6 hs hb3 ha hb hr ho;clear hs hb3 ha hb hr ho
      cases ry with
      | false =>
       go_wp2_with fail
       refine za8 rfl rfl (za6 _ _ Hr.out) rfl ?_
       exact⟨zah (by first | rfl | (rw[Hlv.out];rfl)) (by first | rfl | (rw[Hsv.out];rfl)),za5 _ _ (za3 Hw.out Hb3.out) Hle.out⟩
      | true =>
       go_upto_region 6 with (fail)
       obtain⟨w4,hv⟩ : ∃ W,W=w3.setCell ⟨go,1,none⟩ (.string hj):=⟨_,rfl⟩
       have hb4:Below w0.heap.size w0 w4:=by rw[hv];exact Hb3.out.setCell (p:=⟨go,1,none⟩) Hgeo.out _
       have ha:w4.heap[nb]? = some (.cells #[.string lo,.string hi] 34 (0,0)):=by rw[hv,Below.heap_setCell _ _ _ _ Hneao.out];exact Ha.out
       clear Ha a0 a1 a2 a3
       obtain⟨a0,a1,a2,a3⟩:=za0 ha
       have hb:w4.heap[nb+1]? = some (.cells #[.string lp,.string hj] 34 (0,0)):=by rw[hv,Below.heap_setCell _ _ _ _ Hnebo.out];exact Hb.out
       clear Hb b0 b1 b2 b3
       obtain⟨b0,b1,b2,b3⟩:=za0 hb
       have hr:w4.heap[nb+1+1]? = some (.cells #[.string ⟨#[]⟩,.string ⟨#[]⟩] 34 (0,0)):=by rw[hv,Below.heap_setCell _ _ _ _ Hnero.out];exact Hr.out
       clear Hr r0 r1 r2 r3
       obtain⟨r0,r1,r2,r3⟩:=za0 hr
       have ho:w4.heap[go]? = some (.cells #[.string lo,.string hj] 34 (0,0)):=by rw[hv];exact heap_setCell_same _ go 1 _ _ _ Ho.out
       clear Ho o0 o1 o2 o3
       obtain⟨o0,o1,o2,o3⟩:=za0 ho
       rw[← hv]
       clear hv
       obtain⟨Hb4,Ha,Hb,Hr,Ho⟩:=hd5 hb4 ha hb hr ho;clear hb4 ha hb hr ho
       go_wp2_with fail
       refine za8 rfl rfl (za6 _ _ Hr.out) rfl ?_
       exact⟨zah (by first | rfl | (rw[Hlv.out];rfl)) (by first | rfl | (rw[Hsv.out];rfl)),za5 _ _ (za3 Hw.out Hb4.out) Hle.out⟩
     | true =>
      go_wp2_with fail
      refine za8 rfl rfl (za6 _ _ Hr.out) rfl ?_
      exact⟨zah (by first | rfl | (rw[Hlv.out];rfl)) (by first | rfl | (rw[Hsv.out];rfl)),za5 _ _ (za3 Hw.out Hb2.out) Hle.out⟩
    | true =>
     go_upto_region 6 with (fail)
     obtain⟨w3,hv⟩ : ∃ W,W=w2.setCell ⟨go,1,none⟩ (.string hj):=⟨_,rfl⟩
     have hb3:Below w0.heap.size w0 w3:=by rw[hv];exact Hb2.out.setCell (p:=⟨go,1,none⟩) Hgeo.out _
     have ha:w3.heap[nb]? = some (.cells #[.string lo,.string hi] 34 (0,0)):=by rw[hv,Below.heap_setCell _ _ _ _ Hneao.out];exact Ha.out
     clear Ha a0 a1 a2 a3
     obtain⟨a0,a1,a2,a3⟩:=za0 ha
     have hb:w3.heap[nb+1]? = some (.cells #[.string lp,.string hj] 34 (0,0)):=by rw[hv,Below.heap_setCell _ _ _ _ Hnebo.out];exact Hb.out
     clear Hb b0 b1 b2 b3
     obtain⟨b0,b1,b2,b3⟩:=za0 hb
     have hr:w3.heap[nb+1+1]? = some (.cells #[.string ⟨#[]⟩,.string ⟨#[]⟩] 34 (0,0)):=by rw[hv,Below.heap_setCell _ _ _ _ Hnero.out];exact Hr.out
     clear Hr r0 r1 r2 r3
     obtain⟨r0,r1,r2,r3⟩:=za0 hr
     have ho:w3.heap[go]? = some (.cells #[.string lo,.string hj] 34 (0,0)):=by rw[hv];exact heap_setCell_same _ go 1 _ _ _ Ho.out
     clear Ho o0 o1 o2 o3
     obtain⟨o0,o1,o2,o3⟩:=za0 ho
     rw[← hv]
     clear hv
     obtain⟨Hb3,Ha,Hb,Hr,Ho⟩:=hd5 hb3 ha hb hr ho;clear hb3 ha hb hr ho
     go_wp2_with fail
     refine za8 rfl rfl (za6 _ _ Hr.out) rfl ?_
     exact⟨zah (by first | rfl | (rw[Hlv.out];rfl)) (by first | rfl | (rw[Hsv.out];rfl)),za5 _ _ (za3 Hw.out Hb3.out) Hle.out⟩
   | true =>
    go_upto_region 4 with (fail)
    obtain⟨w3,hv⟩ : ∃ W,W=w2.setCell ⟨go,0,none⟩ (.string lp):=⟨_,rfl⟩
    have hb3:Below w0.heap.size w0 w3:=by rw[hv];exact Hb2.out.setCell (p:=⟨go,0,none⟩) Hgeo.out _
    have ha:w3.heap[nb]? = some (.cells #[.string lo,.string hi] 34 (0,0)):=by rw[hv,Below.heap_setCell _ _ _ _ Hneao.out];exact Ha.out
    clear Ha a0 a1 a2 a3
    obtain⟨a0,a1,a2,a3⟩:=za0 ha
    have hb:w3.heap[nb+1]? = some (.cells #[.string lp,.string hj] 34 (0,0)):=by rw[hv,Below.heap_setCell _ _ _ _ Hnebo.out];exact Hb.out
    clear Hb b0 b1 b2 b3
    obtain⟨b0,b1,b2,b3⟩:=za0 hb
    have hr:w3.heap[nb+1+1]? = some (.cells #[.string ⟨#[]⟩,.string ⟨#[]⟩] 34 (0,0)):=by rw[hv,Below.heap_setCell _ _ _ _ Hnero.out];exact Hr.out
    clear Hr r0 r1 r2 r3
    obtain⟨r0,r1,r2,r3⟩:=za0 hr
    have ho:w3.heap[go]? = some (.cells #[.string lp,.string hi] 34 (0,0)):=by rw[hv];exact heap_setCell_same _ go 0 _ _ _ Ho.out
    clear Ho o0 o1 o2 o3
    obtain⟨o0,o1,o2,o3⟩:=za0 ho
    rw[← hv]
    clear hv
    obtain⟨Hb3,Ha,Hb,Hr,Ho⟩:=hd5 hb3 ha hb hr ho;clear hb3 ha hb hr ho
    cases d3 with
    | false =>
     cases d4 with
     | false =>
      go_wp2_with fail
      refine (HY.out _ Hb3.out).mono ?_
      rintro e w4 ⟨rfl,hs⟩
      have hb4:=Hb3.out.trans (hs.mono Hb3.out.size)
      have ha:=za1 hs Ha.out
      clear Ha a0 a1 a2 a3
      obtain⟨a0,a1,a2,a3⟩:=za0 ha
      have hb:=za1 hs Hb.out
      clear Hb b0 b1 b2 b3
      obtain⟨b0,b1,b2,b3⟩:=za0 hb
      have hr:=za1 hs Hr.out
      clear Hr r0 r1 r2 r3
      obtain⟨r0,r1,r2,r3⟩:=za0 hr
      have ho:=za1 hs Ho.out
      clear Ho o0 o1 o2 o3
      obtain⟨o0,o1,o2,o3⟩:=za0 ho
      obtain⟨Hs,Hb4,Ha,Hb,Hr,Ho⟩:=hd6 hs hb4 ha hb hr ho;clear hs hb4 ha hb hr ho
      cases ry with
      | false =>
       go_wp2_with fail
       refine za8 rfl rfl (za6 _ _ Hr.out) rfl ?_
       exact⟨zah (by first | rfl | (rw[Hlv.out];rfl)) (by first | rfl | (rw[Hsv.out];rfl)),za5 _ _ (za3 Hw.out Hb4.out) Hle.out⟩
      | true =>
       go_upto_region 6 with (fail)
       obtain⟨w5,hv⟩ : ∃ W,W=w4.setCell ⟨go,1,none⟩ (.string hj):=⟨_,rfl⟩
       have hb5:Below w0.heap.size w0 w5:=by rw[hv];exact Hb4.out.setCell (p:=⟨go,1,none⟩) Hgeo.out _
       have ha:w5.heap[nb]? = some (.cells #[.string lo,.string hi] 34 (0,0)):=by rw[hv,Below.heap_setCell _ _ _ _ Hneao.out];exact Ha.out
       clear Ha a0 a1 a2 a3
       obtain⟨a0,a1,a2,a3⟩:=za0 ha
       have hb:w5.heap[nb+1]? = some (.cells #[.string lp,.string hj] 34 (0,0)):=by rw[hv,Below.heap_setCell _ _ _ _ Hnebo.out];exact Hb.out
       clear Hb b0 b1 b2 b3
       obtain⟨b0,b1,b2,b3⟩:=za0 hb
       have hr:w5.heap[nb+1+1]? = some (.cells #[.string ⟨#[]⟩,.string ⟨#[]⟩] 34 (0,0)):=by rw[hv,Below.heap_setCell _ _ _ _ Hnero.out];exact Hr.out
       clear Hr r0 r1 r2 r3
       obtain⟨r0,r1,r2,r3⟩:=za0 hr
       have ho:w5.heap[go]? = some (.cells #[.string lp,.string hj] 34 (0,0)):=by rw[hv];exact heap_setCell_same _ go 1 _ _ _ Ho.out
       clear Ho o0 o1 o2 o3
       obtain⟨o0,o1,o2,o3⟩:=za0 ho
       rw[← hv]
       clear hv
       obtain⟨Hb5,Ha,Hb,Hr,Ho⟩:=hd5 hb5 ha hb hr ho;clear hb5 ha hb hr ho
       go_wp2_with fail
       refine za8 rfl rfl (za6 _ _ Hr.out) rfl ?_
       exact⟨zah (by first | rfl | (rw[Hlv.out];rfl)) (by first | rfl | (rw[Hsv.out];rfl)),za5 _ _ (za3 Hw.out Hb5.out) Hle.out⟩
     | true =>
      go_wp2_with fail
      refine za8 rfl rfl (za6 _ _ Hr.out) rfl ?_
      exact⟨zah (by first | rfl | (rw[Hlv.out];rfl)) (by first | rfl | (rw[Hsv.out];rfl)),za5 _ _ (za3 Hw.out Hb3.out) Hle.out⟩
    | true =>
     go_upto_region 6 with (fail)
     obtain⟨w4,hv⟩ : ∃ W,W=w3.setCell ⟨go,1,none⟩ (.string hj):=⟨_,rfl⟩
     have hb4:Below w0.heap.size w0 w4:=by rw[hv];exact Hb3.out.setCell (p:=⟨go,1,none⟩) Hgeo.out _
     have ha:w4.heap[nb]? = some (.cells #[.string lo,.string hi] 34 (0,0)):=by rw[hv,Below.heap_setCell _ _ _ _ Hneao.out];exact Ha.out
     clear Ha a0 a1 a2 a3
     obtain⟨a0,a1,a2,a3⟩:=za0 ha
     have hb:w4.heap[nb+1]? = some (.cells #[.string lp,.string hj] 34 (0,0)):=by rw[hv,Below.heap_setCell _ _ _ _ Hnebo.out];exact Hb.out
     clear Hb b0 b1 b2 b3
     obtain⟨b0,b1,b2,b3⟩:=za0 hb
     have hr:w4.heap[nb+1+1]? = some (.cells #[.string ⟨#[]⟩,.string ⟨#[]⟩] 34 (0,0)):=by rw[hv,Below.heap_setCell _ _ _ _ Hnero.out];exact Hr.out
     clear Hr r0 r1 r2 r3
     obtain⟨r0,r1,r2,r3⟩:=za0 hr
     have ho:w4.heap[go]? = some (.cells #[.string lp,.string hj] 34 (0,0)):=by rw[hv];exact heap_setCell_same _ go 1 _ _ _ Ho.out
     clear Ho o0 o1 o2 o3
     obtain⟨o0,o1,o2,o3⟩:=za0 ho
     rw[← hv]
     clear hv
     obtain⟨Hb4,Ha,Hb,Hr,Ho⟩:=hd5 hb4 ha hb hr ho;clear hb4 ha hb hr ho
     go_wp2_with fail
     refine za8 rfl rfl (za6 _ _ Hr.out) rfl ?_
     exact⟨zah (by first | rfl | (rw[Hlv.out];rfl)) (by first | rfl | (rw[Hsv.out];rfl)),za5 _ _ (za3 Hw.out Hb4.out) Hle.out⟩
  | true =>
   cases d3 with
   | false =>
    cases d4 with
    | false =>
     go_wp2_with fail
     refine (HY.out _ Hb1.out).mono ?_
     rintro e w2 ⟨rfl,hs⟩
     have hb2:=Hb1.out.trans (hs.mono Hb1.out.size)
     have ha:=za1 hs Ha.out
     clear Ha a0 a1 a2 a3
     obtain⟨a0,a1,a2,a3⟩:=za0 ha
     have hb:=za1 hs Hb.out
     clear Hb b0 b1 b2 b3
     obtain⟨b0,b1,b2,b3⟩:=za0 hb
     have hr:=za1 hs Hr.out
     clear Hr r0 r1 r2 r3
     obtain⟨r0,r1,r2,r3⟩:=za0 hr
     have ho:=za1 hs Ho.out
     clear Ho o0 o1 o2 o3
     obtain⟨o0,o1,o2,o3⟩:=za0 ho
     obtain⟨Hs,Hb2,Ha,Hb,Hr,Ho⟩:=hd6 hs hb2 ha hb hr ho;clear hs hb2 ha hb hr ho
     cases ry with
     | false =>
      go_wp2_with fail
      refine za8 rfl rfl (za6 _ _ Hr.out) rfl ?_
      exact⟨zah (by first | rfl | (rw[Hlv.out];rfl)) (by first | rfl | (rw[Hsv.out];rfl)),za5 _ _ (za3 Hw.out Hb2.out) Hle.out⟩
     | true =>
      go_upto_region 6 with (fail)
      obtain⟨w3,hv⟩ : ∃ W,W=w2.setCell ⟨go,1,none⟩ (.string hj):=⟨_,rfl⟩
      have hb3:Below w0.heap.size w0 w3:=by rw[hv];exact Hb2.out.setCell (p:=⟨go,1,none⟩) Hgeo.out _
      have ha:w3.heap[nb]? = some (.cells #[.string lo,.string hi] 34 (0,0)):=by rw[hv,Below.heap_setCell _ _ _ _ Hneao.out];exact Ha.out
      clear Ha a0 a1 a2 a3
      obtain⟨a0,a1,a2,a3⟩:=za0 ha
      have hb:w3.heap[nb+1]? = some (.cells #[.string lp,.string hj] 34 (0,0)):=by rw[hv,Below.heap_setCell _ _ _ _ Hnebo.out];exact Hb.out
      clear Hb b0 b1 b2 b3
      obtain⟨b0,b1,b2,b3⟩:=za0 hb
      have hr:w3.heap[nb+1+1]? = some (.cells #[.string ⟨#[]⟩,.string ⟨#[]⟩] 34 (0,0)):=by rw[hv,Below.heap_setCell _ _ _ _ Hnero.out];exact Hr.out
      clear Hr r0 r1 r2 r3
      obtain⟨r0,r1,r2,r3⟩:=za0 hr
      have ho:w3.heap[go]? = some (.cells #[.string lo,.string hj] 34 (0,0)):=by rw[hv];exact heap_setCell_same _ go 1 _ _ _ Ho.out
      clear Ho o0 o1 o2 o3
      obtain⟨o0,o1,o2,o3⟩:=za0 ho
      rw[← hv]
      clear hv
      obtain⟨Hb3,Ha,Hb,Hr,Ho⟩:=hd5 hb3 ha hb hr ho;clear hb3 ha hb hr ho
      go_wp2_with fail
      refine za8 rfl rfl (za6 _ _ Hr.out) rfl ?_
      exact⟨zah (by first | rfl | (rw[Hlv.out];rfl)) (by first | rfl | (rw[Hsv.out];rfl)),za5 _ _ (za3 Hw.out Hb3.out) Hle.out⟩
    | true =>
     go_wp2_with fail
     refine za8 rfl rfl (za6 _ _ Hr.out) rfl ?_
     exact⟨zah (by first | rfl | (rw[Hlv.out];rfl)) (by first | rfl | (rw[Hsv.out];rfl)),za5 _ _ (za3 Hw.out Hb1.out) Hle.out⟩
   | true =>
    go_upto_region 6 with (fail)
    obtain⟨w2,hv⟩ : ∃ W,W=w1.setCell ⟨go,1,none⟩ (.string hj):=⟨_,rfl⟩
    have hb2:Below w0.heap.size w0 w2:=by rw[hv];exact Hb1.out.setCell (p:=⟨go,1,none⟩) Hgeo.out _
    have ha:w2.heap[nb]? = some (.cells #[.string lo,.string hi] 34 (0,0)):=by rw[hv,Below.heap_setCell _ _ _ _ Hneao.out];exact Ha.out
    clear Ha a0 a1 a2 a3
    obtain⟨a0,a1,a2,a3⟩:=za0 ha
    have hb:w2.heap[nb+1]? = some (.cells #[.string lp,.string hj] 34 (0,0)):=by rw[hv,Below.heap_setCell _ _ _ _ Hnebo.out];exact Hb.out
    clear Hb b0 b1 b2 b3
    obtain⟨b0,b1,b2,b3⟩:=za0 hb
    have hr:w2.heap[nb+1+1]? = some (.cells #[.string ⟨#[]⟩,.string ⟨#[]⟩] 34 (0,0)):=by rw[hv,Below.heap_setCell _ _ _ _ Hnero.out];exact Hr.out
    clear Hr r0 r1 r2 r3
    obtain⟨r0,r1,r2,r3⟩:=za0 hr
    have ho:w2.heap[go]? = some (.cells #[.string lo,.string hj] 34 (0,0)):=by rw[hv];exact heap_setCell_same _ go 1 _ _ _ Ho.out
    clear Ho o0 o1 o2 o3
    obtain⟨o0,o1,o2,o3⟩:=za0 ho
    rw[← hv]
    clear hv
    obtain⟨Hb2,Ha,Hb,Hr,Ho⟩:=hd5 hb2 ha hb hr ho;clear hb2 ha hb hr ho
    go_wp2_with fail
    refine za8 rfl rfl (za6 _ _ Hr.out) rfl ?_
    exact⟨zah (by first | rfl | (rw[Hlv.out];rfl)) (by first | rfl | (rw[Hsv.out];rfl)),za5 _ _ (za3 Hw.out Hb2.out) Hle.out⟩
 | true =>
  go_upto_region 4 with (fail)
  obtain⟨w2,hv⟩ : ∃ W,W=w1.setCell ⟨go,0,none⟩ (.string lp):=⟨_,rfl⟩
  have hb2:Below w0.heap.size w0 w2:=by rw[hv];exact Hb1.out.setCell (p:=⟨go,0,none⟩) Hgeo.out _
  have ha:w2.heap[nb]? = some (.cells #[.string lo,.string hi] 34 (0,0)):=by rw[hv,Below.heap_setCell _ _ _ _ Hneao.out];exact Ha.out
  clear Ha a0 a1 a2 a3
  obtain⟨a0,a1,a2,a3⟩:=za0 ha
  have hb:w2.heap[nb+1]? = some (.cells #[.string lp,.string hj] 34 (0,0)):=by rw[hv,Below.heap_setCell _ _ _ _ Hnebo.out];exact Hb.out
  clear Hb b0 b1 b2 b3
  obtain⟨b0,b1,b2,b3⟩:=za0 hb
  have hr:w2.heap[nb+1+1]? = some (.cells #[.string ⟨#[]⟩,.string ⟨#[]⟩] 34 (0,0)):=by rw[hv,Below.heap_setCell _ _ _ _ Hnero.out];exact Hr.out
  clear Hr r0 r1 r2 r3
  obtain⟨r0,r1,r2,r3⟩:=za0 hr
  have ho:w2.heap[go]? = some (.cells #[.string lp,.string hi] 34 (0,0)):=by rw[hv];exact heap_setCell_same _ go 0 _ _ _ Ho.out
  clear Ho o0 o1 o2 o3
  obtain⟨o0,o1,o2,o3⟩:=za0 ho
  rw[← hv]
  clear hv
  obtain⟨Hb2,Ha,Hb,Hr,Ho⟩:=hd5 hb2 ha hb hr ho;clear hb2 ha hb hr ho
  cases d3 with
  | false =>
   cases d4 with
   | false =>
    go_wp2_with fail
    refine (HY.out _ Hb2.out).mono ?_
    rintro e w3 ⟨rfl,hs⟩
    have hb3:=Hb2.out.trans (hs.mono Hb2.out.size)
    have ha:=za1 hs Ha.out
    clear Ha a0 a1 a2 a3
    obtain⟨a0,a1,a2,a3⟩:=za0 ha
    have hb:=za1 hs Hb.out
    clear Hb b0 b1 b2 b3
    obtain⟨b0,b1,b2,b3⟩:=za0 hb
    have hr:=za1 hs Hr.out
    clear Hr r0 r1 r2 r3
    obtain⟨r0,r1,r2,r3⟩:=za0 hr
    have ho:=za1 hs Ho.out
    clear Ho o0 o1 o2 o3
    obtain⟨o0,o1,o2,o3⟩:=za0 ho
    obtain⟨Hs,Hb3,Ha,Hb,Hr,Ho⟩:=hd6 hs hb3 ha hb hr ho;clear hs hb3 ha hb hr ho
    cases ry with
    | false =>
     go_wp2_with fail
     refine za8 rfl rfl (za6 _ _ Hr.out) rfl ?_
     exact⟨zah (by first | rfl | (rw[Hlv.out];rfl)) (by first | rfl | (rw[Hsv.out];rfl)),za5 _ _ (za3 Hw.out Hb3.out) Hle.out⟩
    | true =>
     go_upto_region 6 with (fail)
     obtain⟨w4,hv⟩ : ∃ W,W=w3.setCell ⟨go,1,none⟩ (.string hj):=⟨_,rfl⟩
     have hb4:Below w0.heap.size w0 w4:=by rw[hv];exact Hb3.out.setCell (p:=⟨go,1,none⟩) Hgeo.out _
     have ha:w4.heap[nb]? = some (.cells #[.string lo,.string hi] 34 (0,0)):=by rw[hv,Below.heap_setCell _ _ _ _ Hneao.out];exact Ha.out
     clear Ha a0 a1 a2 a3
     obtain⟨a0,a1,a2,a3⟩:=za0 ha
     have hb:w4.heap[nb+1]? = some (.cells #[.string lp,.string hj] 34 (0,0)):=by rw[hv,Below.heap_setCell _ _ _ _ Hnebo.out];exact Hb.out
     clear Hb b0 b1 b2 b3
     obtain⟨b0,b1,b2,b3⟩:=za0 hb
     have hr:w4.heap[nb+1+1]? = some (.cells #[.string ⟨#[]⟩,.string ⟨#[]⟩] 34 (0,0)):=by rw[hv,Below.heap_setCell _ _ _ _ Hnero.out];exact Hr.out
     clear Hr r0 r1 r2 r3
     obtain⟨r0,r1,r2,r3⟩:=za0 hr
     have ho:w4.heap[go]? = some (.cells #[.string lp,.string hj] 34 (0,0)):=by rw[hv];exact heap_setCell_same _ go 1 _ _ _ Ho.out
     clear Ho o0 o1 o2 o3
     obtain⟨o0,o1,o2,o3⟩:=za0 ho
     rw[← hv]
     clear hv
     obtain⟨Hb4,Ha,Hb,Hr,Ho⟩:=hd5 hb4 ha hb hr ho;clear hb4 ha hb hr ho
     go_wp2_with fail
     refine za8 rfl rfl (za6 _ _ Hr.out) rfl ?_
     exact⟨zah (by first | rfl | (rw[Hlv.out];rfl)) (by first | rfl | (rw[Hsv.out];rfl)),za5 _ _ (za3 Hw.out Hb4.out) Hle.out⟩
   | true =>
    go_wp2_with fail
    refine za8 rfl rfl (za6 _ _ Hr.out) rfl ?_
    exact⟨zah (by first | rfl | (rw[Hlv.out];rfl)) (by first | rfl | (rw[Hsv.out];rfl)),za5 _ _ (za3 Hw.out Hb2.out) Hle.out⟩
  | true =>
   go_upto_region 6 with (fail)
   obtain⟨w3,hv⟩ : ∃ W,W=w2.setCell ⟨go,1,none⟩ (.string hj):=⟨_,rfl⟩
   have hb3:Below w0.heap.size w0 w3:=by rw[hv];exact Hb2.out.setCell (p:=⟨go,1,none⟩) Hgeo.out _
   have ha:w3.heap[nb]? = some (.cells #[.string lo,.string hi] 34 (0,0)):=by rw[hv,Below.heap_setCell _ _ _ _ Hneao.out];exact Ha.out
   clear Ha a0 a1 a2 a3
   obtain⟨a0,a1,a2,a3⟩:=za0 ha
   have hb:w3.heap[nb+1]? = some (.cells #[.string lp,.string hj] 34 (0,0)):=by rw[hv,Below.heap_setCell _ _ _ _ Hnebo.out];exact Hb.out
   clear Hb b0 b1 b2 b3
   obtain⟨b0,b1,b2,b3⟩:=za0 hb
   have hr:w3.heap[nb+1+1]? = some (.cells #[.string ⟨#[]⟩,.string ⟨#[]⟩] 34 (0,0)):=by rw[hv,Below.heap_setCell _ _ _ _ Hnero.out];exact Hr.out
   clear Hr r0 r1 r2 r3
   obtain⟨r0,r1,r2,r3⟩:=za0 hr
   have ho:w3.heap[go]? = some (.cells #[.string lp,.string hj] 34 (0,0)):=by rw[hv];exact heap_setCell_same _ go 1 _ _ _ Ho.out
   clear Ho o0 o1 o2 o3
   obtain⟨o0,o1,o2,o3⟩:=za0 ho
   rw[← hv]
   clear hv
   obtain⟨Hb3,Ha,Hb,Hr,Ho⟩:=hd5 hb3 ha hb hr ho;clear hb3 ha hb hr ho
   go_wp2_with fail
   refine za8 rfl rfl (za6 _ _ Hr.out) rfl ?_
   exact⟨zah (by first | rfl | (rw[Hlv.out];rfl)) (by first | rfl | (rw[Hsv.out];rfl)),za5 _ _ (za3 Hw.out Hb3.out) Hle.out⟩
end

section
open Go.RowKit Go.Lib VerN
set_option linter.unusedSimpArgs false
theorem refMt_val (lo hi lp hj:ByteArray):(if lp.size≠0∧(lo.size=0∨zcw lo.data.toList lp.data.toList=true) then lp else lo)=zbq lo lp∧(if hj.size≠0∧(hi.size=0∨zcw hj.data.toList hi.data.toList=true) then hj else hi)=zay hi hj:=by
 have h:=zl0 (lo.data.toList,hi.data.toList) (lp.data.toList,hj.data.toList)
 have h1:=congrArg Prod.fst h
 have h2:=congrArg Prod.snd h
 refine⟨Txt.ext ?_,Txt.ext ?_⟩
 ·rw[zd6,zhb]
  simp only[← zan,ne_eq]
  exact h1
 rw[zcm,zhb]
 simp only[← zan,ne_eq]
 exact h2
theorem zit (lo hi lp hj:ByteArray) (hl:lo.size≤1000000) (hh:hi.size≤1000000) (hl2:lp.size≤1000000) (hh2:hj.size≤1000000) (w:World):Calls Tryz.prog 118 #[.agg #[.string lo,.string hi],.agg #[.string lp,.string hj]] w fun e w'=>e = .returned (.tuple #[.agg #[.string (mtV lo hi lp hj).1,.string (mtV lo hi lp hj).2],.bool (zb8 (lo.data.toList,hi.data.toList) (lp.data.toList,hj.data.toList))])∧Below w.heap.size w w':=by
 obtain⟨w0,hW0⟩ : ∃ W0,W0=((w.alloc (.cells #[.string lo,.string hi] 34)).alloc (.cells #[.string lp,.string hj] 34)).alloc (.cells #[.string ⟨#[]⟩,.string ⟨#[]⟩] 34):=⟨_,rfl⟩
 obtain⟨nb,hnb⟩ : ∃ nb,nb=w.heap.size:=⟨_,rfl⟩
 have hw:Below w.heap.size w w0:=by rw[hW0];exact ((za2 _ _).alloc (za2 _ _).size _).alloc ((za2 _ _).alloc (za2 _ _).size _).size _
 have hb0:Below w0.heap.size w0 w0:=Below.refl _ _
 have ha:w0.heap[nb]? = some (.cells #[.string lo,.string hi] 34 (0,0)):=by rw[hW0,hnb];exact zh2 _ _ _ _ _ _ _
 obtain⟨a0,a1,a2,a3⟩:=za0 ha
 have hb:w0.heap[nb+1]? = some (.cells #[.string lp,.string hj] 34 (0,0)):=by rw[hW0,hnb];exact zh1 _ _ _ _ _ _ _
 obtain⟨b0,b1,b2,b3⟩:=za0 hb
 have hr:w0.heap[nb+1+1]? = some (.cells #[.string ⟨#[]⟩,.string ⟨#[]⟩] 34 (0,0)):=by rw[hW0,hnb];exact zh0 _ _ _ _ _ _ _
 obtain⟨r0,r1,r2,r3⟩:=za0 hr
 have hA:=fun (W:World) (_:Below w0.heap.size w0 W)=>zcj lo hi hl hh W
 have hB:=fun (W:World) (_:Below w0.heap.size w0 W)=>zcj lp hj hl2 hh2 W
 have hX:=fun (W:World) (_:Below w0.heap.size w0 W)=>zcx lo lp hl hl2 W
 have hY:=fun (W:World) (_:Below w0.heap.size w0 W)=>zcx hj hi hh2 hh W
 have hO:=fun (x y:ByteArray) (hx:x.size≤1000000) (hy:y.size≤1000000) (W:World) (_:Below w0.heap.size w0 W)=>zcj x y hx hy W
 have hvv:=refMt_val lo hi lp hj
 obtain⟨p,hp⟩ : ∃ x,x=mayS (lo.data.toList,hi.data.toList):=⟨_,rfl⟩
 obtain⟨q,hq⟩ : ∃ x,x=mayS (lp.data.toList,hj.data.toList):=⟨_,rfl⟩
 obtain⟨rx,hrx⟩ : ∃ x,x=zcw lo.data.toList lp.data.toList:=⟨_,rfl⟩
 obtain⟨ry,hry⟩ : ∃ x,x=zcw hj.data.toList hi.data.toList:=⟨_,rfl⟩
 obtain⟨d1,k1⟩ : ∃ x,lp.toList.isEmpty=x:=⟨_,rfl⟩
 obtain⟨d2,k2⟩ : ∃ x,lo.toList.isEmpty=x:=⟨_,rfl⟩
 obtain⟨d3,k3⟩ : ∃ x,hj.toList.isEmpty=x:=⟨_,rfl⟩
 obtain⟨d4,k4⟩ : ∃ x,hi.toList.isEmpty=x:=⟨_,rfl⟩
 rw[← hrx,← hry] at hvv
 have hlv:zbq lo lp=if d1=false∧(d2=true∨rx=true) then lp else lo:=by rw[← hvv.1,← k1,← k2];simp only[Txt.no_dec,decide_eq_false_iff_not,ne_eq,decide_eq_true_eq]
 have hsv:zay hi hj=if d3=false∧(d4=true∨ry=true) then hj else hi:=by rw[← hvv.2,← k3,← k4];simp only[Txt.no_dec,decide_eq_false_iff_not,ne_eq,decide_eq_true_eq]
 have hok:zb8 (lo.data.toList,hi.data.toList) (lp.data.toList,hj.data.toList)=(p && q && mayS ((zbq lo lp).data.toList,(zay hi hj).data.toList)):=by
  unfold zb8 zj9
  rw[hp,hq,zd6,zcm]
 have hval:mtV lo hi lp hj=if (p && q && mayS ((zbq lo lp).data.toList,(zay hi hj).data.toList))=true then (zbq lo lp,zay hi hj) else (⟨#[]⟩,⟨#[]⟩):=by unfold mtV;rw[hok]
 have hle:w.heap.size≤nb+1+1:=by omega
 rw[← hp] at hA
 rw[← hq] at hB
 rw[← hrx] at hX
 rw[← hry] at hY
 rw[hlv,hsv] at hok hval
 clear hp hq hrx hry hvv hlv hsv
 obtain⟨HA,HB,HO,HX,HY,Hok,Hval,Hle,Hw,Hb0,Ha,Hb,Hr⟩:=hd13 hA hB hO hX hY hok hval hle hw hb0 ha hb hr;clear hA hB hO hX hY hok hval hle hw hb0 ha hb hr
 go_enter Tryz.func118,Tryz.ntmps118
 go_upto_region 1 with (fail)
 rw[← hW0,← hnb]
 clear hW0 hnb
 go_wp2_with fail
 refine (HA.out _ Hb0.out).mono ?_
 rintro e w1 ⟨rfl,hs⟩
 have hb1:=Hb0.out.trans (hs.mono Hb0.out.size)
 have ha:=za1 hs Ha.out
 clear Ha a0 a1 a2 a3
 obtain⟨a0,a1,a2,a3⟩:=za0 ha
 have hb:=za1 hs Hb.out
 clear Hb b0 b1 b2 b3
 obtain⟨b0,b1,b2,b3⟩:=za0 hb
 have hr:=za1 hs Hr.out
 clear Hr r0 r1 r2 r3
 obtain⟨r0,r1,r2,r3⟩:=za0 hr
 obtain⟨Hs,Hb1,Ha,Hb,Hr⟩:=hd5 hs hb1 ha hb hr;clear hs hb1 ha hb hr
 cases p with
 | false =>
  go_wp2_with fail
  refine za4 rfl rfl rfl (za6 _ _ Hr.out) rfl ?_
  exact⟨zab (by rw[Hval.out];rfl) (by rw[Hval.out];rfl) (by rw[Hok.out] <;> rfl),za5 _ _ (za3 Hw.out Hb1.out) Hle.out⟩
 | true =>
  go_wp2_with fail
  refine (HB.out _ Hb1.out).mono ?_
  rintro e w2 ⟨rfl,hs⟩
  have hb2:=Hb1.out.trans (hs.mono Hb1.out.size)
  have ha:=za1 hs Ha.out
  clear Ha a0 a1 a2 a3
  obtain⟨a0,a1,a2,a3⟩:=za0 ha
  have hb:=za1 hs Hb.out
  clear Hb b0 b1 b2 b3
  obtain⟨b0,b1,b2,b3⟩:=za0 hb
  have hr:=za1 hs Hr.out
  clear Hr r0 r1 r2 r3
  obtain⟨r0,r1,r2,r3⟩:=za0 hr
  obtain⟨Hs,Hb2,Ha,Hb,Hr⟩:=hd5 hs hb2 ha hb hr;clear hs hb2 ha hb hr
  cases q with
  | false =>
   go_wp2_with fail
   refine za4 rfl rfl rfl (za6 _ _ Hr.out) rfl ?_
   exact⟨zab (by rw[Hval.out];rfl) (by rw[Hval.out];rfl) (by rw[Hok.out] <;> rfl),za5 _ _ (za3 Hw.out Hb2.out) Hle.out⟩
  | true =>
   go_upto_region 4 with (fail)
   obtain⟨w3,hv⟩ : ∃ W,W=w2.alloc (.cells #[.string lo,.string hi] 34):=⟨_,rfl⟩
   obtain⟨go,hg⟩ : ∃ g,g=w2.heap.size:=⟨_,rfl⟩
   have hs:Below w2.heap.size w2 w3:=by rw[hv];exact za2 _ _
   have hb3:=Hb2.out.trans (hs.mono Hb2.out.size)
   have hgeo:w0.heap.size≤go:=by rw[hg];exact Hb2.out.size
   have hneao:nb≠go:=by have:=(Array.getElem?_eq_some_iff.1 Ha.out).1;omega
   have hnebo:nb+1≠go:=by have:=(Array.getElem?_eq_some_iff.1 Hb.out).1;omega
   have hnero:nb+1+1≠go:=by have:=(Array.getElem?_eq_some_iff.1 Hr.out).1;omega
   have ha:=za1 hs Ha.out
   clear Ha a0 a1 a2 a3
   obtain⟨a0,a1,a2,a3⟩:=za0 ha
   have hb:=za1 hs Hb.out
   clear Hb b0 b1 b2 b3
   obtain⟨b0,b1,b2,b3⟩:=za0 hb
   have hr:=za1 hs Hr.out
   clear Hr r0 r1 r2 r3
   obtain⟨r0,r1,r2,r3⟩:=za0 hr
   have ho:w3.heap[go]? = some (.cells #[.string lo,.string hi] 34 (0,0)):=by rw[hv,hg];exact heap_alloc_new _ _
   obtain⟨o0,o1,o2,o3⟩:=za0 ho
   rw[← hv,← hg]
   clear hv hg
   obtain⟨Hs,Hb3,Hgeo,Ha,Hb,Hr,Ho,Hneao,Hnebo,Hnero⟩:=hd10 hs hb3 hgeo ha hb hr ho hneao hnebo hnero;clear hs hb3 hgeo ha hb hr ho hneao hnebo hnero
   cases d1 with
   | false =>
    cases d2 with
    | false =>
     go_wp2_with fail
     refine (HX.out _ Hb3.out).mono ?_
     rintro e w4 ⟨rfl,hs⟩
     have hb4:=Hb3.out.trans (hs.mono Hb3.out.size)
     have ha:=za1 hs Ha.out
     clear Ha a0 a1 a2 a3
     obtain⟨a0,a1,a2,a3⟩:=za0 ha
     have hb:=za1 hs Hb.out
     clear Hb b0 b1 b2 b3
     obtain⟨b0,b1,b2,b3⟩:=za0 hb
     have hr:=za1 hs Hr.out
     clear Hr r0 r1 r2 r3
     obtain⟨r0,r1,r2,r3⟩:=za0 hr
     have ho:=za1 hs Ho.out
     clear Ho o0 o1 o2 o3
     obtain⟨o0,o1,o2,o3⟩:=za0 ho
     obtain⟨Hs,Hb4,Ha,Hb,Hr,Ho⟩:=hd6 hs hb4 ha hb hr ho;clear hs hb4 ha hb hr ho
     cases rx with
     | false =>
      cases d3 with
      | false =>
       cases d4 with
       | false =>
        go_wp2_with fail
        refine (HY.out _ Hb4.out).mono ?_
        rintro e w5 ⟨rfl,hs⟩
        have hb5:=Hb4.out.trans (hs.mono Hb4.out.size)
        have ha:=za1 hs Ha.out
        clear Ha a0 a1 a2 a3
        obtain⟨a0,a1,a2,a3⟩:=za0 ha
        have hb:=za1 hs Hb.out
        clear Hb b0 b1 b2 b3
        obtain⟨b0,b1,b2,b3⟩:=za0 hb
        have hr:=za1 hs Hr.out
        clear Hr r0 r1 r2 r3
        obtain⟨r0,r1,r2,r3⟩:=za0 hr
        have ho:=za1 hs Ho.out
        clear Ho o0 o1 o2 o3
        obtain⟨o0,o1,o2,o3⟩:=za0 ho
        obtain⟨Hs,Hb5,Ha,Hb,Hr,Ho⟩:=hd6 hs hb5 ha hb hr ho;clear hs hb5 ha hb hr ho
        cases ry with
        | false =>
         have hZ:=HO.out lo hi hl hh
         obtain⟨s,hs⟩ : ∃ z,z=mayS (lo.data.toList,hi.data.toList):=⟨_,rfl⟩
         rw[← hs] at hZ
         have hok:=Hok.out
         have hval:=Hval.out
         simp only[reduceCtorEq,eq_self,and_self,true_and,and_true,false_and,and_false,or_true,true_or,or_false,false_or,or_self,if_true,if_false,ite_true,ite_false,Bool.true_and,Bool.and_true,← hs] at hok hval
         clear hs Hok Hval
         obtain⟨HZ,Hok,Hval⟩:=hd3 hZ hok hval;clear hZ hok hval
         go_wp2_with fail
         refine (HZ.out _ Hb5.out).mono ?_
         rintro e w6 ⟨rfl,hs⟩
         have hb6:=Hb5.out.trans (hs.mono Hb5.out.size)
         have ha:=za1 hs Ha.out
         clear Ha a0 a1 a2 a3
         obtain⟨a0,a1,a2,a3⟩:=za0 ha
         have hb:=za1 hs Hb.out
         clear Hb b0 b1 b2 b3
         obtain⟨b0,b1,b2,b3⟩:=za0 hb
         have hr:=za1 hs Hr.out
         clear Hr r0 r1 r2 r3
         obtain⟨r0,r1,r2,r3⟩:=za0 hr
         have ho:=za1 hs Ho.out
         clear Ho o0 o1 o2 o3
         obtain⟨o0,o1,o2,o3⟩:=za0 ho
         obtain⟨Hs,Hb6,Ha,Hb,Hr,Ho⟩:=hd6 hs hb6 ha hb hr ho;clear hs hb6 ha hb hr ho
         cases s with
         | false =>
          go_wp2_with fail
          refine za4 rfl rfl rfl (za6 _ _ Hr.out) rfl ?_
          exact⟨zab (by rw[Hval.out];rfl) (by rw[Hval.out];rfl) (by rw[Hok.out] <;> rfl),za5 _ _ (za3 Hw.out Hb6.out) Hle.out⟩
         | true =>
          go_wp2_with fail
          refine za4 rfl rfl rfl (za6 _ _ Hr.out) rfl ?_
          exact⟨zab (by rw[Hval.out];rfl) (by rw[Hval.out];rfl) (by rw[Hok.out] <;> rfl),za5 _ _ (za3 Hw.out Hb6.out) Hle.out⟩
        | true =>
         go_upto_region 8 with (fail)
         obtain⟨w6,hv⟩ : ∃ W,W=w5.setCell ⟨go,1,none⟩ (.string hj):=⟨_,rfl⟩
         have hb6:Below w0.heap.size w0 w6:=by rw[hv];exact Hb5.out.setCell (p:=⟨go,1,none⟩) Hgeo.out _
         have ha:w6.heap[nb]? = some (.cells #[.string lo,.string hi] 34 (0,0)):=by rw[hv,Below.heap_setCell _ _ _ _ Hneao.out];exact Ha.out
         clear Ha a0 a1 a2 a3
         obtain⟨a0,a1,a2,a3⟩:=za0 ha
         have hb:w6.heap[nb+1]? = some (.cells #[.string lp,.string hj] 34 (0,0)):=by rw[hv,Below.heap_setCell _ _ _ _ Hnebo.out];exact Hb.out
         clear Hb b0 b1 b2 b3
         obtain⟨b0,b1,b2,b3⟩:=za0 hb
         have hr:w6.heap[nb+1+1]? = some (.cells #[.string ⟨#[]⟩,.string ⟨#[]⟩] 34 (0,0)):=by rw[hv,Below.heap_setCell _ _ _ _ Hnero.out];exact Hr.out
         clear Hr r0 r1 r2 r3
         obtain⟨r0,r1,r2,r3⟩:=za0 hr
         have ho:w6.heap[go]? = some (.cells #[.string lo,.string hj] 34 (0,0)):=by rw[hv];exact heap_setCell_same _ go 1 _ _ _ Ho.out
         clear Ho o0 o1 o2 o3
         obtain⟨o0,o1,o2,o3⟩:=za0 ho
         rw[← hv]
         clear hv
         obtain⟨Hb6,Ha,Hb,Hr,Ho⟩:=hd5 hb6 ha hb hr ho;clear hb6 ha hb hr ho
         have hZ:=HO.out lo hj hl hh2
         obtain⟨s,hs⟩ : ∃ z,z=mayS (lo.data.toList,hj.data.toList):=⟨_,rfl⟩
         rw[← hs] at hZ
         have hok:=Hok.out
         have hval:=Hval.out
         simp only[reduceCtorEq,eq_self,and_self,true_and,and_true,false_and,and_false,or_true,true_or,or_false,false_or,or_self,if_true,if_false,ite_true,ite_false,Bool.true_and,Bool.and_true,← hs] at hok hval
         clear hs Hok Hval
         obtain⟨HZ,Hok,Hval⟩:=hd3 hZ hok hval;clear hZ hok hval
         go_wp2_with fail
         refine (HZ.out _ Hb6.out).mono ?_
         rintro e w7 ⟨rfl,hs⟩
         have hb7:=Hb6.out.trans (hs.mono Hb6.out.size)
         have ha:=za1 hs Ha.out
         clear Ha a0 a1 a2 a3
         obtain⟨a0,a1,a2,a3⟩:=za0 ha
         have hb:=za1 hs Hb.out
         clear Hb b0 b1 b2 b3
         obtain⟨b0,b1,b2,b3⟩:=za0 hb
         have hr:=za1 hs Hr.out
         clear Hr r0 r1 r2 r3
         obtain⟨r0,r1,r2,r3⟩:=za0 hr
         have ho:=za1 hs Ho.out
         clear Ho o0 o1 o2 o3
         obtain⟨o0,o1,o2,o3⟩:=za0 ho
         obtain⟨Hs,Hb7,Ha,Hb,Hr,Ho⟩:=hd6 hs hb7 ha hb hr ho;clear hs hb7 ha hb hr ho
         cases s with
         | false =>
          go_wp2_with fail
          refine za4 rfl rfl rfl (za6 _ _ Hr.out) rfl ?_
          exact⟨zab (by rw[Hval.out];rfl) (by rw[Hval.out];rfl) (by rw[Hok.out] <;> rfl),za5 _ _ (za3 Hw.out Hb7.out) Hle.out⟩
         | true =>
          go_wp2_with fail
          refine za4 rfl rfl rfl (za6 _ _ Hr.out) rfl ?_
          exact⟨zab (by rw[Hval.out];rfl) (by rw[Hval.out];rfl) (by rw[Hok.out] <;> rfl),za5 _ _ (za3 Hw.out Hb7.out) Hle.out⟩
       | true =>
        go_upto_region 8 with (fail)
        obtain⟨w5,hv⟩ : ∃ W,W=w4.setCell ⟨go,1,none⟩ (.string hj):=⟨_,rfl⟩
        have hb5:Below w0.heap.size w0 w5:=by rw[hv];exact Hb4.out.setCell (p:=⟨go,1,none⟩) Hgeo.out _
        have ha:w5.heap[nb]? = some (.cells #[.string lo,.string hi] 34 (0,0)):=by rw[hv,Below.heap_setCell _ _ _ _ Hneao.out];exact Ha.out
        clear Ha a0 a1 a2 a3
        obtain⟨a0,a1,a2,a3⟩:=za0 ha
        have hb:w5.heap[nb+1]? = some (.cells #[.string lp,.string hj] 34 (0,0)):=by rw[hv,Below.heap_setCell _ _ _ _ Hnebo.out];exact Hb.out
        clear Hb b0 b1 b2 b3
        obtain⟨b0,b1,b2,b3⟩:=za0 hb
        have hr:w5.heap[nb+1+1]? = some (.cells #[.string ⟨#[]⟩,.string ⟨#[]⟩] 34 (0,0)):=by rw[hv,Below.heap_setCell _ _ _ _ Hnero.out];exact Hr.out
        clear Hr r0 r1 r2 r3
        obtain⟨r0,r1,r2,r3⟩:=za0 hr
        have ho:w5.heap[go]? = some (.cells #[.string lo,.string hj] 34 (0,0)):=by rw[hv];exact heap_setCell_same _ go 1 _ _ _ Ho.out
        clear Ho o0 o1 o2 o3
        obtain⟨o0,o1,o2,o3⟩:=za0 ho
        rw[← hv]
        clear hv
        obtain⟨Hb5,Ha,Hb,Hr,Ho⟩:=hd5 hb5 ha hb hr ho;clear hb5 ha hb hr ho
        have hZ:=HO.out lo hj hl hh2
        obtain⟨s,hs⟩ : ∃ z,z=mayS (lo.data.toList,hj.data.toList):=⟨_,rfl⟩
        rw[← hs] at hZ
        have hok:=Hok.out
        have hval:=Hval.out
        simp only[reduceCtorEq,eq_self,and_self,true_and,and_true,false_and,and_false,or_true,true_or,or_false,false_or,or_self,if_true,if_false,ite_true,ite_false,Bool.true_and,Bool.and_true,← hs] at hok hval
        clear hs Hok Hval
        obtain⟨HZ,Hok,Hval⟩:=hd3 hZ hok hval;clear hZ hok hval
        go_wp2_with fail
        refine (HZ.out _ Hb5.out).mono ?_
        rintro e w6 ⟨rfl,hs⟩
        have hb6:=Hb5.out.trans (hs.mono Hb5.out.size)
        have ha:=za1 hs Ha.out
        clear Ha a0 a1 a2 a3
        obtain⟨a0,a1,a2,a3⟩:=za0 ha
        have hb:=za1 hs Hb.out
        clear Hb b0 b1 b2 b3
        obtain⟨b0,b1,b2,b3⟩:=za0 hb
        have hr:=za1 hs Hr.out
        clear Hr r0 r1 r2 r3
        obtain⟨r0,r1,r2,r3⟩:=za0 hr
        have ho:=za1 hs Ho.out
        clear Ho o0 o1 o2 o3
        obtain⟨o0,o1,o2,o3⟩:=za0 ho
        obtain⟨Hs,Hb6,Ha,Hb,Hr,Ho⟩:=hd6 hs hb6 ha hb hr ho;clear hs hb6 ha hb hr ho
        cases s with
        | false =>
         go_wp2_with fail
         refine za4 rfl rfl rfl (za6 _ _ Hr.out) rfl ?_
         exact⟨zab (by rw[Hval.out];rfl) (by rw[Hval.out];rfl) (by rw[Hok.out] <;> rfl),za5 _ _ (za3 Hw.out Hb6.out) Hle.out⟩
        | true =>
         go_wp2_with fail
         refine za4 rfl rfl rfl (za6 _ _ Hr.out) rfl ?_
         exact⟨zab (by rw[Hval.out];rfl) (by rw[Hval.out];rfl) (by rw[Hok.out] <;> rfl),za5 _ _ (za3 Hw.out Hb6.out) Hle.out⟩
      | true =>
       have hZ:=HO.out lo hi hl hh
       obtain⟨s,hs⟩ : ∃ z,z=mayS (lo.data.toList,hi.data.toList):=⟨_,rfl⟩
       rw[← hs] at hZ
       have hok:=Hok.out
       have hval:=Hval.out
       simp only[reduceCtorEq,eq_self,and_self,true_and,and_true,false_and,and_false,or_true,true_or,or_false,false_or,or_self,if_true,if_false,ite_true,ite_false,Bool.true_and,Bool.and_true,← hs] at hok hval
       clear hs Hok Hval
       obtain⟨HZ,Hok,Hval⟩:=hd3 hZ hok hval;clear hZ hok hval
       go_wp2_with fail
       refine (HZ.out _ Hb4.out).mono ?_
       rintro e w5 ⟨rfl,hs⟩
       have hb5:=Hb4.out.trans (hs.mono Hb4.out.size)
       have ha:=za1 hs Ha.out
       clear Ha a0 a1 a2 a3
       obtain⟨a0,a1,a2,a3⟩:=za0 ha
       have hb:=za1 hs Hb.out
       clear Hb b0 b1 b2 b3
       obtain⟨b0,b1,b2,b3⟩:=za0 hb
       have hr:=za1 hs Hr.out
       clear Hr r0 r1 r2 r3
       obtain⟨r0,r1,r2,r3⟩:=za0 hr
       have ho:=za1 hs Ho.out
       clear Ho o0 o1 o2 o3
       obtain⟨o0,o1,o2,o3⟩:=za0 ho
       obtain⟨Hs,Hb5,Ha,Hb,Hr,Ho⟩:=hd6 hs hb5 ha hb hr ho;clear hs hb5 ha hb hr ho
       cases s with
       | false =>
        go_wp2_with fail
        refine za4 rfl rfl rfl (za6 _ _ Hr.out) rfl ?_
        exact⟨zab (by rw[Hval.out];rfl) (by rw[Hval.out];rfl) (by rw[Hok.out] <;> rfl),za5 _ _ (za3 Hw.out Hb5.out) Hle.out⟩
       | true =>
        go_wp2_with fail
        refine za4 rfl rfl rfl (za6 _ _ Hr.out) rfl ?_
        exact⟨zab (by rw[Hval.out];rfl) (by rw[Hval.out];rfl) (by rw[Hok.out] <;> rfl),za5 _ _ (za3 Hw.out Hb5.out) Hle.out⟩
     | true =>
      go_upto_region 6 with (fail)
      obtain⟨w5,hv⟩ : ∃ W,W=w4.setCell ⟨go,0,none⟩ (.string lp):=⟨_,rfl⟩
      have hb5:Below w0.heap.size w0 w5:=by rw[hv];exact Hb4.out.setCell (p:=⟨go,0,none⟩) Hgeo.out _
      have ha:w5.heap[nb]? = some (.cells #[.string lo,.string hi] 34 (0,0)):=by rw[hv,Below.heap_setCell _ _ _ _ Hneao.out];exact Ha.out
      clear Ha a0 a1 a2 a3
      obtain⟨a0,a1,a2,a3⟩:=za0 ha
      have hb:w5.heap[nb+1]? = some (.cells #[.string lp,.string hj] 34 (0,0)):=by rw[hv,Below.heap_setCell _ _ _ _ Hnebo.out];exact Hb.out
      clear Hb b0 b1 b2 b3
      obtain⟨b0,b1,b2,b3⟩:=za0 hb
      have hr:w5.heap[nb+1+1]? = some (.cells #[.string ⟨#[]⟩,.string ⟨#[]⟩] 34 (0,0)):=by rw[hv,Below.heap_setCell _ _ _ _ Hnero.out];exact Hr.out
      clear Hr r0 r1 r2 r3
      obtain⟨r0,r1,r2,r3⟩:=za0 hr
      have ho:w5.heap[go]? = some (.cells #[.string lp,.string hi] 34 (0,0)):=by rw[hv];exact heap_setCell_same _ go 0 _ _ _ Ho.out
      clear Ho o0 o1 o2 o3
      obtain⟨o0,o1,o2,o3⟩:=za0 ho
      rw[← hv]
      clear hv
      obtain⟨Hb5,Ha,Hb,Hr,Ho⟩:=hd5 hb5 ha hb hr ho;clear hb5 ha hb hr ho
      cases d3 with
      | false =>
       cases d4 with
       | false =>
        go_wp2_with fail
        refine (HY.out _ Hb5.out).mono ?_
        rintro e w6 ⟨rfl,hs⟩
        have hb6:=Hb5.out.trans (hs.mono Hb5.out.size)
        have ha:=za1 hs Ha.out
        clear Ha a0 a1 a2 a3
        obtain⟨a0,a1,a2,a3⟩:=za0 ha
        have hb:=za1 hs Hb.out
        clear Hb b0 b1 b2 b3
        obtain⟨b0,b1,b2,b3⟩:=za0 hb
        have hr:=za1 hs Hr.out
        clear Hr r0 r1 r2 r3
        obtain⟨r0,r1,r2,r3⟩:=za0 hr
        have ho:=za1 hs Ho.out
        clear Ho o0 o1 o2 o3
        obtain⟨o0,o1,o2,o3⟩:=za0 ho
        obtain⟨Hs,Hb6,Ha,Hb,Hr,Ho⟩:=hd6 hs hb6 ha hb hr ho;clear hs hb6 ha hb hr ho
        cases ry with
        | false =>
         have hZ:=HO.out lp hi hl2 hh
         obtain⟨s,hs⟩ : ∃ z,z=mayS (lp.data.toList,hi.data.toList):=⟨_,rfl⟩
         rw[← hs] at hZ
         have hok:=Hok.out
         have hval:=Hval.out
         simp only[reduceCtorEq,eq_self,and_self,true_and,and_true,false_and,and_false,or_true,true_or,or_false,false_or,or_self,if_true,if_false,ite_true,ite_false,Bool.true_and,Bool.and_true,← hs] at hok hval
         clear hs Hok Hval
         obtain⟨HZ,Hok,Hval⟩:=hd3 hZ hok hval;clear hZ hok hval
         go_wp2_with fail
         refine (HZ.out _ Hb6.out).mono ?_
         rintro e w7 ⟨rfl,hs⟩
         have hb7:=Hb6.out.trans (hs.mono Hb6.out.size)
         have ha:=za1 hs Ha.out
         clear Ha a0 a1 a2 a3
         obtain⟨a0,a1,a2,a3⟩:=za0 ha
         have hb:=za1 hs Hb.out
         clear Hb b0 b1 b2 b3
         obtain⟨b0,b1,b2,b3⟩:=za0 hb
         have hr:=za1 hs Hr.out
         clear Hr r0 r1 r2 r3
         obtain⟨r0,r1,r2,r3⟩:=za0 hr
         have ho:=za1 hs Ho.out
         clear Ho o0 o1 o2 o3
         obtain⟨o0,o1,o2,o3⟩:=za0 ho
         obtain⟨Hs,Hb7,Ha,Hb,Hr,Ho⟩:=hd6 hs hb7 ha hb hr ho;clear hs hb7 ha hb hr ho
         cases s with
         | false =>
          go_wp2_with fail
          refine za4 rfl rfl rfl (za6 _ _ Hr.out) rfl ?_
          exact⟨zab (by rw[Hval.out];rfl) (by rw[Hval.out];rfl) (by rw[Hok.out] <;> rfl),za5 _ _ (za3 Hw.out Hb7.out) Hle.out⟩
         | true =>
          go_wp2_with fail
          refine za4 rfl rfl rfl (za6 _ _ Hr.out) rfl ?_
          exact⟨zab (by rw[Hval.out];rfl) (by rw[Hval.out];rfl) (by rw[Hok.out] <;> rfl),za5 _ _ (za3 Hw.out Hb7.out) Hle.out⟩
        | true =>
         go_upto_region 8 with (fail)
         obtain⟨w7,hv⟩ : ∃ W,W=w6.setCell ⟨go,1,none⟩ (.string hj):=⟨_,rfl⟩
         have hb7:Below w0.heap.size w0 w7:=by rw[hv];exact Hb6.out.setCell (p:=⟨go,1,none⟩) Hgeo.out _
         have ha:w7.heap[nb]? = some (.cells #[.string lo,.string hi] 34 (0,0)):=by rw[hv,Below.heap_setCell _ _ _ _ Hneao.out];exact Ha.out
         clear Ha a0 a1 a2 a3
         obtain⟨a0,a1,a2,a3⟩:=za0 ha
         have hb:w7.heap[nb+1]? = some (.cells #[.string lp,.string hj] 34 (0,0)):=by rw[hv,Below.heap_setCell _ _ _ _ Hnebo.out];exact Hb.out
         clear Hb b0 b1 b2 b3
         obtain⟨b0,b1,b2,b3⟩:=za0 hb
         have hr:w7.heap[nb+1+1]? = some (.cells #[.string ⟨#[]⟩,.string ⟨#[]⟩] 34 (0,0)):=by rw[hv,Below.heap_setCell _ _ _ _ Hnero.out];exact Hr.out
         clear Hr r0 r1 r2 r3
         obtain⟨r0,r1,r2,r3⟩:=za0 hr
         have ho:w7.heap[go]? = some (.cells #[.string lp,.string hj] 34 (0,0)):=by rw[hv];exact heap_setCell_same _ go 1 _ _ _ Ho.out
         clear Ho o0 o1 o2 o3
         obtain⟨o0,o1,o2,o3⟩:=za0 ho
         rw[← hv]
         clear hv
         obtain⟨Hb7,Ha,Hb,Hr,Ho⟩:=hd5 hb7 ha hb hr ho;clear hb7 ha hb hr ho
         have hZ:=HO.out lp hj hl2 hh2
         obtain⟨s,hs⟩ : ∃ z,z=mayS (lp.data.toList,hj.data.toList):=⟨_,rfl⟩
         rw[← hs] at hZ
         have hok:=Hok.out
         have hval:=Hval.out
         simp only[reduceCtorEq,eq_self,and_self,true_and,and_true,false_and,and_false,or_true,true_or,or_false,false_or,or_self,if_true,if_false,ite_true,ite_false,Bool.true_and,Bool.and_true,← hs] at hok hval
         clear hs Hok Hval
         obtain⟨HZ,Hok,Hval⟩:=hd3 hZ hok hval;clear hZ hok hval
         go_wp2_with fail
         refine (HZ.out _ Hb7.out).mono ?_
         rintro e w8 ⟨rfl,hs⟩
         have hb8:=Hb7.out.trans (hs.mono Hb7.out.size)
         have ha:=za1 hs Ha.out
         clear Ha a0 a1 a2 a3
         obtain⟨a0,a1,a2,a3⟩:=za0 ha
         have hb:=za1 hs Hb.out
         clear Hb b0 b1 b2 b3
         obtain⟨b0,b1,b2,b3⟩:=za0 hb
         have hr:=za1 hs Hr.out
         clear Hr r0 r1 r2 r3
         obtain⟨r0,r1,r2,r3⟩:=za0 hr
         have ho:=za1 hs Ho.out
         clear Ho o0 o1 o2 o3
         obtain⟨o0,o1,o2,o3⟩:=za0 ho
         obtain⟨Hs,Hb8,Ha,Hb,Hr,Ho⟩:=hd6 hs hb8 ha hb hr ho;clear hs hb8 ha hb hr ho
         cases s with
         | false =>
          go_wp2_with fail
          refine za4 rfl rfl rfl (za6 _ _ Hr.out) rfl ?_
          exact⟨zab (by rw[Hval.out];rfl) (by rw[Hval.out];rfl) (by rw[Hok.out] <;> rfl),za5 _ _ (za3 Hw.out Hb8.out) Hle.out⟩
         | true =>
          go_wp2_with fail
          refine za4 rfl rfl rfl (za6 _ _ Hr.out) rfl ?_
          exact⟨zab (by rw[Hval.out];rfl) (by rw[Hval.out];rfl) (by rw[Hok.out] <;> rfl),za5 _ _ (za3 Hw.out Hb8.out) Hle.out⟩
       | true =>
        go_upto_region 8 with (fail)
        obtain⟨w6,hv⟩ : ∃ W,W=w5.setCell ⟨go,1,none⟩ (.string hj):=⟨_,rfl⟩
        have hb6:Below w0.heap.size w0 w6:=by rw[hv];exact Hb5.out.setCell (p:=⟨go,1,none⟩) Hgeo.out _
        have ha:w6.heap[nb]? = some (.cells #[.string lo,.string hi] 34 (0,0)):=by rw[hv,Below.heap_setCell _ _ _ _ Hneao.out];exact Ha.out
        clear Ha a0 a1 a2 a3
        obtain⟨a0,a1,a2,a3⟩:=za0 ha
        have hb:w6.heap[nb+1]? = some (.cells #[.string lp,.string hj] 34 (0,0)):=by rw[hv,Below.heap_setCell _ _ _ _ Hnebo.out];exact Hb.out
        clear Hb b0 b1 b2 b3
        obtain⟨b0,b1,b2,b3⟩:=za0 hb
        have hr:w6.heap[nb+1+1]? = some (.cells #[.string ⟨#[]⟩,.string ⟨#[]⟩] 34 (0,0)):=by rw[hv,Below.heap_setCell _ _ _ _ Hnero.out];exact Hr.out
        clear Hr r0 r1 r2 r3
        obtain⟨r0,r1,r2,r3⟩:=za0 hr
        have ho:w6.heap[go]? = some (.cells #[.string lp,.string hj] 34 (0,0)):=by rw[hv];exact heap_setCell_same _ go 1 _ _ _ Ho.out
        clear Ho o0 o1 o2 o3
        obtain⟨o0,o1,o2,o3⟩:=za0 ho
        rw[← hv]
        clear hv
        obtain⟨Hb6,Ha,Hb,Hr,Ho⟩:=hd5 hb6 ha hb hr ho;clear hb6 ha hb hr ho
        have hZ:=HO.out lp hj hl2 hh2
        obtain⟨s,hs⟩ : ∃ z,z=mayS (lp.data.toList,hj.data.toList):=⟨_,rfl⟩
        rw[← hs] at hZ
        have hok:=Hok.out
        have hval:=Hval.out
        simp only[reduceCtorEq,eq_self,and_self,true_and,and_true,false_and,and_false,or_true,true_or,or_false,false_or,or_self,if_true,if_false,ite_true,ite_false,Bool.true_and,Bool.and_true,← hs] at hok hval
        clear hs Hok Hval
        obtain⟨HZ,Hok,Hval⟩:=hd3 hZ hok hval;clear hZ hok hval
        go_wp2_with fail
        refine (HZ.out _ Hb6.out).mono ?_
        rintro e w7 ⟨rfl,hs⟩
        have hb7:=Hb6.out.trans (hs.mono Hb6.out.size)
        have ha:=za1 hs Ha.out
        clear Ha a0 a1 a2 a3
        obtain⟨a0,a1,a2,a3⟩:=za0 ha
        have hb:=za1 hs Hb.out
        clear Hb b0 b1 b2 b3
        obtain⟨b0,b1,b2,b3⟩:=za0 hb
        have hr:=za1 hs Hr.out
        clear Hr r0 r1 r2 r3
        obtain⟨r0,r1,r2,r3⟩:=za0 hr
        have ho:=za1 hs Ho.out
        clear Ho o0 o1 o2 o3
        obtain⟨o0,o1,o2,o3⟩:=za0 ho
        obtain⟨Hs,Hb7,Ha,Hb,Hr,Ho⟩:=hd6 hs hb7 ha hb hr ho;clear hs hb7 ha hb hr ho
        cases s with
        | false =>
         go_wp2_with fail
         refine za4 rfl rfl rfl (za6 _ _ Hr.out) rfl ?_
         exact⟨zab (by rw[Hval.out];rfl) (by rw[Hval.out];rfl) (by rw[Hok.out] <;> rfl),za5 _ _ (za3 Hw.out Hb7.out) Hle.out⟩
        | true =>
         go_wp2_with fail
         refine za4 rfl rfl rfl (za6 _ _ Hr.out) rfl ?_
         exact⟨zab (by rw[Hval.out];rfl) (by rw[Hval.out];rfl) (by rw[Hok.out] <;> rfl),za5 _ _ (za3 Hw.out Hb7.out) Hle.out⟩
      | true =>
       have hZ:=HO.out lp hi hl2 hh
       obtain⟨s,hs⟩ : ∃ z,z=mayS (lp.data.toList,hi.data.toList):=⟨_,rfl⟩
       rw[← hs] at hZ
       have hok:=Hok.out
       have hval:=Hval.out
       simp only[reduceCtorEq,eq_self,and_self,true_and,and_true,false_and,and_false,or_true,true_or,or_false,false_or,or_self,if_true,if_false,ite_true,ite_false,Bool.true_and,Bool.and_true,← hs] at hok hval
       clear hs Hok Hval
       obtain⟨HZ,Hok,Hval⟩:=hd3 hZ hok hval;clear hZ hok hval
       go_wp2_with fail
       refine (HZ.out _ Hb5.out).mono ?_
       rintro e w6 ⟨rfl,hs⟩
       have hb6:=Hb5.out.trans (hs.mono Hb5.out.size)
       have ha:=za1 hs Ha.out
       clear Ha a0 a1 a2 a3
       obtain⟨a0,a1,a2,a3⟩:=za0 ha
       have hb:=za1 hs Hb.out
       clear Hb b0 b1 b2 b3
       obtain⟨b0,b1,b2,b3⟩:=za0 hb
       have hr:=za1 hs Hr.out
       clear Hr r0 r1 r2 r3
       obtain⟨r0,r1,r2,r3⟩:=za0 hr
       have ho:=za1 hs Ho.out
       clear Ho o0 o1 o2 o3
       obtain⟨o0,o1,o2,o3⟩:=za0 ho
       obtain⟨Hs,Hb6,Ha,Hb,Hr,Ho⟩:=hd6 hs hb6 ha hb hr ho;clear hs hb6 ha hb hr ho
       cases s with
       | false =>
        go_wp2_with fail
        refine za4 rfl rfl rfl (za6 _ _ Hr.out) rfl ?_
        exact⟨zab (by rw[Hval.out];rfl) (by rw[Hval.out];rfl) (by rw[Hok.out] <;> rfl),za5 _ _ (za3 Hw.out Hb6.out) Hle.out⟩
       | true =>
        go_wp2_with fail
        refine za4 rfl rfl rfl (za6 _ _ Hr.out) rfl ?_
        exact⟨zab (by rw[Hval.out];rfl) (by rw[Hval.out];rfl) (by rw[Hok.out] <;> rfl),za5 _ _ (za3 Hw.out Hb6.out) Hle.out⟩
    | true =>
     go_upto_region 6 with (fail)
     obtain⟨w4,hv⟩ : ∃ W,W=w3.setCell ⟨go,0,none⟩ (.string lp):=⟨_,rfl⟩
     have hb4:Below w0.heap.size w0 w4:=by rw[hv];exact Hb3.out.setCell (p:=⟨go,0,none⟩) Hgeo.out _
     have ha:w4.heap[nb]? = some (.cells #[.string lo,.string hi] 34 (0,0)):=by rw[hv,Below.heap_setCell _ _ _ _ Hneao.out];exact Ha.out
     clear Ha a0 a1 a2 a3
     obtain⟨a0,a1,a2,a3⟩:=za0 ha
     have hb:w4.heap[nb+1]? = some (.cells #[.string lp,.string hj] 34 (0,0)):=by rw[hv,Below.heap_setCell _ _ _ _ Hnebo.out];exact Hb.out
     clear Hb b0 b1 b2 b3
     obtain⟨b0,b1,b2,b3⟩:=za0 hb
     have hr:w4.heap[nb+1+1]? = some (.cells #[.string ⟨#[]⟩,.string ⟨#[]⟩] 34 (0,0)):=by rw[hv,Below.heap_setCell _ _ _ _ Hnero.out];exact Hr.out
     clear Hr r0 r1 r2 r3
     obtain⟨r0,r1,r2,r3⟩:=za0 hr
     have ho:w4.heap[go]? = some (.cells #[.string lp,.string hi] 34 (0,0)):=by rw[hv];exact heap_setCell_same _ go 0 _ _ _ Ho.out
     clear Ho o0 o1 o2 o3
     obtain⟨o0,o1,o2,o3⟩:=za0 ho
     rw[← hv]
     clear hv
     obtain⟨Hb4,Ha,Hb,Hr,Ho⟩:=hd5 hb4 ha hb hr ho;clear hb4 ha hb hr ho
     cases d3 with
     | false =>
      cases d4 with
      | false =>
       go_wp2_with fail
       refine (HY.out _ Hb4.out).mono ?_
       rintro e w5 ⟨rfl,hs⟩
       have hb5:=Hb4.out.trans (hs.mono Hb4.out.size)
       have ha:=za1 hs Ha.out
       clear Ha a0 a1 a2 a3
       obtain⟨a0,a1,a2,a3⟩:=za0 ha
       have hb:=za1 hs Hb.out
       clear Hb b0 b1 b2 b3
       obtain⟨b0,b1,b2,b3⟩:=za0 hb
       have hr:=za1 hs Hr.out
       clear Hr r0 r1 r2 r3
       obtain⟨r0,r1,r2,r3⟩:=za0 hr
       have ho:=za1 hs Ho.out
       clear Ho o0 o1 o2 o3
       obtain⟨o0,o1,o2,o3⟩:=za0 ho
       obtain⟨Hs,Hb5,Ha,Hb,Hr,Ho⟩:=hd6 hs hb5 ha hb hr ho;clear hs hb5 ha hb hr ho
       cases ry with
       | false =>
        have hZ:=HO.out lp hi hl2 hh
        obtain⟨s,hs⟩ : ∃ z,z=mayS (lp.data.toList,hi.data.toList):=⟨_,rfl⟩
        rw[← hs] at hZ
        have hok:=Hok.out
        have hval:=Hval.out
        simp only[reduceCtorEq,eq_self,and_self,true_and,and_true,false_and,and_false,or_true,true_or,or_false,false_or,or_self,if_true,if_false,ite_true,ite_false,Bool.true_and,Bool.and_true,← hs] at hok hval
        clear hs Hok Hval
        obtain⟨HZ,Hok,Hval⟩:=hd3 hZ hok hval;clear hZ hok hval
        go_wp2_with fail
        refine (HZ.out _ Hb5.out).mono ?_
        rintro e w6 ⟨rfl,hs⟩
        have hb6:=Hb5.out.trans (hs.mono Hb5.out.size)
        have ha:=za1 hs Ha.out
        clear Ha a0 a1 a2 a3
        obtain⟨a0,a1,a2,a3⟩:=za0 ha
        have hb:=za1 hs Hb.out
        clear Hb b0 b1 b2 b3
        obtain⟨b0,b1,b2,b3⟩:=za0 hb
        have hr:=za1 hs Hr.out
        clear Hr r0 r1 r2 r3
        obtain⟨r0,r1,r2,r3⟩:=za0 hr
        have ho:=za1 hs Ho.out
        clear Ho o0 o1 o2 o3
        obtain⟨o0,o1,o2,o3⟩:=za0 ho
        obtain⟨Hs,Hb6,Ha,Hb,Hr,Ho⟩:=hd6 hs hb6 ha hb hr ho;clear hs hb6 ha hb hr ho
        cases s with
        | false =>
         go_wp2_with fail
         refine za4 rfl rfl rfl (za6 _ _ Hr.out) rfl ?_
         exact⟨zab (by rw[Hval.out];rfl) (by rw[Hval.out];rfl) (by rw[Hok.out] <;> rfl),za5 _ _ (za3 Hw.out Hb6.out) Hle.out⟩
        | true =>
         go_wp2_with fail
         refine za4 rfl rfl rfl (za6 _ _ Hr.out) rfl ?_
         exact⟨zab (by rw[Hval.out];rfl) (by rw[Hval.out];rfl) (by rw[Hok.out] <;> rfl),za5 _ _ (za3 Hw.out Hb6.out) Hle.out⟩
       | true =>
        go_upto_region 8 with (fail)
        obtain⟨w6,hv⟩ : ∃ W,W=w5.setCell ⟨go,1,none⟩ (.string hj):=⟨_,rfl⟩
        have hb6:Below w0.heap.size w0 w6:=by rw[hv];exact Hb5.out.setCell (p:=⟨go,1,none⟩) Hgeo.out _
        have ha:w6.heap[nb]? = some (.cells #[.string lo,.string hi] 34 (0,0)):=by rw[hv,Below.heap_setCell _ _ _ _ Hneao.out];exact Ha.out
        clear Ha a0 a1 a2 a3
        obtain⟨a0,a1,a2,a3⟩:=za0 ha
        have hb:w6.heap[nb+1]? = some (.cells #[.string lp,.string hj] 34 (0,0)):=by rw[hv,Below.heap_setCell _ _ _ _ Hnebo.out];exact Hb.out
        clear Hb b0 b1 b2 b3
        obtain⟨b0,b1,b2,b3⟩:=za0 hb
        have hr:w6.heap[nb+1+1]? = some (.cells #[.string ⟨#[]⟩,.string ⟨#[]⟩] 34 (0,0)):=by rw[hv,Below.heap_setCell _ _ _ _ Hnero.out];exact Hr.out
        clear Hr r0 r1 r2 r3
        obtain⟨r0,r1,r2,r3⟩:=za0 hr
        have ho:w6.heap[go]? = some (.cells #[.string lp,.string hj] 34 (0,0)):=by rw[hv];exact heap_setCell_same _ go 1 _ _ _ Ho.out
        clear Ho o0 o1 o2 o3
        obtain⟨o0,o1,o2,o3⟩:=za0 ho
        rw[← hv]
        clear hv
        obtain⟨Hb6,Ha,Hb,Hr,Ho⟩:=hd5 hb6 ha hb hr ho;clear hb6 ha hb hr ho
        have hZ:=HO.out lp hj hl2 hh2
        obtain⟨s,hs⟩ : ∃ z,z=mayS (lp.data.toList,hj.data.toList):=⟨_,rfl⟩
        rw[← hs] at hZ
        have hok:=Hok.out
        have hval:=Hval.out
        simp only[reduceCtorEq,eq_self,and_self,true_and,and_true,false_and,and_false,or_true,true_or,or_false,false_or,or_self,if_true,if_false,ite_true,ite_false,Bool.true_and,Bool.and_true,← hs] at hok hval
        clear hs Hok Hval
        obtain⟨HZ,Hok,Hval⟩:=hd3 hZ hok hval;clear hZ hok hval
        go_wp2_with fail
        refine (HZ.out _ Hb6.out).mono ?_
        rintro e w7 ⟨rfl,hs⟩
        have hb7:=Hb6.out.trans (hs.mono Hb6.out.size)
        have ha:=za1 hs Ha.out
        clear Ha a0 a1 a2 a3
        obtain⟨a0,a1,a2,a3⟩:=za0 ha
        have hb:=za1 hs Hb.out
        clear Hb b0 b1 b2 b3
        obtain⟨b0,b1,b2,b3⟩:=za0 hb
        have hr:=za1 hs Hr.out
        clear Hr r0 r1 r2 r3
        obtain⟨r0,r1,r2,r3⟩:=za0 hr
        have ho:=za1 hs Ho.out
        clear Ho o0 o1 o2 o3
        obtain⟨o0,o1,o2,o3⟩:=za0 ho
        obtain⟨Hs,Hb7,Ha,Hb,Hr,Ho⟩:=hd6 hs hb7 ha hb hr ho;clear hs hb7 ha hb hr ho
        cases s with
        | false =>
         go_wp2_with fail
         refine za4 rfl rfl rfl (za6 _ _ Hr.out) rfl ?_
         exact⟨zab (by rw[Hval.out];rfl) (by rw[Hval.out];rfl) (by rw[Hok.out] <;> rfl),za5 _ _ (za3 Hw.out Hb7.out) Hle.out⟩
        | true =>
         go_wp2_with fail
         refine za4 rfl rfl rfl (za6 _ _ Hr.out) rfl ?_
         exact⟨zab (by rw[Hval.out];rfl) (by rw[Hval.out];rfl) (by rw[Hok.out] <;> rfl),za5 _ _ (za3 Hw.out Hb7.out) Hle.out⟩
      | true =>
       go_upto_region 8 with (fail)
       obtain⟨w5,hv⟩ : ∃ W,W=w4.setCell ⟨go,1,none⟩ (.string hj):=⟨_,rfl⟩
       have hb5:Below w0.heap.size w0 w5:=by rw[hv];exact Hb4.out.setCell (p:=⟨go,1,none⟩) Hgeo.out _
       have ha:w5.heap[nb]? = some (.cells #[.string lo,.string hi] 34 (0,0)):=by rw[hv,Below.heap_setCell _ _ _ _ Hneao.out];exact Ha.out
       clear Ha a0 a1 a2 a3
       obtain⟨a0,a1,a2,a3⟩:=za0 ha
       have hb:w5.heap[nb+1]? = some (.cells #[.string lp,.string hj] 34 (0,0)):=by rw[hv,Below.heap_setCell _ _ _ _ Hnebo.out];exact Hb.out
       clear Hb b0 b1 b2 b3
       obtain⟨b0,b1,b2,b3⟩:=za0 hb
       have hr:w5.heap[nb+1+1]? = some (.cells #[.string ⟨#[]⟩,.string ⟨#[]⟩] 34 (0,0)):=by rw[hv,Below.heap_setCell _ _ _ _ Hnero.out];exact Hr.out
       clear Hr r0 r1 r2 r3
       obtain⟨r0,r1,r2,r3⟩:=za0 hr
       have ho:w5.heap[go]? = some (.cells #[.string lp,.string hj] 34 (0,0)):=by rw[hv];exact heap_setCell_same _ go 1 _ _ _ Ho.out
       clear Ho o0 o1 o2 o3
       obtain⟨o0,o1,o2,o3⟩:=za0 ho
       rw[← hv]
       clear hv
       obtain⟨Hb5,Ha,Hb,Hr,Ho⟩:=hd5 hb5 ha hb hr ho;clear hb5 ha hb hr ho
       have hZ:=HO.out lp hj hl2 hh2
       obtain⟨s,hs⟩ : ∃ z,z=mayS (lp.data.toList,hj.data.toList):=⟨_,rfl⟩
       rw[← hs] at hZ
       have hok:=Hok.out
       have hval:=Hval.out
       simp only[reduceCtorEq,eq_self,and_self,true_and,and_true,false_and,and_false,or_true,true_or,or_false,false_or,or_self,if_true,if_false,ite_true,ite_false,Bool.true_and,Bool.and_true,← hs] at hok hval
       clear hs Hok Hval
       obtain⟨HZ,Hok,Hval⟩:=hd3 hZ hok hval;clear hZ hok hval
       go_wp2_with fail
       refine (HZ.out _ Hb5.out).mono ?_
       rintro e w6 ⟨rfl,hs⟩
       have hb6:=Hb5.out.trans (hs.mono Hb5.out.size)
       have ha:=za1 hs Ha.out
       clear Ha a0 a1 a2 a3
       obtain⟨a0,a1,a2,a3⟩:=za0 ha
       have hb:=za1 hs Hb.out
       clear Hb b0 b1 b2 b3
       obtain⟨b0,b1,b2,b3⟩:=za0 hb
       have hr:=za1 hs Hr.out
       clear Hr r0 r1 r2 r3
       obtain⟨r0,r1,r2,r3⟩:=za0 hr
       have ho:=za1 hs Ho.out
       clear Ho o0 o1 o2 o3
       obtain⟨o0,o1,o2,o3⟩:=za0 ho
       obtain⟨Hs,Hb6,Ha,Hb,Hr,Ho⟩:=hd6 hs hb6 ha hb hr ho;clear hs hb6 ha hb hr ho
       cases s with
       | false =>
        go_wp2_with fail
        refine za4 rfl rfl rfl (za6 _ _ Hr.out) rfl ?_
        exact⟨zab (by rw[Hval.out];rfl) (by rw[Hval.out];rfl) (by rw[Hok.out] <;> rfl),za5 _ _ (za3 Hw.out Hb6.out) Hle.out⟩
       | true =>
        go_wp2_with fail
        refine za4 rfl rfl rfl (za6 _ _ Hr.out) rfl ?_
        exact⟨zab (by rw[Hval.out];rfl) (by rw[Hval.out];rfl) (by rw[Hok.out] <;> rfl),za5 _ _ (za3 Hw.out Hb6.out) Hle.out⟩
     | true =>
      have hZ:=HO.out lp hi hl2 hh
      obtain⟨s,hs⟩ : ∃ z,z=mayS (lp.data.toList,hi.data.toList):=⟨_,rfl⟩
      rw[← hs] at hZ
      have hok:=Hok.out
      have hval:=Hval.out
      simp only[reduceCtorEq,eq_self,and_self,true_and,and_true,false_and,and_false,or_true,true_or,or_false,false_or,or_self,if_true,if_false,ite_true,ite_false,Bool.true_and,Bool.and_true,← hs] at hok hval
      clear hs Hok Hval
      obtain⟨HZ,Hok,Hval⟩:=hd3 hZ hok hval;clear hZ hok hval
      go_wp2_with fail
      refine (HZ.out _ Hb4.out).mono ?_
      rintro e w5 ⟨rfl,hs⟩
      have hb5:=Hb4.out.trans (hs.mono Hb4.out.size)
      have ha:=za1 hs Ha.out
      clear Ha a0 a1 a2 a3
      obtain⟨a0,a1,a2,a3⟩:=za0 ha
      have hb:=za1 hs Hb.out
      clear Hb b0 b1 b2 b3
      obtain⟨b0,b1,b2,b3⟩:=za0 hb
      have hr:=za1 hs Hr.out
      clear Hr r0 r1 r2 r3
      obtain⟨r0,r1,r2,r3⟩:=za0 hr
      have ho:=za1 hs Ho.out
      clear Ho o0 o1 o2 o3
      obtain⟨o0,o1,o2,o3⟩:=za0 ho
      obtain⟨Hs,Hb5,Ha,Hb,Hr,Ho⟩:=hd6 hs hb5 ha hb hr ho;clear hs hb5 ha hb hr ho
      cases s with
      | false =>
       go_wp2_with fail
       refine za4 rfl rfl rfl (za6 _ _ Hr.out) rfl ?_
       exact⟨zab (by rw[Hval.out];rfl) (by rw[Hval.out];rfl) (by rw[Hok.out] <;> rfl),za5 _ _ (za3 Hw.out Hb5.out) Hle.out⟩
      | true =>
       go_wp2_with fail
       refine za4 rfl rfl rfl (za6 _ _ Hr.out) rfl ?_
       exact⟨zab (by rw[Hval.out];rfl) (by rw[Hval.out];rfl) (by rw[Hok.out] <;> rfl),za5 _ _ (za3 Hw.out Hb5.out) Hle.out⟩
   | true =>
    cases d3 with
    | false =>
     cases d4 with
     | false =>
      go_wp2_with fail
      refine (HY.out _ Hb3.out).mono ?_
      rintro e w4 ⟨rfl,hs⟩
      have hb4:=Hb3.out.trans (hs.mono Hb3.out.size)
      have ha:=za1 hs Ha.out
      clear Ha a0 a1 a2 a3
      obtain⟨a0,a1,a2,a3⟩:=za0 ha
      have hb:=za1 hs Hb.out
      clear Hb b0 b1 b2 b3
      obtain⟨b0,b1,b2,b3⟩:=za0 hb
      have hr:=za1 hs Hr.out
      clear Hr r0 r1 r2 r3
      obtain⟨r0,r1,r2,r3⟩:=za0 hr
      have ho:=za1 hs Ho.out
      clear Ho o0 o1 o2 o3
      obtain⟨o0,o1,o2,o3⟩:=za0 ho
      obtain⟨Hs,Hb4,Ha,Hb,Hr,Ho⟩:=hd6 hs hb4 ha hb hr ho;clear hs hb4 ha hb hr ho
      cases ry with
      | false =>
       have hZ:=HO.out lo hi hl hh
       obtain⟨s,hs⟩ : ∃ z,z=mayS (lo.data.toList,hi.data.toList):=⟨_,rfl⟩
       rw[← hs] at hZ
       have hok:=Hok.out
       have hval:=Hval.out
       simp only[reduceCtorEq,eq_self,and_self,true_and,and_true,false_and,and_false,or_true,true_or,or_false,false_or,or_self,if_true,if_false,ite_true,ite_false,Bool.true_and,Bool.and_true,← hs] at hok hval
       clear hs Hok Hval
       obtain⟨HZ,Hok,Hval⟩:=hd3 hZ hok hval;clear hZ hok hval
       go_wp2_with fail
       refine (HZ.out _ Hb4.out).mono ?_
       rintro e w5 ⟨rfl,hs⟩
       have hb5:=Hb4.out.trans (hs.mono Hb4.out.size)
       have ha:=za1 hs Ha.out
       clear Ha a0 a1 a2 a3
       obtain⟨a0,a1,a2,a3⟩:=za0 ha
       have hb:=za1 hs Hb.out
       clear Hb b0 b1 b2 b3
       obtain⟨b0,b1,b2,b3⟩:=za0 hb
       have hr:=za1 hs Hr.out
       clear Hr r0 r1 r2 r3
       obtain⟨r0,r1,r2,r3⟩:=za0 hr
       have ho:=za1 hs Ho.out
       clear Ho o0 o1 o2 o3
       obtain⟨o0,o1,o2,o3⟩:=za0 ho
       obtain⟨Hs,Hb5,Ha,Hb,Hr,Ho⟩:=hd6 hs hb5 ha hb hr ho;clear hs hb5 ha hb hr ho
       cases s with
       | false =>
        go_wp2_with fail
        refine za4 rfl rfl rfl (za6 _ _ Hr.out) rfl ?_
        exact⟨zab (by rw[Hval.out];rfl) (by rw[Hval.out];rfl) (by rw[Hok.out] <;> rfl),za5 _ _ (za3 Hw.out Hb5.out) Hle.out⟩
       | true =>
        go_wp2_with fail
        refine za4 rfl rfl rfl (za6 _ _ Hr.out) rfl ?_
        exact⟨zab (by rw[Hval.out];rfl) (by rw[Hval.out];rfl) (by rw[Hok.out] <;> rfl),za5 _ _ (za3 Hw.out Hb5.out) Hle.out⟩
      | true =>
       go_upto_region 8 with (fail)
       obtain⟨w5,hv⟩ : ∃ W,W=w4.setCell ⟨go,1,none⟩ (.string hj):=⟨_,rfl⟩
       have hb5:Below w0.heap.size w0 w5:=by rw[hv];exact Hb4.out.setCell (p:=⟨go,1,none⟩) Hgeo.out _
       have ha:w5.heap[nb]? = some (.cells #[.string lo,.string hi] 34 (0,0)):=by rw[hv,Below.heap_setCell _ _ _ _ Hneao.out];exact Ha.out
       clear Ha a0 a1 a2 a3
       obtain⟨a0,a1,a2,a3⟩:=za0 ha
       have hb:w5.heap[nb+1]? = some (.cells #[.string lp,.string hj] 34 (0,0)):=by rw[hv,Below.heap_setCell _ _ _ _ Hnebo.out];exact Hb.out
       clear Hb b0 b1 b2 b3
       obtain⟨b0,b1,b2,b3⟩:=za0 hb
       have hr:w5.heap[nb+1+1]? = some (.cells #[.string ⟨#[]⟩,.string ⟨#[]⟩] 34 (0,0)):=by rw[hv,Below.heap_setCell _ _ _ _ Hnero.out];exact Hr.out
       clear Hr r0 r1 r2 r3
       obtain⟨r0,r1,r2,r3⟩:=za0 hr
       have ho:w5.heap[go]? = some (.cells #[.string lo,.string hj] 34 (0,0)):=by rw[hv];exact heap_setCell_same _ go 1 _ _ _ Ho.out
       clear Ho o0 o1 o2 o3
       obtain⟨o0,o1,o2,o3⟩:=za0 ho
       rw[← hv]
       clear hv
       obtain⟨Hb5,Ha,Hb,Hr,Ho⟩:=hd5 hb5 ha hb hr ho;clear hb5 ha hb hr ho
       have hZ:=HO.out lo hj hl hh2
       obtain⟨s,hs⟩ : ∃ z,z=mayS (lo.data.toList,hj.data.toList):=⟨_,rfl⟩
       rw[← hs] at hZ
       have hok:=Hok.out
       have hval:=Hval.out
       simp only[reduceCtorEq,eq_self,and_self,true_and,and_true,false_and,and_false,or_true,true_or,or_false,false_or,or_self,if_true,if_false,ite_true,ite_false,Bool.true_and,Bool.and_true,← hs] at hok hval
       clear hs Hok Hval
       obtain⟨HZ,Hok,Hval⟩:=hd3 hZ hok hval;clear hZ hok hval
       go_wp2_with fail
       refine (HZ.out _ Hb5.out).mono ?_
       rintro e w6 ⟨rfl,hs⟩
       have hb6:=Hb5.out.trans (hs.mono Hb5.out.size)
       have ha:=za1 hs Ha.out
       clear Ha a0 a1 a2 a3
       obtain⟨a0,a1,a2,a3⟩:=za0 ha
       have hb:=za1 hs Hb.out
       clear Hb b0 b1 b2 b3
       obtain⟨b0,b1,b2,b3⟩:=za0 hb
       have hr:=za1 hs Hr.out
       clear Hr r0 r1 r2 r3
       obtain⟨r0,r1,r2,r3⟩:=za0 hr
       have ho:=za1 hs Ho.out
       clear Ho o0 o1 o2 o3
       obtain⟨o0,o1,o2,o3⟩:=za0 ho
       obtain⟨Hs,Hb6,Ha,Hb,Hr,Ho⟩:=hd6 hs hb6 ha hb hr ho;clear hs hb6 ha hb hr ho
       cases s with
       | false =>
        go_wp2_with fail
        refine za4 rfl rfl rfl (za6 _ _ Hr.out) rfl ?_
        exact⟨zab (by rw[Hval.out];rfl) (by rw[Hval.out];rfl) (by rw[Hok.out] <;> rfl),za5 _ _ (za3 Hw.out Hb6.out) Hle.out⟩
       | true =>
        go_wp2_with fail
        refine za4 rfl rfl rfl (za6 _ _ Hr.out) rfl ?_
        exact⟨zab (by rw[Hval.out];rfl) (by rw[Hval.out];rfl) (by rw[Hok.out] <;> rfl),za5 _ _ (za3 Hw.out Hb6.out) Hle.out⟩
     | true =>
      go_upto_region 8 with (fail)
      obtain⟨w4,hv⟩ : ∃ W,W=w3.setCell ⟨go,1,none⟩ (.string hj):=⟨_,rfl⟩
      have hb4:Below w0.heap.size w0 w4:=by rw[hv];exact Hb3.out.setCell (p:=⟨go,1,none⟩) Hgeo.out _
      have ha:w4.heap[nb]? = some (.cells #[.string lo,.string hi] 34 (0,0)):=by rw[hv,Below.heap_setCell _ _ _ _ Hneao.out];exact Ha.out
      clear Ha a0 a1 a2 a3
      obtain⟨a0,a1,a2,a3⟩:=za0 ha
      have hb:w4.heap[nb+1]? = some (.cells #[.string lp,.string hj] 34 (0,0)):=by rw[hv,Below.heap_setCell _ _ _ _ Hnebo.out];exact Hb.out
      clear Hb b0 b1 b2 b3
      obtain⟨b0,b1,b2,b3⟩:=za0 hb
      have hr:w4.heap[nb+1+1]? = some (.cells #[.string ⟨#[]⟩,.string ⟨#[]⟩] 34 (0,0)):=by rw[hv,Below.heap_setCell _ _ _ _ Hnero.out];exact Hr.out
      clear Hr r0 r1 r2 r3
      obtain⟨r0,r1,r2,r3⟩:=za0 hr
      have ho:w4.heap[go]? = some (.cells #[.string lo,.string hj] 34 (0,0)):=by rw[hv];exact heap_setCell_same _ go 1 _ _ _ Ho.out
      clear Ho o0 o1 o2 o3
      obtain⟨o0,o1,o2,o3⟩:=za0 ho
      rw[← hv]
      clear hv
      obtain⟨Hb4,Ha,Hb,Hr,Ho⟩:=hd5 hb4 ha hb hr ho;clear hb4 ha hb hr ho
      have hZ:=HO.out lo hj hl hh2
      obtain⟨s,hs⟩ : ∃ z,z=mayS (lo.data.toList,hj.data.toList):=⟨_,rfl⟩
      rw[← hs] at hZ
      have hok:=Hok.out
      have hval:=Hval.out
      simp only[reduceCtorEq,eq_self,and_self,true_and,and_true,false_and,and_false,or_true,true_or,or_false,false_or,or_self,if_true,if_false,ite_true,ite_false,Bool.true_and,Bool.and_true,← hs] at hok hval
      clear hs Hok Hval
      obtain⟨HZ,Hok,Hval⟩:=hd3 hZ hok hval;clear hZ hok hval
      go_wp2_with fail
      refine (HZ.out _ Hb4.out).mono ?_
      rintro e w5 ⟨rfl,hs⟩
      have hb5:=Hb4.out.trans (hs.mono Hb4.out.size)
      have ha:=za1 hs Ha.out
      clear Ha a0 a1 a2 a3
      obtain⟨a0,a1,a2,a3⟩:=za0 ha
      have hb:=za1 hs Hb.out
      clear Hb b0 b1 b2 b3
      obtain⟨b0,b1,b2,b3⟩:=za0 hb
      have hr:=za1 hs Hr.out
      clear Hr r0 r1 r2 r3
      obtain⟨r0,r1,r2,r3⟩:=za0 hr
      have ho:=za1 hs Ho.out
      clear Ho o0 o1 o2 o3
      obtain⟨o0,o1,o2,o3⟩:=za0 ho
      obtain⟨Hs,Hb5,Ha,Hb,Hr,Ho⟩:=hd6 hs hb5 ha hb hr ho;clear hs hb5 ha hb hr ho
      cases s with
      | false =>
       go_wp2_with fail
       refine za4 rfl rfl rfl (za6 _ _ Hr.out) rfl ?_
       exact⟨zab (by rw[Hval.out];rfl) (by rw[Hval.out];rfl) (by rw[Hok.out] <;> rfl),za5 _ _ (za3 Hw.out Hb5.out) Hle.out⟩
      | true =>
       go_wp2_with fail
       refine za4 rfl rfl rfl (za6 _ _ Hr.out) rfl ?_
       exact⟨zab (by rw[Hval.out];rfl) (by rw[Hval.out];rfl) (by rw[Hok.out] <;> rfl),za5 _ _ (za3 Hw.out Hb5.out) Hle.out⟩
    | true =>
     have hZ:=HO.out lo hi hl hh
     obtain⟨s,hs⟩ : ∃ z,z=mayS (lo.data.toList,hi.data.toList):=⟨_,rfl⟩
     rw[← hs] at hZ
     have hok:=Hok.out
     have hval:=Hval.out
     simp only[reduceCtorEq,eq_self,and_self,true_and,and_true,false_and,and_false,or_true,true_or,or_false,false_or,or_self,if_true,if_false,ite_true,ite_false,Bool.true_and,Bool.and_true,← hs] at hok hval
     clear hs Hok Hval
     obtain⟨HZ,Hok,Hval⟩:=hd3 hZ hok hval;clear hZ hok hval
     go_wp2_with fail
     refine (HZ.out _ Hb3.out).mono ?_
     rintro e w4 ⟨rfl,hs⟩
     have hb4:=Hb3.out.trans (hs.mono Hb3.out.size)
     have ha:=za1 hs Ha.out
     clear Ha a0 a1 a2 a3
     obtain⟨a0,a1,a2,a3⟩:=za0 ha
     have hb:=za1 hs Hb.out
     clear Hb b0 b1 b2 b3
     obtain⟨b0,b1,b2,b3⟩:=za0 hb
     have hr:=za1 hs Hr.out
     clear Hr r0 r1 r2 r3
     obtain⟨r0,r1,r2,r3⟩:=za0 hr
     have ho:=za1 hs Ho.out
     clear Ho o0 o1 o2 o3
     obtain⟨o0,o1,o2,o3⟩:=za0 ho
     obtain⟨Hs,Hb4,Ha,Hb,Hr,Ho⟩:=hd6 hs hb4 ha hb hr ho;clear hs hb4 ha hb hr ho
     cases s with
     | false =>
      go_wp2_with fail
      refine za4 rfl rfl rfl (za6 _ _ Hr.out) rfl ?_
      exact⟨zab (by rw[Hval.out];rfl) (by rw[Hval.out];rfl) (by rw[Hok.out] <;> rfl),za5 _ _ (za3 Hw.out Hb4.out) Hle.out⟩
     | true =>
      go_wp2_with fail
      refine za4 rfl rfl rfl (za6 _ _ Hr.out) rfl ?_
      exact⟨zab (by rw[Hval.out];rfl) (by rw[Hval.out];rfl) (by rw[Hok.out] <;> rfl),za5 _ _ (za3 Hw.out Hb4.out) Hle.out⟩
end

section
open Go.Shelf Go.RowKit Go.Lib Go.Sort SortM VerN
instance:Inhabited Tp:=⟨⟨(⟨#[]⟩,⟨#[]⟩),by decide⟩⟩
def zlu (l:List Tp) (v:Value) (w:World) (e:Ending) (w':World):Prop :=
 Below w.heap.size w w'∧((∃ o l',e = .returned (.tuple #[o,.bool true])∧MStep l l'∧w'.ownsRow w.heap.size 34 2 o l'.length ((tB l').flatMap za9))∨(e = .returned (.tuple #[v,.bool false])∧zgq l))
def NoneUp (l:List Tp) (k:Nat):Prop:=∀ i j (hi:i < l.length) (hj:j < l.length),i < k→i < j→mtT l[i] l[j]=false
def zkp (l:List Tp) (x:Tp) (i k:Nat):Prop:=∀ j (hj:j < l.length),j < k→i < j→mtT x l[j]=false
theorem zj3 {l:List Tp} {i:Nat} (hi:i < l.length) (h:NoneUp l i) (h2:zkp l l[i] i l.length):NoneUp l (i+1):=fun a j ha hj hai haj=>by
 by_cases e:a=i
 ·subst e;exact h2 j hj hj haj
 exact h a j ha hj (by omega) haj
theorem zj6 {l:List Tp} {x:Tp} {i k:Nat} (h:zkp l x i k) (h2:∀ hk:k < l.length,i < k→mtT x l[k]=false):zkp l x i (k+1):=fun j hj hjk hij=>by
 by_cases e:j=k
 ·subst e;exact h2 hj hij
 exact h j hj (by omega) hij
theorem tB_pick {l:List Tp} {i k n:Nat} (hn:n < l.length) (h:n≠i∧n≠k):(tB (zbk l i k (n+1))).flatMap za9=(tB (zbk l i k n)).flatMap za9 ++ [.string l[n].1.1,.string l[n].1.2]:=by
 have e:zbk l i k (n+1)=zbk l i k n ++ [l[n]]:=by
  show (if n≠i∧n≠k then zbk l i k n ++ [l[n]!] else zbk l i k n)=_
  rw[if_pos h,getElem!_pos l n hn]
 rw[e,tB,List.map_append,List.flatMap_append]
 rfl
theorem pick_skip {l:List Tp} {i k n:Nat} (h:¬ (n≠i∧n≠k)):zbk l i k (n+1)=zbk l i k n:=by
 show (if n≠i∧n≠k then zbk l i k n ++ [l[n]!] else zbk l i k n)=_
 rw[if_neg h]
theorem zgz {w:World} {v:Value} {l:List Tp} (h:RSps w [v] (tB l)) (hm:mayT l) (hl:l.length≤2000):Calls Tryz.prog 60 #[v] w (zlu l v w):=by
 have hat0:=fun a c (e:v = .slice a (tB l).length c)=>zge (by rw[← e];exact h)
 obtain⟨a,cap,rfl⟩:=zcg h
 have hat:=hat0 a cap rfl
 clear hat0
 obtain⟨n,hn⟩ : ∃ n,n=(tB l).length:=⟨_,rfl⟩
 have hnl:n=l.length:=by rw[hn,List.length_map]
 rw[← hn] at h ⊢
 have hn1:n≤2000:=by omega
 obtain⟨Hh,Hm,Hn,Hnl,Hat⟩:=hd5 h hm hn hnl hat;clear h hm hn hnl hat
 go_enter Tryz.func60,Tryz.ntmps60
 go_wp2_with fail
 go_loopw [12] (fun i wr=>∃ k:Nat,k≤n∧i = .int .i64 k∧NoneUp l k∧Below w.heap.size w wr) (fun i _=>n - (RowKit.intOf i).toNat)
 case atStart=>exact⟨0,Nat.zero_le _,rfl,fun _ _ _ _ h _=>absurd h (Nat.not_lt_zero _),Below.refl _ _⟩
 case round =>
  obtain⟨i,hi,rfl,hno,hbr⟩:=hrel
  by_cases hlt:i < n
  ·have hil:i < l.length:=by have:=Hnl.out;omega
   obtain⟨x,hx⟩ : ∃ x,x=l[i]:=⟨_,rfl⟩
   obtain⟨b,off,rfl,c0,c1⟩:=Hat.out i x.1 (by rw[hx,List.getElem?_map,List.getElem?_eq_getElem hil];rfl)
   have k5:(0:Int)≤(i:Int):=by omega
   have k6:(i:Int) < (n:Int):=by omega
   have d0:=cell_later hbr c0
   have d1:=cell_later hbr c1
   obtain⟨Hno,Hbr,Hx,Hc0,Hc1⟩:=hd5 hno hbr hx c0 c1;clear hno hbr hx c0 c1
   go_wp2_with fail
   go_loopw [17] (fun j wq=>∃ k:Nat,k≤n∧j = .int .i64 k∧zkp l x i k∧Below w.heap.size w wq) (fun j _=>n - (RowKit.intOf j).toNat)
   case atStart=>exact⟨0,Nat.zero_le _,rfl,fun _ _ h _=>absurd h (Nat.not_lt_zero _),Hbr.out⟩
   case round =>
    obtain⟨k,hk,rfl,hna,hbq⟩:=hrel
    by_cases hlk:k < n
    ·have hkl:k < l.length:=by have:=Hnl.out;omega
     obtain⟨y,hy⟩ : ∃ y,y=l[k]:=⟨_,rfl⟩
     obtain⟨b2,off2,e2,d2,d3⟩:=Hat.out k y.1 (by rw[hy,List.getElem?_map,List.getElem?_eq_getElem hkl];rfl)
     injection e2 with e2
     injection e2 with e2 e3 _
     subst e2 e3
     have hxs:=x.2
     have hys:=y.2
     have hxm:=Hm.out x (by rw[Hx.out];exact List.getElem_mem _)
     have hym:=Hm.out y (by rw[hy];exact List.getElem_mem _)
     have hM:=fun (W:World) (_:Below w.heap.size w W)=>zit x.1.1 x.1.2 y.1.1 y.1.2 (by omega) (by omega) (by omega) (by omega) W
     have hJ:=fun (W:World) (_:Below w.heap.size w W)=>ziu x.1.1 x.1.2 y.1.1 y.1.2 (by omega) (by omega) (by omega) (by omega) hxm hym W
     have hcf:∀ W,Below w.heap.size w W→W.cell? ⟨b,off+i * 2,none⟩=some (.string x.1.1)∧W.cell? ⟨b,off+i * 2+1,none⟩=some (.string x.1.2)∧W.cell? ⟨b,off+k * 2,none⟩=some (.string y.1.1)∧W.cell? ⟨b,off+k * 2+1,none⟩=some (.string y.1.2) :=
      fun W hW=>⟨cell_later hW Hc0.out,cell_later hW Hc1.out,cell_later hW d2,cell_later hW d3⟩
     have hnx:=fun (ho:¬ (i < k∧mtT x y=true))=>zj6 hna fun hk2 hik=>by
      have:mtT x y=false:=by cases hmt:mtT x y with
       | false=>rfl
       | true=>exact absurd ⟨hik,hmt⟩ ho
      rw[hy] at this
      exact this
     obtain⟨m1,m2,hmv⟩ : ∃ p q,(p,q)=mtV x.1.1 x.1.2 y.1.1 y.1.2:=⟨_,_,rfl⟩
     obtain⟨j1,j2,hjv⟩ : ∃ p q,(p,q)=jnV x.1.1 x.1.2 y.1.1 y.1.2:=⟨_,_,rfl⟩
     obtain⟨ok,hok⟩ : ∃ b,b=mtT x y:=⟨_,rfl⟩
     have hok2:zb8 (x.1.1.data.toList,x.1.2.data.toList) (y.1.1.data.toList,y.1.2.data.toList)=ok:=hok.symm
     rw[← hmv,hok2] at hM
     rw[← hjv] at hJ
     rw[← hok] at hnx
     obtain⟨x1,hx1⟩ : ∃ s,s=x.1.1:=⟨_,rfl⟩
     obtain⟨x2,hx2⟩ : ∃ s,s=x.1.2:=⟨_,rfl⟩
     obtain⟨y1,hy1⟩ : ∃ s,s=y.1.1:=⟨_,rfl⟩
     obtain⟨y2,hy2⟩ : ∃ s,s=y.1.2:=⟨_,rfl⟩
     rw[← hx1,← hx2,← hy1,← hy2] at hM hJ
     simp only[← hx1,← hx2,← hy1,← hy2] at hcf
     have k7:(0:Int)≤(k:Int):=by omega
     have k8:(k:Int) < (n:Int):=by omega
     have hbz:=zak (Below.refl wr.heap.size wr) 1
     have hcz:=hcf _ (hbq.trans (hbz.mono hbq.size))
     obtain⟨e0,e1,e4,e5⟩:=hcf _ hbq
     clear d0 d1 d2 d3 hok2
     obtain⟨Hna,Hbq,Hy,Hxs,Hys,Hxm,Hym,HM,HJ,Hnx,Hmv,Hjv,Hok,Hx1,Hx2,Hy1⟩:=hd16 hna hbq hy hxs hys hxm hym hM hJ hnx hmv hjv hok hx1 hx2 hy1;have Hy2:=hd hy2;clear hna hbq hy hxs hys hxm hym hM hJ hnx hmv hjv hok hx1 hx2 hy1 hy2
     have Hcz:=Lib.hid hcf
     clear hcf
     go_upto_region 7 with (fail)
     go_cut [7] (fun v W=>v = .bool ok∧Below w.heap.size w W)
     case first =>
      have hbz2:∀ o,Below wr.heap.size wr ((wr.alloc o).drew):=fun o=>((Below.refl _ _).alloc (Nat.le_refl _) o).drew
      go_region_held3 (fun w'=>w'.cell? ⟨b,off+i * 2,none⟩=some (.string x1)∧w'.cell? ⟨b,off+i * 2+1,none⟩=some (.string x2)∧w'.cell? ⟨b,off+k * 2,none⟩=some (.string y1)∧w'.cell? ⟨b,off+k * 2+1,none⟩=some (.string y2)) (first | exact hcz | exact Hcz.out _ (Hbq.out.trans ((hbz2 _).mono Hbq.out.size)) | exact Hcz.out _ (Hbq.out.trans ((hbz.alloc hbz.size _).mono Hbq.out.size)) | exact Hcz.out _ (Hbq.out.trans ((za5 _ _ hbz hbz.size).mono Hbq.out.size)) | exact Hcz.out _ (Hbq.out.trans ((za5 _ _ hbz (Nat.le_refl _)).mono Hbq.out.size)) | go_keep) (first | (go_at_call 118;refine (HM.out _ (by exact Hbq.out.trans (hbz.mono Hbq.out.size))).mono ?_;rintro e wz ⟨rfl,hsz⟩;replace hbz:=hbz.trans (hsz.mono hbz.size);replace hcz:=Hcz.out _ (Hbq.out.trans (hbz.mono Hbq.out.size))) | (go_at_call 118;refine (HM.out _ (by exact Hbq.out.trans ((hbz2 _).mono Hbq.out.size))).mono ?_;rintro e wz ⟨rfl,hsz⟩;obtain⟨zz0,zz1,zz2,zz3⟩:=za0 (za1 hsz (heap_alloc_new _ _));replace hbz:=(hbz2 _).trans (hsz.mono (hbz2 _).size);replace hcz:=Hcz.out _ (Hbq.out.trans (hbz.mono Hbq.out.size))))
      all_goals
       go_wp2_with fail
       go_meet
       exact⟨rfl,Hbq.out.trans (Below.mono (by first | exact hbz.alloc hbz.size _ | exact za5 _ _ hbz (Nat.le_refl _) | exact za5 _ _ (hbz.alloc hbz.size _) hbz.size) Hbq.out.size)⟩
     case rest =>
      obtain⟨rfl,hbc⟩:=hcut
      by_cases hik:i < k∧ok=true
      ·obtain⟨hik,rfl⟩:=hik
       have q1:decide ((k:Int)≤(i:Int))=false:=decide_eq_false (by omega)
       have hcf:=Hcz.out _ hbc
       obtain⟨g0,g1,g2,g3⟩:=hcf
       clear e0 e1 e4 e5
       have Hbc:=hd hbc;clear hbc
       go_upto_region 9 with (fail)
       have hbz:=zak (Below.refl wc.heap.size wc) 1
       have hcz:=Hcz.out _ (Hbc.out.trans (hbz.mono Hbc.out.size))
       go_region_held3 (fun w'=>w'.cell? ⟨b,off+i * 2,none⟩=some (.string x1)∧w'.cell? ⟨b,off+i * 2+1,none⟩=some (.string x2)∧w'.cell? ⟨b,off+k * 2,none⟩=some (.string y1)∧w'.cell? ⟨b,off+k * 2+1,none⟩=some (.string y2)) (first | exact hcz | exact Hcz.out _ (Hbc.out.trans ((hbz.alloc hbz.size _).mono Hbc.out.size)) | go_keep) (first | (go_at_call 119;refine (HJ.out _ (by exact Hbc.out.trans (hbz.mono Hbc.out.size))).mono ?_;rintro e wz ⟨rfl,hsz⟩;replace hbz:=hbz.trans (hsz.mono hbz.size);replace hcz:=Hcz.out _ (Hbc.out.trans (hbz.mono Hbc.out.size))))
       have hbw:=Hbc.out.trans (hbz.mono Hbc.out.size)
       have hown:(wz.alloc (.cells #[.string j1,.string j2] 34)).ownsRow w.heap.size 34 2 (.slice (some ⟨wz.heap.size,0,none⟩) 1 1) 1 [.string j1,.string j2]:=World.ownsRow_lit (base:=w.heap.size) (e:=34) (size:=2) wz #[.string j1,.string j2] 1 hbw.size (by decide) rfl
       have hbw2:=hbw.alloc hbw.size (.cells #[.string j1,.string j2] 34)
       obtain⟨Hown,Hbw,Hbw2⟩:=hd3 hown hbw hbw2;clear hown hbw hbw2
       have hj0:(tB (jnT x y :: zbk l i k 0)).flatMap za9 = [.string j1,.string j2]:=by
        show za9 (jnV x.1.1 x.1.2 y.1.1 y.1.2) ++ []=_
        rw[← Hjv.out]
        rfl
       have hst:MStep l (jnT x y :: zbk l i k l.length):=by
        have h9:=step_of (l:=l) hik hkl (by rw[← Hx.out,← Hy.out];exact Hok.out.symm)
        rw[← Hx.out,← Hy.out] at h9
        exact h9
       obtain⟨Hj0,Hst⟩:=hd2 hj0 hst;clear hj0 hst
       go_wp2_with fail
       go_loopw [8,51] (fun v m wr=>∃ q:Nat,q≤n∧m = .int .i64 q∧wr.ownsRow w.heap.size 34 2 v (jnT x y :: zbk l i k q).length ((tB (jnT x y :: zbk l i k q)).flatMap za9)∧Below w.heap.size w wr) (fun _ m _=>n - (RowKit.intOf m).toNat)
       case atStart=>exact⟨0,Nat.zero_le _,rfl,by rw[Hj0.out];exact Hown.out,Hbw2.out⟩
       case round =>
        obtain⟨q,hq,rfl,hrow,hbz⟩:=hrel
        obtain⟨ra,rc,rfl⟩:=zad hrow
        by_cases hlq:q < n
        ·by_cases hqk:q≠i∧q≠k
         ·have hql:q < l.length:=by have:=Hnl.out;omega
          obtain⟨z,hz⟩ : ∃ z,z=l[q]:=⟨_,rfl⟩
          obtain⟨b3,off3,e3,f0,f1⟩:=Hat.out q z.1 (by rw[hz,List.getElem?_map,List.getElem?_eq_getElem hql];rfl)
          injection e3 with e3
          injection e3 with e3 e4 _
          subst e3 e4
          have f2:=cell_later hbz f0
          have f3:=cell_later hbz f1
          have hpk:=tB_pick (l:=l) (i:=i) (k:=k) hql hqk
          have hpl:zbk l i k (q+1)=zbk l i k q ++ [z]:=by
           show (if q≠i∧q≠k then zbk l i k q ++ [l[q]!] else zbk l i k q)=_
           rw[if_pos hqk,getElem!_pos l q hql,hz]
          have hpn:=zk4 l i k q
          rw[← hz] at hpk
          obtain⟨N,hN⟩ : ∃ N,N=(tB (jnT x y :: zbk l i k q)).flatMap za9:=⟨_,rfl⟩
          obtain⟨m,hm⟩ : ∃ m,m=(jnT x y :: zbk l i k q).length:=⟨_,rfl⟩
          obtain⟨z1,hz1⟩ : ∃ s,s=z.1.1:=⟨_,rfl⟩
          obtain⟨z2,hz2⟩ : ∃ s,s=z.1.2:=⟨_,rfl⟩
          have hN':(tB (jnT x y :: zbk l i k (q+1))).flatMap za9=N ++ [.string z1,.string z2]:=by
           rw[hN,hz1,hz2]
           show za9 _ ++ (tB (zbk l i k (q+1))).flatMap za9=(za9 _ ++ (tB (zbk l i k q)).flatMap za9) ++ _
           rw[hpk,List.append_assoc]
          have hm':(jnT x y :: zbk l i k (q+1)).length=m+1:=by rw[hm,hpl];simp
          have hmq:m≤2001:=by rw[hm];simp only[List.length_cons];omega
          rw[← hN,← hm] at hrow
          rw[← hz1] at f2
          rw[← hz2] at f3
          have t1:((q:Int) != (i:Int))=true:=by rw[bne_iff_ne];omega
          have t2:((q:Int) != (k:Int))=true:=by rw[bne_iff_ne];omega
          have t3:(0:Int)≤(q:Int):=by omega
          have t4:(q:Int) < (n:Int):=by omega
          have t5:=hbz.size
          clear f0 f1 hqk
          rw[← hm]
          obtain⟨Hrow,Hbz,Hz,Hpk,Hpl,Hpn,HN,Hm,Hz1,Hz2,HN',Hm'⟩:=hd12 hrow hbz hz hpk hpl hpn hN hm hz1 hz2 hN' hm';clear hrow hbz hz hpk hpl hpn hN hm hz1 hz2 hN' hm'
          go_wp2_with (at_builtin;(refine zav zbl rfl (.tmp 62) (.tmp 67) rfl w.heap.size (.slice ra m rc) m N rfl Hrow.out 1 #[.string z1,.string z2] rfl rfl (by simp[Value.oneCell']) (by omega) (by unfold maxLen;omega) (by omega) ?_;intro v9 w9 hown9 hg9 hm9;obtain⟨a9,c9,rfl⟩:=zad hown9;have hb9:=(zbs Hbz.out Hrow.out (Nat.le_refl _) hg9 (by omega):Below w.heap.size w w9);obtain⟨Hown9,Hb9⟩:=hd2 hown9 hb9;clear hown9 hg9 hm9 hb9))
          go_roundw
          case rel=>exact⟨q+1,by omega,by go_num,by rw[HN'.out,Hm'.out];exact Hown9.out,Hb9.out⟩
          case measure=>(simp[RowKit.intOf]) <;> omega
         have hsk:=pick_skip (l:=l) hqk
         rw[← hsk] at hrow ⊢
         obtain⟨Hsk,Hrow,Hbz⟩:=hd3 hsk hrow hbz;clear hsk hrow hbz
         by_cases hqi:q=i
         ·have t1:((q:Int) != (i:Int))=false:=by rw[bne_eq_false_iff_eq];omega
          go_wp2_with fail
          go_roundw
          case rel=>exact⟨q+1,by omega,by go_num,Hrow.out,Hbz.out⟩
          case measure=>(simp[RowKit.intOf]) <;> omega
         have t1:((q:Int) != (i:Int))=true:=by rw[bne_iff_ne];omega
         have t2:((q:Int) != (k:Int))=false:=by rw[bne_eq_false_iff_eq];omega
         go_wp2_with fail
         go_roundw
         case rel=>exact⟨q+1,by omega,by go_num,Hrow.out,Hbz.out⟩
         case measure=>(simp[RowKit.intOf]) <;> omega
        obtain rfl:q=n:=by omega
        have hrow2:=hrow
        rw[Hnl.out] at hrow2
        obtain⟨Hrow,Hrow2,Hbz⟩:=hd3 hrow hrow2 hbz;clear hrow hrow2 hbz
        go_wp2_with fail
        go_ret2
        exact⟨Hbz.out,.inl ⟨_,_,rfl,Hst.out,by have:=Hrow.out;rw[Hnl.out] at this ⊢;exact this⟩⟩
      have q1:i < k→ok=false:=fun h=>by cases ok with
       | false=>rfl
       | true=>exact absurd ⟨h,rfl⟩ hik
      have hnx2:=Hnx.out (by rw[← Hok.out] at *;exact hik)
      obtain⟨Hbc,Hnx2⟩:=hd2 hbc hnx2;clear hbc hnx2
      by_cases h2:i < k
      ·obtain rfl:=q1 h2
       have q2:decide ((k:Int)≤(i:Int))=false:=decide_eq_false (by omega)
       go_wp2_with fail
       go_roundw
       case rel=>exact⟨k+1,by omega,by go_num,Hnx2.out,Hbc.out⟩
       case measure=>(simp[RowKit.intOf]) <;> omega
      have q2:decide ((k:Int)≤(i:Int))=true:=decide_eq_true (by omega)
      clear q1
      go_wp2_with fail
      go_roundw
      case rel=>exact⟨k+1,by omega,by go_num,Hnx2.out,Hbc.out⟩
      case measure=>(simp[RowKit.intOf]) <;> omega
    obtain rfl:k=n:=by omega
    have hnext:=zj3 hil Hno.out (by rw[← Hx.out,← Hnl.out];exact hna)
    obtain⟨Hna,Hbq,Hnext⟩:=hd3 hna hbq hnext;clear hna hbq hnext
    go_wp2_with fail
    go_roundw
    case rel=>exact⟨i+1,by omega,by go_num,Hnext.out,Hbq.out⟩
    case measure=>(simp[RowKit.intOf]) <;> omega
  obtain rfl:i=n:=by omega
  have hnm:zgq l:=zl7 fun a b ha hb hab=>hno a b ha hb (by have:=Hnl.out;omega) hab
  obtain⟨Hno,Hbr,Hnm⟩:=hd3 hno hbr hnm;clear hno hbr hnm
  go_wp2_with fail
  go_ret2
  exact⟨Hbr.out,.inr ⟨rfl,Hnm.out⟩⟩
end

section
open Go.RowKit Go.Lib VerN
theorem less_lt (a b:List UInt8):zcw a b=decide (zao a b < 0):=by
 rw[less_is]
 have:=zb4.tri a b
 exact decide_eq_decide.2 ⟨fun h=>by omega,fun h=>by omega⟩
theorem zlq (lo hi lp hj:ByteArray) (hl:lo.size≤1000000) (hl2:lp.size≤1000000) (w:World):Calls Tryz.prog 61 #[.agg #[.string lo,.string hi],.agg #[.string lp,.string hj]] w fun e w'=>e = .returned (.bool (ltLo lp.data.toList lo.data.toList))∧Below w.heap.size w w':=by
 obtain⟨W0,hW0⟩ : ∃ W0,W0=(w.alloc (.cells #[.string lo,.string hi] 34)).alloc (.cells #[.string lp,.string hj] 34):=⟨_,rfl⟩
 obtain⟨nb,hnb⟩ : ∃ nb,nb=w.heap.size:=⟨_,rfl⟩
 have hw:Below w.heap.size w W0:=by rw[hW0];exact (za2 _ _).alloc (by simp) _
 have c0:W0.cell? ⟨nb,0,none⟩=some (.string lo):=by rw[hW0,hnb];exact (za0 (zh4 _ _ _ _ _)).1
 have d0:W0.cell? ⟨nb+1,0,none⟩=some (.string lp):=by rw[hW0,hnb];exact (za0 (zh3 _ _ _ _ _)).1
 have k2:lo.toList.isEmpty=decide (lo.data.toList = []):=zce lo
 have k3:lp.toList.isEmpty=decide (lp.data.toList = []):=zce lp
 have hP:=zbg hw (zcx lp lo hl2 hl W0)
 rw[less_lt] at hP
 obtain⟨q,hq⟩ : ∃ p,p=decide (lo.data.toList = []):=⟨_,rfl⟩
 obtain⟨r,hr⟩ : ∃ p,p=decide (lp.data.toList = []):=⟨_,rfl⟩
 obtain⟨s,hs⟩ : ∃ p,p=decide (zao lp.data.toList lo.data.toList < 0):=⟨_,rfl⟩
 have hv:ltLo lp.data.toList lo.data.toList=(!q && (r || s)):=by
  unfold ltLo
  rw[hq,hr,hs]
  congr 1
  by_cases h:lo.data.toList = [] <;> simp[h]
 rw[← hq] at k2
 rw[← hr] at k3
 rw[← hs] at hP
 clear hq hr hs
 obtain⟨HP,Hw,Hv⟩:=hd3 hP hw hv;clear hP hw hv
 go_enter Tryz.func61,Tryz.ntmps61
 go_upto_region 1 with (fail)
 rw[← hW0,← hnb]
 clear hW0 hnb
 cases q with
 | true =>
  go_wp2_with fail
  go_ret
  exact⟨by rw[Hv.out];rfl,Hw.out⟩
 | false =>
  cases r with
  | true =>
   go_wp2_with fail
   go_ret
   exact⟨by rw[Hv.out];rfl,Hw.out⟩
  | false =>
   go_wp2_with fail
   refine HP.out.mono ?_
   rintro e w1 ⟨rfl,hb1⟩
   have Hb1:=hd hb1;clear hb1
   go_wp2_with fail
   go_ret
   exact⟨by rw[Hv.out];rfl,Hb1.out⟩
end

section
open SortM
theorem zi1 {α:Type} {lt:α→α→Bool} (x:α):∀ (p q:List α),(∀ y∈p,lt x y=false)→(∀ y∈q,lt x y=true)→ins lt x (p ++ q)=p ++ x :: q
 | [],[],_,_=>rfl
 | [],y :: r,_,hq=>by
  show ins lt x (y :: r)=x :: y :: r
  unfold ins
  rw[if_pos (hq y (by simp))]
 | y :: p,q,hp,hq=>by
  show ins lt x (y :: (p ++ q))=y :: (p ++ x :: q)
  unfold ins
  rw[if_neg (by rw[hp y (by simp)];simp),zi1 x p q (fun z hz=>hp z (by simp[hz])) hq]
theorem zi2 {α:Type} {lt:α→α→Bool} (h:Swo lt) {x:α} {l:List α} (hl:zar lt l) {at_:Nat} (hat:at_≤l.length) (hq:∀ i (hi:i < l.length),at_≤i→lt x l[i]=true) (hp:∀ h0:0 < at_,lt x (l[at_ - 1]'(by omega))=false) :
  ins lt x l=l.take at_ ++ x :: l.drop at_:=by
 have e:=zi1 (lt:=lt) x (l.take at_) (l.drop at_) ?_ ?_
 ·rw[List.take_append_drop] at e
  exact e
 ·intro y hy
  obtain⟨i,hi,rfl⟩:=List.mem_iff_getElem.1 hy
  rw[List.length_take] at hi
  rw[List.getElem_take]
  have hpos:0 < at_:=by omega
  have h1:=hp hpos
  by_cases he:i=at_ - 1
  ·subst he;exact h1
  have h2:=List.pairwise_iff_getElem.1 hl i (at_ - 1) (by omega) (by omega) (by omega)
  exact h.ntrans _ _ _ h2 h1
 intro y hy
 obtain⟨i,hi,rfl⟩:=List.mem_iff_getElem.1 hy
 rw[List.length_drop] at hi
 rw[List.getElem_drop]
 exact hq _ (by omega) (by omega)
end
end Go.Proofs.YteailgjiifdgcaaGreatDoor
