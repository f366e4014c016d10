/- Walks and plain facts. Texts merged: RefV, RefW, CmpI, CmpS, RefX, RefC, RefM, RefLs, VerR, ItOwn, Split, ResTwo, Parts, VerAt, VerCmp, Txs. Condition: none beyond what each says. -/
import Derived.Test.YteailgjiifdgcaaGreatDoorRows
import Derived.Sort.Walk0
import Derived.Laws.Rows
import Derived.Laws.ResultCell
import Derived.RangeFuncNested
import Derived.RangeFuncBox
import Derived.RangeFuncCalls
import Derived.RangeFuncLeaves
import Derived.Shelf.Abstract
import Derived.OwnWalkIn
import Derived.TacticsInMore
import Derived.LoopNIn
import Derived.LoopIn
import Derived.Deep.RegionHeld3
import Derived.Deep.CutRange
import Derived.Test.YteailgjiifdgcaaGreatDoorSpansReadsAll1
set_option linter.unusedVariables false
set_option linter.unusedSimpArgs false
set_option maxRecDepth 10000
set_option maxHeartbeats 4000000
namespace Go.Proofs.YteailgjiifdgcaaGreatDoor
section
open Go.RowKit Go.Lib VerN
theorem letOk_all {l:List UInt8} (h:zb9 l=true):∀ x∈l,zf7 x=true:=by unfold zb9 at h;rw[Bool.and_eq_true] at h;exact List.all_eq_true.1 h.2
theorem digs_all {l:List UInt8} (h:digs l=true):∀ x∈l,zcz x=true:=by unfold digs at h;rw[Bool.and_eq_true] at h;exact List.all_eq_true.1 h.1
theorem zcq (s:ByteArray) (hs:s.size≤9223372036854775807) (w:World):Calls Tryz.prog 203 #[.string s] w fun e w'=>e = .returned (.bool (zb9 s.data.toList))∧w=w':=by
 obtain⟨l,hl⟩ : ∃ l,l=s.data.toList:=⟨_,rfl⟩
 have hln:l.length=s.size:=by rw[hl];exact Txt.len s
 obtain⟨r,hr⟩ : ∃ r,r=zb9 l:=⟨_,rfl⟩
 rw[← hl,← hr]
 obtain⟨Hl,Hln,Hr⟩:=hd3 hl hln hr;clear hl hln hr
 go_enter Tryz.func203,Tryz.ntmps203
 go_wp2_with fail
 go_loop [3] (fun i=>∃ k:Nat,k≤s.size∧i = .int .i64 k∧(l.take k).all zf7=true) (fun i=>s.size - (RowKit.intOf i).toNat)
 case atStart=>exact⟨0,Nat.zero_le _,rfl,by simp⟩
 case round =>
  obtain⟨k,hk,rfl,hall⟩:=hrel
  by_cases hlt:k < s.size
  ·have hkl:k < l.length:=by have:=Hln.out;omega
   obtain⟨n,hn⟩ : ∃ n,n=s[k].toNat:=⟨_,rfl⟩
   have hn256:n < 256:=by rw[hn];exact s[k].toNat_lt
   have hsk:s[k].toNat=n:=hn.symm
   have e:l[k]=s[k]:=by simp only[Hl.out];rfl
   have hyes:97≤n→n≤122→(l.take (k+1)).all zf7=true:=fun h1 h2=>by
    rw[List.take_succ_eq_append_getElem hkl,List.all_append,hall]
    simp only[List.all_cons,List.all_nil,Bool.and_true,Bool.true_and]
    rw[zc7,e,hsk];exact⟨h1,h2⟩
   have hno:¬ (97≤n∧n≤122)→r=false:=fun h=>by
    rw[Hr.out,Bool.eq_false_iff]
    intro h2
    have:=(letOk_all h2) l[k] (List.getElem_mem hkl)
    rw[zc7,e,hsk] at this
    exact h this
   clear hn e hkl
   rcases Nat.lt_or_ge n 97 with h1 | h1
   ·have hf:=hno (by omega)
    have k1:decide ((n:Int) < 97)=true:=decide_eq_true (by omega)
    obtain⟨Hall,Hyes,Hno,Hf⟩:=hd4 hall hyes hno hf;clear hall hyes hno hf
    go_wp2_with fail
    go_ret
    exact⟨zaf Hf.out.symm,rfl⟩
   have k1:decide ((n:Int) < 97)=false:=decide_eq_false (by omega)
   rcases Nat.lt_or_ge 122 n with h2 | h2
   ·have hf:=hno (by omega)
    have k2:decide (122 < (n:Int))=true:=decide_eq_true (by omega)
    obtain⟨Hall,Hyes,Hno,Hf⟩:=hd4 hall hyes hno hf;clear hall hyes hno hf
    go_wp2_with fail
    go_ret
    exact⟨zaf Hf.out.symm,rfl⟩
   have k2:decide (122 < (n:Int))=false:=decide_eq_false (by omega)
   have hnext:=hyes h1 h2
   obtain⟨Hall,Hyes,Hno,Hnext⟩:=hd4 hall hyes hno hnext;clear hall hyes hno hnext
   go_wp2_with fail
   go_round
   case rel=>exact⟨k+1,by omega,by go_num,Hnext.out⟩
   case measure=>simp[RowKit.intOf];omega
  obtain rfl:k=s.size:=by omega
  have hall2:l.all zf7=true:=by rw[List.take_of_length_le (by have:=Hln.out;omega)] at hall;exact hall
  have hf:(!s.toList.isEmpty)=r:=by
   rw[Hr.out,Txt.no_dec]
   have h0:=Hln.out
   unfold zb9
   rw[hall2]
   cases l with
   | nil=>simp at h0;rw[decide_eq_true (by omega)];rfl
   | cons x t=>simp at h0;rw[decide_eq_false (by omega)];rfl
  obtain⟨Hall,Hall2,Hf⟩:=hd3 hall hall2 hf;clear hall hall2 hf
  go_wp2_with fail
  go_ret
  exact⟨zaf Hf.out,rfl⟩
theorem zea (s:ByteArray) (hs:s.size≤9223372036854775807) (w:World):Calls Tryz.prog 204 #[.string s] w fun e w'=>e = .returned (.bool (digs s.data.toList))∧w=w':=by
 obtain⟨l,hl⟩ : ∃ l,l=s.data.toList:=⟨_,rfl⟩
 have hln:l.length=s.size:=by rw[hl];exact Txt.len s
 obtain⟨r,hr⟩ : ∃ r,r=digs l:=⟨_,rfl⟩
 rw[← hl,← hr]
 obtain⟨Hl,Hln,Hr⟩:=hd3 hl hln hr;clear hl hln hr
 go_enter Tryz.func204,Tryz.ntmps204
 go_wp2_with fail
 go_loop [3] (fun i=>∃ k:Nat,k≤s.size∧i = .int .i64 k∧(l.take k).all zcz=true) (fun i=>s.size - (RowKit.intOf i).toNat)
 case atStart=>exact⟨0,Nat.zero_le _,rfl,by simp⟩
 case round =>
  obtain⟨k,hk,rfl,hall⟩:=hrel
  by_cases hlt:k < s.size
  ·have hkl:k < l.length:=by have:=Hln.out;omega
   obtain⟨n,hn⟩ : ∃ n,n=s[k].toNat:=⟨_,rfl⟩
   have hn256:n < 256:=by rw[hn];exact s[k].toNat_lt
   have hsk:s[k].toNat=n:=hn.symm
   have e:l[k]=s[k]:=by simp only[Hl.out];rfl
   have hyes:48≤n→n≤57→(l.take (k+1)).all zcz=true:=fun h1 h2=>by
    rw[List.take_succ_eq_append_getElem hkl,List.all_append,hall]
    simp only[List.all_cons,List.all_nil,Bool.and_true,Bool.true_and]
    rw[zba,e,hsk];exact⟨h1,h2⟩
   have hno:¬ (48≤n∧n≤57)→r=false:=fun h=>by
    rw[Hr.out,Bool.eq_false_iff]
    intro h2
    have:=(digs_all h2) l[k] (List.getElem_mem hkl)
    rw[zba,e,hsk] at this
    exact h this
   clear hn e hkl
   rcases Nat.lt_or_ge n 48 with h1 | h1
   ·have hf:=hno (by omega)
    have k1:decide ((n:Int) < 48)=true:=decide_eq_true (by omega)
    obtain⟨Hall,Hyes,Hno,Hf⟩:=hd4 hall hyes hno hf;clear hall hyes hno hf
    go_wp2_with fail
    go_ret
    exact⟨zaf Hf.out.symm,rfl⟩
   have k1:decide ((n:Int) < 48)=false:=decide_eq_false (by omega)
   rcases Nat.lt_or_ge 57 n with h2 | h2
   ·have hf:=hno (by omega)
    have k2:decide (57 < (n:Int))=true:=decide_eq_true (by omega)
    obtain⟨Hall,Hyes,Hno,Hf⟩:=hd4 hall hyes hno hf;clear hall hyes hno hf
    go_wp2_with fail
    go_ret
    exact⟨zaf Hf.out.symm,rfl⟩
   have k2:decide (57 < (n:Int))=false:=decide_eq_false (by omega)
   have hnext:=hyes h1 h2
   obtain⟨Hall,Hyes,Hno,Hnext⟩:=hd4 hall hyes hno hnext;clear hall hyes hno hnext
   go_wp2_with fail
   go_round
   case rel=>exact⟨k+1,by omega,by go_num,Hnext.out⟩
   case measure=>simp[RowKit.intOf];omega
  obtain rfl:k=s.size:=by omega
  have hall2:l.all zcz=true:=by rw[List.take_of_length_le (by have:=Hln.out;omega)] at hall;exact hall
  have hf:(!s.toList.isEmpty)=r:=by
   rw[Hr.out,Txt.no_dec]
   have h0:=Hln.out
   unfold digs
   rw[hall2]
   cases l with
   | nil=>simp at h0;rw[decide_eq_true (by omega)];rfl
   | cons x t=>simp at h0;rw[decide_eq_false (by omega)];rfl
  obtain⟨Hall,Hall2,Hf⟩:=hd3 hall hall2 hf;clear hall hall2 hf
  go_wp2_with fail
  go_ret
  exact⟨zaf Hf.out,rfl⟩
end

section
open Go.RowKit Go.Lib VerN
theorem lead_is {l:List UInt8} (hne:l≠[]):lead l=(decide (l = [48]) || decide (l[0]'(List.length_pos_iff.2 hne)≠48)):=by
 match l,hne with
 | x :: r,_ =>
  unfold lead
  simp
theorem zl3 (l:List UInt8):zaw l=(zb9 l || (digs l && (decide (l.length≤9) && lead l))):=by
 unfold zaw zcd digs
 cases l.isEmpty <;> cases l.all zcz <;> cases decide (l.length≤9) <;> rfl
theorem part1_any (s:ByteArray) (hs:s.size≤9223372036854775807) (w:World):Calls Tryz.prog 171 #[.string s] w fun e w'=>e = .returned (.bool (zaw s.data.toList))∧w=w':=by
 have hL:=fun W=>zcq s hs W
 have hD:=fun W=>zea s hs W
 have hp:=zl3 s.data.toList
 have hlen:=Txt.len s
 have hlead:=fun h=>lead_is (l:=s.data.toList) h
 obtain⟨r,hr⟩ : ∃ r,r=zaw s.data.toList:=⟨_,rfl⟩
 obtain⟨x,hx⟩ : ∃ r,r=zb9 s.data.toList:=⟨_,rfl⟩
 obtain⟨y,hy⟩ : ∃ r,r=digs s.data.toList:=⟨_,rfl⟩
 rw[← hr] at hp ⊢
 rw[← hx] at hL hp
 rw[← hy] at hD hp
 cases x with
 | true =>
  have h0:r=true:=by rw[hp];rfl
  obtain⟨HL,HD,Hp,Hlen,Hlead,Hr,Hx,Hy,H0⟩:=hd9 hL hD hp hlen hlead hr hx hy h0;clear hL hD hp hlen hlead hr hx hy h0
  go_enter Tryz.func171,Tryz.ntmps171
  go_wp2_with fail
  refine (HL.out _).mono ?_
  rintro e w1 ⟨rfl,rfl⟩
  go_wp2_with fail
  go_ret
  exact⟨zaf H0.out.symm,rfl⟩
 | false =>
  cases y with
  | false =>
   have h0:r=false:=by rw[hp];rfl
   obtain⟨HL,HD,Hp,Hlen,Hlead,Hr,Hx,Hy,H0⟩:=hd9 hL hD hp hlen hlead hr hx hy h0;clear hL hD hp hlen hlead hr hx hy h0
   go_enter Tryz.func171,Tryz.ntmps171
   go_wp2_with fail
   refine (HL.out _).mono ?_
   rintro e w1 ⟨rfl,rfl⟩
   go_wp2_with fail
   refine (HD.out _).mono ?_
   rintro e w1 ⟨rfl,rfl⟩
   go_wp2_with fail
   go_ret
   exact⟨zaf H0.out.symm,rfl⟩
  | true =>
   have hne:s.data.toList≠[]:=fun e=>by rw[e] at hy;cases hy
   have h1:0 < s.size:=by rw[← hlen];exact List.length_pos_iff.2 hne
   have hq:r=(decide (s.size≤9) && (decide (s.data.toList = [48]) || decide (s[0]≠48))):=by
    rw[hp,hlead hne,show decide (s.size≤9)=decide (s.data.toList.length≤9) by rw[hlen]];rfl
   obtain⟨n,hn⟩ : ∃ n,n=s[0].toNat:=⟨_,rfl⟩
   have hn256:n < 256:=by rw[hn];exact s[0].toNat_lt
   have hsk:s[0].toNat=n:=hn.symm
   have hn48:decide (s[0]≠48)=decide (n≠48):=by
    by_cases h:s[0]=48
    ·rw[decide_eq_false (by simpa using h),decide_eq_false]
     rw[hn,h];decide
    rw[decide_eq_true h,decide_eq_true]
    intro e
    exact h (UInt8.toNat_inj.1 (by rw[hsk,e];rfl))
   have hone:(s.toList == [48])=decide (s.data.toList = [48]):=by
    rw[toList_data]
    by_cases h:s.data.toList = [48]
    ·rw[h];rfl
    rw[decide_eq_false h];exact beq_eq_false_iff_ne.2 h
   rw[hn48] at hq
   by_cases h9:s.size≤9
   ·have k1:decide ((s.size:Int)≤9)=true:=decide_eq_true (by omega)
    obtain⟨b,hb⟩ : ∃ b,b=decide (s.data.toList = [48]):=⟨_,rfl⟩
    rw[← hb] at hone hq
    rw[decide_eq_true h9] at hq
    clear hn hn48 hb
    cases b with
    | true =>
     have h0:r=true:=by rw[hq];rfl
     obtain⟨HL,HD,Hp,Hlen,Hlead,Hr,Hx,Hy,H0,Hq⟩:=hd10 hL hD hp hlen hlead hr hx hy h0 hq;clear hL hD hp hlen hlead hr hx hy h0 hq
     go_enter Tryz.func171,Tryz.ntmps171
     go_wp2_with fail
     refine (HL.out _).mono ?_
     rintro e w1 ⟨rfl,rfl⟩
     go_wp2_with fail
     refine (HD.out _).mono ?_
     rintro e w1 ⟨rfl,rfl⟩
     go_wp2_with fail
     go_ret
     exact⟨zaf H0.out.symm,rfl⟩
    | false =>
     have h0:((n:Int) != 48)=r:=by
      rw[hq]
      by_cases h:n=48
      ·subst h;rfl
      rw[decide_eq_true h];simp;omega
     obtain⟨HL,HD,Hp,Hlen,Hlead,Hr,Hx,Hy,H0,Hq⟩:=hd10 hL hD hp hlen hlead hr hx hy h0 hq;clear hL hD hp hlen hlead hr hx hy h0 hq
     go_enter Tryz.func171,Tryz.ntmps171
     go_wp2_with fail
     refine (HL.out _).mono ?_
     rintro e w1 ⟨rfl,rfl⟩
     go_wp2_with fail
     refine (HD.out _).mono ?_
     rintro e w1 ⟨rfl,rfl⟩
     go_wp2_with fail
     go_ret
     exact⟨zaf H0.out,rfl⟩
   have k1:decide ((s.size:Int)≤9)=false:=decide_eq_false (by omega)
   have h0:r=false:=by rw[hq,decide_eq_false h9];rfl
   clear hn hn48
   obtain⟨HL,HD,Hp,Hlen,Hlead,Hr,Hx,Hy,H0,Hq,Hone⟩:=hd11 hL hD hp hlen hlead hr hx hy h0 hq hone;clear hL hD hp hlen hlead hr hx hy h0 hq hone
   go_enter Tryz.func171,Tryz.ntmps171
   go_wp2_with fail
   refine (HL.out _).mono ?_
   rintro e w1 ⟨rfl,rfl⟩
   go_wp2_with fail
   refine (HD.out _).mono ?_
   rintro e w1 ⟨rfl,rfl⟩
   go_wp2_with fail
   go_ret
   exact⟨zaf H0.out.symm,rfl⟩
end

section
open Go.RowKit Go.Lib Go.Sort
def zbn (x y:Int):Int:=if x < y then -1 else if y < x then 1 else 0
theorem zg5 (x y:Int) (w:World):Calls Tryz.prog 199 #[.int .i64 x,.int .i64 y] w fun e w'=>e = .returned (.int .i64 (zbn x y))∧w=w':=by
 by_cases h1:x < y
 ·have e:zbn x y = -1:=by unfold zbn;rw[if_pos h1]
  rw[e]
  clear e
  go_enter Tryz.func199,Tryz.ntmps199
  go_wp2
  go_ret
  exact⟨rfl,rfl⟩
 have h1':y≤x:=by omega
 by_cases h2:y < x
 ·have e:zbn x y=1:=by unfold zbn;rw[if_neg h1,if_pos h2]
  rw[e]
  clear e h1
  go_enter Tryz.func199,Tryz.ntmps199
  go_wp2
  go_ret
  exact⟨rfl,rfl⟩
 have e:zbn x y=0:=by unfold zbn;rw[if_neg h1,if_neg h2]
 obtain rfl:x=y:=by omega
 rw[e]
 clear e h1 h2 h1'
 go_enter Tryz.func199,Tryz.ntmps199
 go_wp2
 go_ret
 exact⟨rfl,rfl⟩
def orOf (l:List Int):Int:=match l with
 | [] => 0
 | x :: r=>if x≠0 then x else orOf r
theorem orOf_snoc (l:List Int) (k:Nat) (h:k < l.length) (h0:orOf (l.take k)=0):orOf (l.take (k+1))=l[k]:=by
 induction l generalizing k with
 | nil=>simp at h
 | cons x r ih =>
  match k with
  | 0=>simp[orOf];intro h;simp[h]
  | k+1 =>
   have h1:x=0:=by
    rw[List.take_succ_cons,orOf] at h0
    split at h0
    ·rename_i hx;exact absurd h0 hx
    rename_i hx;simpa using hx
   subst h1
   have:=ih k (by simpa using h) (by simpa [orOf] using h0)
   simpa [orOf] using this
theorem orOf_all (l:List Int) (k:Nat) (h:orOf (l.take k)≠0):orOf l=orOf (l.take k):=by
 induction l generalizing k with
 | nil=>simp
 | cons x r ih =>
  match k with
  | 0=>simp[orOf] at h
  | k+1 =>
   rw[List.take_succ_cons,orOf] at h ⊢
   rw[orOf]
   split
   ·rfl
   rename_i hx
   rw[if_neg hx] at h
   exact ih k h
theorem or_any (b off cap:Nat) (l:List Int) (w:World) (hl:l.length≤1000) (hc:∀ i x,l[i]? = some x→w.cell? ⟨b,off+i,none⟩=some (.int .i64 x)) :
  Calls Tryz.prog 198 #[.slice (some ⟨b,off,none⟩) l.length cap] w fun e w'=>e = .returned (.int .i64 (orOf l))∧w=w':=by
 obtain⟨n,hn⟩ : ∃ n,n=l.length:=⟨_,rfl⟩
 rw[← hn] at hl ⊢
 obtain⟨Hn,Hc⟩:=hd2 hn hc;clear hn hc
 go_enter Tryz.func198,Tryz.ntmps198
 go_wp2_with fail
 go_loop [8] (fun i=>∃ k:Nat,k≤n∧i = .int .i64 k∧orOf (l.take k)=0) (fun i=>n - (RowKit.intOf i).toNat)
 case atStart=>exact⟨0,Nat.zero_le _,rfl,by simp[orOf]⟩
 case round =>
  obtain⟨k,hk,rfl,h0⟩:=hrel
  by_cases hlt:k < n
  ·have hkl:k < l.length:=by have:=Hn.out;omega
   obtain⟨x,hx⟩ : ∃ x,x=l[k]'hkl:=⟨_,rfl⟩
   have c:=Hc.out k x (by rw[hx];exact List.getElem?_eq_getElem hkl)
   have hs:=orOf_snoc l k hkl h0
   rw[← hx] at hs
   by_cases hz:x=0
   ·have e1:(x != 0)=false:=by rw[hz];rfl
    have h1:orOf (l.take (k+1))=0:=by rw[hs,hz]
    obtain⟨Hx,Hs,H0,Hz,H1⟩:=hd5 hx hs h0 hz h1;clear hx hs h0 hz h1
    go_wp2_with fail
    go_round
    case rel=>exact⟨k+1,by omega,by go_num,H1.out⟩
    case measure=>simp[RowKit.intOf];omega
   have e1:(x != 0)=true:=by simpa using hz
   have h1:orOf l=x:=by rw[orOf_all l (k+1) (by rw[hs];exact hz),hs]
   obtain⟨Hx,Hs,H0,Hz,H1⟩:=hd5 hx hs h0 hz h1;clear hx hs h0 hz h1
   go_wp2_with fail
   go_ret
   exact⟨zd3 (by rw[H1.out]),rfl⟩
  have h1:orOf l=0:=by
   rw[← h0,List.take_of_length_le (by have:=Hn.out;omega)]
  obtain⟨H0,H1⟩:=hd2 h0 h1;clear h0 h1
  go_wp2_with fail
  go_ret
  exact⟨zd3 (by rw[H1.out]),rfl⟩
end

section
open Go.RowKit Go.Lib VerN
theorem zk8 (x y:ByteArray):Op.bytesLess x.toList y.toList=decide (x.data.toList < y.data.toList):=by
 rw[Go.Proofs.bytesLess_eq,toList_data,toList_data]
theorem zib (x y:ByteArray) (w:World):Calls Tryz.prog 200 #[.string x,.string y] w fun e w'=>e = .returned (.int .i64 (cmpW x.data.toList y.data.toList))∧w=w':=by
 obtain⟨p,hp⟩ : ∃ p,p=Op.bytesLess x.toList y.toList:=⟨_,rfl⟩
 obtain⟨q,hq⟩ : ∃ q,q=(x.toList == y.toList):=⟨_,rfl⟩
 have e:cmpW x.data.toList y.data.toList=if p=true then -1 else if q=true then 0 else 1:=by
  unfold cmpW
  rw[hp,hq,zk8,Txt.eq_dec]
  by_cases h1:x.data.toList < y.data.toList
  ·rw[if_pos h1,decide_eq_true h1];rfl
  rw[if_neg h1,decide_eq_false h1]
  by_cases h2:x=y
  ·rw[decide_eq_true h2,if_neg (by rw[h2];exact List.lt_irrefl _)];rfl
  rw[decide_eq_false h2,if_pos (dec_ne (fun e=>h2 (Txt.ext e)) h1)];rfl
 rw[e]
 have hpe:=hp.symm
 have hqe:=hq.symm
 clear e
 cases p with
 | true =>
  obtain⟨Hp,Hq⟩:=hd2 hp hq;clear hp hq
  go_enter Tryz.func200,Tryz.ntmps200
  go_wp2
  go_ret
  exact⟨rfl,rfl⟩
 | false =>
  cases q with
  | true =>
   obtain⟨Hp,Hq⟩:=hd2 hp hq;clear hp hq
   go_enter Tryz.func200,Tryz.ntmps200
   go_wp2
   go_ret
   exact⟨rfl,rfl⟩
  | false =>
   obtain⟨Hp,Hq⟩:=hd2 hp hq;clear hp hq
   go_enter Tryz.func200,Tryz.ntmps200
   go_wp2
   go_ret
   exact⟨rfl,rfl⟩
end

section
open Go.RowKit Go.Lib VerN
theorem ba_list {x y:ByteArray}:x=y↔x.data.toList=y.data.toList:=⟨fun h=>by rw[h],Txt.ext⟩
theorem zan (s:ByteArray):s.data.toList = []↔s.size=0:=by rw[← Txt.len];exact List.length_eq_zero_iff.symm
theorem zgo (s t:ByteArray) (hs:s.size≤9223372036854775807) (ht:t.size≤9223372036854775807) (w:World):Calls Tryz.prog 173 #[.string s,.string t] w fun e w'=>e = .returned (.bool (zal s.data.toList t.data.toList))∧w=w':=by
 obtain⟨r,hr⟩ : ∃ r,r=zal s.data.toList t.data.toList:=⟨_,rfl⟩
 have hq:=hr
 unfold zal at hq
 rw[← hr]
 by_cases heq:s=t
 ·have k1:(s.toList == t.toList)=true:=by rw[Txt.eq_dec];exact decide_eq_true heq
  have h0:r=false:=by rw[hq,if_pos (ba_list.1 heq)]
  obtain⟨Hr,Hq,H0,Heq⟩:=hd4 hr hq h0 heq;clear hr hq h0 heq
  go_enter Tryz.func173,Tryz.ntmps173
  go_wp2_with fail
  go_ret
  exact⟨zaf H0.out.symm,rfl⟩
 have k1:(s.toList == t.toList)=false:=by rw[Txt.eq_dec];exact decide_eq_false heq
 rw[if_neg (fun h=>heq (ba_list.2 h))] at hq
 by_cases hs0:s.size=0
 ·have k2:s.toList.isEmpty=true:=by rw[Txt.no_dec];exact decide_eq_true hs0
  have h0:r=digs t.data.toList:=by rw[hq,if_pos ((zan s).2 hs0)]
  have hD:=zea t ht w
  rw[← h0] at hD
  obtain⟨Hr,Hq,H0,Heq,HD⟩:=hd5 hr hq h0 heq hD;clear hr hq h0 heq hD
  go_enter Tryz.func173,Tryz.ntmps173
  go_wp2_with fail
  refine HD.out.mono ?_
  rintro e w1 ⟨rfl,rfl⟩
  go_wp2_with fail
  go_ret
  exact⟨rfl,rfl⟩
 have k2:s.toList.isEmpty=false:=by rw[Txt.no_dec];exact decide_eq_false hs0
 rw[if_neg (fun h=>hs0 ((zan s).1 h))] at hq
 by_cases ht0:t.size=0
 ·have k3:t.toList.isEmpty=true:=by rw[Txt.no_dec];exact decide_eq_true ht0
  have h0:r=zb9 s.data.toList:=by rw[hq,if_pos ((zan t).2 ht0)]
  have hD:=zcq s hs w
  rw[← h0] at hD
  obtain⟨Hr,Hq,H0,Heq,HD⟩:=hd5 hr hq h0 heq hD;clear hr hq h0 heq hD
  go_enter Tryz.func173,Tryz.ntmps173
  go_wp2_with fail
  refine HD.out.mono ?_
  rintro e w1 ⟨rfl,rfl⟩
  go_wp2_with fail
  go_ret
  exact⟨rfl,rfl⟩
 have k3:t.toList.isEmpty=false:=by rw[Txt.no_dec];exact decide_eq_false ht0
 rw[if_neg (fun h=>ht0 ((zan t).1 h))] at hq
 have hL:=zcq s hs w
 have hM:=zcq t ht w
 have hD:=zea s hs w
 obtain⟨x,hx⟩ : ∃ x,x=zb9 s.data.toList:=⟨_,rfl⟩
 obtain⟨y,hy⟩ : ∃ x,x=zb9 t.data.toList:=⟨_,rfl⟩
 obtain⟨z,hz⟩ : ∃ x,x=digs s.data.toList:=⟨_,rfl⟩
 rw[← hx] at hL hq
 rw[← hy] at hM hq
 rw[← hz] at hD hq
 by_cases hxy:x=y
 ·rw[if_neg (by simpa using hxy)] at hq
  have k4:(x == y)=true:=by rw[hxy];simp
  have hl:decide (s.data.toList.length≠t.data.toList.length)=((s.size:Int) != (t.size:Int)):=by
   rw[Txt.len,Txt.len]
   by_cases h:s.size=t.size
   ·rw[h];simp
   rw[decide_eq_true h];simp;omega
  rw[hl] at hq
  obtain⟨b,hb⟩ : ∃ b,b=((s.size:Int) != (t.size:Int)):=⟨_,rfl⟩
  have k5:=hb.symm
  rw[← hb] at hq
  have hlt:decide (s.data.toList.length < t.data.toList.length)=decide (s.size < t.size):=by rw[Txt.len,Txt.len]
  rw[hlt] at hq
  have hby:=zk8 s t
  rw[← hby] at hq
  clear hl hlt hby hb
  cases z with
  | true =>
   cases b with
   | true =>
    have h0:r=decide (s.size < t.size):=by rw[hq];rfl
    obtain⟨Hr,Hq,H0,Heq,HL,HM,HD,Hx,Hy,Hz,Hxy⟩:=hd11 hr hq h0 heq hL hM hD hx hy hz hxy;clear hr hq h0 heq hL hM hD hx hy hz hxy
    go_enter Tryz.func173,Tryz.ntmps173
    go_wp2_with fail
    refine HL.out.mono ?_
    rintro e w1 ⟨rfl,rfl⟩
    go_wp2_with fail
    refine HM.out.mono ?_
    rintro e w1 ⟨rfl,rfl⟩
    go_wp2_with fail
    refine HD.out.mono ?_
    rintro e w1 ⟨rfl,rfl⟩
    go_wp2_with fail
    go_ret
    exact⟨zaf H0.out.symm,rfl⟩
   | false =>
    have h0:r=Op.bytesLess s.toList t.toList:=by rw[hq];rfl
    obtain⟨Hr,Hq,H0,Heq,HL,HM,HD,Hx,Hy,Hz,Hxy⟩:=hd11 hr hq h0 heq hL hM hD hx hy hz hxy;clear hr hq h0 heq hL hM hD hx hy hz hxy
    go_enter Tryz.func173,Tryz.ntmps173
    go_wp2_with fail
    refine HL.out.mono ?_
    rintro e w1 ⟨rfl,rfl⟩
    go_wp2_with fail
    refine HM.out.mono ?_
    rintro e w1 ⟨rfl,rfl⟩
    go_wp2_with fail
    refine HD.out.mono ?_
    rintro e w1 ⟨rfl,rfl⟩
    go_wp2_with fail
    go_ret
    exact⟨zaf H0.out.symm,rfl⟩
  | false =>
   have h0:r=Op.bytesLess s.toList t.toList:=by rw[hq];rfl
   obtain⟨Hr,Hq,H0,Heq,HL,HM,HD,Hx,Hy,Hz,Hxy,Hk5⟩:=hd12 hr hq h0 heq hL hM hD hx hy hz hxy k5;clear hr hq h0 heq hL hM hD hx hy hz hxy k5
   go_enter Tryz.func173,Tryz.ntmps173
   go_wp2_with fail
   refine HL.out.mono ?_
   rintro e w1 ⟨rfl,rfl⟩
   go_wp2_with fail
   refine HM.out.mono ?_
   rintro e w1 ⟨rfl,rfl⟩
   go_wp2_with fail
   refine HD.out.mono ?_
   rintro e w1 ⟨rfl,rfl⟩
   go_wp2_with fail
   go_ret
   exact⟨zaf H0.out.symm,rfl⟩
 rw[if_pos (by simpa using hxy)] at hq
 have k4:(x == y)=false:=by simpa using hxy
 obtain⟨Hr,Hq,Heq,HL,HM,HD,Hx,Hy,Hz,Hxy⟩:=hd10 hr hq heq hL hM hD hx hy hz hxy;clear hr hq heq hL hM hD hx hy hz hxy
 go_enter Tryz.func173,Tryz.ntmps173
 go_wp2_with fail
 refine HL.out.mono ?_
 rintro e w1 ⟨rfl,rfl⟩
 go_wp2_with fail
 refine HM.out.mono ?_
 rintro e w1 ⟨rfl,rfl⟩
 go_wp2_with fail
 refine HL.out.mono ?_
 rintro e w1 ⟨rfl,rfl⟩
 go_wp2_with fail
 go_ret
 exact⟨zaf Hq.out.symm,rfl⟩
theorem zdq {w:World} {B:Nat} {v:Value} {n:Nat} {ps:List ByteArray} (h:w.ownsRow B 9 1 v n (ps.map Value.string)) (i:Nat) (hi:i < ps.length) :
  ∃ g cap,v = .slice (some ⟨g,0,none⟩) n cap∧w.cell? ⟨g,i,none⟩=some (.string ps[i]):=by
 have hl:n=ps.length:=by have:=h.1;rw[List.length_map] at this;omega
 obtain⟨g,cap,rfl,_,_,_,_,h2⟩:=zco h (by omega)
 exact⟨g,cap,rfl,h2 i _ (by rw[List.getElem?_map,List.getElem?_eq_getElem hi];rfl)⟩
def zdf:ByteArray:=⟨#[]⟩
theorem at1_any {w:World} {B:Nat} {v:Value} {n:Nat} {ps:List ByteArray} (h:w.ownsRow B 9 1 v n (ps.map Value.string)) (hn:n≤1000000) (i:Nat) (hi8:i≤1000000) :
  Calls Tryz.prog 174 #[v,.int .i64 i] w fun e w'=>e = .returned (.string (ps.getD i zdf))∧w=w':=by
 have hl:n=ps.length:=by have:=h.1;rw[List.length_map] at this;omega
 by_cases hi:i < n
 ·have hip:i < ps.length:=by omega
  obtain⟨g,cap,rfl,c0⟩:=zdq h i hip
  have e:ps.getD i zdf=ps[i]:=by rw[List.getD,List.getElem?_eq_getElem hip];rfl
  rw[e]
  obtain⟨x,hx⟩ : ∃ x,x=ps[i]:=⟨_,rfl⟩
  rw[← hx] at c0 ⊢
  have k1:(i:Int) < (n:Int):=by omega
  have k2:decide ((i:Int) < (n:Int))=true:=decide_eq_true k1
  clear e hl
  obtain⟨Hh,Hx⟩:=hd2 h hx;clear h hx
  go_enter Tryz.func174,Tryz.ntmps174
  go_wp2_with fail
  go_ret
  exact⟨rfl,rfl⟩
 obtain⟨a,cap,rfl⟩:=zad h
 have e:ps.getD i zdf=zdf:=by rw[List.getD,List.getElem?_eq_none (by omega)];rfl
 rw[e]
 have k2:decide ((i:Int) < (n:Int))=false:=decide_eq_false (by omega)
 clear e hl
 have Hh:=hd h;clear h
 go_enter Tryz.func174,Tryz.ntmps174
 go_wp2_with fail
 go_ret
 exact⟨rfl,rfl⟩
end

section
open Go.RowKit Go.Lib VerN
theorem zi6:Elem Tryz.prog 88 9 (.string ⟨#[]⟩) 1 16:=⟨Tryz.underlying88,by kernel_rfl,rfl,by decide⟩
def zee (c:UInt8) (l:List UInt8) (k f:Nat) (done:List (List UInt8)):Prop:=f≤k∧((k≤l.length∧cutL c l=done ++ cutF c ((l.take k).drop f) (l.drop k))∨(k=l.length+1∧cutL c l=done))
theorem zee.start (c:UInt8) (l:List UInt8):zee c l 0 0 []:=⟨Nat.le_refl _,.inl ⟨Nat.zero_le _,rfl⟩⟩
theorem zee.skip {c:UInt8} {l:List UInt8} {k f:Nat} {done:List (List UInt8)} (h:zee c l k f done) (hk:k < l.length) (hne:l[k]≠c):zee c l (k+1) f done:=by
 obtain⟨hf,⟨_,h⟩ | ⟨h,_⟩⟩:=h
 ·refine⟨by omega,.inl ⟨by omega,?_⟩⟩
  rw[h,List.drop_eq_getElem_cons hk,zb2 _ _ hne,List.take_succ_eq_append_getElem hk,List.drop_append_of_le_length (by rw[List.length_take];omega)]
 omega
theorem zee.hit {c:UInt8} {l:List UInt8} {k f:Nat} {done:List (List UInt8)} (h:zee c l k f done) (hk:k < l.length) (he:l[k]=c):zee c l (k+1) (k+1) (done ++ [(l.take k).drop f]):=by
 obtain⟨hf,⟨_,h⟩ | ⟨h,_⟩⟩:=h
 ·refine⟨Nat.le_refl _,.inl ⟨by omega,?_⟩⟩
  have e:(l.take (k+1)).drop (k+1) = []:=List.drop_eq_nil_of_le (by rw[List.length_take];omega)
  rw[h,List.drop_eq_getElem_cons hk,he,zbc,e]
  simp
 omega
theorem zee.last {c:UInt8} {l:List UInt8} {k f:Nat} {done:List (List UInt8)} (h:zee c l k f done) (hk:k=l.length):zee c l (k+1) (k+1) (done ++ [(l.take k).drop f]):=by
 obtain⟨hf,⟨_,h⟩ | ⟨h,_⟩⟩:=h
 ·refine⟨Nat.le_refl _,.inr ⟨by omega,?_⟩⟩
  rw[h,hk,List.drop_eq_nil_of_le (Nat.le_refl _)]
  rfl
 omega
theorem zee.len {c:UInt8} {l:List UInt8} {k f:Nat} {done:List (List UInt8)} (h:zee c l k f done):done.length≤l.length+1:=by
 have h1:=(zcs c l).2
 obtain⟨hf,⟨_,h⟩ | ⟨_,h⟩⟩:=h
 ·rw[h,List.length_append] at h1;omega
 rw[h] at h1;exact h1
abbrev strL (ps:List (List UInt8)):List Value:=ps.map fun l=>.string ⟨l.toArray⟩
theorem cutS_vals (c:UInt8) (s:ByteArray):(cutS c s).map Value.string=strL (cutL c s.data.toList):=by unfold cutS strL;rw[List.map_map];rfl
theorem zeq (s:ByteArray) (hs:s.size≤1000000) (c:Nat) (hc:c < 256) (w:World):Calls Tryz.prog 54 #[.string s,.int .u8 c] w fun e w'=>∃ v,e = .returned v∧w'.ownsRow w.heap.size 9 1 v (cutS (UInt8.ofNat c) s).length ((cutS (UInt8.ofNat c) s).map Value.string)∧Below w.heap.size w w':=by
 obtain⟨l,hl⟩ : ∃ l,l=s.data.toList:=⟨_,rfl⟩
 have hln:l.length=s.size:=by rw[hl];exact Txt.len s
 obtain⟨d,hd⟩ : ∃ d,d=UInt8.ofNat c:=⟨_,rfl⟩
 have hdc:d.toNat=c:=by rw[hd];simp;omega
 rw[cutS_vals,zax,← hl,← hd]
 have hl0:(w.alloc (.cells #[] 9)).ownsRow w.heap.size 9 1 (.slice (some ⟨w.heap.size,0,none⟩) 0 0) 0 []:=World.ownsRow_lit (base:=w.heap.size) (e:=9) (size:=1) w #[] 0 (Nat.le_refl _) (by decide) rfl
 have hb0:Below w.heap.size w (w.alloc (.cells #[] 9)):=za2 _ _
 obtain⟨Hl,Hln,Hd,Hdc,Hl0,Hb0⟩:=hd6 hl hln hd hdc hl0 hb0;clear hl hln hd hdc hl0 hb0
 go_enter Tryz.func54,Tryz.ntmps54
 go_wp2_with fail
 go_loopw [5,6,7] (fun o fr i wr=>∃ (k f:Nat) (done:List (List UInt8)) (a:Option Addr) (cap m:Nat),zee d l k f done∧k≤s.size+1∧m=done.length∧i = .int .i64 k∧fr = .int .i64 f∧o = .slice a m cap∧wr.ownsRow w.heap.size 9 1 o m (strL done)∧Below w.heap.size w wr) (fun _ _ i _=>s.size+1 - (RowKit.intOf i).toNat)
 case atStart=>exact⟨0,0,[],_,_,0,zee.start d l,Nat.zero_le _,rfl,rfl,rfl,rfl,Hl0.out,Hb0.out⟩
 case round =>
  obtain⟨k,f,done,a,cap,m,hat,hk,hm,rfl,rfl,rfl,hown,hbw⟩:=hrel
  have hlen:=hat.len
  rw[Hln.out] at hlen
  have hfk:=hat.1
  rw[← hm] at hlen
  have hone:∀ p:ByteArray,∀ u∈(#[Value.string p] : Array Value).toList,u.oneCell'=true:=by simp[Value.oneCell']
  have g1:(m+1) * 16≤140737488355328:=by omega
  have g2:m+1≤maxLen:=by unfold maxLen;omega
  have g3:w.heap.size≤wr.heap.size:=hbw.size
  have piece:(s.extract f k)=⟨((l.take k).drop f).toArray⟩:=Txt.ext (by
   rw[Lib.extract_data,← Hl.out,← List.drop_take])
  rcases Nat.lt_or_ge s.size k with h1 | h1
  ·have k1:decide ((k:Int)≤(s.size:Int))=false:=decide_eq_false (by omega)
   have hfin:cutL d l=done:=by
    obtain⟨_,⟨h2,_⟩ | ⟨_,h2⟩⟩:=hat
    ·have:=Hln.out;omega
    exact h2
   obtain⟨Hat,Hown,Hbw,Hm,Hone,Hpiece,Hfin⟩:=hd7 hat hown hbw hm hone piece hfin;clear hat hown hbw hm hone piece hfin
   go_wp2_with fail
   go_ret
   exact⟨_,rfl,by rw[Hfin.out,← Hm.out];exact Hown.out,Hbw.out⟩
  have k1:decide ((k:Int)≤(s.size:Int))=true:=decide_eq_true (by omega)
  have k3:(f:Int)≤(k:Int):=by omega
  have k4:(k:Int)≤(s.size:Int):=by omega
  rcases Nat.eq_or_lt_of_le h1 with h2 | h2
  ·have k2:((k:Int) == (s.size:Int))=true:=by rw[h2];simp
   have hnx:=hat.last (by rw[Hln.out];exact h2)
   obtain⟨Hat,Hown,Hbw,Hm,Hone,Hpiece,Hnx,H2⟩:=hd8 hat hown hbw hm hone piece hnx h2;clear hat hown hbw hm hone piece hnx h2
   go_wp2_with (at_builtin;(refine zcl zi6 rfl (.tmp 26) (.tmp 31) rfl w.heap.size (.slice a m cap) m (strL done) rfl Hown.out 1 (by decide) #[.string (s.extract f k)] rfl rfl (Hone.out _) g1 g2 g3 ?_;intro g8 c8 w8 hown8 hg8 hm8;have hb8:=zbs Hbw.out Hown.out (Nat.le_refl _) hg8 Hbw.out.size;obtain⟨Hown8,Hb8⟩:=hd2 hown8 hb8;clear hown8 hb8 hg8 hm8))
   go_roundw
   case rel =>
    refine⟨k+1,k+1,done ++ [(l.take k).drop f],_,_,m+1,Hnx.out,by omega,by rw[List.length_append,List.length_singleton,← Hm.out],by go_num,by go_num,rfl,?_,Hb8.out⟩
    have h:=Hown8.out
    rw[Hpiece.out] at h
    rw[show strL (done ++ [(l.take k).drop f])=strL done ++ [.string ⟨((l.take k).drop f).toArray⟩] by simp[strL]]
    exact h
   case measure=>simp[RowKit.intOf];omega
  have k2:((k:Int) == (s.size:Int))=false:=by rw[beq_eq_false_iff_ne];omega
  have hkl:k < l.length:=by rw[Hln.out];exact h2
  obtain⟨n,hn⟩ : ∃ n,n=s[k].toNat:=⟨_,rfl⟩
  have hn256:n < 256:=by rw[hn];exact s[k].toNat_lt
  have hsk:s[k].toNat=n:=hn.symm
  have e:l[k]=s[k]:=by simp only[Hl.out];rfl
  have hlk:l[k]=d↔n=c:=by
   rw[e]
   constructor
   ·intro h;rw[← hsk,h];exact Hdc.out
   intro h;exact UInt8.toNat_inj.1 (by rw[hsk,h,Hdc.out])
  clear hn e
  by_cases hnc:n=c
  ·have k5:((n:Int) == (c:Int))=true:=by rw[hnc];simp
   have hnx:=hat.hit hkl (hlk.2 hnc)
   obtain⟨Hat,Hown,Hbw,Hm,Hone,Hpiece,Hnx,Hnc,Hlk⟩:=hd9 hat hown hbw hm hone piece hnx hnc hlk;clear hat hown hbw hm hone piece hnx hnc hlk
   go_wp2_with (at_builtin;(refine zcl zi6 rfl (.tmp 26) (.tmp 31) rfl w.heap.size (.slice a m cap) m (strL done) rfl Hown.out 1 (by decide) #[.string (s.extract f k)] rfl rfl (Hone.out _) g1 g2 g3 ?_;intro g8 c8 w8 hown8 hg8 hm8;have hb8:=zbs Hbw.out Hown.out (Nat.le_refl _) hg8 Hbw.out.size;obtain⟨Hown8,Hb8⟩:=hd2 hown8 hb8;clear hown8 hb8 hg8 hm8))
   go_roundw
   case rel =>
    refine⟨k+1,k+1,done ++ [(l.take k).drop f],_,_,m+1,Hnx.out,by omega,by rw[List.length_append,List.length_singleton,← Hm.out],by go_num,by go_num,rfl,?_,Hb8.out⟩
    have h:=Hown8.out
    rw[Hpiece.out] at h
    rw[show strL (done ++ [(l.take k).drop f])=strL done ++ [.string ⟨((l.take k).drop f).toArray⟩] by simp[strL]]
    exact h
   case measure=>simp[RowKit.intOf];omega
  have k5:((n:Int) == (c:Int))=false:=by rw[beq_eq_false_iff_ne];omega
  have hnx:=hat.skip hkl (fun h=>hnc (hlk.1 h))
  obtain⟨Hat,Hown,Hbw,Hm,Hone,Hpiece,Hnx,Hnc,Hlk⟩:=hd9 hat hown hbw hm hone piece hnx hnc hlk;clear hat hown hbw hm hone piece hnx hnc hlk
  go_wp2_with fail
  go_roundw
  case rel=>exact⟨k+1,f,done,a,cap,m,Hnx.out,by omega,Hm.out,by go_num,by go_num,rfl,Hown.out,Hbw.out⟩
  case measure=>simp[RowKit.intOf];omega
end

section
open Go.RowKit Go.Lib VerN
theorem may_parts (s:ByteArray):mayL s.data.toList=(decide (s.size≠0) && decide (s.size≤40) && (cutS 46 s).all (fun p=>zaw p.data.toList) && decide ((cutS 46 s).length≤8)):=by
 unfold mayL
 rw[← zdi,List.all_map,Txt.len,List.length_map]
 have e:decide (s.data.toList≠[])=decide (s.size≠0):=decide_eq_decide.2 (not_congr (zan s))
 rw[e]
 rfl
theorem zff (s:ByteArray) (hs:s.size≤1000000) (w:World):Calls Tryz.prog 113 #[.string s] w fun e w'=>e = .returned (.bool (mayL s.data.toList))∧Below w.heap.size w w':=by
 have hm:=may_parts s
 obtain⟨r,hr⟩ : ∃ r,r=mayL s.data.toList:=⟨_,rfl⟩
 rw[← hr] at hm ⊢
 by_cases h0:s.size=0
 ·have k1:s.toList.isEmpty=true:=by rw[Txt.no_dec,decide_eq_true h0]
  have hf:r=false:=by rw[hm,decide_eq_false (p:=s.size≠0) (by simpa using h0)];rfl
  obtain⟨Hm,Hr,Hf⟩:=hd3 hm hr hf;clear hm hr hf
  go_enter Tryz.func113,Tryz.ntmps113
  go_wp2_with fail
  go_ret
  exact⟨zaf Hf.out.symm,Below.refl _ _⟩
 have k1:s.toList.isEmpty=false:=by rw[Txt.no_dec,decide_eq_false h0]
 by_cases h40:40 < s.size
 ·have k2:decide ((40:Int) < (s.size:Int))=true:=decide_eq_true (by omega)
  have hf:r=false:=by rw[hm,decide_eq_false (p:=s.size≤40) (by omega)];simp
  obtain⟨Hm,Hr,Hf⟩:=hd3 hm hr hf;clear hm hr hf
  go_enter Tryz.func113,Tryz.ntmps113
  go_wp2_with fail
  go_ret
  exact⟨zaf Hf.out.symm,Below.refl _ _⟩
 have k2:decide ((40:Int) < (s.size:Int))=false:=decide_eq_false (by omega)
 have hC:=zeq s hs 46 (by omega) w
 rw[show UInt8.ofNat 46=(46:UInt8) from rfl] at hC
 obtain⟨ps,hps⟩ : ∃ ps,ps=cutS 46 s:=⟨_,rfl⟩
 have hv:r=(ps.all (fun p=>zaw p.data.toList) && decide (ps.length≤8)):=by rw[hm,decide_eq_true h0,decide_eq_true (by omega:s.size≤40),hps];rfl
 have hpz:∀ p∈ps,p.size≤1000000:=fun p hp=>by
  rw[hps] at hp
  have:=zcf hp
  omega
 have hl41:ps.length≤41:=by
  rw[hps,zax]
  have:=(zcs 46 s.data.toList).2
  rw[Txt.len] at this
  omega
 rw[← hps] at hC
 obtain⟨Hm,Hr,HC,Hps,Hv,Hpz⟩:=hd6 hm hr hC hps hv hpz;clear hm hr hC hps hv hpz
 go_enter Tryz.func113,Tryz.ntmps113
 go_wp2_with fail
 refine HC.out.mono ?_
 rintro e w1 ⟨v,rfl,hown,hb⟩
 obtain⟨a,cap,rfl⟩:=zad hown
 obtain⟨n,hn⟩ : ∃ n,n=ps.length:=⟨_,rfl⟩
 rw[← hn] at hown hl41 ⊢
 obtain⟨Hown,Hb,Hn⟩:=hd3 hown hb hn;clear hown hb hn
 go_wp2_with fail
 go_loop [4,16] (fun _ i=>∃ k:Nat,k≤n∧i = .int .i64 k∧(ps.take k).all (fun p=>zaw p.data.toList)=true) (fun _ i=>n - (RowKit.intOf i).toNat)
 case atStart=>exact⟨0,Nat.zero_le _,rfl,by simp⟩
 case round =>
  obtain⟨k,hk,rfl,hall⟩:=hrel
  by_cases hlt:k < n
  ·have hkp:k < ps.length:=by rw[← Hn.out];exact hlt
   obtain⟨g,cap',hv0,c0⟩:=zdq Hown.out k hkp
   simp only[Value.slice.injEq] at hv0
   obtain⟨ha,hrest⟩:=hv0
   subst ha
   clear hrest
   obtain⟨x,hx⟩ : ∃ x,x=ps[k]:=⟨_,rfl⟩
   rw[← hx] at c0
   have hP:=part1_any x (by have:=Hpz.out x (by rw[hx];exact List.getElem_mem hkp);omega) w1
   obtain⟨q,hq⟩ : ∃ q,q=zaw x.data.toList:=⟨_,rfl⟩
   rw[← hq] at hP
   have k3:(k:Int) < (n:Int):=by omega
   have hyes:q=true→(ps.take (k+1)).all (fun p=>zaw p.data.toList)=true:=fun h=>by
    rw[List.take_succ_eq_append_getElem hkp,List.all_append,hall,← hx]
    simp only[List.all_cons,List.all_nil,Bool.and_true,Bool.true_and]
    rw[← hq];exact h
   have hno:q=false→r=false:=fun h=>by
    rw[Hv.out,Bool.eq_false_iff]
    intro h2
    rw[Bool.and_eq_true] at h2
    have:=List.all_eq_true.1 h2.1 ps[k] (List.getElem_mem hkp)
    rw[← hx,← hq,h] at this
    cases this
   obtain⟨Hx,HP,Hq,Hall,Hyes,Hno⟩:=hd6 hx hP hq hall hyes hno;clear hx hP hq hall hyes hno
   go_wp2_with fail
   refine HP.out.mono ?_
   rintro e w2 ⟨rfl,rfl⟩
   cases q with
   | true =>
    have hnx:=Hyes.out rfl
    have Hnx:=hd hnx;clear hnx
    go_wp2_with fail
    go_round
    case rel=>exact⟨k+1,by omega,by go_num,Hnx.out⟩
    case measure=>simp[RowKit.intOf];omega
   | false =>
    have hf:=Hno.out rfl
    have Hf:=hd hf;clear hf
    go_wp2_with fail
    go_ret
    exact⟨zaf Hf.out.symm,Hb.out⟩
  obtain rfl:k=n:=by omega
  have hf:decide ((k:Int)≤8)=r:=by
   rw[Hv.out,← Hn.out]
   rw[List.take_of_length_le (by rw[← Hn.out];exact Nat.le_refl _)] at hall
   rw[hall,Bool.true_and]
   by_cases h:k≤8
   ·rw[decide_eq_true h,decide_eq_true];omega
   rw[decide_eq_false h,decide_eq_false];omega
  obtain⟨Hall,Hf⟩:=hd2 hall hf;clear hall hf
  go_wp2_with fail
  go_ret
  exact⟨zaf Hf.out,Hb.out⟩
end

section
open Go.RowKit Go.Lib VerN
theorem zep (c:UInt8) (s:ByteArray) (i:Nat):((cutS c s).getD i zdf).data.toList=(cutL c s.data.toList).getD i []:=by
 rw[← zdi]
 by_cases h:i < (cutS c s).length
 ·rw[ze8 (by rw[List.length_map];exact h),List.getElem_map,List.getD,List.getElem?_eq_getElem h];rfl
 rw[ze9 (by rw[List.length_map];omega),List.getD,List.getElem?_eq_none (by omega)];rfl
theorem zi3 (c:UInt8) (s:ByteArray) (hs:s.size≤1000000) (i:Nat):((cutS c s).getD i zdf).size≤1000000:=by
 by_cases h:i < (cutS c s).length
 ·rw[List.getD,List.getElem?_eq_getElem h]
  have:=zcf (List.getElem_mem h)
  show (cutS c s)[i].size≤1000000
  omega
 rw[List.getD,List.getElem?_eq_none (by omega)];decide
theorem zcx (a b:ByteArray) (ha:a.size≤1000000) (hb:b.size≤1000000) (w:World):Calls Tryz.prog 117 #[.string a,.string b] w fun e w'=>e = .returned (.bool (zcw a.data.toList b.data.toList))∧Below w.heap.size w w':=by
 obtain⟨r,hr⟩ : ∃ r,r=zcw a.data.toList b.data.toList:=⟨_,rfl⟩
 have hP:=fun W=>zff a ha W
 have hQ:=fun W=>zff b hb W
 obtain⟨p,hp⟩ : ∃ x,x=mayL a.data.toList:=⟨_,rfl⟩
 obtain⟨q,hq⟩ : ∃ x,x=mayL b.data.toList:=⟨_,rfl⟩
 have hv:r=if p=false∨q=false then !p && q else zc2 (cutL 46 a.data.toList) (cutL 46 b.data.toList) 0 (max (cutL 46 a.data.toList).length (cutL 46 b.data.toList).length):=by rw[hr,hp,hq];rfl
 rw[← hr]
 rw[← hp] at hP
 rw[← hq] at hQ
 cases p with
 | false =>
  have h0:q=r:=by rw[hv];simp
  obtain⟨Hr,HP,HQ,Hp,Hq,Hv,H0⟩:=hd7 hr hP hQ hp hq hv h0;clear hr hP hQ hp hq hv h0
  go_enter Tryz.func117,Tryz.ntmps117
  go_wp2_with fail
  refine (HP.out _).mono ?_
  rintro e w1 ⟨rfl,hb1⟩
  have hP2:=HP.out w1
  obtain⟨Hb1,HP2⟩:=hd2 hb1 hP2;clear hb1 hP2
  go_wp2_with fail
  refine HP2.out.mono ?_
  rintro e w2 ⟨rfl,hb2⟩
  have hb3:=Hb1.out.trans (hb2.mono Hb1.out.size)
  have hQ2:=HQ.out w2
  obtain⟨Hb2,Hb3,HQ2⟩:=hd3 hb2 hb3 hQ2;clear hb2 hb3 hQ2
  go_wp2_with fail
  refine HQ2.out.mono ?_
  rintro e w3 ⟨rfl,hb4⟩
  have hb5:=Hb3.out.trans (hb4.mono Hb3.out.size)
  obtain⟨Hb4,Hb5⟩:=hd2 hb4 hb5;clear hb4 hb5
  go_wp2_with fail
  go_ret
  exact⟨zaf H0.out,Hb5.out⟩
 | true =>
  cases q with
  | false =>
   have h0:r=false:=by rw[hv];rfl
   obtain⟨Hr,HP,HQ,Hp,Hq,Hv,H0⟩:=hd7 hr hP hQ hp hq hv h0;clear hr hP hQ hp hq hv h0
   go_enter Tryz.func117,Tryz.ntmps117
   go_wp2_with fail
   refine (HP.out _).mono ?_
   rintro e w1 ⟨rfl,hb1⟩
   have hQ2:=HQ.out w1
   obtain⟨Hb1,HQ2⟩:=hd2 hb1 hQ2;clear hb1 hQ2
   go_wp2_with fail
   refine HQ2.out.mono ?_
   rintro e w2 ⟨rfl,hb2⟩
   have hb3:=Hb1.out.trans (hb2.mono Hb1.out.size)
   have hP2:=HP.out w2
   obtain⟨Hb2,Hb3,HP2⟩:=hd3 hb2 hb3 hP2;clear hb2 hb3 hP2
   go_wp2_with fail
   refine HP2.out.mono ?_
   rintro e w3 ⟨rfl,hb4⟩
   have hb5:=Hb3.out.trans (hb4.mono Hb3.out.size)
   obtain⟨Hb4,Hb5⟩:=hd2 hb4 hb5;clear hb4 hb5
   go_wp2_with fail
   go_ret
   exact⟨zaf H0.out.symm,Hb5.out⟩
  | true =>
   obtain⟨ps,hps⟩ : ∃ x,x=cutS 46 a:=⟨_,rfl⟩
   obtain⟨qs,hqs⟩ : ∃ x,x=cutS 46 b:=⟨_,rfl⟩
   obtain⟨xs,hxs⟩ : ∃ x,x=cutL 46 a.data.toList:=⟨_,rfl⟩
   obtain⟨ys,hys⟩ : ∃ x,x=cutL 46 b.data.toList:=⟨_,rfl⟩
   have h0:r=zc2 xs ys 0 (max xs.length ys.length):=by rw[hv,hxs,hys];rfl
   obtain⟨m,hm⟩ : ∃ m,m=xs.length:=⟨_,rfl⟩
   obtain⟨n,hn⟩ : ∃ m,m=ys.length:=⟨_,rfl⟩
   have hm8:m≤8:=by rw[hm,hxs];exact ((zbi _).1 hp.symm).2.2.2
   have hn8:n≤8:=by rw[hn,hys];exact ((zbi _).1 hq.symm).2.2.2
   have hC:=fun W=>zeq a ha 46 (by omega) W
   have hC2:=fun W=>zeq b hb 46 (by omega) W
   rw[show UInt8.ofNat 46=(46:UInt8) from rfl,zax,← hxs,← hm,← hps] at hC
   rw[show UInt8.ofNat 46=(46:UInt8) from rfl,zax,← hys,← hn,← hqs] at hC2
   rw[← hm,← hn] at h0
   obtain⟨N,hN⟩ : ∃ N,N=max m n:=⟨_,rfl⟩
   rw[← hN] at h0
   have gx:∀ i,(ps.getD i zdf).data.toList=xs.getD i []:=fun i=>by rw[hps,hxs];exact zep 46 a i
   have gy:∀ i,(qs.getD i zdf).data.toList=ys.getD i []:=fun i=>by rw[hqs,hys];exact zep 46 b i
   have zx:∀ i,(ps.getD i zdf).size≤1000000:=fun i=>by rw[hps];exact zi3 46 a ha i
   have zy:∀ i,(qs.getD i zdf).size≤1000000:=fun i=>by rw[hqs];exact zi3 46 b hb i
   obtain⟨Hr,HP,HQ,Hp,Hq,Hv,H0,Hps,Hqs,Hxs,Hys,Hm,Hn,HC,HC2,Hgx⟩:=hd16 hr hP hQ hp hq hv h0 hps hqs hxs hys hm hn hC hC2 gx;obtain⟨Hgy,Hzx,Hzy,HN⟩:=hd4 gy zx zy hN;clear hr hP hQ hp hq hv h0 hps hqs hxs hys hm hn hC hC2 gx gy zx zy hN
   go_enter Tryz.func117,Tryz.ntmps117
   go_wp2_with fail
   refine (HP.out _).mono ?_
   rintro e w1 ⟨rfl,hb1⟩
   have hQ2:=HQ.out w1
   obtain⟨Hb1,HQ2⟩:=hd2 hb1 hQ2;clear hb1 hQ2
   go_wp2_with fail
   refine HQ2.out.mono ?_
   rintro e w2 ⟨rfl,hb2⟩
   have hb3:=Hb1.out.trans (hb2.mono Hb1.out.size)
   have hC3:=HC.out w2
   obtain⟨Hb2,Hb3,HC3⟩:=hd3 hb2 hb3 hC3;clear hb2 hb3 hC3
   go_wp2_with fail
   refine HC3.out.mono ?_
   rintro e w3 ⟨v1,rfl,o1,hb4⟩
   have hb5:=Hb3.out.trans (hb4.mono Hb3.out.size)
   have hC4:=HC2.out w3
   obtain⟨a1,cap1,rfl⟩:=zad o1
   obtain⟨Hb4,Hb5,HC4,Ho1⟩:=hd4 hb4 hb5 hC4 o1;clear hb4 hb5 hC4 o1
   go_wp2_with fail
   refine HC4.out.mono ?_
   rintro e w4 ⟨v2,rfl,o2,hb6⟩
   have hb7:=Hb5.out.trans (hb6.mono Hb5.out.size)
   have o3:=za7 Ho1.out hb6
   obtain⟨a2,cap2,rfl⟩:=zad o2
   obtain⟨Hb6,Hb7,Ho2,Ho3⟩:=hd4 hb6 hb7 o2 o3;clear hb6 hb7 o2 o3
   clear Ho1 HC HC2 HC3 HC4 HQ2 HP HQ Hb1 Hb2 Hb3 Hb4 Hb5 Hb6
   go_wp2_with fail
   go_loop [7] (fun i=>∃ k:Nat,k≤N∧i = .int .i64 k∧r=zc2 xs ys k (N - k)) (fun i=>N - (RowKit.intOf i).toNat)
   case atStart=>exact⟨0,Nat.zero_le _,rfl,H0.out⟩
   case round =>
    obtain⟨k,hk,rfl,hrk⟩:=hrel
    by_cases hlt:k < N
    ·obtain⟨x,hx⟩ : ∃ x,x=ps.getD k zdf:=⟨_,rfl⟩
     obtain⟨y,hy⟩ : ∃ x,x=qs.getD k zdf:=⟨_,rfl⟩
     have hX:=at1_any Ho3.out (by omega) k (by have:=HN.out;omega)
     have hY:=at1_any Ho2.out (by omega) k (by have:=HN.out;omega)
     rw[← hx] at hX
     rw[← hy] at hY
     have hB1:=zgo x y (by rw[hx];have:=Hzx.out k;omega) (by rw[hy];have:=Hzy.out k;omega) w4
     have hB2:=zgo y x (by rw[hy];have:=Hzy.out k;omega) (by rw[hx];have:=Hzx.out k;omega) w4
     obtain⟨u,hu⟩ : ∃ u,u=zal x.data.toList y.data.toList:=⟨_,rfl⟩
     obtain⟨v,hv⟩ : ∃ u,u=zal y.data.toList x.data.toList:=⟨_,rfl⟩
     rw[← hu] at hB1
     rw[← hv] at hB2
     have hr2:r=if u=true then true else if v=true then false else zc2 xs ys (k+1) (N - (k+1)):=by
      rw[hrk,show N - k=(N - (k+1))+1 by omega,zc2,hu,hv,hx,hy,Hgx.out,Hgy.out]
     have hor:(k < m)∨(¬ k < m∧k < n):=by have:=HN.out;omega
     obtain⟨Hx,Hy,HX,HY,HB1,HB2,Hu,Hv,Hrk,Hr2⟩:=hd10 hx hy hX hY hB1 hB2 hu hv hrk hr2;clear hx hy hX hY hB1 hB2 hu hv hrk hr2
     rcases hor with h1 | ⟨h1,h2⟩
     ·have k1:decide ((k:Int) < (m:Int))=true:=decide_eq_true (by omega)
      cases u with
      | true =>
       have hf:r=true:=by rw[Hr2.out];rfl
       have Hf:=hd hf;clear hf
       go_wp2_with fail
       refine HX.out.mono ?_
       rintro e w5 ⟨rfl,rfl⟩
       go_wp2_with fail
       refine HY.out.mono ?_
       rintro e w5 ⟨rfl,rfl⟩
       go_wp2_with fail
       refine HB1.out.mono ?_
       rintro e w5 ⟨rfl,rfl⟩
       go_wp2_with fail
       go_ret
       exact⟨zaf Hf.out.symm,Hb7.out⟩
      | false =>
       cases v with
       | true =>
        have hf:r=false:=by rw[Hr2.out];rfl
        have Hf:=hd hf;clear hf
        go_wp2_with fail
        refine HX.out.mono ?_
        rintro e w5 ⟨rfl,rfl⟩
        go_wp2_with fail
        refine HY.out.mono ?_
        rintro e w5 ⟨rfl,rfl⟩
        go_wp2_with fail
        refine HB1.out.mono ?_
        rintro e w5 ⟨rfl,rfl⟩
        go_wp2_with fail
        refine HY.out.mono ?_
        rintro e w5 ⟨rfl,rfl⟩
        go_wp2_with fail
        refine HX.out.mono ?_
        rintro e w5 ⟨rfl,rfl⟩
        go_wp2_with fail
        refine HB2.out.mono ?_
        rintro e w5 ⟨rfl,rfl⟩
        go_wp2_with fail
        go_ret
        exact⟨zaf Hf.out.symm,Hb7.out⟩
       | false =>
        have hf:r=zc2 xs ys (k+1) (N - (k+1)):=by rw[Hr2.out];rfl
        have Hf:=hd hf;clear hf
        go_wp2_with fail
        refine HX.out.mono ?_
        rintro e w5 ⟨rfl,rfl⟩
        go_wp2_with fail
        refine HY.out.mono ?_
        rintro e w5 ⟨rfl,rfl⟩
        go_wp2_with fail
        refine HB1.out.mono ?_
        rintro e w5 ⟨rfl,rfl⟩
        go_wp2_with fail
        refine HY.out.mono ?_
        rintro e w5 ⟨rfl,rfl⟩
        go_wp2_with fail
        refine HX.out.mono ?_
        rintro e w5 ⟨rfl,rfl⟩
        go_wp2_with fail
        refine HB2.out.mono ?_
        rintro e w5 ⟨rfl,rfl⟩
        go_wp2_with fail
        go_round
        case rel=>exact⟨k+1,by omega,by go_num,Hf.out⟩
        case measure=>simp[RowKit.intOf];omega
     have k1:decide ((k:Int) < (m:Int))=false:=decide_eq_false (by omega)
     have k2:decide ((k:Int) < (n:Int))=true:=decide_eq_true (by omega)
     cases u with
     | true =>
      have hf:r=true:=by rw[Hr2.out];rfl
      have Hf:=hd hf;clear hf
      go_wp2_with fail
      refine HX.out.mono ?_
      rintro e w5 ⟨rfl,rfl⟩
      go_wp2_with fail
      refine HY.out.mono ?_
      rintro e w5 ⟨rfl,rfl⟩
      go_wp2_with fail
      refine HB1.out.mono ?_
      rintro e w5 ⟨rfl,rfl⟩
      go_wp2_with fail
      go_ret
      exact⟨zaf Hf.out.symm,Hb7.out⟩
     | false =>
      cases v with
      | true =>
       have hf:r=false:=by rw[Hr2.out];rfl
       have Hf:=hd hf;clear hf
       go_wp2_with fail
       refine HX.out.mono ?_
       rintro e w5 ⟨rfl,rfl⟩
       go_wp2_with fail
       refine HY.out.mono ?_
       rintro e w5 ⟨rfl,rfl⟩
       go_wp2_with fail
       refine HB1.out.mono ?_
       rintro e w5 ⟨rfl,rfl⟩
       go_wp2_with fail
       refine HY.out.mono ?_
       rintro e w5 ⟨rfl,rfl⟩
       go_wp2_with fail
       refine HX.out.mono ?_
       rintro e w5 ⟨rfl,rfl⟩
       go_wp2_with fail
       refine HB2.out.mono ?_
       rintro e w5 ⟨rfl,rfl⟩
       go_wp2_with fail
       go_ret
       exact⟨zaf Hf.out.symm,Hb7.out⟩
      | false =>
       have hf:r=zc2 xs ys (k+1) (N - (k+1)):=by rw[Hr2.out];rfl
       have Hf:=hd hf;clear hf
       go_wp2_with fail
       refine HX.out.mono ?_
       rintro e w5 ⟨rfl,rfl⟩
       go_wp2_with fail
       refine HY.out.mono ?_
       rintro e w5 ⟨rfl,rfl⟩
       go_wp2_with fail
       refine HB1.out.mono ?_
       rintro e w5 ⟨rfl,rfl⟩
       go_wp2_with fail
       refine HY.out.mono ?_
       rintro e w5 ⟨rfl,rfl⟩
       go_wp2_with fail
       refine HX.out.mono ?_
       rintro e w5 ⟨rfl,rfl⟩
       go_wp2_with fail
       refine HB2.out.mono ?_
       rintro e w5 ⟨rfl,rfl⟩
       go_wp2_with fail
       go_round
       case rel=>exact⟨k+1,by omega,by go_num,Hf.out⟩
       case measure=>simp[RowKit.intOf];omega
    obtain rfl:k=N:=by omega
    have k1:decide (k < m)=false:=decide_eq_false (by have:=HN.out;omega)
    have k2:decide (k < n)=false:=decide_eq_false (by have:=HN.out;omega)
    have hf:r=false:=by rw[hrk,Nat.sub_self];rfl
    obtain⟨Hrk,Hf⟩:=hd2 hrk hf;clear hrk hf
    go_wp2_with fail
    go_ret
    exact⟨zaf Hf.out.symm,Hb7.out⟩
end

section
open Go.RowKit Go.Lib VerN
def zih (l:List UInt8) (r m:Int) (x:ByteArray):Prop:=r=zbb l∧m=zc1 l∧x.data.toList=zbp l
theorem zbo {fn:Func} {p u:Tmp} (hres:fn.results=#[.cell p 241,.tmp u]) {R:Ending→World→Prop} {a:Act} {w:World} {g:Nat} {x y z b:Value} (hp:a.tmps.getD p undef = .pointer (some ⟨g,0,none⟩)) (hu:a.tmps.getD u undef=b)
  (hg:w.heap[g]? = some (.cells #[x,y,z] 241 (0,0))) (hd:a.defers = []) (hR:R (.returned (.tuple #[.agg #[x,y,z],b])) w):bodyPost Tryz.prog fn R .ret a w:=by
 refine bodyPost_ret (v:=.tuple #[.agg #[x,y,z],b]) ?_ hd hR
 rw[results_cell_tmp hres,hp,hu]
 simp only[asAddr,Sem.run_pure,Result.andThen,run_loadVar_row w g 241 241 _ _ _ hg Tryz.underlying241 rfl (by kernel_rfl)]
theorem zev {v:Value} {a b:Bool} (h:a=b):Ending.returned (.tuple #[v,.bool a]) = .returned (.tuple #[v,.bool b]):=by rw[h]
theorem zb6 {w:World} {g:Nat} {t:TypeId} {x y z:Value} (h:w.heap[g]? = some (.cells #[x,y,z] t (0,0))):w.cell? ⟨g,0,none⟩=some x∧w.cell? ⟨g,1,none⟩=some y∧w.cell? ⟨g,2,none⟩=some z∧w.frozen? ⟨g,0,none⟩=false∧w.frozen? ⟨g,1,none⟩=false∧w.frozen? ⟨g,2,none⟩=false:=by
 have b0:=zag h 0
 have b1:=zag h 1
 have b2:=zag h 2
 simp only[List.getElem?_toArray,List.getElem?_cons_zero,List.getElem?_cons_succ] at b0 b1 b2
 exact⟨b0,b1,b2,zai h 0,zai h 1,zai h 2⟩
theorem zdo {w:World} {g:Nat} {t:TypeId} {x y z:Value} (u v q:Value) (h:w.heap[g]? = some (.cells #[x,y,z] t (0,0))):(((w.setCell ⟨g,0,none⟩ u).setCell ⟨g,1,none⟩ v).setCell ⟨g,2,none⟩ q).heap[g]? = some (.cells #[u,v,q] t (0,0)):=by
 have k0:=heap_setCell_same _ g 0 _ _ u h
 have k1:=heap_setCell_same _ g 1 _ _ v k0
 have k2:=heap_setCell_same _ g 2 _ _ q k1
 exact k2
theorem zdp {B:Nat} {a w:World} {g:Nat} (u v q:Value) (h:Below B a w) (hg:B≤g):Below B a (((w.setCell ⟨g,0,none⟩ u).setCell ⟨g,1,none⟩ v).setCell ⟨g,2,none⟩ q) :=
 ((h.setCell (p:=⟨g,0,none⟩) hg _).setCell (p:=⟨g,1,none⟩) hg _).setCell (p:=⟨g,2,none⟩) hg _
def zk2 (l:List UInt8) (w:World) (e:Ending) (w':World):Prop :=
 (∃ r m x,e = .returned (.tuple #[.agg #[.int .i64 r,.int .i64 m,.string x],.bool (zaw l)])∧(zaw l=true→zih l r m x))∧Below w.heap.size w w'
theorem read_part {l:List UInt8} (h:∀ v,atoiAll l≠.ok v):zaw l=zb9 l:=by
 have h1:=read_is l
 unfold zht at h1
 unfold zaw
 rw[← h1]
 cases ha:atoiAll l with
 | ok v=>exact absurd ha (h v)
 | range=>unfold zb9;rw[Bool.and_comm]
 | _=>unfold zb9;rw[Bool.and_comm]
theorem zk1 {l:List UInt8} {v:Int} (h:atoiAll l = .ok v):zaw l=(decide (0≤v) && decide (v≤999999999) && decide (itoa v=l)):=by
 have h1:=read_is l
 unfold zht at h1
 rw[h] at h1
 unfold zaw
 rw[← h1]
theorem num_part {l:List UInt8} {v:Int} (h:atoiAll l = .ok v) (hp:zaw l=true):zih l 2 v ⟨#[]⟩:=by
 have hd:zcd l=true:=by
  unfold zaw at hp
  cases hl:zb9 l
  ·rw[hl] at hp;simpa using hp
  exfalso
  have h0:=zk1 h
  rw[show zaw l=true from hp] at h0
  have h1:=h0.symm
  simp only[Bool.and_eq_true,decide_eq_true_eq] at h1
  obtain⟨u,rfl⟩ : ∃ u:Nat,v=u:=⟨v.toNat,by omega⟩
  have h2:=h1.2
  rw[zh9] at h2
  have hk:=dec_dig u
  rw[h2] at hk
  have:=(zem hl).1
  unfold digs at this
  rw[hk.1] at this
  have hne:=hk.2.1
  cases l with
  | nil=>exact hne rfl
  | cons _ _=>simp at this
 have e:=zkm hd
 rw[h] at e
 injection e with e
 refine⟨(zde hd).symm,?_,?_⟩
 ·rw[e];unfold zc1;rw[if_neg (by rw[(zc4 hd).2.1];simp)]
 unfold zbp;rw[if_neg (by rw[(zc4 hd).2.1];simp)]
theorem let_part {l:List UInt8} (hp:zb9 l=true) {x:ByteArray} (hx:x.data.toList=l):zih l 0 0 x :=
 ⟨(zek hp).symm,by unfold zc1;rw[if_pos hp],by unfold zbp;rw[if_pos hp,hx]⟩
theorem read_any (s:ByteArray) (hs:s.size≤1000000) {w:World} (hD:zbf w):Calls Tryz.prog 206 #[.string s] w (zk2 s.data.toList w):=by
 obtain⟨l,hl⟩ : ∃ l,l=s.data.toList:=⟨_,rfl⟩
 have hb1:Below w.heap.size w (w.alloc (.cells #[.int .i64 0,.int .i64 0,.string ⟨#[]⟩] 241)):=za2 _ _
 have hr1:(w.alloc (.cells #[.int .i64 0,.int .i64 0,.string ⟨#[]⟩] 241)).heap[w.heap.size]? = some (.cells #[.int .i64 0,.int .i64 0,.string ⟨#[]⟩] 241 (0,0)):=zac rfl
 have hA:=atoi_any s (by omega) (hD.below hb1)
 have hln:l.length=s.size:=by rw[hl];exact Txt.len s
 rw[← hl] at hA ⊢
 obtain⟨Hl,Hb1,Hr1,HA,Hln⟩:=hd5 hl hb1 hr1 hA hln;clear hl hb1 hr1 hA hln
 go_enter Tryz.func206,Tryz.ntmps206
 go_wp2_with fail
 refine HA.out.mono ?_
 rintro e w2 ⟨⟨v,hv,rfl⟩ | ⟨hv,v,N,rfl⟩,hb2⟩
 ·have hp:=zk1 hv
  have hrow:=za1 hb2 Hr1.out
  have hb:=Hb1.out.trans (hb2.mono Hb1.out.size)
  have hbd:=atoiAll_bounds hv
  obtain⟨c0,c1,c2,f0,f1,f2⟩:=zb6 hrow
  have hnum:=num_part hv
  by_cases h0:0≤v
  ·by_cases h9:v≤999999999
   ·have k1:decide (0≤v)=true:=decide_eq_true h0
    have k2:decide (v≤999999999)=true:=decide_eq_true h9
    have hI:=itoa_any v (by omega) (by omega) (hD.below hb)
    have hpb:(itoa v == s.toList)=zaw l:=by
     rw[hp,decide_eq_true h0,decide_eq_true h9,toList_data,← Hl.out]
     simp only[Bool.and_self,Bool.true_and]
     by_cases h:itoa v=l
     ·rw[h];simp
     rw[decide_eq_false h];exact beq_eq_false_iff_ne.2 h
    obtain⟨Hp,Hv,Hrow,Hb,Hbd,Hnum,HI,Hpb,H0,H9,HD,Hs⟩:=hd12 hp hv hrow hb hbd hnum hI hpb h0 h9 hD hs;clear hp hv hrow hb hbd hnum hI hpb h0 h9 hD hs
    clear c0 c1 c2 f0 f1 f2 hb2
    go_wp2_with fail
    refine HI.out.mono ?_
    rintro e w3 ⟨rfl,hb3⟩
    have hrow3:=za1 hb3 Hrow.out
    obtain⟨c0,c1,c2,f0,f1,f2⟩:=zb6 hrow3
    have hbw:=Hb.out.trans (hb3.mono Hb.out.size)
    obtain⟨Hrow3,Hbw,Hb3⟩:=hd3 hrow3 hbw hb3;clear hrow3 hbw hb3
    go_wp2_with fail
    refine zbo rfl rfl rfl (zdo _ _ _ Hrow3.out) rfl ?_
    exact⟨⟨_,_,_,zev Hpb.out,Hnum.out⟩,zdp _ _ _ Hbw.out (Nat.le_refl _)⟩
   have k1:decide (0≤v)=true:=decide_eq_true h0
   have k2:decide (v≤999999999)=false:=decide_eq_false h9
   have hpb:zaw l=false:=by rw[hp,decide_eq_false h9];simp
   obtain⟨Hp,Hv,Hrow,Hb,Hbd,Hnum,Hpb,H0,H9,HD,Hs⟩:=hd11 hp hv hrow hb hbd hnum hpb h0 h9 hD hs;clear hp hv hrow hb hbd hnum hpb h0 h9 hD hs
   go_wp2_with fail
   refine zbo rfl rfl rfl (zdo _ _ _ Hrow.out) rfl ?_
   exact⟨⟨_,_,_,zev Hpb.out.symm,Hnum.out⟩,zdp _ _ _ Hb.out (Nat.le_refl _)⟩
  have k1:decide (0≤v)=false:=decide_eq_false h0
  have hpb:zaw l=false:=by rw[hp,decide_eq_false h0];simp
  obtain⟨Hp,Hv,Hrow,Hb,Hbd,Hnum,Hpb,H0,HD,Hs⟩:=hd10 hp hv hrow hb hbd hnum hpb h0 hD hs;clear hp hv hrow hb hbd hnum hpb h0 hD hs
  go_wp2_with fail
  refine zbo rfl rfl rfl (zdo _ _ _ Hrow.out) rfl ?_
  exact⟨⟨_,_,_,zev Hpb.out.symm,Hnum.out⟩,zdp _ _ _ Hb.out (Nat.le_refl _)⟩
 have hp:=read_part hv
 have hrow:=za1 hb2 Hr1.out
 have hb:=Hb1.out.trans (hb2.mono Hb1.out.size)
 obtain⟨c0,c1,c2,f0,f1,f2⟩:=zb6 hrow
 obtain⟨sz,hsz⟩ : ∃ sz,sz=s.size:=⟨_,rfl⟩
 obtain⟨Hp,Hv,Hrow,Hb,HD⟩:=hd5 hp hv hrow hb hD;clear hp hv hrow hb hD
 clear hb2
 go_wp2_with fail
 go_loop [6,30] (fun _ i=>∃ k:Nat,k≤s.size∧i = .int .i64 k∧(l.take k).all zf7=true) (fun _ i=>s.size - (RowKit.intOf i).toNat)
 case atStart=>exact⟨0,Nat.zero_le _,rfl,by simp⟩
 case round =>
  obtain⟨k,hk,rfl,hall⟩:=hrel
  by_cases hlt:k < s.size
  ·have hkl:k < l.length:=by have:=Hln.out;omega
   obtain⟨n,hn⟩ : ∃ n,n=s[k].toNat:=⟨_,rfl⟩
   have hn256:n < 256:=by rw[hn];exact s[k].toNat_lt
   have hsk:s[k].toNat=n:=hn.symm
   have e:l[k]=s[k]:=by simp only[Hl.out];rfl
   have hyes:97≤n→n≤122→(l.take (k+1)).all zf7=true:=fun h1 h2=>by
    rw[List.take_succ_eq_append_getElem hkl,List.all_append,hall]
    simp only[List.all_cons,List.all_nil,Bool.and_true,Bool.true_and]
    rw[zc7,e,hsk];exact⟨h1,h2⟩
   have hno:¬ (97≤n∧n≤122)→zaw l=false:=fun h=>by
    rw[Hp.out,Bool.eq_false_iff]
    intro h2
    unfold zb9 at h2
    rw[Bool.and_eq_true] at h2
    have:=List.all_eq_true.1 h2.2 l[k] (List.getElem_mem hkl)
    rw[zc7,e,hsk] at this
    exact h this
   clear hn e hkl
   rcases Nat.lt_or_ge n 97 with h1 | h1
   ·have hf:=hno (by omega)
    have k1:decide ((n:Int) < 97)=true:=decide_eq_true (by omega)
    obtain⟨Hall,Hyes,Hno,Hf⟩:=hd4 hall hyes hno hf;clear hall hyes hno hf
    go_wp2_with fail
    refine zbo rfl rfl rfl (zdo _ _ _ Hrow.out) rfl ?_
    exact⟨⟨_,_,_,zev Hf.out.symm,fun h=>by rw[Hf.out] at h;cases h⟩,zdp _ _ _ Hb.out (Nat.le_refl _)⟩
   have k1:decide ((n:Int) < 97)=false:=decide_eq_false (by omega)
   rcases Nat.lt_or_ge 122 n with h2 | h2
   ·have hf:=hno (by omega)
    have k2:decide (122 < (n:Int))=true:=decide_eq_true (by omega)
    obtain⟨Hall,Hyes,Hno,Hf⟩:=hd4 hall hyes hno hf;clear hall hyes hno hf
    go_wp2_with fail
    refine zbo rfl rfl rfl (zdo _ _ _ Hrow.out) rfl ?_
    exact⟨⟨_,_,_,zev Hf.out.symm,fun h=>by rw[Hf.out] at h;cases h⟩,zdp _ _ _ Hb.out (Nat.le_refl _)⟩
   have k2:decide (122 < (n:Int))=false:=decide_eq_false (by omega)
   have hnext:=hyes h1 h2
   obtain⟨Hall,Hyes,Hno,Hnext⟩:=hd4 hall hyes hno hnext;clear hall hyes hno hnext
   go_wp2_with fail
   go_round
   case rel=>exact⟨k+1,by omega,by go_num,Hnext.out⟩
   case measure=>simp[RowKit.intOf];omega
  obtain rfl:k=s.size:=by omega
  have hall2:l.all zf7=true:=by rw[List.take_of_length_le (by have:=Hln.out;omega)] at hall;exact hall
  have hf:zaw l = !s.toList.isEmpty:=by
   rw[Hp.out]
   unfold zb9
   rw[hall2,Bool.and_true,Txt.no_dec]
   have:=Hln.out
   cases l with
   | nil=>simp at this;rw[decide_eq_true (by omega)];rfl
   | cons x r=>simp at this;rw[decide_eq_false (by omega)];rfl
  have hlp:zaw l=true→zih l 0 0 s:=fun h=>let_part (by rw[← Hp.out];exact h) Hl.out.symm
  obtain⟨Hall,Hall2,Hf,Hlp⟩:=hd4 hall hall2 hf hlp;clear hall hall2 hf hlp
  go_wp2_with fail
  refine zbo rfl rfl rfl (zdo _ _ _ Hrow.out) rfl ?_
  exact⟨⟨_,_,_,zev Hf.out.symm,Hlp.out⟩,zdp _ _ _ Hb.out (Nat.le_refl _)⟩
end

section
open Go.RowKit Go.Shelf
def Lets {β:Type} (b:Nat) (J:β→World→Prop):Prop:=∀ s W (i:Nat) u,J s W→J s (W.setCell ⟨b,i,none⟩ u)
def zd1 (S:Nat→Prop) (W W':World):Prop:=∀ k,S k→W'.heap[k]? = W.heap[k]?
theorem zd1.refl (S:Nat→Prop) (W:World):zd1 S W W:=fun _ _=>rfl
theorem zd1.trans {S:Nat→Prop} {A B C:World} (h:zd1 S A B) (k:zd1 S B C):zd1 S A C:=fun i hi=>(k i hi).trans (h i hi)
theorem zd1.below {S:Nat→Prop} {W W':World} (hS:∀ k,S k→k < W.heap.size) (h:Below W.heap.size W W'):zd1 S W W':=fun k hk=>h.block k (hS k hk)
theorem zd1.put {S:Nat→Prop} {W:World} {l:Nat} (h:¬ S l) (o:Obj):zd1 S W (W.putObj l o):=fun k hk=>World.putObj_heap_other (fun e=>h (by rw[← e];exact hk))
theorem zd1.set {S:Nat→Prop} {W:World} {p:Addr} (h:¬ S p.block) (u:Value):zd1 S W (W.setCell p u):=fun k hk=>Below.heap_setCell _ _ _ _ (fun e=>h (by rw[← e];exact hk))
def SeqOwn {α:Type} (F:Fence) (n:Nat) (P:Program) (g:Nat) (lb:Array Value) (enc:α→Value) (K:Nat→Prop) (b:Nat) (Px:List α→α→Prop) (S Sp:List α→Prop) (w:World):Prop :=
 ∀ (l:Nat) (J Jx:List α→World→Prop) (W:World),Below w.heap.size w W→AbidesFrom W.heap.size J→AbidesFrom W.heap.size Jx→Lets b J→Lets b Jx →
  (∀ pre x W1,J pre W1→Px pre x→YieldAt F (n - 1) P l #[enc x] W1 fun e W' =>
   (e = .returned (.bool true)∧J (pre ++ [x]) W'∧zd1 K W1 W')∨(e = .returned (.bool false)∧Jx (pre ++ [x]) W')) →
  J [] W →
  CallsIn F n P g (#[.func (.yield l) #[] #[]] ++ lb) W fun e W'=>(∃ v,e = .returned v)∧((∃ xs,S xs∧J xs W')∨(∃ pre,Sp pre∧Jx pre W'))
def ownEnd {α:Type} (B:Nat) (K:Nat→Prop) (I Ix:List α→World→Prop) (xs:List α) (W:World):Exit→Act→World→Prop
 | .normal,_,W'=>KeepsFrom B W W'∧zd1 K W W'∧I xs W'
 | .ret,_,W'=>KeepsFrom B W W'∧Ix xs W'
 | _,_,_=>False
theorem zaa {W:World} {k b i:Nat} {u:Value} {o:Obj} (h:W.heap[k]? = some o) (hne:k≠b):(W.setCell ⟨b,i,none⟩ u).heap[k]? = some o :=
 (Below.heap_setCell _ _ _ _ hne).trans h
variable {F : Fence} {n : Nat} {P : Program}
theorem zdy {α:Type} {g:Operand} {ps:Array Tmp} {assign body:Code} {Q:Exit→Act→World→Prop} {a:Act} {w:World}
  (hro:F.round=none) (h1:1≤n) {gf:Nat} {lb:Array Value} (hg:a.eval g = .func (.func gf) #[] lb) (hFg:F.fn gf) (eg:∀ args w,(callFunc gf args).run P w = .ok (.enter gf args) w)
  {enc:α→Value} {Kb:Nat→Prop} {b:Nat} {Px:List α→α→Prop} {S Sp:List α→Prop} {w0:World} (hseq:SeqOwn F (n - 1) P gf lb enc Kb b Px S Sp w0)
  (hKb:∀ k,Kb k→k < w.heap.size) (hb:b < w.heap.size) (hb0:Below w0.heap.size w0 w) (hps:ps.size=1)
  (I Ix:List α→World→Prop) (hI:OwnFrom w.heap.size I) (hIx:OwnFrom w.heap.size Ix) (hIb:Lets b I) (hIxb:Lets b Ix) (h0:I [] w) (a₁:α→Act)
  (hassign:∀ (l:Nat) (x:α) (W:World) (K:Act→World→Prop),K (a₁ x) W →
   assign.wpIn (F.inRound l) (n - 1 - 1) P (Exit.then K (fun _ _ _=>False)) { tmps:=(ps.zip #[enc x]).foldl (fun t (p,v)=>t.setIfInBounds p v) a.tmps,defers:=[] } W)
  (hbody:∀ (l:Nat) (pre:List α) (x:α) (W:World),I pre W→Px pre x→body.wpIn (F.inRound l) (n - 1 - 1) P (ownEnd w.heap.size Kb I Ix (pre ++ [x]) W) (a₁ x) W)
  (hdone:∀ (D:Nat) (xs:List α) (W:World),w.heap.size≤D→S xs→I xs W→W.heap[D]? = some (.deferred (some []))→Q .normal { a with defers:={ target:=.collected D,args:=#[] } :: a.defers } W)
  (hstop:∀ (D:Nat) (pre:List α) (W:World),w.heap.size≤D→Sp pre→Ix pre W→W.heap[D]? = some (.deferred (some []))→Code.ret.wpIn F n P Q { a with defers:={ target:=.collected D,args:=#[] } :: a.defers } W) :
  (Code.rangeFunc g ps assign body).wpIn F n P Q a w:=by
 refine wpIn_rangeFunc fun fn hfn=>?_
 rw[hro]
 obtain⟨rec,hrec⟩ : ∃ rec:LoopState→Option Code→Loop,rec=fun st pe=>{ state:=st,pending:=pe,fn,tmps:=a.tmps,params:=ps,assign,body,defers:=w.heap.size }:=⟨_,rfl⟩
 obtain⟨W1,hW1⟩ : ∃ W1,(w.alloc (.deferred (some []))).alloc (.loop (rec .ready none))=W1:=⟨_,rfl⟩
 have hL1:W1.heap[w.heap.size+1]? = some (.loop (rec .ready none)):=by
  rw[← hW1]
  have:=World.alloc_heap_new (w.alloc (.deferred (some []))) (.loop (rec .ready none))
  rwa [World.size_alloc] at this
 have hK1:W1.heap[w.heap.size]? = some (.deferred (some [])):=by
  rw[← hW1]
  exact (Below.heap_alloc _ _ _ (by simp)).trans (World.alloc_heap_new w _)
 have hI1:I [] W1:=by rw[← hW1];exact hI.alloc _ (hI.alloc _ h0)
 have hs1:W1.heap.size=w.heap.size+2:=by rw[← hW1];simp
 have hb1:Below w0.heap.size w0 W1:=by
  rw[← hW1]
  exact hb0.trans ((((Below.refl _ w).alloc (Nat.le_refl _) _).alloc (by simp) _).mono hb0.size)
 refine⟨w.heap.size+1,[{ target:=.collected w.heap.size,args:=#[] }],W1,{ target:=.fn (.func gf) lb,args:=#[.func (.yield (w.heap.size+1)) #[] #[]] },W1,gf,
  #[.func (.yield (w.heap.size+1)) #[] #[]] ++ lb,W1,?_,?_,?_,?_,fun _=>h1,?_⟩
 ·rw[← hW1,hrec];exact run_enterLoop_outer _ _ _ _ _
 ·simp only[resolve,hg]
  simp[go_sem]
 ·intro f' hf'
  simp[Target.leads] at hf'
  subst hf'
  exact hFg
 ·simp[invoke,go_sem,eg]
 -- the record and the block of what is put off lie as they lay,whatever the iterator does
 have kp:∀ {A B:World} {row:Option Nat} {k:Nat} {o:Obj},A.grownBy B row→(∀ r,row=some r→W1.heap.size≤r∧∃ o:Obj,A.heap[r]? = some o∧o.isWalk=true)→k < W1.heap.size→A.heap[k]? = some o→B.heap[k]? = some o:=fun hg' hr hk ho =>
  (hg'.block _ (Array.getElem?_eq_some_iff.1 ho).1 (fun e=>by have:=(hr _ e.symm).1;omega)).trans ho
 have nw:∀ {A:World} {row:Option Nat},(∀ r,row=some r→W1.heap.size≤r∧∃ o:Obj,A.heap[r]? = some o∧o.isWalk=true)→(∀ r,row=some r→w.heap.size≤r∧∃ o:Obj,A.heap[r]? = some o∧o.isCells=false):=fun hr r e=>by
  obtain⟨h2,o,h3,h4⟩:=hr r e
  exact⟨by omega,o,h3,Obj.not_cells_of_walk h4⟩
 refine (hseq (w.heap.size+1)
  (fun pre W=>I pre W∧W.heap[w.heap.size+1]? = some (.loop (rec .ready none))∧W.heap[w.heap.size]? = some (.deferred (some [])))
  (fun pre W=>Ix pre W∧W.heap[w.heap.size+1]? = some (.loop (rec .done (some .ret)))∧W.heap[w.heap.size]? = some (.deferred (some [])))
  W1 hb1
  (fun s A B row hs hg' hr=>⟨hI s A B row hs.1 hg' (nw hr),kp hg' hr (by omega) hs.2.1,kp hg' hr (by omega) hs.2.2⟩)
  (fun s A B row hs hg' hr=>⟨hIx s A B row hs.1 hg' (nw hr),kp hg' hr (by omega) hs.2.1,kp hg' hr (by omega) hs.2.2⟩)
  (fun s W i u hs=>⟨hIb s W i u hs.1,zaa hs.2.1 (by omega),zaa hs.2.2 (by omega)⟩)
  (fun s W i u hs=>⟨hIxb s W i u hs.1,zaa hs.2.1 (by omega),zaa hs.2.2 (by omega)⟩)
  ?_ ⟨hI1,hL1,hK1⟩).mono ?_
 · -- one round
  rintro pre x W ⟨hi,hl,hk⟩ hpx
  have hlt:w.heap.size+1 < W.heap.size:=(Array.getElem?_eq_some_iff.1 hl).1
  have hy:=run_yield (P:=P) (args:=#[enc x]) hl (by rw[hrec];exact hps.symm)
  rw[hrec] at hy
  refine⟨fn,_,assign,body,hy,roundIn_of_wpIn hfn (hassign _ x W _ ?_)⟩
  clear hy
  refine⟨_,run_beginRound hl (by rw[hrec]),?_⟩
  obtain⟨W2,hW2⟩ : ∃ W2,W2=W.putObj (w.heap.size+1) (.loop { rec .ready none with state:=.busy }):=⟨_,rfl⟩
  rw[← hW2]
  have hl2:W2.heap[w.heap.size+1]? = some (.loop { rec .ready none with state:=.busy }):=by rw[hW2];exact World.putObj_heap_same hlt
  have hk2:W2.heap[w.heap.size]? = some (.deferred (some [])):=by rw[hW2];exact (World.putObj_heap_other (by omega)).trans hk
  have hne:¬ Kb (w.heap.size+1):=fun h=>by have:=hKb _ h;omega
  have hw2:zd1 Kb W W2:=by rw[hW2];exact zd1.put hne _
  have hi2:I pre W2:=by rw[hW2];exact hI.putObj _ hi (by omega) hl rfl
  refine wpIn_mono (hbody _ pre x W2 hi2 hpx) ?_
  have fin:∀ (jump:Option Code) (W3:World),KeepsFrom w.heap.size W2 W3 →
    ∃ W4,W4=W3.putObj (w.heap.size+1) (.loop (rec (if jump.isNone then .ready else .done) jump))∧(Instr.endRound (w.heap.size+1) jump).run P W3 = .ok (.bool jump.isNone) W4 ∧
    W3.heap[w.heap.size+1]? = some (.loop { rec .ready none with state:=.busy }) ∧
    W4.heap[w.heap.size+1]? = some (.loop (rec (if jump.isNone then .ready else .done) jump))∧W4.heap[w.heap.size]? = some (.deferred (some [])):=fun jump W3 hk3=>by
   have hl3:=hk3.same _ _ (by omega) hl2 rfl
   have hr:=run_endRound (P:=P) jump hl3
   refine⟨_,rfl,?_,hl3,World.putObj_heap_same (Array.getElem?_eq_some_iff.1 hl3).1,(World.putObj_heap_other (by omega)).trans (hk3.same _ _ (Nat.le_refl _) hk2 rfl)⟩
   rw[hrec] at hr ⊢
   exact hr
  rintro e a3 W3 hp
  cases e with
  | normal =>
   obtain⟨hk3,hkp3,hi3⟩:=hp
   obtain⟨W4,e4,hr,hl3,hl4,hk4⟩:=fin none W3 hk3
   refine⟨_,_,hr,.inl ⟨rfl,⟨?_,hl4,hk4⟩,?_⟩⟩
   ·rw[e4];exact hI.putObj _ hi3 (by omega) hl3 rfl
   rw[e4];exact (hw2.trans hkp3).trans (zd1.put hne _)
  | ret =>
   obtain⟨hk3,hi3⟩:=hp
   obtain⟨W4,e4,hr,hl3,hl4,hk4⟩:=fin (some .ret) W3 hk3
   refine⟨_,_,hr,.inr ⟨rfl,?_,hl4,hk4⟩⟩
   rw[e4];exact hIx.putObj _ hi3 (by omega) hl3 rfl
  | exit id=>exact hp.elim
  | goto t=>exact hp.elim
  | panic ch=>exact hp.elim
  | outgrown=>exact hp.elim
 -- behind the iterator
 rintro e W2 ⟨⟨v,rfl⟩,(⟨xs,hS,hi,hl,hk⟩ | ⟨pre,hSp,hi,hl,hk⟩)⟩
 ·have hr:=run_endLoop (P:=P) hl (by rw[hrec];simp)
  rw[hrec] at hr
  exact⟨none,_,hr,hdone _ xs _ (Nat.le_refl _) hS (hI.putObj _ hi (by omega) hl rfl) ((World.putObj_heap_other (by omega)).trans hk)⟩
 have hr:=run_endLoop (P:=P) hl (by rw[hrec];simp)
 rw[hrec] at hr
 exact⟨some .ret,_,hr,hstop _ pre _ (Nat.le_refl _) hSp (hIx.putObj _ hi (by omega) hl rfl) ((World.putObj_heap_other (by omega)).trans hk)⟩
end

section
open Go.RowKit Go.Shelf Go.Lib VerN
attribute [local go_sem] Oper.semAt_some
structure SBox (Bs Bp Bv:Nat) (c:UInt8) (r:ByteArray) (W:World):Prop where
 s:W.heap[Bs]? = some (.cells #[.string r] 9 (0,0))
 p:W.heap[Bp]? = some (.cells #[.string ⟨#[c]⟩] 9 (0,0))
 v:W.heap[Bv]? = some (.cells #[.int .i64 0] 3 (0,0))
theorem SBox.below {Bs Bp Bv n₀:Nat} {c:UInt8} {r:ByteArray} {W W':World} (h:SBox Bs Bp Bv c r W) (hb:Below n₀ W W') (h1:Bs < n₀) (h2:Bp < n₀) (h3:Bv < n₀):SBox Bs Bp Bv c r W' :=
 ⟨(hb.block _ h1).trans h.s,(hb.block _ h2).trans h.p,(hb.block _ h3).trans h.v⟩
abbrev Three (Bs Bp Bv:Nat) (k:Nat):Prop:=k=Bs∨k=Bp∨k=Bv
theorem SBox.keeps {Bs Bp Bv:Nat} {c:UInt8} {r:ByteArray} {W W':World} (h:SBox Bs Bp Bv c r W) (hk:zd1 (Three Bs Bp Bv) W W'):SBox Bs Bp Bv c r W' :=
 ⟨(hk _ (.inl rfl)).trans h.s,(hk _ (.inr (.inl rfl))).trans h.p,(hk _ (.inr (.inr rfl))).trans h.v⟩
theorem SBox.set {Bs Bp Bv:Nat} {c:UInt8} {r:ByteArray} {W:World} (h:SBox Bs Bp Bv c r W) (hp:Bp≠Bs) (hv:Bv≠Bs) (r':ByteArray):SBox Bs Bp Bv c r' (W.setCell ⟨Bs,0,none⟩ (.string r')) :=
 ⟨heap_setCell_same _ Bs 0 _ _ _ h.s,zaa h.p hp,zaa h.v hv⟩
theorem SBox.cells {Bs Bp Bv:Nat} {c:UInt8} {r:ByteArray} {W:World} (h:SBox Bs Bp Bv c r W) :
  W.cell? ⟨Bs,0,none⟩=some (.string r)∧W.cell? ⟨Bp,0,none⟩=some (.string ⟨#[c]⟩)∧W.cell? ⟨Bv,0,none⟩=some (.int .i64 0)∧W.frozen? ⟨Bs,0,none⟩=false :=
 ⟨zag h.s 0,zag h.p 0,zag h.v 0,zai h.s 0⟩
def left (Bs:Nat) (W:World):Nat:=match W.cell? ⟨Bs,0,none⟩ with
 | some (.string r)=>r.size
 | _=>0
theorem left_is {Bs Bp Bv:Nat} {c:UInt8} {r:ByteArray} {W:World} (h:SBox Bs Bp Bv c r W):left Bs W=r.size:=by unfold left;rw[h.cells.1]
theorem zk3 {pre zs rest:List ByteArray} {x:ByteArray} (h:zs=pre ++ x :: rest):pre ++ [x] <+: zs:=⟨rest,by rw[h];simp⟩
theorem zfm (n:Nat) (hn:1≤n) (Bs Bp Bv:Nat) (c:UInt8) (s:ByteArray) (hs:s.size≤1000000) (w:World) (h1:Bs < w.heap.size) (h2:Bp < w.heap.size) (h3:Bv < w.heap.size) (hp:Bp≠Bs) (hv:Bv≠Bs) (hb:SBox Bs Bp Bv c s w) :
  SeqOwn Fence.wide n Tryz.prog 167 #[.pointer (some ⟨Bp,0,none⟩),.pointer (some ⟨Bs,0,none⟩),.pointer (some ⟨Bv,0,none⟩)] (fun x:ByteArray=>Value.string x) (Three Bs Bp Bv) Bs (fun pre x=>x.size≤s.size∧pre ++ [x] <+: cutS c s) (fun ys=>ys=cutS c s) (fun pre=>pre <+: cutS c s) w:=by
 intro l J Jx W hW hJ hJx hL hLx hY h0
 obtain⟨zs,hzs⟩ : ∃ zs,zs=cutS c s:=⟨_,rfl⟩
 rw[← hzs]
 have hb0:SBox Bs Bp Bv c s W:=hb.below hW h1 h2 h3
 obtain⟨d1,d2,d3,d4⟩:=hb0.cells
 have hc1:((1:Int) == 0)=false:=rfl
 obtain⟨Hzs,Hb,Hb0,HW,HJ,HJx,HL,HLx⟩:=hd8 hzs hb hb0 hW hJ hJx hL hLx;clear hzs hb hb0 hW hJ hJx hL hLx
 refine callsIn_of_wp Tryz.func167 rfl trivial ?_ rfl
 simp only[Tryz.ntmps167,List.size_toArray,List.length_cons,List.length_nil,Nat.reduceAdd,Nat.reduceSub,Array.replicate_succ,Array.replicate_zero,List.push_toArray,List.append_toArray,List.nil_append,List.cons_append]
 gi_wp2
 gi_loopw [7,8] (fun _ _ wr=>∃ (pre:List ByteArray) (r:ByteArray),zs=pre ++ cutS c r∧SBox Bs Bp Bv c r wr∧J pre wr∧r.size≤s.size) (fun _ _ wr=>left Bs wr)
 case atStart=>exact⟨[],s,Hzs.out,Hb0.out,h0,Nat.le_refl _⟩
 case round =>
  obtain⟨pre,r,hz,hbx,hJs,hr⟩:=hrel
  obtain⟨d1,d2,d3,d4⟩:=hbx.cells
  have hl:=left_is hbx
  have hI:=Tryz.strings_Index_one r c wr
  obtain⟨v,hvd⟩ : ∃ v,v=indexByte r.data.toList c:=⟨_,rfl⟩
  rw[← hvd] at hI
  by_cases hm:v = -1
  ·have hzz:zs=pre ++ [r]:=by rw[hz,cutS_miss (by rw[← hvd,hm])]
   obtain⟨fn,tmps,assign,body,hy,hR⟩:=hY pre r wr hJs ⟨hr,by rw[← Hzs.out,hzz];exact List.prefix_refl _⟩
   have k1:decide (v < 0)=true:=decide_eq_true (by omega)
   obtain⟨Hz,Hzz,Hbx,HJs,Hr,Hl,Hvd,HI,Hm⟩:=hd9 hz hzz hbx hJs hr hl hvd hI hm;clear hz hzz hbx hJs hr hl hvd hI hm
   gi_wp2
   refine⟨trivial,(callsIn_wide.2 HI.out).mono ?_⟩
   rintro e w2 ⟨rfl,rfl⟩
   gi_wp2
   refine hR.mono ?_
   rintro e W3 (⟨rfl,hJ3,hk3⟩ | ⟨rfl,hJx3⟩)
   ·gi_wp2
    go_end0
    exact⟨⟨_,rfl⟩,.inl ⟨_,Hzz.out.symm,hJ3⟩⟩
   gi_wp2
   go_end0
   exact⟨⟨_,rfl⟩,.inr ⟨_,by rw[Hzz.out];exact List.prefix_refl _,hJx3⟩⟩
  obtain⟨i,hi⟩ : ∃ i:Nat,v=i:=⟨v.toNat,by have:=indexByte_ge r.data.toList c;omega⟩
  subst hi
  have hlt:=index_lt hvd.symm
  rw[Txt.len] at hlt
  have hz2:zs=pre ++ r.extract 0 i :: cutS c (r.extract (i+1) r.size):=by rw[hz,cutS_hit hvd.symm]
  obtain⟨fn,tmps,assign,body,hy,hR⟩:=hY pre (r.extract 0 i) wr hJs ⟨by simp;omega,by rw[← Hzs.out];exact zk3 hz2⟩
  have k1:decide ((i:Int) < 0)=false:=decide_eq_false (by omega)
  have k2:(i:Int)≤(r.size:Int):=by omega
  have hsz:(r.extract (i+1) r.size).size=r.size - (i+1):=by simp
  obtain⟨Hz,Hz2,Hbx,HJs,Hl,Hvd,HI,Hm,Hsz⟩:=hd9 hz hz2 hbx hJs hl hvd hI hm hsz;clear hz hz2 hbx hJs hl hvd hI hm hsz
  gi_wp2
  refine⟨trivial,(callsIn_wide.2 HI.out).mono ?_⟩
  rintro e w2 ⟨rfl,rfl⟩
  gi_wp2
  refine hR.mono ?_
  rintro e W3 (⟨rfl,hJ3,hk3⟩ | ⟨rfl,hJx3⟩)
  ·have hb3:=Hbx.out.keeps hk3
   obtain⟨d1,d2,d3,d4⟩:=hb3.cells
   obtain⟨Hb3,HJ3,Hk3⟩:=hd3 hb3 hJ3 hk3;clear hb3 hJ3 hk3
   gi_wp2
   go_roundw
   case rel=>exact⟨pre ++ [r.extract 0 i],r.extract (i+1) r.size,by rw[Hz2.out];simp,Hb3.out.set hp hv _,HL.out _ _ 0 _ HJ3.out,by rw[Hsz.out];omega⟩
   case measure=>rw[left_is (Hb3.out.set hp hv _),Hl.out,Hsz.out];omega
  gi_wp2
  refine bodyPost_ret (results_none rfl _ _ _) rfl ?_
  exact⟨⟨_,rfl⟩,.inr ⟨_,zk3 Hz2.out,hJx3⟩⟩
end

section
open Go.RowKit
theorem zb0 {P:Program} {fn:Func} {p q:Tmp} {ty tz:TypeId} (h:fn.results=#[.cell p ty,.cell q tz]) {tmps:Array Value} {w:World} {a b:Nat} {x y:Value} {ex ey:TypeId}
  (hp:tmps.getD p undef = .pointer (some ⟨a,0,none⟩)) (hq:tmps.getD q undef = .pointer (some ⟨b,0,none⟩))
  (hx:w.heap[a]? = some (.cells #[x] ex (0,0))) (hy:w.heap[b]? = some (.cells #[y] ey (0,0)))
  (ax:(isAgg ty).run P w = .ok false w) (ay:(isAgg tz).run P w = .ok false w) :
  (results fn tmps).run P w = .ok (.tuple #[x,y]) w:=by
 have cx:w.cell? ⟨a,0,none⟩=some x:=zag hx 0
 have cy:w.cell? ⟨b,0,none⟩=some y:=zag hy 0
 have hp':tmps[p]?.getD undef = .pointer (some ⟨a,0,none⟩):=by simpa using hp
 have hq':tmps[q]?.getD undef = .pointer (some ⟨b,0,none⟩):=by simpa using hq
 simp only[results,h]
 simp[Sem.run_bind,Result.andThen,go_sem,hp',hq',ax,ay,cx,cy]
end

section
open Go.RowKit Go.Shelf Go.Lib VerN
attribute [local go_sem] Oper.semAt_some
abbrev zi5:Nat:=167
def zc0 (l:List UInt8):List Value:=[.int .i64 (zbb l),.int .i64 (zc1 l),.string ⟨(zbp l).toArray⟩]
def zas (ps:List (List UInt8)):List Value:=ps.flatMap zc0
theorem zft (ps:List (List UInt8)) (l:List UInt8):zas (ps ++ [l])=zas ps ++ zc0 l:=by simp[zas]
theorem zl6 {l:List UInt8} {r m:Int} {x:ByteArray} (h:zih l r m x):zc0 l = [.int .i64 r,.int .i64 m,.string x]:=by
 obtain⟨rfl,rfl,h⟩:=h
 unfold zc0
 rw[← h]
theorem zez (s:ByteArray) (c:UInt8) (w:World):Calls Tryz.prog 52 #[.string s,.string ⟨#[c]⟩] w fun e w' =>
  e = .returned (.func (.func zi5) #[] #[.pointer (some ⟨w.heap.size+1,0,none⟩),.pointer (some ⟨w.heap.size,0,none⟩),.pointer (some ⟨w.heap.size+1+1,0,none⟩)]) ∧
  w'=((w.alloc (.cells #[.string s] 9)).alloc (.cells #[.string ⟨#[c]⟩] 9)).alloc (.cells #[.int .i64 0] 3):=by
 go_enter Tryz.func52,Tryz.ntmps52
 go_wp2
 go_ret
 exact⟨rfl,rfl⟩
structure PI (w W:World) (pre:List ByteArray):Prop where
 bel:Below w.heap.size w W
 r2:W.heap[w.heap.size]? = some (.cells #[.slice none 0 0] 224 (0,0))
 r3:W.heap[w.heap.size+1]? = some (.cells #[.bool false] 4 (0,0))
 out:∃ v,W.heap[w.heap.size+1+1]? = some (.cells #[v] 224 (0,0))∧W.ownsRow (w.heap.size+6) 241 3 v pre.length (zas (pre.map (·.data.toList)))
 ok:∀ p∈pre,zaw p.data.toList=true
 len:pre.length≤8
structure PX (w W:World) (pre:List ByteArray):Prop where
 bel:Below w.heap.size w W
 r2:W.heap[w.heap.size]? = some (.cells #[.slice none 0 0] 224 (0,0))
 r3:W.heap[w.heap.size+1]? = some (.cells #[.bool false] 4 (0,0))
 bad:(∃ p∈pre,zaw p.data.toList=false)∨8 < pre.length
theorem zbv {W W':World} {row:Option Nat} {k:Nat} {o:Obj} {B:Nat} (hg:W.grownBy W' row) (hr:∀ r,row=some r→B≤r) (hk:k < B) (h:W.heap[k]? = some o):W'.heap[k]? = some o :=
 (hg.block k (Array.getElem?_eq_some_iff.1 h).1 (fun e=>by have:=hr k e.symm;omega)).trans h
theorem zcp {B:Nat} (m:Nat):OwnFrom B (fun (_:List ByteArray) W=>m≤W.heap.size):=fun _ _ _ _ h hg _=>Nat.le_trans h hg.size
theorem PI.own {w:World} {B:Nat} (hB:w.heap.size+6≤B):OwnFrom B (fun (pre:List ByteArray) W=>PI w W pre):=by
 rintro pre W W' row h hg hr
 have hr':∀ r,row=some r→B≤r:=fun r e=>(hr r e).1
 obtain⟨v,hv,hrow⟩:=h.out
 refine⟨h.bel.grown hg h.bel.size (fun k e=>by have:=hr' k e;omega),zbv hg hr' (by omega) h.r2,zbv hg hr' (by omega) h.r3,⟨v,zbv hg hr' (by omega) hv,hrow.kept hg ?_⟩,h.ok,h.len⟩
 rcases hrow.2 with⟨rfl,_⟩ | ⟨g,cap,cur,rfl,_,hgb,_⟩
 ·exact .inl rfl
 refine .inr fun e'=>?_
 obtain⟨_,o,ho,hc⟩:=hr g (by simpa [Value.ownBlock] using e'.symm)
 rw[hgb] at ho
 cases ho
 cases hc
theorem PX.own {w:World} {B:Nat} (hB:w.heap.size+6≤B):OwnFrom B (fun (pre:List ByteArray) W=>PX w W pre):=by
 rintro pre W W' row h hg hr
 have hr':∀ r,row=some r→B≤r:=fun r e=>(hr r e).1
 exact⟨h.bel.grown hg h.bel.size (fun k e=>by have:=hr' k e;omega),zbv hg hr' (by omega) h.r2,zbv hg hr' (by omega) h.r3,h.bad⟩
theorem zcu {W:World} {B:Nat} {e:TypeId} {size:Nat} {v:Value} {n:Nat} {xs:List Value} (h:W.ownsRow B e size v n xs) {p:Nat} (hp:p < B) (i:Nat) (u:Value):(W.setCell ⟨p,i,none⟩ u).ownsRow B e size v n xs:=by
 refine h.kept (row:=some p) ⟨rfl,rfl,rfl,by simp[World.setCell],fun k _ hk=>Below.heap_setCell _ _ _ _ (fun e=>hk (by rw[e]))⟩ ?_
 rcases h.2 with⟨rfl,_⟩ | ⟨g,cap,cur,rfl,hg,_⟩
 ·exact .inl rfl
 exact .inr fun e'=>by simp[Value.ownBlock] at e';omega
theorem PI.lets (w:World):Lets (w.heap.size+1+1+1) (fun (pre:List ByteArray) W=>PI w W pre):=by
 rintro pre W i u h
 obtain⟨v,hv,hrow⟩:=h.out
 exact⟨h.bel.setCell (p:=⟨w.heap.size+1+1+1,i,none⟩) (by show w.heap.size≤w.heap.size+1+1+1;omega) _,zaa h.r2 (by omega),zaa h.r3 (by omega),⟨v,zaa hv (by omega),zcu hrow (by omega) i u⟩,h.ok,h.len⟩
theorem PX.lets (w:World):Lets (w.heap.size+1+1+1) (fun (pre:List ByteArray) W=>PX w W pre):=by
 rintro pre W i u h
 exact⟨h.bel.setCell (p:=⟨w.heap.size+1+1+1,i,none⟩) (by show w.heap.size≤w.heap.size+1+1+1;omega) _,zaa h.r2 (by omega),zaa h.r3 (by omega),h.bad⟩
abbrev sb (w:World):Nat→Prop:=Three (w.heap.size+1+1+1) (w.heap.size+1+1+1+1) (w.heap.size+1+1+1+1+1)
theorem zc3 {B:Nat} {W W':World} (h:Below W.heap.size W W'):KeepsFrom B W W':=⟨h.size,fun k o _ hk _=>za1 h hk⟩
theorem PI.size {w W:World} {pre:List ByteArray} (h:PI w W pre) (hs:w.heap.size+6≤W.heap.size):∀ k,sb w k→k < W.heap.size:=by
 rintro k (rfl | rfl | rfl) <;> omega
theorem lit3 (w:World) (x y z:Value) (t:TypeId) {n:Nat} (hn:w.heap.size=n):∀ j u,[x,y,z][j]? = some u→(w.alloc (.cells #[x,y,z] t)).cell? ((⟨n,0,none⟩ : Addr).add j)=some u:=by
 intro j u hu
 subst hn
 rw[Addr.add_lit,Nat.zero_add,World.cell?_alloc_new]
 simpa using hu
theorem PI.add {w W W3 w1:World} {pre:List ByteArray} {x:ByteArray} {tmp:Obj} {B:Nat} (h:PI w W pre) (hs:w.heap.size+6≤W.heap.size) (hb:Below W.heap.size W W3) {v v':Value}
  (hv:W.heap[w.heap.size+1+1]? = some (.cells #[v] 224 (0,0))) (hrow:W.ownsRow (w.heap.size+6) 241 3 v pre.length (zas (pre.map (·.data.toList))))
  (hown:w1.ownsRow (w.heap.size+6) 241 3 v' (pre.length+1) (zas (pre.map (·.data.toList)) ++ zc0 x.data.toList)) (hg:(W3.alloc tmp).grownBy w1 v.ownBlock) (hx:zaw x.data.toList=true) (h8:pre.length≠8) :
  KeepsFrom B W (w1.setCell ⟨w.heap.size+1+1,0,none⟩ v')∧zd1 (sb w) W (w1.setCell ⟨w.heap.size+1+1,0,none⟩ v')∧PI w (w1.setCell ⟨w.heap.size+1+1,0,none⟩ v') (pre ++ [x])∧w1.heap[w.heap.size+1+1]? = some (.cells #[v] 224 (0,0))∧w.heap.size+6≤(w1.setCell ⟨w.heap.size+1+1,0,none⟩ v').heap.size:=by
 have hb3:Below W.heap.size W (W3.alloc tmp):=hb.alloc hb.size _
 have hrow3:(W3.alloc tmp).ownsRow (w.heap.size+6) 241 3 v pre.length (zas (pre.map (·.data.toList))):=za7 hrow hb3
 have old:∀ {k:Nat} {o:Obj},k < w.heap.size+6→W.heap[k]? = some o→w1.heap[k]? = some o:=fun {k o} hk ho =>
  (hg.block k (by have:=hb3.size;have:=(Array.getElem?_eq_some_iff.1 ho).1;omega) (fun e=>by have:=(hrow3.lt k e.symm).1;omega)).trans (za1 hb3 ho)
 refine⟨?_,?_,⟨?_,zaa (old (by omega) h.r2) (by omega),zaa (old (by omega) h.r3) (by omega),⟨v',heap_setCell_same _ _ 0 _ _ _ (old (by omega) hv),?_⟩,?_,?_⟩,old (by omega) hv,by have:=hg.size;have:=hb3.size;simp[World.setCell];omega⟩
 ·have k1:KeepsFrom B W (W3.alloc tmp):=zc3 hb3
  have k2:KeepsFrom B (W3.alloc tmp) w1:=⟨hg.size,fun k o _ hk hc=>(hg.block k (Array.getElem?_eq_some_iff.1 hk).1 (fun e=>by
   obtain⟨cs,hcs⟩:=zfb hrow3 k e.symm
   rw[hcs] at hk
   cases hk
   cases hc)).trans hk⟩
  exact (k1.trans k2).trans ((KeepsOthers.setCell _ _ _).from B)
 ·intro k hk
  have hlt:=h.size hs k hk
  have hlt6:k < w.heap.size+6:=by rcases hk with rfl | rfl | rfl <;> omega
  have hne:k≠w.heap.size+1+1:=by rcases hk with h | h | h <;> omega
  rw[Below.heap_setCell _ _ _ _ hne]
  cases ho:W.heap[k]? with
  | none=>exact absurd ho (by rw[Array.getElem?_eq_getElem hlt];simp)
  | some o=>exact old hlt6 ho
 ·exact ((h.bel.trans (hb3.mono h.bel.size)).grown hg (by have:=hb3.size;have:=h.bel.size;omega) (fun k e=>by have:=(hrow3.lt k e).1;omega)).setCell (p:=⟨w.heap.size+1+1,0,none⟩) (by show w.heap.size≤w.heap.size+1+1;omega) _
 ·rw[List.map_append,List.map_singleton,zft,List.length_append]
  exact zcu hown (by omega) 0 v'
 ·intro p hp
  rcases List.mem_append.1 hp with hp | hp
  ·exact h.ok p hp
  rw[List.mem_singleton] at hp;subst hp;exact hx
 have:=h.len;rw[List.length_append,List.length_singleton];omega
theorem PI.no {w W W3:World} {pre:List ByteArray} {x:ByteArray} {B:Nat} (h:PI w W pre) (hs:w.heap.size+6≤W.heap.size) (hb:Below W.heap.size W W3) (hx:zaw x.data.toList=false∨pre.length=8) :
  KeepsFrom B W ((W3.setCell ⟨w.heap.size,0,none⟩ (.slice none 0 0)).setCell ⟨w.heap.size+1,0,none⟩ (.bool false))∧PX w ((W3.setCell ⟨w.heap.size,0,none⟩ (.slice none 0 0)).setCell ⟨w.heap.size+1,0,none⟩ (.bool false)) (pre ++ [x]):=by
 refine⟨((zc3 hb).trans ((KeepsOthers.setCell _ _ _).from B)).trans ((KeepsOthers.setCell _ _ _).from B),?_,?_,?_,?_⟩
 ·exact (((h.bel.trans (hb.mono h.bel.size)).setCell (p:=⟨w.heap.size,0,none⟩) (Nat.le_refl _) _).setCell (p:=⟨w.heap.size+1,0,none⟩) (by show w.heap.size≤w.heap.size+1;omega) _)
 ·exact zaa (heap_setCell_same _ _ 0 _ _ _ (za1 hb h.r2)) (by omega)
 ·exact heap_setCell_same _ _ 0 _ _ _ (zaa (za1 hb h.r3) (by omega))
 rcases hx with hx | hx
 ·exact .inl ⟨x,by simp,hx⟩
 right;rw[List.length_append,List.length_singleton];omega
theorem info_part:(Tryz.prog.info? 241).map (fun i=>(i.zero,i.size,i.bytes))=some (some (.agg #[.int .i64 0,.int .i64 0,.string ⟨#[]⟩]),3,32):=by kernel_rfl
def zfs (l:List UInt8) (w:World) (e:Ending) (w':World):Prop :=
 ∃ v,e = .returned (.tuple #[v,.bool (mayL l)])∧(mayL l=true→w'.ownsRow w.heap.size 241 3 v (cutL 46 l).length (zas (cutL 46 l)))∧(mayL l=false→v = .slice none 0 0)∧Below w.heap.size w w'
theorem may_no {s:ByteArray} {pre:List ByteArray} (h:pre <+: cutS 46 s) (hb:(∃ p∈pre,zaw p.data.toList=false)∨8 < pre.length):mayL s.data.toList=false:=by
 rw[Bool.eq_false_iff]
 intro hm
 obtain⟨_,_,h1,h2⟩:=(zbi _).1 hm
 rcases hb with⟨p,hp,hf⟩ | hb
 ·have:=h1 p.data.toList (by rw[← zdi];exact List.mem_map.2 ⟨p,h.subset hp,rfl⟩)
  rw[hf] at this;cases this
 have:=h.length_le
 rw[zax] at this
 omega
theorem may_yes {s:ByteArray} (h0:s.size≠0) (h40:s.size≤40) (hok:∀ p∈cutS 46 s,zaw p.data.toList=true) (hl:(cutS 46 s).length≤8):mayL s.data.toList=true:=by
 rw[zbi]
 refine⟨fun e=>h0 (by rw[← Txt.len,e];rfl),by rw[Txt.len];exact h40,fun p hp=>?_,by rw[← zax];exact hl⟩
 rw[← zdi] at hp
 obtain⟨x,hx,rfl⟩:=List.mem_map.1 hp
 exact hok x hx
theorem zfr (s:ByteArray) (hs:s.size≤1000000) {w:World} (hD:zbf w):Calls Tryz.prog 175 #[.string s] w (zfs s.data.toList w):=by
 refine (callsIn_wide (n:=8)).1 ?_
 refine callsIn_of_wp_marks Tryz.func175 rfl trivial ?_ rfl
 simp only[Tryz.ntmps175,List.size_toArray,List.length_cons,List.length_nil,Nat.reduceAdd,Nat.reduceSub,Array.replicate_succ,Array.replicate_zero,List.push_toArray,List.append_toArray,List.nil_append,List.cons_append]
 by_cases h0:s.size=0
 ·have k1:s.toList.isEmpty=true:=by rw[Txt.no_dec,decide_eq_true h0]
  have hm:mayL s.data.toList=false:=by
   rw[Bool.eq_false_iff]
   intro h
   exact ((zbi _).1 h).1 (List.length_eq_zero_iff.1 (by rw[Txt.len];exact h0))
  obtain⟨Hm,HD⟩:=hd2 hm hD;clear hm hD
  gi_wp2
  refine⟨_,zb0 rfl rfl rfl (za1 (za2 _ _) (zac rfl)) (zac (by simp)) (Tryz.isAgg224 _) (Tryz.isAgg4 _),?_⟩
  refine⟨_,by rw[Hm.out],fun h=>(by rw[Hm.out] at h;cases h),fun _=>rfl,((Below.refl _ w).alloc (Nat.le_refl _) _).alloc (by simp) _⟩
 by_cases h40:40 < s.size
 ·have k1:s.toList.isEmpty=false:=by rw[Txt.no_dec,decide_eq_false h0]
  have k2:decide ((40:Int) < (s.size:Int))=true:=decide_eq_true (by omega)
  have hm:mayL s.data.toList=false:=by
   rw[Bool.eq_false_iff]
   intro h
   have:=((zbi _).1 h).2.1
   rw[Txt.len] at this
   omega
  obtain⟨Hm,HD⟩:=hd2 hm hD;clear hm hD
  gi_wp2
  refine⟨_,zb0 rfl rfl rfl (za1 (za2 _ _) (zac rfl)) (zac (by simp)) (Tryz.isAgg224 _) (Tryz.isAgg4 _),?_⟩
  refine⟨_,by rw[Hm.out],fun h=>(by rw[Hm.out] at h;cases h),fun _=>rfl,((Below.refl _ w).alloc (Nat.le_refl _) _).alloc (by simp) _⟩
 have k1:s.toList.isEmpty=false:=by rw[Txt.no_dec,decide_eq_false h0]
 have k2:decide ((40:Int) < (s.size:Int))=false:=decide_eq_false (by omega)
 have hq:=zez s 46 (((w.alloc (.cells #[.slice none 0 0] 224)).alloc (.cells #[.bool false] 4)).alloc (.cells #[.slice none 0 0] 224))
 obtain⟨Hq,HD⟩:=hd2 hq hD;clear hq hD
 gi_wp2
 refine⟨trivial,(callsIn_wide.2 Hq.out).mono ?_⟩
 rintro e w2 ⟨rfl,rfl⟩
 gi_wp2
 have hsb:SBox (w.heap.size+1+1+1) (w.heap.size+1+1+1+1) (w.heap.size+1+1+1+1+1) 46 s ((((((w.alloc (.cells #[.slice none 0 0] 224)).alloc (.cells #[.bool false] 4)).alloc (.cells #[.slice none 0 0] 224)).alloc (.cells #[.string s] 9)).alloc (.cells #[.string ⟨#[46]⟩] 9)).alloc (.cells #[.int .i64 0] 3)):=by
  have a1:=zac (w:=(((w.alloc (.cells #[.slice none 0 0] 224)).alloc (.cells #[.bool false] 4)).alloc (.cells #[.slice none 0 0] 224))) (o:=.cells #[.string s] 9) (n:=w.heap.size+1+1+1) (by simp)
  have a2:=zac (w:=((((w.alloc (.cells #[.slice none 0 0] 224)).alloc (.cells #[.bool false] 4)).alloc (.cells #[.slice none 0 0] 224)).alloc (.cells #[.string s] 9))) (o:=.cells #[.string ⟨#[46]⟩] 9) (n:=w.heap.size+1+1+1+1) (by simp)
  have a3:=zac (w:=(((((w.alloc (.cells #[.slice none 0 0] 224)).alloc (.cells #[.bool false] 4)).alloc (.cells #[.slice none 0 0] 224)).alloc (.cells #[.string s] 9)).alloc (.cells #[.string ⟨#[46]⟩] 9))) (o:=.cells #[.int .i64 0] 3) (n:=w.heap.size+1+1+1+1+1) (by simp)
  exact⟨za1 (za2 _ _) (za1 (za2 _ _) a1),za1 (za2 _ _) a2,a3⟩
 obtain⟨W0,hW0⟩ : ∃ W0,W0=((((((w.alloc (.cells #[.slice none 0 0] 224)).alloc (.cells #[.bool false] 4)).alloc (.cells #[.slice none 0 0] 224)).alloc (.cells #[.string s] 9)).alloc (.cells #[.string ⟨#[46]⟩] 9)).alloc (.cells #[.int .i64 0] 3)):=⟨_,rfl⟩
 have hs0:W0.heap.size=w.heap.size+6:=by rw[hW0];simp
 rw[← hW0] at hsb ⊢
 have hPI:PI w W0 []:=by
  rw[hW0]
  have k1:∀ {w':World} {o:Obj} {k:Nat} {o':Obj},w'.heap[k]? = some o→(w'.alloc o').heap[k]? = some o:=fun h=>za1 (za2 _ _) h
  refine⟨(((((((Below.refl _ w).alloc (Nat.le_refl _) _).alloc (by simp) _).alloc (by simp;omega) _).alloc (by simp;omega) _).alloc (by simp;omega) _).alloc (by simp;omega) _),k1 (k1 (k1 (k1 (k1 (zac rfl))))),k1 (k1 (k1 (k1 (zac (by simp))))),⟨_,k1 (k1 (k1 (zac (by simp)))),World.ownsRow_nil _ _ _ _⟩,(fun p hp=>by cases hp),Nat.zero_le _⟩
 have HW0:=hd hW0;clear hW0
 refine zdy rfl (by omega) (gf:=zi5) rfl trivial (enters_of Tryz.func167 (by kernel_rfl) rfl) (zfm 7 (by omega) _ _ _ 46 s hs W0 (by omega) (by omega) (by omega) (by omega) (by omega) hsb)
  (fun k hk=>by rcases hk with h | h | h <;> omega) (by omega) (Below.refl _ _) rfl
  (fun pre W=>w.heap.size+6≤W.heap.size∧PI w W pre) (fun pre W=>w.heap.size+6≤W.heap.size∧PX w W pre) (OwnFrom.and (zcp _) (PI.own (by omega))) (OwnFrom.and (zcp _) (PX.own (by omega))) (fun pre W i u h=>⟨by simp[World.setCell];exact h.1,PI.lets w pre W i u h.2⟩) (fun pre W i u h=>⟨by simp[World.setCell];exact h.1,PX.lets w pre W i u h.2⟩) ⟨by omega,hPI⟩
  (fun x=>{ tmps:=#[.string s,undef,.pointer (some ⟨w.heap.size,0,none⟩),.pointer (some ⟨w.heap.size+1,0,none⟩),.pointer (some ⟨w.heap.size+1+1,0,none⟩),.string x,undef,undef,.string s,.bool false,.bool false,.string s,.int .i64 (s.size:Int),.bool false,.bool false,.string s,
   .func (.func zi5) #[] #[.pointer (some ⟨w.heap.size+1+1+1+1,0,none⟩),.pointer (some ⟨w.heap.size+1+1+1,0,none⟩),.pointer (some ⟨w.heap.size+1+1+1+1+1,0,none⟩)],.string x,undef,undef,undef,undef,undef,undef,undef,undef,undef,undef,undef,undef,undef,undef,undef,undef,undef],defers:=[] }) ?assign ?body ?done ?stop
 case assign =>
  intro l x W K hK
  gi_wp2
  exact hK
 case body =>
  rintro l pre x W ⟨hsz,h⟩ ⟨hx,_⟩
  obtain⟨v,hv,hrow⟩:=h.out
  obtain⟨a,cap,rfl⟩:=zad hrow
  have hR:=read_any x (by omega) (HD.out.below h.bel)
  obtain⟨b,hb⟩ : ∃ b,b=zaw x.data.toList:=⟨_,rfl⟩
  obtain⟨m,hm⟩ : ∃ m,m=pre.length:=⟨_,rfl⟩
  have c0:W.cell? ⟨w.heap.size+1+1,0,none⟩=some (.slice a pre.length cap):=zag hv 0
  unfold zk2 at hR
  rw[← hb] at hR
  obtain⟨Hv,Hrow,HR,Hh,Hc0,Hx⟩:=hd6 hv hrow hR h c0 hx;clear hv hrow hR h c0 hx
  gi_wp2
  refine⟨trivial,(CallsIn.inRound l (callsIn_wide.2 HR.out)).mono ?_⟩
  rintro e W2 ⟨⟨r,q,y,rfl,hpt⟩,hb2⟩
  have hb3:Below W.heap.size W (W2.alloc (.cells #[.int .i64 r,.int .i64 q,.string y] 241)):=hb2.alloc hb2.size _
  have r2:=za1 hb3 Hh.out.r2
  have r3:=za1 hb3 Hh.out.r3
  have d0:(W2.alloc (.cells #[.int .i64 r,.int .i64 q,.string y] 241)).cell? ⟨w.heap.size+1+1,0,none⟩=some (.slice a pre.length cap):=cell_later hb3 Hc0.out
  have d1:(W2.alloc (.cells #[.int .i64 r,.int .i64 q,.string y] 241)).cell? ⟨w.heap.size,0,none⟩=some (.slice none 0 0):=zag r2 0
  have d2:(W2.alloc (.cells #[.int .i64 r,.int .i64 q,.string y] 241)).cell? ⟨w.heap.size+1,0,none⟩=some (.bool false):=zag r3 0
  have f1:=zai r2 0
  have f2:=zai r3 0
  obtain⟨Hb2,Hb3,Hr2,Hr3,Hpt,Hb,Hm⟩:=hd7 hb2 hb3 r2 r3 hpt hb hm;clear hb2 hb3 r2 r3 hpt hb hm
  clear Hq
  cases b with
  | false =>
   have hno:=Hh.out.no (B:=W0.heap.size) hsz Hb3.out (.inl Hb.out.symm)
   have hs3:w.heap.size+6≤(((W2.alloc (.cells #[.int .i64 r,.int .i64 q,.string y] 241)).setCell ⟨w.heap.size,0,none⟩ (.slice none 0 0)).setCell ⟨w.heap.size+1,0,none⟩ (.bool false)).heap.size:=by have:=Hb3.out.size;simp[World.setCell] at this ⊢;omega
   have Hno:=hd hno;clear hno
   gi_wp2
   exact⟨Hno.out.1,hs3,Hno.out.2⟩
  | true =>
   by_cases h8:pre.length=8
   ·have hno:=Hh.out.no (B:=W0.heap.size) hsz Hb3.out (x:=x) (.inr h8)
    have hs3:w.heap.size+6≤(((W2.alloc (.cells #[.int .i64 r,.int .i64 q,.string y] 241)).setCell ⟨w.heap.size,0,none⟩ (.slice none 0 0)).setCell ⟨w.heap.size+1,0,none⟩ (.bool false)).heap.size:=by have:=Hb3.out.size;simp[World.setCell] at this ⊢;omega
    have k8:((pre.length:Int) == 8)=true:=by rw[h8];rfl
    obtain⟨Hno,H8⟩:=hd2 hno h8;clear hno h8
    gi_wp2
    exact⟨Hno.out.1,hs3,Hno.out.2⟩
   have k8:((pre.length:Int) == 8)=false:=by rw[beq_eq_false_iff_ne];omega
   have hlen:=Hh.out.len
   have hrow3:=za7 Hrow.out Hb3.out
   have hpc:=zl6 (Hpt.out rfl)
   obtain⟨i0,hi,hz0,hz1,hz2⟩:=info_parts info_part
   have hadd:=fun (w1:World) (v':Value)=>Hh.out.add (B:=W0.heap.size) hsz Hb3.out Hv.out Hrow.out (w1:=w1) (v':=v') (x:=x) (tmp:=.cells #[.int .i64 r,.int .i64 q,.string y] 241)
   rw[hpc] at hadd
   have hz9:w.heap.size+6≤(W2.alloc (.cells #[.int .i64 r,.int .i64 q,.string y] 241)).heap.size:=by have:=Hb3.out.size;omega
   have g1:pre.length+1≤maxLen:=by unfold maxLen;omega
   have g2:(pre.length+1) * 32≤140737488355328:=by omega
   have g3:w.heap.size+6≤((W2.alloc (.cells #[.int .i64 r,.int .i64 q,.string y] 241)).alloc (.cells #[.int .i64 r,.int .i64 q,.string y] 241)).heap.size:=by simp at hz9 ⊢;omega
   have g4:=lit3 (W2.alloc (.cells #[.int .i64 r,.int .i64 q,.string y] 241)) (.int .i64 r) (.int .i64 q) (.string y) 241 (n:=W2.heap.size+1) (by simp)
   have g5:∀ u∈[Value.int .i64 r,.int .i64 q,.string y],u.oneCell'=true:=by simp[Value.oneCell']
   obtain⟨Hrow3,Hpc,Hadd,Hz9,H8,Hlen,Hg1,Hg2,Hg3,Hg4,Hg5⟩:=hd11 hrow3 hpc hadd hz9 h8 hlen g1 g2 g3 g4 g5;clear hrow3 hpc hadd hz9 h8 hlen g1 g2 g3 g4 g5
   gi_wp2_with (gi_at_builtin;refine wpListIn_append_own _ rfl _ _ 224 rfl (w.heap.size+6) 241 i0 (.agg #[.int .i64 0,.int .i64 0,.string ⟨#[]⟩]) 3 32 Tryz.underlying224 hi hz0 hz1 hz2 rfl (by decide) _ _ _ rfl (Hrow3.out.alloc _) ⟨W2.heap.size+1,0,none⟩ 1 1 [.int .i64 r,.int .i64 q,.string y] rfl rfl Hg4.out Hg5.out Hg1.out Hg2.out Hg3.out ?_;intro v' w1 hown' hgrow _;obtain⟨g',cap',rfl⟩:=ownsRow_succ hown';have hfin:=Hadd.out w1 _ hown' hgrow Hb.out.symm H8.out;clear hown' hgrow;refine Hid.out ?_)
   have e1:=zag hfin.2.2.2.1 0
   have e2:=zai hfin.2.2.2.1 0
   simp only[List.getElem?_toArray,List.getElem?_cons_zero] at e1
   have Hfin:=hd hfin;clear hfin
   refine Lib.hid ?_
   gi_wp2
   exact⟨Hfin.out.1,Hfin.out.2.1,Hfin.out.2.2.2.2,Hfin.out.2.2.1⟩
 case done =>
  rintro D ys W hD rfl ⟨hsz,h⟩ hK
  obtain⟨v,hv,hrow⟩:=h.out
  obtain⟨a,cap,rfl⟩:=zad hrow
  have c0:W.cell? ⟨w.heap.size+1+1,0,none⟩=some (.slice a (cutS 46 s).length cap):=zag hv 0
  have c1:=zag h.r2 0
  have c2:=zag h.r3 0
  have f1:=zai h.r2 0
  have f2:=zai h.r3 0
  simp only[List.getElem?_toArray,List.getElem?_cons_zero] at c1 c2
  have hm:=may_yes h0 (by omega) h.ok h.len
  obtain⟨Hv,Hrow,Hh,Hm⟩:=hd4 hv hrow h hm;clear hv hrow h hm
  gi_wp2
  have hK2:((W.setCell ⟨w.heap.size,0,none⟩ (.slice a (cutS 46 s).length cap)).setCell ⟨w.heap.size+1,0,none⟩ (.bool true)).heap[D]? = some (.deferred (some [])):=zaa (zaa hK (by omega)) (by omega)
  have x1:=zaa (b:=w.heap.size+1) (i:=0) (u:=.bool true) (heap_setCell_same W w.heap.size 0 _ _ (.slice a (cutS 46 s).length cap) Hh.out.r2) (by omega)
  have x2:=heap_setCell_same _ (w.heap.size+1) 0 _ _ (.bool true) (zaa (b:=w.heap.size) (i:=0) (u:=.slice a (cutS 46 s).length cap) Hh.out.r3 (by omega))
  have hb9:Below w.heap.size w ((W.setCell ⟨w.heap.size,0,none⟩ (.slice a (cutS 46 s).length cap)).setCell ⟨w.heap.size+1,0,none⟩ (.bool true)):=(Hh.out.bel.setCell (p:=⟨w.heap.size,0,none⟩) (Nat.le_refl _) _).setCell (p:=⟨w.heap.size+1,0,none⟩) (by show w.heap.size≤w.heap.size+1;omega) _
  have ho:((W.setCell ⟨w.heap.size,0,none⟩ (.slice a (cutS 46 s).length cap)).setCell ⟨w.heap.size+1,0,none⟩ (.bool true)).ownsRow (w.heap.size+6) 241 3 (.slice a (cutS 46 s).length cap) (cutL 46 s.data.toList).length (zas (cutL 46 s.data.toList)):=by
   have hlen:=zax 46 s
   rw[← hlen,← zdi]
   have:=zcu (zcu Hrow.out (p:=w.heap.size) (by omega) 0 (.slice a (cutS 46 s).length cap)) (p:=w.heap.size+1) (by omega) 0 (.bool true)
   exact this
  refine⟨by simp,.inl ⟨_,_,rfl,run_takeDeferred hK2,?_⟩⟩
  refine⟨_,zb0 rfl rfl rfl ((World.putObj_heap_other (by omega)).trans x1) ((World.putObj_heap_other (by omega)).trans x2) (Tryz.isAgg224 _) (Tryz.isAgg4 _),?_⟩
  refine⟨_,by rw[Hm.out],fun _=>zc6 (ownsRow_putObj ho _ hK2 rfl) (by omega),fun h=>(by rw[Hm.out] at h;cases h),hb9.trans (belowK_b (w:=w) (Nat.le_refl _) _ D _ _ (by omega) hK2 rfl rfl)⟩
 case stop =>
  rintro D pre W hD hpre ⟨hsz,h⟩ hK
  have hm:=may_no hpre h.bad
  have Hm:=hd hm;clear hm
  gi_wp2
  refine⟨by simp,.inl ⟨_,_,rfl,run_takeDeferred hK,?_⟩⟩
  refine⟨_,zb0 rfl rfl rfl ((World.putObj_heap_other (by omega)).trans h.r2) ((World.putObj_heap_other (by omega)).trans h.r3) (Tryz.isAgg224 _) (Tryz.isAgg4 _),?_⟩
  refine⟨_,by rw[Hm.out],fun h=>(by rw[Hm.out] at h;cases h),fun _=>rfl,h.bel.trans (belowK_b (w:=w) (Nat.le_refl _) _ D _ _ (by omega) hK rfl rfl)⟩
end

section
open Go.RowKit Go.Lib VerN
theorem ze1 {fn:Func} {p:Tmp} (hres:fn.results=#[.cell p 241]) {R:Ending→World→Prop} {a:Act} {w:World} {g:Nat} {x y z:Value} (hp:a.tmps.getD p undef = .pointer (some ⟨g,0,none⟩))
  (hg:w.heap[g]? = some (.cells #[x,y,z] 241 (0,0))) (hd:a.defers = []) (hR:R (.returned (.agg #[x,y,z])) w):bodyPost Tryz.prog fn R .ret a w :=
 bodyPost_ret (results_cell_row hres a.tmps w g _ _ _ _ hp hg Tryz.underlying241 rfl (by kernel_rfl)) hd hR
theorem zcb:∀ (ps:List (List UInt8)) (i j:Nat) (h:i < ps.length),j < 3→(zas ps)[i * 3+j]? = (zc0 ps[i])[j]?
 | p :: r,0,j,_,hj=>by
  simp only[zas,List.flatMap_cons,Nat.zero_mul,Nat.zero_add,List.getElem_cons_zero]
  rw[List.getElem?_append_left (by simpa [zc0] using hj)]
 | p :: r,i+1,j,h,hj=>by
  have:=zcb r i j (by simpa using h) hj
  simp only[zas,List.flatMap_cons,List.getElem_cons_succ] at this ⊢
  rw[List.getElem?_append_right (by simp[zc0];omega),← this]
  congr 1
  simp[zc0]
  omega
theorem zl2 {w:World} {B:Nat} {v:Value} {n:Nat} {ps:List (List UInt8)} (h:w.ownsRow B 241 3 v n (zas ps)) (hn:n=ps.length) (i:Nat) (hi:i < ps.length) :
  ∃ g cap,v = .slice (some ⟨g,0,none⟩) n cap∧n≤cap∧w.cell? ⟨g,i * 3,none⟩=some (.int .i64 (zbb ps[i]))∧w.cell? ⟨g,i * 3+1,none⟩=some (.int .i64 (zc1 ps[i]))∧w.cell? ⟨g,i * 3+2,none⟩=some (.string ⟨(zbp ps[i]).toArray⟩):=by
 obtain⟨g,cap,rfl,_,_,h1,_,h2⟩:=zco h (by omega)
 exact⟨g,cap,rfl,h1,h2 _ _ (zcb ps i 0 hi (by omega)),h2 _ _ (zcb ps i 1 hi (by omega)),h2 _ _ (zcb ps i 2 hi (by omega))⟩
theorem at_any {w:World} {B:Nat} {v:Value} {ps:List (List UInt8)} (h:w.ownsRow B 241 3 v ps.length (zas ps)) (h8:ps.length≤8) (i:Nat) (hi8:i < 8) :
  Calls Tryz.prog 197 #[v,.int .i64 i] w fun e w'=>e = .returned (.agg #[.int .i64 (zbb (ps.getD i [])),.int .i64 (zc1 (ps.getD i [])),.string ⟨(zbp (ps.getD i [])).toArray⟩])∧Below w.heap.size w w':=by
 have hb1:Below w.heap.size w (w.alloc (.cells #[.int .i64 0,.int .i64 0,.string ⟨#[]⟩] 241)):=za2 _ _
 have hr1:(w.alloc (.cells #[.int .i64 0,.int .i64 0,.string ⟨#[]⟩] 241)).heap[w.heap.size]? = some (.cells #[.int .i64 0,.int .i64 0,.string ⟨#[]⟩] 241 (0,0)):=zac rfl
 by_cases hi:i < ps.length
 ·obtain⟨g,cap,rfl,hcap,c0,c1,c2⟩:=zl2 h rfl i hi
  rw[ze8 hi]
  have d0:=cell_later hb1 c0
  have d1:=cell_later hb1 c1
  have d2:=cell_later hb1 c2
  obtain⟨n,hn⟩ : ∃ n,n=ps.length:=⟨_,rfl⟩
  obtain⟨x,hx⟩ : ∃ x,x=zbb ps[i]:=⟨_,rfl⟩
  obtain⟨y,hy⟩ : ∃ y,y=zc1 ps[i]:=⟨_,rfl⟩
  obtain⟨z,hz⟩ : ∃ z,z=(⟨(zbp ps[i]).toArray⟩ : ByteArray):=⟨_,rfl⟩
  rw[← hx] at c0 d0 ⊢
  rw[← hy] at c1 d1 ⊢
  rw[← hz] at c2 d2 ⊢
  rw[← hn] at h h8 hi hcap ⊢
  have k1:(i:Int) < (n:Int):=by omega
  have k2:decide ((i:Int) < (n:Int))=true:=decide_eq_true k1
  obtain⟨Hh,Hn,Hx,Hy,Hz,Hb1,Hr1⟩:=hd7 h hn hx hy hz hb1 hr1;clear h hn hx hy hz hb1 hr1
  clear c0 c1 c2
  go_enter Tryz.func197,Tryz.ntmps197
  go_wp2_with fail
  exact ze1 rfl rfl (zac rfl) rfl ⟨by rw[Hx.out,Hy.out,Hz.out],za2 _ _⟩
 obtain⟨a,cap,rfl⟩:=zad h
 rw[ze9 (by omega)]
 obtain⟨n,hn⟩ : ∃ n,n=ps.length:=⟨_,rfl⟩
 rw[← hn] at h h8 hi ⊢
 have k1:decide ((i:Int) < (n:Int))=false:=decide_eq_false (by omega)
 obtain⟨Hh,Hn,Hb1,Hr1⟩:=hd4 h hn hb1 hr1;clear h hn hb1 hr1
 go_enter Tryz.func197,Tryz.ntmps197
 go_wp2_with fail
 exact ze1 rfl rfl (zac rfl) rfl ⟨rfl,za2 _ _⟩
end

section
open Go.Shelf Go.RowKit Go.Lib Go.Sort VerN
theorem or3 (r a b c:Int) (h:(if a≠0 then a else if b≠0 then b else c)=r):orOf [a,b,c]=r:=by
 rw[← h]
 unfold orOf orOf orOf orOf
 split
 ·rfl
 split
 ·rfl
 split
 ·rfl
 rename_i h;simpa using Eq.symm (by simpa using h)
theorem or3_any (c1 c2 c3 r:Int) (hO:orOf [c1,c2,c3]=r) (W:World):Calls Tryz.prog 198 #[.slice (some ⟨W.heap.size,0,none⟩) 3 3] (W.alloc (.cells #[.int .i64 c1,.int .i64 c2,.int .i64 c3] 3)).drew fun e w'=>e = .returned (.int .i64 r)∧(W.alloc (.cells #[.int .i64 c1,.int .i64 c2,.int .i64 c3] 3)).drew=w':=by
 rw[← hO]
 exact or_any W.heap.size 0 3 [c1,c2,c3] _ (by simp) (by
  intro i x hx
  show (W.alloc (.cells #[.int .i64 c1,.int .i64 c2,.int .i64 c3] 3)).cell? ⟨W.heap.size,0+i,none⟩=_
  rw[Nat.zero_add,World.cell?_alloc_new]
  match i,hx with
  | 0,hx=>simpa using hx
  | 1,hx=>simpa using hx
  | 2,hx=>simpa using hx)
theorem zdz (a b:ByteArray) (ha:a.size≤1000000) (hb:b.size≤1000000) {w:World} (hD:zbf w) :
  Calls Tryz.prog 164 #[.string a,.string b] w fun e w'=>e = .returned (.int .i64 (zao a.data.toList b.data.toList))∧Below w.heap.size w w':=by
 obtain⟨r,hr⟩ : ∃ r,r=zao a.data.toList b.data.toList:=⟨_,rfl⟩
 have hP:=zfr a ha hD
 have hQ:=fun (W:World) (h:Below w.heap.size w W)=>zfr b hb (hD.below h)
 obtain⟨ps,hps⟩ : ∃ x,x=cutL 46 a.data.toList:=⟨_,rfl⟩
 obtain⟨qs,hqs⟩ : ∃ x,x=cutL 46 b.data.toList:=⟨_,rfl⟩
 obtain⟨p,hp⟩ : ∃ x,x=mayL a.data.toList:=⟨_,rfl⟩
 obtain⟨q,hq⟩ : ∃ x,x=mayL b.data.toList:=⟨_,rfl⟩
 have hcmp:r=if p=false∧q=false then 0 else if p=false then -1 else if q=false then 1 else zb5 ps qs 0 (max ps.length qs.length):=by rw[hr,hp,hq,hps,hqs];rfl
 have hp8:p=true→ps.length≤8:=fun h=>by rw[hps];exact ((zbi _).1 (by rw[← hp];exact h)).2.2.2
 have hq8:q=true→qs.length≤8:=fun h=>by rw[hqs];exact ((zbi _).1 (by rw[← hq];exact h)).2.2.2
 rw[← hr]
 unfold zfs at hP hQ
 rw[← hps,← hp] at hP
 rw[← hqs,← hq] at hQ
 obtain⟨Hr,HP,HQ,Hps,Hqs,Hp,Hq,Hcmp,Hp8,Hq8,HD⟩:=hd11 hr hP hQ hps hqs hp hq hcmp hp8 hq8 hD;clear hr hP hQ hps hqs hp hq hcmp hp8 hq8 hD
 go_enter Tryz.func164,Tryz.ntmps164
 go_wp2_with fail
 refine HP.out.mono ?_
 rintro e w1 ⟨v1,rfl,hv1,hn1,hb1⟩
 have hQ1:=HQ.out w1 hb1
 obtain⟨Hv1,Hn1,Hb1,HQ1⟩:=hd4 hv1 hn1 hb1 hQ1;clear hv1 hn1 hb1 hQ1
 go_wp2_with fail
 refine HQ1.out.mono ?_
 rintro e w2 ⟨v2,rfl,hv2,hn2,hb2⟩
 have hb:=Hb1.out.trans (hb2.mono Hb1.out.size)
 obtain⟨Hv2,Hn2,Hb2,Hb⟩:=hd4 hv2 hn2 hb2 hb;clear hv2 hn2 hb2 hb
 cases p with
 | false =>
  cases q with
  | false =>
   have h0:r=0:=by rw[Hcmp.out];rfl
   have H0:=hd h0;clear h0
   go_wp2_with fail
   go_ret
   exact⟨zd3 H0.out.symm,Hb.out⟩
  | true =>
   have h0:r = -1:=by rw[Hcmp.out];rfl
   have H0:=hd h0;clear h0
   go_wp2_with fail
   go_ret
   exact⟨zd3 H0.out.symm,Hb.out⟩
 | true =>
  cases q with
  | false =>
   have h0:r=1:=by rw[Hcmp.out];rfl
   have H0:=hd h0;clear h0
   go_wp2_with fail
   go_ret
   exact⟨zd3 H0.out.symm,Hb.out⟩
  | true =>
   have h8:=Hp8.out rfl
   have h9:=Hq8.out rfl
   have o1:=za7 (Hv1.out rfl) Hb2.out
   have o2:=Hv2.out rfl
   obtain⟨a1,cap1,rfl⟩:=zad o1
   obtain⟨a2,cap2,rfl⟩:=zad o2
   have h0:r=zb5 ps qs 0 (max ps.length qs.length):=by rw[Hcmp.out];rfl
   obtain⟨m,hm⟩ : ∃ m,m=ps.length:=⟨_,rfl⟩
   obtain⟨n,hn⟩ : ∃ n,n=qs.length:=⟨_,rfl⟩
   rw[← hm] at h8 o1 h0 ⊢
   rw[← hn] at h9 o2 h0 ⊢
   obtain⟨N,hN⟩ : ∃ N,N=max m n:=⟨_,rfl⟩
   rw[← hN] at h0
   have hN8:N≤8:=by omega
   have hNi:max (m:Int) (n:Int)=(N:Int):=by omega
   obtain⟨H0,Ho1,Ho2,Hm,Hn⟩:=hd5 h0 o1 o2 hm hn;clear h0 o1 o2 hm hn
   clear Hv1 Hv2 Hn1 Hn2 Hcmp Hp8 Hq8 HP HQ HQ1
   go_wp2_with fail
   go_loopw [41] (fun i wr=>∃ k:Nat,k≤N∧i = .int .i64 k∧r=zb5 ps qs k (N - k)∧Below w2.heap.size w2 wr) (fun i _=>N - (RowKit.intOf i).toNat)
   case atStart=>exact⟨0,Nat.zero_le _,rfl,H0.out,Below.refl _ _⟩
   case round =>
    obtain⟨k,hk,rfl,hrk,hbk⟩:=hrel
    by_cases hlt:k < N
    ·have p1:=za7 Ho1.out hbk
     have p2:=za7 Ho2.out hbk
     have em:=Hm.out
     have en:=Hn.out
     rw[em] at p1
     rw[en] at p2
     have hA:=at_any p1 (by omega) k (by omega)
     have hB:=fun (W:World) (h:Below wr.heap.size wr W)=>at_any (za7 p2 h) (by omega) k (by omega)
     rw[← em] at hA
     rw[← en] at hB
     obtain⟨x,hx⟩ : ∃ x,x=ps.getD k []:=⟨_,rfl⟩
     obtain⟨y,hy⟩ : ∃ x,x=qs.getD k []:=⟨_,rfl⟩
     rw[← hx] at hA
     rw[← hy] at hB
     have hr2:r=if pcmp x y≠0 then pcmp x y else zb5 ps qs (k+1) (N - (k+1)):=by
      rw[hrk,show N - k=(N - (k+1))+1 by omega,hx,hy];rfl
     obtain⟨c,hc⟩ : ∃ c,c=pcmp x y:=⟨_,rfl⟩
     rw[← hc] at hr2
     obtain⟨r1,hr1⟩ : ∃ v,v=zbb x:=⟨_,rfl⟩
     obtain⟨m1,hm1⟩ : ∃ v,v=zc1 x:=⟨_,rfl⟩
     obtain⟨t1,ht1⟩ : ∃ v,v=(⟨(zbp x).toArray⟩ : ByteArray):=⟨_,rfl⟩
     obtain⟨r2,hrr2⟩ : ∃ v,v=zbb y:=⟨_,rfl⟩
     obtain⟨m2,hm2⟩ : ∃ v,v=zc1 y:=⟨_,rfl⟩
     obtain⟨t2,ht2⟩ : ∃ v,v=(⟨(zbp y).toArray⟩ : ByteArray):=⟨_,rfl⟩
     rw[← hr1,← hm1,← ht1] at hA
     rw[← hrr2,← hm2,← ht2] at hB
     obtain⟨c1,hc1⟩ : ∃ v,v=zbn r1 r2:=⟨_,rfl⟩
     obtain⟨c2,hc2⟩ : ∃ v,v=zbn m1 m2:=⟨_,rfl⟩
     obtain⟨c3,hc3⟩ : ∃ v,v=cmpW t1.data.toList t2.data.toList:=⟨_,rfl⟩
     have hC1:=fun W=>zg5 r1 r2 W
     have hC2:=fun W=>zg5 m1 m2 W
     have hC3:=fun W=>zib t1 t2 W
     rw[← hc1] at hC1
     rw[← hc2] at hC2
     rw[← hc3] at hC3
     have hF:=or3_any c1 c2 c3 c (or3 c c1 c2 c3 (by rw[hc,hc1,hc2,hc3,hr1,hrr2,hm1,hm2,ht1,ht2];rfl))
     clear hr1 hrr2 hm1 hm2 ht1 ht2 hc1 hc2 hc3 hc em en
     obtain⟨Hp1,Hp2,HA,HB,Hx,Hy,Hrk,Hr2,HC1,HC2,HC3,HF,Hbk⟩:=hd13 p1 p2 hA hB hx hy hrk hr2 hC1 hC2 hC3 hF hbk;clear p1 p2 hA hB hx hy hrk hr2 hC1 hC2 hC3 hF hbk
     go_wp2_with fail
     refine HA.out.mono ?_
     rintro e w3 ⟨rfl,hb3⟩
     have hB3:=HB.out w3 hb3
     obtain⟨HB3,Hb3⟩:=hd2 hB3 hb3;clear hB3 hb3
     clear HB
     go_wp2_with fail
     refine HB3.out.mono ?_
     rintro e w4 ⟨rfl,hb4⟩
     have hb5:=Hbk.out.trans ((Hb3.out.trans (hb4.mono Hb3.out.size)).mono Hbk.out.size)
     obtain⟨Hb4,Hb5⟩:=hd2 hb4 hb5;clear hb4 hb5
     obtain⟨A,hA⟩ : ∃ A,A=Obj.cells #[.int .i64 r1,.int .i64 m1,.string t1] 241:=⟨_,rfl⟩
     obtain⟨B,hB⟩ : ∃ A,A=Obj.cells #[.int .i64 r2,.int .i64 m2,.string t2] 241:=⟨_,rfl⟩
     obtain⟨pa,hpa⟩ : ∃ n,n=w4.heap.size:=⟨_,rfl⟩
     obtain⟨pb,hpb⟩ : ∃ n,n=w4.heap.size+1:=⟨_,rfl⟩
     obtain⟨W0,hW0⟩ : ∃ W,W=(w4.alloc A).alloc B:=⟨_,rfl⟩
     have hX:W0.heap[pa]? = some (.cells #[.int .i64 r1,.int .i64 m1,.string t1] 241 (0,0)):=by
      rw[hW0,hpa];exact za1 (za2 _ _) (by rw[hA];exact heap_alloc_new _ _)
     have hY:W0.heap[pb]? = some (.cells #[.int .i64 r2,.int .i64 m2,.string t2] 241 (0,0)):=by
      rw[hW0,hpb,hB,show w4.heap.size+1=(w4.alloc A).heap.size by simp];exact heap_alloc_new _ _
     have hbW:Below w2.heap.size w2 W0:=by
      rw[hW0]
      exact (Hb5.out.alloc Hb5.out.size _).alloc (by have:=Hb5.out.size;simp;omega) _
     obtain⟨x0,x1,x2,_,_,_⟩:=zb6 hX
     obtain⟨y0,y1,y2,_,_,_⟩:=zb6 hY
     obtain⟨HA,HB,Hpa,Hpb,HW0,HX,HY,HbW⟩:=hd8 hA hB hpa hpb hW0 hX hY hbW;clear hA hB hpa hpb hW0 hX hY hbW
     go_upto_region 13 with fail
     rw[← HA.out,← HB.out,← HW0.out,← Hpb.out,← Hpa.out]
     have hS:W0.cell? ⟨pa,0,none⟩=some (.int .i64 r1)∧W0.cell? ⟨pa,1,none⟩=some (.int .i64 m1)∧W0.cell? ⟨pa,2,none⟩=some (.string t1)∧W0.cell? ⟨pb,0,none⟩=some (.int .i64 r2)∧W0.cell? ⟨pb,1,none⟩=some (.int .i64 m2)∧W0.cell? ⟨pb,2,none⟩=some (.string t2):=⟨x0,x1,x2,y0,y1,y2⟩
     have hS1:∀ o,(W0.drew.alloc o).cell? ⟨pa,0,none⟩=some (.int .i64 r1)∧(W0.drew.alloc o).cell? ⟨pa,1,none⟩=some (.int .i64 m1)∧(W0.drew.alloc o).cell? ⟨pa,2,none⟩=some (.string t1)∧(W0.drew.alloc o).cell? ⟨pb,0,none⟩=some (.int .i64 r2)∧(W0.drew.alloc o).cell? ⟨pb,1,none⟩=some (.int .i64 m2)∧(W0.drew.alloc o).cell? ⟨pb,2,none⟩=some (.string t2):=fun o =>
      ⟨cell_later (za2 W0.drew o) x0,cell_later (za2 W0.drew o) x1,cell_later (za2 W0.drew o) x2,cell_later (za2 W0.drew o) y0,cell_later (za2 W0.drew o) y1,cell_later (za2 W0.drew o) y2⟩
     have hbW2:∀ o,Below w2.heap.size w2 (W0.alloc o).drew:=fun o=>(HbW.out.alloc HbW.out.size o).drew
     obtain⟨HS,HS1,HbW2⟩:=hd3 hS hS1 hbW2;clear hS hS1 hbW2
     clear HA HB HW0 Hpa Hpb HX HY
     go_region_held3 (fun w'=>w'.cell? ⟨pa,0,none⟩=some (.int .i64 r1)∧w'.cell? ⟨pa,1,none⟩=some (.int .i64 m1)∧w'.cell? ⟨pa,2,none⟩=some (.string t1)∧w'.cell? ⟨pb,0,none⟩=some (.int .i64 r2)∧w'.cell? ⟨pb,1,none⟩=some (.int .i64 m2)∧w'.cell? ⟨pb,2,none⟩=some (.string t2)) (first | exact HS.out | exact HS1.out _) (first
      | (go_at_call_of 199 (Value.int .i64 r1);refine (HC1.out _).mono ?_;rintro e w5 ⟨rfl,rfl⟩)
      | (go_at_call_of 199 (Value.int .i64 m1);refine (HC2.out _).mono ?_;rintro e w5 ⟨rfl,rfl⟩)
      | (go_at_call_of 200 (Value.string t1);refine (HC3.out _).mono ?_;rintro e w5 ⟨rfl,rfl⟩)
      | (go_at_call 198;refine (HF.out W0).mono ?_;rintro e w5 ⟨rfl,rfl⟩))
     all_goals
      have hbz:=HbW2.out (.cells #[.int .i64 c1,.int .i64 c2,.int .i64 c3] 3)
      generalize (W0.alloc (.cells #[.int .i64 c1,.int .i64 c2,.int .i64 c3] 3)).drew=W9 at hbz ⊢
      by_cases hc0:c=0
      ·have e1:(c != 0)=false:=by rw[hc0];rfl
       have hn_:r=zb5 ps qs (k+1) (N - (k+1)):=by rw[Hr2.out,if_neg (by rw[hc0];simp)]
       obtain⟨Hbz,Hc0,Hn_⟩:=hd3 hbz hc0 hn_;clear hbz hc0 hn_
       go_wp2_with fail
       go_roundw
       case rel=>exact⟨k+1,by omega,by go_num,Hn_.out,Hbz.out⟩
       case measure=>simp[RowKit.intOf];omega
      have e1:(c != 0)=true:=by simpa using hc0
      have hn_:r=c:=by rw[Hr2.out,if_pos hc0]
      have hb9:=Hb.out.trans (hbz.mono Hb.out.size)
      obtain⟨Hbz,Hc0,Hn_,Hb9⟩:=hd4 hbz hc0 hn_ hb9;clear hbz hc0 hn_ hb9
      go_wp2_with fail
      go_ret
      exact⟨zd3 Hn_.out.symm,Hb9.out⟩
    obtain rfl:k=N:=by omega
    have hfin:r=0:=by rw[hrk,Nat.sub_self];rfl
    have hb9:=Hb.out.trans (hbk.mono Hb.out.size)
    obtain⟨Hrk,Hbk,Hfin,Hb9⟩:=hd4 hrk hbk hfin hb9;clear hrk hbk hfin hb9
    go_wp2_with fail
    go_ret
    exact⟨zd3 Hfin.out.symm,Hb9.out⟩
end

section
open Go.RowKit Go.Lib
abbrev RTs:Rd (List ByteArray):=zg7 1 RStr
theorem txts_open {w:World} {v:Value} {l:List ByteArray} (h:RTs w [v] l):∃ a cap,v = .slice a l.length cap∧l.length≤9223372036854775807∧∀ i (hi:i < l.length),∃ b off,a=some ⟨b,off,none⟩∧w.cell? ⟨b,off+i,none⟩=some (.string l[i])∧l[i].size≤maxLen:=by
 obtain⟨a,cap,hv,hcap,hmax,hel⟩:=h
 simp only[List.cons.injEq,and_true] at hv
 unfold maxLen at hmax
 refine⟨a,cap,hv,by omega,fun i hi=>?_⟩
 obtain⟨b,off,ecs,h1,h2,h3,h4,h5⟩:=hel i l[i] (List.getElem?_eq_getElem hi)
 subst h4
 exact⟨b,off,h1,by simpa using h3 0 _ rfl,h5⟩
theorem own_texts {w:World} {B:Nat} {v:Value} {n:Nat} {l:List ByteArray} (h:w.ownsRow B 9 1 v n (l.map Value.string)) (hs:∀ x∈l,x.size≤maxLen):RTs w [v] l:=by
 obtain rfl:n=l.length:=by have:=h.1;simp at this;omega
 refine zgx (by simp) h fun i u x hu hx=>?_
 rw[List.getElem?_map,hx] at hu
 cases hu
 exact⟨rfl,hs x (List.mem_of_getElem? hx)⟩
end
end Go.Proofs.YteailgjiifdgcaaGreatDoor
