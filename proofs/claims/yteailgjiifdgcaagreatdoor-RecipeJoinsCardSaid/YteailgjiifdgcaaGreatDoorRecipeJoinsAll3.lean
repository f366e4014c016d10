/- Walks and plain facts. Texts merged: VerN, VerO, VerC, VerP, VerQ, VerT, SpnM, SortM, SpsM, Row, RefV, RefW, CmpI, CmpS, RefX, RefC, RefM, RefLs, VerR, ItOwn, Split, ResTwo, Parts, VerAt, VerCmp, Txs. Condition: none beyond what each says. -/
import Derived.Lib.AtoiAll
import Derived.Lib.AtoiAllCases
import Derived.Lib.ItoaNum
import Derived.Lib.SplitLaws
import Derived.Lib.IndexBytes
import Derived.Lib.Split
import Derived.Test.YteailgjiifdgcaaGreatDoorRows
import Derived.Sort.Walk0
import Derived.Laws.Rows
import Derived.Laws.ResultCell
import Derived.RangeFuncNested
import Derived.RangeFuncBox
import Derived.RangeFuncCalls
import Derived.RangeFuncLeaves
import Derived.Shelf.Abstract
import Derived.OwnWalkIn
import Derived.TacticsInMore
import Derived.LoopNIn
import Derived.LoopIn
import Derived.Deep.RegionHeld3
import Derived.Deep.CutRange
import Derived.Test.YteailgjiifdgcaaGreatDoorRecipeJoinsAll2
set_option linter.unusedVariables false
set_option linter.unusedSimpArgs false
set_option maxRecDepth 10000
set_option maxHeartbeats 4000000
namespace Go.Proofs.YteailgjiifdgcaaGreatDoor
namespace VerN
open Go.Lib
def zjc (c:UInt8):Bool:=decide (48≤c.toNat) && decide (c.toNat≤57)
def zmt (c:UInt8):Bool:=decide (97≤c.toNat) && decide (c.toNat≤122)
theorem zek (c:UInt8):zjc c=true↔48≤c.toNat∧c.toNat≤57:=by unfold zjc;simp
theorem zhb (c:UInt8):zmt c=true↔97≤c.toNat∧c.toNat≤122:=by unfold zmt;simp
def zbq (acc:Nat) (l:List UInt8):Nat:=l.foldl (fun a c=>a * 10+(c.toNat - 48)) acc
theorem zk6:∀ (l:List UInt8) (acc:Nat),acc≤zbq acc l
 | [],_=>Nat.le_refl _
 | c :: r,acc=>by have:=zk6 r (acc * 10+(c.toNat - 48));unfold zbq at *;simp only[List.foldl_cons];omega
theorem zpn:∀ (l:List UInt8) (acc:Nat),l.all zjc=true→zbq acc l < 9223372036854775808→parseUint10 acc l = .ok (zbq acc l)
 | [],_,_,_=>rfl
 | c :: r,acc,h,hv=>by
  simp only[List.all_cons,Bool.and_eq_true] at h
  have hc:=(zek c).1 h.1
  have hv':zbq (acc * 10+(c.toNat - 48)) r < 9223372036854775808:=hv
  have hge:=zk6 r (acc * 10+(c.toNat - 48))
  unfold parseUint10
  rw[if_pos hc,if_neg (by omega),if_neg (by omega),zpn r _ h.2 hv']
  rfl
theorem zfq (l:List UInt8) (c:UInt8) (acc:Nat):zbq acc (l ++ [c])=zbq acc l * 10+(c.toNat - 48):=by unfold zbq;rw[List.foldl_append];rfl
def lead (l:List UInt8):Bool:=decide (l = [48]) || decide (l.head?≠some 48)
theorem zmi {c:UInt8} (h:zjc c=true):UInt8.ofNat (48+(c.toNat - 48))=c:=by
 have:=(zek c).1 h
 rw[show 48+(c.toNat - 48)=c.toNat by omega]
 exact UInt8.ofNat_toNat
theorem snocInd {α:Type} {P:List α→Prop} (h0:P []) (h1:∀ l c,P l→P (l ++ [c])) (l:List α):P l:=by
 have key:∀ r:List α,P r.reverse:=by
  intro r
  induction r with
  | nil=>exact h0
  | cons c r ih=>rw[List.reverse_cons];exact h1 _ _ ih
 have:=key l.reverse
 rwa [List.reverse_reverse] at this
theorem zhi:∀ (l:List UInt8),l≠[]→l.all zjc=true→l.head?≠some 48→10 ^ (l.length - 1)≤zbq 0 l∧zbq 0 l < 10 ^ l.length:=by
 intro l
 induction l using snocInd with
 | h0=>intro h;exact absurd rfl h
 | h1 l c ih =>
  intro _ hd hh
  simp only[List.all_append,List.all_cons,List.all_nil,Bool.and_true,Bool.and_eq_true] at hd
  have hc:=(zek c).1 hd.2
  rw[zfq]
  by_cases hl:l = []
  ·subst hl
   have:c.toNat≠48:=fun e=>hh (by
    have:c=48:=UInt8.toNat_inj.1 e
    simp[this])
   simp[zbq];omega
  have hh':l.head?≠some 48:=by
   match l,hl with
   | a :: r,_=>simpa using hh
  have:=ih hl hd.1 hh'
  have hp:0 < l.length:=List.length_pos_iff.2 hl
  obtain⟨k,hk⟩ : ∃ k,l.length=k+1:=⟨l.length - 1,by omega⟩
  rw[List.length_append,List.length_singleton]
  rw[hk] at this ⊢
  simp only[Nat.add_sub_cancel] at this ⊢
  rw[Nat.pow_succ,Nat.pow_succ]
  rw[Nat.pow_succ] at this
  omega
theorem dec_val:∀ (l:List UInt8),l≠[]→l.all zjc=true→lead l=true→decDigits (zbq 0 l)=l:=by
 intro l
 induction l using snocInd with
 | h0=>intro h;exact absurd rfl h
 | h1 l c ih =>
  intro _ hd hh
  simp only[List.all_append,List.all_cons,List.all_nil,Bool.and_true,Bool.and_eq_true] at hd
  have hc:=(zek c).1 hd.2
  rw[zfq]
  by_cases hl:l = []
  ·subst hl
   rw[show zbq 0 []=0 from rfl,Nat.zero_mul,Nat.zero_add,decDigits,dif_pos (by omega),zmi hd.2]
   rfl
  have hh':l.head?≠some 48:=by
   match l,hl with
   | a :: r,_ =>
    unfold lead at hh
    simp only[Bool.or_eq_true,decide_eq_true_eq] at hh
    rcases hh with hh | hh
    ·simp at hh
    simpa using hh
  have hb:=zhi l hl hd.1 hh'
  have h1:1≤zbq 0 l:=Nat.le_trans (Nat.pos_of_ne_zero (by simp)) hb.1
  rw[decDigits,dif_neg (by omega),show (zbq 0 l * 10+(c.toNat - 48)) / 10=zbq 0 l by omega,show (zbq 0 l * 10+(c.toNat - 48)) % 10=c.toNat - 48 by omega,zmi hd.2,ih hl hd.1 (by unfold lead;simp only[Bool.or_eq_true,decide_eq_true_eq];exact .inr hh')]
theorem dec_dig:∀ u:Nat,(decDigits u).all zjc=true∧decDigits u≠[]∧lead (decDigits u)=true∧zbq 0 (decDigits u)=u:=by
 intro u
 induction u using Nat.strongRecOn with
 | _ u ih =>
  rw[decDigits]
  have dg:∀ d,d < 10→(UInt8.ofNat (48+d)).toNat=48+d:=fun d hd=>by rw[UInt8.toNat_ofNat'];omega
  split
  ·rename_i h
   have e:=dg u h
   refine⟨?_,by simp,?_,?_⟩
   ·simp only[List.all_cons,List.all_nil,Bool.and_true]
    rw[zek,e];omega
   ·unfold lead
    simp only[List.head?_cons,Bool.or_eq_true,decide_eq_true_eq]
    by_cases h0:u=0
    ·left;subst h0;rfl
    right
    refine decide_eq_true fun e2=>?_
    injection e2 with e2
    rw[e2] at e
    have:(48:UInt8).toNat=48:=rfl
    omega
   show 0 * 10+((UInt8.ofNat (48+u)).toNat - 48)=u
   rw[e];omega
  rename_i h
  have hi:=ih (u / 10) (by omega)
  have e:=dg (u % 10) (by omega)
  refine⟨?_,by simp,?_,?_⟩
  ·rw[List.all_append,hi.1,Bool.true_and]
   simp only[List.all_cons,List.all_nil,Bool.and_true]
   rw[zek,e];omega
  ·have hl:=hi.2.2.1
   unfold lead at hl ⊢
   simp only[Bool.or_eq_true,decide_eq_true_eq] at hl ⊢
   right
   rcases hl with hl | hl
   ·exfalso
    have:=hi.2.2.2
    rw[hl] at this
    have h0:zbq 0 [48]=0:=rfl
    omega
   match hm:decDigits (u / 10),hi.2.1,hl with
   | a :: r,_,hl=>simpa using hl
  rw[zfq,hi.2.2.2,e];omega
def zmc (l:List UInt8):Bool:=match atoiAll l with
 | .ok v=>decide (0≤v) && decide (v≤999999999) && decide (itoa v=l)
 | _=>l.all zmt && !l.isEmpty
def zgz (l:List UInt8):Bool:=!l.isEmpty && l.all zjc && decide (l.length≤9) && lead l
def zdk (l:List UInt8):Bool:=!l.isEmpty && l.all zmt
theorem val_le {l:List UInt8} (h:zgz l=true):zbq 0 l≤999999999:=by
 unfold zgz at h
 simp only[Bool.and_eq_true,Bool.not_eq_true',decide_eq_true_eq] at h
 obtain⟨⟨⟨h1,h2⟩,h3⟩,h4⟩:=h
 have hne:l≠[]:=fun e=>by subst e;simp at h1
 unfold lead at h4
 simp only[Bool.or_eq_true,decide_eq_true_eq] at h4
 rcases h4 with h4 | h4
 ·subst h4;decide
 have hb:=(zhi l hne h2 h4).2
 have:10 ^ l.length≤10 ^ 9:=Nat.pow_le_pow_right (by decide) h3
 omega
theorem zq4 {l:List UInt8} (h:zgz l=true):atoiAll l = .ok (zbq 0 l:Nat):=by
 have hv:=val_le h
 unfold zgz at h
 simp only[Bool.and_eq_true,Bool.not_eq_true',decide_eq_true_eq] at h
 obtain⟨⟨⟨h1,h2⟩,h3⟩,h4⟩:=h
 match l,h1,h2,hv with
 | c :: r,_,h2,hv =>
  have hc:=(zek c).1 (by simp only[List.all_cons,Bool.and_eq_true] at h2;exact h2.1)
  rw[atoiAll_plain c r (by omega) (by omega)]
  have hp:parseMag (c :: r) = .ok (zbq 0 (c :: r)):=by unfold parseMag;rw[if_neg (by simp)];exact zpn _ _ h2 (by omega)
  rw[hp]
  unfold signless
  simp only
  rw[if_neg (by omega)]
theorem zlb (u:Nat):itoa (u:Int)=decDigits u:=by unfold itoa;rw[if_neg (by omega)];simp
theorem read_is (l:List UInt8):zmc l=(zdk l || zgz l):=by
 by_cases hd:zgz l=true
 ·rw[hd,Bool.or_true]
  unfold zmc
  rw[zq4 hd]
  have hv:=val_le hd
  have hd':=hd
  unfold zgz at hd'
  simp only[Bool.and_eq_true,Bool.not_eq_true',decide_eq_true_eq] at hd'
  have hne:l≠[]:=fun e=>by subst e;simp at hd'
  have e:=dec_val l hne hd'.1.1.2 hd'.2
  simp only
  rw[zlb,e,decide_eq_true (by omega),decide_eq_true (by omega),decide_eq_true rfl]
  rfl
 rw[Bool.eq_false_iff.2 hd,Bool.or_false]
 unfold zmc
 cases ha:atoiAll l with
 | ok v =>
  simp only
  have hnl:zdk l=false:=by
   match l,ha with
   | [],ha=>rfl
   | c :: r,ha =>
    unfold zdk
    by_cases hc:zmt c=true
    ·have:=(zhb c).1 hc
     rw[atoiAll_plain c r (by omega) (by omega)] at ha
     have hp:parseMag (c :: r)=parseMag []:=by rw[parseMag,if_neg (by simp),parseUint10,if_neg (by omega)] <;> rfl
     rw[hp] at ha
     cases ha
    simp[hc]
  rw[hnl]
  by_cases hv:0≤v∧v≤999999999∧itoa v=l
  ·exfalso
   apply hd
   obtain⟨u,rfl⟩ : ∃ u:Nat,v=u:=⟨v.toNat,by omega⟩
   have h2:=hv.2.2
   rw[zlb] at h2
   have hk:=dec_dig u
   rw[h2] at hk
   unfold zgz
   have hne:l.isEmpty=false:=by cases l with | nil=>exact absurd rfl hk.2.1 | cons _ _=>rfl
   rw[hne,hk.1,hk.2.2.1]
   have hlen:l.length≤9:=by
    have hl:=hk.2.2.1
    unfold lead at hl
    simp only[Bool.or_eq_true,decide_eq_true_eq] at hl
    rcases hl with hl | hl
    ·rw[hl];decide
    have hb:=(zhi l hk.2.1 hk.1 hl).1
    rw[hk.2.2.2] at hb
    by_cases h9:l.length≤9
    ·exact h9
    exfalso
    have:10 ^ 9≤10 ^ (l.length - 1):=Nat.pow_le_pow_right (by decide) (by omega)
    omega
   rw[decide_eq_true hlen]
   rfl
  by_cases h0:0≤v
  ·by_cases h1:v≤999999999
   ·have h2:¬ itoa v=l:=fun e=>hv ⟨h0,h1,e⟩
    simp[h2]
   simp[h1]
  simp[h0]
 | range=>unfold zdk;simp only;rw[Bool.and_comm]
 | _=>unfold zdk;simp only;rw[Bool.and_comm]
end VerN

namespace VerN
open Go.Lib
end VerN

namespace VerN
open Go.Lib
def zdl (l:List UInt8):Int:=if l = [] then 1 else if zdk l=true then 0 else 2
def zgf (l:List UInt8):Int:=if zdk l=true then 0 else (zbq 0 l:Nat)
def zep (l:List UInt8):List UInt8:=if zdk l=true then l else []
def cmpI (x y:Int):Int:=if x < y then -1 else if x > y then 1 else 0
def cmpW (x y:List UInt8):Int:=if x < y then -1 else if y < x then 1 else 0
def pcmp (a b:List UInt8):Int:=if cmpI (zdl a) (zdl b)≠0 then cmpI (zdl a) (zdl b) else if cmpI (zgf a) (zgf b)≠0 then cmpI (zgf a) (zgf b) else cmpW (zep a) (zep b)
def digs (l:List UInt8):Bool:=l.all zjc && !l.isEmpty
def before (a b:List UInt8):Bool :=
 if a=b then false else if a = [] then digs b else if b = [] then zdk a else if zdk a≠zdk b then zdk a else if digs a && decide (a.length≠b.length) then decide (a.length < b.length) else decide (a < b)
theorem zpo {l:List UInt8} (h:zdk l=true):digs l=false∧zgz l=false:=by
 match l with
 | [] => exact⟨rfl,rfl⟩
 | c :: r =>
  unfold zdk at h
  simp only[List.all_cons,Bool.and_eq_true] at h
  have hc:=(zhb c).1 h.2.1
  have hd:zjc c=false:=by unfold zjc;rw[decide_eq_true (by omega),decide_eq_false (by omega)];rfl
  unfold digs zgz
  simp[hd]
theorem zlk {l:List UInt8} (h:zgz l=true):digs l=true∧zdk l=false∧l≠[]:=by
 have hl:zdk l=false:=by
  cases e:zdk l
  ·rfl
  rw[(zpo e).2] at h;cases h
 unfold zgz at h
 simp only[Bool.and_eq_true] at h
 refine⟨by unfold digs;rw[h.1.1.2,h.1.1.1];rfl,hl,fun e=>by subst e;simp at h⟩
theorem let_ne {l:List UInt8} (h:zdk l=true):l≠[]:=fun e=>by subst e;simp[zdk] at h
theorem dec_ne {a b:List UInt8} (h:a≠b) (h1:¬ a < b):b < a:=by
 rcases List.le_total a b with h2 | h2
 ·by_cases h3:b < a
  ·exact h3
  exact absurd (List.le_antisymm h2 (List.not_lt.1 h1)) h
 by_cases h3:b < a
 ·exact h3
 exact absurd (List.le_antisymm (List.not_lt.1 h3) (List.not_lt.1 h1)) h
theorem rk_let {l:List UInt8} (h:zdk l=true):zdl l=0:=by unfold zdl;rw[if_neg (let_ne h),if_pos h]
theorem rk_dig {l:List UInt8} (h:zgz l=true):zdl l=2:=by unfold zdl;rw[if_neg (zlk h).2.2,if_neg (by rw[(zlk h).2.1];simp)]
end VerN

namespace VerN
open Go.Lib
def cutF (c:UInt8):List UInt8→List UInt8→List (List UInt8)
 | acc,[] => [acc]
 | acc,x :: r=>if x=c then acc :: cutF c [] r else cutF c (acc ++ [x]) r
def cutL (c:UInt8) (l:List UInt8):List (List UInt8):=cutF c [] l
theorem zdy {c x:UInt8} (acc r:List UInt8) (h:x≠c):cutF c acc (x :: r)=cutF c (acc ++ [x]) r:=by rw[cutF,if_neg h]
theorem zg0 (c:UInt8) (acc r:List UInt8):cutF c acc (c :: r)=acc :: cutF c [] r:=by rw[cutF,if_pos rfl]
theorem zn2 (c:UInt8):∀ (r acc:List UInt8),indexByte r c = -1→cutF c acc r = [acc ++ r]
 | [],acc,_=>by rw[List.append_nil];rfl
 | x :: r,acc,h=>by
  unfold indexByte at h
  split at h
  ·cases h
  rename_i hx
  have hx':x≠c:=fun e=>hx (by rw[e];simp)
  have hr:indexByte r c = -1:=by
   split at h
   ·rename_i e;exact beq_iff_eq.1 e
   have:=indexByte_ge r c;omega
  rw[zdy _ _ hx',zn2 c r _ hr,List.append_assoc]
  rfl
theorem zpy (c:UInt8):∀ (r acc:List UInt8) (i:Nat),indexByte r c=i→cutF c acc r=(acc ++ r.take i) :: cutL c (r.drop (i+1))
 | [],acc,i,h=>by unfold indexByte at h;omega
 | x :: r,acc,i,h=>by
  unfold indexByte at h
  split at h
  ·rename_i hx
   have hx':x=c:=by simpa using hx
   have hi:i=0:=by omega
   subst hi;subst hx'
   rw[zg0]
   simp[cutL]
  rename_i hx
  have hx':x≠c:=fun e=>hx (by rw[e];simp)
  split at h
  ·omega
  rename_i hm
  obtain⟨j,rfl⟩ : ∃ j,i=j+1:=⟨i - 1,by
   have:=indexByte_ge r c
   have h0:indexByte r c≠-1:=fun e=>hm (by rw[e];rfl)
   omega⟩
  have hr:indexByte r c=j:=by omega
  rw[zdy _ _ hx',zpy c r _ j hr,List.append_assoc]
  rfl
theorem zlm (c:UInt8):∀ (r acc:List UInt8),1≤(cutF c acc r).length∧(cutF c acc r).length≤r.length+1
 | [],acc=>⟨Nat.le_refl _,Nat.le_refl _⟩
 | x :: r,acc=>by
  by_cases h:x=c
  ·subst h
   have:=zlm x r []
   rw[zg0]
   simp only[List.length_cons]
   omega
  have:=zlm c r (acc ++ [x])
  rw[zdy _ _ h]
  simp only[List.length_cons]
  omega
theorem zll (c:UInt8) (l:List UInt8):1≤(cutL c l).length∧(cutL c l).length≤l.length+1:=zlm c l []
theorem zhs (c:UInt8):∀ (r acc p:List UInt8),p∈cutF c acc r→p.length≤acc.length+r.length
 | [],acc,p,h=>by
  rw[show cutF c acc [] = [acc] from rfl,List.mem_singleton] at h
  subst h;omega
 | x :: r,acc,p,h=>by
  by_cases hx:x=c
  ·subst hx
   rw[zg0] at h
   rcases List.mem_cons.1 h with rfl | h
   ·simp
   have:=zhs x r [] p h
   simp only[List.length_cons,List.length_nil] at this ⊢
   omega
  rw[zdy _ _ hx] at h
  have:=zhs c r _ p h
  simp only[List.length_append,List.length_cons,List.length_nil] at this ⊢
  omega
def ze4 (l:List UInt8):Bool:=zdk l || zgz l
def mayL (l:List UInt8):Bool:=decide (l≠[]) && decide (l.length≤40) && (cutL 46 l).all ze4 && decide ((cutL 46 l).length≤8)
theorem zfe (l:List UInt8):mayL l=true↔l≠[]∧l.length≤40∧(∀ p∈cutL 46 l,ze4 p=true)∧(cutL 46 l).length≤8:=by
 unfold mayL
 simp[and_assoc]
def zck (x y:List (List UInt8)):Nat→Nat→Int
 | _,0=>0
 | i,n+1=>if pcmp (x.getD i []) (y.getD i [])≠0 then pcmp (x.getD i []) (y.getD i []) else zck x y (i+1) n
def zc0 (a b:List UInt8):Int :=
 if mayL a=false∧mayL b=false then 0 else if mayL a=false then -1 else if mayL b=false then 1 else zck (cutL 46 a) (cutL 46 b) 0 (max (cutL 46 a).length (cutL 46 b).length)
structure Row {α:Type} (c:α→α→Int):Prop where
 tri:∀ x y,c x y = -1∨c x y=0∨c x y=1
 neg:∀ x y,c y x = -c x y
 trans:∀ x y z,c x y≤0→c y z≤0→c x z≤0
theorem Row.lt1 {α:Type} {c:α→α→Int} (h:Row c) {x y z:α} (h1:c x y < 0) (h2:c y z≤0):c x z < 0:=by
 by_cases h3:c x z < 0
 ·exact h3
 have a:=h.neg x z
 have b:=h.neg x y
 have:=h.trans y z x h2 (by omega)
 omega
theorem Row.lt2 {α:Type} {c:α→α→Int} (h:Row c) {x y z:α} (h1:c x y≤0) (h2:c y z < 0):c x z < 0:=by
 by_cases h3:c x z < 0
 ·exact h3
 have a:=h.neg x z
 have b:=h.neg y z
 have:=h.trans z x y (by omega) h1
 omega
theorem Row.eq {α:Type} {c:α→α→Int} (h:Row c) {x y z:α} (h1:c x y=0) (h2:c y z=0):c x z=0:=by
 have a:=h.trans x y z (by omega) (by omega)
 have b:=h.trans z y x (by rw[h.neg];omega) (by rw[h.neg];omega)
 have d:=h.neg x z
 omega
def thenBy {α:Type} (c d:α→α→Int) (x y:α):Int:=if c x y≠0 then c x y else d x y
theorem Row.thenBy {α:Type} {c d:α→α→Int} (hc:Row c) (hd:Row d):Row (thenBy c d):=by
 refine⟨fun x y=>?_,fun x y=>?_,fun x y z h1 h2=>?_⟩
 ·unfold VerN.thenBy;split
  ·exact hc.tri x y
  exact hd.tri x y
 ·unfold VerN.thenBy
  have:=hc.neg x y
  by_cases h:c x y=0
  ·rw[if_neg (by omega),if_neg (by omega)];exact hd.neg x y
  rw[if_pos (by omega),if_pos (by omega)];exact this
 unfold VerN.thenBy at h1 h2 ⊢
 by_cases a:c x y=0
 ·rw[if_neg (by omega)] at h1
  by_cases b:c y z=0
  ·rw[if_neg (by omega)] at h2
   rw[if_neg (by rw[hc.eq a b];omega)]
   exact hd.trans x y z h1 h2
  rw[if_pos b] at h2
  have:=hc.lt2 (x:=x) (by omega:c x y≤0) (by omega:c y z < 0)
  rw[if_pos (by omega)];omega
 rw[if_pos a] at h1
 have h3:c y z≤0:=by
  by_cases b:c y z=0
  ·omega
  rw[if_pos b] at h2;exact h2
 have:=hc.lt1 (z:=z) (by omega:c x y < 0) h3
 rw[if_pos (by omega)];omega
theorem Row.map {α β:Type} {c:α→α→Int} (h:Row c) (f:β→α):Row fun x y=>c (f x) (f y) :=
 ⟨fun x y=>h.tri _ _,fun x y=>h.neg _ _,fun x y z=>h.trans _ _ _⟩
theorem row_int:Row cmpI:=by
 refine⟨fun x y=>?_,fun x y=>?_,fun x y z=>?_⟩ <;> unfold cmpI
 ·split
  ·exact .inl rfl
  split
  ·exact .inr (.inr rfl)
  exact .inr (.inl rfl)
 ·by_cases h1:x < y
  ·have h3:¬ y < x:=by omega
   simp[h1,h3]
  by_cases h2:y < x
  ·simp[h1,h2]
  simp[h1,h2]
 have le:∀ x y:Int,(if x < y then (-1:Int) else if x > y then 1 else 0)≤0↔x≤y:=fun x y=>by
  by_cases h1:x < y
  ·rw[if_pos h1];exact⟨fun _=>by omega,fun _=>by omega⟩
  rw[if_neg h1]
  by_cases h2:x > y
  ·rw[if_pos h2];exact⟨fun h=>by omega,fun h=>by omega⟩
  rw[if_neg h2];exact⟨fun _=>by omega,fun _=>by omega⟩
 rw[le,le,le]
 omega
theorem getD_lt {x:List (List UInt8)} {i:Nat} (h:i < x.length):x.getD i []=x[i]:=by rw[List.getD,List.getElem?_eq_getElem h];rfl
theorem zol {x:List (List UInt8)} {i:Nat} (h:x.length≤i):x.getD i [] = []:=by rw[List.getD,List.getElem?_eq_none h];rfl
theorem row_words:Row cmpW:=by
 have asy:∀ x y:List UInt8,x < y→¬ y < x:=fun x y h1 h2=>List.lt_irrefl x (List.lt_trans h1 h2)
 have le:∀ x y,cmpW x y≤0↔x≤y:=fun x y=>by
  unfold cmpW
  by_cases h1:x < y
  ·rw[if_pos h1];exact⟨fun _=>List.not_lt.1 (asy _ _ h1),fun _=>by omega⟩
  rw[if_neg h1]
  by_cases h2:y < x
  ·rw[if_pos h2];exact⟨fun h=>by omega,fun h=>absurd h2 (List.not_lt.2 h)⟩
  rw[if_neg h2];exact⟨fun _=>List.not_lt.1 h2,fun _=>by omega⟩
 refine⟨fun x y=>?_,fun x y=>?_,fun x y z h1 h2=>?_⟩
 ·unfold cmpW;split
  ·exact .inl rfl
  split
  ·exact .inr (.inr rfl)
  exact .inr (.inl rfl)
 ·unfold cmpW
  by_cases h1:x < y
  ·rw[if_neg (asy _ _ h1),if_pos h1,if_pos h1];rfl
  by_cases h2:y < x
  ·rw[if_pos h2,if_neg h1,if_pos h2]
  rw[if_neg h2,if_neg h1,if_neg h1,if_neg h2];rfl
 rw[le] at h1 h2 ⊢
 exact List.le_trans h1 h2
theorem zo6:pcmp=thenBy (fun a b=>cmpI (zdl a) (zdl b)) (thenBy (fun a b=>cmpI (zgf a) (zgf b)) (fun a b=>cmpW (zep a) (zep b))):=by
 funext a b
 rfl
theorem row_parts:Row pcmp:=by
 rw[zo6]
 exact (row_int.map zdl).thenBy ((row_int.map zgf).thenBy (row_words.map zep))
theorem zpf:∀ (n i:Nat),Row fun x y=>zck x y i n
 | 0,i=>⟨fun _ _=>.inr (.inl rfl),fun _ _=>rfl,fun _ _ _ _ _=>Int.le_refl _⟩
 | n+1,i=>(row_parts.map fun x:List (List UInt8)=>x.getD i []).thenBy (zpf n (i+1))
theorem zjf (x y:List (List UInt8)):∀ (n k i:Nat),x.length≤i+n→y.length≤i+n→zck x y i (n+k)=zck x y i n
 | 0,0,_,_,_=>rfl
 | 0,k+1,i,hx,hy=>by
  have e:zck x y i (k+1)=if pcmp (x.getD i []) (y.getD i [])≠0 then pcmp (x.getD i []) (y.getD i []) else zck x y (i+1) k:=rfl
  rw[Nat.zero_add,e,zol (by omega),zol (by omega),if_neg (by decide)]
  have:=zjf x y 0 k (i+1) (by omega) (by omega)
  rw[Nat.zero_add] at this
  exact this
 | n+1,k,i,hx,hy=>by
  rw[show n+1+k=(n+k)+1 by omega,zck,zck,zjf x y n k (i+1) (by omega) (by omega)]
theorem from_any {x y:List (List UInt8)} {N:Nat} (hx:x.length≤N) (hy:y.length≤N):zck x y 0 (max x.length y.length)=zck x y 0 N:=by
 have:=zjf x y (max x.length y.length) (N - max x.length y.length) 0 (by omega) (by omega)
 rw[show max x.length y.length+(N - max x.length y.length)=N by omega] at this
 exact this.symm
theorem zcp (a b:List UInt8):zc0 a b=if mayL a=false∧mayL b=false then 0 else if mayL a=false then -1 else if mayL b=false then 1 else zck (cutL 46 a) (cutL 46 b) 0 8:=by
 unfold zc0
 cases ha:mayL a
 ·simp
 cases hb:mayL b
 ·simp
 have h1:=((zfe a).1 ha).2.2.2
 have h2:=((zfe b).1 hb).2.2.2
 simp only[Bool.true_eq_false,and_self,if_false]
 exact from_any h1 h2
theorem zd3:Row zc0:=by
 have R:=zpf 8 0
 refine⟨fun x y=>?_,fun x y=>?_,fun x y z=>?_⟩
 ·rw[zcp]
  split
  ·exact .inr (.inl rfl)
  split
  ·exact .inl rfl
  split
  ·exact .inr (.inr rfl)
  exact R.tri _ _
 ·rw[zcp,zcp]
  cases mayL x <;> cases mayL y <;> simp
  exact R.neg _ _
 rw[zcp,zcp,zcp]
 cases mayL x <;> cases mayL y <;> cases mayL z <;> simp
 exact R.trans _ _ _
end VerN

namespace VerN
open Go.Lib
theorem ba_ext {x y:ByteArray} (h:x.data.toList=y.data.toList):x=y:=by
 obtain⟨⟨a⟩⟩:=x
 obtain⟨⟨b⟩⟩:=y
 simp at h
 rw[h]
def cutS (c:UInt8) (s:ByteArray):List ByteArray:=(cutL c s.data.toList).map fun l=>⟨l.toArray⟩
theorem zjl (c:UInt8) (s:ByteArray):(cutS c s).map (·.data.toList)=cutL c s.data.toList:=by
 unfold cutS
 rw[List.map_map]
 have:((fun x:ByteArray=>x.data.toList) ∘ fun l:List UInt8=>(⟨l.toArray⟩ : ByteArray))=id:=by funext l;simp
 rw[this,List.map_id]
theorem zhd (c:UInt8) (s:ByteArray):(cutS c s).length=(cutL c s.data.toList).length:=by unfold cutS;rw[List.length_map]
theorem cutS_miss {c:UInt8} {s:ByteArray} (h:indexByte s.data.toList c = -1):cutS c s = [s]:=by
 unfold cutS cutL
 rw[zn2 c _ _ h,List.nil_append]
 simp
theorem cutS_hit {c:UInt8} {s:ByteArray} {i:Nat} (h:indexByte s.data.toList c=i):cutS c s=s.extract 0 i :: cutS c (s.extract (i+1) s.size):=by
 have e1:(⟨(s.data.toList.take i).toArray⟩ : ByteArray)=s.extract 0 i:=ba_ext (by rw[extract_from_zero])
 have e2:s.data.toList.drop (i+1)=(s.extract (i+1) s.size).data.toList:=(extract_to_end s (i+1)).symm
 unfold cutS
 rw[show cutL c s.data.toList=cutF c [] s.data.toList from rfl,zpy c _ _ i h,List.nil_append,List.map_cons,e1,e2]
theorem index_lt {l:List UInt8} {c:UInt8} {i:Nat} (h:indexByte l c=i):i < l.length:=by
 induction l generalizing i with
 | nil=>unfold indexByte at h;omega
 | cons x r ih =>
  unfold indexByte at h
  split at h
  ·simp;omega
  split at h
  ·omega
  rename_i hm
  have:=indexByte_ge r c
  have h0:indexByte r c≠-1:=fun e=>hm (by rw[e];rfl)
  have:=ih (i:=i - 1) (by omega)
  simp;omega
theorem dlen (s:ByteArray):s.data.toList.length=s.size:=by rw[Array.length_toList];rfl
theorem zrc {c:UInt8} {s p:ByteArray} (h:p∈cutS c s):p.size≤s.size:=by
 unfold cutS at h
 obtain⟨l,h1,rfl⟩:=List.mem_map.1 h
 have:=zhs c _ _ _ h1
 rw[dlen] at this
 have e:(⟨l.toArray⟩ : ByteArray).size=l.length:=rfl
 rw[e]
 simp only[List.length_nil] at this
 omega
end VerN

namespace VerN
open Go.Lib
def first (l:List UInt8):List UInt8:=(cutL 46 l).getD 0 []
end VerN

namespace VerN
open Go.Lib
abbrev Sp:=List UInt8 × List UInt8
def zcl (l:List UInt8):Bool:=decide (l = []) || mayL l
def zce (a b:List UInt8):Bool:=decide (a≠[]) && decide (b≠[]) && decide (zc0 a b < 0)
def mayS (s:Sp):Bool:=zcl s.1 && zcl s.2 && !zce s.2 s.1
def zcx (a b:List UInt8):List UInt8:=if a = []∨zce a b=true then b else a
def zc6 (a b:List UInt8):List UInt8:=if a = []∨zce b a=true then b else a
def meetO (a b:Sp):Sp:=(zcx a.1 b.1,zc6 a.2 b.2)
def zdw (a b:Sp):Bool:=mayS a && mayS b && mayS (meetO a b)
def zen (a b:Sp):Sp:=if mayS a=true∧mayS b=true then (if a.1≠[]∧b.1≠[] then zc6 a.1 b.1 else [],if a.2≠[]∧b.2≠[] then zcx a.2 b.2 else []) else ([],[])
def textR (s:Sp):List UInt8:=if s.1=s.2∧s.1≠[] then s.1 else s.1 ++ 58 :: s.2
def textS (s:Sp):List UInt8:=if mayS s=true then textR s else []
def le (a b:List UInt8):Prop:=zc0 a b≤0
theorem le_refl (a:List UInt8):le a a:=by
 have:=zd3.neg a a
 unfold le;omega
theorem le_trans {a b c:List UInt8} (h1:le a b) (h2:le b c):le a c:=zd3.trans a b c h1 h2
theorem not_le {a b:List UInt8}:¬ le a b↔zc0 b a < 0:=by
 have:=zd3.neg a b
 unfold le;omega
theorem le_total (a b:List UInt8):le a b∨le b a:=by
 have:=zd3.neg a b
 unfold le;omega
theorem zhf {a b:List UInt8}:zce a b=false↔a = []∨b = []∨le b a:=by
 have h:¬ zc0 a b < 0↔le b a:=by
  have:=zd3.neg a b
  unfold le
  omega
 unfold zce
 simp only[Bool.and_eq_false_iff,decide_eq_false_iff_not,ne_eq,Decidable.not_not,h]
 exact or_assoc
theorem zhe {a b:List UInt8}:zce a b=true↔a≠[]∧b≠[]∧¬ le b a:=by
 unfold zce
 simp only[Bool.and_eq_true,decide_eq_true_eq,not_le,and_assoc]
theorem bound_iff {l:List UInt8}:zcl l=true↔l = []∨mayL l=true:=by unfold zcl;simp
theorem zco {s:Sp}:mayS s=true↔zcl s.1=true∧zcl s.2=true∧(s.1 = []∨s.2 = []∨le s.1 s.2):=by
 unfold mayS
 simp only[Bool.and_eq_true,Bool.not_eq_true',and_assoc,zhf]
 constructor
 ·rintro⟨h1,h2,h3⟩
  refine⟨h1,h2,?_⟩
  rcases h3 with h | h | h
  ·exact .inr (.inl h)
  ·exact .inl h
  exact .inr (.inr h)
 rintro⟨h1,h2,h3⟩
 refine⟨h1,h2,?_⟩
 rcases h3 with h | h | h
 ·exact .inr (.inl h)
 ·exact .inl h
 exact .inr (.inr h)
def zem (lo v:List UInt8):Prop:=lo = []∨le lo v
def zgp (hi v:List UInt8):Prop:=hi = []∨le v hi
theorem zfg (a b:List UInt8):zcx a b=a∨zcx a b=b:=by unfold zcx;split;exact .inr rfl;exact .inl rfl
theorem zfs (a b:List UInt8):zc6 a b=a∨zc6 a b=b:=by unfold zc6;split;exact .inr rfl;exact .inl rfl
theorem zik {x a b:List UInt8} (h:x=a∨x=b) (ha:zcl a=true) (hb:zcl b=true):zcl x=true:=by rcases h with rfl | rfl <;> assumption
theorem zoe {a b v:List UInt8}:zem (zcx a b) v↔zem a v∧zem b v:=by
 unfold zcx
 by_cases h:a = []∨zce a b=true
 ·rw[if_pos h]
  refine⟨fun hb=>⟨?_,hb⟩,fun h=>h.2⟩
  rcases h with h | h
  ·exact .inl h
  obtain⟨h1,h2,h3⟩:=zhe.1 h
  rcases hb with hb | hb
  ·exact absurd hb h2
  exact .inr (le_trans ((le_total a b).resolve_right h3) hb)
 rw[if_neg h]
 refine⟨fun ha=>⟨ha,?_⟩,fun h=>h.1⟩
 have h1:a≠[]:=fun e=>h (.inl e)
 have h2:zce a b=false:=Bool.eq_false_iff.2 fun e=>h (.inr e)
 rcases zhf.1 h2 with h2 | h2 | h2
 ·exact absurd h2 h1
 ·exact .inl h2
 rcases ha with ha | ha
 ·exact absurd ha h1
 exact .inr (le_trans h2 ha)
theorem zlu {a b v:List UInt8}:zgp (zc6 a b) v↔zgp a v∧zgp b v:=by
 unfold zc6
 by_cases h:a = []∨zce b a=true
 ·rw[if_pos h]
  refine⟨fun hb=>⟨?_,hb⟩,fun h=>h.2⟩
  rcases h with h | h
  ·exact .inl h
  obtain⟨h1,h2,h3⟩:=zhe.1 h
  rcases hb with hb | hb
  ·exact absurd hb h1
  exact .inr (le_trans hb ((le_total b a).resolve_right h3))
 rw[if_neg h]
 refine⟨fun ha=>⟨ha,?_⟩,fun h=>h.1⟩
 have h1:a≠[]:=fun e=>h (.inl e)
 have h2:zce b a=false:=Bool.eq_false_iff.2 fun e=>h (.inr e)
 rcases zhf.1 h2 with h2 | h2 | h2
 ·exact .inl h2
 ·exact absurd h2 h1
 rcases ha with ha | ha
 ·exact absurd ha h1
 exact .inr (le_trans ha h2)
theorem zod {a b:Sp} (ha:mayS a=true) (hb:mayS b=true):zcl (meetO a b).1=true∧zcl (meetO a b).2=true :=
 ⟨zik (zfg _ _) (zco.1 ha).1 (zco.1 hb).1,zik (zfs _ _) (zco.1 ha).2.1 (zco.1 hb).2.1⟩
theorem zog {a b:Sp} (ha:mayS a=true) (hb:mayS b=true):zcl (zen a b).1=true∧zcl (zen a b).2=true:=by
 unfold zen
 rw[if_pos ⟨ha,hb⟩]
 refine⟨?_,?_⟩
 ·show zcl (if a.1≠[]∧b.1≠[] then zc6 a.1 b.1 else [])=true
  split
  ·exact zik (zfs _ _) (zco.1 ha).1 (zco.1 hb).1
  rfl
 show zcl (if a.2≠[]∧b.2≠[] then zcx a.2 b.2 else [])=true
 split
 ·exact zik (zfg _ _) (zco.1 ha).2.1 (zco.1 hb).2.1
 rfl
theorem zh5 {a b:List UInt8} (ha:a≠[]) (hb:b≠[]):le (zc6 a b) a∧le (zc6 a b) b∧zc6 a b≠[]:=by
 unfold zc6
 by_cases h:zce b a=true
 ·rw[if_pos (.inr h)]
  obtain⟨_,_,h3⟩:=zhe.1 h
  exact⟨(le_total b a).resolve_right h3,le_refl b,hb⟩
 rw[if_neg (by rintro (e | e);exact ha e;exact h e)]
 rcases zhf.1 (Bool.eq_false_iff.2 h) with h2 | h2 | h2
 ·exact absurd h2 hb
 ·exact absurd h2 ha
 exact⟨le_refl a,h2,ha⟩
theorem zha {a b:List UInt8} (ha:a≠[]) (hb:b≠[]):le a (zcx a b)∧le b (zcx a b)∧zcx a b≠[]:=by
 unfold zcx
 by_cases h:zce a b=true
 ·rw[if_pos (.inr h)]
  obtain⟨_,_,h3⟩:=zhe.1 h
  exact⟨(le_total a b).resolve_right h3,le_refl b,hb⟩
 rw[if_neg (by rintro (e | e);exact ha e;exact h e)]
 rcases zhf.1 (Bool.eq_false_iff.2 h) with h2 | h2 | h2
 ·exact absurd h2 ha
 ·exact absurd h2 hb
 exact⟨le_refl a,h2,ha⟩
theorem join_lo {a b:Sp} (ha:mayS a=true) (hb:mayS b=true):(zen a b).1 = []∨(a.1≠[]∧b.1≠[]∧(zen a b).1=zc6 a.1 b.1):=by
 unfold zen
 rw[if_pos ⟨ha,hb⟩]
 by_cases h:a.1≠[]∧b.1≠[]
 ·exact .inr ⟨h.1,h.2,if_pos h⟩
 exact .inl (if_neg h)
theorem join_hi {a b:Sp} (ha:mayS a=true) (hb:mayS b=true):(zen a b).2 = []∨(a.2≠[]∧b.2≠[]∧(zen a b).2=zcx a.2 b.2):=by
 unfold zen
 rw[if_pos ⟨ha,hb⟩]
 by_cases h:a.2≠[]∧b.2≠[]
 ·exact .inr ⟨h.1,h.2,if_pos h⟩
 exact .inl (if_neg h)
theorem join_may {a b:Sp} (ha:mayS a=true) (hb:mayS b=true):mayS (zen a b)=true:=by
 have hB:=zog ha hb
 refine zco.2 ⟨hB.1,hB.2,?_⟩
 rcases join_lo ha hb with h | ⟨h1,h2,h3⟩
 ·exact .inl h
 rcases join_hi ha hb with h | ⟨g1,g2,g3⟩
 ·exact .inr (.inl h)
 refine .inr (.inr ?_)
 rw[h3,g3]
 have hm:=(zco.1 ha).2.2.resolve_left h1 |>.resolve_left g1
 exact le_trans (zh5 h1 h2).1 (le_trans hm (zha g1 g2).1)
end VerN

namespace SortM
variable {α : Type}
structure Swo (lt:α→α→Bool):Prop where
 asymm:∀ a b,lt a b=true→lt b a=false
 ntrans:∀ a b c,lt b a=false→lt c b=false→lt c a=false
inductive Sw (lt:α→α→Bool) (l:List α):List α→Prop
 | refl:Sw lt l l
 | step (p:List α) (x y:α) (q:List α):Sw lt l (p ++ x :: y :: q)→lt y x=true→Sw lt l (p ++ y :: x :: q)
def zbp (lt:α→α→Bool) (l:List α):Prop:=l.Pairwise fun a b=>lt b a=false
variable {lt : α → α → Bool}
theorem Sw.trans {a b c:List α} (h:Sw lt a b) (k:Sw lt b c):Sw lt a c:=by
 induction k with
 | refl=>exact h
 | step p x y q _ hlt ih=>exact .step p x y q ih hlt
theorem Sw.perm {a b:List α} (h:Sw lt a b):a.Perm b:=by
 induction h with
 | refl=>exact List.Perm.refl _
 | step p x y q _ _ ih=>exact ih.trans (List.Perm.append_left _ (List.Perm.swap _ _ _))
theorem Sw.ctx {a b:List α} (h:Sw lt a b) (u v:List α):Sw lt (u ++ a ++ v) (u ++ b ++ v):=by
 induction h with
 | refl=>exact .refl
 | step p x y q _ hlt ih =>
  have h1:u ++ (p ++ x :: y :: q) ++ v=(u ++ p) ++ x :: y :: (q ++ v):=by simp
  have h2:u ++ (p ++ y :: x :: q) ++ v=(u ++ p) ++ y :: x :: (q ++ v):=by simp
  rw[h1] at ih
  rw[h2]
  exact .step _ x y _ ih hlt
theorem Sw.app {a b c d:List α} (h:Sw lt a b) (k:Sw lt c d):Sw lt (a ++ c) (b ++ d):=by
 have h1:=h.ctx [] c
 have h2:=k.ctx b []
 simp only[List.nil_append,List.append_nil] at h1 h2
 exact h1.trans h2
theorem Sw.over (x:α):∀ (b:List α),(∀ y∈b,lt y x=true)→Sw lt (x :: b) (b ++ [x]):=by
 intro b
 induction b with
 | nil=>intro _;exact .refl
 | cons y b ih =>
  intro h
  have h1:Sw lt (x :: y :: b) (y :: x :: b):=.step [] x y b .refl (h y (by simp))
  have h2:=(ih (fun z hz=>h z (by simp[hz]))).ctx [y] []
  simp only[List.append_nil] at h2
  exact h1.trans h2
theorem Sw.blocks:∀ (a b:List α),(∀ x∈a,∀ y∈b,lt y x=true)→Sw lt (a ++ b) (b ++ a):=by
 intro a
 induction a with
 | nil=>intro b _;rw[List.append_nil];exact .refl
 | cons x a ih =>
  intro b h
  have h1:=(ih b (fun z hz=>h z (by simp[hz]))).ctx [x] []
  have h2:=(Sw.over x b (h x (by simp))).ctx [] a
  simp only[List.append_nil,List.nil_append] at h1 h2
  have e:x :: b ++ a = [x] ++ (b ++ a):=rfl
  rw[e] at h2
  refine h1.trans (h2.trans ?_)
  rw[List.append_assoc]
  exact .refl
def eqv (lt:α→α→Bool) (a x:α):Bool:=!lt a x && !lt x a
theorem eqv_of (h:Swo lt) {a x y:α} (hx:eqv lt a x=true) (hy:eqv lt a y=true):lt y x=false:=by
 unfold eqv at hx hy
 simp only[Bool.and_eq_true,Bool.not_eq_true'] at hx hy
 exact h.ntrans x a y hx.1 hy.2
theorem Sw.filter (h:Swo lt) {l m:List α} (k:Sw lt l m) (a:α):l.filter (eqv lt a)=m.filter (eqv lt a):=by
 induction k with
 | refl=>rfl
 | step p x y q _ hlt ih =>
  rw[ih]
  simp only[List.filter_append,List.filter_cons]
  cases hx:eqv lt a x <;> cases hy:eqv lt a y <;> simp
  rw[eqv_of h hx hy] at hlt
  cases hlt
theorem zjd (h:Swo lt) (a:α):lt a a=false:=by
 cases e:lt a a
 ·rfl
 have:=h.asymm a a e;rw[e] at this;exact this
theorem eqv_self (h:Swo lt) (a:α):eqv lt a a=true:=by unfold eqv;rw[zjd h a];rfl
theorem uniq (h:Swo lt):∀ (a b:List α),a.Perm b→(∀ x,a.filter (eqv lt x)=b.filter (eqv lt x))→zbp lt a→zbp lt b→a=b:=by
 intro a
 induction a with
 | nil=>intro b hp _ _ _;exact hp.nil_eq
 | cons x a ih =>
  intro b hp hf ha hb
  match b with
  | [] => exact absurd hp.symm.nil_eq (by simp)
  | y :: b =>
   have h1:lt y x=false:=by
    have hy:y∈x :: a:=hp.symm.subset (by simp)
    rcases List.mem_cons.1 hy with e | hy
    ·rw[e];exact zjd h x
    exact (List.pairwise_cons.1 ha).1 y hy
   have h2:lt x y=false:=by
    have hx:x∈y :: b:=hp.subset (by simp)
    rcases List.mem_cons.1 hx with e | hx
    ·rw[e];exact zjd h y
    exact (List.pairwise_cons.1 hb).1 x hx
   have h3:eqv lt x y=true:=by unfold eqv;rw[h1,h2];rfl
   have hx:=hf x
   rw[List.filter_cons,List.filter_cons,if_pos (eqv_self h x),if_pos h3] at hx
   injection hx with hxy _
   subst hxy
   congr 1
   refine ih b (List.Perm.cons_inv hp) (fun z=>?_) (List.pairwise_cons.1 ha).2 (List.pairwise_cons.1 hb).2
   have:=hf z
   rw[List.filter_cons,List.filter_cons] at this
   split at this
   ·injection this
   exact this
def ins (lt:α→α→Bool) (x:α):List α→List α
 | [] => [x]
 | y :: l=>if lt x y=true then x :: y :: l else y :: ins lt x l
def zb6 (lt:α→α→Bool) (l:List α):List α:=l.foldl (fun r x=>ins lt x r) []
theorem mem_ins (x z:α) (l:List α):z∈ins lt x l↔z=x∨z∈l:=by
 induction l with
 | nil=>simp[ins]
 | cons y l ih =>
  unfold ins
  split
  ·simp
  simp only[List.mem_cons,ih]
  constructor
  ·rintro (h | h | h)
   ·exact .inr (.inl h)
   ·exact .inl h
   exact .inr (.inr h)
  rintro (h | h | h)
  ·exact .inr (.inl h)
  ·exact .inl h
  exact .inr (.inr h)
theorem zr7 (h:Swo lt) (x:α) (l:List α) (hl:zbp lt l):zbp lt (ins lt x l):=by
 induction l with
 | nil=>simp[ins,zbp]
 | cons y l ih =>
  have hl':=List.pairwise_cons.1 hl
  unfold ins
  split
  ·rename_i hxy
   refine List.pairwise_cons.2 ⟨fun z hz=>?_,hl⟩
   rcases List.mem_cons.1 hz with e | hz
   ·rw[e];exact h.asymm _ _ hxy
   exact h.ntrans x y z (h.asymm _ _ hxy) (hl'.1 z hz)
  rename_i hxy
  refine List.pairwise_cons.2 ⟨fun z hz=>?_,ih hl'.2⟩
  rcases (mem_ins x z l).1 hz with e | hz
  ·rw[e];simpa using hxy
  exact hl'.1 z hz
theorem ins_sw (h:Swo lt) (x:α) (l:List α) (hl:zbp lt l):Sw lt (l ++ [x]) (ins lt x l):=by
 induction l with
 | nil=>exact .refl
 | cons y l ih =>
  have hl':=List.pairwise_cons.1 hl
  unfold ins
  split
  ·rename_i hxy
   have:∀ z∈y :: l,lt x z=true:=by
    intro z hz
    cases e:lt x z
    ·have h1:lt x y=false:=by
      rcases List.mem_cons.1 hz with e2 | hz
      ·rw[← e2];exact e
      exact h.ntrans y z x (hl'.1 z hz) e
     rw[hxy] at h1;cases h1
    rfl
   have h2:=Sw.blocks (lt:=lt) (y :: l) [x] (fun a ha b hb=>by simp at hb;subst hb;exact this a ha)
   exact h2
  have h2:=(ih hl'.2).ctx [y] []
  simp only[List.append_nil] at h2
  exact h2
theorem zjh (h:Swo lt):∀ (l r:List α),zbp lt r→zbp lt (l.foldl (fun r x=>ins lt x r) r)∧Sw lt (r ++ l) (l.foldl (fun r x=>ins lt x r) r):=by
 intro l
 induction l with
 | nil=>intro r hr;exact⟨hr,by rw[List.append_nil];exact .refl⟩
 | cons x l ih =>
  intro r hr
  obtain⟨h1,h2⟩:=ih (ins lt x r) (zr7 h x r hr)
  refine⟨h1,?_⟩
  have h3:=(ins_sw h x r hr).ctx [] l
  simp only[List.nil_append] at h3
  have e:r ++ [x] ++ l=r ++ x :: l:=by simp
  rw[e] at h3
  exact h3.trans h2
theorem zca (h:Swo lt) (l:List α):zbp lt (zb6 lt l):=(zjh h l [] List.Pairwise.nil).1
theorem ze2 (h:Swo lt) (l:List α):Sw lt l (zb6 lt l):=by
 have:=(zjh h l [] List.Pairwise.nil).2
 rw[List.nil_append] at this
 exact this
theorem zg8 (h:Swo lt) {l a:List α} (hs:Sw lt l a) (ha:zbp lt a):a=zb6 lt l:=by
 have h1:=ze2 h l
 exact uniq h a (zb6 lt l) (hs.perm.symm.trans h1.perm) (fun x=>(hs.filter h x).symm.trans (h1.filter h x)) ha (zca h l)
theorem znl (h:Swo lt) {l a:List α} (hs:Sw lt l a):zb6 lt a=zb6 lt l:=zg8 h (hs.trans (ze2 h a)) (zca h a)
theorem zie (h:Swo lt) {l:List α} (hl:zbp lt l):zb6 lt l=l:=(zg8 h .refl hl).symm
theorem zcv (h:Swo lt) (l:List α):(zb6 lt l).length=l.length:=(ze2 h l).perm.length_eq.symm
theorem mem_ssort (h:Swo lt) (l:List α) (x:α):x∈zb6 lt l↔x∈l:=(ze2 h l).perm.symm.mem_iff
theorem zly (h:Swo lt) (a b:List α):zb6 lt (zb6 lt a ++ zb6 lt b)=zb6 lt (a ++ b):=znl h ((ze2 h a).app (ze2 h b))
theorem ssort_cut (h:Swo lt) (l1 l2 r1 r2:List α) (hx:∀ x∈l2,∀ y∈r1,lt y x=true) (h12:∀ a∈l1,∀ b∈l2,lt b a=false) (hr:∀ a∈r1,∀ b∈r2,lt b a=false) (hlr:∀ a∈l1,∀ b∈r2,lt b a=false) :
  zb6 lt (l1 ++ l2 ++ (r1 ++ r2))=zb6 lt (l1 ++ r1) ++ zb6 lt (l2 ++ r2):=by
 symm
 apply zg8 h
 ·have h1:=(Sw.blocks l2 r1 hx).ctx l1 r2
  have e1:l1 ++ (l2 ++ r1) ++ r2=l1 ++ l2 ++ (r1 ++ r2):=by simp
  have e2:l1 ++ (r1 ++ l2) ++ r2=(l1 ++ r1) ++ (l2 ++ r2):=by simp
  rw[e1,e2] at h1
  exact h1.trans ((ze2 h _).app (ze2 h _))
 refine List.pairwise_append.2 ⟨zca h _,zca h _,fun a ha b hb=>?_⟩
 rw[mem_ssort h] at ha hb
 rcases List.mem_append.1 ha with ha | ha <;> rcases List.mem_append.1 hb with hb | hb
 ·exact h12 a ha b hb
 ·exact hlr a ha b hb
 ·exact h.asymm _ _ (hx b hb a ha)
 exact hr a ha b hb
end SortM

namespace VerN
open Go.Lib SortM
abbrev Pt:=Option (Bool × List UInt8)
def covS (s:Sp):Pt→Prop
 | none=>s.1 = []
 | some (false,p)=>zem s.1 p∧zgp s.2 p
 | some (true,p)=>zem s.1 p∧(s.2 = []∨¬ le s.2 p)
def cov (l:List Sp) (x:Pt):Prop:=∃ s∈l,covS s x
def bef (a b:Sp):Prop:=a.2≠[]∧b.1≠[]∧¬ le b.1 a.2
def Sep (l:List Sp):Prop:=(∀ s∈l,mayS s=true)∧l.Pairwise bef
theorem not_le_le {a b:List UInt8} (h:¬ le a b):le b a:=(le_total a b).resolve_left h
theorem Sep.tail {f:Sp} {F:List Sp} (h:Sep (f :: F)):Sep F:=⟨fun s hs=>h.1 s (by simp[hs]),(List.pairwise_cons.1 h.2).2⟩
def okb (lo hi:List UInt8):Prop:=lo = []∨hi = []∨le lo hi
theorem okb_bef {a b:Sp}:okb b.1 a.2↔¬ bef a b:=by
 unfold okb bef
 constructor
 ·rintro (h | h | h) ⟨h1,h2,h3⟩
  ·exact h2 h
  ·exact h1 h
  exact h3 h
 intro h
 by_cases h2:b.1 = []
 ·exact .inl h2
 by_cases h1:a.2 = []
 ·exact .inr (.inl h1)
 exact .inr (.inr (Classical.not_not.1 fun k=>h ⟨h1,h2,k⟩))
theorem zgb {lo h k:List UInt8}:okb lo (zc6 h k)↔okb lo h∧okb lo k:=by
 by_cases e:lo = []
 ·unfold okb;simp[e]
 have hh:∀ x,okb lo x↔zgp x lo:=fun x=>⟨fun h=>h.resolve_left e,fun h=>.inr h⟩
 rw[hh,hh,hh]
 exact zlu
theorem zmf {x y hi:List UInt8}:okb (zcx x y) hi↔okb x hi∧okb y hi:=by
 by_cases e:hi = []
 ·unfold okb;simp[e]
 have hh:∀ x,okb x hi↔zem x hi:=fun x=>⟨fun h=>h.elim .inl fun h=>.inr (h.resolve_left e),fun h=>h.elim .inl fun h=>.inr (.inr h)⟩
 rw[hh,hh,hh]
 exact zoe
theorem may_okb {s:Sp} (h:mayS s=true):okb s.1 s.2:=(zco.1 h).2.2
theorem meet_iff {a b:Sp} (ha:mayS a=true) (hb:mayS b=true):zdw a b=true↔¬ bef a b∧¬ bef b a:=by
 unfold zdw
 rw[ha,hb,Bool.true_and,Bool.true_and,zco]
 obtain⟨h1,h2⟩:=zod ha hb
 rw[← okb_bef,← okb_bef]
 constructor
 ·rintro⟨_,_,h⟩
  have h:okb (zcx a.1 b.1) (zc6 a.2 b.2):=h
  rw[zmf,zgb,zgb] at h
  exact⟨h.2.1,h.1.2⟩
 rintro⟨k1,k2⟩
 refine⟨h1,h2,?_⟩
 show okb (zcx a.1 b.1) (zc6 a.2 b.2)
 rw[zmf,zgb,zgb]
 exact⟨⟨may_okb ha,k2⟩,k1,may_okb hb⟩
theorem sooner_or {a b:List UInt8} (ha:a≠[]) (hb:b≠[]) (p:List UInt8):le (zc6 a b) p↔le a p∨le b p:=by
 obtain⟨h1,h2,_⟩:=zh5 ha hb
 constructor
 ·intro h
  rcases zfs a b with e | e
  ·rw[e] at h;exact .inl h
  rw[e] at h;exact .inr h
 rintro (h | h)
 ·exact le_trans h1 h
 exact le_trans h2 h
theorem later_or {a b:List UInt8} (ha:a≠[]) (hb:b≠[]) (p:List UInt8):le p (zcx a b)↔le p a∨le p b:=by
 obtain⟨h1,h2,_⟩:=zha ha hb
 constructor
 ·intro h
  rcases zfg a b with e | e
  ·rw[e] at h;exact .inl h
  rw[e] at h;exact .inr h
 rintro (h | h)
 ·exact le_trans h h1
 exact le_trans h h2
theorem later_nle {a b:List UInt8} (ha:a≠[]) (hb:b≠[]) (p:List UInt8):¬ le (zcx a b) p↔¬ le a p∨¬ le b p:=by
 obtain⟨h1,h2,_⟩:=zha ha hb
 constructor
 ·intro h
  rcases zfg a b with e | e
  ·rw[e] at h;exact .inl h
  rw[e] at h;exact .inr h
 rintro (h | h) k
 ·exact h (le_trans h1 k)
 exact h (le_trans h2 k)
theorem zgc {a b:Sp} (ha:mayS a=true) (hb:mayS b=true):zen a b=(if a.1≠[]∧b.1≠[] then zc6 a.1 b.1 else [],if a.2≠[]∧b.2≠[] then zcx a.2 b.2 else []):=by
 unfold zen;rw[if_pos ⟨ha,hb⟩]
theorem zkj {a b:Sp} (ha:mayS a=true) (hb:mayS b=true) (p:List UInt8):zem (zen a b).1 p↔zem a.1 p∨zem b.1 p:=by
 rw[zgc ha hb]
 by_cases h:a.1≠[]∧b.1≠[]
 ·have e:=sooner_or h.1 h.2 p
  have n:=(zh5 h.1 h.2).2.2
  simp only[if_pos h]
  unfold zem
  simp only[h.1,h.2,n,false_or,e]
 simp only[if_neg h]
 refine⟨fun _=>?_,fun _=>.inl rfl⟩
 by_cases h1:a.1 = []
 ·exact .inl (.inl h1)
 by_cases h2:b.1 = []
 ·exact .inr (.inl h2)
 exact absurd ⟨h1,h2⟩ h
theorem join_nil {a b:Sp} (ha:mayS a=true) (hb:mayS b=true):(zen a b).1 = []↔a.1 = []∨b.1 = []:=by
 rw[zgc ha hb]
 by_cases h:a.1≠[]∧b.1≠[]
 ·have n:=(zh5 h.1 h.2).2.2
  simp only[if_pos h,n,h.1,h.2,or_self]
 simp only[if_neg h,true_iff]
 by_cases h1:a.1 = []
 ·exact .inl h1
 by_cases h2:b.1 = []
 ·exact .inr h2
 exact absurd ⟨h1,h2⟩ h
theorem zr5 {a b:Sp} (ha:mayS a=true) (hb:mayS b=true) (p:List UInt8):zgp (zen a b).2 p↔zgp a.2 p∨zgp b.2 p:=by
 rw[zgc ha hb]
 by_cases h:a.2≠[]∧b.2≠[]
 ·have e:=later_or h.1 h.2 p
  have n:=(zha h.1 h.2).2.2
  simp only[if_pos h]
  unfold zgp
  simp only[h.1,h.2,n,false_or,e]
 simp only[if_neg h]
 refine⟨fun _=>?_,fun _=>.inl rfl⟩
 by_cases h1:a.2 = []
 ·exact .inl (.inl h1)
 by_cases h2:b.2 = []
 ·exact .inr (.inl h2)
 exact absurd ⟨h1,h2⟩ h
theorem join_gap {a b:Sp} (ha:mayS a=true) (hb:mayS b=true) (p:List UInt8):((zen a b).2 = []∨¬ le (zen a b).2 p)↔(a.2 = []∨¬ le a.2 p)∨(b.2 = []∨¬ le b.2 p):=by
 rw[zgc ha hb]
 by_cases h:a.2≠[]∧b.2≠[]
 ·have e:=later_nle h.1 h.2 p
  have n:=(zha h.1 h.2).2.2
  simp only[if_pos h,h.1,h.2,n,false_or,e]
 simp only[if_neg h,true_or,true_iff]
 by_cases h1:a.2 = []
 ·exact .inl (.inl h1)
 by_cases h2:b.2 = []
 ·exact .inr (.inl h2)
 exact absurd ⟨h1,h2⟩ h
theorem cross {a b:Sp} (h:¬ bef a b) {p:List UInt8} (hlo:zem a.1 p) (hhi:zgp b.2 p):zgp a.2 p∨zem b.1 p:=by
 by_cases h1:zgp a.2 p
 ·exact .inl h1
 by_cases h2:zem b.1 p
 ·exact .inr h2
 exfalso
 have a1:a.2≠[]:=fun e=>h1 (.inl e)
 have b1:b.1≠[]:=fun e=>h2 (.inl e)
 have a2:¬ le p a.2:=fun e=>h1 (.inr e)
 have b2:¬ le b.1 p:=fun e=>h2 (.inr e)
 exact h ⟨a1,b1,fun k=>b2 (le_trans k (not_le_le a2))⟩
theorem zn4 {a b:Sp} (h:¬ bef a b) {p:List UInt8} (hlo:zem a.1 p) (hhi:b.2 = []∨¬ le b.2 p):(a.2 = []∨¬ le a.2 p)∨zem b.1 p:=by
 by_cases h1:a.2 = []∨¬ le a.2 p
 ·exact .inl h1
 by_cases h2:zem b.1 p
 ·exact .inr h2
 exfalso
 have a1:a.2≠[]:=fun e=>h1 (.inl e)
 have b1:b.1≠[]:=fun e=>h2 (.inl e)
 have a2:le a.2 p:=Classical.not_not.1 fun e=>h1 (.inr e)
 have b2:¬ le b.1 p:=fun e=>h2 (.inr e)
 exact h ⟨a1,b1,fun k=>b2 (le_trans k a2)⟩
theorem join_cov {a b:Sp} (ha:mayS a=true) (hb:mayS b=true) (hm:zdw a b=true) (x:Pt):covS (zen a b) x↔covS a x∨covS b x:=by
 obtain⟨h1,h2⟩:=(meet_iff ha hb).1 hm
 match x with
 | none=>exact join_nil ha hb
 | some (false,p) =>
  show zem _ p∧zgp _ p↔(zem _ p∧zgp _ p)∨(zem _ p∧zgp _ p)
  rw[zkj ha hb,zr5 ha hb]
  constructor
  ·rintro⟨l | l,u | u⟩
   ·exact .inl ⟨l,u⟩
   ·rcases cross h1 l u with k | k
    ·exact .inl ⟨l,k⟩
    exact .inr ⟨k,u⟩
   ·rcases cross h2 l u with k | k
    ·exact .inr ⟨l,k⟩
    exact .inl ⟨k,u⟩
   exact .inr ⟨l,u⟩
  rintro (⟨l,u⟩ | ⟨l,u⟩)
  ·exact⟨.inl l,.inl u⟩
  exact⟨.inr l,.inr u⟩
 | some (true,p) =>
  show zem _ p∧(_∨_)↔(zem _ p∧(_∨_))∨(zem _ p∧(_∨_))
  rw[zkj ha hb,join_gap ha hb]
  constructor
  ·rintro⟨l | l,u | u⟩
   ·exact .inl ⟨l,u⟩
   ·rcases zn4 h1 l u with k | k
    ·exact .inl ⟨l,k⟩
    exact .inr ⟨k,u⟩
   ·rcases zn4 h2 l u with k | k
    ·exact .inr ⟨l,k⟩
    exact .inl ⟨k,u⟩
   exact .inr ⟨l,u⟩
  rintro (⟨l,u⟩ | ⟨l,u⟩)
  ·exact⟨.inl l,.inl u⟩
  exact⟨.inr l,.inr u⟩
def ltLo (a b:List UInt8):Bool:=decide (b≠[]) && (decide (a = []) || decide (zc0 a b < 0))
def loLe (a b:List UInt8):Prop:=a = []∨(b≠[]∧le a b)
theorem ltLo_no {a b:List UInt8}:ltLo b a=false↔loLe a b:=by
 have h:¬ zc0 b a < 0↔le a b:=by
  have:=zd3.neg a b
  unfold le;omega
 unfold ltLo loLe
 simp only[Bool.and_eq_false_iff,Bool.or_eq_false_iff,decide_eq_false_iff_not,ne_eq,Decidable.not_not,h]
theorem cov_perm {a b:List Sp} (h:a.Perm b) (p:Pt):cov a p↔cov b p:=by
 unfold cov
 simp only[h.mem_iff]
end VerN

section
open Go.RowKit
theorem zkx {α:Type} {R:Rd α} {w:World} {B:Nat} {e:TypeId} {v:Value} {vs:List Value} {l:List α} (hlen:vs.length=l.length) (h:w.ownsRow B e 1 v l.length vs) (hr:∀ (i:Nat) u x,vs[i]? = some u→l[i]? = some x→R w [u] x):zb8 1 R w [v] l:=by
 obtain⟨a,cap,rfl,h1,h2,h3⟩:=Sl.of_owns h
 refine⟨a,cap,rfl,h1,h2,fun i f hi=>?_⟩
 have hil:=(List.getElem?_eq_some_iff.1 hi).1
 have hiv:i < vs.length:=by omega
 obtain⟨b,off,ha,hc⟩:=h3 i vs[i] (List.getElem?_eq_getElem hiv)
 refine⟨b,off,[vs[i]],ha,rfl,fun j u hu=>?_,hr i _ f (List.getElem?_eq_getElem hiv) hi⟩
 have hj:j=0:=by have:=(List.getElem?_eq_some_iff.1 hu).1;simp at this;omega
 subst hj
 simp at hu
 subst hu
 simpa using hc
end

section
open Go.RowKit Go.Lib VerN
end

section
open Go.RowKit Go.Lib VerN
end

section
open Go.RowKit Go.Lib Go.Sort
def zcq (x y:Int):Int:=if x < y then -1 else if y < x then 1 else 0
theorem zjo (x y:Int) (w:World):Calls Tryz.prog 199 #[.int .i64 x,.int .i64 y] w fun e w'=>e = .returned (.int .i64 (zcq x y))∧w=w':=by
 by_cases h1:x < y
 ·have e:zcq x y = -1:=by unfold zcq;rw[if_pos h1]
  rw[e]
  clear e
  go_enter Tryz.func199,Tryz.ntmps199
  go_wp2
  go_ret
  exact⟨rfl,rfl⟩
 have h1':y≤x:=by omega
 by_cases h2:y < x
 ·have e:zcq x y=1:=by unfold zcq;rw[if_neg h1,if_pos h2]
  rw[e]
  clear e h1
  go_enter Tryz.func199,Tryz.ntmps199
  go_wp2
  go_ret
  exact⟨rfl,rfl⟩
 have e:zcq x y=0:=by unfold zcq;rw[if_neg h1,if_neg h2]
 obtain rfl:x=y:=by omega
 rw[e]
 clear e h1 h2 h1'
 go_enter Tryz.func199,Tryz.ntmps199
 go_wp2
 go_ret
 exact⟨rfl,rfl⟩
def orOf (l:List Int):Int:=match l with
 | [] => 0
 | x :: r=>if x≠0 then x else orOf r
theorem orOf_snoc (l:List Int) (k:Nat) (h:k < l.length) (h0:orOf (l.take k)=0):orOf (l.take (k+1))=l[k]:=by
 induction l generalizing k with
 | nil=>simp at h
 | cons x r ih =>
  match k with
  | 0=>simp[orOf];intro h;simp[h]
  | k+1 =>
   have h1:x=0:=by
    rw[List.take_succ_cons,orOf] at h0
    split at h0
    ·rename_i hx;exact absurd h0 hx
    rename_i hx;simpa using hx
   subst h1
   have:=ih k (by simpa using h) (by simpa [orOf] using h0)
   simpa [orOf] using this
theorem orOf_all (l:List Int) (k:Nat) (h:orOf (l.take k)≠0):orOf l=orOf (l.take k):=by
 induction l generalizing k with
 | nil=>simp
 | cons x r ih =>
  match k with
  | 0=>simp[orOf] at h
  | k+1 =>
   rw[List.take_succ_cons,orOf] at h ⊢
   rw[orOf]
   split
   ·rfl
   rename_i hx
   rw[if_neg hx] at h
   exact ih k h
theorem or_any (b off cap:Nat) (l:List Int) (w:World) (hl:l.length≤1000) (hc:∀ i x,l[i]? = some x→w.cell? ⟨b,off+i,none⟩=some (.int .i64 x)) :
  Calls Tryz.prog 198 #[.slice (some ⟨b,off,none⟩) l.length cap] w fun e w'=>e = .returned (.int .i64 (orOf l))∧w=w':=by
 obtain⟨n,hn⟩ : ∃ n,n=l.length:=⟨_,rfl⟩
 rw[← hn] at hl ⊢
 obtain⟨Hn,Hc⟩:=hd2 hn hc;clear hn hc
 go_enter Tryz.func198,Tryz.ntmps198
 go_wp2_with fail
 go_loop [8] (fun i=>∃ k:Nat,k≤n∧i = .int .i64 k∧orOf (l.take k)=0) (fun i=>n - (RowKit.intOf i).toNat)
 case atStart=>exact⟨0,Nat.zero_le _,rfl,by simp[orOf]⟩
 case round =>
  obtain⟨k,hk,rfl,h0⟩:=hrel
  by_cases hlt:k < n
  ·have hkl:k < l.length:=by have:=Hn.out;omega
   obtain⟨x,hx⟩ : ∃ x,x=l[k]'hkl:=⟨_,rfl⟩
   have c:=Hc.out k x (by rw[hx];exact List.getElem?_eq_getElem hkl)
   have hs:=orOf_snoc l k hkl h0
   rw[← hx] at hs
   by_cases hz:x=0
   ·have e1:(x != 0)=false:=by rw[hz];rfl
    have h1:orOf (l.take (k+1))=0:=by rw[hs,hz]
    obtain⟨Hx,Hs,H0,Hz,H1⟩:=hd5 hx hs h0 hz h1;clear hx hs h0 hz h1
    go_wp2_with fail
    go_round
    case rel=>exact⟨k+1,by omega,by go_num,H1.out⟩
    case measure=>simp[RowKit.intOf];omega
   have e1:(x != 0)=true:=by simpa using hz
   have h1:orOf l=x:=by rw[orOf_all l (k+1) (by rw[hs];exact hz),hs]
   obtain⟨Hx,Hs,H0,Hz,H1⟩:=hd5 hx hs h0 hz h1;clear hx hs h0 hz h1
   go_wp2_with fail
   go_ret
   exact⟨zfd (by rw[H1.out]),rfl⟩
  have h1:orOf l=0:=by
   rw[← h0,List.take_of_length_le (by have:=Hn.out;omega)]
  obtain⟨H0,H1⟩:=hd2 h0 h1;clear h0 h1
  go_wp2_with fail
  go_ret
  exact⟨zfd (by rw[H1.out]),rfl⟩
end

section
open Go.RowKit Go.Lib VerN
theorem less_dec (x y:ByteArray):Op.bytesLess x.toList y.toList=decide (x.data.toList < y.data.toList):=by
 rw[Go.Proofs.bytesLess_eq,toList_data,toList_data]
theorem zn5 (x y:ByteArray) (w:World):Calls Tryz.prog 200 #[.string x,.string y] w fun e w'=>e = .returned (.int .i64 (cmpW x.data.toList y.data.toList))∧w=w':=by
 obtain⟨p,hp⟩ : ∃ p,p=Op.bytesLess x.toList y.toList:=⟨_,rfl⟩
 obtain⟨q,hq⟩ : ∃ q,q=(x.toList == y.toList):=⟨_,rfl⟩
 have e:cmpW x.data.toList y.data.toList=if p=true then -1 else if q=true then 0 else 1:=by
  unfold cmpW
  rw[hp,hq,less_dec,Txt.eq_dec]
  by_cases h1:x.data.toList < y.data.toList
  ·rw[if_pos h1,decide_eq_true h1];rfl
  rw[if_neg h1,decide_eq_false h1]
  by_cases h2:x=y
  ·rw[decide_eq_true h2,if_neg (by rw[h2];exact List.lt_irrefl _)];rfl
  rw[decide_eq_false h2,if_pos (dec_ne (fun e=>h2 (Txt.ext e)) h1)];rfl
 rw[e]
 have hpe:=hp.symm
 have hqe:=hq.symm
 clear e
 cases p with
 | true =>
  obtain⟨Hp,Hq⟩:=hd2 hp hq;clear hp hq
  go_enter Tryz.func200,Tryz.ntmps200
  go_wp2
  go_ret
  exact⟨rfl,rfl⟩
 | false =>
  cases q with
  | true =>
   obtain⟨Hp,Hq⟩:=hd2 hp hq;clear hp hq
   go_enter Tryz.func200,Tryz.ntmps200
   go_wp2
   go_ret
   exact⟨rfl,rfl⟩
  | false =>
   obtain⟨Hp,Hq⟩:=hd2 hp hq;clear hp hq
   go_enter Tryz.func200,Tryz.ntmps200
   go_wp2
   go_ret
   exact⟨rfl,rfl⟩
end

section
open Go.RowKit Go.Lib VerN
theorem zdg (s:ByteArray):s.data.toList = []↔s.size=0:=by rw[← Txt.len];exact List.length_eq_zero_iff.symm
end

section
open Go.RowKit Go.Lib VerN
def zk3 (c:UInt8) (l:List UInt8) (k f:Nat) (done:List (List UInt8)):Prop:=f≤k∧((k≤l.length∧cutL c l=done ++ cutF c ((l.take k).drop f) (l.drop k))∨(k=l.length+1∧cutL c l=done))
theorem zk3.start (c:UInt8) (l:List UInt8):zk3 c l 0 0 []:=⟨Nat.le_refl _,.inl ⟨Nat.zero_le _,rfl⟩⟩
theorem zk3.skip {c:UInt8} {l:List UInt8} {k f:Nat} {done:List (List UInt8)} (h:zk3 c l k f done) (hk:k < l.length) (hne:l[k]≠c):zk3 c l (k+1) f done:=by
 obtain⟨hf,⟨_,h⟩ | ⟨h,_⟩⟩:=h
 ·refine⟨by omega,.inl ⟨by omega,?_⟩⟩
  rw[h,List.drop_eq_getElem_cons hk,zdy _ _ hne,List.take_succ_eq_append_getElem hk,List.drop_append_of_le_length (by rw[List.length_take];omega)]
 omega
theorem zk3.last {c:UInt8} {l:List UInt8} {k f:Nat} {done:List (List UInt8)} (h:zk3 c l k f done) (hk:k=l.length):zk3 c l (k+1) (k+1) (done ++ [(l.take k).drop f]):=by
 obtain⟨hf,⟨_,h⟩ | ⟨h,_⟩⟩:=h
 ·refine⟨Nat.le_refl _,.inr ⟨by omega,?_⟩⟩
  rw[h,hk,List.drop_eq_nil_of_le (Nat.le_refl _)]
  rfl
 omega
theorem zk3.len {c:UInt8} {l:List UInt8} {k f:Nat} {done:List (List UInt8)} (h:zk3 c l k f done):done.length≤l.length+1:=by
 have h1:=(zll c l).2
 obtain⟨hf,⟨_,h⟩ | ⟨_,h⟩⟩:=h
 ·rw[h,List.length_append] at h1;omega
 rw[h] at h1;exact h1
end

section
open Go.RowKit Go.Lib VerN
end

section
open Go.RowKit Go.Lib VerN
end

section
open Go.RowKit Go.Lib VerN
def zne (l:List UInt8) (r m:Int) (x:ByteArray):Prop:=r=zdl l∧m=zgf l∧x.data.toList=zep l
theorem zcr {fn:Func} {p u:Tmp} (hres:fn.results=#[.cell p 241,.tmp u]) {R:Ending→World→Prop} {a:Act} {w:World} {g:Nat} {x y z b:Value} (hp:a.tmps.getD p undef = .pointer (some ⟨g,0,none⟩)) (hu:a.tmps.getD u undef=b)
  (hg:w.heap[g]? = some (.cells #[x,y,z] 241 (0,0))) (hd:a.defers = []) (hR:R (.returned (.tuple #[.agg #[x,y,z],b])) w):bodyPost Tryz.prog fn R .ret a w:=by
 refine bodyPost_ret (v:=.tuple #[.agg #[x,y,z],b]) ?_ hd hR
 rw[results_cell_tmp hres,hp,hu]
 simp only[asAddr,Sem.run_pure,Result.andThen,run_loadVar_row w g 241 241 _ _ _ hg Tryz.underlying241 rfl (by kernel_rfl)]
theorem zhn {v:Value} {a b:Bool} (h:a=b):Ending.returned (.tuple #[v,.bool a]) = .returned (.tuple #[v,.bool b]):=by rw[h]
theorem zc4 {w:World} {g:Nat} {t:TypeId} {x y z:Value} (h:w.heap[g]? = some (.cells #[x,y,z] t (0,0))):w.cell? ⟨g,0,none⟩=some x∧w.cell? ⟨g,1,none⟩=some y∧w.cell? ⟨g,2,none⟩=some z∧w.frozen? ⟨g,0,none⟩=false∧w.frozen? ⟨g,1,none⟩=false∧w.frozen? ⟨g,2,none⟩=false:=by
 have b0:=za2 h 0
 have b1:=za2 h 1
 have b2:=za2 h 2
 simp only[List.getElem?_toArray,List.getElem?_cons_zero,List.getElem?_cons_succ] at b0 b1 b2
 exact⟨b0,b1,b2,za5 h 0,za5 h 1,za5 h 2⟩
theorem zg5 {w:World} {g:Nat} {t:TypeId} {x y z:Value} (u v q:Value) (h:w.heap[g]? = some (.cells #[x,y,z] t (0,0))):(((w.setCell ⟨g,0,none⟩ u).setCell ⟨g,1,none⟩ v).setCell ⟨g,2,none⟩ q).heap[g]? = some (.cells #[u,v,q] t (0,0)):=by
 have k0:=heap_setCell_same _ g 0 _ _ u h
 have k1:=heap_setCell_same _ g 1 _ _ v k0
 have k2:=heap_setCell_same _ g 2 _ _ q k1
 exact k2
theorem zg6 {B:Nat} {a w:World} {g:Nat} (u v q:Value) (h:Below B a w) (hg:B≤g):Below B a (((w.setCell ⟨g,0,none⟩ u).setCell ⟨g,1,none⟩ v).setCell ⟨g,2,none⟩ q) :=
 ((h.setCell (p:=⟨g,0,none⟩) hg _).setCell (p:=⟨g,1,none⟩) hg _).setCell (p:=⟨g,2,none⟩) hg _
def zpl (l:List UInt8) (w:World) (e:Ending) (w':World):Prop :=
 (∃ r m x,e = .returned (.tuple #[.agg #[.int .i64 r,.int .i64 m,.string x],.bool (ze4 l)])∧(ze4 l=true→zne l r m x))∧Below w.heap.size w w'
theorem read_part {l:List UInt8} (h:∀ v,atoiAll l≠.ok v):ze4 l=zdk l:=by
 have h1:=read_is l
 unfold zmc at h1
 unfold ze4
 rw[← h1]
 cases ha:atoiAll l with
 | ok v=>exact absurd ha (h v)
 | range=>unfold zdk;rw[Bool.and_comm]
 | _=>unfold zdk;rw[Bool.and_comm]
theorem zpk {l:List UInt8} {v:Int} (h:atoiAll l = .ok v):ze4 l=(decide (0≤v) && decide (v≤999999999) && decide (itoa v=l)):=by
 have h1:=read_is l
 unfold zmc at h1
 rw[h] at h1
 unfold ze4
 rw[← h1]
theorem num_part {l:List UInt8} {v:Int} (h:atoiAll l = .ok v) (hp:ze4 l=true):zne l 2 v ⟨#[]⟩:=by
 have hd:zgz l=true:=by
  unfold ze4 at hp
  cases hl:zdk l
  ·rw[hl] at hp;simpa using hp
  exfalso
  have h0:=zpk h
  rw[show ze4 l=true from hp] at h0
  have h1:=h0.symm
  simp only[Bool.and_eq_true,decide_eq_true_eq] at h1
  obtain⟨u,rfl⟩ : ∃ u:Nat,v=u:=⟨v.toNat,by omega⟩
  have h2:=h1.2
  rw[zlb] at h2
  have hk:=dec_dig u
  rw[h2] at hk
  have:=(zpo hl).1
  unfold digs at this
  rw[hk.1] at this
  have hne:=hk.2.1
  cases l with
  | nil=>exact hne rfl
  | cons _ _=>simp at this
 have e:=zq4 hd
 rw[h] at e
 injection e with e
 refine⟨(rk_dig hd).symm,?_,?_⟩
 ·rw[e];unfold zgf;rw[if_neg (by rw[(zlk hd).2.1];simp)]
 unfold zep;rw[if_neg (by rw[(zlk hd).2.1];simp)]
theorem let_part {l:List UInt8} (hp:zdk l=true) {x:ByteArray} (hx:x.data.toList=l):zne l 0 0 x :=
 ⟨(rk_let hp).symm,by unfold zgf;rw[if_pos hp],by unfold zep;rw[if_pos hp,hx]⟩
theorem read_any (s:ByteArray) (hs:s.size≤1000000) {w:World} (hD:zbz w):Calls Tryz.prog 206 #[.string s] w (zpl s.data.toList w):=by
 obtain⟨l,hl⟩ : ∃ l,l=s.data.toList:=⟨_,rfl⟩
 have hb1:Below w.heap.size w (w.alloc (.cells #[.int .i64 0,.int .i64 0,.string ⟨#[]⟩] 241)):=za1 _ _
 have hr1:(w.alloc (.cells #[.int .i64 0,.int .i64 0,.string ⟨#[]⟩] 241)).heap[w.heap.size]? = some (.cells #[.int .i64 0,.int .i64 0,.string ⟨#[]⟩] 241 (0,0)):=zag rfl
 have hA:=atoi_any s (by omega) (hD.below hb1)
 have hln:l.length=s.size:=by rw[hl];exact Txt.len s
 rw[← hl] at hA ⊢
 obtain⟨Hl,Hb1,Hr1,HA,Hln⟩:=hd5 hl hb1 hr1 hA hln;clear hl hb1 hr1 hA hln
 go_enter Tryz.func206,Tryz.ntmps206
 go_wp2_with fail
 refine HA.out.mono ?_
 rintro e w2 ⟨⟨v,hv,rfl⟩ | ⟨hv,v,N,rfl⟩,hb2⟩
 ·have hp:=zpk hv
  have hrow:=za0 hb2 Hr1.out
  have hb:=Hb1.out.trans (hb2.mono Hb1.out.size)
  have hbd:=atoiAll_bounds hv
  obtain⟨c0,c1,c2,f0,f1,f2⟩:=zc4 hrow
  have hnum:=num_part hv
  by_cases h0:0≤v
  ·by_cases h9:v≤999999999
   ·have k1:decide (0≤v)=true:=decide_eq_true h0
    have k2:decide (v≤999999999)=true:=decide_eq_true h9
    have hI:=itoa_any v (by omega) (by omega) (hD.below hb)
    have hpb:(itoa v == s.toList)=ze4 l:=by
     rw[hp,decide_eq_true h0,decide_eq_true h9,toList_data,← Hl.out]
     simp only[Bool.and_self,Bool.true_and]
     by_cases h:itoa v=l
     ·rw[h];simp
     rw[decide_eq_false h];exact beq_eq_false_iff_ne.2 h
    obtain⟨Hp,Hv,Hrow,Hb,Hbd,Hnum,HI,Hpb,H0,H9,HD,Hs⟩:=hd12 hp hv hrow hb hbd hnum hI hpb h0 h9 hD hs;clear hp hv hrow hb hbd hnum hI hpb h0 h9 hD hs
    clear c0 c1 c2 f0 f1 f2 hb2
    go_wp2_with fail
    refine HI.out.mono ?_
    rintro e w3 ⟨rfl,hb3⟩
    have hrow3:=za0 hb3 Hrow.out
    obtain⟨c0,c1,c2,f0,f1,f2⟩:=zc4 hrow3
    have hbw:=Hb.out.trans (hb3.mono Hb.out.size)
    obtain⟨Hrow3,Hbw,Hb3⟩:=hd3 hrow3 hbw hb3;clear hrow3 hbw hb3
    go_wp2_with fail
    refine zcr rfl rfl rfl (zg5 _ _ _ Hrow3.out) rfl ?_
    exact⟨⟨_,_,_,zhn Hpb.out,Hnum.out⟩,zg6 _ _ _ Hbw.out (Nat.le_refl _)⟩
   have k1:decide (0≤v)=true:=decide_eq_true h0
   have k2:decide (v≤999999999)=false:=decide_eq_false h9
   have hpb:ze4 l=false:=by rw[hp,decide_eq_false h9];simp
   obtain⟨Hp,Hv,Hrow,Hb,Hbd,Hnum,Hpb,H0,H9,HD,Hs⟩:=hd11 hp hv hrow hb hbd hnum hpb h0 h9 hD hs;clear hp hv hrow hb hbd hnum hpb h0 h9 hD hs
   go_wp2_with fail
   refine zcr rfl rfl rfl (zg5 _ _ _ Hrow.out) rfl ?_
   exact⟨⟨_,_,_,zhn Hpb.out.symm,Hnum.out⟩,zg6 _ _ _ Hb.out (Nat.le_refl _)⟩
  have k1:decide (0≤v)=false:=decide_eq_false h0
  have hpb:ze4 l=false:=by rw[hp,decide_eq_false h0];simp
  obtain⟨Hp,Hv,Hrow,Hb,Hbd,Hnum,Hpb,H0,HD,Hs⟩:=hd10 hp hv hrow hb hbd hnum hpb h0 hD hs;clear hp hv hrow hb hbd hnum hpb h0 hD hs
  go_wp2_with fail
  refine zcr rfl rfl rfl (zg5 _ _ _ Hrow.out) rfl ?_
  exact⟨⟨_,_,_,zhn Hpb.out.symm,Hnum.out⟩,zg6 _ _ _ Hb.out (Nat.le_refl _)⟩
 have hp:=read_part hv
 have hrow:=za0 hb2 Hr1.out
 have hb:=Hb1.out.trans (hb2.mono Hb1.out.size)
 obtain⟨c0,c1,c2,f0,f1,f2⟩:=zc4 hrow
 obtain⟨sz,hsz⟩ : ∃ sz,sz=s.size:=⟨_,rfl⟩
 obtain⟨Hp,Hv,Hrow,Hb,HD⟩:=hd5 hp hv hrow hb hD;clear hp hv hrow hb hD
 clear hb2
 go_wp2_with fail
 go_loop [6,30] (fun _ i=>∃ k:Nat,k≤s.size∧i = .int .i64 k∧(l.take k).all zmt=true) (fun _ i=>s.size - (RowKit.intOf i).toNat)
 case atStart=>exact⟨0,Nat.zero_le _,rfl,by simp⟩
 case round =>
  obtain⟨k,hk,rfl,hall⟩:=hrel
  by_cases hlt:k < s.size
  ·have hkl:k < l.length:=by have:=Hln.out;omega
   obtain⟨n,hn⟩ : ∃ n,n=s[k].toNat:=⟨_,rfl⟩
   have hn256:n < 256:=by rw[hn];exact s[k].toNat_lt
   have hsk:s[k].toNat=n:=hn.symm
   have e:l[k]=s[k]:=by simp only[Hl.out];rfl
   have hyes:97≤n→n≤122→(l.take (k+1)).all zmt=true:=fun h1 h2=>by
    rw[List.take_succ_eq_append_getElem hkl,List.all_append,hall]
    simp only[List.all_cons,List.all_nil,Bool.and_true,Bool.true_and]
    rw[zhb,e,hsk];exact⟨h1,h2⟩
   have hno:¬ (97≤n∧n≤122)→ze4 l=false:=fun h=>by
    rw[Hp.out,Bool.eq_false_iff]
    intro h2
    unfold zdk at h2
    rw[Bool.and_eq_true] at h2
    have:=List.all_eq_true.1 h2.2 l[k] (List.getElem_mem hkl)
    rw[zhb,e,hsk] at this
    exact h this
   clear hn e hkl
   rcases Nat.lt_or_ge n 97 with h1 | h1
   ·have hf:=hno (by omega)
    have k1:decide ((n:Int) < 97)=true:=decide_eq_true (by omega)
    obtain⟨Hall,Hyes,Hno,Hf⟩:=hd4 hall hyes hno hf;clear hall hyes hno hf
    go_wp2_with fail
    refine zcr rfl rfl rfl (zg5 _ _ _ Hrow.out) rfl ?_
    exact⟨⟨_,_,_,zhn Hf.out.symm,fun h=>by rw[Hf.out] at h;cases h⟩,zg6 _ _ _ Hb.out (Nat.le_refl _)⟩
   have k1:decide ((n:Int) < 97)=false:=decide_eq_false (by omega)
   rcases Nat.lt_or_ge 122 n with h2 | h2
   ·have hf:=hno (by omega)
    have k2:decide (122 < (n:Int))=true:=decide_eq_true (by omega)
    obtain⟨Hall,Hyes,Hno,Hf⟩:=hd4 hall hyes hno hf;clear hall hyes hno hf
    go_wp2_with fail
    refine zcr rfl rfl rfl (zg5 _ _ _ Hrow.out) rfl ?_
    exact⟨⟨_,_,_,zhn Hf.out.symm,fun h=>by rw[Hf.out] at h;cases h⟩,zg6 _ _ _ Hb.out (Nat.le_refl _)⟩
   have k2:decide (122 < (n:Int))=false:=decide_eq_false (by omega)
   have hnext:=hyes h1 h2
   obtain⟨Hall,Hyes,Hno,Hnext⟩:=hd4 hall hyes hno hnext;clear hall hyes hno hnext
   go_wp2_with fail
   go_round
   case rel=>exact⟨k+1,by omega,by go_num,Hnext.out⟩
   case measure=>simp[RowKit.intOf];omega
  obtain rfl:k=s.size:=by omega
  have hall2:l.all zmt=true:=by rw[List.take_of_length_le (by have:=Hln.out;omega)] at hall;exact hall
  have hf:ze4 l = !s.toList.isEmpty:=by
   rw[Hp.out]
   unfold zdk
   rw[hall2,Bool.and_true,Txt.no_dec]
   have:=Hln.out
   cases l with
   | nil=>simp at this;rw[decide_eq_true (by omega)];rfl
   | cons x r=>simp at this;rw[decide_eq_false (by omega)];rfl
  have hlp:ze4 l=true→zne l 0 0 s:=fun h=>let_part (by rw[← Hp.out];exact h) Hl.out.symm
  obtain⟨Hall,Hall2,Hf,Hlp⟩:=hd4 hall hall2 hf hlp;clear hall hall2 hf hlp
  go_wp2_with fail
  refine zcr rfl rfl rfl (zg5 _ _ _ Hrow.out) rfl ?_
  exact⟨⟨_,_,_,zhn Hf.out.symm,Hlp.out⟩,zg6 _ _ _ Hb.out (Nat.le_refl _)⟩
end

section
open Go.RowKit Go.Shelf
def Lets {β:Type} (b:Nat) (J:β→World→Prop):Prop:=∀ s W (i:Nat) u,J s W→J s (W.setCell ⟨b,i,none⟩ u)
def zf7 (S:Nat→Prop) (W W':World):Prop:=∀ k,S k→W'.heap[k]? = W.heap[k]?
theorem zf7.refl (S:Nat→Prop) (W:World):zf7 S W W:=fun _ _=>rfl
theorem zf7.trans {S:Nat→Prop} {A B C:World} (h:zf7 S A B) (k:zf7 S B C):zf7 S A C:=fun i hi=>(k i hi).trans (h i hi)
theorem zf7.below {S:Nat→Prop} {W W':World} (hS:∀ k,S k→k < W.heap.size) (h:Below W.heap.size W W'):zf7 S W W':=fun k hk=>h.block k (hS k hk)
theorem zf7.put {S:Nat→Prop} {W:World} {l:Nat} (h:¬ S l) (o:Obj):zf7 S W (W.putObj l o):=fun k hk=>World.putObj_heap_other (fun e=>h (by rw[← e];exact hk))
theorem zf7.set {S:Nat→Prop} {W:World} {p:Addr} (h:¬ S p.block) (u:Value):zf7 S W (W.setCell p u):=fun k hk=>Below.heap_setCell _ _ _ _ (fun e=>h (by rw[← e];exact hk))
def SeqOwn {α:Type} (F:Fence) (n:Nat) (P:Program) (g:Nat) (lb:Array Value) (enc:α→Value) (K:Nat→Prop) (b:Nat) (Px:List α→α→Prop) (S Sp:List α→Prop) (w:World):Prop :=
 ∀ (l:Nat) (J Jx:List α→World→Prop) (W:World),Below w.heap.size w W→AbidesFrom W.heap.size J→AbidesFrom W.heap.size Jx→Lets b J→Lets b Jx →
  (∀ pre x W1,J pre W1→Px pre x→YieldAt F (n - 1) P l #[enc x] W1 fun e W' =>
   (e = .returned (.bool true)∧J (pre ++ [x]) W'∧zf7 K W1 W')∨(e = .returned (.bool false)∧Jx (pre ++ [x]) W')) →
  J [] W →
  CallsIn F n P g (#[.func (.yield l) #[] #[]] ++ lb) W fun e W'=>(∃ v,e = .returned v)∧((∃ xs,S xs∧J xs W')∨(∃ pre,Sp pre∧Jx pre W'))
def ownEnd {α:Type} (B:Nat) (K:Nat→Prop) (I Ix:List α→World→Prop) (xs:List α) (W:World):Exit→Act→World→Prop
 | .normal,_,W'=>KeepsFrom B W W'∧zf7 K W W'∧I xs W'
 | .ret,_,W'=>KeepsFrom B W W'∧Ix xs W'
 | _,_,_=>False
theorem zaa {W:World} {k b i:Nat} {u:Value} {o:Obj} (h:W.heap[k]? = some o) (hne:k≠b):(W.setCell ⟨b,i,none⟩ u).heap[k]? = some o :=
 (Below.heap_setCell _ _ _ _ hne).trans h
variable {F : Fence} {n : Nat} {P : Program}
theorem zgh {α:Type} {g:Operand} {ps:Array Tmp} {assign body:Code} {Q:Exit→Act→World→Prop} {a:Act} {w:World}
  (hro:F.round=none) (h1:1≤n) {gf:Nat} {lb:Array Value} (hg:a.eval g = .func (.func gf) #[] lb) (hFg:F.fn gf) (eg:∀ args w,(callFunc gf args).run P w = .ok (.enter gf args) w)
  {enc:α→Value} {Kb:Nat→Prop} {b:Nat} {Px:List α→α→Prop} {S Sp:List α→Prop} {w0:World} (hseq:SeqOwn F (n - 1) P gf lb enc Kb b Px S Sp w0)
  (hKb:∀ k,Kb k→k < w.heap.size) (hb:b < w.heap.size) (hb0:Below w0.heap.size w0 w) (hps:ps.size=1)
  (I Ix:List α→World→Prop) (hI:OwnFrom w.heap.size I) (hIx:OwnFrom w.heap.size Ix) (hIb:Lets b I) (hIxb:Lets b Ix) (h0:I [] w) (a₁:α→Act)
  (hassign:∀ (l:Nat) (x:α) (W:World) (K:Act→World→Prop),K (a₁ x) W →
   assign.wpIn (F.inRound l) (n - 1 - 1) P (Exit.then K (fun _ _ _=>False)) { tmps:=(ps.zip #[enc x]).foldl (fun t (p,v)=>t.setIfInBounds p v) a.tmps,defers:=[] } W)
  (hbody:∀ (l:Nat) (pre:List α) (x:α) (W:World),I pre W→Px pre x→body.wpIn (F.inRound l) (n - 1 - 1) P (ownEnd w.heap.size Kb I Ix (pre ++ [x]) W) (a₁ x) W)
  (hdone:∀ (D:Nat) (xs:List α) (W:World),w.heap.size≤D→S xs→I xs W→W.heap[D]? = some (.deferred (some []))→Q .normal { a with defers:={ target:=.collected D,args:=#[] } :: a.defers } W)
  (hstop:∀ (D:Nat) (pre:List α) (W:World),w.heap.size≤D→Sp pre→Ix pre W→W.heap[D]? = some (.deferred (some []))→Code.ret.wpIn F n P Q { a with defers:={ target:=.collected D,args:=#[] } :: a.defers } W) :
  (Code.rangeFunc g ps assign body).wpIn F n P Q a w:=by
 refine wpIn_rangeFunc fun fn hfn=>?_
 rw[hro]
 obtain⟨rec,hrec⟩ : ∃ rec:LoopState→Option Code→Loop,rec=fun st pe=>{ state:=st,pending:=pe,fn,tmps:=a.tmps,params:=ps,assign,body,defers:=w.heap.size }:=⟨_,rfl⟩
 obtain⟨W1,hW1⟩ : ∃ W1,(w.alloc (.deferred (some []))).alloc (.loop (rec .ready none))=W1:=⟨_,rfl⟩
 have hL1:W1.heap[w.heap.size+1]? = some (.loop (rec .ready none)):=by
  rw[← hW1]
  have:=World.alloc_heap_new (w.alloc (.deferred (some []))) (.loop (rec .ready none))
  rwa [World.size_alloc] at this
 have hK1:W1.heap[w.heap.size]? = some (.deferred (some [])):=by
  rw[← hW1]
  exact (Below.heap_alloc _ _ _ (by simp)).trans (World.alloc_heap_new w _)
 have hI1:I [] W1:=by rw[← hW1];exact hI.alloc _ (hI.alloc _ h0)
 have hs1:W1.heap.size=w.heap.size+2:=by rw[← hW1];simp
 have hb1:Below w0.heap.size w0 W1:=by
  rw[← hW1]
  exact hb0.trans ((((Below.refl _ w).alloc (Nat.le_refl _) _).alloc (by simp) _).mono hb0.size)
 refine⟨w.heap.size+1,[{ target:=.collected w.heap.size,args:=#[] }],W1,{ target:=.fn (.func gf) lb,args:=#[.func (.yield (w.heap.size+1)) #[] #[]] },W1,gf,
  #[.func (.yield (w.heap.size+1)) #[] #[]] ++ lb,W1,?_,?_,?_,?_,fun _=>h1,?_⟩
 ·rw[← hW1,hrec];exact run_enterLoop_outer _ _ _ _ _
 ·simp only[resolve,hg]
  simp[go_sem]
 ·intro f' hf'
  simp[Target.leads] at hf'
  subst hf'
  exact hFg
 ·simp[invoke,go_sem,eg]
 -- the record and the block of what is put off lie as they lay,whatever the iterator does
 have kp:∀ {A B:World} {row:Option Nat} {k:Nat} {o:Obj},A.grownBy B row→(∀ r,row=some r→W1.heap.size≤r∧∃ o:Obj,A.heap[r]? = some o∧o.isWalk=true)→k < W1.heap.size→A.heap[k]? = some o→B.heap[k]? = some o:=fun hg' hr hk ho =>
  (hg'.block _ (Array.getElem?_eq_some_iff.1 ho).1 (fun e=>by have:=(hr _ e.symm).1;omega)).trans ho
 have nw:∀ {A:World} {row:Option Nat},(∀ r,row=some r→W1.heap.size≤r∧∃ o:Obj,A.heap[r]? = some o∧o.isWalk=true)→(∀ r,row=some r→w.heap.size≤r∧∃ o:Obj,A.heap[r]? = some o∧o.isCells=false):=fun hr r e=>by
  obtain⟨h2,o,h3,h4⟩:=hr r e
  exact⟨by omega,o,h3,Obj.not_cells_of_walk h4⟩
 refine (hseq (w.heap.size+1)
  (fun pre W=>I pre W∧W.heap[w.heap.size+1]? = some (.loop (rec .ready none))∧W.heap[w.heap.size]? = some (.deferred (some [])))
  (fun pre W=>Ix pre W∧W.heap[w.heap.size+1]? = some (.loop (rec .done (some .ret)))∧W.heap[w.heap.size]? = some (.deferred (some [])))
  W1 hb1
  (fun s A B row hs hg' hr=>⟨hI s A B row hs.1 hg' (nw hr),kp hg' hr (by omega) hs.2.1,kp hg' hr (by omega) hs.2.2⟩)
  (fun s A B row hs hg' hr=>⟨hIx s A B row hs.1 hg' (nw hr),kp hg' hr (by omega) hs.2.1,kp hg' hr (by omega) hs.2.2⟩)
  (fun s W i u hs=>⟨hIb s W i u hs.1,zaa hs.2.1 (by omega),zaa hs.2.2 (by omega)⟩)
  (fun s W i u hs=>⟨hIxb s W i u hs.1,zaa hs.2.1 (by omega),zaa hs.2.2 (by omega)⟩)
  ?_ ⟨hI1,hL1,hK1⟩).mono ?_
 · -- one round
  rintro pre x W ⟨hi,hl,hk⟩ hpx
  have hlt:w.heap.size+1 < W.heap.size:=(Array.getElem?_eq_some_iff.1 hl).1
  have hy:=run_yield (P:=P) (args:=#[enc x]) hl (by rw[hrec];exact hps.symm)
  rw[hrec] at hy
  refine⟨fn,_,assign,body,hy,roundIn_of_wpIn hfn (hassign _ x W _ ?_)⟩
  clear hy
  refine⟨_,run_beginRound hl (by rw[hrec]),?_⟩
  obtain⟨W2,hW2⟩ : ∃ W2,W2=W.putObj (w.heap.size+1) (.loop { rec .ready none with state:=.busy }):=⟨_,rfl⟩
  rw[← hW2]
  have hl2:W2.heap[w.heap.size+1]? = some (.loop { rec .ready none with state:=.busy }):=by rw[hW2];exact World.putObj_heap_same hlt
  have hk2:W2.heap[w.heap.size]? = some (.deferred (some [])):=by rw[hW2];exact (World.putObj_heap_other (by omega)).trans hk
  have hne:¬ Kb (w.heap.size+1):=fun h=>by have:=hKb _ h;omega
  have hw2:zf7 Kb W W2:=by rw[hW2];exact zf7.put hne _
  have hi2:I pre W2:=by rw[hW2];exact hI.putObj _ hi (by omega) hl rfl
  refine wpIn_mono (hbody _ pre x W2 hi2 hpx) ?_
  have fin:∀ (jump:Option Code) (W3:World),KeepsFrom w.heap.size W2 W3 →
    ∃ W4,W4=W3.putObj (w.heap.size+1) (.loop (rec (if jump.isNone then .ready else .done) jump))∧(Instr.endRound (w.heap.size+1) jump).run P W3 = .ok (.bool jump.isNone) W4 ∧
    W3.heap[w.heap.size+1]? = some (.loop { rec .ready none with state:=.busy }) ∧
    W4.heap[w.heap.size+1]? = some (.loop (rec (if jump.isNone then .ready else .done) jump))∧W4.heap[w.heap.size]? = some (.deferred (some [])):=fun jump W3 hk3=>by
   have hl3:=hk3.same _ _ (by omega) hl2 rfl
   have hr:=run_endRound (P:=P) jump hl3
   refine⟨_,rfl,?_,hl3,World.putObj_heap_same (Array.getElem?_eq_some_iff.1 hl3).1,(World.putObj_heap_other (by omega)).trans (hk3.same _ _ (Nat.le_refl _) hk2 rfl)⟩
   rw[hrec] at hr ⊢
   exact hr
  rintro e a3 W3 hp
  cases e with
  | normal =>
   obtain⟨hk3,hkp3,hi3⟩:=hp
   obtain⟨W4,e4,hr,hl3,hl4,hk4⟩:=fin none W3 hk3
   refine⟨_,_,hr,.inl ⟨rfl,⟨?_,hl4,hk4⟩,?_⟩⟩
   ·rw[e4];exact hI.putObj _ hi3 (by omega) hl3 rfl
   rw[e4];exact (hw2.trans hkp3).trans (zf7.put hne _)
  | ret =>
   obtain⟨hk3,hi3⟩:=hp
   obtain⟨W4,e4,hr,hl3,hl4,hk4⟩:=fin (some .ret) W3 hk3
   refine⟨_,_,hr,.inr ⟨rfl,?_,hl4,hk4⟩⟩
   rw[e4];exact hIx.putObj _ hi3 (by omega) hl3 rfl
  | exit id=>exact hp.elim
  | goto t=>exact hp.elim
  | panic ch=>exact hp.elim
  | outgrown=>exact hp.elim
 -- behind the iterator
 rintro e W2 ⟨⟨v,rfl⟩,(⟨xs,hS,hi,hl,hk⟩ | ⟨pre,hSp,hi,hl,hk⟩)⟩
 ·have hr:=run_endLoop (P:=P) hl (by rw[hrec];simp)
  rw[hrec] at hr
  exact⟨none,_,hr,hdone _ xs _ (Nat.le_refl _) hS (hI.putObj _ hi (by omega) hl rfl) ((World.putObj_heap_other (by omega)).trans hk)⟩
 have hr:=run_endLoop (P:=P) hl (by rw[hrec];simp)
 rw[hrec] at hr
 exact⟨some .ret,_,hr,hstop _ pre _ (Nat.le_refl _) hSp (hIx.putObj _ hi (by omega) hl rfl) ((World.putObj_heap_other (by omega)).trans hk)⟩
end

section
open Go.RowKit Go.Shelf Go.Lib VerN
attribute [local go_sem] Oper.semAt_some
structure SBox (Bs Bp Bv:Nat) (c:UInt8) (r:ByteArray) (W:World):Prop where
 s:W.heap[Bs]? = some (.cells #[.string r] 9 (0,0))
 p:W.heap[Bp]? = some (.cells #[.string ⟨#[c]⟩] 9 (0,0))
 v:W.heap[Bv]? = some (.cells #[.int .i64 0] 3 (0,0))
theorem SBox.below {Bs Bp Bv n₀:Nat} {c:UInt8} {r:ByteArray} {W W':World} (h:SBox Bs Bp Bv c r W) (hb:Below n₀ W W') (h1:Bs < n₀) (h2:Bp < n₀) (h3:Bv < n₀):SBox Bs Bp Bv c r W' :=
 ⟨(hb.block _ h1).trans h.s,(hb.block _ h2).trans h.p,(hb.block _ h3).trans h.v⟩
abbrev Three (Bs Bp Bv:Nat) (k:Nat):Prop:=k=Bs∨k=Bp∨k=Bv
theorem SBox.keeps {Bs Bp Bv:Nat} {c:UInt8} {r:ByteArray} {W W':World} (h:SBox Bs Bp Bv c r W) (hk:zf7 (Three Bs Bp Bv) W W'):SBox Bs Bp Bv c r W' :=
 ⟨(hk _ (.inl rfl)).trans h.s,(hk _ (.inr (.inl rfl))).trans h.p,(hk _ (.inr (.inr rfl))).trans h.v⟩
theorem SBox.set {Bs Bp Bv:Nat} {c:UInt8} {r:ByteArray} {W:World} (h:SBox Bs Bp Bv c r W) (hp:Bp≠Bs) (hv:Bv≠Bs) (r':ByteArray):SBox Bs Bp Bv c r' (W.setCell ⟨Bs,0,none⟩ (.string r')) :=
 ⟨heap_setCell_same _ Bs 0 _ _ _ h.s,zaa h.p hp,zaa h.v hv⟩
theorem SBox.cells {Bs Bp Bv:Nat} {c:UInt8} {r:ByteArray} {W:World} (h:SBox Bs Bp Bv c r W) :
  W.cell? ⟨Bs,0,none⟩=some (.string r)∧W.cell? ⟨Bp,0,none⟩=some (.string ⟨#[c]⟩)∧W.cell? ⟨Bv,0,none⟩=some (.int .i64 0)∧W.frozen? ⟨Bs,0,none⟩=false :=
 ⟨za2 h.s 0,za2 h.p 0,za2 h.v 0,za5 h.s 0⟩
def left (Bs:Nat) (W:World):Nat:=match W.cell? ⟨Bs,0,none⟩ with
 | some (.string r)=>r.size
 | _=>0
theorem left_is {Bs Bp Bv:Nat} {c:UInt8} {r:ByteArray} {W:World} (h:SBox Bs Bp Bv c r W):left Bs W=r.size:=by unfold left;rw[h.cells.1]
theorem zpm {pre zs rest:List ByteArray} {x:ByteArray} (h:zs=pre ++ x :: rest):pre ++ [x] <+: zs:=⟨rest,by rw[h];simp⟩
theorem ziw (n:Nat) (hn:1≤n) (Bs Bp Bv:Nat) (c:UInt8) (s:ByteArray) (hs:s.size≤1000000) (w:World) (h1:Bs < w.heap.size) (h2:Bp < w.heap.size) (h3:Bv < w.heap.size) (hp:Bp≠Bs) (hv:Bv≠Bs) (hb:SBox Bs Bp Bv c s w) :
  SeqOwn Fence.wide n Tryz.prog 167 #[.pointer (some ⟨Bp,0,none⟩),.pointer (some ⟨Bs,0,none⟩),.pointer (some ⟨Bv,0,none⟩)] (fun x:ByteArray=>Value.string x) (Three Bs Bp Bv) Bs (fun pre x=>x.size≤s.size∧pre ++ [x] <+: cutS c s) (fun ys=>ys=cutS c s) (fun pre=>pre <+: cutS c s) w:=by
 intro l J Jx W hW hJ hJx hL hLx hY h0
 obtain⟨zs,hzs⟩ : ∃ zs,zs=cutS c s:=⟨_,rfl⟩
 rw[← hzs]
 have hb0:SBox Bs Bp Bv c s W:=hb.below hW h1 h2 h3
 obtain⟨d1,d2,d3,d4⟩:=hb0.cells
 have hc1:((1:Int) == 0)=false:=rfl
 obtain⟨Hzs,Hb,Hb0,HW,HJ,HJx,HL,HLx⟩:=hd8 hzs hb hb0 hW hJ hJx hL hLx;clear hzs hb hb0 hW hJ hJx hL hLx
 refine callsIn_of_wp Tryz.func167 rfl trivial ?_ rfl
 simp only[Tryz.ntmps167,List.size_toArray,List.length_cons,List.length_nil,Nat.reduceAdd,Nat.reduceSub,Array.replicate_succ,Array.replicate_zero,List.push_toArray,List.append_toArray,List.nil_append,List.cons_append]
 gi_wp2
 gi_loopw [7,8] (fun _ _ wr=>∃ (pre:List ByteArray) (r:ByteArray),zs=pre ++ cutS c r∧SBox Bs Bp Bv c r wr∧J pre wr∧r.size≤s.size) (fun _ _ wr=>left Bs wr)
 case atStart=>exact⟨[],s,Hzs.out,Hb0.out,h0,Nat.le_refl _⟩
 case round =>
  obtain⟨pre,r,hz,hbx,hJs,hr⟩:=hrel
  obtain⟨d1,d2,d3,d4⟩:=hbx.cells
  have hl:=left_is hbx
  have hI:=Tryz.strings_Index_one r c wr
  obtain⟨v,hvd⟩ : ∃ v,v=indexByte r.data.toList c:=⟨_,rfl⟩
  rw[← hvd] at hI
  by_cases hm:v = -1
  ·have hzz:zs=pre ++ [r]:=by rw[hz,cutS_miss (by rw[← hvd,hm])]
   obtain⟨fn,tmps,assign,body,hy,hR⟩:=hY pre r wr hJs ⟨hr,by rw[← Hzs.out,hzz];exact List.prefix_refl _⟩
   have k1:decide (v < 0)=true:=decide_eq_true (by omega)
   obtain⟨Hz,Hzz,Hbx,HJs,Hr,Hl,Hvd,HI,Hm⟩:=hd9 hz hzz hbx hJs hr hl hvd hI hm;clear hz hzz hbx hJs hr hl hvd hI hm
   gi_wp2
   refine⟨trivial,(callsIn_wide.2 HI.out).mono ?_⟩
   rintro e w2 ⟨rfl,rfl⟩
   gi_wp2
   refine hR.mono ?_
   rintro e W3 (⟨rfl,hJ3,hk3⟩ | ⟨rfl,hJx3⟩)
   ·gi_wp2
    go_end0
    exact⟨⟨_,rfl⟩,.inl ⟨_,Hzz.out.symm,hJ3⟩⟩
   gi_wp2
   go_end0
   exact⟨⟨_,rfl⟩,.inr ⟨_,by rw[Hzz.out];exact List.prefix_refl _,hJx3⟩⟩
  obtain⟨i,hi⟩ : ∃ i:Nat,v=i:=⟨v.toNat,by have:=indexByte_ge r.data.toList c;omega⟩
  subst hi
  have hlt:=index_lt hvd.symm
  rw[Txt.len] at hlt
  have hz2:zs=pre ++ r.extract 0 i :: cutS c (r.extract (i+1) r.size):=by rw[hz,cutS_hit hvd.symm]
  obtain⟨fn,tmps,assign,body,hy,hR⟩:=hY pre (r.extract 0 i) wr hJs ⟨by simp;omega,by rw[← Hzs.out];exact zpm hz2⟩
  have k1:decide ((i:Int) < 0)=false:=decide_eq_false (by omega)
  have k2:(i:Int)≤(r.size:Int):=by omega
  have hsz:(r.extract (i+1) r.size).size=r.size - (i+1):=by simp
  obtain⟨Hz,Hz2,Hbx,HJs,Hl,Hvd,HI,Hm,Hsz⟩:=hd9 hz hz2 hbx hJs hl hvd hI hm hsz;clear hz hz2 hbx hJs hl hvd hI hm hsz
  gi_wp2
  refine⟨trivial,(callsIn_wide.2 HI.out).mono ?_⟩
  rintro e w2 ⟨rfl,rfl⟩
  gi_wp2
  refine hR.mono ?_
  rintro e W3 (⟨rfl,hJ3,hk3⟩ | ⟨rfl,hJx3⟩)
  ·have hb3:=Hbx.out.keeps hk3
   obtain⟨d1,d2,d3,d4⟩:=hb3.cells
   obtain⟨Hb3,HJ3,Hk3⟩:=hd3 hb3 hJ3 hk3;clear hb3 hJ3 hk3
   gi_wp2
   go_roundw
   case rel=>exact⟨pre ++ [r.extract 0 i],r.extract (i+1) r.size,by rw[Hz2.out];simp,Hb3.out.set hp hv _,HL.out _ _ 0 _ HJ3.out,by rw[Hsz.out];omega⟩
   case measure=>rw[left_is (Hb3.out.set hp hv _),Hl.out,Hsz.out];omega
  gi_wp2
  refine bodyPost_ret (results_none rfl _ _ _) rfl ?_
  exact⟨⟨_,rfl⟩,.inr ⟨_,zpm Hz2.out,hJx3⟩⟩
end

section
open Go.RowKit
theorem zby {P:Program} {fn:Func} {p q:Tmp} {ty tz:TypeId} (h:fn.results=#[.cell p ty,.cell q tz]) {tmps:Array Value} {w:World} {a b:Nat} {x y:Value} {ex ey:TypeId}
  (hp:tmps.getD p undef = .pointer (some ⟨a,0,none⟩)) (hq:tmps.getD q undef = .pointer (some ⟨b,0,none⟩))
  (hx:w.heap[a]? = some (.cells #[x] ex (0,0))) (hy:w.heap[b]? = some (.cells #[y] ey (0,0)))
  (ax:(isAgg ty).run P w = .ok false w) (ay:(isAgg tz).run P w = .ok false w) :
  (results fn tmps).run P w = .ok (.tuple #[x,y]) w:=by
 have cx:w.cell? ⟨a,0,none⟩=some x:=za2 hx 0
 have cy:w.cell? ⟨b,0,none⟩=some y:=za2 hy 0
 have hp':tmps[p]?.getD undef = .pointer (some ⟨a,0,none⟩):=by simpa using hp
 have hq':tmps[q]?.getD undef = .pointer (some ⟨b,0,none⟩):=by simpa using hq
 simp only[results,h]
 simp[Sem.run_bind,Result.andThen,go_sem,hp',hq',ax,ay,cx,cy]
end

section
open Go.RowKit Go.Shelf Go.Lib VerN
attribute [local go_sem] Oper.semAt_some
abbrev zmx:Nat:=167
def zde (l:List UInt8):List Value:=[.int .i64 (zdl l),.int .i64 (zgf l),.string ⟨(zep l).toArray⟩]
def zbm (ps:List (List UInt8)):List Value:=ps.flatMap zde
theorem zj8 (ps:List (List UInt8)) (l:List UInt8):zbm (ps ++ [l])=zbm ps ++ zde l:=by simp[zbm]
theorem zqr {l:List UInt8} {r m:Int} {x:ByteArray} (h:zne l r m x):zde l = [.int .i64 r,.int .i64 m,.string x]:=by
 obtain⟨rfl,rfl,h⟩:=h
 unfold zde
 rw[← h]
theorem zhw (s:ByteArray) (c:UInt8) (w:World):Calls Tryz.prog 52 #[.string s,.string ⟨#[c]⟩] w fun e w' =>
  e = .returned (.func (.func zmx) #[] #[.pointer (some ⟨w.heap.size+1,0,none⟩),.pointer (some ⟨w.heap.size,0,none⟩),.pointer (some ⟨w.heap.size+1+1,0,none⟩)]) ∧
  w'=((w.alloc (.cells #[.string s] 9)).alloc (.cells #[.string ⟨#[c]⟩] 9)).alloc (.cells #[.int .i64 0] 3):=by
 go_enter Tryz.func52,Tryz.ntmps52
 go_wp2
 go_ret
 exact⟨rfl,rfl⟩
structure PI (w W:World) (pre:List ByteArray):Prop where
 bel:Below w.heap.size w W
 r2:W.heap[w.heap.size]? = some (.cells #[.slice none 0 0] 224 (0,0))
 r3:W.heap[w.heap.size+1]? = some (.cells #[.bool false] 4 (0,0))
 out:∃ v,W.heap[w.heap.size+1+1]? = some (.cells #[v] 224 (0,0))∧W.ownsRow (w.heap.size+6) 241 3 v pre.length (zbm (pre.map (·.data.toList)))
 ok:∀ p∈pre,ze4 p.data.toList=true
 len:pre.length≤8
structure PX (w W:World) (pre:List ByteArray):Prop where
 bel:Below w.heap.size w W
 r2:W.heap[w.heap.size]? = some (.cells #[.slice none 0 0] 224 (0,0))
 r3:W.heap[w.heap.size+1]? = some (.cells #[.bool false] 4 (0,0))
 bad:(∃ p∈pre,ze4 p.data.toList=false)∨8 < pre.length
theorem zcy {W W':World} {row:Option Nat} {k:Nat} {o:Obj} {B:Nat} (hg:W.grownBy W' row) (hr:∀ r,row=some r→B≤r) (hk:k < B) (h:W.heap[k]? = some o):W'.heap[k]? = some o :=
 (hg.block k (Array.getElem?_eq_some_iff.1 h).1 (fun e=>by have:=hr k e.symm;omega)).trans h
theorem zew {B:Nat} (m:Nat):OwnFrom B (fun (_:List ByteArray) W=>m≤W.heap.size):=fun _ _ _ _ h hg _=>Nat.le_trans h hg.size
theorem PI.own {w:World} {B:Nat} (hB:w.heap.size+6≤B):OwnFrom B (fun (pre:List ByteArray) W=>PI w W pre):=by
 rintro pre W W' row h hg hr
 have hr':∀ r,row=some r→B≤r:=fun r e=>(hr r e).1
 obtain⟨v,hv,hrow⟩:=h.out
 refine⟨h.bel.grown hg h.bel.size (fun k e=>by have:=hr' k e;omega),zcy hg hr' (by omega) h.r2,zcy hg hr' (by omega) h.r3,⟨v,zcy hg hr' (by omega) hv,hrow.kept hg ?_⟩,h.ok,h.len⟩
 rcases hrow.2 with⟨rfl,_⟩ | ⟨g,cap,cur,rfl,_,hgb,_⟩
 ·exact .inl rfl
 refine .inr fun e'=>?_
 obtain⟨_,o,ho,hc⟩:=hr g (by simpa [Value.ownBlock] using e'.symm)
 rw[hgb] at ho
 cases ho
 cases hc
theorem PX.own {w:World} {B:Nat} (hB:w.heap.size+6≤B):OwnFrom B (fun (pre:List ByteArray) W=>PX w W pre):=by
 rintro pre W W' row h hg hr
 have hr':∀ r,row=some r→B≤r:=fun r e=>(hr r e).1
 exact⟨h.bel.grown hg h.bel.size (fun k e=>by have:=hr' k e;omega),zcy hg hr' (by omega) h.r2,zcy hg hr' (by omega) h.r3,h.bad⟩
theorem zeh {W:World} {B:Nat} {e:TypeId} {size:Nat} {v:Value} {n:Nat} {xs:List Value} (h:W.ownsRow B e size v n xs) {p:Nat} (hp:p < B) (i:Nat) (u:Value):(W.setCell ⟨p,i,none⟩ u).ownsRow B e size v n xs:=by
 refine h.kept (row:=some p) ⟨rfl,rfl,rfl,by simp[World.setCell],fun k _ hk=>Below.heap_setCell _ _ _ _ (fun e=>hk (by rw[e]))⟩ ?_
 rcases h.2 with⟨rfl,_⟩ | ⟨g,cap,cur,rfl,hg,_⟩
 ·exact .inl rfl
 exact .inr fun e'=>by simp[Value.ownBlock] at e';omega
theorem PI.lets (w:World):Lets (w.heap.size+1+1+1) (fun (pre:List ByteArray) W=>PI w W pre):=by
 rintro pre W i u h
 obtain⟨v,hv,hrow⟩:=h.out
 exact⟨h.bel.setCell (p:=⟨w.heap.size+1+1+1,i,none⟩) (by show w.heap.size≤w.heap.size+1+1+1;omega) _,zaa h.r2 (by omega),zaa h.r3 (by omega),⟨v,zaa hv (by omega),zeh hrow (by omega) i u⟩,h.ok,h.len⟩
theorem PX.lets (w:World):Lets (w.heap.size+1+1+1) (fun (pre:List ByteArray) W=>PX w W pre):=by
 rintro pre W i u h
 exact⟨h.bel.setCell (p:=⟨w.heap.size+1+1+1,i,none⟩) (by show w.heap.size≤w.heap.size+1+1+1;omega) _,zaa h.r2 (by omega),zaa h.r3 (by omega),h.bad⟩
abbrev sb (w:World):Nat→Prop:=Three (w.heap.size+1+1+1) (w.heap.size+1+1+1+1) (w.heap.size+1+1+1+1+1)
theorem zdi {B:Nat} {W W':World} (h:Below W.heap.size W W'):KeepsFrom B W W':=⟨h.size,fun k o _ hk _=>za0 h hk⟩
theorem PI.size {w W:World} {pre:List ByteArray} (h:PI w W pre) (hs:w.heap.size+6≤W.heap.size):∀ k,sb w k→k < W.heap.size:=by
 rintro k (rfl | rfl | rfl) <;> omega
theorem lit3 (w:World) (x y z:Value) (t:TypeId) {n:Nat} (hn:w.heap.size=n):∀ j u,[x,y,z][j]? = some u→(w.alloc (.cells #[x,y,z] t)).cell? ((⟨n,0,none⟩ : Addr).add j)=some u:=by
 intro j u hu
 subst hn
 rw[Addr.add_lit,Nat.zero_add,World.cell?_alloc_new]
 simpa using hu
theorem PI.add {w W W3 w1:World} {pre:List ByteArray} {x:ByteArray} {tmp:Obj} {B:Nat} (h:PI w W pre) (hs:w.heap.size+6≤W.heap.size) (hb:Below W.heap.size W W3) {v v':Value}
  (hv:W.heap[w.heap.size+1+1]? = some (.cells #[v] 224 (0,0))) (hrow:W.ownsRow (w.heap.size+6) 241 3 v pre.length (zbm (pre.map (·.data.toList))))
  (hown:w1.ownsRow (w.heap.size+6) 241 3 v' (pre.length+1) (zbm (pre.map (·.data.toList)) ++ zde x.data.toList)) (hg:(W3.alloc tmp).grownBy w1 v.ownBlock) (hx:ze4 x.data.toList=true) (h8:pre.length≠8) :
  KeepsFrom B W (w1.setCell ⟨w.heap.size+1+1,0,none⟩ v')∧zf7 (sb w) W (w1.setCell ⟨w.heap.size+1+1,0,none⟩ v')∧PI w (w1.setCell ⟨w.heap.size+1+1,0,none⟩ v') (pre ++ [x])∧w1.heap[w.heap.size+1+1]? = some (.cells #[v] 224 (0,0))∧w.heap.size+6≤(w1.setCell ⟨w.heap.size+1+1,0,none⟩ v').heap.size:=by
 have hb3:Below W.heap.size W (W3.alloc tmp):=hb.alloc hb.size _
 have hrow3:(W3.alloc tmp).ownsRow (w.heap.size+6) 241 3 v pre.length (zbm (pre.map (·.data.toList))):=za6 hrow hb3
 have old:∀ {k:Nat} {o:Obj},k < w.heap.size+6→W.heap[k]? = some o→w1.heap[k]? = some o:=fun {k o} hk ho =>
  (hg.block k (by have:=hb3.size;have:=(Array.getElem?_eq_some_iff.1 ho).1;omega) (fun e=>by have:=(hrow3.lt k e.symm).1;omega)).trans (za0 hb3 ho)
 refine⟨?_,?_,⟨?_,zaa (old (by omega) h.r2) (by omega),zaa (old (by omega) h.r3) (by omega),⟨v',heap_setCell_same _ _ 0 _ _ _ (old (by omega) hv),?_⟩,?_,?_⟩,old (by omega) hv,by have:=hg.size;have:=hb3.size;simp[World.setCell];omega⟩
 ·have k1:KeepsFrom B W (W3.alloc tmp):=zdi hb3
  have k2:KeepsFrom B (W3.alloc tmp) w1:=⟨hg.size,fun k o _ hk hc=>(hg.block k (Array.getElem?_eq_some_iff.1 hk).1 (fun e=>by
   obtain⟨cs,hcs⟩:=zbt hrow3 k e.symm
   rw[hcs] at hk
   cases hk
   cases hc)).trans hk⟩
  exact (k1.trans k2).trans ((KeepsOthers.setCell _ _ _).from B)
 ·intro k hk
  have hlt:=h.size hs k hk
  have hlt6:k < w.heap.size+6:=by rcases hk with rfl | rfl | rfl <;> omega
  have hne:k≠w.heap.size+1+1:=by rcases hk with h | h | h <;> omega
  rw[Below.heap_setCell _ _ _ _ hne]
  cases ho:W.heap[k]? with
  | none=>exact absurd ho (by rw[Array.getElem?_eq_getElem hlt];simp)
  | some o=>exact old hlt6 ho
 ·exact ((h.bel.trans (hb3.mono h.bel.size)).grown hg (by have:=hb3.size;have:=h.bel.size;omega) (fun k e=>by have:=(hrow3.lt k e).1;omega)).setCell (p:=⟨w.heap.size+1+1,0,none⟩) (by show w.heap.size≤w.heap.size+1+1;omega) _
 ·rw[List.map_append,List.map_singleton,zj8,List.length_append]
  exact zeh hown (by omega) 0 v'
 ·intro p hp
  rcases List.mem_append.1 hp with hp | hp
  ·exact h.ok p hp
  rw[List.mem_singleton] at hp;subst hp;exact hx
 have:=h.len;rw[List.length_append,List.length_singleton];omega
theorem PI.no {w W W3:World} {pre:List ByteArray} {x:ByteArray} {B:Nat} (h:PI w W pre) (hs:w.heap.size+6≤W.heap.size) (hb:Below W.heap.size W W3) (hx:ze4 x.data.toList=false∨pre.length=8) :
  KeepsFrom B W ((W3.setCell ⟨w.heap.size,0,none⟩ (.slice none 0 0)).setCell ⟨w.heap.size+1,0,none⟩ (.bool false))∧PX w ((W3.setCell ⟨w.heap.size,0,none⟩ (.slice none 0 0)).setCell ⟨w.heap.size+1,0,none⟩ (.bool false)) (pre ++ [x]):=by
 refine⟨((zdi hb).trans ((KeepsOthers.setCell _ _ _).from B)).trans ((KeepsOthers.setCell _ _ _).from B),?_,?_,?_,?_⟩
 ·exact (((h.bel.trans (hb.mono h.bel.size)).setCell (p:=⟨w.heap.size,0,none⟩) (Nat.le_refl _) _).setCell (p:=⟨w.heap.size+1,0,none⟩) (by show w.heap.size≤w.heap.size+1;omega) _)
 ·exact zaa (heap_setCell_same _ _ 0 _ _ _ (za0 hb h.r2)) (by omega)
 ·exact heap_setCell_same _ _ 0 _ _ _ (zaa (za0 hb h.r3) (by omega))
 rcases hx with hx | hx
 ·exact .inl ⟨x,by simp,hx⟩
 right;rw[List.length_append,List.length_singleton];omega
theorem info_part:(Tryz.prog.info? 241).map (fun i=>(i.zero,i.size,i.bytes))=some (some (.agg #[.int .i64 0,.int .i64 0,.string ⟨#[]⟩]),3,32):=by kernel_rfl
def zj7 (l:List UInt8) (w:World) (e:Ending) (w':World):Prop :=
 ∃ v,e = .returned (.tuple #[v,.bool (mayL l)])∧(mayL l=true→w'.ownsRow w.heap.size 241 3 v (cutL 46 l).length (zbm (cutL 46 l)))∧(mayL l=false→v = .slice none 0 0)∧Below w.heap.size w w'
theorem may_no {s:ByteArray} {pre:List ByteArray} (h:pre <+: cutS 46 s) (hb:(∃ p∈pre,ze4 p.data.toList=false)∨8 < pre.length):mayL s.data.toList=false:=by
 rw[Bool.eq_false_iff]
 intro hm
 obtain⟨_,_,h1,h2⟩:=(zfe _).1 hm
 rcases hb with⟨p,hp,hf⟩ | hb
 ·have:=h1 p.data.toList (by rw[← zjl];exact List.mem_map.2 ⟨p,h.subset hp,rfl⟩)
  rw[hf] at this;cases this
 have:=h.length_le
 rw[zhd] at this
 omega
theorem may_yes {s:ByteArray} (h0:s.size≠0) (h40:s.size≤40) (hok:∀ p∈cutS 46 s,ze4 p.data.toList=true) (hl:(cutS 46 s).length≤8):mayL s.data.toList=true:=by
 rw[zfe]
 refine⟨fun e=>h0 (by rw[← Txt.len,e];rfl),by rw[Txt.len];exact h40,fun p hp=>?_,by rw[← zhd];exact hl⟩
 rw[← zjl] at hp
 obtain⟨x,hx,rfl⟩:=List.mem_map.1 hp
 exact hok x hx
theorem zj6 (s:ByteArray) (hs:s.size≤1000000) {w:World} (hD:zbz w):Calls Tryz.prog 175 #[.string s] w (zj7 s.data.toList w):=by
 refine (callsIn_wide (n:=8)).1 ?_
 refine callsIn_of_wp_marks Tryz.func175 rfl trivial ?_ rfl
 simp only[Tryz.ntmps175,List.size_toArray,List.length_cons,List.length_nil,Nat.reduceAdd,Nat.reduceSub,Array.replicate_succ,Array.replicate_zero,List.push_toArray,List.append_toArray,List.nil_append,List.cons_append]
 by_cases h0:s.size=0
 ·have k1:s.toList.isEmpty=true:=by rw[Txt.no_dec,decide_eq_true h0]
  have hm:mayL s.data.toList=false:=by
   rw[Bool.eq_false_iff]
   intro h
   exact ((zfe _).1 h).1 (List.length_eq_zero_iff.1 (by rw[Txt.len];exact h0))
  obtain⟨Hm,HD⟩:=hd2 hm hD;clear hm hD
  gi_wp2
  refine⟨_,zby rfl rfl rfl (za0 (za1 _ _) (zag rfl)) (zag (by simp)) (Tryz.isAgg224 _) (Tryz.isAgg4 _),?_⟩
  refine⟨_,by rw[Hm.out],fun h=>(by rw[Hm.out] at h;cases h),fun _=>rfl,((Below.refl _ w).alloc (Nat.le_refl _) _).alloc (by simp) _⟩
 by_cases h40:40 < s.size
 ·have k1:s.toList.isEmpty=false:=by rw[Txt.no_dec,decide_eq_false h0]
  have k2:decide ((40:Int) < (s.size:Int))=true:=decide_eq_true (by omega)
  have hm:mayL s.data.toList=false:=by
   rw[Bool.eq_false_iff]
   intro h
   have:=((zfe _).1 h).2.1
   rw[Txt.len] at this
   omega
  obtain⟨Hm,HD⟩:=hd2 hm hD;clear hm hD
  gi_wp2
  refine⟨_,zby rfl rfl rfl (za0 (za1 _ _) (zag rfl)) (zag (by simp)) (Tryz.isAgg224 _) (Tryz.isAgg4 _),?_⟩
  refine⟨_,by rw[Hm.out],fun h=>(by rw[Hm.out] at h;cases h),fun _=>rfl,((Below.refl _ w).alloc (Nat.le_refl _) _).alloc (by simp) _⟩
 have k1:s.toList.isEmpty=false:=by rw[Txt.no_dec,decide_eq_false h0]
 have k2:decide ((40:Int) < (s.size:Int))=false:=decide_eq_false (by omega)
 have hq:=zhw s 46 (((w.alloc (.cells #[.slice none 0 0] 224)).alloc (.cells #[.bool false] 4)).alloc (.cells #[.slice none 0 0] 224))
 obtain⟨Hq,HD⟩:=hd2 hq hD;clear hq hD
 gi_wp2
 refine⟨trivial,(callsIn_wide.2 Hq.out).mono ?_⟩
 rintro e w2 ⟨rfl,rfl⟩
 gi_wp2
 have hsb:SBox (w.heap.size+1+1+1) (w.heap.size+1+1+1+1) (w.heap.size+1+1+1+1+1) 46 s ((((((w.alloc (.cells #[.slice none 0 0] 224)).alloc (.cells #[.bool false] 4)).alloc (.cells #[.slice none 0 0] 224)).alloc (.cells #[.string s] 9)).alloc (.cells #[.string ⟨#[46]⟩] 9)).alloc (.cells #[.int .i64 0] 3)):=by
  have a1:=zag (w:=(((w.alloc (.cells #[.slice none 0 0] 224)).alloc (.cells #[.bool false] 4)).alloc (.cells #[.slice none 0 0] 224))) (o:=.cells #[.string s] 9) (n:=w.heap.size+1+1+1) (by simp)
  have a2:=zag (w:=((((w.alloc (.cells #[.slice none 0 0] 224)).alloc (.cells #[.bool false] 4)).alloc (.cells #[.slice none 0 0] 224)).alloc (.cells #[.string s] 9))) (o:=.cells #[.string ⟨#[46]⟩] 9) (n:=w.heap.size+1+1+1+1) (by simp)
  have a3:=zag (w:=(((((w.alloc (.cells #[.slice none 0 0] 224)).alloc (.cells #[.bool false] 4)).alloc (.cells #[.slice none 0 0] 224)).alloc (.cells #[.string s] 9)).alloc (.cells #[.string ⟨#[46]⟩] 9))) (o:=.cells #[.int .i64 0] 3) (n:=w.heap.size+1+1+1+1+1) (by simp)
  exact⟨za0 (za1 _ _) (za0 (za1 _ _) a1),za0 (za1 _ _) a2,a3⟩
 obtain⟨W0,hW0⟩ : ∃ W0,W0=((((((w.alloc (.cells #[.slice none 0 0] 224)).alloc (.cells #[.bool false] 4)).alloc (.cells #[.slice none 0 0] 224)).alloc (.cells #[.string s] 9)).alloc (.cells #[.string ⟨#[46]⟩] 9)).alloc (.cells #[.int .i64 0] 3)):=⟨_,rfl⟩
 have hs0:W0.heap.size=w.heap.size+6:=by rw[hW0];simp
 rw[← hW0] at hsb ⊢
 have hPI:PI w W0 []:=by
  rw[hW0]
  have k1:∀ {w':World} {o:Obj} {k:Nat} {o':Obj},w'.heap[k]? = some o→(w'.alloc o').heap[k]? = some o:=fun h=>za0 (za1 _ _) h
  refine⟨(((((((Below.refl _ w).alloc (Nat.le_refl _) _).alloc (by simp) _).alloc (by simp;omega) _).alloc (by simp;omega) _).alloc (by simp;omega) _).alloc (by simp;omega) _),k1 (k1 (k1 (k1 (k1 (zag rfl))))),k1 (k1 (k1 (k1 (zag (by simp))))),⟨_,k1 (k1 (k1 (zag (by simp)))),World.ownsRow_nil _ _ _ _⟩,(fun p hp=>by cases hp),Nat.zero_le _⟩
 have HW0:=hd hW0;clear hW0
 refine zgh rfl (by omega) (gf:=zmx) rfl trivial (enters_of Tryz.func167 (by kernel_rfl) rfl) (ziw 7 (by omega) _ _ _ 46 s hs W0 (by omega) (by omega) (by omega) (by omega) (by omega) hsb)
  (fun k hk=>by rcases hk with h | h | h <;> omega) (by omega) (Below.refl _ _) rfl
  (fun pre W=>w.heap.size+6≤W.heap.size∧PI w W pre) (fun pre W=>w.heap.size+6≤W.heap.size∧PX w W pre) (OwnFrom.and (zew _) (PI.own (by omega))) (OwnFrom.and (zew _) (PX.own (by omega))) (fun pre W i u h=>⟨by simp[World.setCell];exact h.1,PI.lets w pre W i u h.2⟩) (fun pre W i u h=>⟨by simp[World.setCell];exact h.1,PX.lets w pre W i u h.2⟩) ⟨by omega,hPI⟩
  (fun x=>{ tmps:=#[.string s,undef,.pointer (some ⟨w.heap.size,0,none⟩),.pointer (some ⟨w.heap.size+1,0,none⟩),.pointer (some ⟨w.heap.size+1+1,0,none⟩),.string x,undef,undef,.string s,.bool false,.bool false,.string s,.int .i64 (s.size:Int),.bool false,.bool false,.string s,
   .func (.func zmx) #[] #[.pointer (some ⟨w.heap.size+1+1+1+1,0,none⟩),.pointer (some ⟨w.heap.size+1+1+1,0,none⟩),.pointer (some ⟨w.heap.size+1+1+1+1+1,0,none⟩)],.string x,undef,undef,undef,undef,undef,undef,undef,undef,undef,undef,undef,undef,undef,undef,undef,undef,undef],defers:=[] }) ?assign ?body ?done ?stop
 case assign =>
  intro l x W K hK
  gi_wp2
  exact hK
 case body =>
  rintro l pre x W ⟨hsz,h⟩ ⟨hx,_⟩
  obtain⟨v,hv,hrow⟩:=h.out
  obtain⟨a,cap,rfl⟩:=za9 hrow
  have hR:=read_any x (by omega) (HD.out.below h.bel)
  obtain⟨b,hb⟩ : ∃ b,b=ze4 x.data.toList:=⟨_,rfl⟩
  obtain⟨m,hm⟩ : ∃ m,m=pre.length:=⟨_,rfl⟩
  have c0:W.cell? ⟨w.heap.size+1+1,0,none⟩=some (.slice a pre.length cap):=za2 hv 0
  unfold zpl at hR
  rw[← hb] at hR
  obtain⟨Hv,Hrow,HR,Hh,Hc0,Hx⟩:=hd6 hv hrow hR h c0 hx;clear hv hrow hR h c0 hx
  gi_wp2
  refine⟨trivial,(CallsIn.inRound l (callsIn_wide.2 HR.out)).mono ?_⟩
  rintro e W2 ⟨⟨r,q,y,rfl,hpt⟩,hb2⟩
  have hb3:Below W.heap.size W (W2.alloc (.cells #[.int .i64 r,.int .i64 q,.string y] 241)):=hb2.alloc hb2.size _
  have r2:=za0 hb3 Hh.out.r2
  have r3:=za0 hb3 Hh.out.r3
  have d0:(W2.alloc (.cells #[.int .i64 r,.int .i64 q,.string y] 241)).cell? ⟨w.heap.size+1+1,0,none⟩=some (.slice a pre.length cap):=cell_later hb3 Hc0.out
  have d1:(W2.alloc (.cells #[.int .i64 r,.int .i64 q,.string y] 241)).cell? ⟨w.heap.size,0,none⟩=some (.slice none 0 0):=za2 r2 0
  have d2:(W2.alloc (.cells #[.int .i64 r,.int .i64 q,.string y] 241)).cell? ⟨w.heap.size+1,0,none⟩=some (.bool false):=za2 r3 0
  have f1:=za5 r2 0
  have f2:=za5 r3 0
  obtain⟨Hb2,Hb3,Hr2,Hr3,Hpt,Hb,Hm⟩:=hd7 hb2 hb3 r2 r3 hpt hb hm;clear hb2 hb3 r2 r3 hpt hb hm
  clear Hq
  cases b with
  | false =>
   have hno:=Hh.out.no (B:=W0.heap.size) hsz Hb3.out (.inl Hb.out.symm)
   have hs3:w.heap.size+6≤(((W2.alloc (.cells #[.int .i64 r,.int .i64 q,.string y] 241)).setCell ⟨w.heap.size,0,none⟩ (.slice none 0 0)).setCell ⟨w.heap.size+1,0,none⟩ (.bool false)).heap.size:=by have:=Hb3.out.size;simp[World.setCell] at this ⊢;omega
   have Hno:=hd hno;clear hno
   gi_wp2
   exact⟨Hno.out.1,hs3,Hno.out.2⟩
  | true =>
   by_cases h8:pre.length=8
   ·have hno:=Hh.out.no (B:=W0.heap.size) hsz Hb3.out (x:=x) (.inr h8)
    have hs3:w.heap.size+6≤(((W2.alloc (.cells #[.int .i64 r,.int .i64 q,.string y] 241)).setCell ⟨w.heap.size,0,none⟩ (.slice none 0 0)).setCell ⟨w.heap.size+1,0,none⟩ (.bool false)).heap.size:=by have:=Hb3.out.size;simp[World.setCell] at this ⊢;omega
    have k8:((pre.length:Int) == 8)=true:=by rw[h8];rfl
    obtain⟨Hno,H8⟩:=hd2 hno h8;clear hno h8
    gi_wp2
    exact⟨Hno.out.1,hs3,Hno.out.2⟩
   have k8:((pre.length:Int) == 8)=false:=by rw[beq_eq_false_iff_ne];omega
   have hlen:=Hh.out.len
   have hrow3:=za6 Hrow.out Hb3.out
   have hpc:=zqr (Hpt.out rfl)
   obtain⟨i0,hi,hz0,hz1,hz2⟩:=info_parts info_part
   have hadd:=fun (w1:World) (v':Value)=>Hh.out.add (B:=W0.heap.size) hsz Hb3.out Hv.out Hrow.out (w1:=w1) (v':=v') (x:=x) (tmp:=.cells #[.int .i64 r,.int .i64 q,.string y] 241)
   rw[hpc] at hadd
   have hz9:w.heap.size+6≤(W2.alloc (.cells #[.int .i64 r,.int .i64 q,.string y] 241)).heap.size:=by have:=Hb3.out.size;omega
   have g1:pre.length+1≤maxLen:=by unfold maxLen;omega
   have g2:(pre.length+1) * 32≤140737488355328:=by omega
   have g3:w.heap.size+6≤((W2.alloc (.cells #[.int .i64 r,.int .i64 q,.string y] 241)).alloc (.cells #[.int .i64 r,.int .i64 q,.string y] 241)).heap.size:=by simp at hz9 ⊢;omega
   have g4:=lit3 (W2.alloc (.cells #[.int .i64 r,.int .i64 q,.string y] 241)) (.int .i64 r) (.int .i64 q) (.string y) 241 (n:=W2.heap.size+1) (by simp)
   have g5:∀ u∈[Value.int .i64 r,.int .i64 q,.string y],u.oneCell'=true:=by simp[Value.oneCell']
   obtain⟨Hrow3,Hpc,Hadd,Hz9,H8,Hlen,Hg1,Hg2,Hg3,Hg4,Hg5⟩:=hd11 hrow3 hpc hadd hz9 h8 hlen g1 g2 g3 g4 g5;clear hrow3 hpc hadd hz9 h8 hlen g1 g2 g3 g4 g5
   gi_wp2_with (gi_at_builtin;refine wpListIn_append_own _ rfl _ _ 224 rfl (w.heap.size+6) 241 i0 (.agg #[.int .i64 0,.int .i64 0,.string ⟨#[]⟩]) 3 32 Tryz.underlying224 hi hz0 hz1 hz2 rfl (by decide) _ _ _ rfl (Hrow3.out.alloc _) ⟨W2.heap.size+1,0,none⟩ 1 1 [.int .i64 r,.int .i64 q,.string y] rfl rfl Hg4.out Hg5.out Hg1.out Hg2.out Hg3.out ?_;intro v' w1 hown' hgrow _;obtain⟨g',cap',rfl⟩:=ownsRow_succ hown';have hfin:=Hadd.out w1 _ hown' hgrow Hb.out.symm H8.out;clear hown' hgrow;refine Hid.out ?_)
   have e1:=za2 hfin.2.2.2.1 0
   have e2:=za5 hfin.2.2.2.1 0
   simp only[List.getElem?_toArray,List.getElem?_cons_zero] at e1
   have Hfin:=hd hfin;clear hfin
   refine Lib.hid ?_
   gi_wp2
   exact⟨Hfin.out.1,Hfin.out.2.1,Hfin.out.2.2.2.2,Hfin.out.2.2.1⟩
 case done =>
  rintro D ys W hD rfl ⟨hsz,h⟩ hK
  obtain⟨v,hv,hrow⟩:=h.out
  obtain⟨a,cap,rfl⟩:=za9 hrow
  have c0:W.cell? ⟨w.heap.size+1+1,0,none⟩=some (.slice a (cutS 46 s).length cap):=za2 hv 0
  have c1:=za2 h.r2 0
  have c2:=za2 h.r3 0
  have f1:=za5 h.r2 0
  have f2:=za5 h.r3 0
  simp only[List.getElem?_toArray,List.getElem?_cons_zero] at c1 c2
  have hm:=may_yes h0 (by omega) h.ok h.len
  obtain⟨Hv,Hrow,Hh,Hm⟩:=hd4 hv hrow h hm;clear hv hrow h hm
  gi_wp2
  have hK2:((W.setCell ⟨w.heap.size,0,none⟩ (.slice a (cutS 46 s).length cap)).setCell ⟨w.heap.size+1,0,none⟩ (.bool true)).heap[D]? = some (.deferred (some [])):=zaa (zaa hK (by omega)) (by omega)
  have x1:=zaa (b:=w.heap.size+1) (i:=0) (u:=.bool true) (heap_setCell_same W w.heap.size 0 _ _ (.slice a (cutS 46 s).length cap) Hh.out.r2) (by omega)
  have x2:=heap_setCell_same _ (w.heap.size+1) 0 _ _ (.bool true) (zaa (b:=w.heap.size) (i:=0) (u:=.slice a (cutS 46 s).length cap) Hh.out.r3 (by omega))
  have hb9:Below w.heap.size w ((W.setCell ⟨w.heap.size,0,none⟩ (.slice a (cutS 46 s).length cap)).setCell ⟨w.heap.size+1,0,none⟩ (.bool true)):=(Hh.out.bel.setCell (p:=⟨w.heap.size,0,none⟩) (Nat.le_refl _) _).setCell (p:=⟨w.heap.size+1,0,none⟩) (by show w.heap.size≤w.heap.size+1;omega) _
  have ho:((W.setCell ⟨w.heap.size,0,none⟩ (.slice a (cutS 46 s).length cap)).setCell ⟨w.heap.size+1,0,none⟩ (.bool true)).ownsRow (w.heap.size+6) 241 3 (.slice a (cutS 46 s).length cap) (cutL 46 s.data.toList).length (zbm (cutL 46 s.data.toList)):=by
   have hlen:=zhd 46 s
   rw[← hlen,← zjl]
   have:=zeh (zeh Hrow.out (p:=w.heap.size) (by omega) 0 (.slice a (cutS 46 s).length cap)) (p:=w.heap.size+1) (by omega) 0 (.bool true)
   exact this
  refine⟨by simp,.inl ⟨_,_,rfl,run_takeDeferred hK2,?_⟩⟩
  refine⟨_,zby rfl rfl rfl ((World.putObj_heap_other (by omega)).trans x1) ((World.putObj_heap_other (by omega)).trans x2) (Tryz.isAgg224 _) (Tryz.isAgg4 _),?_⟩
  refine⟨_,by rw[Hm.out],fun _=>zfx (ownsRow_putObj ho _ hK2 rfl) (by omega),fun h=>(by rw[Hm.out] at h;cases h),hb9.trans (belowK_b (w:=w) (Nat.le_refl _) _ D _ _ (by omega) hK2 rfl rfl)⟩
 case stop =>
  rintro D pre W hD hpre ⟨hsz,h⟩ hK
  have hm:=may_no hpre h.bad
  have Hm:=hd hm;clear hm
  gi_wp2
  refine⟨by simp,.inl ⟨_,_,rfl,run_takeDeferred hK,?_⟩⟩
  refine⟨_,zby rfl rfl rfl ((World.putObj_heap_other (by omega)).trans h.r2) ((World.putObj_heap_other (by omega)).trans h.r3) (Tryz.isAgg224 _) (Tryz.isAgg4 _),?_⟩
  refine⟨_,by rw[Hm.out],fun h=>(by rw[Hm.out] at h;cases h),fun _=>rfl,h.bel.trans (belowK_b (w:=w) (Nat.le_refl _) _ D _ _ (by omega) hK rfl rfl)⟩
end

section
open Go.RowKit Go.Lib VerN
theorem zgn {fn:Func} {p:Tmp} (hres:fn.results=#[.cell p 241]) {R:Ending→World→Prop} {a:Act} {w:World} {g:Nat} {x y z:Value} (hp:a.tmps.getD p undef = .pointer (some ⟨g,0,none⟩))
  (hg:w.heap[g]? = some (.cells #[x,y,z] 241 (0,0))) (hd:a.defers = []) (hR:R (.returned (.agg #[x,y,z])) w):bodyPost Tryz.prog fn R .ret a w :=
 bodyPost_ret (results_cell_row hres a.tmps w g _ _ _ _ hp hg Tryz.underlying241 rfl (by kernel_rfl)) hd hR
theorem ze3:∀ (ps:List (List UInt8)) (i j:Nat) (h:i < ps.length),j < 3→(zbm ps)[i * 3+j]? = (zde ps[i])[j]?
 | p :: r,0,j,_,hj=>by
  simp only[zbm,List.flatMap_cons,Nat.zero_mul,Nat.zero_add,List.getElem_cons_zero]
  rw[List.getElem?_append_left (by simpa [zde] using hj)]
 | p :: r,i+1,j,h,hj=>by
  have:=ze3 r i j (by simpa using h) hj
  simp only[zbm,List.flatMap_cons,List.getElem_cons_succ] at this ⊢
  rw[List.getElem?_append_right (by simp[zde];omega),← this]
  congr 1
  simp[zde]
  omega
theorem zqq {w:World} {B:Nat} {v:Value} {n:Nat} {ps:List (List UInt8)} (h:w.ownsRow B 241 3 v n (zbm ps)) (hn:n=ps.length) (i:Nat) (hi:i < ps.length) :
  ∃ g cap,v = .slice (some ⟨g,0,none⟩) n cap∧n≤cap∧w.cell? ⟨g,i * 3,none⟩=some (.int .i64 (zdl ps[i]))∧w.cell? ⟨g,i * 3+1,none⟩=some (.int .i64 (zgf ps[i]))∧w.cell? ⟨g,i * 3+2,none⟩=some (.string ⟨(zep ps[i]).toArray⟩):=by
 obtain⟨g,cap,rfl,_,_,h1,_,h2⟩:=zcj h (by omega)
 exact⟨g,cap,rfl,h1,h2 _ _ (ze3 ps i 0 hi (by omega)),h2 _ _ (ze3 ps i 1 hi (by omega)),h2 _ _ (ze3 ps i 2 hi (by omega))⟩
theorem at_any {w:World} {B:Nat} {v:Value} {ps:List (List UInt8)} (h:w.ownsRow B 241 3 v ps.length (zbm ps)) (h8:ps.length≤8) (i:Nat) (hi8:i < 8) :
  Calls Tryz.prog 197 #[v,.int .i64 i] w fun e w'=>e = .returned (.agg #[.int .i64 (zdl (ps.getD i [])),.int .i64 (zgf (ps.getD i [])),.string ⟨(zep (ps.getD i [])).toArray⟩])∧Below w.heap.size w w':=by
 have hb1:Below w.heap.size w (w.alloc (.cells #[.int .i64 0,.int .i64 0,.string ⟨#[]⟩] 241)):=za1 _ _
 have hr1:(w.alloc (.cells #[.int .i64 0,.int .i64 0,.string ⟨#[]⟩] 241)).heap[w.heap.size]? = some (.cells #[.int .i64 0,.int .i64 0,.string ⟨#[]⟩] 241 (0,0)):=zag rfl
 by_cases hi:i < ps.length
 ·obtain⟨g,cap,rfl,hcap,c0,c1,c2⟩:=zqq h rfl i hi
  rw[getD_lt hi]
  have d0:=cell_later hb1 c0
  have d1:=cell_later hb1 c1
  have d2:=cell_later hb1 c2
  obtain⟨n,hn⟩ : ∃ n,n=ps.length:=⟨_,rfl⟩
  obtain⟨x,hx⟩ : ∃ x,x=zdl ps[i]:=⟨_,rfl⟩
  obtain⟨y,hy⟩ : ∃ y,y=zgf ps[i]:=⟨_,rfl⟩
  obtain⟨z,hz⟩ : ∃ z,z=(⟨(zep ps[i]).toArray⟩ : ByteArray):=⟨_,rfl⟩
  rw[← hx] at c0 d0 ⊢
  rw[← hy] at c1 d1 ⊢
  rw[← hz] at c2 d2 ⊢
  rw[← hn] at h h8 hi hcap ⊢
  have k1:(i:Int) < (n:Int):=by omega
  have k2:decide ((i:Int) < (n:Int))=true:=decide_eq_true k1
  obtain⟨Hh,Hn,Hx,Hy,Hz,Hb1,Hr1⟩:=hd7 h hn hx hy hz hb1 hr1;clear h hn hx hy hz hb1 hr1
  clear c0 c1 c2
  go_enter Tryz.func197,Tryz.ntmps197
  go_wp2_with fail
  exact zgn rfl rfl (zag rfl) rfl ⟨by rw[Hx.out,Hy.out,Hz.out],za1 _ _⟩
 obtain⟨a,cap,rfl⟩:=za9 h
 rw[zol (by omega)]
 obtain⟨n,hn⟩ : ∃ n,n=ps.length:=⟨_,rfl⟩
 rw[← hn] at h h8 hi ⊢
 have k1:decide ((i:Int) < (n:Int))=false:=decide_eq_false (by omega)
 obtain⟨Hh,Hn,Hb1,Hr1⟩:=hd4 h hn hb1 hr1;clear h hn hb1 hr1
 go_enter Tryz.func197,Tryz.ntmps197
 go_wp2_with fail
 exact zgn rfl rfl (zag rfl) rfl ⟨rfl,za1 _ _⟩
end

section
open Go.Shelf Go.RowKit Go.Lib Go.Sort VerN
theorem or3 (r a b c:Int) (h:(if a≠0 then a else if b≠0 then b else c)=r):orOf [a,b,c]=r:=by
 rw[← h]
 unfold orOf orOf orOf orOf
 split
 ·rfl
 split
 ·rfl
 split
 ·rfl
 rename_i h;simpa using Eq.symm (by simpa using h)
theorem or3_any (c1 c2 c3 r:Int) (hO:orOf [c1,c2,c3]=r) (W:World):Calls Tryz.prog 198 #[.slice (some ⟨W.heap.size,0,none⟩) 3 3] (W.alloc (.cells #[.int .i64 c1,.int .i64 c2,.int .i64 c3] 3)).drew fun e w'=>e = .returned (.int .i64 r)∧(W.alloc (.cells #[.int .i64 c1,.int .i64 c2,.int .i64 c3] 3)).drew=w':=by
 rw[← hO]
 exact or_any W.heap.size 0 3 [c1,c2,c3] _ (by simp) (by
  intro i x hx
  show (W.alloc (.cells #[.int .i64 c1,.int .i64 c2,.int .i64 c3] 3)).cell? ⟨W.heap.size,0+i,none⟩=_
  rw[Nat.zero_add,World.cell?_alloc_new]
  match i,hx with
  | 0,hx=>simpa using hx
  | 1,hx=>simpa using hx
  | 2,hx=>simpa using hx)
theorem zgj (a b:ByteArray) (ha:a.size≤1000000) (hb:b.size≤1000000) {w:World} (hD:zbz w) :
  Calls Tryz.prog 164 #[.string a,.string b] w fun e w'=>e = .returned (.int .i64 (zc0 a.data.toList b.data.toList))∧Below w.heap.size w w':=by
 obtain⟨r,hr⟩ : ∃ r,r=zc0 a.data.toList b.data.toList:=⟨_,rfl⟩
 have hP:=zj6 a ha hD
 have hQ:=fun (W:World) (h:Below w.heap.size w W)=>zj6 b hb (hD.below h)
 obtain⟨ps,hps⟩ : ∃ x,x=cutL 46 a.data.toList:=⟨_,rfl⟩
 obtain⟨qs,hqs⟩ : ∃ x,x=cutL 46 b.data.toList:=⟨_,rfl⟩
 obtain⟨p,hp⟩ : ∃ x,x=mayL a.data.toList:=⟨_,rfl⟩
 obtain⟨q,hq⟩ : ∃ x,x=mayL b.data.toList:=⟨_,rfl⟩
 have hcmp:r=if p=false∧q=false then 0 else if p=false then -1 else if q=false then 1 else zck ps qs 0 (max ps.length qs.length):=by rw[hr,hp,hq,hps,hqs];rfl
 have hp8:p=true→ps.length≤8:=fun h=>by rw[hps];exact ((zfe _).1 (by rw[← hp];exact h)).2.2.2
 have hq8:q=true→qs.length≤8:=fun h=>by rw[hqs];exact ((zfe _).1 (by rw[← hq];exact h)).2.2.2
 rw[← hr]
 unfold zj7 at hP hQ
 rw[← hps,← hp] at hP
 rw[← hqs,← hq] at hQ
 obtain⟨Hr,HP,HQ,Hps,Hqs,Hp,Hq,Hcmp,Hp8,Hq8,HD⟩:=hd11 hr hP hQ hps hqs hp hq hcmp hp8 hq8 hD;clear hr hP hQ hps hqs hp hq hcmp hp8 hq8 hD
 go_enter Tryz.func164,Tryz.ntmps164
 go_wp2_with fail
 refine HP.out.mono ?_
 rintro e w1 ⟨v1,rfl,hv1,hn1,hb1⟩
 have hQ1:=HQ.out w1 hb1
 obtain⟨Hv1,Hn1,Hb1,HQ1⟩:=hd4 hv1 hn1 hb1 hQ1;clear hv1 hn1 hb1 hQ1
 go_wp2_with fail
 refine HQ1.out.mono ?_
 rintro e w2 ⟨v2,rfl,hv2,hn2,hb2⟩
 have hb:=Hb1.out.trans (hb2.mono Hb1.out.size)
 obtain⟨Hv2,Hn2,Hb2,Hb⟩:=hd4 hv2 hn2 hb2 hb;clear hv2 hn2 hb2 hb
 cases p with
 | false =>
  cases q with
  | false =>
   have h0:r=0:=by rw[Hcmp.out];rfl
   have H0:=hd h0;clear h0
   go_wp2_with fail
   go_ret
   exact⟨zfd H0.out.symm,Hb.out⟩
  | true =>
   have h0:r = -1:=by rw[Hcmp.out];rfl
   have H0:=hd h0;clear h0
   go_wp2_with fail
   go_ret
   exact⟨zfd H0.out.symm,Hb.out⟩
 | true =>
  cases q with
  | false =>
   have h0:r=1:=by rw[Hcmp.out];rfl
   have H0:=hd h0;clear h0
   go_wp2_with fail
   go_ret
   exact⟨zfd H0.out.symm,Hb.out⟩
  | true =>
   have h8:=Hp8.out rfl
   have h9:=Hq8.out rfl
   have o1:=za6 (Hv1.out rfl) Hb2.out
   have o2:=Hv2.out rfl
   obtain⟨a1,cap1,rfl⟩:=za9 o1
   obtain⟨a2,cap2,rfl⟩:=za9 o2
   have h0:r=zck ps qs 0 (max ps.length qs.length):=by rw[Hcmp.out];rfl
   obtain⟨m,hm⟩ : ∃ m,m=ps.length:=⟨_,rfl⟩
   obtain⟨n,hn⟩ : ∃ n,n=qs.length:=⟨_,rfl⟩
   rw[← hm] at h8 o1 h0 ⊢
   rw[← hn] at h9 o2 h0 ⊢
   obtain⟨N,hN⟩ : ∃ N,N=max m n:=⟨_,rfl⟩
   rw[← hN] at h0
   have hN8:N≤8:=by omega
   have hNi:max (m:Int) (n:Int)=(N:Int):=by omega
   obtain⟨H0,Ho1,Ho2,Hm,Hn⟩:=hd5 h0 o1 o2 hm hn;clear h0 o1 o2 hm hn
   clear Hv1 Hv2 Hn1 Hn2 Hcmp Hp8 Hq8 HP HQ HQ1
   go_wp2_with fail
   go_loopw [41] (fun i wr=>∃ k:Nat,k≤N∧i = .int .i64 k∧r=zck ps qs k (N - k)∧Below w2.heap.size w2 wr) (fun i _=>N - (RowKit.intOf i).toNat)
   case atStart=>exact⟨0,Nat.zero_le _,rfl,H0.out,Below.refl _ _⟩
   case round =>
    obtain⟨k,hk,rfl,hrk,hbk⟩:=hrel
    by_cases hlt:k < N
    ·have p1:=za6 Ho1.out hbk
     have p2:=za6 Ho2.out hbk
     have em:=Hm.out
     have en:=Hn.out
     rw[em] at p1
     rw[en] at p2
     have hA:=at_any p1 (by omega) k (by omega)
     have hB:=fun (W:World) (h:Below wr.heap.size wr W)=>at_any (za6 p2 h) (by omega) k (by omega)
     rw[← em] at hA
     rw[← en] at hB
     obtain⟨x,hx⟩ : ∃ x,x=ps.getD k []:=⟨_,rfl⟩
     obtain⟨y,hy⟩ : ∃ x,x=qs.getD k []:=⟨_,rfl⟩
     rw[← hx] at hA
     rw[← hy] at hB
     have hr2:r=if pcmp x y≠0 then pcmp x y else zck ps qs (k+1) (N - (k+1)):=by
      rw[hrk,show N - k=(N - (k+1))+1 by omega,hx,hy];rfl
     obtain⟨c,hc⟩ : ∃ c,c=pcmp x y:=⟨_,rfl⟩
     rw[← hc] at hr2
     obtain⟨r1,hr1⟩ : ∃ v,v=zdl x:=⟨_,rfl⟩
     obtain⟨m1,hm1⟩ : ∃ v,v=zgf x:=⟨_,rfl⟩
     obtain⟨t1,ht1⟩ : ∃ v,v=(⟨(zep x).toArray⟩ : ByteArray):=⟨_,rfl⟩
     obtain⟨r2,hrr2⟩ : ∃ v,v=zdl y:=⟨_,rfl⟩
     obtain⟨m2,hm2⟩ : ∃ v,v=zgf y:=⟨_,rfl⟩
     obtain⟨t2,ht2⟩ : ∃ v,v=(⟨(zep y).toArray⟩ : ByteArray):=⟨_,rfl⟩
     rw[← hr1,← hm1,← ht1] at hA
     rw[← hrr2,← hm2,← ht2] at hB
     obtain⟨c1,hc1⟩ : ∃ v,v=zcq r1 r2:=⟨_,rfl⟩
     obtain⟨c2,hc2⟩ : ∃ v,v=zcq m1 m2:=⟨_,rfl⟩
     obtain⟨c3,hc3⟩ : ∃ v,v=cmpW t1.data.toList t2.data.toList:=⟨_,rfl⟩
     have hC1:=fun W=>zjo r1 r2 W
     have hC2:=fun W=>zjo m1 m2 W
     have hC3:=fun W=>zn5 t1 t2 W
     rw[← hc1] at hC1
     rw[← hc2] at hC2
     rw[← hc3] at hC3
     have hF:=or3_any c1 c2 c3 c (or3 c c1 c2 c3 (by rw[hc,hc1,hc2,hc3,hr1,hrr2,hm1,hm2,ht1,ht2];rfl))
     clear hr1 hrr2 hm1 hm2 ht1 ht2 hc1 hc2 hc3 hc em en
     obtain⟨Hp1,Hp2,HA,HB,Hx,Hy,Hrk,Hr2,HC1,HC2,HC3,HF,Hbk⟩:=hd13 p1 p2 hA hB hx hy hrk hr2 hC1 hC2 hC3 hF hbk;clear p1 p2 hA hB hx hy hrk hr2 hC1 hC2 hC3 hF hbk
     go_wp2_with fail
     refine HA.out.mono ?_
     rintro e w3 ⟨rfl,hb3⟩
     have hB3:=HB.out w3 hb3
     obtain⟨HB3,Hb3⟩:=hd2 hB3 hb3;clear hB3 hb3
     clear HB
     go_wp2_with fail
     refine HB3.out.mono ?_
     rintro e w4 ⟨rfl,hb4⟩
     have hb5:=Hbk.out.trans ((Hb3.out.trans (hb4.mono Hb3.out.size)).mono Hbk.out.size)
     obtain⟨Hb4,Hb5⟩:=hd2 hb4 hb5;clear hb4 hb5
     obtain⟨A,hA⟩ : ∃ A,A=Obj.cells #[.int .i64 r1,.int .i64 m1,.string t1] 241:=⟨_,rfl⟩
     obtain⟨B,hB⟩ : ∃ A,A=Obj.cells #[.int .i64 r2,.int .i64 m2,.string t2] 241:=⟨_,rfl⟩
     obtain⟨pa,hpa⟩ : ∃ n,n=w4.heap.size:=⟨_,rfl⟩
     obtain⟨pb,hpb⟩ : ∃ n,n=w4.heap.size+1:=⟨_,rfl⟩
     obtain⟨W0,hW0⟩ : ∃ W,W=(w4.alloc A).alloc B:=⟨_,rfl⟩
     have hX:W0.heap[pa]? = some (.cells #[.int .i64 r1,.int .i64 m1,.string t1] 241 (0,0)):=by
      rw[hW0,hpa];exact za0 (za1 _ _) (by rw[hA];exact heap_alloc_new _ _)
     have hY:W0.heap[pb]? = some (.cells #[.int .i64 r2,.int .i64 m2,.string t2] 241 (0,0)):=by
      rw[hW0,hpb,hB,show w4.heap.size+1=(w4.alloc A).heap.size by simp];exact heap_alloc_new _ _
     have hbW:Below w2.heap.size w2 W0:=by
      rw[hW0]
      exact (Hb5.out.alloc Hb5.out.size _).alloc (by have:=Hb5.out.size;simp;omega) _
     obtain⟨x0,x1,x2,_,_,_⟩:=zc4 hX
     obtain⟨y0,y1,y2,_,_,_⟩:=zc4 hY
     obtain⟨HA,HB,Hpa,Hpb,HW0,HX,HY,HbW⟩:=hd8 hA hB hpa hpb hW0 hX hY hbW;clear hA hB hpa hpb hW0 hX hY hbW
     go_upto_region 13 with fail
     rw[← HA.out,← HB.out,← HW0.out,← Hpb.out,← Hpa.out]
     have hS:W0.cell? ⟨pa,0,none⟩=some (.int .i64 r1)∧W0.cell? ⟨pa,1,none⟩=some (.int .i64 m1)∧W0.cell? ⟨pa,2,none⟩=some (.string t1)∧W0.cell? ⟨pb,0,none⟩=some (.int .i64 r2)∧W0.cell? ⟨pb,1,none⟩=some (.int .i64 m2)∧W0.cell? ⟨pb,2,none⟩=some (.string t2):=⟨x0,x1,x2,y0,y1,y2⟩
     have hS1:∀ o,(W0.drew.alloc o).cell? ⟨pa,0,none⟩=some (.int .i64 r1)∧(W0.drew.alloc o).cell? ⟨pa,1,none⟩=some (.int .i64 m1)∧(W0.drew.alloc o).cell? ⟨pa,2,none⟩=some (.string t1)∧(W0.drew.alloc o).cell? ⟨pb,0,none⟩=some (.int .i64 r2)∧(W0.drew.alloc o).cell? ⟨pb,1,none⟩=some (.int .i64 m2)∧(W0.drew.alloc o).cell? ⟨pb,2,none⟩=some (.string t2):=fun o =>
      ⟨cell_later (za1 W0.drew o) x0,cell_later (za1 W0.drew o) x1,cell_later (za1 W0.drew o) x2,cell_later (za1 W0.drew o) y0,cell_later (za1 W0.drew o) y1,cell_later (za1 W0.drew o) y2⟩
     have hbW2:∀ o,Below w2.heap.size w2 (W0.alloc o).drew:=fun o=>(HbW.out.alloc HbW.out.size o).drew
     obtain⟨HS,HS1,HbW2⟩:=hd3 hS hS1 hbW2;clear hS hS1 hbW2
     clear HA HB HW0 Hpa Hpb HX HY
     go_region_held3 (fun w'=>w'.cell? ⟨pa,0,none⟩=some (.int .i64 r1)∧w'.cell? ⟨pa,1,none⟩=some (.int .i64 m1)∧w'.cell? ⟨pa,2,none⟩=some (.string t1)∧w'.cell? ⟨pb,0,none⟩=some (.int .i64 r2)∧w'.cell? ⟨pb,1,none⟩=some (.int .i64 m2)∧w'.cell? ⟨pb,2,none⟩=some (.string t2)) (first | exact HS.out | exact HS1.out _) (first
      | (go_at_call_of 199 (Value.int .i64 r1);refine (HC1.out _).mono ?_;rintro e w5 ⟨rfl,rfl⟩)
      | (go_at_call_of 199 (Value.int .i64 m1);refine (HC2.out _).mono ?_;rintro e w5 ⟨rfl,rfl⟩)
      | (go_at_call_of 200 (Value.string t1);refine (HC3.out _).mono ?_;rintro e w5 ⟨rfl,rfl⟩)
      | (go_at_call 198;refine (HF.out W0).mono ?_;rintro e w5 ⟨rfl,rfl⟩))
     all_goals
      have hbz:=HbW2.out (.cells #[.int .i64 c1,.int .i64 c2,.int .i64 c3] 3)
      generalize (W0.alloc (.cells #[.int .i64 c1,.int .i64 c2,.int .i64 c3] 3)).drew=W9 at hbz ⊢
      by_cases hc0:c=0
      ·have e1:(c != 0)=false:=by rw[hc0];rfl
       have hn_:r=zck ps qs (k+1) (N - (k+1)):=by rw[Hr2.out,if_neg (by rw[hc0];simp)]
       obtain⟨Hbz,Hc0,Hn_⟩:=hd3 hbz hc0 hn_;clear hbz hc0 hn_
       go_wp2_with fail
       go_roundw
       case rel=>exact⟨k+1,by omega,by go_num,Hn_.out,Hbz.out⟩
       case measure=>simp[RowKit.intOf];omega
      have e1:(c != 0)=true:=by simpa using hc0
      have hn_:r=c:=by rw[Hr2.out,if_pos hc0]
      have hb9:=Hb.out.trans (hbz.mono Hb.out.size)
      obtain⟨Hbz,Hc0,Hn_,Hb9⟩:=hd4 hbz hc0 hn_ hb9;clear hbz hc0 hn_ hb9
      go_wp2_with fail
      go_ret
      exact⟨zfd Hn_.out.symm,Hb9.out⟩
    obtain rfl:k=N:=by omega
    have hfin:r=0:=by rw[hrk,Nat.sub_self];rfl
    have hb9:=Hb.out.trans (hbk.mono Hb.out.size)
    obtain⟨Hrk,Hbk,Hfin,Hb9⟩:=hd4 hrk hbk hfin hb9;clear hrk hbk hfin hb9
    go_wp2_with fail
    go_ret
    exact⟨zfd Hfin.out.symm,Hb9.out⟩
end

section
open Go.RowKit Go.Lib
abbrev RTs:Rd (List ByteArray):=zb8 1 RStr
theorem ze9 {w:World} {v:Value} {l:List ByteArray} (h:RTs w [v] l):∃ a cap,v = .slice a l.length cap∧l.length≤9223372036854775807∧∀ i (hi:i < l.length),∃ b off,a=some ⟨b,off,none⟩∧w.cell? ⟨b,off+i,none⟩=some (.string l[i])∧l[i].size≤maxLen:=by
 obtain⟨a,cap,hv,hcap,hmax,hel⟩:=h
 simp only[List.cons.injEq,and_true] at hv
 unfold maxLen at hmax
 refine⟨a,cap,hv,by omega,fun i hi=>?_⟩
 obtain⟨b,off,ecs,h1,h2,h3,h4,h5⟩:=hel i l[i] (List.getElem?_eq_getElem hi)
 subst h4
 exact⟨b,off,h1,by simpa using h3 0 _ rfl,h5⟩
theorem own_texts {w:World} {B:Nat} {v:Value} {n:Nat} {l:List ByteArray} (h:w.ownsRow B 9 1 v n (l.map Value.string)) (hs:∀ x∈l,x.size≤maxLen):RTs w [v] l:=by
 obtain rfl:n=l.length:=by have:=h.1;simp at this;omega
 refine zkx (by simp) h fun i u x hu hx=>?_
 rw[List.getElem?_map,hx] at hu
 cases hu
 exact⟨rfl,hs x (List.mem_of_getElem? hx)⟩
theorem zbc {w w':World} {v:Value} {l:List ByteArray} (h:RTs w [v] l) (hb:Below w.heap.size w w'):RTs w' [v] l:=zam stays_str _ _ _ _ h hb
end
end Go.Proofs.YteailgjiifdgcaaGreatDoor
