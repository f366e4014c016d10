/- Walks and plain facts. Texts merged: VerN, VerO, VerC, VerP, VerQ, VerT, SpnM, SortM, SpsM, Row, RefV, RefW, CmpI, CmpS, RefX, RefC, RefM, RefLs. Condition: none beyond what each says. -/
import Derived.Lib.AtoiAll
import Derived.Lib.AtoiAllCases
import Derived.Lib.ItoaNum
import Derived.Lib.SplitLaws
import Derived.Lib.IndexBytes
import Derived.Lib.Split
import Derived.Test.YteailgjiifdgcaaGreatDoorRows
import Derived.Sort.Walk0
import Derived.Test.YteailgjiifdgcaaGreatDoorRequestParsesAll2
set_option linter.unusedVariables false
set_option linter.unusedSimpArgs false
set_option maxRecDepth 10000
set_option maxHeartbeats 4000000
namespace Go.Proofs.YteailgjiifdgcaaGreatDoor
namespace VerN
open Go.Lib
def zeb (c:UInt8):Bool:=decide (48≤c.toNat) && decide (c.toNat≤57)
def zhj (c:UInt8):Bool:=decide (97≤c.toNat) && decide (c.toNat≤122)
theorem zc0 (c:UInt8):zeb c=true↔48≤c.toNat∧c.toNat≤57:=by unfold zeb;simp
theorem zdb (c:UInt8):zhj c=true↔97≤c.toNat∧c.toNat≤122:=by unfold zhj;simp
def zao (acc:Nat) (l:List UInt8):Nat:=l.foldl (fun a c=>a * 10+(c.toNat - 48)) acc
theorem zjg:∀ (l:List UInt8) (acc:Nat),acc≤zao acc l
 | [],_=>Nat.le_refl _
 | c :: r,acc=>by have:=zjg r (acc * 10+(c.toNat - 48));unfold zao at *;simp only[List.foldl_cons];omega
theorem zpf:∀ (l:List UInt8) (acc:Nat),l.all zeb=true→zao acc l < 9223372036854775808→parseUint10 acc l = .ok (zao acc l)
 | [],_,_,_=>rfl
 | c :: r,acc,h,hv=>by
  simp only[List.all_cons,Bool.and_eq_true] at h
  have hc:=(zc0 c).1 h.1
  have hv':zao (acc * 10+(c.toNat - 48)) r < 9223372036854775808:=hv
  have hge:=zjg r (acc * 10+(c.toNat - 48))
  unfold parseUint10
  rw[if_pos hc,if_neg (by omega),if_neg (by omega),zpf r _ h.2 hv']
  rfl
theorem zer (l:List UInt8) (c:UInt8) (acc:Nat):zao acc (l ++ [c])=zao acc l * 10+(c.toNat - 48):=by unfold zao;rw[List.foldl_append];rfl
def lead (l:List UInt8):Bool:=decide (l = [48]) || decide (l.head?≠some 48)
theorem zm8 {c:UInt8} (h:zeb c=true):UInt8.ofNat (48+(c.toNat - 48))=c:=by
 have:=(zc0 c).1 h
 rw[show 48+(c.toNat - 48)=c.toNat by omega]
 exact UInt8.ofNat_toNat
theorem snocInd {α:Type} {P:List α→Prop} (h0:P []) (h1:∀ l c,P l→P (l ++ [c])) (l:List α):P l:=by
 have key:∀ r:List α,P r.reverse:=by
  intro r
  induction r with
  | nil=>exact h0
  | cons c r ih=>rw[List.reverse_cons];exact h1 _ _ ih
 have:=key l.reverse
 rwa [List.reverse_reverse] at this
theorem zf8:∀ (l:List UInt8),l≠[]→l.all zeb=true→l.head?≠some 48→10 ^ (l.length - 1)≤zao 0 l∧zao 0 l < 10 ^ l.length:=by
 intro l
 induction l using snocInd with
 | h0=>intro h;exact absurd rfl h
 | h1 l c ih =>
  intro _ hd hh
  simp only[List.all_append,List.all_cons,List.all_nil,Bool.and_true,Bool.and_eq_true] at hd
  have hc:=(zc0 c).1 hd.2
  rw[zer]
  by_cases hl:l = []
  ·subst hl
   have:c.toNat≠48:=fun e=>hh (by
    have:c=48:=UInt8.toNat_inj.1 e
    simp[this])
   simp[zao];omega
  have hh':l.head?≠some 48:=by
   match l,hl with
   | a :: r,_=>simpa using hh
  have:=ih hl hd.1 hh'
  have hp:0 < l.length:=List.length_pos_iff.2 hl
  obtain⟨k,hk⟩ : ∃ k,l.length=k+1:=⟨l.length - 1,by omega⟩
  rw[List.length_append,List.length_singleton]
  rw[hk] at this ⊢
  simp only[Nat.add_sub_cancel] at this ⊢
  rw[Nat.pow_succ,Nat.pow_succ]
  rw[Nat.pow_succ] at this
  omega
theorem zog:∀ (l:List UInt8),l≠[]→l.all zeb=true→lead l=true→decDigits (zao 0 l)=l:=by
 intro l
 induction l using snocInd with
 | h0=>intro h;exact absurd rfl h
 | h1 l c ih =>
  intro _ hd hh
  simp only[List.all_append,List.all_cons,List.all_nil,Bool.and_true,Bool.and_eq_true] at hd
  have hc:=(zc0 c).1 hd.2
  rw[zer]
  by_cases hl:l = []
  ·subst hl
   rw[show zao 0 []=0 from rfl,Nat.zero_mul,Nat.zero_add,decDigits,dif_pos (by omega),zm8 hd.2]
   rfl
  have hh':l.head?≠some 48:=by
   match l,hl with
   | a :: r,_ =>
    unfold lead at hh
    simp only[Bool.or_eq_true,decide_eq_true_eq] at hh
    rcases hh with hh | hh
    ·simp at hh
    simpa using hh
  have hb:=zf8 l hl hd.1 hh'
  have h1:1≤zao 0 l:=Nat.le_trans (Nat.pos_of_ne_zero (by simp)) hb.1
  rw[decDigits,dif_neg (by omega),show (zao 0 l * 10+(c.toNat - 48)) / 10=zao 0 l by omega,show (zao 0 l * 10+(c.toNat - 48)) % 10=c.toNat - 48 by omega,zm8 hd.2,ih hl hd.1 (by unfold lead;simp only[Bool.or_eq_true,decide_eq_true_eq];exact .inr hh')]
theorem dec_dig:∀ u:Nat,(decDigits u).all zeb=true∧decDigits u≠[]∧lead (decDigits u)=true∧zao 0 (decDigits u)=u:=by
 intro u
 induction u using Nat.strongRecOn with
 | _ u ih =>
  rw[decDigits]
  have dg:∀ d,d < 10→(UInt8.ofNat (48+d)).toNat=48+d:=fun d hd=>by rw[UInt8.toNat_ofNat'];omega
  split
  ·rename_i h
   have e:=dg u h
   refine⟨?_,by simp,?_,?_⟩
   ·simp only[List.all_cons,List.all_nil,Bool.and_true]
    rw[zc0,e];omega
   ·unfold lead
    simp only[List.head?_cons,Bool.or_eq_true,decide_eq_true_eq]
    by_cases h0:u=0
    ·left;subst h0;rfl
    right
    refine decide_eq_true fun e2=>?_
    injection e2 with e2
    rw[e2] at e
    have:(48:UInt8).toNat=48:=rfl
    omega
   show 0 * 10+((UInt8.ofNat (48+u)).toNat - 48)=u
   rw[e];omega
  rename_i h
  have hi:=ih (u / 10) (by omega)
  have e:=dg (u % 10) (by omega)
  refine⟨?_,by simp,?_,?_⟩
  ·rw[List.all_append,hi.1,Bool.true_and]
   simp only[List.all_cons,List.all_nil,Bool.and_true]
   rw[zc0,e];omega
  ·have hl:=hi.2.2.1
   unfold lead at hl ⊢
   simp only[Bool.or_eq_true,decide_eq_true_eq] at hl ⊢
   right
   rcases hl with hl | hl
   ·exfalso
    have:=hi.2.2.2
    rw[hl] at this
    have h0:zao 0 [48]=0:=rfl
    omega
   match hm:decDigits (u / 10),hi.2.1,hl with
   | a :: r,_,hl=>simpa using hl
  rw[zer,hi.2.2.2,e];omega
def zm2 (l:List UInt8):Bool:=match atoiAll l with
 | .ok v=>decide (0≤v) && decide (v≤999999999) && decide (itoa v=l)
 | _=>l.all zhj && !l.isEmpty
def zdj (l:List UInt8):Bool:=!l.isEmpty && l.all zeb && decide (l.length≤9) && lead l
def zbz (l:List UInt8):Bool:=!l.isEmpty && l.all zhj
theorem val_le {l:List UInt8} (h:zdj l=true):zao 0 l≤999999999:=by
 unfold zdj at h
 simp only[Bool.and_eq_true,Bool.not_eq_true',decide_eq_true_eq] at h
 obtain⟨⟨⟨h1,h2⟩,h3⟩,h4⟩:=h
 have hne:l≠[]:=fun e=>by subst e;simp at h1
 unfold lead at h4
 simp only[Bool.or_eq_true,decide_eq_true_eq] at h4
 rcases h4 with h4 | h4
 ·subst h4;decide
 have hb:=(zf8 l hne h2 h4).2
 have:10 ^ l.length≤10 ^ 9:=Nat.pow_le_pow_right (by decide) h3
 omega
theorem zq0 {l:List UInt8} (h:zdj l=true):atoiAll l = .ok (zao 0 l:Nat):=by
 have hv:=val_le h
 unfold zdj at h
 simp only[Bool.and_eq_true,Bool.not_eq_true',decide_eq_true_eq] at h
 obtain⟨⟨⟨h1,h2⟩,h3⟩,h4⟩:=h
 match l,h1,h2,hv with
 | c :: r,_,h2,hv =>
  have hc:=(zc0 c).1 (by simp only[List.all_cons,Bool.and_eq_true] at h2;exact h2.1)
  rw[atoiAll_plain c r (by omega) (by omega)]
  have hp:parseMag (c :: r) = .ok (zao 0 (c :: r)):=by unfold parseMag;rw[if_neg (by simp)];exact zpf _ _ h2 (by omega)
  rw[hp]
  unfold signless
  simp only
  rw[if_neg (by omega)]
theorem zky (u:Nat):itoa (u:Int)=decDigits u:=by unfold itoa;rw[if_neg (by omega)];simp
theorem read_is (l:List UInt8):zm2 l=(zbz l || zdj l):=by
 by_cases hd:zdj l=true
 ·rw[hd,Bool.or_true]
  unfold zm2
  rw[zq0 hd]
  have hv:=val_le hd
  have hd':=hd
  unfold zdj at hd'
  simp only[Bool.and_eq_true,Bool.not_eq_true',decide_eq_true_eq] at hd'
  have hne:l≠[]:=fun e=>by subst e;simp at hd'
  have e:=zog l hne hd'.1.1.2 hd'.2
  simp only
  rw[zky,e,decide_eq_true (by omega),decide_eq_true (by omega),decide_eq_true rfl]
  rfl
 rw[Bool.eq_false_iff.2 hd,Bool.or_false]
 unfold zm2
 cases ha:atoiAll l with
 | ok v =>
  simp only
  have hnl:zbz l=false:=by
   match l,ha with
   | [],ha=>rfl
   | c :: r,ha =>
    unfold zbz
    by_cases hc:zhj c=true
    ·have:=(zdb c).1 hc
     rw[atoiAll_plain c r (by omega) (by omega)] at ha
     have hp:parseMag (c :: r)=parseMag []:=by rw[parseMag,if_neg (by simp),parseUint10,if_neg (by omega)] <;> rfl
     rw[hp] at ha
     cases ha
    simp[hc]
  rw[hnl]
  by_cases hv:0≤v∧v≤999999999∧itoa v=l
  ·exfalso
   apply hd
   obtain⟨u,rfl⟩ : ∃ u:Nat,v=u:=⟨v.toNat,by omega⟩
   have h2:=hv.2.2
   rw[zky] at h2
   have hk:=dec_dig u
   rw[h2] at hk
   unfold zdj
   have hne:l.isEmpty=false:=by cases l with | nil=>exact absurd rfl hk.2.1 | cons _ _=>rfl
   rw[hne,hk.1,hk.2.2.1]
   have hlen:l.length≤9:=by
    have hl:=hk.2.2.1
    unfold lead at hl
    simp only[Bool.or_eq_true,decide_eq_true_eq] at hl
    rcases hl with hl | hl
    ·rw[hl];decide
    have hb:=(zf8 l hk.2.1 hk.1 hl).1
    rw[hk.2.2.2] at hb
    by_cases h9:l.length≤9
    ·exact h9
    exfalso
    have:10 ^ 9≤10 ^ (l.length - 1):=Nat.pow_le_pow_right (by decide) (by omega)
    omega
   rw[decide_eq_true hlen]
   rfl
  by_cases h0:0≤v
  ·by_cases h1:v≤999999999
   ·have h2:¬ itoa v=l:=fun e=>hv ⟨h0,h1,e⟩
    simp[h2]
   simp[h1]
  simp[h0]
 | range=>unfold zbz;simp only;rw[Bool.and_comm]
 | _=>unfold zbz;simp only;rw[Bool.and_comm]
end VerN

namespace VerN
open Go.Lib
theorem val_lt:∀ (a b:List UInt8) (x y:Nat),a.length=b.length→a.all zeb=true→b.all zeb=true→(zao x a < zao y b↔x < y∨(x=y∧a < b))
 | [],[],x,y,_,_,_=>by
  have:¬ (([] : List UInt8) < []):=List.lt_irrefl _
  show x < y↔_
  simp[this]
 | c :: a,e :: b,x,y,hl,ha,hb=>by
  simp only[List.all_cons,Bool.and_eq_true] at ha hb
  have hc:=(zc0 c).1 ha.1
  have he:=(zc0 e).1 hb.1
  have ih:=val_lt a b (x * 10+(c.toNat - 48)) (y * 10+(e.toNat - 48)) (by simpa using hl) ha.2 hb.2
  show zao (x * 10+(c.toNat - 48)) a < zao (y * 10+(e.toNat - 48)) b↔_
  rw[ih,List.cons_lt_cons_iff]
  have hlt:c < e↔c.toNat < e.toNat:=UInt8.lt_iff_toNat_lt
  have heq:c=e↔c.toNat=e.toNat:=UInt8.toNat_inj.symm
  rw[hlt,heq]
  constructor
  ·rintro (h | ⟨h,h2⟩)
   ·by_cases hxy:x < y
    ·exact .inl hxy
    exact .inr ⟨by omega,.inl (by omega)⟩
   by_cases hxy:x < y
   ·exact .inl hxy
   exact .inr ⟨by omega,.inr ⟨by omega,h2⟩⟩
  rintro (h | ⟨h,h2 | ⟨h2,h3⟩⟩)
  ·left;omega
  ·left;omega
  right;exact⟨by omega,h3⟩
theorem dig_lt {a b:List UInt8} (ha:zdj a=true) (hb:zdj b=true):zao 0 a < zao 0 b↔a.length < b.length∨(a.length=b.length∧a < b):=by
 have parts:∀ {l:List UInt8},zdj l=true→l≠[]∧l.all zeb=true∧(l = [48]∨l.head?≠some 48):=fun {l} h=>by
  unfold zdj lead at h
  simp only[Bool.and_eq_true,Bool.not_eq_true',Bool.or_eq_true,decide_eq_true_eq] at h
  exact⟨fun e=>by subst e;simp at h,h.1.1.2,h.2⟩
 obtain⟨a1,a2,a3⟩:=parts ha
 obtain⟨b1,b2,b3⟩:=parts hb
 have bnd:∀ {l:List UInt8},l≠[]→l.all zeb=true→(l = [48]∨l.head?≠some 48)→zao 0 l < 10 ^ l.length∧(2≤l.length→10 ^ (l.length - 1)≤zao 0 l):=fun {l} h1 h2 h3=>by
  rcases h3 with h3 | h3
  ·subst h3;exact⟨by decide,fun h=>by simp at h⟩
  have:=zf8 l h1 h2 h3
  exact⟨this.2,fun _=>this.1⟩
 have ba:=bnd a1 a2 a3
 have bb:=bnd b1 b2 b3
 have la:0 < a.length:=List.length_pos_iff.2 a1
 have lb:0 < b.length:=List.length_pos_iff.2 b1
 rcases Nat.lt_trichotomy a.length b.length with h | h | h
 ·have:=bb.2 (by omega)
  have hp:10 ^ a.length≤10 ^ (b.length - 1):=Nat.pow_le_pow_right (by decide) (by omega)
  exact⟨fun _=>.inl h,fun _=>by omega⟩
 ·rw[val_lt a b 0 0 h a2 b2]
  simp[h]
 have:=ba.2 (by omega)
 have hp:10 ^ b.length≤10 ^ (a.length - 1):=Nat.pow_le_pow_right (by decide) (by omega)
 exact⟨fun _=>by omega,fun hh=>by omega⟩
end VerN

namespace VerN
open Go.Lib
def Part (l:List UInt8):Prop:=l = []∨zbz l=true∨zdj l=true
def zc1 (l:List UInt8):Int:=if l = [] then 1 else if zbz l=true then 0 else 2
def zcz (l:List UInt8):Int:=if zbz l=true then 0 else (zao 0 l:Nat)
def zcj (l:List UInt8):List UInt8:=if zbz l=true then l else []
def cmpI (x y:Int):Int:=if x < y then -1 else if x > y then 1 else 0
def cmpW (x y:List UInt8):Int:=if x < y then -1 else if y < x then 1 else 0
def pcmp (a b:List UInt8):Int:=if cmpI (zc1 a) (zc1 b)≠0 then cmpI (zc1 a) (zc1 b) else if cmpI (zcz a) (zcz b)≠0 then cmpI (zcz a) (zcz b) else cmpW (zcj a) (zcj b)
def digs (l:List UInt8):Bool:=l.all zeb && !l.isEmpty
def zb0 (a b:List UInt8):Bool :=
 if a=b then false else if a = [] then digs b else if b = [] then zbz a else if zbz a≠zbz b then zbz a else if digs a && decide (a.length≠b.length) then decide (a.length < b.length) else decide (a < b)
theorem zgk {l:List UInt8} (h:zbz l=true):digs l=false∧zdj l=false:=by
 match l with
 | [] => exact⟨rfl,rfl⟩
 | c :: r =>
  unfold zbz at h
  simp only[List.all_cons,Bool.and_eq_true] at h
  have hc:=(zdb c).1 h.2.1
  have hd:zeb c=false:=by unfold zeb;rw[decide_eq_true (by omega),decide_eq_false (by omega)];rfl
  unfold digs zdj
  simp[hd]
theorem zd5 {l:List UInt8} (h:zdj l=true):digs l=true∧zbz l=false∧l≠[]:=by
 have hl:zbz l=false:=by
  cases e:zbz l
  ·rfl
  rw[(zgk e).2] at h;cases h
 unfold zdj at h
 simp only[Bool.and_eq_true] at h
 refine⟨by unfold digs;rw[h.1.1.2,h.1.1.1];rfl,hl,fun e=>by subst e;simp at h⟩
theorem zjs {l:List UInt8} (h:zbz l=true):l≠[]:=fun e=>by subst e;simp[zbz] at h
theorem zgs (x:Int):cmpI x x=0:=by unfold cmpI;rw[if_neg (by omega),if_neg (by omega)]
theorem cmpW_self (x:List UInt8):cmpW x x=0:=by unfold cmpW;rw[if_neg (List.lt_irrefl _),if_neg (List.lt_irrefl _)]
theorem dec_ne {a b:List UInt8} (h:a≠b) (h1:¬ a < b):b < a:=by
 rcases List.le_total a b with h2 | h2
 ·by_cases h3:b < a
  ·exact h3
  exact absurd (List.le_antisymm h2 (List.not_lt.1 h1)) h
 by_cases h3:b < a
 ·exact h3
 exact absurd (List.le_antisymm (List.not_lt.1 h3) (List.not_lt.1 h1)) h
theorem zp5:zc1 []=1:=rfl
theorem zgh {l:List UInt8} (h:zbz l=true):zc1 l=0:=by unfold zc1;rw[if_neg (zjs h),if_pos h]
theorem zew {l:List UInt8} (h:zdj l=true):zc1 l=2:=by unfold zc1;rw[if_neg (zd5 h).2.2,if_neg (by rw[(zd5 h).2.1];simp)]
theorem ze7 {a b:List UInt8} {x y:Int} (ha:zc1 a=x) (hb:zc1 b=y) (h:cmpI x y≠0):pcmp a b=cmpI x y:=by unfold pcmp;rw[ha,hb,if_pos h]
theorem znv {a b:List UInt8} (ha:Part a) (hb:Part b):pcmp a b=if zb0 a b=true then -1 else if zb0 b a=true then 1 else 0:=by
 by_cases hab:a=b
 ·subst hab
  unfold pcmp zb0
  rw[zgs,zgs,cmpW_self]
  simp
 have hba:¬ b=a:=fun e=>hab e.symm
 rcases ha with ha | ha | ha
 ·subst ha
  rcases hb with hb | hb | hb
  ·subst hb;exact absurd rfl hab
  ·have hn:=zjs hb
   have hd:=(zgk hb).1
   have e1:zb0 [] b=false:=by unfold zb0;rw[if_neg hab,if_pos rfl];exact hd
   have e2:zb0 b []=true:=by unfold zb0;rw[if_neg hba,if_neg hn,if_pos rfl];exact hb
   rw[e1,e2,ze7 zp5 (zgh hb) (by decide)]
   rfl
  obtain⟨h1,h2,h3⟩:=zd5 hb
  have e1:zb0 [] b=true:=by unfold zb0;rw[if_neg hab,if_pos rfl];exact h1
  rw[e1,ze7 zp5 (zew hb) (by decide)]
  rfl
 ·have hna:=zjs ha
  rcases hb with hb | hb | hb
  ·subst hb
   have e1:zb0 a []=true:=by unfold zb0;rw[if_neg hab,if_neg hna,if_pos rfl];exact ha
   rw[e1,ze7 (zgh ha) zp5 (by decide)]
   rfl
  ·have hnb:=zjs hb
   have hda:=(zgk ha).1
   have hdb:=(zgk hb).1
   have e1:zb0 a b=decide (a < b):=by unfold zb0;rw[if_neg hab,if_neg hna,if_neg hnb,if_neg (by rw[ha,hb];simp),hda];rfl
   have e2:zb0 b a=decide (b < a):=by unfold zb0;rw[if_neg hba,if_neg hnb,if_neg hna,if_neg (by rw[ha,hb];simp),hdb];rfl
   rw[e1,e2]
   unfold pcmp zc1 zcz zcj cmpW
   simp only[if_neg hna,if_neg hnb,if_pos ha,if_pos hb,zgs,ne_eq,not_true_eq_false,if_false,decide_eq_true_eq]
  obtain⟨h1,h2,h3⟩:=zd5 hb
  have e1:zb0 a b=true:=by unfold zb0;rw[if_neg hab,if_neg hna,if_neg h3,if_pos (by rw[ha,h2];simp)];exact ha
  rw[e1,ze7 (zgh ha) (zew hb) (by decide)]
  rfl
 obtain⟨g1,g2,g3⟩:=zd5 ha
 rcases hb with hb | hb | hb
 ·subst hb
  have e1:zb0 a []=false:=by unfold zb0;rw[if_neg hab,if_neg g3,if_pos rfl];exact g2
  have e2:zb0 [] a=true:=by unfold zb0;rw[if_neg hba,if_pos rfl];exact g1
  rw[e1,e2,ze7 (zew ha) zp5 (by decide)]
  rfl
 ·have hnb:=zjs hb
  have e1:zb0 a b=false:=by unfold zb0;rw[if_neg hab,if_neg g3,if_neg hnb,if_pos (by rw[g2,hb];simp)];exact g2
  have e2:zb0 b a=true:=by unfold zb0;rw[if_neg hba,if_neg hnb,if_neg g3,if_pos (by rw[g2,hb];simp)];exact hb
  rw[e1,e2,ze7 (zew ha) (zgh hb) (by decide)]
  rfl
 obtain⟨h1,h2,h3⟩:=zd5 hb
 have l1:=dig_lt ha hb
 have l2:=dig_lt hb ha
 have e1:zb0 a b=true↔zao 0 a < zao 0 b:=by
  unfold zb0
  rw[if_neg hab,if_neg g3,if_neg h3,if_neg (by rw[g2,h2];simp),g1,l1]
  by_cases hl:a.length=b.length
  ·simp[hl]
  simp[hl]
 have e2:zb0 b a=true↔zao 0 b < zao 0 a:=by
  unfold zb0
  rw[if_neg hba,if_neg h3,if_neg g3,if_neg (by rw[g2,h2];simp),h1,l2]
  by_cases hl:b.length=a.length
  ·simp[hl]
  simp[hl]
 have hne:zao 0 a≠zao 0 b:=fun e=>by
  have n1:¬ (a.length < b.length∨(a.length=b.length∧a < b)):=fun h=>by have:=l1.2 h;omega
  have n2:¬ (b.length < a.length∨(b.length=a.length∧b < a)):=fun h=>by have:=l2.2 h;omega
  have hl:a.length=b.length:=by omega
  exact n2 (.inr ⟨hl.symm,dec_ne hab fun h=>n1 (.inr ⟨hl,h⟩)⟩)
 have na:zcz a=(zao 0 a:Int):=by unfold zcz;rw[if_neg (by rw[g2];simp)]
 have nb:zcz b=(zao 0 b:Int):=by unfold zcz;rw[if_neg (by rw[h2];simp)]
 have hp:∀ z,cmpI (zao 0 a:Int) (zao 0 b:Int)=z→z≠0→pcmp a b=z:=fun z hz h0=>by
  unfold pcmp
  rw[zew ha,zew hb,zgs,if_neg (by simp),na,nb,hz,if_pos h0]
 rcases Nat.lt_or_gt_of_ne hne with h | h
 ·rw[if_pos (e1.2 h)]
  exact hp (-1) (by unfold cmpI;rw[if_pos (by omega)]) (by decide)
 rw[if_neg (fun h'=>by have:=e1.1 h';omega),if_pos (e2.2 h)]
 exact hp 1 (by unfold cmpI;rw[if_neg (by omega),if_pos (by omega)]) (by decide)
end VerN

namespace VerN
open Go.Lib
def cutF (c:UInt8):List UInt8→List UInt8→List (List UInt8)
 | acc,[] => [acc]
 | acc,x :: r=>if x=c then acc :: cutF c [] r else cutF c (acc ++ [x]) r
def cutL (c:UInt8) (l:List UInt8):List (List UInt8):=cutF c [] l
theorem zbp {c x:UInt8} (acc r:List UInt8) (h:x≠c):cutF c acc (x :: r)=cutF c (acc ++ [x]) r:=by rw[cutF,if_neg h]
theorem zc2 (c:UInt8) (acc r:List UInt8):cutF c acc (c :: r)=acc :: cutF c [] r:=by rw[cutF,if_pos rfl]
theorem zmt (c:UInt8):∀ (r acc:List UInt8),indexByte r c = -1→cutF c acc r = [acc ++ r]
 | [],acc,_=>by rw[List.append_nil];rfl
 | x :: r,acc,h=>by
  unfold indexByte at h
  split at h
  ·cases h
  rename_i hx
  have hx':x≠c:=fun e=>hx (by rw[e];simp)
  have hr:indexByte r c = -1:=by
   split at h
   ·rename_i e;exact beq_iff_eq.1 e
   have:=indexByte_ge r c;omega
  rw[zbp _ _ hx',zmt c r _ hr,List.append_assoc]
  rfl
theorem zps (c:UInt8):∀ (r acc:List UInt8) (i:Nat),indexByte r c=i→cutF c acc r=(acc ++ r.take i) :: cutL c (r.drop (i+1))
 | [],acc,i,h=>by unfold indexByte at h;omega
 | x :: r,acc,i,h=>by
  unfold indexByte at h
  split at h
  ·rename_i hx
   have hx':x=c:=by simpa using hx
   have hi:i=0:=by omega
   subst hi;subst hx'
   rw[zc2]
   simp[cutL]
  rename_i hx
  have hx':x≠c:=fun e=>hx (by rw[e];simp)
  split at h
  ·omega
  rename_i hm
  obtain⟨j,rfl⟩ : ∃ j,i=j+1:=⟨i - 1,by
   have:=indexByte_ge r c
   have h0:indexByte r c≠-1:=fun e=>hm (by rw[e];rfl)
   omega⟩
  have hr:indexByte r c=j:=by omega
  rw[zbp _ _ hx',zps c r _ j hr,List.append_assoc]
  rfl
theorem zhy (c:UInt8):∀ (r acc:List UInt8),1≤(cutF c acc r).length∧(cutF c acc r).length≤r.length+1
 | [],acc=>⟨Nat.le_refl _,Nat.le_refl _⟩
 | x :: r,acc=>by
  by_cases h:x=c
  ·subst h
   have:=zhy x r []
   rw[zc2]
   simp only[List.length_cons]
   omega
  have:=zhy c r (acc ++ [x])
  rw[zbp _ _ h]
  simp only[List.length_cons]
  omega
theorem zel (c:UInt8) (l:List UInt8):1≤(cutL c l).length∧(cutL c l).length≤l.length+1:=zhy c l []
theorem zh4 (c:UInt8):∀ (r acc p:List UInt8),p∈cutF c acc r→p.length≤acc.length+r.length
 | [],acc,p,h=>by
  rw[show cutF c acc [] = [acc] from rfl,List.mem_singleton] at h
  subst h;omega
 | x :: r,acc,p,h=>by
  by_cases hx:x=c
  ·subst hx
   rw[zc2] at h
   rcases List.mem_cons.1 h with rfl | h
   ·simp
   have:=zh4 x r [] p h
   simp only[List.length_cons,List.length_nil] at this ⊢
   omega
  rw[zbp _ _ hx] at h
  have:=zh4 c r _ p h
  simp only[List.length_append,List.length_cons,List.length_nil] at this ⊢
  omega
theorem ziv (c:UInt8):∀ (a acc b:List UInt8),cutF c acc (a ++ c :: b)=cutF c acc a ++ cutL c b
 | [],acc,b=>by rw[List.nil_append,zc2];rfl
 | x :: r,acc,b=>by
  rw[List.cons_append]
  by_cases hx:x=c
  ·subst hx
   rw[zc2,zc2,ziv x r [] b];rfl
  rw[zbp _ _ hx,zbp _ _ hx,ziv c r _ b]
theorem zms (c:UInt8) (a b:List UInt8):cutL c (a ++ c :: b)=cutL c a ++ cutL c b:=ziv c a [] b
def glue (c:UInt8):List (List UInt8)→List UInt8
 | [] => []
 | [p] => p
 | p :: q :: r=>p ++ c :: glue c (q :: r)
theorem zfg (c:UInt8):∀ (r acc:List UInt8),glue c (cutF c acc r)=acc ++ r
 | [],acc=>by rw[List.append_nil];rfl
 | x :: r,acc=>by
  by_cases hx:x=c
  ·subst hx
   rw[zc2]
   have h:=zfg x r []
   have hl:=(zhy x r []).1
   match hm:cutF x [] r,hl with
   | q :: t,_ =>
    rw[hm] at h
    rw[glue,h];rfl
  rw[zbp _ _ hx,zfg c r,List.append_assoc];rfl
theorem cutL_inj {c:UInt8} {a b:List UInt8} (h:cutL c a=cutL c b):a=b:=by
 have h1:=zfg c a []
 have h2:=zfg c b []
 rw[show cutF c [] a=cutL c a from rfl,h] at h1
 rw[show cutF c [] b=cutL c b from rfl] at h2
 rw[h1] at h2
 simpa using h2
theorem ziu (c:UInt8) (r acc:List UInt8) (h:∀ x∈r,x≠c):cutF c acc r = [acc ++ r]:=by
 induction r generalizing acc with
 | nil=>rw[List.append_nil];rfl
 | cons x r ih =>
  rw[zbp _ _ (h x (by simp)),ih _ fun y hy=>h y (by simp[hy]),List.append_assoc];rfl
def zbe (l:List UInt8):Bool:=zbz l || zdj l
theorem part_ne {l:List UInt8} (h:zbe l=true):l≠[]:=by
 unfold zbe at h
 rcases Bool.or_eq_true _ _ ▸ h with h | h
 ·exact zjs h
 exact (zd5 h).2.2
theorem part_of {l:List UInt8} (h:zbe l=true):Part l:=by
 unfold zbe at h
 rcases Bool.or_eq_true _ _ ▸ h with h | h
 ·exact .inr (.inl h)
 exact .inr (.inr h)
def mayL (l:List UInt8):Bool:=decide (l≠[]) && decide (l.length≤40) && (cutL 46 l).all zbe && decide ((cutL 46 l).length≤8)
theorem zcd (l:List UInt8):mayL l=true↔l≠[]∧l.length≤40∧(∀ p∈cutL 46 l,zbe p=true)∧(cutL 46 l).length≤8:=by
 unfold mayL
 simp[and_assoc]
def zbs (x y:List (List UInt8)):Nat→Nat→Int
 | _,0=>0
 | i,n+1=>if pcmp (x.getD i []) (y.getD i [])≠0 then pcmp (x.getD i []) (y.getD i []) else zbs x y (i+1) n
def zb6 (a b:List UInt8):Int :=
 if mayL a=false∧mayL b=false then 0 else if mayL a=false then -1 else if mayL b=false then 1 else zbs (cutL 46 a) (cutL 46 b) 0 (max (cutL 46 a).length (cutL 46 b).length)
structure Row {α:Type} (c:α→α→Int):Prop where
 tri:∀ x y,c x y = -1∨c x y=0∨c x y=1
 neg:∀ x y,c y x = -c x y
 trans:∀ x y z,c x y≤0→c y z≤0→c x z≤0
theorem Row.lt1 {α:Type} {c:α→α→Int} (h:Row c) {x y z:α} (h1:c x y < 0) (h2:c y z≤0):c x z < 0:=by
 by_cases h3:c x z < 0
 ·exact h3
 have a:=h.neg x z
 have b:=h.neg x y
 have:=h.trans y z x h2 (by omega)
 omega
theorem Row.lt2 {α:Type} {c:α→α→Int} (h:Row c) {x y z:α} (h1:c x y≤0) (h2:c y z < 0):c x z < 0:=by
 by_cases h3:c x z < 0
 ·exact h3
 have a:=h.neg x z
 have b:=h.neg y z
 have:=h.trans z x y (by omega) h1
 omega
theorem Row.eq {α:Type} {c:α→α→Int} (h:Row c) {x y z:α} (h1:c x y=0) (h2:c y z=0):c x z=0:=by
 have a:=h.trans x y z (by omega) (by omega)
 have b:=h.trans z y x (by rw[h.neg];omega) (by rw[h.neg];omega)
 have d:=h.neg x z
 omega
def thenBy {α:Type} (c d:α→α→Int) (x y:α):Int:=if c x y≠0 then c x y else d x y
theorem Row.thenBy {α:Type} {c d:α→α→Int} (hc:Row c) (hd:Row d):Row (thenBy c d):=by
 refine⟨fun x y=>?_,fun x y=>?_,fun x y z h1 h2=>?_⟩
 ·unfold VerN.thenBy;split
  ·exact hc.tri x y
  exact hd.tri x y
 ·unfold VerN.thenBy
  have:=hc.neg x y
  by_cases h:c x y=0
  ·rw[if_neg (by omega),if_neg (by omega)];exact hd.neg x y
  rw[if_pos (by omega),if_pos (by omega)];exact this
 unfold VerN.thenBy at h1 h2 ⊢
 by_cases a:c x y=0
 ·rw[if_neg (by omega)] at h1
  by_cases b:c y z=0
  ·rw[if_neg (by omega)] at h2
   rw[if_neg (by rw[hc.eq a b];omega)]
   exact hd.trans x y z h1 h2
  rw[if_pos b] at h2
  have:=hc.lt2 (x:=x) (by omega:c x y≤0) (by omega:c y z < 0)
  rw[if_pos (by omega)];omega
 rw[if_pos a] at h1
 have h3:c y z≤0:=by
  by_cases b:c y z=0
  ·omega
  rw[if_pos b] at h2;exact h2
 have:=hc.lt1 (z:=z) (by omega:c x y < 0) h3
 rw[if_pos (by omega)];omega
theorem Row.map {α β:Type} {c:α→α→Int} (h:Row c) (f:β→α):Row fun x y=>c (f x) (f y) :=
 ⟨fun x y=>h.tri _ _,fun x y=>h.neg _ _,fun x y z=>h.trans _ _ _⟩
theorem row_int:Row cmpI:=by
 refine⟨fun x y=>?_,fun x y=>?_,fun x y z=>?_⟩ <;> unfold cmpI
 ·split
  ·exact .inl rfl
  split
  ·exact .inr (.inr rfl)
  exact .inr (.inl rfl)
 ·by_cases h1:x < y
  ·have h3:¬ y < x:=by omega
   simp[h1,h3]
  by_cases h2:y < x
  ·simp[h1,h2]
  simp[h1,h2]
 have le:∀ x y:Int,(if x < y then (-1:Int) else if x > y then 1 else 0)≤0↔x≤y:=fun x y=>by
  by_cases h1:x < y
  ·rw[if_pos h1];exact⟨fun _=>by omega,fun _=>by omega⟩
  rw[if_neg h1]
  by_cases h2:x > y
  ·rw[if_pos h2];exact⟨fun h=>by omega,fun h=>by omega⟩
  rw[if_neg h2];exact⟨fun _=>by omega,fun _=>by omega⟩
 rw[le,le,le]
 omega
theorem zfy {x:List (List UInt8)} {i:Nat} (h:i < x.length):x.getD i []=x[i]:=by rw[List.getD,List.getElem?_eq_getElem h];rfl
theorem zfz {x:List (List UInt8)} {i:Nat} (h:x.length≤i):x.getD i [] = []:=by rw[List.getD,List.getElem?_eq_none h];rfl
theorem row_words:Row cmpW:=by
 have asy:∀ x y:List UInt8,x < y→¬ y < x:=fun x y h1 h2=>List.lt_irrefl x (List.lt_trans h1 h2)
 have le:∀ x y,cmpW x y≤0↔x≤y:=fun x y=>by
  unfold cmpW
  by_cases h1:x < y
  ·rw[if_pos h1];exact⟨fun _=>List.not_lt.1 (asy _ _ h1),fun _=>by omega⟩
  rw[if_neg h1]
  by_cases h2:y < x
  ·rw[if_pos h2];exact⟨fun h=>by omega,fun h=>absurd h2 (List.not_lt.2 h)⟩
  rw[if_neg h2];exact⟨fun _=>List.not_lt.1 h2,fun _=>by omega⟩
 refine⟨fun x y=>?_,fun x y=>?_,fun x y z h1 h2=>?_⟩
 ·unfold cmpW;split
  ·exact .inl rfl
  split
  ·exact .inr (.inr rfl)
  exact .inr (.inl rfl)
 ·unfold cmpW
  by_cases h1:x < y
  ·rw[if_neg (asy _ _ h1),if_pos h1,if_pos h1];rfl
  by_cases h2:y < x
  ·rw[if_pos h2,if_neg h1,if_pos h2]
  rw[if_neg h2,if_neg h1,if_neg h1,if_neg h2];rfl
 rw[le] at h1 h2 ⊢
 exact List.le_trans h1 h2
theorem znu:pcmp=thenBy (fun a b=>cmpI (zc1 a) (zc1 b)) (thenBy (fun a b=>cmpI (zcz a) (zcz b)) (fun a b=>cmpW (zcj a) (zcj b))):=by
 funext a b
 rfl
theorem row_parts:Row pcmp:=by
 rw[znu]
 exact (row_int.map zc1).thenBy ((row_int.map zcz).thenBy (row_words.map zcj))
theorem zp4:∀ (n i:Nat),Row fun x y=>zbs x y i n
 | 0,i=>⟨fun _ _=>.inr (.inl rfl),fun _ _=>rfl,fun _ _ _ _ _=>Int.le_refl _⟩
 | n+1,i=>(row_parts.map fun x:List (List UInt8)=>x.getD i []).thenBy (zp4 n (i+1))
theorem ziq (x y:List (List UInt8)):∀ (n k i:Nat),x.length≤i+n→y.length≤i+n→zbs x y i (n+k)=zbs x y i n
 | 0,0,_,_,_=>rfl
 | 0,k+1,i,hx,hy=>by
  have e:zbs x y i (k+1)=if pcmp (x.getD i []) (y.getD i [])≠0 then pcmp (x.getD i []) (y.getD i []) else zbs x y (i+1) k:=rfl
  rw[Nat.zero_add,e,zfz (by omega),zfz (by omega),if_neg (by decide)]
  have:=ziq x y 0 k (i+1) (by omega) (by omega)
  rw[Nat.zero_add] at this
  exact this
 | n+1,k,i,hx,hy=>by
  rw[show n+1+k=(n+k)+1 by omega,zbs,zbs,ziq x y n k (i+1) (by omega) (by omega)]
theorem from_any {x y:List (List UInt8)} {N:Nat} (hx:x.length≤N) (hy:y.length≤N):zbs x y 0 (max x.length y.length)=zbs x y 0 N:=by
 have:=ziq x y (max x.length y.length) (N - max x.length y.length) 0 (by omega) (by omega)
 rw[show max x.length y.length+(N - max x.length y.length)=N by omega] at this
 exact this.symm
theorem zcg (a b:List UInt8):zb6 a b=if mayL a=false∧mayL b=false then 0 else if mayL a=false then -1 else if mayL b=false then 1 else zbs (cutL 46 a) (cutL 46 b) 0 8:=by
 unfold zb6
 cases ha:mayL a
 ·simp
 cases hb:mayL b
 ·simp
 have h1:=((zcd a).1 ha).2.2.2
 have h2:=((zcd b).1 hb).2.2.2
 simp only[Bool.true_eq_false,and_self,if_false]
 exact from_any h1 h2
theorem zbr:Row zb6:=by
 have R:=zp4 8 0
 refine⟨fun x y=>?_,fun x y=>?_,fun x y z=>?_⟩
 ·rw[zcg]
  split
  ·exact .inr (.inl rfl)
  split
  ·exact .inl rfl
  split
  ·exact .inr (.inr rfl)
  exact R.tri _ _
 ·rw[zcg,zcg]
  cases mayL x <;> cases mayL y <;> simp
  exact R.neg _ _
 rw[zcg,zcg,zcg]
 cases mayL x <;> cases mayL y <;> cases mayL z <;> simp
 exact R.trans _ _ _
theorem pcmp_zero {a b:List UInt8} (ha:Part a) (hb:Part b) (h:pcmp a b=0):a=b:=by
 rw[znv ha hb] at h
 by_cases hab:a=b
 ·exact hab
 exfalso
 by_cases h1:zb0 a b=true
 ·rw[if_pos h1] at h;cases h
 rw[if_neg h1] at h
 by_cases h2:zb0 b a=true
 ·rw[if_pos h2] at h;cases h
 have h3:=znv ha hb
 rw[if_neg h1,if_neg h2] at h3
 unfold pcmp at h3
 by_cases e1:cmpI (zc1 a) (zc1 b)=0
 ·rw[if_neg (by omega)] at h3
  by_cases e2:cmpI (zcz a) (zcz b)=0
  ·rw[if_neg (by omega)] at h3
   have r:zc1 a=zc1 b:=by unfold cmpI at e1;split at e1;omega;split at e1 <;> omega
   have n:zcz a=zcz b:=by unfold cmpI at e2;split at e2;omega;split at e2 <;> omega
   have w:zcj a=zcj b:=by
    by_cases e:zcj a=zcj b
    ·exact e
    unfold cmpW at h3
    by_cases l1:zcj a < zcj b
    ·rw[if_pos l1] at h3;omega
    rw[if_neg l1,if_pos (dec_ne e l1)] at h3;omega
   apply hab
   rcases ha with rfl | ha | ha
   ·rcases hb with rfl | hb | hb
    ·rfl
    ·rw[zgh hb] at r;exact absurd r (by decide)
    rw[zew hb] at r;exact absurd r (by decide)
   ·rcases hb with rfl | hb | hb
    ·rw[zgh ha] at r;exact absurd r (by decide)
    ·unfold zcj at w;rwa [if_pos ha,if_pos hb] at w
    rw[zgh ha,zew hb] at r;omega
   rcases hb with rfl | hb | hb
   ·rw[zew ha] at r;exact absurd r (by decide)
   ·rw[zew ha,zgh hb] at r;omega
   have va:zcz a=(zao 0 a:Nat):=by unfold zcz;rw[if_neg (by rw[(zd5 ha).2.1];simp)]
   have vb:zcz b=(zao 0 b:Nat):=by unfold zcz;rw[if_neg (by rw[(zd5 hb).2.1];simp)]
   have v:zao 0 a=zao 0 b:=by omega
   have ha':=ha
   have hb':=hb
   unfold zdj at ha' hb'
   simp only[Bool.and_eq_true] at ha' hb'
   have e1:=zog a (zd5 ha).2.2 ha'.1.1.2 ha'.2
   have e2:=zog b (zd5 hb).2.2 hb'.1.1.2 hb'.2
   rw[← e1,← e2,v]
  rw[if_pos e2] at h3;omega
 rw[if_pos e1] at h3;omega
theorem zgj {x:List (List UInt8)} (h:∀ p∈x,zbe p=true) (i:Nat):Part (x.getD i []):=by
 by_cases hi:i < x.length
 ·rw[zfy hi];exact part_of (h _ (List.getElem_mem hi))
 rw[zfz (by omega)];exact .inl rfl
theorem zmk {x y:List (List UInt8)} (hx:∀ p∈x,zbe p=true) (hy:∀ p∈y,zbe p=true):∀ (n i:Nat),zbs x y i n=0→∀ j,i≤j→j < i+n→x.getD j []=y.getD j []
 | 0,i,_,j,h1,h2=>by omega
 | n+1,i,h,j,h1,h2=>by
  unfold zbs at h
  by_cases h0:pcmp (x.getD i []) (y.getD i [])=0
  ·rw[if_neg (by omega)] at h
   rcases Nat.eq_or_lt_of_le h1 with rfl | h3
   ·exact pcmp_zero (zgj hx i) (zgj hy i) h0
   exact zmk hx hy n (i+1) h j h3 (by omega)
  rw[if_pos h0] at h;exact absurd h h0
theorem lists_eq {x y:List (List UInt8)} (hx:∀ p∈x,zbe p=true) (hy:∀ p∈y,zbe p=true) (h:∀ j,j < max x.length y.length→x.getD j []=y.getD j []):x=y:=by
 have hl:x.length=y.length:=by
  rcases Nat.lt_trichotomy x.length y.length with h1 | h1 | h1
  ·exfalso
   have:=h x.length (by omega)
   rw[zfz (Nat.le_refl _),zfy h1] at this
   exact part_ne (hy _ (List.getElem_mem h1)) this.symm
  ·exact h1
  exfalso
  have:=h y.length (by omega)
  rw[zfz (x:=y) (Nat.le_refl _),zfy h1] at this
  exact part_ne (hx _ (List.getElem_mem h1)) this
 refine List.ext_getElem hl fun i h1 h2=>?_
 have:=h i (by omega)
 rwa [zfy h1,zfy h2] at this
theorem zmv {a b:List UInt8} (h:zb6 a b=0):a=b∨mayL a=false∧mayL b=false:=by
 unfold zb6 at h
 cases ha:mayL a
 ·cases hb:mayL b
  ·exact .inr ⟨rfl,rfl⟩
  rw[ha,hb] at h;simp at h
 cases hb:mayL b
 ·rw[ha,hb] at h;simp at h
 rw[ha,hb] at h
 simp only[Bool.true_eq_false,and_self,if_false] at h
 have h1:=((zcd a).1 ha).2.2.1
 have h2:=((zcd b).1 hb).2.2.1
 exact .inl (cutL_inj (lists_eq h1 h2 fun j hj=>zmk h1 h2 _ 0 h j (Nat.zero_le _) (by omega)))
def zd1 (x y:List (List UInt8)):Nat→Nat→Bool
 | _,0=>false
 | i,n+1=>if zb0 (x.getD i []) (y.getD i [])=true then true else if zb0 (y.getD i []) (x.getD i [])=true then false else zd1 x y (i+1) n
def ze8 (a b:List UInt8):Bool:=if mayL a=false∨mayL b=false then !mayL a && mayL b else zd1 (cutL 46 a) (cutL 46 b) 0 (max (cutL 46 a).length (cutL 46 b).length)
theorem zmc {x y:List (List UInt8)} (hx:∀ p∈x,zbe p=true) (hy:∀ p∈y,zbe p=true):∀ (n i:Nat),zd1 x y i n=decide (zbs x y i n = -1)
 | 0,_=>rfl
 | n+1,i=>by
  unfold zd1 zbs
  rw[znv (zgj hx i) (zgj hy i)]
  by_cases h1:zb0 (x.getD i []) (y.getD i [])=true
  ·rw[if_pos h1,if_pos h1];rfl
  rw[if_neg h1,if_neg h1]
  by_cases h2:zb0 (y.getD i []) (x.getD i [])=true
  ·rw[if_pos h2,if_pos h2];rfl
  rw[if_neg h2,if_neg h2,zmc hx hy n (i+1)];rfl
theorem less_is (a b:List UInt8):ze8 a b=decide (zb6 a b = -1):=by
 unfold ze8 zb6
 cases ha:mayL a
 ·cases hb:mayL b <;> simp
 cases hb:mayL b
 ·simp
 simp only[Bool.true_eq_false,or_self,and_self,if_false]
 exact zmc ((zcd a).1 ha).2.2.1 ((zcd b).1 hb).2.2.1 _ _
end VerN

namespace VerN
open Go.Lib
theorem ba_ext {x y:ByteArray} (h:x.data.toList=y.data.toList):x=y:=by
 obtain⟨⟨a⟩⟩:=x
 obtain⟨⟨b⟩⟩:=y
 simp at h
 rw[h]
def cutS (c:UInt8) (s:ByteArray):List ByteArray:=(cutL c s.data.toList).map fun l=>⟨l.toArray⟩
theorem zf3 (c:UInt8) (s:ByteArray):(cutS c s).map (·.data.toList)=cutL c s.data.toList:=by
 unfold cutS
 rw[List.map_map]
 have:((fun x:ByteArray=>x.data.toList) ∘ fun l:List UInt8=>(⟨l.toArray⟩ : ByteArray))=id:=by funext l;simp
 rw[this,List.map_id]
theorem zbo (c:UInt8) (s:ByteArray):(cutS c s).length=(cutL c s.data.toList).length:=by unfold cutS;rw[List.length_map]
theorem cutS_miss {c:UInt8} {s:ByteArray} (h:indexByte s.data.toList c = -1):cutS c s = [s]:=by
 unfold cutS cutL
 rw[zmt c _ _ h,List.nil_append]
 simp
theorem cutS_hit {c:UInt8} {s:ByteArray} {i:Nat} (h:indexByte s.data.toList c=i):cutS c s=s.extract 0 i :: cutS c (s.extract (i+1) s.size):=by
 have e1:(⟨(s.data.toList.take i).toArray⟩ : ByteArray)=s.extract 0 i:=ba_ext (by rw[extract_from_zero])
 have e2:s.data.toList.drop (i+1)=(s.extract (i+1) s.size).data.toList:=(extract_to_end s (i+1)).symm
 unfold cutS
 rw[show cutL c s.data.toList=cutF c [] s.data.toList from rfl,zps c _ _ i h,List.nil_append,List.map_cons,e1,e2]
theorem index_lt {l:List UInt8} {c:UInt8} {i:Nat} (h:indexByte l c=i):i < l.length:=by
 induction l generalizing i with
 | nil=>unfold indexByte at h;omega
 | cons x r ih =>
  unfold indexByte at h
  split at h
  ·simp;omega
  split at h
  ·omega
  rename_i hm
  have:=indexByte_ge r c
  have h0:indexByte r c≠-1:=fun e=>hm (by rw[e];rfl)
  have:=ih (i:=i - 1) (by omega)
  simp;omega
theorem dlen (s:ByteArray):s.data.toList.length=s.size:=by rw[Array.length_toList];rfl
theorem zec {c:UInt8} {s p:ByteArray} (h:p∈cutS c s):p.size≤s.size:=by
 unfold cutS at h
 obtain⟨l,h1,rfl⟩:=List.mem_map.1 h
 have:=zh4 c _ _ _ h1
 rw[dlen] at this
 have e:(⟨l.toArray⟩ : ByteArray).size=l.length:=rfl
 rw[e]
 simp only[List.length_nil] at this
 omega
end VerN

namespace VerN
open Go.Lib
def first (l:List UInt8):List UInt8:=(cutL 46 l).getD 0 []
end VerN

namespace VerN
open Go.Lib
abbrev Sp:=List UInt8 × List UInt8
def zba (l:List UInt8):Bool:=decide (l = []) || mayL l
def zbq (a b:List UInt8):Bool:=decide (a≠[]) && decide (b≠[]) && decide (zb6 a b < 0)
def mayS (s:Sp):Bool:=zba s.1 && zba s.2 && !zbq s.2 s.1
def zcl (a b:List UInt8):List UInt8:=if a = []∨zbq a b=true then b else a
def zbl (a b:List UInt8):List UInt8:=if a = []∨zbq b a=true then b else a
def zo4 (a b:Sp):Sp:=(zcl a.1 b.1,zbl a.2 b.2)
def zby (a b:Sp):Bool:=mayS a && mayS b && mayS (zo4 a b)
def zdd (a b:Sp):Sp:=if mayS a=true∧mayS b=true then (if a.1≠[]∧b.1≠[] then zbl a.1 b.1 else [],if a.2≠[]∧b.2≠[] then zcl a.2 b.2 else []) else ([],[])
def zn9 (s:Sp):List UInt8:=if s.1=s.2∧s.1≠[] then s.1 else s.1 ++ 58 :: s.2
def textS (s:Sp):List UInt8:=if mayS s=true then zn9 s else []
def le (a b:List UInt8):Prop:=zb6 a b≤0
theorem le_refl (a:List UInt8):le a a:=by
 have:=zbr.neg a a
 unfold le;omega
theorem le_trans {a b c:List UInt8} (h1:le a b) (h2:le b c):le a c:=zbr.trans a b c h1 h2
theorem not_le {a b:List UInt8}:¬ le a b↔zb6 b a < 0:=by
 have:=zbr.neg a b
 unfold le;omega
theorem le_total (a b:List UInt8):le a b∨le b a:=by
 have:=zbr.neg a b
 unfold le;omega
theorem zfj {a b:List UInt8}:zbq a b=false↔a = []∨b = []∨le b a:=by
 have h:¬ zb6 a b < 0↔le b a:=by
  have:=zbr.neg a b
  unfold le
  omega
 unfold zbq
 simp only[Bool.and_eq_false_iff,decide_eq_false_iff_not,ne_eq,Decidable.not_not,h]
 exact or_assoc
theorem zf6 {a b:List UInt8}:zbq a b=true↔a≠[]∧b≠[]∧¬ le b a:=by
 unfold zbq
 simp only[Bool.and_eq_true,decide_eq_true_eq,not_le,and_assoc]
theorem zed (a b:List UInt8):zbq a b=(decide (a≠[]) && decide (b≠[]) && ze8 a b):=by
 have ht:=zbr.tri a b
 unfold zbq
 rw[less_is]
 congr 1
 exact decide_eq_decide.2 ⟨fun h=>by omega,fun h=>by omega⟩
theorem zf5 {l:List UInt8}:zba l=true↔l = []∨mayL l=true:=by unfold zba;simp
theorem zb7 {s:Sp}:mayS s=true↔zba s.1=true∧zba s.2=true∧(s.1 = []∨s.2 = []∨le s.1 s.2):=by
 unfold mayS
 simp only[Bool.and_eq_true,Bool.not_eq_true',and_assoc,zfj]
 constructor
 ·rintro⟨h1,h2,h3⟩
  refine⟨h1,h2,?_⟩
  rcases h3 with h | h | h
  ·exact .inr (.inl h)
  ·exact .inl h
  exact .inr (.inr h)
 rintro⟨h1,h2,h3⟩
 refine⟨h1,h2,?_⟩
 rcases h3 with h | h | h
 ·exact .inr (.inl h)
 ·exact .inl h
 exact .inr (.inr h)
def zdc (lo v:List UInt8):Prop:=lo = []∨le lo v
def zfr (hi v:List UInt8):Prop:=hi = []∨le v hi
theorem zej (a b:List UInt8):zcl a b=a∨zcl a b=b:=by unfold zcl;split;exact .inr rfl;exact .inl rfl
theorem zet (a b:List UInt8):zbl a b=a∨zbl a b=b:=by unfold zbl;split;exact .inr rfl;exact .inl rfl
theorem zhz {x a b:List UInt8} (h:x=a∨x=b) (ha:zba a=true) (hb:zba b=true):zba x=true:=by rcases h with rfl | rfl <;> assumption
theorem zo8 {a b v:List UInt8}:zdc (zcl a b) v↔zdc a v∧zdc b v:=by
 unfold zcl
 by_cases h:a = []∨zbq a b=true
 ·rw[if_pos h]
  refine⟨fun hb=>⟨?_,hb⟩,fun h=>h.2⟩
  rcases h with h | h
  ·exact .inl h
  obtain⟨h1,h2,h3⟩:=zf6.1 h
  rcases hb with hb | hb
  ·exact absurd hb h2
  exact .inr (le_trans ((le_total a b).resolve_right h3) hb)
 rw[if_neg h]
 refine⟨fun ha=>⟨ha,?_⟩,fun h=>h.1⟩
 have h1:a≠[]:=fun e=>h (.inl e)
 have h2:zbq a b=false:=Bool.eq_false_iff.2 fun e=>h (.inr e)
 rcases zfj.1 h2 with h2 | h2 | h2
 ·exact absurd h2 h1
 ·exact .inl h2
 rcases ha with ha | ha
 ·exact absurd ha h1
 exact .inr (le_trans h2 ha)
theorem zlj {a b v:List UInt8}:zfr (zbl a b) v↔zfr a v∧zfr b v:=by
 unfold zbl
 by_cases h:a = []∨zbq b a=true
 ·rw[if_pos h]
  refine⟨fun hb=>⟨?_,hb⟩,fun h=>h.2⟩
  rcases h with h | h
  ·exact .inl h
  obtain⟨h1,h2,h3⟩:=zf6.1 h
  rcases hb with hb | hb
  ·exact absurd hb h1
  exact .inr (le_trans hb ((le_total b a).resolve_right h3))
 rw[if_neg h]
 refine⟨fun ha=>⟨ha,?_⟩,fun h=>h.1⟩
 have h1:a≠[]:=fun e=>h (.inl e)
 have h2:zbq b a=false:=Bool.eq_false_iff.2 fun e=>h (.inr e)
 rcases zfj.1 h2 with h2 | h2 | h2
 ·exact .inl h2
 ·exact absurd h2 h1
 rcases ha with ha | ha
 ·exact absurd ha h1
 exact .inr (le_trans ha h2)
theorem zo3 {a b:Sp} (ha:mayS a=true) (hb:mayS b=true):zba (zo4 a b).1=true∧zba (zo4 a b).2=true :=
 ⟨zhz (zej _ _) (zb7.1 ha).1 (zb7.1 hb).1,zhz (zet _ _) (zb7.1 ha).2.1 (zb7.1 hb).2.1⟩
def refMayS (s:Sp):Bool:=zba s.1 && zba s.2 && (decide (s.1 = []) || decide (s.2 = []) || !ze8 s.2 s.1)
theorem refMay_is (s:Sp):refMayS s=mayS s:=by
 unfold refMayS mayS
 rw[zed]
 by_cases h1:s.1 = [] <;> by_cases h2:s.2 = [] <;> simp[h1,h2]
def zpa (a b:Sp):Sp:=(if b.1≠[]∧(a.1 = []∨ze8 a.1 b.1=true) then b.1 else a.1,if b.2≠[]∧(a.2 = []∨ze8 b.2 a.2=true) then b.2 else a.2)
theorem zqq (a b:Sp):zpa a b=zo4 a b:=by
 unfold zpa zo4 zcl zbl
 rw[zed,zed]
 refine Prod.ext ?_ ?_
 ·by_cases h1:b.1 = [] <;> by_cases h2:a.1 = [] <;> simp[h1,h2]
 by_cases h1:b.2 = [] <;> by_cases h2:a.2 = [] <;> simp[h1,h2]
theorem zoa {a b:Sp} (ha:mayS a=true) (hb:mayS b=true):zba (zdd a b).1=true∧zba (zdd a b).2=true:=by
 unfold zdd
 rw[if_pos ⟨ha,hb⟩]
 refine⟨?_,?_⟩
 ·show zba (if a.1≠[]∧b.1≠[] then zbl a.1 b.1 else [])=true
  split
  ·exact zhz (zet _ _) (zb7.1 ha).1 (zb7.1 hb).1
  rfl
 show zba (if a.2≠[]∧b.2≠[] then zcl a.2 b.2 else [])=true
 split
 ·exact zhz (zej _ _) (zb7.1 ha).2.1 (zb7.1 hb).2.1
 rfl
theorem zge {a b:List UInt8} (ha:a≠[]) (hb:b≠[]):le (zbl a b) a∧le (zbl a b) b∧zbl a b≠[]:=by
 unfold zbl
 by_cases h:zbq b a=true
 ·rw[if_pos (.inr h)]
  obtain⟨_,_,h3⟩:=zf6.1 h
  exact⟨(le_total b a).resolve_right h3,le_refl b,hb⟩
 rw[if_neg (by rintro (e | e);exact ha e;exact h e)]
 rcases zfj.1 (Bool.eq_false_iff.2 h) with h2 | h2 | h2
 ·exact absurd h2 hb
 ·exact absurd h2 ha
 exact⟨le_refl a,h2,ha⟩
theorem zgm {a b:List UInt8} (ha:a≠[]) (hb:b≠[]):le a (zcl a b)∧le b (zcl a b)∧zcl a b≠[]:=by
 unfold zcl
 by_cases h:zbq a b=true
 ·rw[if_pos (.inr h)]
  obtain⟨_,_,h3⟩:=zf6.1 h
  exact⟨(le_total a b).resolve_right h3,le_refl b,hb⟩
 rw[if_neg (by rintro (e | e);exact ha e;exact h e)]
 rcases zfj.1 (Bool.eq_false_iff.2 h) with h2 | h2 | h2
 ·exact absurd h2 ha
 ·exact absurd h2 hb
 exact⟨le_refl a,h2,ha⟩
theorem join_lo {a b:Sp} (ha:mayS a=true) (hb:mayS b=true):(zdd a b).1 = []∨(a.1≠[]∧b.1≠[]∧(zdd a b).1=zbl a.1 b.1):=by
 unfold zdd
 rw[if_pos ⟨ha,hb⟩]
 by_cases h:a.1≠[]∧b.1≠[]
 ·exact .inr ⟨h.1,h.2,if_pos h⟩
 exact .inl (if_neg h)
theorem join_hi {a b:Sp} (ha:mayS a=true) (hb:mayS b=true):(zdd a b).2 = []∨(a.2≠[]∧b.2≠[]∧(zdd a b).2=zcl a.2 b.2):=by
 unfold zdd
 rw[if_pos ⟨ha,hb⟩]
 by_cases h:a.2≠[]∧b.2≠[]
 ·exact .inr ⟨h.1,h.2,if_pos h⟩
 exact .inl (if_neg h)
theorem zpk {a b:Sp} (ha:mayS a=true) (hb:mayS b=true):mayS (zdd a b)=true:=by
 have hB:=zoa ha hb
 refine zb7.2 ⟨hB.1,hB.2,?_⟩
 rcases join_lo ha hb with h | ⟨h1,h2,h3⟩
 ·exact .inl h
 rcases join_hi ha hb with h | ⟨g1,g2,g3⟩
 ·exact .inr (.inl h)
 refine .inr (.inr ?_)
 rw[h3,g3]
 have hm:=(zb7.1 ha).2.2.resolve_left h1 |>.resolve_left g1
 exact le_trans (zge h1 h2).1 (le_trans hm (zgm g1 g2).1)
end VerN

namespace SortM
variable {α : Type}
structure Swo (lt:α→α→Bool):Prop where
 asymm:∀ a b,lt a b=true→lt b a=false
 ntrans:∀ a b c,lt b a=false→lt c b=false→lt c a=false
inductive Sw (lt:α→α→Bool) (l:List α):List α→Prop
 | refl:Sw lt l l
 | step (p:List α) (x y:α) (q:List α):Sw lt l (p ++ x :: y :: q)→lt y x=true→Sw lt l (p ++ y :: x :: q)
def zb8 (lt:α→α→Bool) (l:List α):Prop:=l.Pairwise fun a b=>lt b a=false
variable {lt : α → α → Bool}
theorem Sw.trans {a b c:List α} (h:Sw lt a b) (k:Sw lt b c):Sw lt a c:=by
 induction k with
 | refl=>exact h
 | step p x y q _ hlt ih=>exact .step p x y q ih hlt
theorem Sw.perm {a b:List α} (h:Sw lt a b):a.Perm b:=by
 induction h with
 | refl=>exact List.Perm.refl _
 | step p x y q _ _ ih=>exact ih.trans (List.Perm.append_left _ (List.Perm.swap _ _ _))
theorem Sw.ctx {a b:List α} (h:Sw lt a b) (u v:List α):Sw lt (u ++ a ++ v) (u ++ b ++ v):=by
 induction h with
 | refl=>exact .refl
 | step p x y q _ hlt ih =>
  have h1:u ++ (p ++ x :: y :: q) ++ v=(u ++ p) ++ x :: y :: (q ++ v):=by simp
  have h2:u ++ (p ++ y :: x :: q) ++ v=(u ++ p) ++ y :: x :: (q ++ v):=by simp
  rw[h1] at ih
  rw[h2]
  exact .step _ x y _ ih hlt
theorem Sw.app {a b c d:List α} (h:Sw lt a b) (k:Sw lt c d):Sw lt (a ++ c) (b ++ d):=by
 have h1:=h.ctx [] c
 have h2:=k.ctx b []
 simp only[List.nil_append,List.append_nil] at h1 h2
 exact h1.trans h2
theorem Sw.over (x:α):∀ (b:List α),(∀ y∈b,lt y x=true)→Sw lt (x :: b) (b ++ [x]):=by
 intro b
 induction b with
 | nil=>intro _;exact .refl
 | cons y b ih =>
  intro h
  have h1:Sw lt (x :: y :: b) (y :: x :: b):=.step [] x y b .refl (h y (by simp))
  have h2:=(ih (fun z hz=>h z (by simp[hz]))).ctx [y] []
  simp only[List.append_nil] at h2
  exact h1.trans h2
theorem Sw.blocks:∀ (a b:List α),(∀ x∈a,∀ y∈b,lt y x=true)→Sw lt (a ++ b) (b ++ a):=by
 intro a
 induction a with
 | nil=>intro b _;rw[List.append_nil];exact .refl
 | cons x a ih =>
  intro b h
  have h1:=(ih b (fun z hz=>h z (by simp[hz]))).ctx [x] []
  have h2:=(Sw.over x b (h x (by simp))).ctx [] a
  simp only[List.append_nil,List.nil_append] at h1 h2
  have e:x :: b ++ a = [x] ++ (b ++ a):=rfl
  rw[e] at h2
  refine h1.trans (h2.trans ?_)
  rw[List.append_assoc]
  exact .refl
def eqv (lt:α→α→Bool) (a x:α):Bool:=!lt a x && !lt x a
theorem eqv_of (h:Swo lt) {a x y:α} (hx:eqv lt a x=true) (hy:eqv lt a y=true):lt y x=false:=by
 unfold eqv at hx hy
 simp only[Bool.and_eq_true,Bool.not_eq_true'] at hx hy
 exact h.ntrans x a y hx.1 hy.2
theorem Sw.filter (h:Swo lt) {l m:List α} (k:Sw lt l m) (a:α):l.filter (eqv lt a)=m.filter (eqv lt a):=by
 induction k with
 | refl=>rfl
 | step p x y q _ hlt ih =>
  rw[ih]
  simp only[List.filter_append,List.filter_cons]
  cases hx:eqv lt a x <;> cases hy:eqv lt a y <;> simp
  rw[eqv_of h hx hy] at hlt
  cases hlt
theorem zin (h:Swo lt) (a:α):lt a a=false:=by
 cases e:lt a a
 ·rfl
 have:=h.asymm a a e;rw[e] at this;exact this
theorem eqv_self (h:Swo lt) (a:α):eqv lt a a=true:=by unfold eqv;rw[zin h a];rfl
theorem uniq (h:Swo lt):∀ (a b:List α),a.Perm b→(∀ x,a.filter (eqv lt x)=b.filter (eqv lt x))→zb8 lt a→zb8 lt b→a=b:=by
 intro a
 induction a with
 | nil=>intro b hp _ _ _;exact hp.nil_eq
 | cons x a ih =>
  intro b hp hf ha hb
  match b with
  | [] => exact absurd hp.symm.nil_eq (by simp)
  | y :: b =>
   have h1:lt y x=false:=by
    have hy:y∈x :: a:=hp.symm.subset (by simp)
    rcases List.mem_cons.1 hy with e | hy
    ·rw[e];exact zin h x
    exact (List.pairwise_cons.1 ha).1 y hy
   have h2:lt x y=false:=by
    have hx:x∈y :: b:=hp.subset (by simp)
    rcases List.mem_cons.1 hx with e | hx
    ·rw[e];exact zin h y
    exact (List.pairwise_cons.1 hb).1 x hx
   have h3:eqv lt x y=true:=by unfold eqv;rw[h1,h2];rfl
   have hx:=hf x
   rw[List.filter_cons,List.filter_cons,if_pos (eqv_self h x),if_pos h3] at hx
   injection hx with hxy _
   subst hxy
   congr 1
   refine ih b (List.Perm.cons_inv hp) (fun z=>?_) (List.pairwise_cons.1 ha).2 (List.pairwise_cons.1 hb).2
   have:=hf z
   rw[List.filter_cons,List.filter_cons] at this
   split at this
   ·injection this
   exact this
def ins (lt:α→α→Bool) (x:α):List α→List α
 | [] => [x]
 | y :: l=>if lt x y=true then x :: y :: l else y :: ins lt x l
def zay (lt:α→α→Bool) (l:List α):List α:=l.foldl (fun r x=>ins lt x r) []
theorem mem_ins (x z:α) (l:List α):z∈ins lt x l↔z=x∨z∈l:=by
 induction l with
 | nil=>simp[ins]
 | cons y l ih =>
  unfold ins
  split
  ·simp
  simp only[List.mem_cons,ih]
  constructor
  ·rintro (h | h | h)
   ·exact .inr (.inl h)
   ·exact .inl h
   exact .inr (.inr h)
  rintro (h | h | h)
  ·exact .inr (.inl h)
  ·exact .inl h
  exact .inr (.inr h)
theorem zrc (h:Swo lt) (x:α) (l:List α) (hl:zb8 lt l):zb8 lt (ins lt x l):=by
 induction l with
 | nil=>simp[ins,zb8]
 | cons y l ih =>
  have hl':=List.pairwise_cons.1 hl
  unfold ins
  split
  ·rename_i hxy
   refine List.pairwise_cons.2 ⟨fun z hz=>?_,hl⟩
   rcases List.mem_cons.1 hz with e | hz
   ·rw[e];exact h.asymm _ _ hxy
   exact h.ntrans x y z (h.asymm _ _ hxy) (hl'.1 z hz)
  rename_i hxy
  refine List.pairwise_cons.2 ⟨fun z hz=>?_,ih hl'.2⟩
  rcases (mem_ins x z l).1 hz with e | hz
  ·rw[e];simpa using hxy
  exact hl'.1 z hz
theorem ins_sw (h:Swo lt) (x:α) (l:List α) (hl:zb8 lt l):Sw lt (l ++ [x]) (ins lt x l):=by
 induction l with
 | nil=>exact .refl
 | cons y l ih =>
  have hl':=List.pairwise_cons.1 hl
  unfold ins
  split
  ·rename_i hxy
   have:∀ z∈y :: l,lt x z=true:=by
    intro z hz
    cases e:lt x z
    ·have h1:lt x y=false:=by
      rcases List.mem_cons.1 hz with e2 | hz
      ·rw[← e2];exact e
      exact h.ntrans y z x (hl'.1 z hz) e
     rw[hxy] at h1;cases h1
    rfl
   have h2:=Sw.blocks (lt:=lt) (y :: l) [x] (fun a ha b hb=>by simp at hb;subst hb;exact this a ha)
   exact h2
  have h2:=(ih hl'.2).ctx [y] []
  simp only[List.append_nil] at h2
  exact h2
theorem zir (h:Swo lt):∀ (l r:List α),zb8 lt r→zb8 lt (l.foldl (fun r x=>ins lt x r) r)∧Sw lt (r ++ l) (l.foldl (fun r x=>ins lt x r) r):=by
 intro l
 induction l with
 | nil=>intro r hr;exact⟨hr,by rw[List.append_nil];exact .refl⟩
 | cons x l ih =>
  intro r hr
  obtain⟨h1,h2⟩:=ih (ins lt x r) (zrc h x r hr)
  refine⟨h1,?_⟩
  have h3:=(ins_sw h x r hr).ctx [] l
  simp only[List.nil_append] at h3
  have e:r ++ [x] ++ l=r ++ x :: l:=by simp
  rw[e] at h3
  exact h3.trans h2
theorem zbd (h:Swo lt) (l:List α):zb8 lt (zay lt l):=(zir h l [] List.Pairwise.nil).1
theorem zdf (h:Swo lt) (l:List α):Sw lt l (zay lt l):=by
 have:=(zir h l [] List.Pairwise.nil).2
 rw[List.nil_append] at this
 exact this
theorem zfc (h:Swo lt) {l a:List α} (hs:Sw lt l a) (ha:zb8 lt a):a=zay lt l:=by
 have h1:=zdf h l
 exact uniq h a (zay lt l) (hs.perm.symm.trans h1.perm) (fun x=>(hs.filter h x).symm.trans (h1.filter h x)) ha (zbd h l)
theorem znb (h:Swo lt) {l a:List α} (hs:Sw lt l a):zay lt a=zay lt l:=zfc h (hs.trans (zdf h a)) (zbd h a)
theorem zhn (h:Swo lt) {l:List α} (hl:zb8 lt l):zay lt l=l:=(zfc h .refl hl).symm
theorem zcm (h:Swo lt) (l:List α):(zay lt l).length=l.length:=(zdf h l).perm.length_eq.symm
theorem mem_ssort (h:Swo lt) (l:List α) (x:α):x∈zay lt l↔x∈l:=(zdf h l).perm.symm.mem_iff
theorem zln (h:Swo lt) (a b:List α):zay lt (zay lt a ++ zay lt b)=zay lt (a ++ b):=znb h ((zdf h a).app (zdf h b))
theorem zqf (l:List α) (x:α):zay lt (l ++ [x])=ins lt x (zay lt l):=by unfold zay;rw[List.foldl_append];rfl
theorem ssort_cut (h:Swo lt) (l1 l2 r1 r2:List α) (hx:∀ x∈l2,∀ y∈r1,lt y x=true) (h12:∀ a∈l1,∀ b∈l2,lt b a=false) (hr:∀ a∈r1,∀ b∈r2,lt b a=false) (hlr:∀ a∈l1,∀ b∈r2,lt b a=false) :
  zay lt (l1 ++ l2 ++ (r1 ++ r2))=zay lt (l1 ++ r1) ++ zay lt (l2 ++ r2):=by
 symm
 apply zfc h
 ·have h1:=(Sw.blocks l2 r1 hx).ctx l1 r2
  have e1:l1 ++ (l2 ++ r1) ++ r2=l1 ++ l2 ++ (r1 ++ r2):=by simp
  have e2:l1 ++ (r1 ++ l2) ++ r2=(l1 ++ r1) ++ (l2 ++ r2):=by simp
  rw[e1,e2] at h1
  exact h1.trans ((zdf h _).app (zdf h _))
 refine List.pairwise_append.2 ⟨zbd h _,zbd h _,fun a ha b hb=>?_⟩
 rw[mem_ssort h] at ha hb
 rcases List.mem_append.1 ha with ha | ha <;> rcases List.mem_append.1 hb with hb | hb
 ·exact h12 a ha b hb
 ·exact hlr a ha b hb
 ·exact h.asymm _ _ (hx b hb a ha)
 exact hr a ha b hb
end SortM

namespace VerN
open Go.Lib SortM
abbrev Pt:=Option (Bool × List UInt8)
def covS (s:Sp):Pt→Prop
 | none=>s.1 = []
 | some (false,p)=>zdc s.1 p∧zfr s.2 p
 | some (true,p)=>zdc s.1 p∧(s.2 = []∨¬ le s.2 p)
def cov (l:List Sp) (x:Pt):Prop:=∃ s∈l,covS s x
def bef (a b:Sp):Prop:=a.2≠[]∧b.1≠[]∧¬ le b.1 a.2
def Sep (l:List Sp):Prop:=(∀ s∈l,mayS s=true)∧l.Pairwise bef
theorem le_anti {a b:List UInt8} (ha:mayL a=true) (h1:le a b) (h2:le b a):a=b:=by
 have h3:=zbr.neg a b
 have h4:zb6 a b=0:=by unfold le at h1 h2;omega
 rcases zmv h4 with h | ⟨h,_⟩
 ·exact h
 rw[ha] at h;cases h
theorem zij {a b:List UInt8} (h:¬ le a b):le b a:=(le_total a b).resolve_left h
theorem may_lo {s:Sp} (h:mayS s=true) (h1:s.1≠[]):mayL s.1=true:=(zf5.1 (zb7.1 h).1).resolve_left h1
theorem may_hi {s:Sp} (h:mayS s=true) (h1:s.2≠[]):mayL s.2=true:=(zf5.1 (zb7.1 h).2.1).resolve_left h1
theorem bef_apart {a b:Sp} (h:bef a b) (x:Pt) (ha:covS a x) (hb:covS b x):False:=by
 obtain⟨h1,h2,h3⟩:=h
 match x,ha,hb with
 | none,_,hb=>exact h2 hb
 | some (false,p),ha,hb =>
  rcases ha.2 with h | h
  ·exact h1 h
  rcases hb.1 with k | k
  ·exact h2 k
  exact h3 (le_trans k h)
 | some (true,p),ha,hb =>
  rcases ha.2 with h | h
  ·exact h1 h
  rcases hb.1 with k | k
  ·exact h2 k
  exact h3 (le_trans k (zij h))
theorem zpv {s:Sp} (h:mayS s=true):∃ x,covS s x:=by
 by_cases h1:s.1 = []
 ·exact⟨none,h1⟩
 refine⟨some (false,s.1),.inr (le_refl _),?_⟩
 rcases (zb7.1 h).2.2 with k | k | k
 ·exact absurd k h1
 ·exact .inl k
 exact .inr k
theorem cov_lo {g:Sp} {G:List Sp} (h:Sep (g :: G)) {p:List UInt8} (hx:cov (g :: G) (some (false,p))):zdc g.1 p:=by
 obtain⟨s,hs,hc⟩:=hx
 rcases List.mem_cons.1 hs with rfl | hs
 ·exact hc.1
 obtain⟨b1,b2,b3⟩:=(List.pairwise_cons.1 h.2).1 s hs
 rcases (zb7.1 (h.1 g (by simp))).2.2 with k | k | k
 ·exact .inl k
 ·exact absurd k b1
 rcases hc.1 with m | m
 ·exact absurd m b2
 exact .inr (le_trans (le_trans k (zij b3)) m)
theorem cov_bot {g:Sp} {G:List Sp} (h:Sep (g :: G)) (hx:cov (g :: G) none):g.1 = []:=by
 obtain⟨s,hs,hc⟩:=hx
 rcases List.mem_cons.1 hs with rfl | hs
 ·exact hc
 exact absurd hc ((List.pairwise_cons.1 h.2).1 s hs).2.1
theorem lo_half {f g:Sp} {F G:List Sp} (hf:Sep (f :: F)) (hg:Sep (g :: G)) (h:∀ x,cov (f :: F) x→cov (g :: G) x):(f.1 = []→g.1 = [])∧(f.1≠[]→zdc g.1 f.1):=by
 constructor
 ·intro e
  exact cov_bot hg (h none ⟨f,by simp,e⟩)
 intro e
 refine cov_lo hg (h _ ⟨f,by simp,.inr (le_refl _),?_⟩)
 rcases (zb7.1 (hf.1 f (by simp))).2.2 with k | k | k
 ·exact absurd k e
 ·exact .inl k
 exact .inr k
theorem lo_eq {f g:Sp} {F G:List Sp} (hf:Sep (f :: F)) (hg:Sep (g :: G)) (h:∀ x,cov (f :: F) x↔cov (g :: G) x):f.1=g.1:=by
 obtain⟨a1,a2⟩:=lo_half hf hg fun x=>(h x).1
 obtain⟨b1,b2⟩:=lo_half hg hf fun x=>(h x).2
 by_cases e:f.1 = []
 ·rw[e,a1 e]
 have e2:g.1≠[]:=fun k=>e (b1 k)
 rcases a2 e with k | k
 ·exact absurd k e2
 rcases b2 e2 with m | m
 ·exact absurd m e
 exact le_anti (may_lo (hf.1 f (by simp)) e) m k
theorem zoe {f g:Sp} {F G:List Sp} (hg:Sep (g :: G)) (e:f.1=g.1) (h:∀ x,cov (f :: F) x→cov (g :: G) x) (hg2:g.2≠[]):f.2≠[]∧le f.2 g.2:=by
 by_cases hc:f.2 = []∨¬ le f.2 g.2
 ·exfalso
  have hlo:zdc f.1 g.2:=by
   rw[e]
   rcases (zb7.1 (hg.1 g (by simp))).2.2 with k | k | k
   ·exact .inl k
   ·exact absurd k hg2
   exact .inr k
  obtain⟨s,hs,hk⟩:=h (some (true,g.2)) ⟨f,by simp,hlo,hc⟩
  rcases List.mem_cons.1 hs with rfl | hs
  ·rcases hk.2 with k | k
   ·exact hg2 k
   exact k (le_refl _)
  obtain⟨_,b2,b3⟩:=(List.pairwise_cons.1 hg.2).1 s hs
  rcases hk.1 with k | k
  ·exact b2 k
  exact b3 k
 exact⟨fun k=>hc (.inl k),Classical.not_not.1 fun k=>hc (.inr k)⟩
theorem hi_eq {f g:Sp} {F G:List Sp} (hf:Sep (f :: F)) (hg:Sep (g :: G)) (e:f.1=g.1) (h:∀ x,cov (f :: F) x↔cov (g :: G) x):f.2=g.2:=by
 by_cases e2:g.2 = []
 ·rw[e2]
  refine Classical.not_not.1 fun k=>?_
  exact (zoe hf e.symm (fun x=>(h x).2) k).1 e2
 obtain⟨a1,a2⟩:=zoe hg e (fun x=>(h x).1) e2
 obtain⟨_,b2⟩:=zoe hf e.symm (fun x=>(h x).2) a1
 exact le_anti (may_hi (hf.1 f (by simp)) a1) a2 b2
theorem zpu {f:Sp} {F:List Sp} (h:Sep (f :: F)) (x:Pt):cov F x↔cov (f :: F) x∧¬ covS f x:=by
 constructor
 ·rintro⟨s,hs,hc⟩
  exact⟨⟨s,by simp[hs],hc⟩,fun k=>bef_apart ((List.pairwise_cons.1 h.2).1 s hs) x k hc⟩
 rintro⟨⟨s,hs,hc⟩,hn⟩
 rcases List.mem_cons.1 hs with rfl | hs
 ·exact absurd hc hn
 exact⟨s,hs,hc⟩
theorem Sep.tail {f:Sp} {F:List Sp} (h:Sep (f :: F)):Sep F:=⟨fun s hs=>h.1 s (by simp[hs]),(List.pairwise_cons.1 h.2).2⟩
theorem sep_one:∀ (F G:List Sp),Sep F→Sep G→(∀ x,cov F x↔cov G x)→F=G
 | [],[],_,_,_=>rfl
 | [],g :: G,_,hg,h=>by
  obtain⟨x,hx⟩:=zpv (hg.1 g (by simp))
  obtain⟨s,hs,_⟩:=(h x).2 ⟨g,by simp,hx⟩
  simp at hs
 | f :: F,[],hf,_,h=>by
  obtain⟨x,hx⟩:=zpv (hf.1 f (by simp))
  obtain⟨s,hs,_⟩:=(h x).1 ⟨f,by simp,hx⟩
  simp at hs
 | f :: F,g :: G,hf,hg,h=>by
  have e1:=lo_eq hf hg h
  have e2:=hi_eq hf hg e1 h
  obtain rfl:f=g:=Prod.ext e1 e2
  rw[sep_one F G hf.tail hg.tail fun x=>by rw[zpu hf,zpu hg,h x]]
def okb (lo hi:List UInt8):Prop:=lo = []∨hi = []∨le lo hi
theorem okb_bef {a b:Sp}:okb b.1 a.2↔¬ bef a b:=by
 unfold okb bef
 constructor
 ·rintro (h | h | h) ⟨h1,h2,h3⟩
  ·exact h2 h
  ·exact h1 h
  exact h3 h
 intro h
 by_cases h2:b.1 = []
 ·exact .inl h2
 by_cases h1:a.2 = []
 ·exact .inr (.inl h1)
 exact .inr (.inr (Classical.not_not.1 fun k=>h ⟨h1,h2,k⟩))
theorem zff {lo h k:List UInt8}:okb lo (zbl h k)↔okb lo h∧okb lo k:=by
 by_cases e:lo = []
 ·unfold okb;simp[e]
 have hh:∀ x,okb lo x↔zfr x lo:=fun x=>⟨fun h=>h.resolve_left e,fun h=>.inr h⟩
 rw[hh,hh,hh]
 exact zlj
theorem zm7 {x y hi:List UInt8}:okb (zcl x y) hi↔okb x hi∧okb y hi:=by
 by_cases e:hi = []
 ·unfold okb;simp[e]
 have hh:∀ x,okb x hi↔zdc x hi:=fun x=>⟨fun h=>h.elim .inl fun h=>.inr (h.resolve_left e),fun h=>h.elim .inl fun h=>.inr (.inr h)⟩
 rw[hh,hh,hh]
 exact zo8
theorem zo5 {s:Sp} (h:mayS s=true):okb s.1 s.2:=(zb7.1 h).2.2
theorem zht {a b:Sp} (ha:mayS a=true) (hb:mayS b=true):zby a b=true↔¬ bef a b∧¬ bef b a:=by
 unfold zby
 rw[ha,hb,Bool.true_and,Bool.true_and,zb7]
 obtain⟨h1,h2⟩:=zo3 ha hb
 rw[← okb_bef,← okb_bef]
 constructor
 ·rintro⟨_,_,h⟩
  have h:okb (zcl a.1 b.1) (zbl a.2 b.2):=h
  rw[zm7,zff,zff] at h
  exact⟨h.2.1,h.1.2⟩
 rintro⟨k1,k2⟩
 refine⟨h1,h2,?_⟩
 show okb (zcl a.1 b.1) (zbl a.2 b.2)
 rw[zm7,zff,zff]
 exact⟨⟨zo5 ha,k2⟩,k1,zo5 hb⟩
theorem sooner_or {a b:List UInt8} (ha:a≠[]) (hb:b≠[]) (p:List UInt8):le (zbl a b) p↔le a p∨le b p:=by
 obtain⟨h1,h2,_⟩:=zge ha hb
 constructor
 ·intro h
  rcases zet a b with e | e
  ·rw[e] at h;exact .inl h
  rw[e] at h;exact .inr h
 rintro (h | h)
 ·exact le_trans h1 h
 exact le_trans h2 h
theorem later_or {a b:List UInt8} (ha:a≠[]) (hb:b≠[]) (p:List UInt8):le p (zcl a b)↔le p a∨le p b:=by
 obtain⟨h1,h2,_⟩:=zgm ha hb
 constructor
 ·intro h
  rcases zej a b with e | e
  ·rw[e] at h;exact .inl h
  rw[e] at h;exact .inr h
 rintro (h | h)
 ·exact le_trans h h1
 exact le_trans h h2
theorem later_nle {a b:List UInt8} (ha:a≠[]) (hb:b≠[]) (p:List UInt8):¬ le (zcl a b) p↔¬ le a p∨¬ le b p:=by
 obtain⟨h1,h2,_⟩:=zgm ha hb
 constructor
 ·intro h
  rcases zej a b with e | e
  ·rw[e] at h;exact .inl h
  rw[e] at h;exact .inr h
 rintro (h | h) k
 ·exact h (le_trans h1 k)
 exact h (le_trans h2 k)
theorem zea {a b:Sp} (ha:mayS a=true) (hb:mayS b=true):zdd a b=(if a.1≠[]∧b.1≠[] then zbl a.1 b.1 else [],if a.2≠[]∧b.2≠[] then zcl a.2 b.2 else []):=by
 unfold zdd;rw[if_pos ⟨ha,hb⟩]
theorem zjt {a b:Sp} (ha:mayS a=true) (hb:mayS b=true) (p:List UInt8):zdc (zdd a b).1 p↔zdc a.1 p∨zdc b.1 p:=by
 rw[zea ha hb]
 by_cases h:a.1≠[]∧b.1≠[]
 ·have e:=sooner_or h.1 h.2 p
  have n:=(zge h.1 h.2).2.2
  simp only[if_pos h]
  unfold zdc
  simp only[h.1,h.2,n,false_or,e]
 simp only[if_neg h]
 refine⟨fun _=>?_,fun _=>.inl rfl⟩
 by_cases h1:a.1 = []
 ·exact .inl (.inl h1)
 by_cases h2:b.1 = []
 ·exact .inr (.inl h2)
 exact absurd ⟨h1,h2⟩ h
theorem join_nil {a b:Sp} (ha:mayS a=true) (hb:mayS b=true):(zdd a b).1 = []↔a.1 = []∨b.1 = []:=by
 rw[zea ha hb]
 by_cases h:a.1≠[]∧b.1≠[]
 ·have n:=(zge h.1 h.2).2.2
  simp only[if_pos h,n,h.1,h.2,or_self]
 simp only[if_neg h,true_iff]
 by_cases h1:a.1 = []
 ·exact .inl h1
 by_cases h2:b.1 = []
 ·exact .inr h2
 exact absurd ⟨h1,h2⟩ h
theorem zr9 {a b:Sp} (ha:mayS a=true) (hb:mayS b=true) (p:List UInt8):zfr (zdd a b).2 p↔zfr a.2 p∨zfr b.2 p:=by
 rw[zea ha hb]
 by_cases h:a.2≠[]∧b.2≠[]
 ·have e:=later_or h.1 h.2 p
  have n:=(zgm h.1 h.2).2.2
  simp only[if_pos h]
  unfold zfr
  simp only[h.1,h.2,n,false_or,e]
 simp only[if_neg h]
 refine⟨fun _=>?_,fun _=>.inl rfl⟩
 by_cases h1:a.2 = []
 ·exact .inl (.inl h1)
 by_cases h2:b.2 = []
 ·exact .inr (.inl h2)
 exact absurd ⟨h1,h2⟩ h
theorem join_gap {a b:Sp} (ha:mayS a=true) (hb:mayS b=true) (p:List UInt8):((zdd a b).2 = []∨¬ le (zdd a b).2 p)↔(a.2 = []∨¬ le a.2 p)∨(b.2 = []∨¬ le b.2 p):=by
 rw[zea ha hb]
 by_cases h:a.2≠[]∧b.2≠[]
 ·have e:=later_nle h.1 h.2 p
  have n:=(zgm h.1 h.2).2.2
  simp only[if_pos h,h.1,h.2,n,false_or,e]
 simp only[if_neg h,true_or,true_iff]
 by_cases h1:a.2 = []
 ·exact .inl (.inl h1)
 by_cases h2:b.2 = []
 ·exact .inr (.inl h2)
 exact absurd ⟨h1,h2⟩ h
theorem cross {a b:Sp} (h:¬ bef a b) {p:List UInt8} (hlo:zdc a.1 p) (hhi:zfr b.2 p):zfr a.2 p∨zdc b.1 p:=by
 by_cases h1:zfr a.2 p
 ·exact .inl h1
 by_cases h2:zdc b.1 p
 ·exact .inr h2
 exfalso
 have a1:a.2≠[]:=fun e=>h1 (.inl e)
 have b1:b.1≠[]:=fun e=>h2 (.inl e)
 have a2:¬ le p a.2:=fun e=>h1 (.inr e)
 have b2:¬ le b.1 p:=fun e=>h2 (.inr e)
 exact h ⟨a1,b1,fun k=>b2 (le_trans k (zij a2))⟩
theorem zmu {a b:Sp} (h:¬ bef a b) {p:List UInt8} (hlo:zdc a.1 p) (hhi:b.2 = []∨¬ le b.2 p):(a.2 = []∨¬ le a.2 p)∨zdc b.1 p:=by
 by_cases h1:a.2 = []∨¬ le a.2 p
 ·exact .inl h1
 by_cases h2:zdc b.1 p
 ·exact .inr h2
 exfalso
 have a1:a.2≠[]:=fun e=>h1 (.inl e)
 have b1:b.1≠[]:=fun e=>h2 (.inl e)
 have a2:le a.2 p:=Classical.not_not.1 fun e=>h1 (.inr e)
 have b2:¬ le b.1 p:=fun e=>h2 (.inr e)
 exact h ⟨a1,b1,fun k=>b2 (le_trans k a2)⟩
theorem zpl {a b:Sp} (ha:mayS a=true) (hb:mayS b=true) (hm:zby a b=true) (x:Pt):covS (zdd a b) x↔covS a x∨covS b x:=by
 obtain⟨h1,h2⟩:=(zht ha hb).1 hm
 match x with
 | none=>exact join_nil ha hb
 | some (false,p) =>
  show zdc _ p∧zfr _ p↔(zdc _ p∧zfr _ p)∨(zdc _ p∧zfr _ p)
  rw[zjt ha hb,zr9 ha hb]
  constructor
  ·rintro⟨l | l,u | u⟩
   ·exact .inl ⟨l,u⟩
   ·rcases cross h1 l u with k | k
    ·exact .inl ⟨l,k⟩
    exact .inr ⟨k,u⟩
   ·rcases cross h2 l u with k | k
    ·exact .inr ⟨l,k⟩
    exact .inl ⟨k,u⟩
   exact .inr ⟨l,u⟩
  rintro (⟨l,u⟩ | ⟨l,u⟩)
  ·exact⟨.inl l,.inl u⟩
  exact⟨.inr l,.inr u⟩
 | some (true,p) =>
  show zdc _ p∧(_∨_)↔(zdc _ p∧(_∨_))∨(zdc _ p∧(_∨_))
  rw[zjt ha hb,join_gap ha hb]
  constructor
  ·rintro⟨l | l,u | u⟩
   ·exact .inl ⟨l,u⟩
   ·rcases zmu h1 l u with k | k
    ·exact .inl ⟨l,k⟩
    exact .inr ⟨k,u⟩
   ·rcases zmu h2 l u with k | k
    ·exact .inr ⟨l,k⟩
    exact .inl ⟨k,u⟩
   exact .inr ⟨l,u⟩
  rintro (⟨l,u⟩ | ⟨l,u⟩)
  ·exact⟨.inl l,.inl u⟩
  exact⟨.inr l,.inr u⟩
def ltLo (a b:List UInt8):Bool:=decide (b≠[]) && (decide (a = []) || decide (zb6 a b < 0))
def loLe (a b:List UInt8):Prop:=a = []∨(b≠[]∧le a b)
theorem zo7 {a b:List UInt8}:ltLo b a=false↔loLe a b:=by
 have h:¬ zb6 b a < 0↔le a b:=by
  have:=zbr.neg a b
  unfold le;omega
 unfold ltLo loLe
 simp only[Bool.and_eq_false_iff,Bool.or_eq_false_iff,decide_eq_false_iff_not,ne_eq,Decidable.not_not,h]
def addS (out:List Sp) (x:Sp):List Sp:=match out.getLast? with
 | some z=>if zby z x=true then out.dropLast ++ [zdd z x] else out ++ [x]
 | none=>[x]
def zpg (l:List Sp):List Sp:=l.foldl addS []
theorem addS_nil (x:Sp):addS [] x = [x]:=rfl
theorem zn4 (O:List Sp) (z x:Sp):addS (O ++ [z]) x=if zby z x=true then O ++ [zdd z x] else O ++ [z,x]:=by
 unfold addS
 simp
theorem zrb {z x:Sp} (hz:mayS z=true) (hx:mayS x=true) (h:loLe z.1 x.1):(zdd z x).1=z.1:=by
 rw[zea hz hx]
 by_cases h1:z.1≠[]∧x.1≠[]
 ·simp only[if_pos h1]
  unfold zbl
  rcases h with h | h
  ·exact absurd h h1.1
  rw[if_neg]
  rintro (k | k)
  ·exact h1.1 k
  exact (zf6.1 k).2.2 h.2
 simp only[if_neg h1]
 rcases h with h | h
 ·exact h.symm
 by_cases e:z.1 = []
 ·exact e.symm
 exact absurd ⟨e,h.1⟩ h1
theorem zq3 {z x:Sp} (hz:mayS z=true) (hx:mayS x=true) (h:loLe z.1 x.1) (hm:zby z x=false):bef z x:=by
 refine Classical.not_not.1 fun hn=>?_
 have:¬ (¬ bef z x∧¬ bef x z):=fun k=>by rw[(zht hz hx).2 k] at hm;cases hm
 refine this ⟨hn,?_⟩
 rintro⟨b1,b2,b3⟩
 rcases h with h | ⟨h1,h⟩
 ·exact b2 h
 rcases zo5 hx with k | k | k
 ·exact h1 k
 ·exact b1 k
 exact b3 (le_trans h k)
theorem bef_lo {o z x:Sp} (h:bef o z) (hl:loLe z.1 x.1):bef o x:=by
 obtain⟨h1,h2,h3⟩:=h
 rcases hl with k | ⟨k1,k⟩
 ·exact absurd k h2
 exact⟨h1,k1,fun m=>h3 (le_trans k m)⟩
def Lo (a b:Sp):Prop:=loLe a.1 b.1
theorem add_sep {O:List Sp} {x:Sp} {r:List Sp} (ho:Sep O) (hx:mayS x=true) (hl:∀ z,O.getLast? = some z→∀ y∈x :: r,Lo z y) (hr:(x :: r).Pairwise Lo) :
  Sep (addS O x)∧(∀ z,(addS O x).getLast? = some z→∀ y∈r,Lo z y)∧∀ p,cov (addS O x) p↔cov O p∨covS x p:=by
 rcases List.eq_nil_or_concat O with rfl | ⟨Q,z,rfl⟩
 ·rw[addS_nil]
  refine⟨⟨fun s hs=>by rw[List.mem_singleton.1 hs];exact hx,by simp⟩,fun z hz y hy=>?_,fun p=>?_⟩
  ·simp at hz;subst hz
   exact (List.pairwise_cons.1 hr).1 y hy
  unfold cov;simp
 rw[List.concat_eq_append] at *
 rw[zn4]
 have hzx:Lo z x:=hl z (by simp) x (by simp)
 have hzm:mayS z=true:=ho.1 z (by simp)
 obtain⟨p1,p2,p3⟩:=List.pairwise_append.1 ho.2
 cases hm:zby z x with
 | true =>
  rw[if_pos rfl]
  have hj:=zrb hzm hx hzx
  refine⟨⟨fun s hs=>?_,?_⟩,fun s hs y hy=>?_,fun p=>?_⟩
  ·rcases List.mem_append.1 hs with h | h
   ·exact ho.1 s (by simp[h])
   rw[List.mem_singleton.1 h];exact zpk hzm hx
  ·refine List.pairwise_append.2 ⟨p1,by simp,fun o hO s hs=>?_⟩
   rw[List.mem_singleton.1 hs]
   obtain⟨b1,b2,b3⟩:=p3 o hO z (by simp)
   exact⟨b1,by rw[hj];exact b2,by rw[hj];exact b3⟩
  ·simp at hs;subst hs
   show loLe _ _
   rw[hj]
   exact hl z (by simp) y (by simp[hy])
  have hc:=zpl hzm hx hm p
  unfold cov
  simp only[List.mem_append,List.mem_singleton,or_and_right,exists_or,exists_eq_left,hc,or_assoc]
 | false =>
  rw[if_neg (by simp)]
  have hb:=zq3 hzm hx hzx hm
  refine⟨⟨fun s hs=>?_,?_⟩,fun s hs y hy=>?_,fun p=>?_⟩
  ·rcases List.mem_append.1 hs with h | h
   ·exact ho.1 s (by simp[h])
   rcases List.mem_cons.1 h with rfl | h
   ·exact hzm
   rw[List.mem_singleton.1 h];exact hx
  ·refine List.pairwise_append.2 ⟨p1,by simpa using hb,fun o hO s hs=>?_⟩
   have b:=p3 o hO z (by simp)
   rcases List.mem_cons.1 hs with rfl | h
   ·exact b
   rw[List.mem_singleton.1 h];exact bef_lo b hzx
  ·simp at hs;subst hs
   exact (List.pairwise_cons.1 hr).1 y hy
  unfold cov
  simp only[List.mem_append,List.mem_singleton,List.mem_cons,List.not_mem_nil,or_false,or_and_right,exists_or,exists_eq_left,or_assoc]
theorem zpo:∀ (r O:List Sp),Sep O→(∀ s∈r,mayS s=true)→(∀ z,O.getLast? = some z→∀ y∈r,Lo z y)→r.Pairwise Lo→Sep (r.foldl addS O)∧∀ p,cov (r.foldl addS O) p↔cov O p∨cov r p
 | [],O,ho,_,_,_=>⟨ho,fun p=>by simp[cov]⟩
 | x :: r,O,ho,hm,hl,hr=>by
  obtain⟨h1,h2,h3⟩:=add_sep ho (hm x (by simp)) hl hr
  obtain⟨k1,k2⟩:=zpo r (addS O x) h1 (fun s hs=>hm s (by simp[hs])) h2 (List.pairwise_cons.1 hr).2
  refine⟨k1,fun p=>?_⟩
  rw[List.foldl_cons,k2 p,h3 p]
  unfold cov
  simp only[List.mem_cons,or_and_right,exists_or,exists_eq_left,or_assoc]
theorem merge_sep {r:List Sp} (hm:∀ s∈r,mayS s=true) (hr:r.Pairwise Lo):Sep (zpg r)∧∀ p,cov (zpg r) p↔cov r p:=by
 obtain⟨h1,h2⟩:=zpo r [] ⟨fun s hs=>by simp at hs,List.Pairwise.nil⟩ hm (fun z hz=>by simp at hz) hr
 exact⟨h1,fun p=>by rw[zpg,h2 p];simp[cov]⟩
theorem sep_of {r:List Sp} (hm:∀ s∈r,mayS s=true) (hr:r.Pairwise Lo) (hn:r.Pairwise fun a b=>zby a b=false):Sep r:=by
 refine⟨hm,?_⟩
 refine (List.pairwise_and_iff.2 ⟨hr,hn⟩).imp_of_mem ?_
 intro a b ha hb h
 exact zq3 (hm a ha) (hm b hb) h.1 h.2
theorem zl6 {a b:List Sp} (h:a.Perm b) (p:Pt):cov a p↔cov b p:=by
 unfold cov
 simp only[h.mem_iff]
end VerN

section
open Go.RowKit
theorem zke {α:Type} {R:Rd α} {w:World} {B:Nat} {e:TypeId} {v:Value} {vs:List Value} {l:List α} (hlen:vs.length=l.length) (h:w.ownsRow B e 1 v l.length vs) (hr:∀ (i:Nat) u x,vs[i]? = some u→l[i]? = some x→R w [u] x):zde 1 R w [v] l:=by
 obtain⟨a,cap,rfl,h1,h2,h3⟩:=Sl.of_owns h
 refine⟨a,cap,rfl,h1,h2,fun i f hi=>?_⟩
 have hil:=(List.getElem?_eq_some_iff.1 hi).1
 have hiv:i < vs.length:=by omega
 obtain⟨b,off,ha,hc⟩:=h3 i vs[i] (List.getElem?_eq_getElem hiv)
 refine⟨b,off,[vs[i]],ha,rfl,fun j u hu=>?_,hr i _ f (List.getElem?_eq_getElem hiv) hi⟩
 have hj:j=0:=by have:=(List.getElem?_eq_some_iff.1 hu).1;simp at this;omega
 subst hj
 simp at hu
 subst hu
 simpa using hc
end

section
open Go.RowKit Go.Lib VerN
theorem letOk_all {l:List UInt8} (h:zbz l=true):∀ x∈l,zhj x=true:=by unfold zbz at h;rw[Bool.and_eq_true] at h;exact List.all_eq_true.1 h.2
theorem digs_all {l:List UInt8} (h:digs l=true):∀ x∈l,zeb x=true:=by unfold digs at h;rw[Bool.and_eq_true] at h;exact List.all_eq_true.1 h.1
theorem zdy (s:ByteArray) (hs:s.size≤9223372036854775807) (w:World):Calls Tryz.prog 203 #[.string s] w fun e w'=>e = .returned (.bool (zbz s.data.toList))∧w=w':=by
 obtain⟨l,hl⟩ : ∃ l,l=s.data.toList:=⟨_,rfl⟩
 have hln:l.length=s.size:=by rw[hl];exact Txt.len s
 obtain⟨r,hr⟩ : ∃ r,r=zbz l:=⟨_,rfl⟩
 rw[← hl,← hr]
 obtain⟨Hl,Hln,Hr⟩:=hd3 hl hln hr;clear hl hln hr
 go_enter Tryz.func203,Tryz.ntmps203
 go_wp2_with fail
 go_loop [3] (fun i=>∃ k:Nat,k≤s.size∧i = .int .i64 k∧(l.take k).all zhj=true) (fun i=>s.size - (RowKit.intOf i).toNat)
 case atStart=>exact⟨0,Nat.zero_le _,rfl,by simp⟩
 case round =>
  obtain⟨k,hk,rfl,hall⟩:=hrel
  by_cases hlt:k < s.size
  ·have hkl:k < l.length:=by have:=Hln.out;omega
   obtain⟨n,hn⟩ : ∃ n,n=s[k].toNat:=⟨_,rfl⟩
   have hn256:n < 256:=by rw[hn];exact s[k].toNat_lt
   have hsk:s[k].toNat=n:=hn.symm
   have e:l[k]=s[k]:=by simp only[Hl.out];rfl
   have hyes:97≤n→n≤122→(l.take (k+1)).all zhj=true:=fun h1 h2=>by
    rw[List.take_succ_eq_append_getElem hkl,List.all_append,hall]
    simp only[List.all_cons,List.all_nil,Bool.and_true,Bool.true_and]
    rw[zdb,e,hsk];exact⟨h1,h2⟩
   have hno:¬ (97≤n∧n≤122)→r=false:=fun h=>by
    rw[Hr.out,Bool.eq_false_iff]
    intro h2
    have:=(letOk_all h2) l[k] (List.getElem_mem hkl)
    rw[zdb,e,hsk] at this
    exact h this
   clear hn e hkl
   rcases Nat.lt_or_ge n 97 with h1 | h1
   ·have hf:=hno (by omega)
    have k1:decide ((n:Int) < 97)=true:=decide_eq_true (by omega)
    obtain⟨Hall,Hyes,Hno,Hf⟩:=hd4 hall hyes hno hf;clear hall hyes hno hf
    go_wp2_with fail
    go_ret
    exact⟨zad Hf.out.symm,rfl⟩
   have k1:decide ((n:Int) < 97)=false:=decide_eq_false (by omega)
   rcases Nat.lt_or_ge 122 n with h2 | h2
   ·have hf:=hno (by omega)
    have k2:decide (122 < (n:Int))=true:=decide_eq_true (by omega)
    obtain⟨Hall,Hyes,Hno,Hf⟩:=hd4 hall hyes hno hf;clear hall hyes hno hf
    go_wp2_with fail
    go_ret
    exact⟨zad Hf.out.symm,rfl⟩
   have k2:decide (122 < (n:Int))=false:=decide_eq_false (by omega)
   have hnext:=hyes h1 h2
   obtain⟨Hall,Hyes,Hno,Hnext⟩:=hd4 hall hyes hno hnext;clear hall hyes hno hnext
   go_wp2_with fail
   go_round
   case rel=>exact⟨k+1,by omega,by go_num,Hnext.out⟩
   case measure=>simp[RowKit.intOf];omega
  obtain rfl:k=s.size:=by omega
  have hall2:l.all zhj=true:=by rw[List.take_of_length_le (by have:=Hln.out;omega)] at hall;exact hall
  have hf:(!s.toList.isEmpty)=r:=by
   rw[Hr.out,Txt.no_dec]
   have h0:=Hln.out
   unfold zbz
   rw[hall2]
   cases l with
   | nil=>simp at h0;rw[decide_eq_true (by omega)];rfl
   | cons x t=>simp at h0;rw[decide_eq_false (by omega)];rfl
  obtain⟨Hall,Hall2,Hf⟩:=hd3 hall hall2 hf;clear hall hall2 hf
  go_wp2_with fail
  go_ret
  exact⟨zad Hf.out,rfl⟩
theorem zg1 (s:ByteArray) (hs:s.size≤9223372036854775807) (w:World):Calls Tryz.prog 204 #[.string s] w fun e w'=>e = .returned (.bool (digs s.data.toList))∧w=w':=by
 obtain⟨l,hl⟩ : ∃ l,l=s.data.toList:=⟨_,rfl⟩
 have hln:l.length=s.size:=by rw[hl];exact Txt.len s
 obtain⟨r,hr⟩ : ∃ r,r=digs l:=⟨_,rfl⟩
 rw[← hl,← hr]
 obtain⟨Hl,Hln,Hr⟩:=hd3 hl hln hr;clear hl hln hr
 go_enter Tryz.func204,Tryz.ntmps204
 go_wp2_with fail
 go_loop [3] (fun i=>∃ k:Nat,k≤s.size∧i = .int .i64 k∧(l.take k).all zeb=true) (fun i=>s.size - (RowKit.intOf i).toNat)
 case atStart=>exact⟨0,Nat.zero_le _,rfl,by simp⟩
 case round =>
  obtain⟨k,hk,rfl,hall⟩:=hrel
  by_cases hlt:k < s.size
  ·have hkl:k < l.length:=by have:=Hln.out;omega
   obtain⟨n,hn⟩ : ∃ n,n=s[k].toNat:=⟨_,rfl⟩
   have hn256:n < 256:=by rw[hn];exact s[k].toNat_lt
   have hsk:s[k].toNat=n:=hn.symm
   have e:l[k]=s[k]:=by simp only[Hl.out];rfl
   have hyes:48≤n→n≤57→(l.take (k+1)).all zeb=true:=fun h1 h2=>by
    rw[List.take_succ_eq_append_getElem hkl,List.all_append,hall]
    simp only[List.all_cons,List.all_nil,Bool.and_true,Bool.true_and]
    rw[zc0,e,hsk];exact⟨h1,h2⟩
   have hno:¬ (48≤n∧n≤57)→r=false:=fun h=>by
    rw[Hr.out,Bool.eq_false_iff]
    intro h2
    have:=(digs_all h2) l[k] (List.getElem_mem hkl)
    rw[zc0,e,hsk] at this
    exact h this
   clear hn e hkl
   rcases Nat.lt_or_ge n 48 with h1 | h1
   ·have hf:=hno (by omega)
    have k1:decide ((n:Int) < 48)=true:=decide_eq_true (by omega)
    obtain⟨Hall,Hyes,Hno,Hf⟩:=hd4 hall hyes hno hf;clear hall hyes hno hf
    go_wp2_with fail
    go_ret
    exact⟨zad Hf.out.symm,rfl⟩
   have k1:decide ((n:Int) < 48)=false:=decide_eq_false (by omega)
   rcases Nat.lt_or_ge 57 n with h2 | h2
   ·have hf:=hno (by omega)
    have k2:decide (57 < (n:Int))=true:=decide_eq_true (by omega)
    obtain⟨Hall,Hyes,Hno,Hf⟩:=hd4 hall hyes hno hf;clear hall hyes hno hf
    go_wp2_with fail
    go_ret
    exact⟨zad Hf.out.symm,rfl⟩
   have k2:decide (57 < (n:Int))=false:=decide_eq_false (by omega)
   have hnext:=hyes h1 h2
   obtain⟨Hall,Hyes,Hno,Hnext⟩:=hd4 hall hyes hno hnext;clear hall hyes hno hnext
   go_wp2_with fail
   go_round
   case rel=>exact⟨k+1,by omega,by go_num,Hnext.out⟩
   case measure=>simp[RowKit.intOf];omega
  obtain rfl:k=s.size:=by omega
  have hall2:l.all zeb=true:=by rw[List.take_of_length_le (by have:=Hln.out;omega)] at hall;exact hall
  have hf:(!s.toList.isEmpty)=r:=by
   rw[Hr.out,Txt.no_dec]
   have h0:=Hln.out
   unfold digs
   rw[hall2]
   cases l with
   | nil=>simp at h0;rw[decide_eq_true (by omega)];rfl
   | cons x t=>simp at h0;rw[decide_eq_false (by omega)];rfl
  obtain⟨Hall,Hall2,Hf⟩:=hd3 hall hall2 hf;clear hall hall2 hf
  go_wp2_with fail
  go_ret
  exact⟨zad Hf.out,rfl⟩
end

section
open Go.RowKit Go.Lib VerN
theorem lead_is {l:List UInt8} (hne:l≠[]):lead l=(decide (l = [48]) || decide (l[0]'(List.length_pos_iff.2 hne)≠48)):=by
 match l,hne with
 | x :: r,_ =>
  unfold lead
  simp
theorem zqt (l:List UInt8):zbe l=(zbz l || (digs l && (decide (l.length≤9) && lead l))):=by
 unfold zbe zdj digs
 cases l.isEmpty <;> cases l.all zeb <;> cases decide (l.length≤9) <;> rfl
theorem part1_any (s:ByteArray) (hs:s.size≤9223372036854775807) (w:World):Calls Tryz.prog 171 #[.string s] w fun e w'=>e = .returned (.bool (zbe s.data.toList))∧w=w':=by
 have hL:=fun W=>zdy s hs W
 have hD:=fun W=>zg1 s hs W
 have hp:=zqt s.data.toList
 have hlen:=Txt.len s
 have hlead:=fun h=>lead_is (l:=s.data.toList) h
 obtain⟨r,hr⟩ : ∃ r,r=zbe s.data.toList:=⟨_,rfl⟩
 obtain⟨x,hx⟩ : ∃ r,r=zbz s.data.toList:=⟨_,rfl⟩
 obtain⟨y,hy⟩ : ∃ r,r=digs s.data.toList:=⟨_,rfl⟩
 rw[← hr] at hp ⊢
 rw[← hx] at hL hp
 rw[← hy] at hD hp
 cases x with
 | true =>
  have h0:r=true:=by rw[hp];rfl
  obtain⟨HL,HD,Hp,Hlen,Hlead,Hr,Hx,Hy,H0⟩:=hd9 hL hD hp hlen hlead hr hx hy h0;clear hL hD hp hlen hlead hr hx hy h0
  go_enter Tryz.func171,Tryz.ntmps171
  go_wp2_with fail
  refine (HL.out _).mono ?_
  rintro e w1 ⟨rfl,rfl⟩
  go_wp2_with fail
  go_ret
  exact⟨zad H0.out.symm,rfl⟩
 | false =>
  cases y with
  | false =>
   have h0:r=false:=by rw[hp];rfl
   obtain⟨HL,HD,Hp,Hlen,Hlead,Hr,Hx,Hy,H0⟩:=hd9 hL hD hp hlen hlead hr hx hy h0;clear hL hD hp hlen hlead hr hx hy h0
   go_enter Tryz.func171,Tryz.ntmps171
   go_wp2_with fail
   refine (HL.out _).mono ?_
   rintro e w1 ⟨rfl,rfl⟩
   go_wp2_with fail
   refine (HD.out _).mono ?_
   rintro e w1 ⟨rfl,rfl⟩
   go_wp2_with fail
   go_ret
   exact⟨zad H0.out.symm,rfl⟩
  | true =>
   have hne:s.data.toList≠[]:=fun e=>by rw[e] at hy;cases hy
   have h1:0 < s.size:=by rw[← hlen];exact List.length_pos_iff.2 hne
   have hq:r=(decide (s.size≤9) && (decide (s.data.toList = [48]) || decide (s[0]≠48))):=by
    rw[hp,hlead hne,show decide (s.size≤9)=decide (s.data.toList.length≤9) by rw[hlen]];rfl
   obtain⟨n,hn⟩ : ∃ n,n=s[0].toNat:=⟨_,rfl⟩
   have hn256:n < 256:=by rw[hn];exact s[0].toNat_lt
   have hsk:s[0].toNat=n:=hn.symm
   have hn48:decide (s[0]≠48)=decide (n≠48):=by
    by_cases h:s[0]=48
    ·rw[decide_eq_false (by simpa using h),decide_eq_false]
     rw[hn,h];decide
    rw[decide_eq_true h,decide_eq_true]
    intro e
    exact h (UInt8.toNat_inj.1 (by rw[hsk,e];rfl))
   have hone:(s.toList == [48])=decide (s.data.toList = [48]):=by
    rw[toList_data]
    by_cases h:s.data.toList = [48]
    ·rw[h];rfl
    rw[decide_eq_false h];exact beq_eq_false_iff_ne.2 h
   rw[hn48] at hq
   by_cases h9:s.size≤9
   ·have k1:decide ((s.size:Int)≤9)=true:=decide_eq_true (by omega)
    obtain⟨b,hb⟩ : ∃ b,b=decide (s.data.toList = [48]):=⟨_,rfl⟩
    rw[← hb] at hone hq
    rw[decide_eq_true h9] at hq
    clear hn hn48 hb
    cases b with
    | true =>
     have h0:r=true:=by rw[hq];rfl
     obtain⟨HL,HD,Hp,Hlen,Hlead,Hr,Hx,Hy,H0,Hq⟩:=hd10 hL hD hp hlen hlead hr hx hy h0 hq;clear hL hD hp hlen hlead hr hx hy h0 hq
     go_enter Tryz.func171,Tryz.ntmps171
     go_wp2_with fail
     refine (HL.out _).mono ?_
     rintro e w1 ⟨rfl,rfl⟩
     go_wp2_with fail
     refine (HD.out _).mono ?_
     rintro e w1 ⟨rfl,rfl⟩
     go_wp2_with fail
     go_ret
     exact⟨zad H0.out.symm,rfl⟩
    | false =>
     have h0:((n:Int) != 48)=r:=by
      rw[hq]
      by_cases h:n=48
      ·subst h;rfl
      rw[decide_eq_true h];simp;omega
     obtain⟨HL,HD,Hp,Hlen,Hlead,Hr,Hx,Hy,H0,Hq⟩:=hd10 hL hD hp hlen hlead hr hx hy h0 hq;clear hL hD hp hlen hlead hr hx hy h0 hq
     go_enter Tryz.func171,Tryz.ntmps171
     go_wp2_with fail
     refine (HL.out _).mono ?_
     rintro e w1 ⟨rfl,rfl⟩
     go_wp2_with fail
     refine (HD.out _).mono ?_
     rintro e w1 ⟨rfl,rfl⟩
     go_wp2_with fail
     go_ret
     exact⟨zad H0.out,rfl⟩
   have k1:decide ((s.size:Int)≤9)=false:=decide_eq_false (by omega)
   have h0:r=false:=by rw[hq,decide_eq_false h9];rfl
   clear hn hn48
   obtain⟨HL,HD,Hp,Hlen,Hlead,Hr,Hx,Hy,H0,Hq,Hone⟩:=hd11 hL hD hp hlen hlead hr hx hy h0 hq hone;clear hL hD hp hlen hlead hr hx hy h0 hq hone
   go_enter Tryz.func171,Tryz.ntmps171
   go_wp2_with fail
   refine (HL.out _).mono ?_
   rintro e w1 ⟨rfl,rfl⟩
   go_wp2_with fail
   refine (HD.out _).mono ?_
   rintro e w1 ⟨rfl,rfl⟩
   go_wp2_with fail
   go_ret
   exact⟨zad H0.out.symm,rfl⟩
end

section
open Go.RowKit Go.Lib Go.Sort
def zch (x y:Int):Int:=if x < y then -1 else if y < x then 1 else 0
theorem zix (x y:Int) (w:World):Calls Tryz.prog 199 #[.int .i64 x,.int .i64 y] w fun e w'=>e = .returned (.int .i64 (zch x y))∧w=w':=by
 by_cases h1:x < y
 ·have e:zch x y = -1:=by unfold zch;rw[if_pos h1]
  rw[e]
  clear e
  go_enter Tryz.func199,Tryz.ntmps199
  go_wp2
  go_ret
  exact⟨rfl,rfl⟩
 have h1':y≤x:=by omega
 by_cases h2:y < x
 ·have e:zch x y=1:=by unfold zch;rw[if_neg h1,if_pos h2]
  rw[e]
  clear e h1
  go_enter Tryz.func199,Tryz.ntmps199
  go_wp2
  go_ret
  exact⟨rfl,rfl⟩
 have e:zch x y=0:=by unfold zch;rw[if_neg h1,if_neg h2]
 obtain rfl:x=y:=by omega
 rw[e]
 clear e h1 h2 h1'
 go_enter Tryz.func199,Tryz.ntmps199
 go_wp2
 go_ret
 exact⟨rfl,rfl⟩
def orOf (l:List Int):Int:=match l with
 | [] => 0
 | x :: r=>if x≠0 then x else orOf r
theorem orOf_snoc (l:List Int) (k:Nat) (h:k < l.length) (h0:orOf (l.take k)=0):orOf (l.take (k+1))=l[k]:=by
 induction l generalizing k with
 | nil=>simp at h
 | cons x r ih =>
  match k with
  | 0=>simp[orOf];intro h;simp[h]
  | k+1 =>
   have h1:x=0:=by
    rw[List.take_succ_cons,orOf] at h0
    split at h0
    ·rename_i hx;exact absurd h0 hx
    rename_i hx;simpa using hx
   subst h1
   have:=ih k (by simpa using h) (by simpa [orOf] using h0)
   simpa [orOf] using this
theorem orOf_all (l:List Int) (k:Nat) (h:orOf (l.take k)≠0):orOf l=orOf (l.take k):=by
 induction l generalizing k with
 | nil=>simp
 | cons x r ih =>
  match k with
  | 0=>simp[orOf] at h
  | k+1 =>
   rw[List.take_succ_cons,orOf] at h ⊢
   rw[orOf]
   split
   ·rfl
   rename_i hx
   rw[if_neg hx] at h
   exact ih k h
theorem or_any (b off cap:Nat) (l:List Int) (w:World) (hl:l.length≤1000) (hc:∀ i x,l[i]? = some x→w.cell? ⟨b,off+i,none⟩=some (.int .i64 x)) :
  Calls Tryz.prog 198 #[.slice (some ⟨b,off,none⟩) l.length cap] w fun e w'=>e = .returned (.int .i64 (orOf l))∧w=w':=by
 obtain⟨n,hn⟩ : ∃ n,n=l.length:=⟨_,rfl⟩
 rw[← hn] at hl ⊢
 obtain⟨Hn,Hc⟩:=hd2 hn hc;clear hn hc
 go_enter Tryz.func198,Tryz.ntmps198
 go_wp2_with fail
 go_loop [8] (fun i=>∃ k:Nat,k≤n∧i = .int .i64 k∧orOf (l.take k)=0) (fun i=>n - (RowKit.intOf i).toNat)
 case atStart=>exact⟨0,Nat.zero_le _,rfl,by simp[orOf]⟩
 case round =>
  obtain⟨k,hk,rfl,h0⟩:=hrel
  by_cases hlt:k < n
  ·have hkl:k < l.length:=by have:=Hn.out;omega
   obtain⟨x,hx⟩ : ∃ x,x=l[k]'hkl:=⟨_,rfl⟩
   have c:=Hc.out k x (by rw[hx];exact List.getElem?_eq_getElem hkl)
   have hs:=orOf_snoc l k hkl h0
   rw[← hx] at hs
   by_cases hz:x=0
   ·have e1:(x != 0)=false:=by rw[hz];rfl
    have h1:orOf (l.take (k+1))=0:=by rw[hs,hz]
    obtain⟨Hx,Hs,H0,Hz,H1⟩:=hd5 hx hs h0 hz h1;clear hx hs h0 hz h1
    go_wp2_with fail
    go_round
    case rel=>exact⟨k+1,by omega,by go_num,H1.out⟩
    case measure=>simp[RowKit.intOf];omega
   have e1:(x != 0)=true:=by simpa using hz
   have h1:orOf l=x:=by rw[orOf_all l (k+1) (by rw[hs];exact hz),hs]
   obtain⟨Hx,Hs,H0,Hz,H1⟩:=hd5 hx hs h0 hz h1;clear hx hs h0 hz h1
   go_wp2_with fail
   go_ret
   exact⟨zeg (by rw[H1.out]),rfl⟩
  have h1:orOf l=0:=by
   rw[← h0,List.take_of_length_le (by have:=Hn.out;omega)]
  obtain⟨H0,H1⟩:=hd2 h0 h1;clear h0 h1
  go_wp2_with fail
  go_ret
  exact⟨zeg (by rw[H1.out]),rfl⟩
end

section
open Go.RowKit Go.Lib VerN
theorem zpj (x y:ByteArray):Op.bytesLess x.toList y.toList=decide (x.data.toList < y.data.toList):=by
 rw[Go.Proofs.bytesLess_eq,toList_data,toList_data]
theorem zmw (x y:ByteArray) (w:World):Calls Tryz.prog 200 #[.string x,.string y] w fun e w'=>e = .returned (.int .i64 (cmpW x.data.toList y.data.toList))∧w=w':=by
 obtain⟨p,hp⟩ : ∃ p,p=Op.bytesLess x.toList y.toList:=⟨_,rfl⟩
 obtain⟨q,hq⟩ : ∃ q,q=(x.toList == y.toList):=⟨_,rfl⟩
 have e:cmpW x.data.toList y.data.toList=if p=true then -1 else if q=true then 0 else 1:=by
  unfold cmpW
  rw[hp,hq,zpj,Txt.eq_dec]
  by_cases h1:x.data.toList < y.data.toList
  ·rw[if_pos h1,decide_eq_true h1];rfl
  rw[if_neg h1,decide_eq_false h1]
  by_cases h2:x=y
  ·rw[decide_eq_true h2,if_neg (by rw[h2];exact List.lt_irrefl _)];rfl
  rw[decide_eq_false h2,if_pos (dec_ne (fun e=>h2 (Txt.ext e)) h1)];rfl
 rw[e]
 have hpe:=hp.symm
 have hqe:=hq.symm
 clear e
 cases p with
 | true =>
  obtain⟨Hp,Hq⟩:=hd2 hp hq;clear hp hq
  go_enter Tryz.func200,Tryz.ntmps200
  go_wp2
  go_ret
  exact⟨rfl,rfl⟩
 | false =>
  cases q with
  | true =>
   obtain⟨Hp,Hq⟩:=hd2 hp hq;clear hp hq
   go_enter Tryz.func200,Tryz.ntmps200
   go_wp2
   go_ret
   exact⟨rfl,rfl⟩
  | false =>
   obtain⟨Hp,Hq⟩:=hd2 hp hq;clear hp hq
   go_enter Tryz.func200,Tryz.ntmps200
   go_wp2
   go_ret
   exact⟨rfl,rfl⟩
end

section
open Go.RowKit Go.Lib VerN
theorem ba_list {x y:ByteArray}:x=y↔x.data.toList=y.data.toList:=⟨fun h=>by rw[h],Txt.ext⟩
theorem zb5 (s:ByteArray):s.data.toList = []↔s.size=0:=by rw[← Txt.len];exact List.length_eq_zero_iff.symm
theorem zjz (s t:ByteArray) (hs:s.size≤9223372036854775807) (ht:t.size≤9223372036854775807) (w:World):Calls Tryz.prog 173 #[.string s,.string t] w fun e w'=>e = .returned (.bool (zb0 s.data.toList t.data.toList))∧w=w':=by
 obtain⟨r,hr⟩ : ∃ r,r=zb0 s.data.toList t.data.toList:=⟨_,rfl⟩
 have hq:=hr
 unfold zb0 at hq
 rw[← hr]
 by_cases heq:s=t
 ·have k1:(s.toList == t.toList)=true:=by rw[Txt.eq_dec];exact decide_eq_true heq
  have h0:r=false:=by rw[hq,if_pos (ba_list.1 heq)]
  obtain⟨Hr,Hq,H0,Heq⟩:=hd4 hr hq h0 heq;clear hr hq h0 heq
  go_enter Tryz.func173,Tryz.ntmps173
  go_wp2_with fail
  go_ret
  exact⟨zad H0.out.symm,rfl⟩
 have k1:(s.toList == t.toList)=false:=by rw[Txt.eq_dec];exact decide_eq_false heq
 rw[if_neg (fun h=>heq (ba_list.2 h))] at hq
 by_cases hs0:s.size=0
 ·have k2:s.toList.isEmpty=true:=by rw[Txt.no_dec];exact decide_eq_true hs0
  have h0:r=digs t.data.toList:=by rw[hq,if_pos ((zb5 s).2 hs0)]
  have hD:=zg1 t ht w
  rw[← h0] at hD
  obtain⟨Hr,Hq,H0,Heq,HD⟩:=hd5 hr hq h0 heq hD;clear hr hq h0 heq hD
  go_enter Tryz.func173,Tryz.ntmps173
  go_wp2_with fail
  refine HD.out.mono ?_
  rintro e w1 ⟨rfl,rfl⟩
  go_wp2_with fail
  go_ret
  exact⟨rfl,rfl⟩
 have k2:s.toList.isEmpty=false:=by rw[Txt.no_dec];exact decide_eq_false hs0
 rw[if_neg (fun h=>hs0 ((zb5 s).1 h))] at hq
 by_cases ht0:t.size=0
 ·have k3:t.toList.isEmpty=true:=by rw[Txt.no_dec];exact decide_eq_true ht0
  have h0:r=zbz s.data.toList:=by rw[hq,if_pos ((zb5 t).2 ht0)]
  have hD:=zdy s hs w
  rw[← h0] at hD
  obtain⟨Hr,Hq,H0,Heq,HD⟩:=hd5 hr hq h0 heq hD;clear hr hq h0 heq hD
  go_enter Tryz.func173,Tryz.ntmps173
  go_wp2_with fail
  refine HD.out.mono ?_
  rintro e w1 ⟨rfl,rfl⟩
  go_wp2_with fail
  go_ret
  exact⟨rfl,rfl⟩
 have k3:t.toList.isEmpty=false:=by rw[Txt.no_dec];exact decide_eq_false ht0
 rw[if_neg (fun h=>ht0 ((zb5 t).1 h))] at hq
 have hL:=zdy s hs w
 have hM:=zdy t ht w
 have hD:=zg1 s hs w
 obtain⟨x,hx⟩ : ∃ x,x=zbz s.data.toList:=⟨_,rfl⟩
 obtain⟨y,hy⟩ : ∃ x,x=zbz t.data.toList:=⟨_,rfl⟩
 obtain⟨z,hz⟩ : ∃ x,x=digs s.data.toList:=⟨_,rfl⟩
 rw[← hx] at hL hq
 rw[← hy] at hM hq
 rw[← hz] at hD hq
 by_cases hxy:x=y
 ·rw[if_neg (by simpa using hxy)] at hq
  have k4:(x == y)=true:=by rw[hxy];simp
  have hl:decide (s.data.toList.length≠t.data.toList.length)=((s.size:Int) != (t.size:Int)):=by
   rw[Txt.len,Txt.len]
   by_cases h:s.size=t.size
   ·rw[h];simp
   rw[decide_eq_true h];simp;omega
  rw[hl] at hq
  obtain⟨b,hb⟩ : ∃ b,b=((s.size:Int) != (t.size:Int)):=⟨_,rfl⟩
  have k5:=hb.symm
  rw[← hb] at hq
  have hlt:decide (s.data.toList.length < t.data.toList.length)=decide (s.size < t.size):=by rw[Txt.len,Txt.len]
  rw[hlt] at hq
  have hby:=zpj s t
  rw[← hby] at hq
  clear hl hlt hby hb
  cases z with
  | true =>
   cases b with
   | true =>
    have h0:r=decide (s.size < t.size):=by rw[hq];rfl
    obtain⟨Hr,Hq,H0,Heq,HL,HM,HD,Hx,Hy,Hz,Hxy⟩:=hd11 hr hq h0 heq hL hM hD hx hy hz hxy;clear hr hq h0 heq hL hM hD hx hy hz hxy
    go_enter Tryz.func173,Tryz.ntmps173
    go_wp2_with fail
    refine HL.out.mono ?_
    rintro e w1 ⟨rfl,rfl⟩
    go_wp2_with fail
    refine HM.out.mono ?_
    rintro e w1 ⟨rfl,rfl⟩
    go_wp2_with fail
    refine HD.out.mono ?_
    rintro e w1 ⟨rfl,rfl⟩
    go_wp2_with fail
    go_ret
    exact⟨zad H0.out.symm,rfl⟩
   | false =>
    have h0:r=Op.bytesLess s.toList t.toList:=by rw[hq];rfl
    obtain⟨Hr,Hq,H0,Heq,HL,HM,HD,Hx,Hy,Hz,Hxy⟩:=hd11 hr hq h0 heq hL hM hD hx hy hz hxy;clear hr hq h0 heq hL hM hD hx hy hz hxy
    go_enter Tryz.func173,Tryz.ntmps173
    go_wp2_with fail
    refine HL.out.mono ?_
    rintro e w1 ⟨rfl,rfl⟩
    go_wp2_with fail
    refine HM.out.mono ?_
    rintro e w1 ⟨rfl,rfl⟩
    go_wp2_with fail
    refine HD.out.mono ?_
    rintro e w1 ⟨rfl,rfl⟩
    go_wp2_with fail
    go_ret
    exact⟨zad H0.out.symm,rfl⟩
  | false =>
   have h0:r=Op.bytesLess s.toList t.toList:=by rw[hq];rfl
   obtain⟨Hr,Hq,H0,Heq,HL,HM,HD,Hx,Hy,Hz,Hxy,Hk5⟩:=hd12 hr hq h0 heq hL hM hD hx hy hz hxy k5;clear hr hq h0 heq hL hM hD hx hy hz hxy k5
   go_enter Tryz.func173,Tryz.ntmps173
   go_wp2_with fail
   refine HL.out.mono ?_
   rintro e w1 ⟨rfl,rfl⟩
   go_wp2_with fail
   refine HM.out.mono ?_
   rintro e w1 ⟨rfl,rfl⟩
   go_wp2_with fail
   refine HD.out.mono ?_
   rintro e w1 ⟨rfl,rfl⟩
   go_wp2_with fail
   go_ret
   exact⟨zad H0.out.symm,rfl⟩
 rw[if_pos (by simpa using hxy)] at hq
 have k4:(x == y)=false:=by simpa using hxy
 obtain⟨Hr,Hq,Heq,HL,HM,HD,Hx,Hy,Hz,Hxy⟩:=hd10 hr hq heq hL hM hD hx hy hz hxy;clear hr hq heq hL hM hD hx hy hz hxy
 go_enter Tryz.func173,Tryz.ntmps173
 go_wp2_with fail
 refine HL.out.mono ?_
 rintro e w1 ⟨rfl,rfl⟩
 go_wp2_with fail
 refine HM.out.mono ?_
 rintro e w1 ⟨rfl,rfl⟩
 go_wp2_with fail
 refine HL.out.mono ?_
 rintro e w1 ⟨rfl,rfl⟩
 go_wp2_with fail
 go_ret
 exact⟨zad Hq.out.symm,rfl⟩
theorem zfb {w:World} {B:Nat} {v:Value} {n:Nat} {ps:List ByteArray} (h:w.ownsRow B 9 1 v n (ps.map Value.string)) (i:Nat) (hi:i < ps.length) :
  ∃ g cap,v = .slice (some ⟨g,0,none⟩) n cap∧w.cell? ⟨g,i,none⟩=some (.string ps[i]):=by
 have hl:n=ps.length:=by have:=h.1;rw[List.length_map] at this;omega
 obtain⟨g,cap,rfl,_,_,_,_,h2⟩:=zda h (by omega)
 exact⟨g,cap,rfl,h2 i _ (by rw[List.getElem?_map,List.getElem?_eq_getElem hi];rfl)⟩
def zey:ByteArray:=⟨#[]⟩
theorem at1_any {w:World} {B:Nat} {v:Value} {n:Nat} {ps:List ByteArray} (h:w.ownsRow B 9 1 v n (ps.map Value.string)) (hn:n≤1000000) (i:Nat) (hi8:i≤1000000) :
  Calls Tryz.prog 174 #[v,.int .i64 i] w fun e w'=>e = .returned (.string (ps.getD i zey))∧w=w':=by
 have hl:n=ps.length:=by have:=h.1;rw[List.length_map] at this;omega
 by_cases hi:i < n
 ·have hip:i < ps.length:=by omega
  obtain⟨g,cap,rfl,c0⟩:=zfb h i hip
  have e:ps.getD i zey=ps[i]:=by rw[List.getD,List.getElem?_eq_getElem hip];rfl
  rw[e]
  obtain⟨x,hx⟩ : ∃ x,x=ps[i]:=⟨_,rfl⟩
  rw[← hx] at c0 ⊢
  have k1:(i:Int) < (n:Int):=by omega
  have k2:decide ((i:Int) < (n:Int))=true:=decide_eq_true k1
  clear e hl
  obtain⟨Hh,Hx⟩:=hd2 h hx;clear h hx
  go_enter Tryz.func174,Tryz.ntmps174
  go_wp2_with fail
  go_ret
  exact⟨rfl,rfl⟩
 obtain⟨a,cap,rfl⟩:=zai h
 have e:ps.getD i zey=zey:=by rw[List.getD,List.getElem?_eq_none (by omega)];rfl
 rw[e]
 have k2:decide ((i:Int) < (n:Int))=false:=decide_eq_false (by omega)
 clear e hl
 have Hh:=hd h;clear h
 go_enter Tryz.func174,Tryz.ntmps174
 go_wp2_with fail
 go_ret
 exact⟨rfl,rfl⟩
end

section
open Go.RowKit Go.Lib VerN
theorem zmn:Elem Tryz.prog 88 9 (.string ⟨#[]⟩) 1 16:=⟨Tryz.underlying88,by kernel_rfl,rfl,by decide⟩
def zg7 (c:UInt8) (l:List UInt8) (k f:Nat) (done:List (List UInt8)):Prop:=f≤k∧((k≤l.length∧cutL c l=done ++ cutF c ((l.take k).drop f) (l.drop k))∨(k=l.length+1∧cutL c l=done))
theorem zg7.start (c:UInt8) (l:List UInt8):zg7 c l 0 0 []:=⟨Nat.le_refl _,.inl ⟨Nat.zero_le _,rfl⟩⟩
theorem zg7.skip {c:UInt8} {l:List UInt8} {k f:Nat} {done:List (List UInt8)} (h:zg7 c l k f done) (hk:k < l.length) (hne:l[k]≠c):zg7 c l (k+1) f done:=by
 obtain⟨hf,⟨_,h⟩ | ⟨h,_⟩⟩:=h
 ·refine⟨by omega,.inl ⟨by omega,?_⟩⟩
  rw[h,List.drop_eq_getElem_cons hk,zbp _ _ hne,List.take_succ_eq_append_getElem hk,List.drop_append_of_le_length (by rw[List.length_take];omega)]
 omega
theorem zg7.hit {c:UInt8} {l:List UInt8} {k f:Nat} {done:List (List UInt8)} (h:zg7 c l k f done) (hk:k < l.length) (he:l[k]=c):zg7 c l (k+1) (k+1) (done ++ [(l.take k).drop f]):=by
 obtain⟨hf,⟨_,h⟩ | ⟨h,_⟩⟩:=h
 ·refine⟨Nat.le_refl _,.inl ⟨by omega,?_⟩⟩
  have e:(l.take (k+1)).drop (k+1) = []:=List.drop_eq_nil_of_le (by rw[List.length_take];omega)
  rw[h,List.drop_eq_getElem_cons hk,he,zc2,e]
  simp
 omega
theorem zg7.last {c:UInt8} {l:List UInt8} {k f:Nat} {done:List (List UInt8)} (h:zg7 c l k f done) (hk:k=l.length):zg7 c l (k+1) (k+1) (done ++ [(l.take k).drop f]):=by
 obtain⟨hf,⟨_,h⟩ | ⟨h,_⟩⟩:=h
 ·refine⟨Nat.le_refl _,.inr ⟨by omega,?_⟩⟩
  rw[h,hk,List.drop_eq_nil_of_le (Nat.le_refl _)]
  rfl
 omega
theorem zg7.len {c:UInt8} {l:List UInt8} {k f:Nat} {done:List (List UInt8)} (h:zg7 c l k f done):done.length≤l.length+1:=by
 have h1:=(zel c l).2
 obtain⟨hf,⟨_,h⟩ | ⟨_,h⟩⟩:=h
 ·rw[h,List.length_append] at h1;omega
 rw[h] at h1;exact h1
abbrev strL (ps:List (List UInt8)):List Value:=ps.map fun l=>.string ⟨l.toArray⟩
theorem cutS_vals (c:UInt8) (s:ByteArray):(cutS c s).map Value.string=strL (cutL c s.data.toList):=by unfold cutS strL;rw[List.map_map];rfl
theorem zgr (s:ByteArray) (hs:s.size≤1000000) (c:Nat) (hc:c < 256) (w:World):Calls Tryz.prog 54 #[.string s,.int .u8 c] w fun e w'=>∃ v,e = .returned v∧w'.ownsRow w.heap.size 9 1 v (cutS (UInt8.ofNat c) s).length ((cutS (UInt8.ofNat c) s).map Value.string)∧Below w.heap.size w w':=by
 obtain⟨l,hl⟩ : ∃ l,l=s.data.toList:=⟨_,rfl⟩
 have hln:l.length=s.size:=by rw[hl];exact Txt.len s
 obtain⟨d,hd⟩ : ∃ d,d=UInt8.ofNat c:=⟨_,rfl⟩
 have hdc:d.toNat=c:=by rw[hd];simp;omega
 rw[cutS_vals,zbo,← hl,← hd]
 have hl0:(w.alloc (.cells #[] 9)).ownsRow w.heap.size 9 1 (.slice (some ⟨w.heap.size,0,none⟩) 0 0) 0 []:=World.ownsRow_lit (base:=w.heap.size) (e:=9) (size:=1) w #[] 0 (Nat.le_refl _) (by decide) rfl
 have hb0:Below w.heap.size w (w.alloc (.cells #[] 9)):=za2 _ _
 obtain⟨Hl,Hln,Hd,Hdc,Hl0,Hb0⟩:=hd6 hl hln hd hdc hl0 hb0;clear hl hln hd hdc hl0 hb0
 go_enter Tryz.func54,Tryz.ntmps54
 go_wp2_with fail
 go_loopw [5,6,7] (fun o fr i wr=>∃ (k f:Nat) (done:List (List UInt8)) (a:Option Addr) (cap m:Nat),zg7 d l k f done∧k≤s.size+1∧m=done.length∧i = .int .i64 k∧fr = .int .i64 f∧o = .slice a m cap∧wr.ownsRow w.heap.size 9 1 o m (strL done)∧Below w.heap.size w wr) (fun _ _ i _=>s.size+1 - (RowKit.intOf i).toNat)
 case atStart=>exact⟨0,0,[],_,_,0,zg7.start d l,Nat.zero_le _,rfl,rfl,rfl,rfl,Hl0.out,Hb0.out⟩
 case round =>
  obtain⟨k,f,done,a,cap,m,hat,hk,hm,rfl,rfl,rfl,hown,hbw⟩:=hrel
  have hlen:=hat.len
  rw[Hln.out] at hlen
  have hfk:=hat.1
  rw[← hm] at hlen
  have hone:∀ p:ByteArray,∀ u∈(#[Value.string p] : Array Value).toList,u.oneCell'=true:=by simp[Value.oneCell']
  have g1:(m+1) * 16≤140737488355328:=by omega
  have g2:m+1≤maxLen:=by unfold maxLen;omega
  have g3:w.heap.size≤wr.heap.size:=hbw.size
  have piece:(s.extract f k)=⟨((l.take k).drop f).toArray⟩:=Txt.ext (by
   rw[Lib.extract_data,← Hl.out,← List.drop_take])
  rcases Nat.lt_or_ge s.size k with h1 | h1
  ·have k1:decide ((k:Int)≤(s.size:Int))=false:=decide_eq_false (by omega)
   have hfin:cutL d l=done:=by
    obtain⟨_,⟨h2,_⟩ | ⟨_,h2⟩⟩:=hat
    ·have:=Hln.out;omega
    exact h2
   obtain⟨Hat,Hown,Hbw,Hm,Hone,Hpiece,Hfin⟩:=hd7 hat hown hbw hm hone piece hfin;clear hat hown hbw hm hone piece hfin
   go_wp2_with fail
   go_ret
   exact⟨_,rfl,by rw[Hfin.out,← Hm.out];exact Hown.out,Hbw.out⟩
  have k1:decide ((k:Int)≤(s.size:Int))=true:=decide_eq_true (by omega)
  have k3:(f:Int)≤(k:Int):=by omega
  have k4:(k:Int)≤(s.size:Int):=by omega
  rcases Nat.eq_or_lt_of_le h1 with h2 | h2
  ·have k2:((k:Int) == (s.size:Int))=true:=by rw[h2];simp
   have hnx:=hat.last (by rw[Hln.out];exact h2)
   obtain⟨Hat,Hown,Hbw,Hm,Hone,Hpiece,Hnx,H2⟩:=hd8 hat hown hbw hm hone piece hnx h2;clear hat hown hbw hm hone piece hnx h2
   go_wp2_with (at_builtin;(refine zar zmn rfl (.tmp 26) (.tmp 31) rfl w.heap.size (.slice a m cap) m (strL done) rfl Hown.out 1 (by decide) #[.string (s.extract f k)] rfl rfl (Hone.out _) g1 g2 g3 ?_;intro g8 c8 w8 hown8 hg8 hm8;have hb8:=zbt Hbw.out Hown.out (Nat.le_refl _) hg8 Hbw.out.size;obtain⟨Hown8,Hb8⟩:=hd2 hown8 hb8;clear hown8 hb8 hg8 hm8))
   go_roundw
   case rel =>
    refine⟨k+1,k+1,done ++ [(l.take k).drop f],_,_,m+1,Hnx.out,by omega,by rw[List.length_append,List.length_singleton,← Hm.out],by go_num,by go_num,rfl,?_,Hb8.out⟩
    have h:=Hown8.out
    rw[Hpiece.out] at h
    rw[show strL (done ++ [(l.take k).drop f])=strL done ++ [.string ⟨((l.take k).drop f).toArray⟩] by simp[strL]]
    exact h
   case measure=>simp[RowKit.intOf];omega
  have k2:((k:Int) == (s.size:Int))=false:=by rw[beq_eq_false_iff_ne];omega
  have hkl:k < l.length:=by rw[Hln.out];exact h2
  obtain⟨n,hn⟩ : ∃ n,n=s[k].toNat:=⟨_,rfl⟩
  have hn256:n < 256:=by rw[hn];exact s[k].toNat_lt
  have hsk:s[k].toNat=n:=hn.symm
  have e:l[k]=s[k]:=by simp only[Hl.out];rfl
  have hlk:l[k]=d↔n=c:=by
   rw[e]
   constructor
   ·intro h;rw[← hsk,h];exact Hdc.out
   intro h;exact UInt8.toNat_inj.1 (by rw[hsk,h,Hdc.out])
  clear hn e
  by_cases hnc:n=c
  ·have k5:((n:Int) == (c:Int))=true:=by rw[hnc];simp
   have hnx:=hat.hit hkl (hlk.2 hnc)
   obtain⟨Hat,Hown,Hbw,Hm,Hone,Hpiece,Hnx,Hnc,Hlk⟩:=hd9 hat hown hbw hm hone piece hnx hnc hlk;clear hat hown hbw hm hone piece hnx hnc hlk
   go_wp2_with (at_builtin;(refine zar zmn rfl (.tmp 26) (.tmp 31) rfl w.heap.size (.slice a m cap) m (strL done) rfl Hown.out 1 (by decide) #[.string (s.extract f k)] rfl rfl (Hone.out _) g1 g2 g3 ?_;intro g8 c8 w8 hown8 hg8 hm8;have hb8:=zbt Hbw.out Hown.out (Nat.le_refl _) hg8 Hbw.out.size;obtain⟨Hown8,Hb8⟩:=hd2 hown8 hb8;clear hown8 hb8 hg8 hm8))
   go_roundw
   case rel =>
    refine⟨k+1,k+1,done ++ [(l.take k).drop f],_,_,m+1,Hnx.out,by omega,by rw[List.length_append,List.length_singleton,← Hm.out],by go_num,by go_num,rfl,?_,Hb8.out⟩
    have h:=Hown8.out
    rw[Hpiece.out] at h
    rw[show strL (done ++ [(l.take k).drop f])=strL done ++ [.string ⟨((l.take k).drop f).toArray⟩] by simp[strL]]
    exact h
   case measure=>simp[RowKit.intOf];omega
  have k5:((n:Int) == (c:Int))=false:=by rw[beq_eq_false_iff_ne];omega
  have hnx:=hat.skip hkl (fun h=>hnc (hlk.1 h))
  obtain⟨Hat,Hown,Hbw,Hm,Hone,Hpiece,Hnx,Hnc,Hlk⟩:=hd9 hat hown hbw hm hone piece hnx hnc hlk;clear hat hown hbw hm hone piece hnx hnc hlk
  go_wp2_with fail
  go_roundw
  case rel=>exact⟨k+1,f,done,a,cap,m,Hnx.out,by omega,Hm.out,by go_num,by go_num,rfl,Hown.out,Hbw.out⟩
  case measure=>simp[RowKit.intOf];omega
end

section
open Go.RowKit Go.Lib VerN
theorem may_parts (s:ByteArray):mayL s.data.toList=(decide (s.size≠0) && decide (s.size≤40) && (cutS 46 s).all (fun p=>zbe p.data.toList) && decide ((cutS 46 s).length≤8)):=by
 unfold mayL
 rw[← zf3,List.all_map,Txt.len,List.length_map]
 have e:decide (s.data.toList≠[])=decide (s.size≠0):=decide_eq_decide.2 (not_congr (zb5 s))
 rw[e]
 rfl
theorem zhu (s:ByteArray) (hs:s.size≤1000000) (w:World):Calls Tryz.prog 113 #[.string s] w fun e w'=>e = .returned (.bool (mayL s.data.toList))∧Below w.heap.size w w':=by
 have hm:=may_parts s
 obtain⟨r,hr⟩ : ∃ r,r=mayL s.data.toList:=⟨_,rfl⟩
 rw[← hr] at hm ⊢
 by_cases h0:s.size=0
 ·have k1:s.toList.isEmpty=true:=by rw[Txt.no_dec,decide_eq_true h0]
  have hf:r=false:=by rw[hm,decide_eq_false (p:=s.size≠0) (by simpa using h0)];rfl
  obtain⟨Hm,Hr,Hf⟩:=hd3 hm hr hf;clear hm hr hf
  go_enter Tryz.func113,Tryz.ntmps113
  go_wp2_with fail
  go_ret
  exact⟨zad Hf.out.symm,Below.refl _ _⟩
 have k1:s.toList.isEmpty=false:=by rw[Txt.no_dec,decide_eq_false h0]
 by_cases h40:40 < s.size
 ·have k2:decide ((40:Int) < (s.size:Int))=true:=decide_eq_true (by omega)
  have hf:r=false:=by rw[hm,decide_eq_false (p:=s.size≤40) (by omega)];simp
  obtain⟨Hm,Hr,Hf⟩:=hd3 hm hr hf;clear hm hr hf
  go_enter Tryz.func113,Tryz.ntmps113
  go_wp2_with fail
  go_ret
  exact⟨zad Hf.out.symm,Below.refl _ _⟩
 have k2:decide ((40:Int) < (s.size:Int))=false:=decide_eq_false (by omega)
 have hC:=zgr s hs 46 (by omega) w
 rw[show UInt8.ofNat 46=(46:UInt8) from rfl] at hC
 obtain⟨ps,hps⟩ : ∃ ps,ps=cutS 46 s:=⟨_,rfl⟩
 have hv:r=(ps.all (fun p=>zbe p.data.toList) && decide (ps.length≤8)):=by rw[hm,decide_eq_true h0,decide_eq_true (by omega:s.size≤40),hps];rfl
 have hpz:∀ p∈ps,p.size≤1000000:=fun p hp=>by
  rw[hps] at hp
  have:=zec hp
  omega
 have hl41:ps.length≤41:=by
  rw[hps,zbo]
  have:=(zel 46 s.data.toList).2
  rw[Txt.len] at this
  omega
 rw[← hps] at hC
 obtain⟨Hm,Hr,HC,Hps,Hv,Hpz⟩:=hd6 hm hr hC hps hv hpz;clear hm hr hC hps hv hpz
 go_enter Tryz.func113,Tryz.ntmps113
 go_wp2_with fail
 refine HC.out.mono ?_
 rintro e w1 ⟨v,rfl,hown,hb⟩
 obtain⟨a,cap,rfl⟩:=zai hown
 obtain⟨n,hn⟩ : ∃ n,n=ps.length:=⟨_,rfl⟩
 rw[← hn] at hown hl41 ⊢
 obtain⟨Hown,Hb,Hn⟩:=hd3 hown hb hn;clear hown hb hn
 go_wp2_with fail
 go_loop [4,16] (fun _ i=>∃ k:Nat,k≤n∧i = .int .i64 k∧(ps.take k).all (fun p=>zbe p.data.toList)=true) (fun _ i=>n - (RowKit.intOf i).toNat)
 case atStart=>exact⟨0,Nat.zero_le _,rfl,by simp⟩
 case round =>
  obtain⟨k,hk,rfl,hall⟩:=hrel
  by_cases hlt:k < n
  ·have hkp:k < ps.length:=by rw[← Hn.out];exact hlt
   obtain⟨g,cap',hv0,c0⟩:=zfb Hown.out k hkp
   simp only[Value.slice.injEq] at hv0
   obtain⟨ha,hrest⟩:=hv0
   subst ha
   clear hrest
   obtain⟨x,hx⟩ : ∃ x,x=ps[k]:=⟨_,rfl⟩
   rw[← hx] at c0
   have hP:=part1_any x (by have:=Hpz.out x (by rw[hx];exact List.getElem_mem hkp);omega) w1
   obtain⟨q,hq⟩ : ∃ q,q=zbe x.data.toList:=⟨_,rfl⟩
   rw[← hq] at hP
   have k3:(k:Int) < (n:Int):=by omega
   have hyes:q=true→(ps.take (k+1)).all (fun p=>zbe p.data.toList)=true:=fun h=>by
    rw[List.take_succ_eq_append_getElem hkp,List.all_append,hall,← hx]
    simp only[List.all_cons,List.all_nil,Bool.and_true,Bool.true_and]
    rw[← hq];exact h
   have hno:q=false→r=false:=fun h=>by
    rw[Hv.out,Bool.eq_false_iff]
    intro h2
    rw[Bool.and_eq_true] at h2
    have:=List.all_eq_true.1 h2.1 ps[k] (List.getElem_mem hkp)
    rw[← hx,← hq,h] at this
    cases this
   obtain⟨Hx,HP,Hq,Hall,Hyes,Hno⟩:=hd6 hx hP hq hall hyes hno;clear hx hP hq hall hyes hno
   go_wp2_with fail
   refine HP.out.mono ?_
   rintro e w2 ⟨rfl,rfl⟩
   cases q with
   | true =>
    have hnx:=Hyes.out rfl
    have Hnx:=hd hnx;clear hnx
    go_wp2_with fail
    go_round
    case rel=>exact⟨k+1,by omega,by go_num,Hnx.out⟩
    case measure=>simp[RowKit.intOf];omega
   | false =>
    have hf:=Hno.out rfl
    have Hf:=hd hf;clear hf
    go_wp2_with fail
    go_ret
    exact⟨zad Hf.out.symm,Hb.out⟩
  obtain rfl:k=n:=by omega
  have hf:decide ((k:Int)≤8)=r:=by
   rw[Hv.out,← Hn.out]
   rw[List.take_of_length_le (by rw[← Hn.out];exact Nat.le_refl _)] at hall
   rw[hall,Bool.true_and]
   by_cases h:k≤8
   ·rw[decide_eq_true h,decide_eq_true];omega
   rw[decide_eq_false h,decide_eq_false];omega
  obtain⟨Hall,Hf⟩:=hd2 hall hf;clear hall hf
  go_wp2_with fail
  go_ret
  exact⟨zad Hf.out,Hb.out⟩
end

section
open Go.RowKit Go.Lib VerN
theorem zgp (c:UInt8) (s:ByteArray) (i:Nat):((cutS c s).getD i zey).data.toList=(cutL c s.data.toList).getD i []:=by
 rw[← zf3]
 by_cases h:i < (cutS c s).length
 ·rw[zfy (by rw[List.length_map];exact h),List.getElem_map,List.getD,List.getElem?_eq_getElem h];rfl
 rw[zfz (by rw[List.length_map];omega),List.getD,List.getElem?_eq_none (by omega)];rfl
theorem zmi (c:UInt8) (s:ByteArray) (hs:s.size≤1000000) (i:Nat):((cutS c s).getD i zey).size≤1000000:=by
 by_cases h:i < (cutS c s).length
 ·rw[List.getD,List.getElem?_eq_getElem h]
  have:=zec (List.getElem_mem h)
  show (cutS c s)[i].size≤1000000
  omega
 rw[List.getD,List.getElem?_eq_none (by omega)];decide
theorem ze9 (a b:ByteArray) (ha:a.size≤1000000) (hb:b.size≤1000000) (w:World):Calls Tryz.prog 117 #[.string a,.string b] w fun e w'=>e = .returned (.bool (ze8 a.data.toList b.data.toList))∧Below w.heap.size w w':=by
 obtain⟨r,hr⟩ : ∃ r,r=ze8 a.data.toList b.data.toList:=⟨_,rfl⟩
 have hP:=fun W=>zhu a ha W
 have hQ:=fun W=>zhu b hb W
 obtain⟨p,hp⟩ : ∃ x,x=mayL a.data.toList:=⟨_,rfl⟩
 obtain⟨q,hq⟩ : ∃ x,x=mayL b.data.toList:=⟨_,rfl⟩
 have hv:r=if p=false∨q=false then !p && q else zd1 (cutL 46 a.data.toList) (cutL 46 b.data.toList) 0 (max (cutL 46 a.data.toList).length (cutL 46 b.data.toList).length):=by rw[hr,hp,hq];rfl
 rw[← hr]
 rw[← hp] at hP
 rw[← hq] at hQ
 cases p with
 | false =>
  have h0:q=r:=by rw[hv];simp
  obtain⟨Hr,HP,HQ,Hp,Hq,Hv,H0⟩:=hd7 hr hP hQ hp hq hv h0;clear hr hP hQ hp hq hv h0
  go_enter Tryz.func117,Tryz.ntmps117
  go_wp2_with fail
  refine (HP.out _).mono ?_
  rintro e w1 ⟨rfl,hb1⟩
  have hP2:=HP.out w1
  obtain⟨Hb1,HP2⟩:=hd2 hb1 hP2;clear hb1 hP2
  go_wp2_with fail
  refine HP2.out.mono ?_
  rintro e w2 ⟨rfl,hb2⟩
  have hb3:=Hb1.out.trans (hb2.mono Hb1.out.size)
  have hQ2:=HQ.out w2
  obtain⟨Hb2,Hb3,HQ2⟩:=hd3 hb2 hb3 hQ2;clear hb2 hb3 hQ2
  go_wp2_with fail
  refine HQ2.out.mono ?_
  rintro e w3 ⟨rfl,hb4⟩
  have hb5:=Hb3.out.trans (hb4.mono Hb3.out.size)
  obtain⟨Hb4,Hb5⟩:=hd2 hb4 hb5;clear hb4 hb5
  go_wp2_with fail
  go_ret
  exact⟨zad H0.out,Hb5.out⟩
 | true =>
  cases q with
  | false =>
   have h0:r=false:=by rw[hv];rfl
   obtain⟨Hr,HP,HQ,Hp,Hq,Hv,H0⟩:=hd7 hr hP hQ hp hq hv h0;clear hr hP hQ hp hq hv h0
   go_enter Tryz.func117,Tryz.ntmps117
   go_wp2_with fail
   refine (HP.out _).mono ?_
   rintro e w1 ⟨rfl,hb1⟩
   have hQ2:=HQ.out w1
   obtain⟨Hb1,HQ2⟩:=hd2 hb1 hQ2;clear hb1 hQ2
   go_wp2_with fail
   refine HQ2.out.mono ?_
   rintro e w2 ⟨rfl,hb2⟩
   have hb3:=Hb1.out.trans (hb2.mono Hb1.out.size)
   have hP2:=HP.out w2
   obtain⟨Hb2,Hb3,HP2⟩:=hd3 hb2 hb3 hP2;clear hb2 hb3 hP2
   go_wp2_with fail
   refine HP2.out.mono ?_
   rintro e w3 ⟨rfl,hb4⟩
   have hb5:=Hb3.out.trans (hb4.mono Hb3.out.size)
   obtain⟨Hb4,Hb5⟩:=hd2 hb4 hb5;clear hb4 hb5
   go_wp2_with fail
   go_ret
   exact⟨zad H0.out.symm,Hb5.out⟩
  | true =>
   obtain⟨ps,hps⟩ : ∃ x,x=cutS 46 a:=⟨_,rfl⟩
   obtain⟨qs,hqs⟩ : ∃ x,x=cutS 46 b:=⟨_,rfl⟩
   obtain⟨xs,hxs⟩ : ∃ x,x=cutL 46 a.data.toList:=⟨_,rfl⟩
   obtain⟨ys,hys⟩ : ∃ x,x=cutL 46 b.data.toList:=⟨_,rfl⟩
   have h0:r=zd1 xs ys 0 (max xs.length ys.length):=by rw[hv,hxs,hys];rfl
   obtain⟨m,hm⟩ : ∃ m,m=xs.length:=⟨_,rfl⟩
   obtain⟨n,hn⟩ : ∃ m,m=ys.length:=⟨_,rfl⟩
   have hm8:m≤8:=by rw[hm,hxs];exact ((zcd _).1 hp.symm).2.2.2
   have hn8:n≤8:=by rw[hn,hys];exact ((zcd _).1 hq.symm).2.2.2
   have hC:=fun W=>zgr a ha 46 (by omega) W
   have hC2:=fun W=>zgr b hb 46 (by omega) W
   rw[show UInt8.ofNat 46=(46:UInt8) from rfl,zbo,← hxs,← hm,← hps] at hC
   rw[show UInt8.ofNat 46=(46:UInt8) from rfl,zbo,← hys,← hn,← hqs] at hC2
   rw[← hm,← hn] at h0
   obtain⟨N,hN⟩ : ∃ N,N=max m n:=⟨_,rfl⟩
   rw[← hN] at h0
   have gx:∀ i,(ps.getD i zey).data.toList=xs.getD i []:=fun i=>by rw[hps,hxs];exact zgp 46 a i
   have gy:∀ i,(qs.getD i zey).data.toList=ys.getD i []:=fun i=>by rw[hqs,hys];exact zgp 46 b i
   have zx:∀ i,(ps.getD i zey).size≤1000000:=fun i=>by rw[hps];exact zmi 46 a ha i
   have zy:∀ i,(qs.getD i zey).size≤1000000:=fun i=>by rw[hqs];exact zmi 46 b hb i
   obtain⟨Hr,HP,HQ,Hp,Hq,Hv,H0,Hps,Hqs,Hxs,Hys,Hm,Hn,HC,HC2,Hgx⟩:=hd16 hr hP hQ hp hq hv h0 hps hqs hxs hys hm hn hC hC2 gx;obtain⟨Hgy,Hzx,Hzy,HN⟩:=hd4 gy zx zy hN;clear hr hP hQ hp hq hv h0 hps hqs hxs hys hm hn hC hC2 gx gy zx zy hN
   go_enter Tryz.func117,Tryz.ntmps117
   go_wp2_with fail
   refine (HP.out _).mono ?_
   rintro e w1 ⟨rfl,hb1⟩
   have hQ2:=HQ.out w1
   obtain⟨Hb1,HQ2⟩:=hd2 hb1 hQ2;clear hb1 hQ2
   go_wp2_with fail
   refine HQ2.out.mono ?_
   rintro e w2 ⟨rfl,hb2⟩
   have hb3:=Hb1.out.trans (hb2.mono Hb1.out.size)
   have hC3:=HC.out w2
   obtain⟨Hb2,Hb3,HC3⟩:=hd3 hb2 hb3 hC3;clear hb2 hb3 hC3
   go_wp2_with fail
   refine HC3.out.mono ?_
   rintro e w3 ⟨v1,rfl,o1,hb4⟩
   have hb5:=Hb3.out.trans (hb4.mono Hb3.out.size)
   have hC4:=HC2.out w3
   obtain⟨a1,cap1,rfl⟩:=zai o1
   obtain⟨Hb4,Hb5,HC4,Ho1⟩:=hd4 hb4 hb5 hC4 o1;clear hb4 hb5 hC4 o1
   go_wp2_with fail
   refine HC4.out.mono ?_
   rintro e w4 ⟨v2,rfl,o2,hb6⟩
   have hb7:=Hb5.out.trans (hb6.mono Hb5.out.size)
   have o3:=zae Ho1.out hb6
   obtain⟨a2,cap2,rfl⟩:=zai o2
   obtain⟨Hb6,Hb7,Ho2,Ho3⟩:=hd4 hb6 hb7 o2 o3;clear hb6 hb7 o2 o3
   clear Ho1 HC HC2 HC3 HC4 HQ2 HP HQ Hb1 Hb2 Hb3 Hb4 Hb5 Hb6
   go_wp2_with fail
   go_loop [7] (fun i=>∃ k:Nat,k≤N∧i = .int .i64 k∧r=zd1 xs ys k (N - k)) (fun i=>N - (RowKit.intOf i).toNat)
   case atStart=>exact⟨0,Nat.zero_le _,rfl,H0.out⟩
   case round =>
    obtain⟨k,hk,rfl,hrk⟩:=hrel
    by_cases hlt:k < N
    ·obtain⟨x,hx⟩ : ∃ x,x=ps.getD k zey:=⟨_,rfl⟩
     obtain⟨y,hy⟩ : ∃ x,x=qs.getD k zey:=⟨_,rfl⟩
     have hX:=at1_any Ho3.out (by omega) k (by have:=HN.out;omega)
     have hY:=at1_any Ho2.out (by omega) k (by have:=HN.out;omega)
     rw[← hx] at hX
     rw[← hy] at hY
     have hB1:=zjz x y (by rw[hx];have:=Hzx.out k;omega) (by rw[hy];have:=Hzy.out k;omega) w4
     have hB2:=zjz y x (by rw[hy];have:=Hzy.out k;omega) (by rw[hx];have:=Hzx.out k;omega) w4
     obtain⟨u,hu⟩ : ∃ u,u=zb0 x.data.toList y.data.toList:=⟨_,rfl⟩
     obtain⟨v,hv⟩ : ∃ u,u=zb0 y.data.toList x.data.toList:=⟨_,rfl⟩
     rw[← hu] at hB1
     rw[← hv] at hB2
     have hr2:r=if u=true then true else if v=true then false else zd1 xs ys (k+1) (N - (k+1)):=by
      rw[hrk,show N - k=(N - (k+1))+1 by omega,zd1,hu,hv,hx,hy,Hgx.out,Hgy.out]
     have hor:(k < m)∨(¬ k < m∧k < n):=by have:=HN.out;omega
     obtain⟨Hx,Hy,HX,HY,HB1,HB2,Hu,Hv,Hrk,Hr2⟩:=hd10 hx hy hX hY hB1 hB2 hu hv hrk hr2;clear hx hy hX hY hB1 hB2 hu hv hrk hr2
     rcases hor with h1 | ⟨h1,h2⟩
     ·have k1:decide ((k:Int) < (m:Int))=true:=decide_eq_true (by omega)
      cases u with
      | true =>
       have hf:r=true:=by rw[Hr2.out];rfl
       have Hf:=hd hf;clear hf
       go_wp2_with fail
       refine HX.out.mono ?_
       rintro e w5 ⟨rfl,rfl⟩
       go_wp2_with fail
       refine HY.out.mono ?_
       rintro e w5 ⟨rfl,rfl⟩
       go_wp2_with fail
       refine HB1.out.mono ?_
       rintro e w5 ⟨rfl,rfl⟩
       go_wp2_with fail
       go_ret
       exact⟨zad Hf.out.symm,Hb7.out⟩
      | false =>
       cases v with
       | true =>
        have hf:r=false:=by rw[Hr2.out];rfl
        have Hf:=hd hf;clear hf
        go_wp2_with fail
        refine HX.out.mono ?_
        rintro e w5 ⟨rfl,rfl⟩
        go_wp2_with fail
        refine HY.out.mono ?_
        rintro e w5 ⟨rfl,rfl⟩
        go_wp2_with fail
        refine HB1.out.mono ?_
        rintro e w5 ⟨rfl,rfl⟩
        go_wp2_with fail
        refine HY.out.mono ?_
        rintro e w5 ⟨rfl,rfl⟩
        go_wp2_with fail
        refine HX.out.mono ?_
        rintro e w5 ⟨rfl,rfl⟩
        go_wp2_with fail
        refine HB2.out.mono ?_
        rintro e w5 ⟨rfl,rfl⟩
        go_wp2_with fail
        go_ret
        exact⟨zad Hf.out.symm,Hb7.out⟩
       | false =>
        have hf:r=zd1 xs ys (k+1) (N - (k+1)):=by rw[Hr2.out];rfl
        have Hf:=hd hf;clear hf
        go_wp2_with fail
        refine HX.out.mono ?_
        rintro e w5 ⟨rfl,rfl⟩
        go_wp2_with fail
        refine HY.out.mono ?_
        rintro e w5 ⟨rfl,rfl⟩
        go_wp2_with fail
        refine HB1.out.mono ?_
        rintro e w5 ⟨rfl,rfl⟩
        go_wp2_with fail
        refine HY.out.mono ?_
        rintro e w5 ⟨rfl,rfl⟩
        go_wp2_with fail
        refine HX.out.mono ?_
        rintro e w5 ⟨rfl,rfl⟩
        go_wp2_with fail
        refine HB2.out.mono ?_
        rintro e w5 ⟨rfl,rfl⟩
        go_wp2_with fail
        go_round
        case rel=>exact⟨k+1,by omega,by go_num,Hf.out⟩
        case measure=>simp[RowKit.intOf];omega
     have k1:decide ((k:Int) < (m:Int))=false:=decide_eq_false (by omega)
     have k2:decide ((k:Int) < (n:Int))=true:=decide_eq_true (by omega)
     cases u with
     | true =>
      have hf:r=true:=by rw[Hr2.out];rfl
      have Hf:=hd hf;clear hf
      go_wp2_with fail
      refine HX.out.mono ?_
      rintro e w5 ⟨rfl,rfl⟩
      go_wp2_with fail
      refine HY.out.mono ?_
      rintro e w5 ⟨rfl,rfl⟩
      go_wp2_with fail
      refine HB1.out.mono ?_
      rintro e w5 ⟨rfl,rfl⟩
      go_wp2_with fail
      go_ret
      exact⟨zad Hf.out.symm,Hb7.out⟩
     | false =>
      cases v with
      | true =>
       have hf:r=false:=by rw[Hr2.out];rfl
       have Hf:=hd hf;clear hf
       go_wp2_with fail
       refine HX.out.mono ?_
       rintro e w5 ⟨rfl,rfl⟩
       go_wp2_with fail
       refine HY.out.mono ?_
       rintro e w5 ⟨rfl,rfl⟩
       go_wp2_with fail
       refine HB1.out.mono ?_
       rintro e w5 ⟨rfl,rfl⟩
       go_wp2_with fail
       refine HY.out.mono ?_
       rintro e w5 ⟨rfl,rfl⟩
       go_wp2_with fail
       refine HX.out.mono ?_
       rintro e w5 ⟨rfl,rfl⟩
       go_wp2_with fail
       refine HB2.out.mono ?_
       rintro e w5 ⟨rfl,rfl⟩
       go_wp2_with fail
       go_ret
       exact⟨zad Hf.out.symm,Hb7.out⟩
      | false =>
       have hf:r=zd1 xs ys (k+1) (N - (k+1)):=by rw[Hr2.out];rfl
       have Hf:=hd hf;clear hf
       go_wp2_with fail
       refine HX.out.mono ?_
       rintro e w5 ⟨rfl,rfl⟩
       go_wp2_with fail
       refine HY.out.mono ?_
       rintro e w5 ⟨rfl,rfl⟩
       go_wp2_with fail
       refine HB1.out.mono ?_
       rintro e w5 ⟨rfl,rfl⟩
       go_wp2_with fail
       refine HY.out.mono ?_
       rintro e w5 ⟨rfl,rfl⟩
       go_wp2_with fail
       refine HX.out.mono ?_
       rintro e w5 ⟨rfl,rfl⟩
       go_wp2_with fail
       refine HB2.out.mono ?_
       rintro e w5 ⟨rfl,rfl⟩
       go_wp2_with fail
       go_round
       case rel=>exact⟨k+1,by omega,by go_num,Hf.out⟩
       case measure=>simp[RowKit.intOf];omega
    obtain rfl:k=N:=by omega
    have k1:decide (k < m)=false:=decide_eq_false (by have:=HN.out;omega)
    have k2:decide (k < n)=false:=decide_eq_false (by have:=HN.out;omega)
    have hf:r=false:=by rw[hrk,Nat.sub_self];rfl
    obtain⟨Hrk,Hf⟩:=hd2 hrk hf;clear hrk hf
    go_wp2_with fail
    go_ret
    exact⟨zad Hf.out.symm,Hb7.out⟩
end
end Go.Proofs.YteailgjiifdgcaaGreatDoor
