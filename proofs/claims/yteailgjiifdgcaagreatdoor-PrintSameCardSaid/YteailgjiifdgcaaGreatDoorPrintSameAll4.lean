/- Walks and plain facts. Texts merged: Txs, SpnA, SpnB, SpnC, SpnT, SpnD, SpnK, SpnMt, StbA, SpsF, App, SortA, SpsC, StR, Typ, RcT, SpsR, SpsK, SpsA, StbB. Condition: none beyond what each says. -/
import Derived.Lib.SmallJoins
import Derived.Lib.CutLaws
import Derived.Deep.DeepCutAuto
import Derived.Sort.LotA
import Derived.Sort.WalkA
import Derived.Shelf.SlSortCmp.Insertion
import Derived.Test.YteailgjiifdgcaaGreatDoorPrintSameAll3
set_option linter.unusedVariables false
set_option linter.unusedSimpArgs false
set_option maxRecDepth 10000
set_option maxHeartbeats 4000000
namespace Go.Proofs.YteailgjiifdgcaaGreatDoor
section
open Go.RowKit Go.Lib
abbrev RTs:Rd (List ByteArray):=zad 1 RStr
theorem zaw {w:World} {v:Value} {l:List ByteArray} (h:RTs w [v] l):∃ a cap,v = .slice a l.length cap∧l.length≤9223372036854775807∧∀ i (hi:i < l.length),∃ b off,a=some ⟨b,off,none⟩∧w.cell? ⟨b,off+i,none⟩=some (.string l[i])∧l[i].size≤maxLen:=by
 obtain⟨a,cap,hv,hcap,hmax,hel⟩:=h
 simp only[List.cons.injEq,and_true] at hv
 unfold maxLen at hmax
 refine⟨a,cap,hv,by omega,fun i hi=>?_⟩
 obtain⟨b,off,ecs,h1,h2,h3,h4,h5⟩:=hel i l[i] (List.getElem?_eq_getElem hi)
 subst h4
 exact⟨b,off,h1,by simpa using h3 0 _ rfl,h5⟩
theorem zdj {w:World} {B:Nat} {v:Value} {n:Nat} {l:List ByteArray} (h:w.ownsRow B 9 1 v n (l.map Value.string)) (hs:∀ x∈l,x.size≤maxLen):RTs w [v] l:=by
 obtain rfl:n=l.length:=by have:=h.1;simp at this;omega
 refine zjm (by simp) h fun i u x hu hx=>?_
 rw[List.getElem?_map,hx] at hu
 cases hu
 exact⟨rfl,hs x (List.mem_of_getElem? hx)⟩
theorem zah {w w':World} {v:Value} {l:List ByteArray} (h:RTs w [v] l) (hb:Below w.heap.size w w'):RTs w' [v] l:=za3 stays_str _ _ _ _ h hb
end

section
open Go.RowKit Go.Lib VerN
theorem zcm {f:Nat} {args:Array Value} {w W:World} {E:Ending} (h:Below w.heap.size w W) (c:Calls Tryz.prog f args W fun e w'=>e=E∧Below W.heap.size W w'):Calls Tryz.prog f args W fun e w'=>e=E∧Below w.heap.size w w' :=
 c.mono fun _ _ ⟨he,hb⟩=>⟨he,h.trans (hb.mono h.size)⟩
theorem zov (s:ByteArray) (hs:s.size≤1000000) {w:World} (hD:zb1 w):Calls Tryz.prog 124 #[.string s] w fun e w'=>e = .returned (.bool (mayL s.data.toList))∧Below w.heap.size w w':=by
 have hP:=zhk s hs hD
 unfold zhl at hP
 obtain⟨p,hp⟩ : ∃ p,p=mayL s.data.toList:=⟨_,rfl⟩
 rw[← hp] at hP ⊢
 obtain⟨HP,Hp,HD⟩:=hd3 hP hp hD;clear hP hp hD
 go_enter Tryz.func124,Tryz.ntmps124
 go_wp2_with fail
 refine HP.out.mono ?_
 rintro e w1 ⟨v,rfl,_,_,hb1⟩
 have Hb1:=hd hb1;clear hb1
 go_wp2_with fail
 go_ret
 exact⟨rfl,Hb1.out⟩
theorem bound_yes {s:ByteArray} (h:s.size=0):zbo s.data.toList=true:=by unfold zbo;rw[(zc9 s).2 h];rfl
theorem bound_no {s:ByteArray} (h:s.size≠0):zbo s.data.toList=mayL s.data.toList:=by unfold zbo;rw[decide_eq_false (fun e=>h ((zc9 s).1 e))];rfl
theorem zlw (s:ByteArray) (hs:s.size≤1000000) {w:World} (hD:zb1 w):Calls Tryz.prog 162 #[.string s] w fun e w'=>e = .returned (.bool (zbo s.data.toList))∧Below w.heap.size w w':=by
 by_cases h0:s.size=0
 ·rw[bound_yes h0]
  have k1:s.toList.isEmpty=true:=by rw[Txt.no_dec,decide_eq_true h0]
  have HD:=hd hD;clear hD
  go_enter Tryz.func162,Tryz.ntmps162
  go_wp2_with fail
  go_ret
  exact⟨rfl,Below.refl _ _⟩
 have hP:=zov s hs hD
 rw[bound_no h0]
 have k1:s.toList.isEmpty=false:=by rw[Txt.no_dec,decide_eq_false h0]
 obtain⟨p,hp⟩ : ∃ p,p=mayL s.data.toList:=⟨_,rfl⟩
 rw[← hp] at hP ⊢
 obtain⟨HP,Hp,HD⟩:=hd3 hP hp hD;clear hP hp hD
 go_enter Tryz.func162,Tryz.ntmps162
 go_wp2_with fail
 refine HP.out.mono ?_
 rintro e w1 ⟨rfl,hb1⟩
 have Hb1:=hd hb1;clear hb1
 go_wp2_with fail
 go_ret
 exact⟨rfl,Hb1.out⟩
theorem ahead_l {a b:ByteArray} (h:a.size=0):zbj a.data.toList b.data.toList=false:=by unfold zbj;rw[(zc9 a).2 h];rfl
theorem ahead_r {a b:ByteArray} (h:b.size=0):zbj a.data.toList b.data.toList=false:=by unfold zbj;rw[(zc9 b).2 h];simp
theorem ahead_c {a b:ByteArray} (h:a.size≠0) (k:b.size≠0):zbj a.data.toList b.data.toList=decide (zb9 a.data.toList b.data.toList < 0):=by
 have h1:decide (a.data.toList≠[])=true:=decide_eq_true (fun e=>h ((zc9 a).1 e))
 have h2:decide (b.data.toList≠[])=true:=decide_eq_true (fun e=>k ((zc9 b).1 e))
 unfold zbj
 rw[h1,h2]
 rfl
theorem zi5 (a b:ByteArray) (ha:a.size≤1000000) (hb:b.size≤1000000) {w:World} (hD:zb1 w):Calls Tryz.prog 125 #[.string a,.string b] w fun e w'=>e = .returned (.bool (zbj a.data.toList b.data.toList))∧Below w.heap.size w w':=by
 by_cases h0:a.size=0
 ·rw[ahead_l h0]
  have k1:a.toList.isEmpty=true:=by rw[Txt.no_dec,decide_eq_true h0]
  have HD:=hd hD;clear hD
  go_enter Tryz.func125,Tryz.ntmps125
  go_wp2_with fail
  go_ret
  exact⟨rfl,Below.refl _ _⟩
 have k1:a.toList.isEmpty=false:=by rw[Txt.no_dec,decide_eq_false h0]
 by_cases h1:b.size=0
 ·rw[ahead_r h1]
  have k2:b.toList.isEmpty=true:=by rw[Txt.no_dec,decide_eq_true h1]
  have HD:=hd hD;clear hD
  go_enter Tryz.func125,Tryz.ntmps125
  go_wp2_with fail
  go_ret
  exact⟨rfl,Below.refl _ _⟩
 have k2:b.toList.isEmpty=false:=by rw[Txt.no_dec,decide_eq_false h1]
 have hP:=zf2 a b ha hb hD
 rw[ahead_c h0 h1]
 obtain⟨p,hp⟩ : ∃ p,p=zb9 a.data.toList b.data.toList:=⟨_,rfl⟩
 rw[← hp] at hP ⊢
 obtain⟨HP,Hp,HD⟩:=hd3 hP hp hD;clear hP hp hD
 go_enter Tryz.func125,Tryz.ntmps125
 go_wp2_with fail
 refine HP.out.mono ?_
 rintro e w1 ⟨rfl,hb1⟩
 have Hb1:=hd hb1;clear hb1
 go_wp2_with fail
 go_ret
 exact⟨rfl,Hb1.out⟩
def zd0 (a b:ByteArray):ByteArray:=if a.size=0∨zbj a.data.toList b.data.toList=true then b else a
def zc1 (a b:ByteArray):ByteArray:=if a.size=0∨zbj b.data.toList a.data.toList=true then b else a
theorem zhp (a b:ByteArray):(zd0 a b).data.toList=zbv a.data.toList b.data.toList:=by
 unfold zd0 zbv
 simp only[zc9]
 split <;> rfl
theorem zgd (a b:ByteArray):(zc1 a b).data.toList=zbb a.data.toList b.data.toList:=by
 unfold zc1 zbb
 simp only[zc9]
 split <;> rfl
theorem zfh {a b:ByteArray} {n:Nat} (ha:a.size≤n) (hb:b.size≤n):(zd0 a b).size≤n:=by unfold zd0;split <;> assumption
theorem ze9 {a b:ByteArray} {n:Nat} (ha:a.size≤n) (hb:b.size≤n):(zc1 a b).size≤n:=by unfold zc1;split <;> assumption
theorem zlc (a b:ByteArray) (ha:a.size≤1000000) (hb:b.size≤1000000) {w:World} (hD:zb1 w):Calls Tryz.prog 166 #[.string a,.string b] w fun e w'=>e = .returned (.string (zd0 a b))∧Below w.heap.size w w':=by
 by_cases h0:a.size=0
 ·have hv:zd0 a b=b:=by unfold zd0;rw[if_pos (.inl h0)]
  rw[hv]
  have k1:a.toList.isEmpty=true:=by rw[Txt.no_dec,decide_eq_true h0]
  obtain⟨HD,Hv⟩:=hd2 hD hv;clear hD hv
  go_enter Tryz.func166,Tryz.ntmps166
  go_wp2_with fail
  go_ret
  exact⟨rfl,Below.refl _ _⟩
 have k1:a.toList.isEmpty=false:=by rw[Txt.no_dec,decide_eq_false h0]
 have hA:=zi5 a b ha hb hD
 obtain⟨p,hp⟩ : ∃ p,p=zbj a.data.toList b.data.toList:=⟨_,rfl⟩
 rw[← hp] at hA
 cases p with
 | true =>
  have hv:zd0 a b=b:=by unfold zd0;rw[if_pos (.inr hp.symm)]
  rw[hv]
  obtain⟨HA,Hp,HD,Hv⟩:=hd4 hA hp hD hv;clear hA hp hD hv
  go_enter Tryz.func166,Tryz.ntmps166
  go_wp2_with fail
  refine HA.out.mono ?_
  rintro e w1 ⟨rfl,hb1⟩
  have Hb1:=hd hb1;clear hb1
  go_wp2_with fail
  go_ret
  exact⟨rfl,Hb1.out⟩
 | false =>
  have hv:zd0 a b=a:=by unfold zd0;rw[if_neg (by rintro (h | h);exact h0 h;rw[h] at hp;cases hp)]
  rw[hv]
  obtain⟨HA,Hp,HD,Hv⟩:=hd4 hA hp hD hv;clear hA hp hD hv
  go_enter Tryz.func166,Tryz.ntmps166
  go_wp2_with fail
  refine HA.out.mono ?_
  rintro e w1 ⟨rfl,hb1⟩
  have Hb1:=hd hb1;clear hb1
  go_wp2_with fail
  go_ret
  exact⟨rfl,Hb1.out⟩
theorem zit (a b:ByteArray) (ha:a.size≤1000000) (hb:b.size≤1000000) {w:World} (hD:zb1 w):Calls Tryz.prog 165 #[.string a,.string b] w fun e w'=>e = .returned (.string (zc1 a b))∧Below w.heap.size w w':=by
 by_cases h0:a.size=0
 ·have hv:zc1 a b=b:=by unfold zc1;rw[if_pos (.inl h0)]
  rw[hv]
  have k1:a.toList.isEmpty=true:=by rw[Txt.no_dec,decide_eq_true h0]
  obtain⟨HD,Hv⟩:=hd2 hD hv;clear hD hv
  go_enter Tryz.func165,Tryz.ntmps165
  go_wp2_with fail
  go_ret
  exact⟨rfl,Below.refl _ _⟩
 have k1:a.toList.isEmpty=false:=by rw[Txt.no_dec,decide_eq_false h0]
 have hA:=zi5 b a hb ha hD
 obtain⟨p,hp⟩ : ∃ p,p=zbj b.data.toList a.data.toList:=⟨_,rfl⟩
 rw[← hp] at hA
 cases p with
 | true =>
  have hv:zc1 a b=b:=by unfold zc1;rw[if_pos (.inr hp.symm)]
  rw[hv]
  obtain⟨HA,Hp,HD,Hv⟩:=hd4 hA hp hD hv;clear hA hp hD hv
  go_enter Tryz.func165,Tryz.ntmps165
  go_wp2_with fail
  refine HA.out.mono ?_
  rintro e w1 ⟨rfl,hb1⟩
  have Hb1:=hd hb1;clear hb1
  go_wp2_with fail
  go_ret
  exact⟨rfl,Hb1.out⟩
 | false =>
  have hv:zc1 a b=a:=by unfold zc1;rw[if_neg (by rintro (h | h);exact h0 h;rw[h] at hp;cases hp)]
  rw[hv]
  obtain⟨HA,Hp,HD,Hv⟩:=hd4 hA hp hD hv;clear hA hp hD hv
  go_enter Tryz.func165,Tryz.ntmps165
  go_wp2_with fail
  refine HA.out.mono ?_
  rintro e w1 ⟨rfl,hb1⟩
  have Hb1:=hd hb1;clear hb1
  go_wp2_with fail
  go_ret
  exact⟨rfl,Hb1.out⟩
end

section
open Go.RowKit Go.Lib VerN
theorem zac {w W0 W:World} (h:Below w.heap.size w W0) (k:Below W0.heap.size W0 W):Below w.heap.size w W:=h.trans (k.mono h.size)
theorem spn_box (lo hi:ByteArray) (w W:World) (h:Below (w.alloc (.cells #[.string lo,.string hi] 34)).heap.size (w.alloc (.cells #[.string lo,.string hi] 34)) W):W.cell? ⟨w.heap.size,0,none⟩=some (.string lo)∧W.cell? ⟨w.heap.size,1,none⟩=some (.string hi):=by
 have h1:=za0 h (heap_alloc_new w (.cells #[.string lo,.string hi] 34))
 exact⟨za1 h1 0,za1 h1 1⟩
theorem zj7 (s:ByteArray):s.toList.isEmpty=decide (s.data.toList = []):=by rw[Txt.no_dec];exact decide_eq_decide.2 (zc9 s).symm
theorem zbf (lo hi:ByteArray) (hl:lo.size≤1000000) (hh:hi.size≤1000000) {w:World} (hD:zb1 w):Calls Tryz.prog 104 #[.agg #[.string lo,.string hi]] w fun e w'=>e = .returned (.bool (mayS (lo.data.toList,hi.data.toList)))∧Below w.heap.size w w':=by
 obtain⟨W0,hW0⟩ : ∃ W0,W0=w.alloc (.cells #[.string lo,.string hi] 34):=⟨_,rfl⟩
 obtain⟨nb,hnb⟩ : ∃ nb,nb=w.heap.size:=⟨_,rfl⟩
 have hw:Below w.heap.size w W0:=by rw[hW0];exact za2 _ _
 have hbx:∀ W,Below W0.heap.size W0 W→W.cell? ⟨nb,0,none⟩=some (.string lo)∧W.cell? ⟨nb,1,none⟩=some (.string hi):=by rw[hW0,hnb];exact spn_box _ _ _
 obtain⟨c0,c1⟩:=hbx W0 (Below.refl _ _)
 have hb0:Below W0.heap.size W0 W0:=Below.refl _ _
 have hA:=fun (W:World) (k:Below W0.heap.size W0 W)=>zcm k (zlw lo hl (hD.below (zac hw k)))
 have hB:=fun (W:World) (k:Below W0.heap.size W0 W)=>zcm k (zlw hi hh (hD.below (zac hw k)))
 have hC:=fun (W:World) (k:Below W0.heap.size W0 W)=>zcm k (zi5 hi lo hh hl (hD.below (zac hw k)))
 obtain⟨p,hp⟩ : ∃ p,p=zbo lo.data.toList:=⟨_,rfl⟩
 obtain⟨q,hq⟩ : ∃ p,p=zbo hi.data.toList:=⟨_,rfl⟩
 obtain⟨r,hr⟩ : ∃ p,p=zbj hi.data.toList lo.data.toList:=⟨_,rfl⟩
 have hm:mayS (lo.data.toList,hi.data.toList)=(p && q && !r):=by rw[hp,hq,hr];rfl
 rw[← hp] at hA
 rw[← hq] at hB
 rw[← hr] at hC
 rw[hm]
 clear hm hp hq hr hD
 obtain⟨HA,HB,HC,Hw,Hbx,Hb0⟩:=hd6 hA hB hC hw hbx hb0;clear hA hB hC hw hbx hb0
 go_enter Tryz.func104,Tryz.ntmps104
 go_upto_region 1 with (fail)
 rw[← hW0,← hnb]
 clear hW0 hnb
 go_wp2_with fail
 refine (HA.out _ Hb0.out).mono ?_
 rintro e w1 ⟨rfl,hb1⟩
 obtain⟨c0,c1⟩:=Hbx.out _ hb1
 have Hb1:=hd hb1;clear hb1
 cases p with
 | false =>
  go_wp2_with fail
  go_ret
  exact⟨rfl,zac Hw.out Hb1.out⟩
 | true =>
  go_wp2_with fail
  refine (HB.out _ Hb1.out).mono ?_
  rintro e w2 ⟨rfl,hb2⟩
  obtain⟨c0,c1⟩:=Hbx.out _ hb2
  have Hb2:=hd hb2;clear hb2
  cases q with
  | false =>
   go_wp2_with fail
   go_ret
   exact⟨rfl,zac Hw.out Hb2.out⟩
  | true =>
   go_wp2_with fail
   refine (HC.out _ Hb2.out).mono ?_
   rintro e w3 ⟨rfl,hb3⟩
   obtain⟨c0,c1⟩:=Hbx.out _ hb3
   have Hb3:=hd hb3;clear hb3
   go_wp2_with fail
   go_ret
   exact⟨rfl,zac Hw.out Hb3.out⟩
end

section
open Go.RowKit Go.Lib VerN
def txR (lo hi:ByteArray):ByteArray:=if lo=hi∧lo.size≠0 then lo else lo ++ ⟨#[58]⟩ ++ hi
def txS (lo hi:ByteArray):ByteArray:=if mayS (lo.data.toList,hi.data.toList)=true then txR lo hi else ⟨#[]⟩
theorem zj9 (h a:ByteArray):(h ++ ⟨#[58]⟩ ++ a).data.toList=h.data.toList ++ 58 :: a.data.toList:=by
 rw[Go.Joins.data_append,Go.Joins.data_append,List.append_assoc]
 rfl
theorem zqa (h a:ByteArray):(h ++ ⟨#[58]⟩ ++ a).size=h.size+1+a.size:=by
 rw[← Txt.len,zj9,List.length_append,List.length_cons,Txt.len,Txt.len]
 omega
theorem ba_eq {a b:ByteArray}:a=b↔a.data.toList=b.data.toList:=⟨fun h=>by rw[h],Txt.ext⟩
theorem txR_data (lo hi:ByteArray):(txR lo hi).data.toList=textR (lo.data.toList,hi.data.toList):=by
 unfold txR textR
 simp only[ba_eq,ne_eq,zc9]
 split
 ·rfl
 exact zj9 _ _
theorem zno (lo hi:ByteArray):(txS lo hi).data.toList=textS (lo.data.toList,hi.data.toList):=by
 unfold txS textS
 split
 ·exact txR_data _ _
 rfl
theorem txR_size (lo hi:ByteArray):(txR lo hi).size≤lo.size+1+hi.size:=by
 unfold txR
 split
 ·omega
 rw[zqa]
 exact Nat.le_refl _
theorem ze7 (lo hi:ByteArray) (hl:lo.size≤1000000) (hh:hi.size≤1000000) {w:World} (hD:zb1 w):Calls Tryz.prog 57 #[.agg #[.string lo,.string hi]] w fun e w'=>e = .returned (.string (txS lo hi))∧Below w.heap.size w w':=by
 obtain⟨W0,hW0⟩ : ∃ W0,W0=w.alloc (.cells #[.string lo,.string hi] 34):=⟨_,rfl⟩
 obtain⟨nb,hnb⟩ : ∃ nb,nb=w.heap.size:=⟨_,rfl⟩
 have hw:Below w.heap.size w W0:=by rw[hW0];exact za2 _ _
 have hbx:∀ W,Below W0.heap.size W0 W→W.cell? ⟨nb,0,none⟩=some (.string lo)∧W.cell? ⟨nb,1,none⟩=some (.string hi):=by rw[hW0,hnb];exact spn_box _ _ _
 obtain⟨c0,c1⟩:=hbx W0 (Below.refl _ _)
 have hb0:Below W0.heap.size W0 W0:=Below.refl _ _
 obtain⟨d1,k1⟩ : ∃ p,lo.toList.isEmpty=p:=⟨_,rfl⟩
 obtain⟨d2,k2⟩ : ∃ p,(lo.toList == hi.toList)=p:=⟨_,rfl⟩
 have e0:(lo ++ ⟨#[58]⟩).size=lo.size+1:=by rw[← Txt.len,Go.Joins.data_append,List.length_append,Txt.len];rfl
 have hA:=fun (W:World) (k:Below W0.heap.size W0 W)=>zcm k (zbf lo hi hl hh (hD.below (zac hw k)))
 obtain⟨p,hp⟩ : ∃ p,p=mayS (lo.data.toList,hi.data.toList):=⟨_,rfl⟩
 have hm:txS lo hi=if p=true then (if d2=true then (if d1=true then lo ++ ⟨#[58]⟩ ++ hi else lo) else lo ++ ⟨#[58]⟩ ++ hi) else ⟨#[]⟩:=by
  rw[← k1,← k2,Txt.no_dec,Txt.eq_dec]
  unfold txS txR
  rw[← hp]
  by_cases h1:lo=hi <;> by_cases h2:lo.size=0 <;> simp[h1,h2]
 rw[hm]
 rw[← hp] at hA
 clear hm hp hD
 obtain⟨HA,Hw,Hbx,Hb0⟩:=hd4 hA hw hbx hb0;clear hA hw hbx hb0
 go_enter Tryz.func57,Tryz.ntmps57
 go_upto_region 1 with (fail)
 rw[← hW0,← hnb]
 clear hW0 hnb
 go_wp2_with fail
 refine (HA.out _ Hb0.out).mono ?_
 rintro e w1 ⟨rfl,hb1⟩
 obtain⟨c0,c1⟩:=Hbx.out _ hb1
 have Hb1:=hd hb1;clear hb1
 cases p with
 | false =>
  go_wp2_with fail
  go_ret
  exact⟨rfl,zac Hw.out Hb1.out⟩
 | true =>
  cases d2 with
  | false =>
   go_wp2_with fail
   go_ret
   exact⟨rfl,zac Hw.out Hb1.out⟩
  | true =>
   cases d1 with
   | false =>
    go_wp2_with fail
    go_ret
    exact⟨rfl,zac Hw.out Hb1.out⟩
   | true =>
    go_wp2_with fail
    go_ret
    exact⟨rfl,zac Hw.out Hb1.out⟩
end

namespace VerN
open Go.Lib
theorem zf8 (c:UInt8):∀ l:List UInt8,c ∉ l→indexByte l c = -1
 | [],_=>rfl
 | x :: r,h=>by
  have hx:x≠c:=fun e=>h (by simp[e])
  have hr:=zf8 c r (fun e=>h (by simp[e]))
  unfold indexByte
  simp[hx,hr]
theorem zgg (c:UInt8):∀ a b:List UInt8,c ∉ a→indexByte (a ++ c :: b) c=a.length
 | [],_,_=>by show indexByte (c :: _) c=_;unfold indexByte;simp
 | x :: r,b,h=>by
  have hx:x≠c:=fun e=>h (by simp[e])
  have hr:=zgg c r b (fun e=>h (by simp[e]))
  show indexByte (x :: (r ++ c :: b)) c=_
  unfold indexByte
  rw[hr]
  simp[hx]
theorem cut_none {l:List UInt8} (h:(58:UInt8) ∉ l):cut l [58]=(l,[],false):=by
 unfold cut
 rw[index_one,zf8 _ _ h,if_neg (by omega)]
theorem cut_at {a b:List UInt8} (h:(58:UInt8) ∉ a):cut (a ++ 58 :: b) [58]=(a,b,true):=by
 unfold cut
 rw[index_one,zgg _ _ _ h,if_pos (by omega)]
 simp
theorem znd (l:List UInt8):(58:UInt8) ∉ l∨∃ a b,l=a ++ 58 :: b∧(58:UInt8) ∉ a:=by
 by_cases h:(58:UInt8)∈l
 ·exact .inr (List.eq_append_cons_of_mem h)
 exact .inl h
def spO (l:List UInt8):Sp:=if (cut l [58]).2.2=true then ((cut l [58]).1,(cut l [58]).2.1) else ((cut l [58]).1,(cut l [58]).1)
def spOk (l:List UInt8):Bool:=mayS (spO l) && decide (textS (spO l)=l)
end VerN

section
open Go.RowKit Go.Lib VerN
theorem zat {fn:Func} {p u:Tmp} (hres:fn.results=#[.cell p 34,.tmp u]) {R:Ending→World→Prop} {a:Act} {w:World} {g:Nat} {x y b:Value} (hp:a.tmps.getD p undef = .pointer (some ⟨g,0,none⟩)) (hu:a.tmps.getD u undef=b)
  (hg:w.heap[g]? = some (.cells #[x,y] 34 (0,0))) (hd:a.defers = []) (hR:R (.returned (.tuple #[.agg #[x,y],b])) w):bodyPost Tryz.prog fn R .ret a w:=by
 refine bodyPost_ret (v:=.tuple #[.agg #[x,y],b]) ?_ hd hR
 rw[results_cell_tmp hres,hp,hu]
 simp only[asAddr,Sem.run_pure,Result.andThen,run_loadVar_row w g 34 34 _ _ _ hg Tryz.underlying34 rfl (by kernel_rfl)]
theorem zar {fn:Func} {p:Tmp} (hres:fn.results=#[.cell p 34]) {R:Ending→World→Prop} {a:Act} {w:World} {g:Nat} {x y:Value} (hp:a.tmps.getD p undef = .pointer (some ⟨g,0,none⟩)) (hg:w.heap[g]? = some (.cells #[x,y] 34 (0,0))) (hd:a.defers = []) (hR:R (.returned (.agg #[x,y])) w):bodyPost Tryz.prog fn R .ret a w :=
 bodyPost_ret (results_cell_row hres a.tmps w g _ _ _ _ hp hg Tryz.underlying34 rfl (by kernel_rfl)) hd hR
theorem za4 {w:World} {g:Nat} {t:TypeId} {x y:Value} (h:w.heap[g]? = some (.cells #[x,y] t (0,0))):w.cell? ⟨g,0,none⟩=some x∧w.cell? ⟨g,1,none⟩=some y∧w.frozen? ⟨g,0,none⟩=false∧w.frozen? ⟨g,1,none⟩=false :=
 ⟨za1 h 0,za1 h 1,za7 h 0,za7 h 1⟩
theorem zas {w:World} {g:Nat} {t:TypeId} {x y:Value} (u v:Value) (h:w.heap[g]? = some (.cells #[x,y] t (0,0))):((w.setCell ⟨g,0,none⟩ u).setCell ⟨g,1,none⟩ v).heap[g]? = some (.cells #[u,v] t (0,0)):=by
 have k0:=heap_setCell_same _ g 0 _ _ u h
 have k1:=heap_setCell_same _ g 1 _ _ v k0
 exact k1
theorem zap {B:Nat} {a w:World} {g:Nat} (u v:Value) (h:Below B a w) (hg:B≤g):Below B a ((w.setCell ⟨g,0,none⟩ u).setCell ⟨g,1,none⟩ v):=(h.setCell (p:=⟨g,0,none⟩) hg _).setCell (p:=⟨g,1,none⟩) hg _
theorem zck {a b c d:ByteArray} {p q:Bool} (h1:a=c) (h2:b=d) (h3:p=q):Ending.returned (.tuple #[.agg #[.string a,.string b],.bool p]) = .returned (.tuple #[.agg #[.string c,.string d],.bool q]):=by rw[h1,h2,h3]
def spB (s:ByteArray):ByteArray × ByteArray:=if (cut s.data.toList [58]).2.2=true then (⟨(cut s.data.toList [58]).1.toArray⟩,⟨(cut s.data.toList [58]).2.1.toArray⟩) else (⟨(cut s.data.toList [58]).1.toArray⟩,⟨(cut s.data.toList [58]).1.toArray⟩)
def spV (s:ByteArray):ByteArray × ByteArray:=if spOk s.data.toList=true then spB s else (⟨#[]⟩,⟨#[]⟩)
theorem zjk (s:ByteArray):((spB s).1.data.toList,(spB s).2.data.toList)=spO s.data.toList:=by
 unfold spB spO
 split <;> rfl
theorem zhy (s:ByteArray):(cut s.data.toList [58]).1.length≤s.size∧(cut s.data.toList [58]).2.1.length≤s.size:=by
 rw[← Txt.len]
 rcases znd s.data.toList with h | ⟨a,b,hab,h⟩
 ·rw[cut_none h]
  exact⟨Nat.le_refl _,Nat.zero_le _⟩
 rw[hab,cut_at h]
 constructor <;> simp
 omega
theorem zkt (s:ByteArray) (hs:s.size≤100000) {w:World} (hD:zb1 w):Calls Tryz.prog 53 #[.string s] w fun e w'=>e = .returned (.tuple #[.agg #[.string (spV s).1,.string (spV s).2],.bool (spOk s.data.toList)])∧Below w.heap.size w w':=by
 obtain⟨W0,hW0⟩ : ∃ W0,W0=w.alloc (.cells #[.string ⟨#[]⟩,.string ⟨#[]⟩] 34):=⟨_,rfl⟩
 obtain⟨nb,hnb⟩ : ∃ nb,nb=w.heap.size:=⟨_,rfl⟩
 have hw:Below w.heap.size w W0:=by rw[hW0];exact za2 _ _
 have hbx:W0.heap[nb]? = some (.cells #[.string ⟨#[]⟩,.string ⟨#[]⟩] 34 (0,0)):=by rw[hW0,hnb];exact heap_alloc_new _ _
 obtain⟨lo,hlo⟩ : ∃ x:ByteArray,x=⟨(cut s.data.toList [58]).1.toArray⟩:=⟨_,rfl⟩
 obtain⟨hi,hhi⟩ : ∃ x:ByteArray,x=⟨(cut s.data.toList [58]).2.1.toArray⟩:=⟨_,rfl⟩
 obtain⟨two,htwo⟩ : ∃ x:Bool,x=(cut s.data.toList [58]).2.2:=⟨_,rfl⟩
 have hB:spB s=if two=true then (lo,hi) else (lo,lo):=by unfold spB;rw[← hlo,← hhi,← htwo]
 have hl:lo.size≤100000:=by have:=(zhy s).1;rw[hlo];show (cut s.data.toList [58]).1.toArray.size≤_;simp;omega
 have hh:hi.size≤100000:=by have:=(zhy s).2;rw[hhi];show (cut s.data.toList [58]).2.1.toArray.size≤_;simp;omega
 obtain⟨mx,hmx⟩:=(hD.below hw).max
 have hC:=Tryz.strings_Cut s ⟨#[58]⟩ _ W0 (by omega) hmx
 clear hmx
 simp only[← hlo,← hhi,← htwo] at hC
 obtain⟨HC,Hw,Hbx,HB,Hlo,Hhi,Htwo,HD⟩:=hd8 hC hw hbx hB hlo hhi htwo hD;clear hC hw hbx hB hlo hhi htwo hD
 go_enter Tryz.func53,Tryz.ntmps53
 go_upto_region 1 with (fail)
 rw[← hW0,← hnb]
 have hle:w.heap.size≤nb:=Nat.le_of_eq hnb.symm
 clear hW0 hnb
 have Hle:=hd hle;clear hle
 go_wp2_with fail
 refine HC.out.mono ?_
 rintro e w1 ⟨rfl,n,rfl⟩
 have hb1:Below W0.heap.size W0 (W0.drewN n):=za9 (Below.refl _ _) n
 generalize W0.drewN n=W1 at hb1 ⊢
 have Hb1:=hd hb1;clear hb1
 cases two with
 | true =>
  go_upto_region 5 with (fail)
  obtain⟨W2,hW2⟩ : ∃ W2,W2=W1.alloc (.cells #[.string lo,.string hi] 34):=⟨_,rfl⟩
  obtain⟨g,hg⟩ : ∃ g,g=W1.heap.size:=⟨_,rfl⟩
  have hb2:Below W0.heap.size W0 W2:=by rw[hW2];exact Hb1.out.alloc Hb1.out.size _
  have hgx:W2.heap[g]? = some (.cells #[.string lo,.string hi] 34 (0,0)):=by rw[hW2,hg];exact heap_alloc_new _ _
  have hr2:=za0 hb2 Hbx.out
  have hA:=fun (W:World) (k:Below W2.heap.size W2 W)=>zcm k (zbf lo hi (by omega) (by omega) (HD.out.below (zac Hw.out (hb2.trans (k.mono hb2.size)))))
  have hT:=fun (W:World) (k:Below W2.heap.size W2 W)=>zcm k (ze7 lo hi (by omega) (by omega) (HD.out.below (zac Hw.out (hb2.trans (k.mono hb2.size)))))
  obtain⟨p,hp⟩ : ∃ x,x=mayS (lo.data.toList,hi.data.toList):=⟨_,rfl⟩
  obtain⟨tx,htx⟩ : ∃ x,x=txS lo hi:=⟨_,rfl⟩
  obtain⟨d,k1⟩ : ∃ x,(tx.toList == s.toList)=x:=⟨_,rfl⟩
  have hB2:spB s=(lo,hi):=by rw[HB.out];rfl
  have hok:spOk s.data.toList=(p && d):=by
   unfold spOk
   rw[← zjk,hB2,← zno,← k1,← htx,hp,Txt.eq_dec]
   exact congrArg _ (decide_eq_decide.2 ba_eq.symm)
  have hval:spV s=if (p && d)=true then (lo,hi) else (⟨#[]⟩,⟨#[]⟩):=by unfold spV;rw[hok,hB2]
  rw[← hp] at hA
  rw[← htx] at hT
  have hb0:Below W2.heap.size W2 W2:=Below.refl _ _
  have hgw:=fun (W:World) (k:Below W2.heap.size W2 W)=>za4 (za0 k hgx)
  have hrw:=fun (W:World) (k:Below W2.heap.size W2 W)=>za4 (za0 k hr2)
  obtain⟨c0,c1,f0,f1⟩:=hgw W2 hb0
  obtain⟨x0,x1,y0,y1⟩:=hrw W2 hb0
  rw[← hW2,← hg]
  clear hW2 hg hp htx hB2
  obtain⟨Hb2,Hgx,Hr2,HA,HT,Hok,Hval,Hgw,Hrw,Hb0⟩:=hd10 hb2 hgx hr2 hA hT hok hval hgw hrw hb0;clear hb2 hgx hr2 hA hT hok hval hgw hrw hb0
  go_wp2_with fail
  refine (HA.out _ Hb0.out).mono ?_
  rintro e w2 ⟨rfl,hb3⟩
  obtain⟨c0,c1,f0,f1⟩:=Hgw.out _ hb3
  obtain⟨x0,x1,y0,y1⟩:=Hrw.out _ hb3
  have Hb3:=hd hb3;clear hb3
  cases p with
  | false =>
   have hr3:=za0 Hb3.out Hr2.out
   have hb9:=Hb2.out.trans (Hb3.out.mono Hb2.out.size)
   obtain⟨Hr3,Hb9⟩:=hd2 hr3 hb9;clear hr3 hb9
   go_wp2_with fail
   refine zat rfl rfl rfl (zas _ _ Hr3.out) rfl ?_
   exact⟨zck (by rw[Hval.out];rfl) (by rw[Hval.out];rfl) Hok.out.symm,zap _ _ (zac Hw.out Hb9.out) Hle.out⟩
  | true =>
   go_wp2_with fail
   refine (HT.out _ Hb3.out).mono ?_
   rintro e w3 ⟨rfl,hb4⟩
   obtain⟨c0,c1,f0,f1⟩:=Hgw.out _ hb4
   obtain⟨x0,x1,y0,y1⟩:=Hrw.out _ hb4
   have hr3:=za0 hb4 Hr2.out
   have hb9:=Hb2.out.trans (hb4.mono Hb2.out.size)
   obtain⟨Hb4,Hr3,Hb9⟩:=hd3 hb4 hr3 hb9;clear hb4 hr3 hb9
   cases d with
   | false =>
    go_wp2_with fail
    refine zat rfl rfl rfl (zas _ _ Hr3.out) rfl ?_
    exact⟨zck (by rw[Hval.out];rfl) (by rw[Hval.out];rfl) Hok.out.symm,zap _ _ (zac Hw.out Hb9.out) Hle.out⟩
   | true =>
    go_wp2_with fail
    refine zat rfl rfl rfl (zas _ _ Hr3.out) rfl ?_
    exact⟨zck (by rw[Hval.out];rfl) (by rw[Hval.out];rfl) Hok.out.symm,zap _ _ (zac Hw.out Hb9.out) Hle.out⟩
 | false =>
  go_upto_region 5 with (fail)
  obtain⟨W2,hW2⟩ : ∃ W2,W2=W1.alloc (.cells #[.string lo,.string lo] 34):=⟨_,rfl⟩
  obtain⟨g,hg⟩ : ∃ g,g=W1.heap.size:=⟨_,rfl⟩
  have hb2:Below W0.heap.size W0 W2:=by rw[hW2];exact Hb1.out.alloc Hb1.out.size _
  have hgx:W2.heap[g]? = some (.cells #[.string lo,.string lo] 34 (0,0)):=by rw[hW2,hg];exact heap_alloc_new _ _
  have hr2:=za0 hb2 Hbx.out
  have hA:=fun (W:World) (k:Below W2.heap.size W2 W)=>zcm k (zbf lo lo (by omega) (by omega) (HD.out.below (zac Hw.out (hb2.trans (k.mono hb2.size)))))
  have hT:=fun (W:World) (k:Below W2.heap.size W2 W)=>zcm k (ze7 lo lo (by omega) (by omega) (HD.out.below (zac Hw.out (hb2.trans (k.mono hb2.size)))))
  obtain⟨p,hp⟩ : ∃ x,x=mayS (lo.data.toList,lo.data.toList):=⟨_,rfl⟩
  obtain⟨tx,htx⟩ : ∃ x,x=txS lo lo:=⟨_,rfl⟩
  obtain⟨d,k1⟩ : ∃ x,(tx.toList == s.toList)=x:=⟨_,rfl⟩
  have hB2:spB s=(lo,lo):=by rw[HB.out];rfl
  have hok:spOk s.data.toList=(p && d):=by
   unfold spOk
   rw[← zjk,hB2,← zno,← k1,← htx,hp,Txt.eq_dec]
   exact congrArg _ (decide_eq_decide.2 ba_eq.symm)
  have hval:spV s=if (p && d)=true then (lo,lo) else (⟨#[]⟩,⟨#[]⟩):=by unfold spV;rw[hok,hB2]
  rw[← hp] at hA
  rw[← htx] at hT
  have hb0:Below W2.heap.size W2 W2:=Below.refl _ _
  have hgw:=fun (W:World) (k:Below W2.heap.size W2 W)=>za4 (za0 k hgx)
  have hrw:=fun (W:World) (k:Below W2.heap.size W2 W)=>za4 (za0 k hr2)
  obtain⟨c0,c1,f0,f1⟩:=hgw W2 hb0
  obtain⟨x0,x1,y0,y1⟩:=hrw W2 hb0
  rw[← hW2,← hg]
  clear hW2 hg hp htx hB2
  obtain⟨Hb2,Hgx,Hr2,HA,HT,Hok,Hval,Hgw,Hrw,Hb0⟩:=hd10 hb2 hgx hr2 hA hT hok hval hgw hrw hb0;clear hb2 hgx hr2 hA hT hok hval hgw hrw hb0
  go_wp2_with fail
  refine (HA.out _ Hb0.out).mono ?_
  rintro e w2 ⟨rfl,hb3⟩
  obtain⟨c0,c1,f0,f1⟩:=Hgw.out _ hb3
  obtain⟨x0,x1,y0,y1⟩:=Hrw.out _ hb3
  have Hb3:=hd hb3;clear hb3
  cases p with
  | false =>
   have hr3:=za0 Hb3.out Hr2.out
   have hb9:=Hb2.out.trans (Hb3.out.mono Hb2.out.size)
   obtain⟨Hr3,Hb9⟩:=hd2 hr3 hb9;clear hr3 hb9
   go_wp2_with fail
   refine zat rfl rfl rfl (zas _ _ Hr3.out) rfl ?_
   exact⟨zck (by rw[Hval.out];rfl) (by rw[Hval.out];rfl) Hok.out.symm,zap _ _ (zac Hw.out Hb9.out) Hle.out⟩
  | true =>
   go_wp2_with fail
   refine (HT.out _ Hb3.out).mono ?_
   rintro e w3 ⟨rfl,hb4⟩
   obtain⟨c0,c1,f0,f1⟩:=Hgw.out _ hb4
   obtain⟨x0,x1,y0,y1⟩:=Hrw.out _ hb4
   have hr3:=za0 hb4 Hr2.out
   have hb9:=Hb2.out.trans (hb4.mono Hb2.out.size)
   obtain⟨Hb4,Hr3,Hb9⟩:=hd3 hb4 hr3 hb9;clear hb4 hr3 hb9
   cases d with
   | false =>
    go_wp2_with fail
    refine zat rfl rfl rfl (zas _ _ Hr3.out) rfl ?_
    exact⟨zck (by rw[Hval.out];rfl) (by rw[Hval.out];rfl) Hok.out.symm,zap _ _ (zac Hw.out Hb9.out) Hle.out⟩
   | true =>
    go_wp2_with fail
    refine zat rfl rfl rfl (zas _ _ Hr3.out) rfl ?_
    exact⟨zck (by rw[Hval.out];rfl) (by rw[Hval.out];rfl) Hok.out.symm,zap _ _ (zac Hw.out Hb9.out) Hle.out⟩
end

section
open Go.RowKit Go.Lib VerN
abbrev PrObj (x y:Value):Obj:=.cells #[x,y] 34 (0,0)
theorem zmp (w:World) (x y z u:Value):((w.alloc (.cells #[x,y] 34)).alloc (.cells #[z,u] 34)).heap[w.heap.size]? = some (PrObj x y):=za0 (za2 _ _) (heap_alloc_new _ _)
theorem zmo (w:World) (x y z u:Value):((w.alloc (.cells #[x,y] 34)).alloc (.cells #[z,u] 34)).heap[w.heap.size+1]? = some (PrObj z u):=za5 (by simp)
theorem pbox3_0 (w:World) (x y z u p q:Value):(((w.alloc (.cells #[x,y] 34)).alloc (.cells #[z,u] 34)).alloc (.cells #[p,q] 34)).heap[w.heap.size]? = some (PrObj x y):=za0 (za2 _ _) (zmp _ _ _ _ _)
theorem pbox3_1 (w:World) (x y z u p q:Value):(((w.alloc (.cells #[x,y] 34)).alloc (.cells #[z,u] 34)).alloc (.cells #[p,q] 34)).heap[w.heap.size+1]? = some (PrObj z u):=za0 (za2 _ _) (zmo _ _ _ _ _)
theorem pbox3_2 (w:World) (x y z u p q:Value):(((w.alloc (.cells #[x,y] 34)).alloc (.cells #[z,u] 34)).alloc (.cells #[p,q] 34)).heap[w.heap.size+1+1]? = some (PrObj p q):=za5 (by simp)
theorem spn_eqs (s t a b:ByteArray) (W:World):(binOp .eql 34 (.agg #[.string s,.string t]) (.agg #[.string a,.string b])).run Tryz.prog W = .ok (.bool (decide (s=a) && decide (t=b))) W:=by
 have u9:=Tryz.underlying9
 have hS:Tryz.prog.underlying 34=some (.struct (Tryz.prog.fieldsOf 34)):=by kernel_rfl
 have hp:Tryz.prog.stoodInHeld 34=false:=by kernel_rfl
 rw[run_eql_struct,show (10000:Nat)=9999+1 from rfl,run_equalIn_agg W 9999 34 _ _ hS hp]
 simp only[Program.fieldsOf,Tryz.underlying34]
 go_simp
 have e1:=Txt.eq_dec s a
 have e2:=Txt.eq_dec t b
 by_cases h1:s=a <;> by_cases h2:t=b <;> simp[h1,h2] at e1 e2 ⊢ <;> simp_all
end

section
open Go.RowKit Go.Lib VerN
def mtV (lo hi lp hj:ByteArray):ByteArray × ByteArray:=if zcn (lo.data.toList,hi.data.toList) (lp.data.toList,hj.data.toList)=true then (zd0 lo lp,zc1 hi hj) else (⟨#[]⟩,⟨#[]⟩)
theorem if_data (P:Prop) [Decidable P] (x y:ByteArray):(if P then x else y).data.toList=if P then x.data.toList else y.data.toList:=by split <;> rfl
def jnV (lo hi lp hj:ByteArray):ByteArray × ByteArray:=if mayS (lo.data.toList,hi.data.toList)=true∧mayS (lp.data.toList,hj.data.toList)=true then (if lo.size≠0∧lp.size≠0 then zc1 lo lp else ⟨#[]⟩,if hi.size≠0∧hj.size≠0 then zd0 hi hj else ⟨#[]⟩) else (⟨#[]⟩,⟨#[]⟩)
theorem jnV_data (lo hi lp hj:ByteArray):((jnV lo hi lp hj).1.data.toList,(jnV lo hi lp hj).2.data.toList)=zd3 (lo.data.toList,hi.data.toList) (lp.data.toList,hj.data.toList):=by
 unfold jnV zd3
 split
 ·simp only[ne_eq,zc9]
  exact Prod.ext (by rw[← zgd];exact if_data _ _ _) (by rw[← zhp];exact if_data _ _ _)
 rfl
theorem zc5 {a b c d:ByteArray} (h1:a=c) (h2:b=d):Ending.returned (.agg #[.string a,.string b]) = .returned (.agg #[.string c,.string d]):=by rw[h1,h2]
def CutBox (w0:World) (x y:ByteArray) (v:Value) (W:World):Prop:=∃ g,v = .pointer (some ⟨g,0,none⟩)∧W.heap[g]? = some (.cells #[.string x,.string y] 34 (0,0))∧Below w0.heap.size w0 W
theorem meet_any (lo hi lp hj:ByteArray) (hl:lo.size≤1000000) (hh:hi.size≤1000000) (hl2:lp.size≤1000000) (hh2:hj.size≤1000000) {w:World} (hD:zb1 w):Calls Tryz.prog 121 #[.agg #[.string lo,.string hi],.agg #[.string lp,.string hj]] w fun e w'=>e = .returned (.tuple #[.agg #[.string (mtV lo hi lp hj).1,.string (mtV lo hi lp hj).2],.bool (zcn (lo.data.toList,hi.data.toList) (lp.data.toList,hj.data.toList))])∧Below w.heap.size w w':=by
 obtain⟨w0,hW0⟩ : ∃ W0,W0=((w.alloc (.cells #[.string lo,.string hi] 34)).alloc (.cells #[.string lp,.string hj] 34)).alloc (.cells #[.string ⟨#[]⟩,.string ⟨#[]⟩] 34):=⟨_,rfl⟩
 obtain⟨nb,hnb⟩ : ∃ nb,nb=w.heap.size:=⟨_,rfl⟩
 have hw:Below w.heap.size w w0:=by rw[hW0];exact ((za2 _ _).alloc (za2 _ _).size _).alloc ((za2 _ _).alloc (za2 _ _).size _).size _
 have hb0:Below w0.heap.size w0 w0:=Below.refl _ _
 have ha:w0.heap[nb]? = some (.cells #[.string lo,.string hi] 34 (0,0)):=by rw[hW0,hnb];exact pbox3_0 _ _ _ _ _ _ _
 obtain⟨a0,a1,a2,a3⟩:=za4 ha
 have hb:w0.heap[nb+1]? = some (.cells #[.string lp,.string hj] 34 (0,0)):=by rw[hW0,hnb];exact pbox3_1 _ _ _ _ _ _ _
 obtain⟨b0,b1,b2,b3⟩:=za4 hb
 have hr:w0.heap[nb+1+1]? = some (.cells #[.string ⟨#[]⟩,.string ⟨#[]⟩] 34 (0,0)):=by rw[hW0,hnb];exact pbox3_2 _ _ _ _ _ _ _
 obtain⟨r0,r1,r2,r3⟩:=za4 hr
 have hl3:=zfh hl hl2
 have hh3:=ze9 hh hh2
 obtain⟨lt,hlt⟩ : ∃ x,x=zd0 lo lp:=⟨_,rfl⟩
 obtain⟨st,hst⟩ : ∃ x,x=zc1 hi hj:=⟨_,rfl⟩
 rw[← hlt] at hl3
 rw[← hst] at hh3
 have hA:=fun (W:World) (k:Below w0.heap.size w0 W)=>zbf lo hi hl hh (hD.below (zac hw k))
 have hB:=fun (W:World) (k:Below w0.heap.size w0 W)=>zbf lp hj hl2 hh2 (hD.below (zac hw k))
 have hO:=fun (W:World) (k:Below w0.heap.size w0 W)=>zbf lt st hl3 hh3 (hD.below (zac hw k))
 have hL:=fun (W:World) (k:Below w0.heap.size w0 W)=>zlc lo lp hl hl2 (hD.below (zac hw k))
 have hS:=fun (W:World) (k:Below w0.heap.size w0 W)=>zit hi hj hh hh2 (hD.below (zac hw k))
 obtain⟨p,hp⟩ : ∃ x,x=mayS (lo.data.toList,hi.data.toList):=⟨_,rfl⟩
 obtain⟨q,hq⟩ : ∃ x,x=mayS (lp.data.toList,hj.data.toList):=⟨_,rfl⟩
 obtain⟨s,hs⟩ : ∃ x,x=mayS (lt.data.toList,st.data.toList):=⟨_,rfl⟩
 have hok:zcn (lo.data.toList,hi.data.toList) (lp.data.toList,hj.data.toList)=(p && q && s):=by
  unfold zcn meetO
  rw[hp,hq,hs,hlt,hst,zhp,zgd]
 have hval:mtV lo hi lp hj=if (p && q && s)=true then (lt,st) else (⟨#[]⟩,⟨#[]⟩):=by unfold mtV;rw[hok,hlt,hst]
 have hle:w.heap.size≤nb+1+1:=by omega
 rw[← hlt] at hL
 rw[← hst] at hS
 rw[← hp] at hA
 rw[← hq] at hB
 rw[← hs] at hO
 clear hp hq hs hlt hst
 obtain⟨HA,HB,HO,HL,HS,Hok,Hval,Hle,Hw,Hb0,HD,Ha,Hb,Hr⟩:=hd14 hA hB hO hL hS hok hval hle hw hb0 hD ha hb hr;clear hA hB hO hL hS hok hval hle hw hb0 hD ha hb hr
 go_enter Tryz.func121,Tryz.ntmps121
 go_upto_region 1 with (fail)
 rw[← hW0,← hnb]
 clear hW0 hnb
 have hczf:∀ w',Below w0.heap.size w0 w'→w'.cell? ⟨nb,0,none⟩=some (.string lo)∧w'.cell? ⟨nb,1,none⟩=some (.string hi)∧w'.cell? ⟨nb+1,0,none⟩=some (.string lp)∧w'.cell? ⟨nb+1,1,none⟩=some (.string hj):=fun W k=>by
  have h1:=za4 (za0 k Ha.out)
  have h2:=za4 (za0 k Hb.out)
  exact⟨h1.1,h1.2.1,h2.1,h2.2.1⟩
 go_cut [6] (fun x W=>CutBox w0 lt st x W)
 case first =>
  have hbz:=za9 Hb0.out 1
  have hcz:=hczf _ hbz
  have Hcz:=Lib.hid hczf
  clear hczf
  go_region_held3 (fun w'=>w'.cell? ⟨nb,0,none⟩=some (.string lo)∧w'.cell? ⟨nb,1,none⟩=some (.string hi)∧w'.cell? ⟨nb+1,0,none⟩=some (.string lp)∧w'.cell? ⟨nb+1,1,none⟩=some (.string hj)) (first | exact hcz | exact Hcz.out _ (hbz.alloc hbz.size _) | exact Hcz.out _ (zap _ _ hbz hgez) | go_keep) (first
   | (go_at_call 166;refine (HL.out _ (by exact hbz)).mono ?_;rintro e wz ⟨rfl,hsz⟩;(try (replace hgz:=za0 hsz hgz;obtain⟨z0,z1,z2,z3⟩:=za4 hgz));replace hbz:=Below.trans (by exact hbz) (hsz.mono (Below.size (by exact hbz)));replace hcz:=Hcz.out _ hbz)
   | (go_at_call 166;refine (HL.out _ (by exact hbz.alloc hbz.size _)).mono ?_;rintro e wz ⟨rfl,hsz⟩;have hgz:=za0 hsz (heap_alloc_new _ _);have hgez:=hbz.size;obtain⟨z0,z1,z2,z3⟩:=za4 hgz;replace hbz:=Below.trans (by exact hbz.alloc hbz.size _) (hsz.mono (Below.size (by exact hbz.alloc hbz.size _)));replace hcz:=Hcz.out _ hbz)
   | (go_at_call 165;refine (HS.out _ (by exact hbz)).mono ?_;rintro e wz ⟨rfl,hsz⟩;(try (replace hgz:=za0 hsz hgz;obtain⟨z0,z1,z2,z3⟩:=za4 hgz));replace hbz:=Below.trans (by exact hbz) (hsz.mono (Below.size (by exact hbz)));replace hcz:=Hcz.out _ hbz)
   | (go_at_call 165;refine (HS.out _ (by exact hbz.alloc hbz.size _)).mono ?_;rintro e wz ⟨rfl,hsz⟩;have hgz:=za0 hsz (heap_alloc_new _ _);have hgez:=hbz.size;obtain⟨z0,z1,z2,z3⟩:=za4 hgz;replace hbz:=Below.trans (by exact hbz.alloc hbz.size _) (hsz.mono (Below.size (by exact hbz.alloc hbz.size _)));replace hcz:=Hcz.out _ hbz))
  all_goals
   go_wp2_with fail
   go_meet
   first
    | exact⟨_,rfl,heap_alloc_new _ _,hbz.alloc hbz.size _⟩
    | exact⟨_,rfl,zas _ _ hgz,zap _ _ hbz hgez⟩
 case rest =>
  obtain⟨go,rfl,ho,hb1⟩:=hcut
  have ha:=za0 hb1 Ha.out
  have hb:=za0 hb1 Hb.out
  have hr:=za0 hb1 Hr.out
  clear Ha a0 a1 a2 a3 Hb b0 b1 b2 b3 Hr r0 r1 r2 r3 hczf
  obtain⟨a0,a1,a2,a3⟩:=za4 ha
  obtain⟨b0,b1,b2,b3⟩:=za4 hb
  obtain⟨r0,r1,r2,r3⟩:=za4 hr
  obtain⟨o0,o1,o2,o3⟩:=za4 ho
  obtain⟨Hb1,Ha,Hb,Hr,Ho⟩:=hd5 hb1 ha hb hr ho;clear hb1 ha hb hr ho
  go_wp2_with fail
  refine (HA.out _ Hb1.out).mono ?_
  rintro e w2 ⟨rfl,hs⟩
  have hb2:=Hb1.out.trans (hs.mono Hb1.out.size)
  have ha:=za0 hs Ha.out
  clear Ha a0 a1 a2 a3
  obtain⟨a0,a1,a2,a3⟩:=za4 ha
  have hb:=za0 hs Hb.out
  clear Hb b0 b1 b2 b3
  obtain⟨b0,b1,b2,b3⟩:=za4 hb
  have hr:=za0 hs Hr.out
  clear Hr r0 r1 r2 r3
  obtain⟨r0,r1,r2,r3⟩:=za4 hr
  have ho:=za0 hs Ho.out
  clear Ho o0 o1 o2 o3
  obtain⟨o0,o1,o2,o3⟩:=za4 ho
  obtain⟨Hs,Hb2,Ha,Hb,Hr,Ho⟩:=hd6 hs hb2 ha hb hr ho;clear hs hb2 ha hb hr ho
  cases p with
  | false =>
   go_wp2_with fail
   refine zat rfl rfl rfl (zas _ _ Hr.out) rfl ?_
   exact⟨zck (by rw[Hval.out];rfl) (by rw[Hval.out];rfl) (by rw[Hok.out];rfl),zap _ _ (zac Hw.out Hb2.out) Hle.out⟩
  | true =>
   go_wp2_with fail
   refine (HB.out _ Hb2.out).mono ?_
   rintro e w3 ⟨rfl,hs⟩
   have hb3:=Hb2.out.trans (hs.mono Hb2.out.size)
   have ha:=za0 hs Ha.out
   clear Ha a0 a1 a2 a3
   obtain⟨a0,a1,a2,a3⟩:=za4 ha
   have hb:=za0 hs Hb.out
   clear Hb b0 b1 b2 b3
   obtain⟨b0,b1,b2,b3⟩:=za4 hb
   have hr:=za0 hs Hr.out
   clear Hr r0 r1 r2 r3
   obtain⟨r0,r1,r2,r3⟩:=za4 hr
   have ho:=za0 hs Ho.out
   clear Ho o0 o1 o2 o3
   obtain⟨o0,o1,o2,o3⟩:=za4 ho
   obtain⟨Hs,Hb3,Ha,Hb,Hr,Ho⟩:=hd6 hs hb3 ha hb hr ho;clear hs hb3 ha hb hr ho
   cases q with
   | false =>
    go_wp2_with fail
    refine zat rfl rfl rfl (zas _ _ Hr.out) rfl ?_
    exact⟨zck (by rw[Hval.out];rfl) (by rw[Hval.out];rfl) (by rw[Hok.out];rfl),zap _ _ (zac Hw.out Hb3.out) Hle.out⟩
   | true =>
    go_wp2_with fail
    refine (HO.out _ Hb3.out).mono ?_
    rintro e w4 ⟨rfl,hs⟩
    have hb4:=Hb3.out.trans (hs.mono Hb3.out.size)
    have ha:=za0 hs Ha.out
    clear Ha a0 a1 a2 a3
    obtain⟨a0,a1,a2,a3⟩:=za4 ha
    have hb:=za0 hs Hb.out
    clear Hb b0 b1 b2 b3
    obtain⟨b0,b1,b2,b3⟩:=za4 hb
    have hr:=za0 hs Hr.out
    clear Hr r0 r1 r2 r3
    obtain⟨r0,r1,r2,r3⟩:=za4 hr
    have ho:=za0 hs Ho.out
    clear Ho o0 o1 o2 o3
    obtain⟨o0,o1,o2,o3⟩:=za4 ho
    obtain⟨Hs,Hb4,Ha,Hb,Hr,Ho⟩:=hd6 hs hb4 ha hb hr ho;clear hs hb4 ha hb hr ho
    cases s with
    | false =>
     go_wp2_with fail
     refine zat rfl rfl rfl (zas _ _ Hr.out) rfl ?_
     exact⟨zck (by rw[Hval.out];rfl) (by rw[Hval.out];rfl) (by rw[Hok.out];rfl),zap _ _ (zac Hw.out Hb4.out) Hle.out⟩
    | true =>
     go_wp2_with fail
     refine zat rfl rfl rfl (zas _ _ Hr.out) rfl ?_
     exact⟨zck (by rw[Hval.out];rfl) (by rw[Hval.out];rfl) (by rw[Hok.out];rfl),zap _ _ (zac Hw.out Hb4.out) Hle.out⟩
theorem zld (lo hi lp hj:ByteArray) (hl:lo.size≤1000000) (hh:hi.size≤1000000) (hl2:lp.size≤1000000) (hh2:hj.size≤1000000) {w:World} (hD:zb1 w):Calls Tryz.prog 108 #[.agg #[.string lo,.string hi],.agg #[.string lp,.string hj]] w fun e w'=>e = .returned (.bool (zcn (lo.data.toList,hi.data.toList) (lp.data.toList,hj.data.toList)))∧Below w.heap.size w w':=by
 obtain⟨w0,hW0⟩ : ∃ W0,W0=(w.alloc (.cells #[.string lo,.string hi] 34)).alloc (.cells #[.string lp,.string hj] 34):=⟨_,rfl⟩
 obtain⟨nb,hnb⟩ : ∃ nb,nb=w.heap.size:=⟨_,rfl⟩
 have hw:Below w.heap.size w w0:=by rw[hW0];exact (za2 _ _).alloc (za2 _ _).size _
 have hb0:Below w0.heap.size w0 w0:=Below.refl _ _
 have ha:w0.heap[nb]? = some (.cells #[.string lo,.string hi] 34 (0,0)):=by rw[hW0,hnb];exact zmp _ _ _ _ _
 obtain⟨a0,a1,a2,a3⟩:=za4 ha
 have hb:w0.heap[nb+1]? = some (.cells #[.string lp,.string hj] 34 (0,0)):=by rw[hW0,hnb];exact zmo _ _ _ _ _
 obtain⟨b0,b1,b2,b3⟩:=za4 hb
 have hA:=fun (W:World) (k:Below w0.heap.size w0 W)=>meet_any lo hi lp hj hl hh hl2 hh2 (hD.below (zac hw k))
 obtain⟨p,hp⟩ : ∃ x,x=zcn (lo.data.toList,hi.data.toList) (lp.data.toList,hj.data.toList):=⟨_,rfl⟩
 obtain⟨v,hv⟩ : ∃ x,x=mtV lo hi lp hj:=⟨_,rfl⟩
 rw[← hp]
 rw[← hp,← hv] at hA
 clear hp hv hD
 obtain⟨HA,Hw,Hb0,Ha,Hb⟩:=hd5 hA hw hb0 ha hb;clear hA hw hb0 ha hb
 go_enter Tryz.func108,Tryz.ntmps108
 go_upto_region 1 with (fail)
 rw[← hW0,← hnb]
 clear hW0 hnb
 go_wp2_with fail
 refine (HA.out _ Hb0.out).mono ?_
 rintro e w1 ⟨rfl,hs⟩
 have hb1:=Hb0.out.trans (hs.mono Hb0.out.size)
 have ha:=za0 hs Ha.out
 clear Ha a0 a1 a2 a3
 obtain⟨a0,a1,a2,a3⟩:=za4 ha
 have hb:=za0 hs Hb.out
 clear Hb b0 b1 b2 b3
 obtain⟨b0,b1,b2,b3⟩:=za4 hb
 obtain⟨Hs,Hb1,Ha,Hb⟩:=hd4 hs hb1 ha hb;clear hs hb1 ha hb
 go_wp2_with fail
 go_ret
 exact⟨rfl,zac Hw.out (Hb1.out.alloc Hb1.out.size _)⟩
theorem zob (lo hi lp hj:ByteArray) (hl:lo.size≤1000000) (hh:hi.size≤1000000) (hl2:lp.size≤1000000) (hh2:hj.size≤1000000) {w:World} (hD:zb1 w):Calls Tryz.prog 109 #[.agg #[.string lo,.string hi],.agg #[.string lp,.string hj]] w fun e w'=>e = .returned (.agg #[.string (jnV lo hi lp hj).1,.string (jnV lo hi lp hj).2])∧Below w.heap.size w w':=by
 obtain⟨w0,hW0⟩ : ∃ W0,W0=((w.alloc (.cells #[.string lo,.string hi] 34)).alloc (.cells #[.string lp,.string hj] 34)).alloc (.cells #[.string ⟨#[]⟩,.string ⟨#[]⟩] 34):=⟨_,rfl⟩
 obtain⟨nb,hnb⟩ : ∃ nb,nb=w.heap.size:=⟨_,rfl⟩
 have hw:Below w.heap.size w w0:=by rw[hW0];exact ((za2 _ _).alloc (za2 _ _).size _).alloc ((za2 _ _).alloc (za2 _ _).size _).size _
 have hb0:Below w0.heap.size w0 w0:=Below.refl _ _
 have ha:w0.heap[nb]? = some (.cells #[.string lo,.string hi] 34 (0,0)):=by rw[hW0,hnb];exact pbox3_0 _ _ _ _ _ _ _
 obtain⟨a0,a1,a2,a3⟩:=za4 ha
 have hb:w0.heap[nb+1]? = some (.cells #[.string lp,.string hj] 34 (0,0)):=by rw[hW0,hnb];exact pbox3_1 _ _ _ _ _ _ _
 obtain⟨b0,b1,b2,b3⟩:=za4 hb
 have hr:w0.heap[nb+1+1]? = some (.cells #[.string ⟨#[]⟩,.string ⟨#[]⟩] 34 (0,0)):=by rw[hW0,hnb];exact pbox3_2 _ _ _ _ _ _ _
 obtain⟨r0,r1,r2,r3⟩:=za4 hr
 have hA:=fun (W:World) (k:Below w0.heap.size w0 W)=>zbf lo hi hl hh (hD.below (zac hw k))
 have hB:=fun (W:World) (k:Below w0.heap.size w0 W)=>zbf lp hj hl2 hh2 (hD.below (zac hw k))
 have hS:=fun (W:World) (k:Below w0.heap.size w0 W)=>zit lo lp hl hl2 (hD.below (zac hw k))
 have hL:=fun (W:World) (k:Below w0.heap.size w0 W)=>zlc hi hj hh hh2 (hD.below (zac hw k))
 obtain⟨lt,hlt⟩ : ∃ x,x=zd0 hi hj:=⟨_,rfl⟩
 obtain⟨st,hst⟩ : ∃ x,x=zc1 lo lp:=⟨_,rfl⟩
 obtain⟨p,hp⟩ : ∃ x,x=mayS (lo.data.toList,hi.data.toList):=⟨_,rfl⟩
 obtain⟨q,hq⟩ : ∃ x,x=mayS (lp.data.toList,hj.data.toList):=⟨_,rfl⟩
 obtain⟨d1,k1⟩ : ∃ x,lo.toList.isEmpty=x:=⟨_,rfl⟩
 obtain⟨d2,k2⟩ : ∃ x,lp.toList.isEmpty=x:=⟨_,rfl⟩
 obtain⟨d3,k3⟩ : ∃ x,hi.toList.isEmpty=x:=⟨_,rfl⟩
 obtain⟨d4,k4⟩ : ∃ x,hj.toList.isEmpty=x:=⟨_,rfl⟩
 have hval:jnV lo hi lp hj=if p=true∧q=true then (if d1=false∧d2=false then st else ⟨#[]⟩,if d3=false∧d4=false then lt else ⟨#[]⟩) else (⟨#[]⟩,⟨#[]⟩):=by
  unfold jnV
  rw[← hp,← hq,← hlt,← hst]
  simp only[← k1,← k2,← k3,← k4,Txt.no_dec,decide_eq_false_iff_not,ne_eq]
 have hle:w.heap.size≤nb+1+1:=by omega
 rw[← hlt] at hL
 rw[← hst] at hS
 rw[← hp] at hA
 rw[← hq] at hB
 clear hp hq hlt hst hD
 obtain⟨HA,HB,HL,HS,Hval,Hle,Hw,Hb0,Ha,Hb,Hr⟩:=hd11 hA hB hL hS hval hle hw hb0 ha hb hr;clear hA hB hL hS hval hle hw hb0 ha hb hr
 go_enter Tryz.func109,Tryz.ntmps109
 go_upto_region 1 with (fail)
 rw[← hW0,← hnb]
 clear hW0 hnb
 go_wp2_with fail
 refine (HA.out _ Hb0.out).mono ?_
 rintro e w1 ⟨rfl,hs⟩
 have hb1:=Hb0.out.trans (hs.mono Hb0.out.size)
 have ha:=za0 hs Ha.out
 clear Ha a0 a1 a2 a3
 obtain⟨a0,a1,a2,a3⟩:=za4 ha
 have hb:=za0 hs Hb.out
 clear Hb b0 b1 b2 b3
 obtain⟨b0,b1,b2,b3⟩:=za4 hb
 have hr:=za0 hs Hr.out
 clear Hr r0 r1 r2 r3
 obtain⟨r0,r1,r2,r3⟩:=za4 hr
 obtain⟨Hs,Hb1,Ha,Hb,Hr⟩:=hd5 hs hb1 ha hb hr;clear hs hb1 ha hb hr
 cases p with
 | false =>
  go_wp2_with fail
  refine zar rfl rfl (zas _ _ Hr.out) rfl ?_
  exact⟨zc5 (by rw[Hval.out];rfl) (by rw[Hval.out];rfl),zap _ _ (zac Hw.out Hb1.out) Hle.out⟩
 | true =>
  go_wp2_with fail
  refine (HB.out _ Hb1.out).mono ?_
  rintro e w2 ⟨rfl,hs⟩
  have hb2:=Hb1.out.trans (hs.mono Hb1.out.size)
  have ha:=za0 hs Ha.out
  clear Ha a0 a1 a2 a3
  obtain⟨a0,a1,a2,a3⟩:=za4 ha
  have hb:=za0 hs Hb.out
  clear Hb b0 b1 b2 b3
  obtain⟨b0,b1,b2,b3⟩:=za4 hb
  have hr:=za0 hs Hr.out
  clear Hr r0 r1 r2 r3
  obtain⟨r0,r1,r2,r3⟩:=za4 hr
  obtain⟨Hs,Hb2,Ha,Hb,Hr⟩:=hd5 hs hb2 ha hb hr;clear hs hb2 ha hb hr
  cases q with
  | false =>
   go_wp2_with fail
   refine zar rfl rfl (zas _ _ Hr.out) rfl ?_
   exact⟨zc5 (by rw[Hval.out];rfl) (by rw[Hval.out];rfl),zap _ _ (zac Hw.out Hb2.out) Hle.out⟩
  | true =>
   go_upto_region 4 with (fail)
   obtain⟨w3,hv⟩ : ∃ W,W=w2.alloc (.cells #[.string ⟨#[]⟩,.string ⟨#[]⟩] 34):=⟨_,rfl⟩
   obtain⟨go,hg⟩ : ∃ g,g=w2.heap.size:=⟨_,rfl⟩
   have hs:Below w2.heap.size w2 w3:=by rw[hv];exact za2 _ _
   have hb3:=Hb2.out.trans (hs.mono Hb2.out.size)
   have hgeo:w0.heap.size≤go:=by rw[hg];exact Hb2.out.size
   have hneao:nb≠go:=by have:=(Array.getElem?_eq_some_iff.1 Ha.out).1;omega
   have hnebo:nb+1≠go:=by have:=(Array.getElem?_eq_some_iff.1 Hb.out).1;omega
   have hnero:nb+1+1≠go:=by have:=(Array.getElem?_eq_some_iff.1 Hr.out).1;omega
   have ha:=za0 hs Ha.out
   clear Ha a0 a1 a2 a3
   obtain⟨a0,a1,a2,a3⟩:=za4 ha
   have hb:=za0 hs Hb.out
   clear Hb b0 b1 b2 b3
   obtain⟨b0,b1,b2,b3⟩:=za4 hb
   have hr:=za0 hs Hr.out
   clear Hr r0 r1 r2 r3
   obtain⟨r0,r1,r2,r3⟩:=za4 hr
   have ho:w3.heap[go]? = some (.cells #[.string ⟨#[]⟩,.string ⟨#[]⟩] 34 (0,0)):=by rw[hv,hg];exact heap_alloc_new _ _
   obtain⟨o0,o1,o2,o3⟩:=za4 ho
   rw[← hv,← hg]
   clear hv hg
   obtain⟨Hs,Hb3,Hgeo,Ha,Hb,Hr,Ho,Hneao,Hnebo,Hnero⟩:=hd10 hs hb3 hgeo ha hb hr ho hneao hnebo hnero;clear hs hb3 hgeo ha hb hr ho hneao hnebo hnero
   cases d1 with
   | false =>
    cases d2 with
    | false =>
     go_wp2_with fail
     refine (HS.out _ Hb3.out).mono ?_
     rintro e w4 ⟨rfl,hs⟩
     have hb4:=Hb3.out.trans (hs.mono Hb3.out.size)
     have ha:=za0 hs Ha.out
     clear Ha a0 a1 a2 a3
     obtain⟨a0,a1,a2,a3⟩:=za4 ha
     have hb:=za0 hs Hb.out
     clear Hb b0 b1 b2 b3
     obtain⟨b0,b1,b2,b3⟩:=za4 hb
     have hr:=za0 hs Hr.out
     clear Hr r0 r1 r2 r3
     obtain⟨r0,r1,r2,r3⟩:=za4 hr
     have ho:=za0 hs Ho.out
     clear Ho o0 o1 o2 o3
     obtain⟨o0,o1,o2,o3⟩:=za4 ho
     obtain⟨Hs,Hb4,Ha,Hb,Hr,Ho⟩:=hd6 hs hb4 ha hb hr ho;clear hs hb4 ha hb hr ho
     go_upto_region 6 with (fail)
     obtain⟨w5,hv⟩ : ∃ W,W=w4.setCell ⟨go,0,none⟩ (.string st):=⟨_,rfl⟩
     have hb5:Below w0.heap.size w0 w5:=by rw[hv];exact Hb4.out.setCell (p:=⟨go,0,none⟩) Hgeo.out _
     have ha:w5.heap[nb]? = some (.cells #[.string lo,.string hi] 34 (0,0)):=by rw[hv,Below.heap_setCell _ _ _ _ Hneao.out];exact Ha.out
     clear Ha a0 a1 a2 a3
     obtain⟨a0,a1,a2,a3⟩:=za4 ha
     have hb:w5.heap[nb+1]? = some (.cells #[.string lp,.string hj] 34 (0,0)):=by rw[hv,Below.heap_setCell _ _ _ _ Hnebo.out];exact Hb.out
     clear Hb b0 b1 b2 b3
     obtain⟨b0,b1,b2,b3⟩:=za4 hb
     have hr:w5.heap[nb+1+1]? = some (.cells #[.string ⟨#[]⟩,.string ⟨#[]⟩] 34 (0,0)):=by rw[hv,Below.heap_setCell _ _ _ _ Hnero.out];exact Hr.out
     clear Hr r0 r1 r2 r3
     obtain⟨r0,r1,r2,r3⟩:=za4 hr
     have ho:w5.heap[go]? = some (.cells #[.string st,.string ⟨#[]⟩] 34 (0,0)):=by rw[hv];exact heap_setCell_same _ go 0 _ _ _ Ho.out
     clear Ho o0 o1 o2 o3
     obtain⟨o0,o1,o2,o3⟩:=za4 ho
     rw[← hv]
     clear hv
     obtain⟨Hb5,Ha,Hb,Hr,Ho⟩:=hd5 hb5 ha hb hr ho;clear hb5 ha hb hr ho
     cases d3 with
     | false =>
      cases d4 with
      | false =>
       go_wp2_with fail
       refine (HL.out _ Hb5.out).mono ?_
       rintro e w6 ⟨rfl,hs⟩
       have hb6:=Hb5.out.trans (hs.mono Hb5.out.size)
       have ha:=za0 hs Ha.out
       clear Ha a0 a1 a2 a3
       obtain⟨a0,a1,a2,a3⟩:=za4 ha
       have hb:=za0 hs Hb.out
       clear Hb b0 b1 b2 b3
       obtain⟨b0,b1,b2,b3⟩:=za4 hb
       have hr:=za0 hs Hr.out
       clear Hr r0 r1 r2 r3
       obtain⟨r0,r1,r2,r3⟩:=za4 hr
       have ho:=za0 hs Ho.out
       clear Ho o0 o1 o2 o3
       obtain⟨o0,o1,o2,o3⟩:=za4 ho
       obtain⟨Hs,Hb6,Ha,Hb,Hr,Ho⟩:=hd6 hs hb6 ha hb hr ho;clear hs hb6 ha hb hr ho
       go_upto_region 8 with (fail)
       obtain⟨w7,hv⟩ : ∃ W,W=w6.setCell ⟨go,1,none⟩ (.string lt):=⟨_,rfl⟩
       have hb7:Below w0.heap.size w0 w7:=by rw[hv];exact Hb6.out.setCell (p:=⟨go,1,none⟩) Hgeo.out _
       have ha:w7.heap[nb]? = some (.cells #[.string lo,.string hi] 34 (0,0)):=by rw[hv,Below.heap_setCell _ _ _ _ Hneao.out];exact Ha.out
       clear Ha a0 a1 a2 a3
       obtain⟨a0,a1,a2,a3⟩:=za4 ha
       have hb:w7.heap[nb+1]? = some (.cells #[.string lp,.string hj] 34 (0,0)):=by rw[hv,Below.heap_setCell _ _ _ _ Hnebo.out];exact Hb.out
       clear Hb b0 b1 b2 b3
       obtain⟨b0,b1,b2,b3⟩:=za4 hb
       have hr:w7.heap[nb+1+1]? = some (.cells #[.string ⟨#[]⟩,.string ⟨#[]⟩] 34 (0,0)):=by rw[hv,Below.heap_setCell _ _ _ _ Hnero.out];exact Hr.out
       clear Hr r0 r1 r2 r3
       obtain⟨r0,r1,r2,r3⟩:=za4 hr
       have ho:w7.heap[go]? = some (.cells #[.string st,.string lt] 34 (0,0)):=by rw[hv];exact heap_setCell_same _ go 1 _ _ _ Ho.out
       clear Ho o0 o1 o2 o3
       obtain⟨o0,o1,o2,o3⟩:=za4 ho
       rw[← hv]
       clear hv
       obtain⟨Hb7,Ha,Hb,Hr,Ho⟩:=hd5 hb7 ha hb hr ho;clear hb7 ha hb hr ho
       go_wp2_with fail
       refine zar rfl rfl (zas _ _ Hr.out) rfl ?_
       exact⟨zc5 (by rw[Hval.out];rfl) (by rw[Hval.out];rfl),zap _ _ (zac Hw.out Hb7.out) Hle.out⟩
      | true =>
       go_wp2_with fail
       refine zar rfl rfl (zas _ _ Hr.out) rfl ?_
       exact⟨zc5 (by rw[Hval.out];rfl) (by rw[Hval.out];rfl),zap _ _ (zac Hw.out Hb5.out) Hle.out⟩
     | true =>
      go_wp2_with fail
      refine zar rfl rfl (zas _ _ Hr.out) rfl ?_
      exact⟨zc5 (by rw[Hval.out];rfl) (by rw[Hval.out];rfl),zap _ _ (zac Hw.out Hb5.out) Hle.out⟩
    | true =>
     cases d3 with
     | false =>
      cases d4 with
      | false =>
       go_wp2_with fail
       refine (HL.out _ Hb3.out).mono ?_
       rintro e w4 ⟨rfl,hs⟩
       have hb4:=Hb3.out.trans (hs.mono Hb3.out.size)
       have ha:=za0 hs Ha.out
       clear Ha a0 a1 a2 a3
       obtain⟨a0,a1,a2,a3⟩:=za4 ha
       have hb:=za0 hs Hb.out
       clear Hb b0 b1 b2 b3
       obtain⟨b0,b1,b2,b3⟩:=za4 hb
       have hr:=za0 hs Hr.out
       clear Hr r0 r1 r2 r3
       obtain⟨r0,r1,r2,r3⟩:=za4 hr
       have ho:=za0 hs Ho.out
       clear Ho o0 o1 o2 o3
       obtain⟨o0,o1,o2,o3⟩:=za4 ho
       obtain⟨Hs,Hb4,Ha,Hb,Hr,Ho⟩:=hd6 hs hb4 ha hb hr ho;clear hs hb4 ha hb hr ho
       go_upto_region 8 with (fail)
       obtain⟨w5,hv⟩ : ∃ W,W=w4.setCell ⟨go,1,none⟩ (.string lt):=⟨_,rfl⟩
       have hb5:Below w0.heap.size w0 w5:=by rw[hv];exact Hb4.out.setCell (p:=⟨go,1,none⟩) Hgeo.out _
       have ha:w5.heap[nb]? = some (.cells #[.string lo,.string hi] 34 (0,0)):=by rw[hv,Below.heap_setCell _ _ _ _ Hneao.out];exact Ha.out
       clear Ha a0 a1 a2 a3
       obtain⟨a0,a1,a2,a3⟩:=za4 ha
       have hb:w5.heap[nb+1]? = some (.cells #[.string lp,.string hj] 34 (0,0)):=by rw[hv,Below.heap_setCell _ _ _ _ Hnebo.out];exact Hb.out
       clear Hb b0 b1 b2 b3
       obtain⟨b0,b1,b2,b3⟩:=za4 hb
       have hr:w5.heap[nb+1+1]? = some (.cells #[.string ⟨#[]⟩,.string ⟨#[]⟩] 34 (0,0)):=by rw[hv,Below.heap_setCell _ _ _ _ Hnero.out];exact Hr.out
       clear Hr r0 r1 r2 r3
       obtain⟨r0,r1,r2,r3⟩:=za4 hr
       have ho:w5.heap[go]? = some (.cells #[.string ⟨#[]⟩,.string lt] 34 (0,0)):=by rw[hv];exact heap_setCell_same _ go 1 _ _ _ Ho.out
       clear Ho o0 o1 o2 o3
       obtain⟨o0,o1,o2,o3⟩:=za4 ho
       rw[← hv]
       clear hv
       obtain⟨Hb5,Ha,Hb,Hr,Ho⟩:=hd5 hb5 ha hb hr ho;clear hb5 ha hb hr ho
       go_wp2_with fail
       refine zar rfl rfl (zas _ _ Hr.out) rfl ?_
       exact⟨zc5 (by rw[Hval.out];rfl) (by rw[Hval.out];rfl),zap _ _ (zac Hw.out Hb5.out) Hle.out⟩
      | true =>
       go_wp2_with fail
       refine zar rfl rfl (zas _ _ Hr.out) rfl ?_
       exact⟨zc5 (by rw[Hval.out];rfl) (by rw[Hval.out];rfl),zap _ _ (zac Hw.out Hb3.out) Hle.out⟩
     | true =>
      go_wp2_with fail
      refine zar rfl rfl (zas _ _ Hr.out) rfl ?_
      exact⟨zc5 (by rw[Hval.out];rfl) (by rw[Hval.out];rfl),zap _ _ (zac Hw.out Hb3.out) Hle.out⟩
   | true =>
    cases d3 with
    | false =>
     cases d4 with
     | false =>
      go_wp2_with fail
      refine (HL.out _ Hb3.out).mono ?_
      rintro e w4 ⟨rfl,hs⟩
      have hb4:=Hb3.out.trans (hs.mono Hb3.out.size)
      have ha:=za0 hs Ha.out
      clear Ha a0 a1 a2 a3
      obtain⟨a0,a1,a2,a3⟩:=za4 ha
      have hb:=za0 hs Hb.out
      clear Hb b0 b1 b2 b3
      obtain⟨b0,b1,b2,b3⟩:=za4 hb
      have hr:=za0 hs Hr.out
      clear Hr r0 r1 r2 r3
      obtain⟨r0,r1,r2,r3⟩:=za4 hr
      have ho:=za0 hs Ho.out
      clear Ho o0 o1 o2 o3
      obtain⟨o0,o1,o2,o3⟩:=za4 ho
      obtain⟨Hs,Hb4,Ha,Hb,Hr,Ho⟩:=hd6 hs hb4 ha hb hr ho;clear hs hb4 ha hb hr ho
      go_upto_region 8 with (fail)
      obtain⟨w5,hv⟩ : ∃ W,W=w4.setCell ⟨go,1,none⟩ (.string lt):=⟨_,rfl⟩
      have hb5:Below w0.heap.size w0 w5:=by rw[hv];exact Hb4.out.setCell (p:=⟨go,1,none⟩) Hgeo.out _
      have ha:w5.heap[nb]? = some (.cells #[.string lo,.string hi] 34 (0,0)):=by rw[hv,Below.heap_setCell _ _ _ _ Hneao.out];exact Ha.out
      clear Ha a0 a1 a2 a3
      obtain⟨a0,a1,a2,a3⟩:=za4 ha
      have hb:w5.heap[nb+1]? = some (.cells #[.string lp,.string hj] 34 (0,0)):=by rw[hv,Below.heap_setCell _ _ _ _ Hnebo.out];exact Hb.out
      clear Hb b0 b1 b2 b3
      obtain⟨b0,b1,b2,b3⟩:=za4 hb
      have hr:w5.heap[nb+1+1]? = some (.cells #[.string ⟨#[]⟩,.string ⟨#[]⟩] 34 (0,0)):=by rw[hv,Below.heap_setCell _ _ _ _ Hnero.out];exact Hr.out
      clear Hr r0 r1 r2 r3
      obtain⟨r0,r1,r2,r3⟩:=za4 hr
      have ho:w5.heap[go]? = some (.cells #[.string ⟨#[]⟩,.string lt] 34 (0,0)):=by rw[hv];exact heap_setCell_same _ go 1 _ _ _ Ho.out
      clear Ho o0 o1 o2 o3
      obtain⟨o0,o1,o2,o3⟩:=za4 ho
      rw[← hv]
      clear hv
      obtain⟨Hb5,Ha,Hb,Hr,Ho⟩:=hd5 hb5 ha hb hr ho;clear hb5 ha hb hr ho
      go_wp2_with fail
      refine zar rfl rfl (zas _ _ Hr.out) rfl ?_
      exact⟨zc5 (by rw[Hval.out];rfl) (by rw[Hval.out];rfl),zap _ _ (zac Hw.out Hb5.out) Hle.out⟩
     | true =>
      go_wp2_with fail
      refine zar rfl rfl (zas _ _ Hr.out) rfl ?_
      exact⟨zc5 (by rw[Hval.out];rfl) (by rw[Hval.out];rfl),zap _ _ (zac Hw.out Hb3.out) Hle.out⟩
    | true =>
     go_wp2_with fail
     refine zar rfl rfl (zas _ _ Hr.out) rfl ?_
     exact⟨zc5 (by rw[Hval.out];rfl) (by rw[Hval.out];rfl),zap _ _ (zac Hw.out Hb3.out) Hle.out⟩
end

namespace StbA
open Go.Sort Go.Proofs.YteailgjiifdgcaaGreatDoor.SortM
variable {α : Type}
theorem set_mid (p q:List α) (x y:α) (i:Nat) (hi:i=p.length):(p ++ x :: q).set i y=p ++ y :: q:=by subst hi;simp
def RInv (tgt:List α) (m i j:Nat) (d:Array α):Prop:=∃ p u v q,d.toList=p ++ u ++ v ++ q∧u.length=i∧v.length=j∧p.length+i=m∧tgt=p ++ v ++ u ++ q
theorem RInv.start {d:Array α} {p u v q:List α} (h:d.toList=p ++ u ++ v ++ q) {m i j:Nat} (hi:i=u.length) (hj:j=v.length) (hm:m=p.length+u.length):RInv (p ++ v ++ u ++ q) m i j d:=⟨p,u,v,q,h,hi.symm,hj.symm,by omega,rfl⟩
theorem RInv.size {tgt:List α} {m i j:Nat} {d:Array α} (h:RInv tgt m i j d):d.size=tgt.length:=by
 obtain⟨p,u,v,q,h1,_,_,_,h5⟩:=h
 rw[← Array.length_toList,h1,h5];simp;omega
theorem RInv.le {tgt:List α} {m i j:Nat} {d:Array α} (h:RInv tgt m i j d):i≤m∧m+j≤d.size:=by
 obtain⟨p,u,v,q,h1,h2,h3,h4,h5⟩:=h
 rw[← Array.length_toList,h1];simp;omega
theorem swo_of {lt:α→α→Bool} (h:Swo lt):SWO lt:=⟨zht h,fun x y z h1 h2=>by
  cases e:lt x z
  ·have:=h.ntrans y z x (h.asymm _ _ h2) e
   rw[h1] at this;cases this
  rfl,fun x y z h1 h2=>h.ntrans z y x h2 h1⟩
variable [Inhabited α]
theorem zj4 {d:Array α} {p q:List α} {x:α} (h:d.toList=p ++ x :: q) {i:Nat} (hi:i=p.length):d[i]! = x:=by
 subst hi
 have hl:p.length < d.size:=by rw[← Array.length_toList,h];simp
 rw[getElem!_pos d _ hl,← Array.getElem_toList]
 simp[h]
theorem zg1 (d:Array α) (i j:Nat):(swp d i j).toList=(d.toList.set i d[j]!).set j d[i]!:=by simp[swp]
theorem zh3 {d:Array α} {p m q:List α} {x y:α} (h:d.toList=p ++ x :: (m ++ y :: q)) {i j:Nat} (hi:i=p.length) (hj:j=p.length+1+m.length):(swp d i j).toList=p ++ y :: (m ++ x :: q):=by
 have h1:d[i]! = x:=zj4 h hi
 have h2:d[j]! = y:=zj4 (p:=p ++ x :: m) (q:=q) (by rw[h];simp) (by simp;omega)
 rw[zg1,h1,h2,h,set_mid p _ x y i hi]
 have e:p ++ y :: (m ++ y :: q)=(p ++ y :: m) ++ y :: q:=by simp
 rw[e,set_mid _ _ _ _ _ (by simp;omega)]
 simp
theorem swp_comm (d:Array α) (i j:Nat):swp d i j=swp d j i:=by
 apply Array.ext'
 rw[zg1,zg1]
 by_cases h:i=j
 ·subst h;rfl
 exact List.set_comm _ _ h
theorem swp_split' {d:Array α} {p m q:List α} {x y:α} (h:d.toList=p ++ x :: (m ++ y :: q)) {i j:Nat} (hi:i=p.length) (hj:j=p.length+1+m.length):(swp d j i).toList=p ++ y :: (m ++ x :: q):=by
 rw[swp_comm];exact zh3 h hi hj
def swr (d:Array α) (a b:Nat):Nat→Array α
 | 0=>d
 | i+1=>swp (swr d a b i) (a+i) (b+i)
theorem size_swr (d:Array α) (a b n:Nat):(swr d a b n).size=d.size:=by
 induction n with
 | zero=>rfl
 | succ n ih=>rw[swr,size_swp,ih]
theorem swr_rev (d:Array α):∀ (x y p m q:List α),x.length=y.length→d.toList=p ++ x.reverse ++ m ++ y.reverse ++ q→(swr d p.length (p.length+x.length+m.length) x.length).toList=p ++ y.reverse ++ m ++ x.reverse ++ q:=by
 intro x
 induction x with
 | nil =>
  intro y p m q hl h
  obtain rfl:y = []:=List.eq_nil_of_length_eq_zero hl.symm
  exact h
 | cons u x ih =>
  intro y p m q hl h
  match y with
  | [] => simp at hl
  | v :: y =>
   have hl':x.length=y.length:=by simpa using hl
   have h1:=ih y p (u :: m) (v :: q) hl' (by rw[h];simp)
   have e:p.length+(u :: x).length+m.length=p.length+x.length+(u :: m).length:=by simp;omega
   rw[e,show (u :: x).length=x.length+1 from rfl,swr]
   have h2:=zh3 (d:=swr d p.length (p.length+x.length+(u :: m).length) x.length) (p:=p ++ y.reverse) (m:=m ++ x.reverse) (q:=q) (x:=u) (y:=v) (by rw[h1];simp) (i:=p.length+x.length) (j:=p.length+x.length+(u :: m).length+x.length) (by simp;omega) (by simp;omega)
   rw[h2];simp
theorem zh2 {d:Array α} {p x m y q:List α} (hl:x.length=y.length) (h:d.toList=p ++ x ++ m ++ y ++ q) {a b n:Nat} (ha:a=p.length) (hb:b=p.length+x.length+m.length) (hn:n=x.length):(swr d a b n).toList=p ++ y ++ m ++ x ++ q:=by
 subst ha hb hn
 have:=swr_rev d x.reverse y.reverse p m q (by simpa using hl) (by simpa using h)
 simpa using this
theorem RInv.gt {tgt:List α} {m i j:Nat} {d:Array α} (h:RInv tgt m i j d) (hij:j < i):RInv tgt m (i - j) j (swr d (m - i) m j):=by
 obtain⟨p,u,v,q,h1,h2,h3,h4,h5⟩:=h
 have hu:u=u.take j ++ u.drop j:=(List.take_append_drop _ _).symm
 have hx:(u.take j).length=j:=by simp;omega
 have hy:(u.drop j).length=i - j:=by simp;omega
 generalize u.take j=x at hu hx
 generalize u.drop j=y at hu hy
 subst hu
 refine⟨p ++ v,y,x,q,?_,hy,hx,by simp;omega,by rw[h5];simp⟩
 have:=zh2 (d:=d) (p:=p) (x:=x) (m:=y) (y:=v) (q:=q) (by omega) (by rw[h1];simp) (a:=m - i) (b:=m) (n:=j) (by omega) (by simp at h2;omega) hx.symm
 rw[this]
theorem RInv.lt {tgt:List α} {m i j:Nat} {d:Array α} (h:RInv tgt m i j d) (hij:i < j):RInv tgt m i (j - i) (swr d (m - i) (m+j - i) i):=by
 obtain⟨p,u,v,q,h1,h2,h3,h4,h5⟩:=h
 have hv:v=v.take (j - i) ++ v.drop (j - i):=(List.take_append_drop _ _).symm
 have hx:(v.take (j - i)).length=j - i:=by simp;omega
 have hy:(v.drop (j - i)).length=i:=by simp;omega
 generalize v.take (j - i)=x at hv hx
 generalize v.drop (j - i)=y at hv hy
 subst hv
 refine⟨p,y,x,u ++ q,?_,hy,hx,by omega,by rw[h5];simp⟩
 have:=zh2 (d:=d) (p:=p) (x:=u) (m:=x) (y:=y) (q:=q) (by omega) (by rw[h1];simp) (a:=m - i) (b:=m+j - i) (n:=i) (by omega) (by omega) h2.symm
 rw[this];simp
theorem RInv.eq {tgt:List α} {m i:Nat} {d:Array α} (h:RInv tgt m i i d):(swr d (m - i) m i).toList=tgt:=by
 obtain⟨p,u,v,q,h1,h2,h3,h4,h5⟩:=h
 rw[h5]
 have:=zh2 (d:=d) (p:=p) (x:=u) (m:=[]) (y:=v) (q:=q) (by omega) (by rw[h1];simp) (a:=m - i) (b:=m) (n:=i) (by omega) (by simp;omega) h2.symm
 rw[this];simp
def upN (d:Array α) (a:Nat):Nat→Array α
 | 0=>d
 | n+1=>swp (upN d a n) (a+n) (a+n+1)
def dnN (d:Array α) (m:Nat):Nat→Array α
 | 0=>d
 | n+1=>swp (dnN d m n) (m - n) (m - n - 1)
theorem size_upN (d:Array α) (a n:Nat):(upN d a n).size=d.size:=by
 induction n with
 | zero=>rfl
 | succ n ih=>rw[upN,size_swp,ih]
theorem size_dnN (d:Array α) (a n:Nat):(dnN d a n).size=d.size:=by
 induction n with
 | zero=>rfl
 | succ n ih=>rw[dnN,size_swp,ih]
theorem upN_rev (d:Array α) (x:α) (p:List α):∀ (v q:List α),d.toList=p ++ x :: (v.reverse ++ q)→(upN d p.length v.length).toList=p ++ v.reverse ++ x :: q:=by
 intro v
 induction v with
 | nil=>intro q h;simpa [upN] using h
 | cons y v ih =>
  intro q h
  have h1:=ih (y :: q) (by rw[h];simp)
  have h2:=zh3 (d:=upN d p.length v.length) (p:=p ++ v.reverse) (m:=[]) (q:=q) (x:=x) (y:=y) (by rw[h1];simp) (i:=p.length+v.length) (j:=p.length+v.length+1) (by simp) (by simp)
  rw[show (y :: v).length=v.length+1 from rfl,upN,h2];simp
theorem upN_split {d:Array α} {x:α} {p v q:List α} (h:d.toList=p ++ x :: (v ++ q)) {a n:Nat} (ha:a=p.length) (hn:n=v.length):(upN d a n).toList=p ++ v ++ x :: q:=by
 subst ha hn
 have:=upN_rev d x p v.reverse q (by simpa using h)
 simpa using this
theorem dnN_split' (d:Array α) (x:α) (q:List α) (m:Nat):∀ (v p:List α),m=p.length+v.length→d.toList=p ++ v ++ x :: q→(dnN d m v.length).toList=p ++ x :: (v ++ q):=by
 intro v
 induction v with
 | nil=>intro p _ h;simpa [dnN] using h
 | cons y v ih =>
  intro p hm h
  have hm':m=p.length+(v.length+1):=by simpa using hm
  have h1:=ih (p ++ [y]) (by simp;omega) (by rw[h];simp)
  have h2:=swp_split' (d:=dnN d m v.length) (p:=p) (m:=[]) (q:=v ++ q) (x:=y) (y:=x) (by rw[h1];simp) (i:=m - v.length - 1) (j:=m - v.length) (by omega) (by simp;omega)
  rw[show (y :: v).length=v.length+1 from rfl,dnN,h2];simp
theorem dnN_split {d:Array α} {x:α} {p v q:List α} (h:d.toList=p ++ v ++ x :: q) {m n:Nat} (hm:m=p.length+v.length) (hn:n=v.length):(dnN d m n).toList=p ++ x :: (v ++ q):=by
 subst hn;exact dnN_split' d x q m v p hm h
structure BS (f:Nat→Bool) (lo hi i j:Nat):Prop where
 l1:lo≤i
 l2:i≤j
 l3:j≤hi
 yes:∀ c,lo≤c→c < i→f c=true
 no:∀ c,j≤c→c < hi→f c=false
def Mono (f:Nat→Bool) (lo hi:Nat):Prop:=∀ c c',lo≤c'→c'≤c→c < hi→f c=true→f c'=true
theorem BS.start (f:Nat→Bool) {lo hi:Nat} (h:lo≤hi):BS f lo hi lo hi:=⟨Nat.le_refl _,h,Nat.le_refl _,fun _ _ _=>by omega,fun _ _ _=>by omega⟩
theorem BS.left {f:Nat→Bool} {lo hi i j h:Nat} (hM:Mono f lo hi) (hB:BS f lo hi i j) (h1:i≤h) (h2:h < j) (hf:f h=true):BS f lo hi (h+1) j :=
 ⟨by have:=hB.l1;omega,h2,hB.l3,fun c hc1 hc2=>hM h c hc1 (by omega) (by have:=hB.l3;omega) hf,hB.no⟩
theorem BS.right {f:Nat→Bool} {lo hi i j h:Nat} (hM:Mono f lo hi) (hB:BS f lo hi i j) (h1:i≤h) (h2:h < j) (hf:f h=false):BS f lo hi i h :=
 ⟨hB.l1,h1,by have:=hB.l3;omega,hB.yes,fun c hc1 hc2=>by
  cases e:f c
  ·rfl
  have:=hM c h (by have:=hB.l1;omega) hc1 hc2 e;rw[hf] at this;cases this⟩
variable {lt : α → α → Bool}
def ze1 (lt:α→α→Bool) (a b:Nat) (d:Array α):Prop:=∀ i j,a≤i→i≤j→j < b→lt d[j]! d[i]! = false
theorem zdq (h:Swo lt) {d:Array α} {p u q:List α} (hd:d.toList=p ++ u ++ q) (hu:zaz lt u) {a b:Nat} (ha:a=p.length) (hb:b=p.length+u.length):ze1 lt a b d:=by
 intro i j hi hij hj
 rcases Nat.lt_or_eq_of_le hij with hij | rfl
 ·have hs:=List.pairwise_iff_getElem.1 hu (i - a) (j - a) (by omega) (by omega) (by omega)
  have g:∀ k,(hk:k - a < u.length)→a≤k→d[k]! = u[k - a]:=fun k hk h1=>by
   refine zj4 (p:=p ++ u.take (k - a)) (q:=u.drop (k - a+1) ++ q) ?_ (by simp;omega)
   rw[hd]
   conv=>lhs;rw[← List.take_append_drop (k - a) u,List.drop_eq_getElem_cons hk]
   simp only[List.append_assoc,List.cons_append]
  rw[g i (by omega) hi,g j (by omega) (by omega)];exact hs
 exact zht h _
theorem zgh {d:Array α} {p u q:List α} (hd:d.toList=p ++ u ++ q) (k:Nat) (hk:k < u.length):d[p.length+k]! = u[k]:=by
 refine zj4 (p:=p ++ u.take k) (q:=u.drop (k+1) ++ q) ?_ (by simp;omega)
 rw[hd]
 conv=>lhs;rw[← List.take_append_drop k u,List.drop_eq_getElem_cons hk]
 simp only[List.append_assoc,List.cons_append]
theorem mono_left (h:Swo lt) {d:Array α} {a m b:Nat} (hs:ze1 lt m b d):Mono (fun c=>lt d[c]! d[a]!) m b:=by
 intro c c' h1 h2 h3 hc
 show lt d[c']! d[a]! = true
 cases e:lt d[c']! d[a]!
 ·have:=h.ntrans _ _ _ e (hs c' c h1 h2 h3)
  rw[show lt d[c]! d[a]! = true from hc] at this;cases this
 rfl
theorem one_left (h:Swo lt) {d:Array α} {p v q:List α} {x:α} (hd:d.toList=p ++ x :: (v ++ q)) (hv:zaz lt v) {a m b i:Nat} (ha:a=p.length) (hm:m=a+1) (hb:b=m+v.length) (hB:BS (fun c=>lt d[c]! d[a]!) m b i i) :
  (upN d a (i - 1 - a)).toList=p ++ zam lt (x :: v) ++ q:=by
 have hx:d[a]! = x:=zj4 hd ha
 have hd2:d.toList=(p ++ [x]) ++ v ++ q:=by rw[hd];simp
 have hg:∀ k,(hk:k < v.length)→d[m+k]! = v[k]:=fun k hk=>by
  have:=zgh hd2 k hk
  rw[show (p ++ [x]).length+k=m+k from by simp;omega] at this;exact this
 have hi1:=hB.l1
 have hi2:=hB.l3
 have e1:∀ y∈v.take (i - m),lt y x=true:=fun y hy=>by
  obtain⟨k,hk,rfl⟩:=List.getElem_of_mem hy
  simp only[List.length_take] at hk
  have:=hB.yes (m+k) (by omega) (by omega)
  rw[hg k (by omega),hx] at this
  simpa using this
 have e2:∀ y∈v.drop (i - m),lt y x=false:=fun y hy=>by
  obtain⟨k,hk,rfl⟩:=List.getElem_of_mem hy
  simp only[List.length_drop] at hk
  have:=hB.no (m+(i - m+k)) (by omega) (by omega)
  rw[hg _ (by omega),hx] at this
  simpa using this
 have hsplit:v=v.take (i - m) ++ v.drop (i - m):=(List.take_append_drop _ _).symm
 have hl:(v.take (i - m)).length=i - m:=by simp;omega
 generalize v.take (i - m)=v1 at *
 generalize v.drop (i - m)=v2 at *
 subst hsplit
 have hu:=upN_split (d:=d) (x:=x) (p:=p) (v:=v1) (q:=v2 ++ q) (by rw[hd];simp) (a:=a) (n:=i - 1 - a) ha (by omega)
 rw[hu]
 have hp:=List.pairwise_append.1 hv
 have:v1 ++ x :: v2=zam lt (x :: (v1 ++ v2)):=by
  apply zep h
  ·have:=(Sw.over (lt:=lt) x v1 e1).ctx [] v2
   simpa using this
  refine List.pairwise_append.2 ⟨hp.1,List.pairwise_cons.2 ⟨e2,hp.2.1⟩,fun y hy z hz=>?_⟩
  rcases List.mem_cons.1 hz with e | hz
  ·rw[e];exact h.asymm _ _ (e1 y hy)
  exact hp.2.2 y hy z hz
 rw[← this];simp
theorem zpo (h:Swo lt) {d:Array α} {a m:Nat} (hs:ze1 lt a m d):Mono (fun c=>!lt d[m]! d[c]!) a m:=by
 intro c c' h1 h2 h3 hc
 have hc':lt d[m]! d[c]! = false:=by simpa using hc
 show (!lt d[m]! d[c']!)=true
 rw[h.ntrans _ _ _ (hs c' c h1 h2 h3) hc'];rfl
theorem one_right (h:Swo lt) {d:Array α} {p u q:List α} {x:α} (hd:d.toList=p ++ u ++ x :: q) (hu:zaz lt u) {a m i:Nat} (ha:a=p.length) (hm:m=a+u.length) (hB:BS (fun c=>!lt d[m]! d[c]!) a m i i) :
  (dnN d m (m - i)).toList=p ++ zam lt (u ++ [x]) ++ q:=by
 have hx:d[m]! = x:=zj4 hd (by simp;omega)
 have hg:∀ k,(hk:k < u.length)→d[a+k]! = u[k]:=fun k hk=>by
  have:=zgh (q:=x :: q) hd k hk
  rw[ha];exact this
 have hi1:=hB.l1
 have hi2:=hB.l3
 have e1:∀ y∈u.take (i - a),lt x y=false:=fun y hy=>by
  obtain⟨k,hk,rfl⟩:=List.getElem_of_mem hy
  simp only[List.length_take] at hk
  have:=hB.yes (a+k) (by omega) (by omega)
  simp only[hg k (by omega),hx] at this
  simpa using this
 have e2:∀ y∈u.drop (i - a),lt x y=true:=fun y hy=>by
  obtain⟨k,hk,rfl⟩:=List.getElem_of_mem hy
  simp only[List.length_drop] at hk
  have:=hB.no (a+(i - a+k)) (by omega) (by omega)
  simp only[hg _ (show i - a+k < u.length by omega),hx] at this
  simpa using this
 have hsplit:u=u.take (i - a) ++ u.drop (i - a):=(List.take_append_drop _ _).symm
 have hl:(u.take (i - a)).length=i - a:=by simp;omega
 have hl2:(u.drop (i - a)).length=m - i:=by simp;omega
 generalize u.take (i - a)=v1 at *
 generalize u.drop (i - a)=v2 at *
 subst hsplit
 have hdn:=dnN_split (d:=d) (x:=x) (p:=p ++ v1) (v:=v2) (q:=q) (by rw[hd];simp) (m:=m) (n:=m - i) (by simp;omega) hl2.symm
 rw[hdn]
 have hp:=List.pairwise_append.1 hu
 have:v1 ++ x :: v2=zam lt (v1 ++ v2 ++ [x]):=by
  apply zep h
  ·have:=(Sw.blocks (lt:=lt) v2 [x] (fun a ha b hb=>by simp at hb;subst hb;exact e2 a ha)).ctx v1 []
   simpa using this
  refine List.pairwise_append.2 ⟨hp.1,List.pairwise_cons.2 ⟨fun y hy=>h.asymm _ _ (e2 y hy),hp.2.1⟩,fun y hy z hz=>?_⟩
  rcases List.mem_cons.1 hz with e | hz
  ·rw[e];exact e1 y hy
  exact hp.2.2 y hy z hz
 rw[← this];simp
theorem mono_sym (h:Swo lt) {d:Array α} {a m b n lo hi:Nat} (hs1:ze1 lt a m d) (hs2:ze1 lt m b d) (h1:a≤lo) (h2:hi≤m) (h3:n - hi ≥ m) (h4:n - 1 - lo < b) (h5:hi≤n):Mono (fun c=>!lt d[n - 1 - c]! d[c]!) lo hi:=by
 intro c c' k1 k2 k3 hc
 have hc':lt d[n - 1 - c]! d[c]! = false:=by simpa using hc
 show (!lt d[n - 1 - c']! d[c']!)=true
 have e1:lt d[c]! d[c']! = false:=hs1 c' c (by omega) k2 (by omega)
 have e2:lt d[n - 1 - c']! d[n - 1 - c]! = false:=hs2 (n - 1 - c) (n - 1 - c') (by omega) (by omega) (by omega)
 rw[h.ntrans _ _ _ (h.ntrans _ _ _ e1 hc') e2];rfl
theorem sym_cut (h:Swo lt) {d:Array α} {p u v q:List α} (hd:d.toList=p ++ u ++ v ++ q) (hu:zaz lt u) (hv:zaz lt v) {a m b mid n lo hi s:Nat} (ha:a=p.length) (hm:m=a+u.length) (hb:b=m+v.length)
  (hmid:mid=(a+b) / 2) (hn:n=mid+m) (hab:a < b) (hlo:(mid < m→lo=n - b∧hi=mid)∧(¬ mid < m→lo=a∧hi=m)) (hB:BS (fun c=>!lt d[n - 1 - c]! d[c]!) lo hi s s) :
  ∃ l1 l2 r1 r2,u=l1 ++ l2∧v=r1 ++ r2∧a+l1.length=s∧m+r1.length=n - s∧zam lt (u ++ v)=zam lt (l1 ++ r1) ++ zam lt (l2 ++ r2):=by
 have hs1:=hB.l1
 have hs3:=hB.l3
 have b1:a≤s∧s≤m∧m≤n - s∧n - s≤b:=by
  by_cases hc:mid < m
  ·obtain⟨rfl,rfl⟩:=hlo.1 hc;omega
  obtain⟨rfl,rfl⟩:=hlo.2 hc;omega
 have gu:∀ k,(hk:k < u.length)→d[a+k]! = u[k]:=fun k hk=>by
  have:=zgh (q:=v ++ q) (by rw[hd];simp:d.toList=p ++ u ++ (v ++ q)) k hk
  rw[ha];exact this
 have gv:∀ k,(hk:k < v.length)→d[m+k]! = v[k]:=fun k hk=>by
  have:=zgh hd k hk
  rw[show (p ++ u).length+k=m+k from by simp;omega] at this;exact this
 refine⟨u.take (s - a),u.drop (s - a),v.take (n - s - m),v.drop (n - s - m),(List.take_append_drop _ _).symm,(List.take_append_drop _ _).symm,by simp;omega,by simp;omega,?_⟩
 have hsU:∀ i j (hi:i < u.length) (hj:j < u.length),i≤j→lt u[j] u[i]=false:=fun i j hi hj hij=>by
  rcases Nat.lt_or_eq_of_le hij with hij | rfl
  ·exact List.pairwise_iff_getElem.1 hu i j hi hj hij
  exact zht h _
 have hsV:∀ i j (hi:i < v.length) (hj:j < v.length),i≤j→lt v[j] v[i]=false:=fun i j hi hj hij=>by
  rcases Nat.lt_or_eq_of_le hij with hij | rfl
  ·exact List.pairwise_iff_getElem.1 hv i j hi hj hij
  exact zht h _
 have hpu:zaz lt (u.take (s - a) ++ u.drop (s - a)):=by rw[List.take_append_drop];exact hu
 have hpv:zaz lt (v.take (n - s - m) ++ v.drop (n - s - m)):=by rw[List.take_append_drop];exact hv
 have key:=ssort_cut h (u.take (s - a)) (u.drop (s - a)) (v.take (n - s - m)) (v.drop (n - s - m)) ?_ (fun x hx y hy=>(List.pairwise_append.1 hpu).2.2 x hx y hy) (fun x hx y hy=>(List.pairwise_append.1 hpv).2.2 x hx y hy) ?_
 ·rw[List.take_append_drop,List.take_append_drop] at key;exact key
 · -- l2 over r1
  intro x hx y hy
  obtain⟨k,hk,rfl⟩:=List.getElem_of_mem hx
  obtain⟨j,hj,rfl⟩:=List.getElem_of_mem hy
  simp only[List.length_drop] at hk
  simp only[List.length_take] at hj
  simp only[List.getElem_drop,List.getElem_take]
  -- s < hi
  have hsh:s < hi:=by
   by_cases hc:mid < m
   ·have:=hlo.1 hc;omega
   have:=hlo.2 hc;omega
  have hN:=hB.no s (Nat.le_refl _) hsh
  have hN':lt d[n - 1 - s]! d[s]! = true:=by simpa using hN
  have e1:d[s]! = u[s - a]'(by omega):=by rw[← gu (s - a) (by omega)];congr 1;omega
  have e2:d[n - 1 - s]! = v[n - 1 - s - m]'(by omega):=by rw[← gv (n - 1 - s - m) (by omega)];congr 1;omega
  rw[e1,e2] at hN'
  cases e:lt v[j] u[s - a+k]
  ·have h1:=hsU (s - a) (s - a+k) (by omega) (by omega) (by omega)
   have h2:=hsV j (n - 1 - s - m) (by omega) (by omega) (by omega)
   have h3:=h.ntrans _ _ _ (h.ntrans _ _ _ h1 e) h2
   rw[hN'] at h3;cases h3
  rfl
 -- l1 over r2
 intro x hx y hy
 obtain⟨k,hk,rfl⟩:=List.getElem_of_mem hx
 obtain⟨j,hj,rfl⟩:=List.getElem_of_mem hy
 simp only[List.length_take] at hk
 simp only[List.length_drop] at hj
 simp only[List.getElem_drop,List.getElem_take]
 have hsh:lo < s:=by
  by_cases hc:mid < m
  ·have:=hlo.1 hc;omega
  have:=hlo.2 hc;omega
 have hN:=hB.yes (s - 1) (by omega) (by omega)
 have hN':lt d[n - 1 - (s - 1)]! d[s - 1]! = false:=by simpa using hN
 have e1:d[s - 1]! = u[s - 1 - a]'(by omega):=by rw[← gu (s - 1 - a) (by omega)];congr 1;omega
 have e2:d[n - 1 - (s - 1)]! = v[n - s - m]'(by omega):=by rw[← gv (n - s - m) (by omega)];congr 1;omega
 rw[e1,e2] at hN'
 have h1:=hsU k (s - 1 - a) (by omega) (by omega) (by omega)
 have h2:=hsV (n - s - m) (n - s - m+j) (by omega) (by omega) (by omega)
 exact h.ntrans _ _ _ (h.ntrans _ _ _ h1 hN') h2
theorem zn5 (lt:α→α→Bool) (p q x0:List α):∀ (j:Nat) (d:Array α),j < p.length+x0.length→(∃ x,d.toList=p ++ x ++ q∧Sw lt x0 x)→∃ x,(insInner lt p.length j d).toList=p ++ x ++ q∧Sw lt x0 x:=by
 intro j
 induction j with
 | zero=>intro d _ h;rw[insInner];exact h
 | succ j ih =>
  intro d hj h
  rw[insInner]
  split
  ·rename_i hc
   simp only[Bool.and_eq_true,decide_eq_true_eq] at hc
   refine ih _ (by omega) ?_
   obtain⟨x,hx,hs⟩:=h
   have hl:x.length=x0.length:=hs.perm.length_eq.symm
   have k1:j - p.length < x.length:=by omega
   have k2:j - p.length+1 < x.length:=by omega
   have e:x=x.take (j - p.length) ++ x[j - p.length] :: x[j - p.length+1] :: x.drop (j - p.length+2):=by
    conv=>lhs;rw[← List.take_append_drop (j - p.length) x,List.drop_eq_getElem_cons k1,List.drop_eq_getElem_cons k2]
   have g1:d[j]! = x[j - p.length]:=by rw[← zgh hx (j - p.length) k1];congr 1;omega
   have g2:d[j+1]! = x[j - p.length+1]:=by rw[← zgh hx (j - p.length+1) k2];congr 1;omega
   have hlt:=hc.2
   rw[g1,g2] at hlt
   have hpl:(x.take (j - p.length)).length=j - p.length:=by simp;omega
   generalize x.take (j - p.length)=xa at e hpl
   generalize x.drop (j - p.length+2)=xb at e
   generalize x[j - p.length]=y at *
   generalize x[j - p.length+1]=z at *
   subst e
   have hsw:=swp_split' (d:=d) (p:=p ++ xa) (m:=[]) (q:=xb ++ q) (x:=y) (y:=z) (by rw[hx];simp) (i:=j) (j:=j+1) (by simp;omega) (by simp;omega)
   exact⟨xa ++ z :: y :: xb,by rw[hsw];simp,.step xa y z xb hs hlt⟩
  exact h
theorem zn4 (lt:α→α→Bool) (p q x0:List α) (b:Nat) (hb:b=p.length+x0.length):∀ (k i:Nat) (d:Array α),b - i≤k→(∃ x,d.toList=p ++ x ++ q∧Sw lt x0 x)→∃ x,(insOuter lt p.length b i d).toList=p ++ x ++ q∧Sw lt x0 x:=by
 intro k
 induction k with
 | zero=>intro i d hk h;rw[insOuter,if_neg (by omega)];exact h
 | succ k ih =>
  intro i d hk h
  rw[insOuter]
  split
  ·exact ih _ _ (by omega) (zn5 lt p q x0 i d (by omega) h)
  exact h
theorem zgf (h:Swo lt) {d:Array α} {p x q:List α} (hd:d.toList=p ++ x ++ q) {a b:Nat} (ha:a=p.length) (hb:b=p.length+x.length):(insertionSort lt d a b).toList=p ++ zam lt x ++ q:=by
 subst ha
 obtain⟨y,hy,hs⟩:=zn4 lt p q x b hb b (p.length+1) d (by omega) ⟨x,hd,.refl⟩
 have hsz:b≤d.size:=by rw[← Array.length_toList,hd];simp;omega
 have hso:=(insertionSort_holds (lt:=lt) (swo_of h) d p.length b (by omega) hsz).2
 have hl:y.length=x.length:=hs.perm.length_eq.symm
 have:y=zam lt x:=by
  apply zep h hs
  refine List.pairwise_iff_getElem.2 fun i j hi hj hij=>?_
  have:=hso (p.length+i) (p.length+j) (by omega) (by omega) (by omega)
  rw[show insertionSort lt d p.length b=insOuter lt p.length b (p.length+1) d from rfl,zgh hy i hi,zgh hy j hj] at this
  exact this
 rw[← this];exact hy
end StbA

section
open Go.Lib VerN SortM
def zls (a b:List UInt8):Int:=if a=b then 0 else if a = [] then -1 else if b = [] then 1 else zb9 a b
theorem cmpLoI_lt (a b:List UInt8):decide (zls a b < 0)=ltLo a b:=by
 have hn:=zc2.neg a a
 have h0:¬ zb9 a a < 0:=by omega
 unfold zls ltLo
 by_cases h:a=b
 ·subst h
  by_cases h1:a = []
  ·simp[h1]
  simp[h1,h0]
 by_cases h1:a = []
 ·subst h1
  have h2:b≠[]:=fun e=>h e.symm
  simp[h,h2]
 by_cases h2:b = []
 ·subst h2;simp[h1]
 simp[h,h1,h2]
theorem zpr {a b:List UInt8} (h:ltLo a b=true):ltLo b a=false:=by
 rw[ltLo_no]
 unfold ltLo at h
 simp only[Bool.and_eq_true,Bool.or_eq_true,decide_eq_true_eq] at h
 obtain⟨h1,h2 | h2⟩:=h
 ·exact .inl h2
 refine .inr ⟨h1,?_⟩
 unfold le;omega
theorem zps {a b c:List UInt8} (h1:loLe a b) (h2:loLe b c):loLe a c:=by
 rcases h1 with h | ⟨k1,h⟩
 ·exact .inl h
 rcases h2 with m | ⟨m1,m⟩
 ·exact absurd m k1
 exact .inr ⟨m1,le_trans h m⟩
abbrev BSp:=ByteArray × ByteArray
def dS (s:BSp):Sp:=(s.1.data.toList,s.2.data.toList)
abbrev Tp:={ s:BSp // s.1.size≤9000∧s.2.size≤9000 }
instance:Inhabited Tp:=⟨⟨(⟨#[]⟩,⟨#[]⟩),by decide⟩⟩
def cfSp (x y:Tp):Int:=zls x.1.1.data.toList y.1.1.data.toList
theorem ltSp (x y:Tp):Go.Proofs.ltOf cfSp x y=ltLo (dS x.1).1 (dS y.1).1:=cmpLoI_lt _ _
theorem swoSp:Swo (Go.Proofs.ltOf cfSp) where
 asymm a b h:=by rw[ltSp] at *;exact zpr h
 ntrans a b c h1 h2:=by
  rw[ltSp,ltLo_no] at *
  exact zps h1 h2
def zh8 (l:List Tp):List Tp:=zam (Go.Proofs.ltOf cfSp) l
theorem zh7 (l:List Tp):(zh8 l).Perm l:=(zcr swoSp l).perm.symm
def addB (out:List BSp) (x:BSp):List BSp:=match out.getLast? with
 | some z=>if zcn (dS z) (dS x)=true then out.dropLast ++ [jnV z.1 z.2 x.1 x.2] else out ++ [x]
 | none=>[x]
def zf7 (l:List BSp):List BSp:=l.foldl addB []
theorem jn_dS (z x:BSp):dS (jnV z.1 z.2 x.1 x.2)=zd3 (dS z) (dS x):=jnV_data _ _ _ _
theorem zoo (x:BSp):addB [] x = [x]:=rfl
theorem zi6 (O:List BSp) (z x:BSp):addB (O ++ [z]) x=if zcn (dS z) (dS x)=true then O ++ [jnV z.1 z.2 x.1 x.2] else O ++ [z] ++ [x]:=by
 unfold addB
 simp
theorem zg3:∀ (r O:List BSp),(r.foldl addB O).length≤O.length+r.length
 | [],O=>by simp
 | x :: r,O=>by
  have h:=zg3 r (addB O x)
  have:(addB O x).length≤O.length+1:=by
   rcases List.eq_nil_or_concat O with rfl | ⟨Q,z,rfl⟩
   ·simp[zoo]
   rw[List.concat_eq_append,zi6]
   split <;> simp
  rw[List.foldl_cons,List.length_cons]
  omega
def zey (l:List Tp):List BSp:=zf7 ((zh8 l).map (·.1))
def zon (l:List BSp):Bool:=l.all fun s=>mayS (dS s)
theorem zod (l:List Tp):(zey l).length≤l.length:=by
 have h:=zg3 ((zh8 l).map (·.1)) []
 have h2:=(zh7 l).length_eq
 unfold zey zf7
 simp only[List.length_map,List.length_nil] at h
 omega
end

section
open Go.RowKit
theorem zhe {P:Program} {t e:TypeId} {z:Value} {size bytes:Nat} (E:Elem P t e z size bytes) (w:World) (base:Nat) (ty:TypeId)
  (v:Value) (n:Nat) (xs:List Value) (hown:w.ownsRow base e size v n xs)
  (ao:Option Addr) (m c:Nat) (news:List Value) (hl:news.length=m * size) (hnews:∀ j u,news[j]? = some u→∃ b off,ao=some ⟨b,off,none⟩∧w.cell? ⟨b,off+j,none⟩=some u) (h1:∀ u∈news,u.oneCell'=true)
  (h63:n+m≤maxLen) (hbytes:(n+m) * bytes≤140737488355328) (hbase:base≤w.heap.size) :
  ∃ v' w',(Builtin.append_ #[t,t] ty #[v,.slice ao m c]).run P w = .ok v' w'∧w'.ownsRow base e size v' (n+m) (xs ++ news)∧w.grownBy w' v.ownBlock∧zke w v v':=by
 obtain⟨i,hi,hz,hsz,hby⟩:=info_parts E.info
 cases ao with
 | some a =>
  obtain⟨v',w',hr,h2,h3,h4⟩:=ze3 (P:=P) w base t ty e i z size bytes E.slice hi hz hsz hby E.zero E.pos v n xs hown a m c news hl (by
   intro j u hu
   obtain⟨b,off,e1,e2⟩:=hnews j u hu
   cases e1
   rw[Addr.add_lit]
   exact e2) h1 h63 hbytes hbase
  refine⟨v',w',hr,h2,h3,fun k hk=>?_⟩
  rcases h4 with h4 | h4
  ·exact .inl (by rw[← h4];exact hk)
  right;rw[h4] at hk;simp at hk;omega
 | none =>
  have hn:news = []:=by
   cases news with
   | nil=>rfl
   | cons x r=>obtain⟨b,off,e1,_⟩:=hnews 0 x rfl;cases e1
  subst hn
  have hm:m=0:=by
   have hp:=E.pos
   rcases Nat.eq_zero_or_pos m with h | h
   ·exact h
   have:=Nat.mul_pos h hp;simp at hl;omega
  subst hm
  refine⟨v,w,?_,by simpa using hown,World.grownBy.refl _ _,fun k hk=>.inl hk⟩
  rcases hown.2 with⟨rfl,rfl⟩ | ⟨g,cap,cur,rfl,_,_,hnc,_⟩
  ·simp[Builtin.append_,run_underlying E.slice,sizeOf,typeInfo,hi,Builtin.lenOf,Builtin.firstCells]
  simp[Builtin.append_,run_underlying E.slice,sizeOf,typeInfo,hi,Builtin.lenOf,Builtin.firstCells,hnc,storeCells]
theorem zia {P:Program} {t e:TypeId} {z:Value} {size bytes:Nat} (E:Elem P t e z size bytes) {w:World} {o:Oper} {a:Act} {K:Act→World→Prop} {Q:Exit→Act→World→Prop}
  (s x:Operand) (ho:o.op = .call { callee:=.builtin .append,args:=#[s,x],argTypes:=#[t,t] })
  (base:Nat) (v:Value) (n:Nat) (xs:List Value) (hs:a.eval s=v) (hown:w.ownsRow base e size v n xs)
  (ao:Option Addr) (m c:Nat) (news:List Value) (hx:a.eval x = .slice ao m c) (hl:news.length=m * size) (hnews:∀ j u,news[j]? = some u→∃ b off,ao=some ⟨b,off,none⟩∧w.cell? ⟨b,off+j,none⟩=some u) (h1:∀ u∈news,u.oneCell'=true)
  (hb:(n+m) * bytes≤140737488355328) (hb1:n+m≤maxLen) (hbase:base≤w.heap.size)
  (h:∀ v' w',w'.ownsRow base e size v' (n+m) (xs ++ news)→w.grownBy w' v.ownBlock→zke w v v'→K (a.put o.dst v') w') :
  o.wp P a w K Q:=by
 obtain⟨v',w',hr,h2,h3,h4⟩:=zhe E w base o.type v n xs hown ao m c news hl hnews h1 hb1 hb hbase
 unfold Oper.wp execOp
 simp only[ho,resolve,invoke,builtin,Sem.run_bind,Sem.run_pure,Result.andThen_ok,List.map_toArray,List.map_cons,List.map_nil,hs,hx,hr]
 exact h v' w' h2 h3 h4
theorem zfl {P:Program} {t e:TypeId} {z:Value} {size bytes:Nat} (E:Elem P t e z size bytes) {w:World} {ops:Array Oper} {rest:List Oper} {o:Oper} {a:Act} {Q:Exit→Act→World→Prop}
  (hgd:o.guard=none) (s x:Operand) (ho:o.op = .call { callee:=.builtin .append,args:=#[s,x],argTypes:=#[t,t] })
  (base:Nat) (v:Value) (n:Nat) (xs:List Value) (hs:a.eval s=v) (hown:w.ownsRow base e size v n xs)
  (ao:Option Addr) (m c:Nat) (news:List Value) (hx:a.eval x = .slice ao m c) (hl:news.length=m * size) (hnews:∀ j u,news[j]? = some u→∃ b off,ao=some ⟨b,off,none⟩∧w.cell? ⟨b,off+j,none⟩=some u) (h1:∀ u∈news,u.oneCell'=true)
  (hb:(n+m) * bytes≤140737488355328) (hb1:n+m≤maxLen) (hbase:base≤w.heap.size)
  (h:∀ v' w',w'.ownsRow base e size v' (n+m) (xs ++ news)→w.grownBy w' v.ownBlock→zke w v v'→wpList P ops Q rest (a.put o.dst v') w') :
  wpList P ops Q (o :: rest) a w :=
 wpList_plain hgd fun _ hK=>zia E s x ho base v n xs hs hown ao m c news hx hl hnews h1 hb hb1 hbase fun v' w' h2 h3 h4=>hK _ _ (h v' w' h2 h3 h4)
end

section
open Go.RowKit
open SortM
def wr (xs:List Value):Nat→List Value→List Value
 | _,[] => xs
 | o,v :: vs=>wr (xs.set o v) (o+1) vs
theorem zgx {α:Type} (f:α→List Value) (k:Nat) (hk:∀ x,(f x).length=k) (l:List α) (i:Nat) (h:i < l.length) (j:Nat) (hj:j < k):(l.flatMap f)[i * k+j]? = (f l[i])[j]?:=by
 induction l generalizing i with
 | nil=>simp at h
 | cons a l ih =>
  rw[List.flatMap_cons]
  match i,h with
  | 0,_ =>
   rw[List.getElem?_append_left (by rw[hk];omega)]
   simp
  | i+1,h =>
   have hge:(f a).length≤(i+1) * k+j:=by rw[hk,Nat.succ_mul];omega
   rw[List.getElem?_append_right hge,hk,show (i+1) * k+j - k=i * k+j by rw[Nat.succ_mul];omega]
   exact ih i (by simpa using h)
end

section
open Go.RowKit Go.Shelf
def zak (x:BSp):List Value:=[.string x.1,.string x.2]
theorem zk7:Elem Tryz.prog 23 34 (.agg #[.string ⟨#[]⟩,.string ⟨#[]⟩]) 2 32:=⟨Tryz.underlying23,by kernel_rfl,rfl,by decide⟩
def RSpn:Rd BSp:=fun _ cs x=>cs = [.string x.1,.string x.2]∧x.1.size≤maxLen∧x.2.size≤maxLen
theorem zaf:zdh RSpn:=fun _ _ _ _ h _=>h
abbrev RSps:Rd (List BSp):=zad 2 RSpn
theorem zcx (x:BSp):(zak x).length=2:=rfl
theorem zfc:∀ (l:List BSp),(l.flatMap zak).length=l.length * 2
 | [] => rfl
 | x :: l=>by rw[List.flatMap_cons,List.length_append,zfc l,zcx,List.length_cons];omega
theorem sps_one (l:List BSp):∀ u∈l.flatMap zak,u.oneCell'=true:=by
 intro u hu
 obtain⟨x,_,h⟩:=List.mem_flatMap.1 hu
 simp[zak] at h
 rcases h with rfl | rfl <;> rfl
theorem zgu (f:List BSp) (i:Nat) (h:i < f.length) (j:Nat) (hj:j < 2):(f.flatMap zak)[i * 2+j]? = (zak f[i])[j]?:=zgx zak 2 zcx f i h j hj
theorem sps_news {w:World} {o:Option Addr} {n c:Nat} {f:List BSp} (h:RSps w [.slice o n c] f):∀ j u,(f.flatMap zak)[j]? = some u→∃ b off,o=some ⟨b,off,none⟩∧w.cell? ⟨b,off+j,none⟩=some u:=by
 obtain⟨a,cap,hv,_,_,hel⟩:=h
 simp only[List.cons.injEq,and_true,Value.slice.injEq] at hv
 obtain⟨rfl,_,_⟩:=hv
 intro j u hu
 have hj:=(List.getElem?_eq_some_iff.1 hu).1
 rw[zfc] at hj
 have hi:j / 2 < f.length:=by omega
 have e:=zgu f (j / 2) hi (j % 2) (by omega)
 have ej:j / 2 * 2+j % 2=j:=by omega
 rw[ej,hu] at e
 obtain⟨b,off,ecs,h1,h2,h3,h4,_⟩:=hel (j / 2) f[j / 2] (List.getElem?_eq_getElem hi)
 subst h4
 refine⟨b,off,h1,?_⟩
 have:=h3 (j % 2) u e.symm
 rwa [Nat.add_assoc,ej] at this
theorem zcw {w:World} {v:Value} {f:List BSp} (h:RSps w [v] f):∃ a c,v = .slice a f.length c:=by
 obtain⟨a,cap,hv,_⟩:=h
 simp only[List.cons.injEq,and_true] at hv
 exact⟨a,cap,hv⟩
theorem lit_sps {w:World} {B:Nat} (h:B≤w.heap.size):(w.alloc (.cells #[] 34)).ownsRow B 34 2 (.slice (some ⟨w.heap.size,0,none⟩) 0 0) 0 []:=World.ownsRow_lit (base:=B) (e:=34) (size:=2) w #[] 0 h (by decide) rfl
def zi9 (w:World) (n:Nat) (N:List Value) (e:Ending) (w':World):Prop:=∃ o,e = .returned o∧w'.ownsRow w.heap.size 34 2 o n N∧Below w.heap.size w w'
theorem zlt {w:World} {v:Value} {l:List BSp} (h:RSps w [v] l) (hl:l.length≤1000000):Calls Tryz.prog 105 #[v] w (zi9 w l.length (l.flatMap zak)):=by
 obtain⟨a,c,rfl⟩:=zcw h
 have hN:∀ j u,(l.flatMap zak)[j]? = some u→∃ b off,a=some ⟨b,off,none⟩∧(w.alloc (.cells #[] 34)).cell? ⟨b,off+j,none⟩=some u:=fun j u hu=>by
  obtain⟨b,off,h1,h2⟩:=sps_news h j u hu
  exact⟨b,off,h1,cell_later (za2 _ _) h2⟩
 have h1:=sps_one l
 have hfl:=zfc l
 have hlit:=lit_sps (w:=w) (B:=w.heap.size) (Nat.le_refl _)
 obtain⟨n,hn⟩ : ∃ n,n=l.length:=⟨_,rfl⟩
 obtain⟨N,hNN⟩ : ∃ N,N=l.flatMap zak:=⟨_,rfl⟩
 rw[← hNN] at hN h1 hfl
 rw[← hn] at hfl hl h ⊢
 rw[← hNN]
 cases a with
 | none =>
  have hl0:l = []:=by
   cases l with
   | nil=>rfl
   | cons x r =>
    obtain⟨_,_,hv,_,_,hel⟩:=h
    simp only[List.cons.injEq,and_true,Value.slice.injEq] at hv
    obtain⟨rfl,_,_⟩:=hv
    obtain⟨b,off,ecs,h1,_⟩:=hel 0 x rfl
    cases h1
  have hn0:n=0:=by rw[hn,hl0];rfl
  have hN0:N = []:=by rw[hNN,hl0];rfl
  subst hn0
  have hnil:∀ W,(binOp .eql 23 (.slice none 0 c) (.slice none 0 0)).run Tryz.prog W = .ok (.bool true) W:=fun W=>Lib.run_eql_slice_nil W 23 34 none 0 c 0 0 Tryz.underlying23
  obtain⟨Hh,HN,H1,Hfl,Hlit,Hn,HNN,Hl0,HN0⟩:=hd9 h hN h1 hfl hlit hn hNN hl0 hN0;clear h hN h1 hfl hlit hn hNN hl0 hN0
  go_enter Tryz.func105,Tryz.ntmps105
  go_wp2_with fail
  go_ret
  exact⟨_,rfl,by rw[HN0.out];exact World.ownsRow_nil _ _ _ _,Below.refl _ _⟩
 | some p =>
  have hnil:∀ W,(binOp .eql 23 (.slice (some p) n c) (.slice none 0 0)).run Tryz.prog W = .ok (.bool false) W:=fun W=>Lib.run_eql_slice_nil W 23 34 (some p) n c 0 0 Tryz.underlying23
  obtain⟨Hh,HN,H1,Hfl,Hlit,Hn,HNN⟩:=hd7 h hN h1 hfl hlit hn hNN;clear h hN h1 hfl hlit hn hNN
  go_enter Tryz.func105,Tryz.ntmps105
  go_wp2_with (at_builtin;(refine zfl zk7 rfl (.tmp 5) (.tmp 6) rfl w.heap.size (.slice (some ⟨w.heap.size,0,none⟩) 0 0) 0 [] rfl Hlit.out (some p) n c N rfl Hfl.out HN.out H1.out (by omega) (by unfold maxLen;omega) (by simp) ?_;intro v1 w1 hown1 hg1 hm1;obtain⟨oa,oc,rfl⟩:=zaj hown1;generalize hN7:0+n=N7 at hown1 ⊢;obtain⟨Hown1,Hg1,HN7⟩:=hd3 hown1 hg1 hN7;clear hown1 hg1 hm1 hN7))
  go_ret
  have hb1:Below w.heap.size w w1:=zdg (za2 w _) Hlit.out (Nat.le_refl _) Hg1.out (by simp)
  refine⟨_,rfl,?_,hb1⟩
  have h9:=Hown1.out
  have e:N7=n:=by have:=HN7.out;omega
  rw[List.nil_append] at h9
  rw[e] at h9 ⊢
  exact h9
theorem zfn {w:World} {B:Nat} {v:Value} {f:List BSp} (hw:∀ x∈f,x.1.size≤maxLen∧x.2.size≤maxLen) (h:w.ownsRow B 34 2 v f.length (f.flatMap zak)):RSps w [v] f:=by
 obtain⟨a,cap,rfl,h1,h2,h3⟩:=Sl.of_owns h
 refine⟨a,cap,rfl,h1,h2,fun i x hi=>?_⟩
 have hil:=(List.getElem?_eq_some_iff.1 hi).1
 have hx:=(List.getElem?_eq_some_iff.1 hi).2
 have hc:∀ c,c < 2→∀ u,(zak x)[c]? = some u→∃ b off,a=some ⟨b,off,none⟩∧w.cell? ⟨b,off+(i * 2+c),none⟩=some u:=fun c hc u hu=>h3 (i * 2+c) u (by rw[zgu f i hil c hc,hx];exact hu)
 obtain⟨b,off,ha,h4⟩:=hc 0 (by omega) _ rfl
 obtain⟨b',off',ha',h5⟩:=hc 1 (by omega) _ rfl
 rw[ha] at ha'
 cases ha'
 refine⟨b,off,zak x,ha,rfl,fun j u hu=>?_,rfl,(hw x (List.mem_of_getElem? hi)).1,(hw x (List.mem_of_getElem? hi)).2⟩
 match j,hu with
 | 0,hu=>simp[zak] at hu;subst hu;rw[← Nat.add_assoc] at h4;exact h4
 | 1,hu=>simp[zak] at hu;subst hu;rw[← Nat.add_assoc] at h5;exact h5
theorem zb8 {w:World} {v:Value} {l:List BSp} (h:RSps w [v] l):∃ a cap,v = .slice a l.length cap∧l.length≤9223372036854775807∧∀ i x,l[i]? = some x→∃ b off,a=some ⟨b,off,none⟩∧w.cell? ⟨b,off+i * 2,none⟩=some (.string x.1)∧w.cell? ⟨b,off+i * 2+1,none⟩=some (.string x.2)∧x.1.size≤9223372036854775807∧x.2.size≤9223372036854775807:=by
 obtain⟨a,cap,hv,hcap,hmax,hel⟩:=h
 simp only[List.cons.injEq,and_true] at hv
 unfold maxLen at hmax
 refine⟨a,cap,hv,by omega,fun i x hi=>?_⟩
 obtain⟨b,off,ecs,h1,h2,h3,h4,h5,h6⟩:=hel i x hi
 subst h4
 unfold maxLen at h5 h6
 exact⟨b,off,h1,by simpa using h3 0 _ rfl,by simpa using h3 1 _ rfl,by omega,by omega⟩
theorem sps_size {w:World} {v:Value} {l:List BSp} (h:RSps w [v] l):∀ x∈l,x.1.size≤maxLen∧x.2.size≤maxLen:=by
 obtain⟨a,cap,_,_,g⟩:=zb8 h
 intro x hx
 obtain⟨i,hi,rfl⟩:=List.getElem_of_mem hx
 obtain⟨b,off,_,_,_,h1,h2⟩:=g i _ (List.getElem?_eq_getElem hi)
 exact⟨h1,h2⟩
theorem zhu (cv:Value) (w:World):Calls Tryz.prog 195 #[.slice none 0 0,.int .i64 0,.int .i64 0,cv] w fun e w'=>e = .returned (.tuple #[])∧w=w':=by
 go_enter Tryz.func195,Tryz.ntmps195
 go_wp2_with fail
 refine wp_loop_rounds 1 ?_
 rw[rounds_succ]
 go_wp2_with fail
 go_end0
 exact⟨rfl,rfl⟩
theorem zko (cv:Value) (w:World):Calls Tryz.prog 163 #[.slice none 0 0,.int .i64 0,cv] w fun e w'=>e = .returned (.tuple #[])∧w=w':=by
 have h:=zhu cv
 have Hh:=hd h;clear h
 go_enter Tryz.func163,Tryz.ntmps163
 go_wp2_with fail
 refine wp_loop_rounds 1 ?_
 rw[rounds_succ]
 go_wp2_with fail
 refine (Hh.out _).mono ?_
 rintro e w2 ⟨rfl,rfl⟩
 go_wp2_with fail
 refine wp_loop_rounds 1 ?_
 rw[rounds_succ]
 go_wp2_with fail
 go_end0
 exact⟨rfl,rfl⟩
theorem zgm (cv:Value) (w:World):Calls Tryz.prog 106 #[.slice none 0 0,cv] w fun e w'=>e = .returned (.tuple #[])∧w=w':=by
 have h:=zko cv
 have Hh:=hd h;clear h
 go_enter Tryz.func106,Tryz.ntmps106
 go_wp2_with fail
 refine (Hh.out _).mono ?_
 rintro e w2 ⟨rfl,rfl⟩
 go_wp2_with fail
 go_end0
 exact⟨rfl,rfl⟩
end

section
open Go.RowKit Go.Shelf
abbrev Setg:=ByteArray × ByteArray
def setCells (x:Setg):List Value:=[.string x.1,.string x.2]
theorem elem_set:Elem Tryz.prog 49 109 (.agg #[.string ⟨#[]⟩,.string ⟨#[]⟩]) 2 32:=⟨Tryz.underlying49,by kernel_rfl,rfl,by decide⟩
def RSet:Rd Setg:=fun _ cs x=>cs = [.string x.1,.string x.2]∧x.1.size≤maxLen∧x.2.size≤maxLen
theorem zag:zdh RSet:=fun _ _ _ _ h _=>h
abbrev zbm:Rd (List Setg):=zad 2 RSet
theorem zky (x:Setg):(setCells x).length=2:=rfl
theorem zqf (f:List Setg) (i:Nat) (h:i < f.length) (j:Nat) (hj:j < 2):(f.flatMap setCells)[i * 2+j]? = (setCells f[i])[j]?:=zgx setCells 2 zky f i h j hj
theorem zeq {w:World} {v:Value} {f:List Setg} (h:zbm w [v] f):∃ a c,v = .slice a f.length c:=by
 obtain⟨a,cap,hv,_⟩:=h
 simp only[List.cons.injEq,and_true] at hv
 exact⟨a,cap,hv⟩
theorem ziu {w:World} {B:Nat} {v:Value} {f:List Setg} (hw:∀ x∈f,x.1.size≤maxLen∧x.2.size≤maxLen) (h:w.ownsRow B 109 2 v f.length (f.flatMap setCells)):zbm w [v] f:=by
 obtain⟨a,cap,rfl,h1,h2,h3⟩:=Sl.of_owns h
 refine⟨a,cap,rfl,h1,h2,fun i x hi=>?_⟩
 have hil:=(List.getElem?_eq_some_iff.1 hi).1
 have hx:=(List.getElem?_eq_some_iff.1 hi).2
 have hc:∀ c,c < 2→∀ u,(setCells x)[c]? = some u→∃ b off,a=some ⟨b,off,none⟩∧w.cell? ⟨b,off+(i * 2+c),none⟩=some u:=fun c hc u hu=>h3 (i * 2+c) u (by rw[zqf f i hil c hc,hx];exact hu)
 obtain⟨b,off,ha,h4⟩:=hc 0 (by omega) _ rfl
 obtain⟨b',off',ha',h5⟩:=hc 1 (by omega) _ rfl
 rw[ha] at ha'
 cases ha'
 refine⟨b,off,setCells x,ha,rfl,fun j u hu=>?_,rfl,(hw x (List.mem_of_getElem? hi)).1,(hw x (List.mem_of_getElem? hi)).2⟩
 match j,hu with
 | 0,hu=>simp[setCells] at hu;subst hu;rw[← Nat.add_assoc] at h4;exact h4
 | 1,hu=>simp[setCells] at hu;subst hu;rw[← Nat.add_assoc] at h5;exact h5
theorem zbc {w:World} {v:Value} {l:List Setg} (h:zbm w [v] l):∃ a cap,v = .slice a l.length cap∧l.length≤9223372036854775807∧∀ i x,l[i]? = some x→∃ b off,a=some ⟨b,off,none⟩∧w.cell? ⟨b,off+i * 2,none⟩=some (.string x.1)∧w.cell? ⟨b,off+i * 2+1,none⟩=some (.string x.2)∧x.1.size≤9223372036854775807∧x.2.size≤9223372036854775807:=by
 obtain⟨a,cap,hv,hcap,hmax,hel⟩:=h
 simp only[List.cons.injEq,and_true] at hv
 unfold maxLen at hmax
 refine⟨a,cap,hv,by omega,fun i x hi=>?_⟩
 obtain⟨b,off,ecs,h1,h2,h3,h4,h5,h6⟩:=hel i x hi
 subst h4
 unfold maxLen at h5 h6
 exact⟨b,off,h1,by simpa using h3 0 _ rfl,by simpa using h3 1 _ rfl,by omega,by omega⟩
end

section
open Go.RowKit Go.Shelf
def RSlT {α:Type} (sz:Nat) (R:Rd α) (e:TypeId) (W:World) (v:Value) (L:List α):Prop:=zad sz R W [v] L∧(L≠[]→∀ k,v.ownBlock=some k→∃ cs fr,W.heap[k]? = some (.cells cs e fr))
abbrev zgr:World→Value→List BSp→Prop:=RSlT 2 RSpn 34
abbrev zfa:World→Value→List Setg→Prop:=RSlT 2 RSet 109
theorem RSlT.frm {α:Type} {sz:Nat} {R:Rd α} {e:TypeId} {W W':World} {v:Value} {L:List α} {T:Nat→Prop} (hR:∀ W W' cs x,R W cs x→R W' cs x) (h:RSlT sz R e W v L) (hF:Frm T W W') (hT:∀ k,T k→∀ cs fr,W.heap[k]?≠some (.cells cs e fr)):RSlT sz R e W' v L:=by
 obtain⟨⟨a,cap,hv,h1,h2,hel⟩,ht⟩:=h
 have hv':=hv
 simp only[List.cons.injEq,and_true] at hv'
 refine⟨⟨a,cap,hv,h1,h2,fun i x hi=>?_⟩,fun hL k hk=>?_⟩
 ·obtain⟨b,off,ecs,e1,e2,e3,e4⟩:=hel i x hi
  have hL:L≠[]:=by rintro rfl;simp at hi
  obtain⟨cs,fr,hb⟩:=ht hL b (by rw[hv',e1];rfl)
  have hbT:¬ T b:=fun k=>hT b k cs fr hb
  refine⟨b,off,ecs,e1,e2,fun j u hu=>?_,hR _ _ _ _ e4⟩
  have k:=e3 j u hu
  exact (hF.cell (p:=⟨b,off+i * sz+j,none⟩) (World.block_lt_of_cell? W _ k) hbT).trans k
 obtain⟨cs,fr,hb⟩:=ht hL k hk
 exact⟨cs,fr,zbh hb hF fun kT=>hT k kT cs fr hb⟩
theorem RSlT.below {α:Type} {sz:Nat} {R:Rd α} {e:TypeId} {W W':World} {v:Value} {L:List α} (hR:zdh R) (h:RSlT sz R e W v L) (hb:Below W.heap.size W W'):RSlT sz R e W' v L :=
 ⟨za3 hR _ _ _ _ h.1 hb,fun hL k hk=>by obtain⟨cs,fr,h2⟩:=h.2 hL k hk;exact⟨cs,fr,za0 hb h2⟩⟩
theorem zcv {W W':World} {v:Value} {L:List BSp} (h:zgr W v L) (hb:Below W.heap.size W W'):zgr W' v L:=RSlT.below zaf h hb
theorem zmd {W W':World} {v:Value} {L:List Setg} (h:zfa W v L) (hb:Below W.heap.size W W'):zfa W' v L:=RSlT.below zag h hb
def No2 (W:World) (T:Nat→Prop):Prop:=∀ k,T k→∃ cs e fr,W.heap[k]? = some (.cells cs e fr)∧e≠34∧e≠109
theorem zf6 {W:World} {k:Nat} {cs:Array Value} {t:TypeId} {fr:Nat × Nat} (h:W.heap[k]? = some (.cells cs t fr)) (h1:t≠34) (h2:t≠109):∃ cs e fr,W.heap[k]? = some (.cells cs e fr)∧e≠34∧e≠109:=⟨_,_,_,h,h1,h2⟩
theorem zbi {W W':World} {T:Nat→Prop} {v:Value} {L:List BSp} (h:zgr W v L) (hF:Frm T W W') (hT:No2 W T):zgr W' v L :=
 RSlT.frm (fun _ _ _ _ h=>h) h hF fun k hk cs fr hc=>by
  obtain⟨cs',e,fr',h1,h2,_⟩:=hT k hk
  rw[hc] at h1
  cases h1
  exact h2 rfl
theorem zci {W W':World} {T:Nat→Prop} {v:Value} {L:List Setg} (h:zfa W v L) (hF:Frm T W W') (hT:No2 W T):zfa W' v L :=
 RSlT.frm (fun _ _ _ _ h=>h) h hF fun k hk cs fr hc=>by
  obtain⟨cs',e,fr',h1,_,h2⟩:=hT k hk
  rw[hc] at h1
  cases h1
  exact h2 rfl
theorem spsT_nil {W:World} {v:Value} (h:RSps W [v] []):zgr W v []:=⟨h,fun h=>absurd rfl h⟩
theorem setsT_nil {W:World} {v:Value} (h:zbm W [v] []):zfa W v []:=⟨h,fun h=>absurd rfl h⟩
theorem znn {W:World} {B:Nat} {e:TypeId} {size:Nat} {v:Value} {n:Nat} {xs:List Value} (h:W.ownsRow B e size v n xs):∀ k,v.ownBlock=some k→∃ cs fr,W.heap[k]? = some (.cells cs e fr):=fun k hk=>by
 obtain⟨cs,hc⟩:=zdu h k hk
 exact⟨cs,(0,0),hc⟩
end

section
open Go.RowKit
def Ft (W:World) (F:Nat→Prop) (P:World→Prop):Prop:=∀ W':World,W.heap.size≤W'.heap.size→(∀ k,k < W.heap.size→F k→W'.heap[k]? = W.heap[k]?)→P W'
section
variable {W W' : World} {F G T : Nat → Prop} {P Q : World → Prop}
theorem Ft.here (h:Ft W F P):P W:=h W (Nat.le_refl _) fun _ _ _=>rfl
theorem Ft.frm (h:Ft W F P) (hF:Frm T W W') (hT:∀ k,k < W.heap.size→F k→¬ T k) (hG:∀ k,k < W.heap.size→F k→G k):Ft W' G P :=
 fun V hV hk=>h V (Nat.le_trans hF.size hV) fun k k1 k2=>(hk k (Nat.lt_of_lt_of_le k1 hF.size) (hG k k1 k2)).trans (hF.block k k1 (hT k k1 k2))
theorem Ft.and (h:Ft W F P) (h2:Ft W F Q):Ft W F fun W=>P W∧Q W:=fun V hV hk=>⟨h V hV hk,h2 V hV hk⟩
theorem Ft.imp (h:Ft W F P) (hi:∀ V,P V→Q V):Ft W F Q:=fun V hV hk=>hi V (h V hV hk)
theorem Ft.mono (h:Ft W F P) (hG:∀ k,k < W.heap.size→F k→G k):Ft W G P:=fun V hV hk=>h V hV fun k k1 k2=>hk k k1 (hG k k1 k2)
end
theorem RSlT.ft {α:Type} {sz:Nat} {R:Rd α} {e:TypeId} {W:World} {v:Value} {L:List α} (hR:∀ W W' cs x,R W cs x→R W' cs x) (h:RSlT sz R e W v L):Ft W (fun k=>L≠[]∧v.ownBlock=some k) fun W'=>RSlT sz R e W' v L:=by
 intro V hV hk
 obtain⟨⟨a,cap,hv,h1,h2,hel⟩,ht⟩:=h
 have hv':=hv
 simp only[List.cons.injEq,and_true] at hv'
 refine⟨⟨a,cap,hv,h1,h2,fun i x hi=>?_⟩,fun hL k hk2=>?_⟩
 ·obtain⟨b,off,ecs,e1,e2,e3,e4⟩:=hel i x hi
  have hL:L≠[]:=by rintro rfl;simp at hi
  refine⟨b,off,ecs,e1,e2,fun j u hu=>?_,hR _ _ _ _ e4⟩
  have k:=e3 j u hu
  have hb:=World.block_lt_of_cell? W _ k
  exact (World.cell?_of_block (hk b hb ⟨hL,by rw[hv',e1];rfl⟩)).trans k
 obtain⟨cs,fr,hb⟩:=ht hL k hk2
 exact⟨cs,fr,(hk k (Array.getElem?_eq_some_iff.1 hb).1 ⟨hL,hk2⟩).trans hb⟩
def Ty (W:World) (k:Nat):Prop:=∃ cs e fr,W.heap[k]? = some (.cells cs e fr)∧(e=34∨e=109)
theorem Ty.keep {W W':World} {T:Nat→Prop} {k:Nat} (h:Ty W k) (hF:Frm T W W') (hT:¬ T k):Ty W' k:=by
 obtain⟨cs,e,fr,h1,h2⟩:=h
 exact⟨cs,e,fr,(hF.block k (Array.getElem?_eq_some_iff.1 h1).1 hT).trans h1,h2⟩
theorem not_ty {W:World} {k:Nat} {cs:Array Value} {e:TypeId} {fr:Nat × Nat} (h:W.heap[k]? = some (.cells cs e fr)) (h1:e≠34∧e≠109):¬ Ty W k:=by
 rintro⟨cs',e',fr',h2,h3⟩
 rw[h] at h2
 cases h2
 exact h3.elim h1.1 h1.2
def Fx (W:World) (t:Nat→Nat) (k:Nat):Prop:=t k=3∨Ty W k
structure RowL {α:Type} (W:World) (t:Nat→Nat) (c B:Nat) (e:TypeId) (size:Nat) (R:Rd α) (v:Value) (l:List α) (css:List (List Value)):Prop where
 row:W.ownsRow B e size v l.length css.flatten
 len:css.length=l.length
 els:Ft W (Fx W t) fun W'=>∀ (i:Nat) cs x,css[i]? = some cs→l[i]? = some x→R W' cs x
 tag:∀ k,v.ownBlock=some k→t k=c
def znq (t:Nat→Nat) (n c:Nat):Nat→Nat:=fun k=>if k < n then t k else c
theorem zir {t:Nat→Nat} {n c k:Nat} (h:k < n):znq t n c k=t k:=if_pos h
theorem zoy {t:Nat→Nat} {n c k:Nat} (h:n≤k):znq t n c k=c:=if_neg (by omega)
section
variable {α : Type} {W W' : World} {t t' : Nat → Nat} {c B : Nat} {e : TypeId} {size : Nat} {R : Rd α} {v : Value} {l : List α} {css : List (List Value)} {T : Nat → Prop} {P : World → Prop}
theorem Ft.fx (h:Ft W (Fx W t) P) (hF:Frm T W W') (hT:∀ k,k < W.heap.size→T k→t k≠3∧¬ Ty W k) (h3:∀ k,k < W.heap.size→t k=3→t' k=3):Ft W' (Fx W' t') P :=
 h.frm hF (fun k k1 k2 kT=>k2.elim (hT k k1 kT).1 (hT k k1 kT).2) fun k k1 k2=>k2.elim (fun h=>.inl (h3 k k1 h)) fun h=>.inr (h.keep hF fun kT=>(hT k k1 kT).2 h)
theorem RowL.to (h:RowL W t c B e size R v l css) (hF:Frm T W W') (hT:∀ k,k < W.heap.size→T k→t k≠c∧t k≠3∧¬ Ty W k) (h3:∀ k,k < W.heap.size→t k=3→t' k=3) (hc:∀ k,k < W.heap.size→t k=c→t' k=c):RowL W' t' c B e size R v l css :=
 ⟨hF.owns h.row fun k hk kT=>(hT k (h.row.lt k hk).2 kT).1 (h.tag k hk),h.len,h.els.fx hF (fun k k1 k2=>(hT k k1 k2).2) h3,fun k hk=>hc k (h.row.lt k hk).2 (h.tag k hk)⟩
theorem RowL.below (h:RowL W t c B e size R v l css) (hb:Below W.heap.size W W'):RowL W' t c B e size R v l css :=
 h.to (Frm.of_below (S:=fun _=>False) hb) (fun _ _ h=>h.elim) (fun _ _ h=>h) (fun _ _ h=>h)
theorem RowL.nil:RowL W t c B e size R (.slice none 0 0) [] []:=⟨World.ownsRow_nil _ _ _ _,rfl,fun _ _ _ i cs x h=>by simp at h,fun k h=>by simp[Value.ownBlock] at h⟩
theorem RowL.all (h:RowL W t c B e size R v l css):∀ cs∈css,∃ x,R W cs x:=fun cs hcs=>by
 obtain⟨i,hi,e⟩:=List.getElem_of_mem hcs
 exact⟨l[i]'(by rw[← h.len];exact hi),h.els.here i cs _ (by rw[← e];exact List.getElem?_eq_getElem hi) (List.getElem?_eq_getElem (by rw[← h.len];exact hi))⟩
theorem RowL.reads (h:RowL W t c B e size R v l css) (hs:0 < size) (hk:∀ W cs x,R W cs x→cs.length=size):zad size R W [v] l :=
 zde hs h.len (fun cs hcs=>by obtain⟨x,hx⟩:=h.all cs hcs;exact hk _ _ _ hx) h.row h.els.here
theorem RowL.ft (h:RowL W t c B e size R v l css) (hs:0 < size) (hk:∀ W cs x,R W cs x→cs.length=size):Ft W (fun k=>t k=c∨Fx W t k) fun W'=>zad size R W' [v] l:=by
 intro V hV hb
 refine zde (B:=B) (e:=e) hs h.len (fun cs hcs=>by obtain⟨x,hx⟩:=h.all cs hcs;exact hk _ _ _ hx) ?_ (h.els V hV fun k k1 k2=>hb k k1 (.inr k2))
 refine⟨h.row.1,?_⟩
 rcases h.row.2 with hn | ⟨g,cap,cur,rfl,hg,hgg,rest⟩
 ·exact .inl hn
 exact .inr ⟨g,cap,cur,rfl,hg,by rw[hb g (Array.getElem?_eq_some_iff.1 hgg).1 (.inl (h.tag g rfl))];exact hgg,rest⟩
theorem zp8 (h:RowL W t c B e size R v l css) (he:e≠34∧e≠109) {k:Nat} (hk:v.ownBlock=some k):¬ Ty W k:=by
 obtain⟨cs,hc⟩:=zdu h.row k hk
 exact not_ty hc he
theorem RowL.push {w9:World} {v9:Value} {x:α} {cs:List Value} {m:Nat} (h:RowL W t c B e size R v l css) (he:e≠34∧e≠109) (hc:c≠3) (hx:Ft W (Fx W t) fun W'=>R W' cs x) (hm:m=l.length)
  (ho:w9.ownsRow B e size v9 (m+1) (css.flatten ++ cs)) (hg:W.grownBy w9 v.ownBlock) (hmv:zke W v v9):RowL w9 (znq t W.heap.size c) c B e size R v9 (l ++ [x]) (css ++ [cs]):=by
 have hF:=zeh hg
 have hT:∀ k,k < W.heap.size→v.ownBlock=some k→t k≠3∧¬ Ty W k:=fun k _ hk=>⟨fun h3=>hc (by rw[← h.tag k hk,h3]),zp8 h he hk⟩
 have hG:∀ k,k < W.heap.size→t k=3→znq t W.heap.size c k=3:=fun k hk h3=>by rw[zir hk,h3]
 refine⟨by rw[List.length_append,← hm,List.flatten_append];simpa using ho,by simp[h.len],?_,fun k hk=>?_⟩
 ·refine ((h.els.and hx).fx hF hT hG).imp fun V hV i ds y e1 e2=>?_
  by_cases hi:i < css.length
  ·rw[List.getElem?_append_left hi] at e1
   rw[List.getElem?_append_left (by rw[← h.len];exact hi)] at e2
   exact hV.1 i ds y e1 e2
  have hlt:=(List.getElem?_eq_some_iff.1 e1).1
  have e:i=css.length:=by simp at hlt;omega
  rw[List.getElem?_append_right (by omega),e,Nat.sub_self] at e1
  rw[List.getElem?_append_right (by rw[← h.len];omega),e,h.len,Nat.sub_self] at e2
  simp at e1 e2
  subst e1 e2
  exact hV.2
 rcases hmv k hk with hk | hk
 ·rw[zir (h.row.lt k hk).2]
  exact h.tag k hk
 exact zoy hk
end
end

section
open Go.Lib VerN SortM
def jnT (a b:Tp):Tp:=⟨jnV a.1.1 a.1.2 b.1.1 b.1.2,by
 have ha:=a.2
 have hb:=b.2
 have h0:(ByteArray.mk #[]).size≤9000:=by decide
 unfold jnV
 split
 ·constructor
  ·show (if _ then _ else _:ByteArray).size≤9000
   split
   ·exact ze9 ha.1 hb.1
   exact h0
  show (if _ then _ else _:ByteArray).size≤9000
  split
  ·exact zfh ha.2 hb.2
  exact h0
 exact⟨h0,h0⟩⟩
def mtT (a b:Tp):Bool:=zcn (dS a.1) (dS b.1)
def mayT (l:List Tp):Prop:=∀ s∈l,mayS (dS s.1)=true
def covT (l:List Tp) (p:Pt):Prop:=cov (l.map fun x=>dS x.1) p
def MStep (l l':List Tp):Prop:=∃ a b r,l.Perm (a :: b :: r)∧mtT a b=true∧l'=jnT a b :: r
theorem zi0 (a:Tp) (l:List Tp) (p:Pt):covT (a :: l) p↔covS (dS a.1) p∨covT l p:=by
 unfold covT cov
 simp only[List.map_cons,List.mem_cons,or_and_right,exists_or,exists_eq_left]
theorem covT_perm {a b:List Tp} (h:a.Perm b) (p:Pt):covT a p↔covT b p:=cov_perm (h.map _) p
theorem zoz {l l':List Tp} (hm:mayT l) (h:MStep l l'):mayT l'∧(∀ p,covT l' p↔covT l p)∧l'.length+1=l.length:=by
 obtain⟨a,b,r,hp,hab,rfl⟩:=h
 have ha:mayS (dS a.1)=true:=hm a (hp.mem_iff.2 (by simp))
 have hb:mayS (dS b.1)=true:=hm b (hp.mem_iff.2 (by simp))
 have e:dS (jnT a b).1=zd3 (dS a.1) (dS b.1):=jn_dS a.1 b.1
 refine⟨fun s hs=>?_,fun p=>?_,?_⟩
 ·rcases List.mem_cons.1 hs with rfl | hs
  ·rw[e];exact join_may ha hb
  exact hm s (hp.mem_iff.2 (by simp[hs]))
 ·rw[covT_perm hp,zi0,zi0,zi0,e,join_cov ha hb hab,or_assoc]
 have:=hp.length_eq
 simp only[List.length_cons] at *
 omega
end

section
open Go.RowKit Go.Lib VerN
set_option linter.unusedSimpArgs false
end

section
open Go.RowKit Go.Lib VerN
theorem ret_i {a b:Int} (h:a=b):Ending.returned (.int .i64 a) = .returned (.int .i64 b):=by rw[h]
theorem zib (lo hi lp hj:ByteArray) (hl:lo.size≤1000000) (hl2:lp.size≤1000000) {w:World} (hD:zb1 w):Calls Tryz.prog 107 #[.agg #[.string lo,.string hi],.agg #[.string lp,.string hj]] w fun e w'=>e = .returned (.int .i64 (zls lo.data.toList lp.data.toList))∧Below w.heap.size w w':=by
 obtain⟨W0,hW0⟩ : ∃ W0,W0=(w.alloc (.cells #[.string lo,.string hi] 34)).alloc (.cells #[.string lp,.string hj] 34):=⟨_,rfl⟩
 obtain⟨nb,hnb⟩ : ∃ nb,nb=w.heap.size:=⟨_,rfl⟩
 have hw:Below w.heap.size w W0:=by rw[hW0];exact (za2 _ _).alloc (by simp) _
 have c0:W0.cell? ⟨nb,0,none⟩=some (.string lo):=by rw[hW0,hnb];exact (za4 (zmp _ _ _ _ _)).1
 have d0:W0.cell? ⟨nb+1,0,none⟩=some (.string lp):=by rw[hW0,hnb];exact (za4 (zmo _ _ _ _ _)).1
 have k1:(lo.toList == lp.toList)=decide (lo.data.toList=lp.data.toList):=by rw[Txt.eq_dec];exact decide_eq_decide.2 ba_eq
 have k2:lo.toList.isEmpty=decide (lo.data.toList = []):=zj7 lo
 have k3:lp.toList.isEmpty=decide (lp.data.toList = []):=zj7 lp
 have hP:=zcm hw (zf2 lo lp hl hl2 (hD.below hw))
 obtain⟨p,hp⟩ : ∃ p,p=decide (lo.data.toList=lp.data.toList):=⟨_,rfl⟩
 obtain⟨q,hq⟩ : ∃ p,p=decide (lo.data.toList = []):=⟨_,rfl⟩
 obtain⟨r,hr⟩ : ∃ p,p=decide (lp.data.toList = []):=⟨_,rfl⟩
 have hv:zls lo.data.toList lp.data.toList=if p=true then 0 else if q=true then -1 else if r=true then 1 else zb9 lo.data.toList lp.data.toList:=by
  rw[hp,hq,hr];simp only[decide_eq_true_eq];rfl
 rw[← hp] at k1
 rw[← hq] at k2
 rw[← hr] at k3
 clear hp hq hr
 obtain⟨HP,Hw,HD,Hv⟩:=hd4 hP hw hD hv;clear hP hw hD hv
 go_enter Tryz.func107,Tryz.ntmps107
 go_upto_region 1 with (fail)
 rw[← hW0,← hnb]
 clear hW0 hnb
 cases p with
 | true =>
  go_wp2_with fail
  go_ret
  exact⟨ret_i (by rw[Hv.out];rfl),Hw.out⟩
 | false =>
  cases q with
  | true =>
   go_wp2_with fail
   go_ret
   exact⟨ret_i (by rw[Hv.out];rfl),Hw.out⟩
  | false =>
   cases r with
   | true =>
    go_wp2_with fail
    go_ret
    exact⟨ret_i (by rw[Hv.out];rfl),Hw.out⟩
   | false =>
    go_wp2_with fail
    refine HP.out.mono ?_
    rintro e w1 ⟨rfl,hb1⟩
    have Hb1:=hd hb1;clear hb1
    go_wp2_with fail
    go_ret
    exact⟨ret_i (by rw[Hv.out];rfl),Hb1.out⟩
end

namespace StbB
open Go.Sort Go.Proofs.YteailgjiifdgcaaGreatDoor.SortM Go.Proofs.YteailgjiifdgcaaGreatDoor.StbA
variable {α : Type} {lt : α → α → Bool}
def P1 (lt:α→α→Bool) (l0:List α) (bs a:Nat) (d:Array α):Prop:=∃ (cs:List (List α)) (rest:List α),l0=cs.flatten ++ rest∧d.toList=(cs.map (zam lt)).flatten ++ rest∧(∀ c∈cs,c.length=bs)∧a=cs.flatten.length
def P2 (lt:α→α→Bool) (l0:List α) (bs:Nat) (d:Array α):Prop:=∃ (cs:List (List α)) (rest:List α),l0=cs.flatten ++ rest∧d.toList=(cs.map (zam lt)).flatten ++ zam lt rest∧(∀ c∈cs,c.length=bs)∧rest.length < bs
def P3 (lt:α→α→Bool) (l0:List α) (bs a:Nat) (d:Array α):Prop:=∃ (ds cs:List (List α)) (rest:List α),l0=ds.flatten ++ (cs.flatten ++ rest)∧d.toList=(ds.map (zam lt)).flatten ++ ((cs.map (zam lt)).flatten ++ zam lt rest)∧(∀ c∈ds,c.length=2 * bs)∧(∀ c∈cs,c.length=bs)∧rest.length < bs∧a=ds.flatten.length
theorem zcl (h:Swo lt) (cs:List (List α)):((cs.map (zam lt)).flatten).length=cs.flatten.length:=by
 induction cs with
 | nil=>rfl
 | cons c cs ih=>simp only[List.map_cons,List.flatten_cons,List.length_append,zbt h,ih]
theorem zkp:zam lt ([] : List α) = []:=rfl
theorem P1.start (l0:List α) (bs:Nat) {d:Array α} (hd:d.toList=l0):P1 lt l0 bs 0 d:=⟨[],l0,rfl,hd,by simp,rfl⟩
theorem P1.size (h:Swo lt) {l0:List α} {bs a:Nat} {d:Array α} (hP:P1 lt l0 bs a d):d.size=l0.length:=by
 obtain⟨cs,rest,h1,h2,_,_⟩:=hP
 rw[← Array.length_toList,h2,h1,List.length_append,List.length_append,zcl h]
theorem P1.step [Inhabited α] (h:Swo lt) {l0:List α} {bs a:Nat} {d:Array α} (hP:P1 lt l0 bs a d) (hb:a+bs≤l0.length):P1 lt l0 bs (a+bs) (insertionSort lt d a (a+bs)):=by
 obtain⟨cs,rest,h1,h2,h3,h4⟩:=hP
 have hl:rest=rest.take bs ++ rest.drop bs:=(List.take_append_drop _ _).symm
 have hx:(rest.take bs).length=bs:=by simp;rw[h1] at hb;simp at hb;simp at h4;omega
 generalize rest.take bs=x at hl hx
 generalize rest.drop bs=y at hl
 subst hl
 refine⟨cs ++ [x],y,by rw[h1];simp,?_,fun c hc=>?_,by simp only[List.flatten_append,List.length_append,List.flatten_cons,List.flatten_nil,List.append_nil];omega⟩
 ·rw[zgf h (d:=d) (p:=(cs.map (zam lt)).flatten) (x:=x) (q:=y) (by rw[h2];simp) (by rw[zcl h];exact h4) (by rw[zcl h];omega)]
  simp
 rcases List.mem_append.1 hc with hc | hc
 ·exact h3 c hc
 simp at hc;subst hc;exact hx
theorem P1.last [Inhabited α] (h:Swo lt) {l0:List α} {bs a n:Nat} {d:Array α} (hP:P1 lt l0 bs a d) (hn:n=l0.length) (hb:n < a+bs):P2 lt l0 bs (insertionSort lt d a n):=by
 obtain⟨cs,rest,h1,h2,h3,h4⟩:=hP
 have hr:n=a+rest.length:=by rw[hn,h1,List.length_append];omega
 refine⟨cs,rest,h1,?_,h3,by omega⟩
 rw[zgf h (d:=d) (p:=(cs.map (zam lt)).flatten) (x:=rest) (q:=[]) (by rw[h2];simp) (by rw[zcl h];exact h4) (by rw[zcl h];omega)]
 simp
theorem P1.le {l0:List α} {bs a:Nat} {d:Array α} (hP:P1 lt l0 bs a d):a≤l0.length:=by
 obtain⟨cs,rest,h1,h2,h3,h4⟩:=hP
 rw[h1,List.length_append];omega
theorem P2.size (h:Swo lt) {l0:List α} {bs:Nat} {d:Array α} (hP:P2 lt l0 bs d):d.size=l0.length:=by
 obtain⟨cs,rest,h1,h2,_,_⟩:=hP
 rw[← Array.length_toList,h2,h1,List.length_append,List.length_append,zcl h,zbt h]
theorem P3.start {l0:List α} {bs:Nat} {d:Array α} (hP:P2 lt l0 bs d):P3 lt l0 bs 0 d:=by
 obtain⟨cs,rest,h1,h2,h3,h4⟩:=hP
 exact⟨[],cs,rest,h1,h2,by simp,h3,h4,rfl⟩
theorem P3.size (h:Swo lt) {l0:List α} {bs a:Nat} {d:Array α} (hP:P3 lt l0 bs a d):d.size=l0.length∧a≤d.size:=by
 obtain⟨ds,cs,rest,h1,h2,_,_,_,h3⟩:=hP
 have e1:d.size=ds.flatten.length+(cs.flatten.length+rest.length):=by rw[← Array.length_toList,h2,List.length_append,List.length_append,zcl h,zcl h,zbt h]
 have e2:l0.length=ds.flatten.length+(cs.flatten.length+rest.length):=by rw[h1,List.length_append,List.length_append]
 omega
theorem P3.step (h:Swo lt) {l0:List α} {bs a:Nat} {d:Array α} (hP:P3 lt l0 bs a d) (hb:a+2 * bs≤l0.length) (h0:0 < bs) :
  ∃ p u v q,d.toList=p ++ u ++ v ++ q∧zaz lt u∧zaz lt v∧a=p.length∧u.length=bs∧v.length=bs∧∀ d':Array α,d'.toList=p ++ zam lt (u ++ v) ++ q→P3 lt l0 bs (a+2 * bs) d':=by
 obtain⟨ds,cs,rest,h1,h2,h3,h4,h5,h6⟩:=hP
 have hl:l0.length=a+(cs.flatten.length+rest.length):=by rw[h1,List.length_append,List.length_append,h6]
 match cs with
 | [] => simp at hl;omega
 | [c] => have:=h4 c (by simp);simp at hl;omega
 | c1 :: c2 :: cs =>
  have k1:=h4 c1 (by simp)
  have k2:=h4 c2 (by simp)
  refine⟨(ds.map (zam lt)).flatten,zam lt c1,zam lt c2,(cs.map (zam lt)).flatten ++ zam lt rest,by rw[h2];simp,zbe h _,zbe h _,by rw[zcl h];exact h6,by rw[zbt h];exact k1,by rw[zbt h];exact k2,fun d' hd'=>?_⟩
  refine⟨ds ++ [c1 ++ c2],cs,rest,by rw[h1];simp,?_,fun c hc=>?_,fun c hc=>h4 c (by simp[hc]),h5,by simp only[List.flatten_append,List.length_append,List.flatten_cons,List.flatten_nil,List.append_nil];omega⟩
  ·rw[hd',zkq h];simp
  rcases List.mem_append.1 hc with hc | hc
  ·exact h3 c hc
  simp at hc;subst hc;rw[List.length_append];omega
theorem P3.last1 (h:Swo lt) {l0:List α} {bs a n:Nat} {d:Array α} (hP:P3 lt l0 bs a d) (hn:n=l0.length) (hb:n < a+2 * bs) (hm:a+bs < n) :
  ∃ p u v,d.toList=p ++ u ++ v ++ []∧zaz lt u∧zaz lt v∧a=p.length∧u.length=bs∧a+bs+v.length=n∧∀ d':Array α,d'.toList=p ++ zam lt (u ++ v) ++ []→P2 lt l0 (2 * bs) d':=by
 obtain⟨ds,cs,rest,h1,h2,h3,h4,h5,h6⟩:=hP
 have hl:n=a+(cs.flatten.length+rest.length):=by rw[hn,h1,List.length_append,List.length_append,h6]
 match cs with
 | [] => simp at hl;omega
 | c1 :: c2 :: cs =>
  have k1:=h4 c1 (by simp)
  have k2:=h4 c2 (by simp)
  simp at hl;omega
 | [c] =>
  have k1:=h4 c (by simp)
  have hl':n=a+(c.length+rest.length):=by simpa using hl
  refine⟨(ds.map (zam lt)).flatten,zam lt c,zam lt rest,by rw[h2];simp,zbe h _,zbe h _,by rw[zcl h];exact h6,by rw[zbt h];exact k1,by rw[zbt h];omega,fun d' hd'=>?_⟩
  refine⟨ds,c ++ rest,by rw[h1];simp,?_,h3,by rw[List.length_append];omega⟩
  rw[hd',zkq h];simp
theorem P3.last2 {l0:List α} {bs a n:Nat} {d:Array α} (hP:P3 lt l0 bs a d) (hn:n=l0.length) (hb:n < a+2 * bs) (hm:¬ a+bs < n) (h0:0 < bs):P2 lt l0 (2 * bs) d:=by
 obtain⟨ds,cs,rest,h1,h2,h3,h4,h5,h6⟩:=hP
 have hl:n=a+(cs.flatten.length+rest.length):=by rw[hn,h1,List.length_append,List.length_append,h6]
 match cs with
 | [] => exact⟨ds,rest,by rw[h1];simp,by rw[h2];simp,h3,by omega⟩
 | c1 :: c2 :: cs =>
  have k1:=h4 c1 (by simp)
  have k2:=h4 c2 (by simp)
  simp at hl;omega
 | [c] =>
  have k1:=h4 c (by simp)
  have hl':n=a+(c.length+rest.length):=by simpa using hl
  have hr:rest = []:=List.eq_nil_of_length_eq_zero (by omega)
  subst hr
  exact⟨ds,c,by rw[h1];simp,by rw[h2,zkp];simp,h3,by omega⟩
theorem P2.done {l0:List α} {bs:Nat} {d:Array α} (hP:P2 lt l0 bs d) (hb:¬ bs < l0.length):d.toList=zam lt l0:=by
 obtain⟨cs,rest,h1,h2,h3,h4⟩:=hP
 match cs with
 | [] => rw[h2,h1];simp
 | [c] =>
  have k1:=h3 c (by simp)
  have hl:l0.length=c.length+rest.length:=by rw[h1];simp
  have hr:rest = []:=List.eq_nil_of_length_eq_zero (by omega)
  subst hr
  rw[h2,h1,zkp];simp
 | c1 :: c2 :: cs =>
  have k1:=h3 c1 (by simp)
  have k2:=h3 c2 (by simp)
  have hl:l0.length=c1.length+(c2.length+(cs.flatten.length+rest.length)):=by rw[h1];simp
  omega
end StbB
end Go.Proofs.YteailgjiifdgcaaGreatDoor
