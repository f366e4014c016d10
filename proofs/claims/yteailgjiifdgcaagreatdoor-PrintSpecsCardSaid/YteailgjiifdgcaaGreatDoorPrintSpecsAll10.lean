/- Walks and plain facts. Texts merged: PnB, RqG, PnM, RqE, RqF, RpC, RpD, LexW, LexB, LexT. Condition: none beyond what each says. -/
import Derived.Recover
import Derived.Laws.Pointers
import Derived.Laws.BytesArg
import Derived.Test.YteailgjiifdgcaaGreatDoorPrintSpecsAll9
set_option linter.unusedVariables false
set_option linter.unusedSimpArgs false
set_option maxRecDepth 10000
set_option maxHeartbeats 4000000
namespace Go.Proofs.YteailgjiifdgcaaGreatDoor
section
open Go.Shelf Go.RowKit Go.Lib VerN VarM
attribute [local go_sem ↓] Go.wp_at_zero Go.wp_at_succ
theorem zm6 (L:List ByteArray) (x:ByteArray):(L ++ [x]).map Value.string=L.map Value.string ++ [.string x]:=by simp
theorem zjo {l:List Setg} {k:Nat} (h:k < l.length):(l.take (k+1)).map setT=(l.take k).map setT ++ [setT l[k]]:=by rw[List.take_succ_eq_append_getElem h,List.map_append];rfl
def zi0 (s:Spc3) (w:World) (e:Ending) (w':World):Prop:=∃ a c,e = .returned (.slice a (zdb s).length c)∧RTs w' [.slice a (zdb s).length c] (zdb s)∧Below w.heap.size w w'
structure WdI (w:World) (sets:List Setg) (F0:List ByteArray) (k:Nat) (v:Value) (W:World):Prop where
 row:W.ownsRow w.heap.size 9 1 v (F0.length+k) ((F0 ++ (sets.take k).map setT).map Value.string)
 bel:Below w.heap.size w W
theorem word_size (s:Spc3) (h1:s.1.size≤9000) (h3:∀ x∈s.2.2,x.1.size≤9000∧x.2.size≤9000) (h2:(zbg s).size≤9223372036854775807):∀ x∈zdb s,x.size≤maxLen:=by
 have e:∀ a b:ByteArray,(a ++ b).size=a.size+b.size:=fun a b=>by rw[← Txt.len,Go.Joins.data_append,List.length_append,Txt.len,Txt.len]
 have hs:∀ x∈(if zbg s=noT then [] else [zbg s]) ++ s.2.2.map setT,x.size≤maxLen:=fun x hx=>by
  unfold maxLen
  rcases List.mem_append.1 hx with hx | hx
  ·split at hx
   ·simp at hx
   rw[List.mem_singleton] at hx
   rw[hx]
   exact h2
  obtain⟨y,hy,rfl⟩:=List.mem_map.1 hx
  have:=h3 y hy
  unfold setT
  rw[e,e]
  show y.1.size+1+y.2.size≤_
  omega
 intro x hx
 unfold zdb at hx
 by_cases hc:(if zbg s=noT then [] else [zbg s]) ++ s.2.2.map setT = []
 ·rw[if_pos hc,List.mem_singleton] at hx
  rw[hx]
  decide
 rw[if_neg hc] at hx
 exact hs x hx
theorem zma (l:List Tp) (hl:l.length≤1000):(spT (tB l)).size≤20000000:=by
 rw[zqz]
 unfold zc8
 split
 ·decide
 split
 ·decide
 have hF:=zdh l
 have hlen:(zch l).length≤1000:=by have:=zro l;omega
 unfold zo9
 show (Lib.join (((zch l).map zcl).map (·.data.toList)) [44]).length≤_
 have hb:∀ x∈((zch l).map zcl).map (·.data.toList),x.length≤18001:=by
  intro x hx
  obtain⟨y,hy,rfl⟩:=List.mem_map.1 hx
  obtain⟨z,hz,rfl⟩:=List.mem_map.1 hy
  rw[Txt.len]
  exact zjv (hF z hz)
 have h1:=zk6 18001 _ hb
 have h2:(((zch l).map zcl).map (·.data.toList)).length≤1000:=by simpa using hlen
 obtain⟨L,hL⟩ : ∃ L,L=((zch l).map zcl).map (·.data.toList):=⟨_,rfl⟩
 rw[← hL] at h1 h2 ⊢
 cases L with
 | nil=>simp[Lib.join_nil]
 | cons x r =>
  rw[Lib.join_length]
  simp only[List.length_cons,List.length_nil] at *
  omega
theorem zgp {w:World} {v1 v2:Value} {nm:ByteArray} {l:List Tp} {sets:List Setg} (h1:RSps w [v1] (tB l)) (h2:zd8 w [v2] sets) (hD:zbk w) (hl:l.length≤1000) (hm:sets.length≤1000) (hnz:nm.size≤9000) (hsz:∀ x∈sets,x.1.size≤9000∧x.2.size≤9000) :
  Calls Tryz.prog 128 #[.agg #[.string nm,v1,v2]] w (zi0 (nm,tB l,sets) w):=by
 obtain⟨a1,c1,rfl,-,-⟩:=zbz h1
 obtain⟨a2,c2,rfl,hz2,hat⟩:=zbt h2
 obtain⟨n1,hn1⟩ : ∃ n,n=(tB l).length:=⟨_,rfl⟩
 obtain⟨n2,hn2⟩ : ∃ n,n=sets.length:=⟨_,rfl⟩
 rw[← hn1] at h1 ⊢
 rw[← hn2] at h2 hz2 hm ⊢
 obtain⟨W1,hW1⟩ : ∃ W,W=w.alloc (.cells #[.string nm,.slice a1 n1 c1,.slice a2 n2 c2] 51):=⟨_,rfl⟩
 obtain⟨g,hg⟩ : ∃ g,g=w.heap.size:=⟨_,rfl⟩
 have hb1:Below w.heap.size w W1:=by rw[hW1];exact za2 _ _
 have p0:zai g (.string nm) (.slice a1 n1 c1) (.slice a2 n2 c2) W1:=by rw[hW1,hg];exact heap_alloc_new _ _
 obtain⟨x0,x1,x2,-⟩:=za4 p0
 have r1:=za6 zat _ _ _ _ h1 hb1
 have hA:=znz r1
 have hT:=zjm r1 (by omega) (hD.below hb1)
 have hts:=zma l hl
 have hst:zbg (nm,tB l,sets)=if tB l=allV then nm else nm ++ (⟨#[64]⟩ ++ spT (tB l)):=rfl
 rw[zqz] at hts hst
 obtain⟨tx,htx⟩ : ∃ t,t=zc8 l:=⟨_,rfl⟩
 rw[← htx] at hT hts hst
 have hws:zdb (nm,tB l,sets)=if (if zbg (nm,tB l,sets)=noT then [] else [zbg (nm,tB l,sets)]) ++ sets.map setT = [] then [zds] else (if zbg (nm,tB l,sets)=noT then [] else [zbg (nm,tB l,sets)]) ++ sets.map setT:=rfl
 have hwz:(zbg (nm,tB l,sets)).size≤9223372036854775807→∀ x∈zdb (nm,tB l,sets),x.size≤maxLen:=word_size (nm,tB l,sets) hnz hsz
 obtain⟨R,hR⟩ : ∃ R,R=zdb (nm,tB l,sets):=⟨_,rfl⟩
 obtain⟨fi,hfi⟩ : ∃ f,f=zbg (nm,tB l,sets):=⟨_,rfl⟩
 rw[← hR] at hws hwz
 rw[← hfi] at hst hws hwz
 unfold zi0
 rw[← hR]
 obtain⟨al,hal⟩ : ∃ b,b=decide (tB l=allV):=⟨_,rfl⟩
 rw[← hal] at hA
 have hnd:=Txt.no_dec nm
 have hsize:∀ a b:ByteArray,(a ++ b).size=a.size+b.size:=fun a b=>by rw[← Txt.len,Go.Joins.data_append,List.length_append,Txt.len,Txt.len]
 obtain⟨H1,H2,HD,Hl,Hb1,Hp0,Hr1,HA,HT,Hts,Hst,Hws,Hwz,HR,Hfi,Htx⟩:=hd16 h1 h2 hD hl hb1 p0 r1 hA hT hts hst hws hwz hR hfi htx;obtain⟨Hal,Hn1,Hn2,Hat,Hsz,Hsize⟩:=hd6 hal hn1 hn2 hat hsz hsize;clear h1 h2 hD hl hb1 p0 r1 hA hT hts hst hws hwz hR hfi htx hal hn1 hn2 hat hsz hsize
 go_enter Tryz.func128,Tryz.ntmps128
 go_upto_region 1 with (fail)
 rw[← hW1,← hg]
 clear hW1 hg
 cases al with
 | true =>
  have hfn:fi=nm:=by rw[Hst.out,if_pos (of_decide_eq_true Hal.out.symm)]
  by_cases hne:nm.size=0
  ·have k1:nm.toList.isEmpty=true:=by rw[hnd];exact decide_eq_true hne
   have hF0':(if fi=noT then [] else [fi])=([] : List ByteArray):=if_pos (by rw[hfn];exact Txt.ext (List.eq_nil_of_length_eq_zero (by rw[Txt.len];exact hne)))
   have hfz:fi.size≤9223372036854775807:=by rw[hfn];omega
   obtain⟨F0,hFe⟩ : ∃ F:List ByteArray,F = []:=⟨_,rfl⟩
   have hF0:(if fi=noT then [] else [fi])=F0:=by rw[hFe];exact hF0'
   clear hF0'
   have hF1:F0.length≤1:=by rw[hFe];exact Nat.zero_le _
   have hI:WdI w sets F0 0 (.slice none 0 0) W1:=⟨by rw[hFe];exact World.ownsRow_nil _ _ _ _,Hb1.out⟩
   clear hnd
   obtain⟨Hfn,Hne,HF0,Hfz,HFe,HF1,HI⟩:=hd7 hfn hne hF0 hfz hFe hF1 hI;clear hfn hne hF0 hfz hFe hF1 hI
   go_wp2_with fail
   refine HA.out.mono ?_
   rintro e wz ⟨rfl,hwz'⟩
   subst hwz'
   go_upto_region 7 with (fail)
   have Hp:=Lib.hid Hp0.out
   obtain⟨y0,y1,y2,-⟩:=za4 Hp.out
   clear x0 x1 x2 k1
   go_wp2_with fail
   go_loopw [4,28] (fun v i wr=>∃ k:Nat,k≤n2∧i = .int .i64 k∧WdI w sets F0 k v wr) (fun _ i _=>n2 - (RowKit.intOf i).toNat)
   case atStart=>exact⟨0,Nat.zero_le _,rfl,HI.out⟩
   case round =>
    obtain⟨k,hk,rfl,hI⟩:=hrel
    obtain⟨z,hz⟩ : ∃ z,z=F0.length+k:=⟨_,rfl⟩
    have hrow:=hI.row
    rw[← hz] at hrow
    obtain⟨ra,rc,rfl⟩:=zaj hrow
    have hzs:z≤1001:=by have:=HF1.out;omega
    by_cases hlt:k < n2
    ·have hkl:k < sets.length:=by have:=Hn2.out;omega
     obtain⟨x,hx⟩ : ∃ x,x=sets[k]:=⟨_,rfl⟩
     obtain⟨b,off,rfl,d0,d1,hs1,hs2⟩:=Hat.out k x (by rw[hx];exact List.getElem?_eq_getElem hkl)
     have e0:=cell_later hI.bel d0
     have e1:=cell_later hI.bel d1
     have hnext:=zjo hkl
     rw[← hx] at hnext
     have hset:setT x=x.1 ++ ⟨#[61]⟩ ++ x.2:=rfl
     obtain⟨s,hs⟩ : ∃ s,s=x.1:=⟨_,rfl⟩
     obtain⟨t,ht⟩ : ∃ s,s=x.2:=⟨_,rfl⟩
     rw[← hs,← ht] at hset
     have hxz:=Hsz.out x (by rw[hx];exact List.getElem_mem hkl)
     rw[← hs,← ht] at hxz
     obtain⟨hss,htt⟩:=hxz
     rw[← hs] at e0
     rw[← ht] at e1
     obtain⟨sb,hsb⟩ : ∃ z,z=wr.heap.size:=⟨_,rfl⟩
     obtain⟨w5,hw5⟩ : ∃ W,W=wr.alloc (.cells #[.string s,.string t] 109):=⟨_,rfl⟩
     have hba:Below wr.heap.size wr w5:=by rw[hw5];exact za2 _ _
     have p6:w5.heap[sb]? = some (.cells #[.string s,.string t] 109 (0,0)):=by rw[hw5,hsb];exact heap_alloc_new _ _
     have f0:=za5 p6 0
     have f1:=za5 p6 1
     simp only[List.getElem?_toArray,List.getElem?_cons_zero,List.getElem?_cons_succ] at f0 f1
     have hrow5:=zag hrow hba
     have hbel5:=hI.bel.trans (hba.mono hI.bel.size)
     have hbw5:=hbel5.size
     obtain⟨N,hN⟩ : ∃ N,N=(F0 ++ (sets.take k).map setT).map Value.string:=⟨_,rfl⟩
     rw[← hN] at hrow5
     have k5:(0:Int)≤(k:Int):=by omega
     have k6:(k:Int) < (n2:Int):=by omega
     clear d0 d1 hs1 hs2
     obtain⟨HI,Hz,Hrow,Hx,Hs,Ht,Hnext,Hset,Hba,Hrow5,Hbel5,Hbw5,HN,Hp6⟩:=hd14 hI hz hrow hx hs ht hnext hset hba hrow5 hbel5 hbw5 hN p6;clear hI hz hrow hx hs ht hnext hset hba hrow5 hbel5 hbw5 hN p6
     go_upto_region 10 with (fail)
     rw[← hw5,← hsb]
     clear hw5 hsb e0 e1
     go_wp2_with (at_builtin;(refine zav zer rfl (.tmp 32) (.tmp 39) rfl w.heap.size (.slice ra z rc) z N rfl Hrow5.out 1 _ rfl rfl (by simp[Value.oneCell']) (by omega) (by unfold maxLen;omega) Hbw5.out ?_;intro v9 w9 hown9 hg9 hm9;obtain⟨a9,c9,rfl⟩:=zaj hown9;have hb9:=(zbi Hbel5.out Hrow5.out (Nat.le_refl _) hg9 Hbw5.out:Below w.heap.size w w9);obtain⟨Hown9,Hb9⟩:=hd2 hown9 hb9;clear hown9 hg9 hm9 hb9))
     go_roundw
     case rel =>
      refine⟨k+1,by omega,by go_num,⟨?_,Hb9.out⟩⟩
      rw[Hnext.out,← List.append_assoc,zm6,← HN.out,← Nat.add_assoc,← Hz.out,Hset.out]
      exact Hown9.out
     case measure=>(simp[RowKit.intOf]) <;> omega
    obtain rfl:k=n2:=by omega
    have htk:(sets.take k).map setT=sets.map setT:=by rw[List.take_of_length_le (Nat.le_of_eq Hn2.out.symm)]
    have hws2:=Hws.out
    rw[HF0.out] at hws2
    rw[htk] at hrow
    have hlen:(F0 ++ sets.map setT).length=z:=by rw[List.length_append,List.length_map,hz,Hn2.out]
    have hRz:=Hwz.out Hfz.out
    by_cases hz0:z=0
    ·subst hz0
     have hL:F0 ++ sets.map setT = []:=List.eq_nil_of_length_eq_zero hlen
     rw[if_pos hL] at hws2
     have hlit:(wr.alloc (.cells #[.string ⟨#[42]⟩] 9)).ownsRow wr.heap.size 9 1 (.slice (some ⟨wr.heap.size,0,none⟩) 1 1) 1 [.string ⟨#[42]⟩]:=World.ownsRow_lit (base:=wr.heap.size) (e:=9) (size:=1) wr #[.string ⟨#[42]⟩] 1 (Nat.le_refl _) (by decide) rfl
     have hbz:Below w.heap.size w (wr.alloc (.cells #[.string ⟨#[42]⟩] 9)):=hI.bel.alloc hI.bel.size _
     obtain⟨HI,Hz,Hrow,Htk,Hws2,Hlen,HRz,HL,Hlit,Hbz⟩:=hd10 hI hz hrow htk hws2 hlen hRz hL hlit hbz;clear hI hz hrow htk hws2 hlen hRz hL hlit hbz
     go_wp2_with fail
     go_ret
     have hfin:R = [zds]:=Hws2.out
     refine⟨some ⟨wr.heap.size,0,none⟩,1,by rw[hfin];rfl,?_,Hbz.out⟩
     rw[hfin]
     exact ze6 (l:=[zds]) Hlit.out (fun x hx=>by rw[List.mem_singleton] at hx;rw[hx];decide)
    have k7:((z:Int) == 0)=false:=by rw[beq_eq_false_iff_ne];omega
    have hL:F0 ++ sets.map setT≠[]:=fun e=>by rw[e] at hlen;exact hz0 hlen.symm
    rw[if_neg hL] at hws2
    rw[← hws2] at hrow hlen
    have hI2:=hI
    obtain⟨HI,HI2,Hz,Hrow,Htk,Hws2,Hlen,HRz,HL,Hz0⟩:=hd10 hI hI2 hz hrow htk hws2 hlen hRz hL hz0;clear hI hI2 hz hrow htk hws2 hlen hRz hL hz0
    go_wp2_with fail
    go_ret
    refine⟨ra,rc,by rw[Hlen.out];rfl,?_,HI2.out.bel⟩
    rw[Hlen.out]
    exact ze6 Hrow.out HRz.out
  have k1:nm.toList.isEmpty=false:=by rw[hnd];exact decide_eq_false hne
  have hF0':(if fi=noT then [] else [fi]) = [nm]:=by rw[hfn];exact if_neg (by intro e;rw[e] at hne;exact hne rfl)
  have hfz:fi.size≤9223372036854775807:=by rw[hfn];omega
  obtain⟨F0,hFe⟩ : ∃ F:List ByteArray,F = [nm]:=⟨_,rfl⟩
  have hF0:(if fi=noT then [] else [fi])=F0:=by rw[hFe];exact hF0'
  clear hF0'
  have hF1:F0.length≤1:=by rw[hFe];exact Nat.le_refl _
  have hbs:=Hb1.out.size
  have hnil:W1.ownsRow w.heap.size 9 1 (.slice none 0 0) 0 []:=World.ownsRow_nil _ _ _ _
  clear hnd
  obtain⟨Hfn,Hne,HF0,Hfz,Hnil,HFe,HF1⟩:=hd7 hfn hne hF0 hfz hnil hFe hF1;clear hfn hne hF0 hfz hnil hFe hF1
  go_wp2_with fail
  refine HA.out.mono ?_
  rintro e wz ⟨rfl,hwz'⟩
  subst hwz'
  go_wp2_with (at_builtin;(refine zav zer rfl (.tmp 21) (.tmp 23) rfl w.heap.size (.slice none 0 0) 0 [] rfl Hnil.out 1 #[.string nm] rfl rfl (by simp[Value.oneCell']) (by omega) (by unfold maxLen;omega) hbs ?_;intro v9 w9 hown9 hg9 hm9;obtain⟨a9,c9,rfl⟩:=zaj hown9;have hb9:=(zbi Hb1.out Hnil.out (Nat.le_refl _) hg9 hbs:Below w.heap.size w w9);have Hp:=Lib.hid ((hg9.block g (Array.getElem?_eq_some_iff.1 Hp0.out).1 (by simp[Value.ownBlock])).trans Hp0.out:zai g (.string nm) (.slice a1 n1 c1) (.slice a2 n2 c2) w9);have HI:=Lib.hid (⟨by rw[HFe.out];exact hown9,hb9⟩ : WdI w sets F0 0 (.slice a9 1 c9) w9);obtain⟨y0,y1,y2,-⟩:=za4 Hp.out;clear hown9 hg9 hm9 hb9))
  clear x0 x1 x2 k1
  go_loopw [4,28] (fun v i wr=>∃ k:Nat,k≤n2∧i = .int .i64 k∧WdI w sets F0 k v wr) (fun _ i _=>n2 - (RowKit.intOf i).toNat)
  case atStart=>exact⟨0,Nat.zero_le _,rfl,HI.out⟩
  case round =>
   obtain⟨k,hk,rfl,hI⟩:=hrel
   obtain⟨z,hz⟩ : ∃ z,z=F0.length+k:=⟨_,rfl⟩
   have hrow:=hI.row
   rw[← hz] at hrow
   obtain⟨ra,rc,rfl⟩:=zaj hrow
   have hzs:z≤1001:=by have:=HF1.out;omega
   by_cases hlt:k < n2
   ·have hkl:k < sets.length:=by have:=Hn2.out;omega
    obtain⟨x,hx⟩ : ∃ x,x=sets[k]:=⟨_,rfl⟩
    obtain⟨b,off,rfl,d0,d1,hs1,hs2⟩:=Hat.out k x (by rw[hx];exact List.getElem?_eq_getElem hkl)
    have e0:=cell_later hI.bel d0
    have e1:=cell_later hI.bel d1
    have hnext:=zjo hkl
    rw[← hx] at hnext
    have hset:setT x=x.1 ++ ⟨#[61]⟩ ++ x.2:=rfl
    obtain⟨s,hs⟩ : ∃ s,s=x.1:=⟨_,rfl⟩
    obtain⟨t,ht⟩ : ∃ s,s=x.2:=⟨_,rfl⟩
    rw[← hs,← ht] at hset
    have hxz:=Hsz.out x (by rw[hx];exact List.getElem_mem hkl)
    rw[← hs,← ht] at hxz
    obtain⟨hss,htt⟩:=hxz
    rw[← hs] at e0
    rw[← ht] at e1
    obtain⟨sb,hsb⟩ : ∃ z,z=wr.heap.size:=⟨_,rfl⟩
    obtain⟨w5,hw5⟩ : ∃ W,W=wr.alloc (.cells #[.string s,.string t] 109):=⟨_,rfl⟩
    have hba:Below wr.heap.size wr w5:=by rw[hw5];exact za2 _ _
    have p6:w5.heap[sb]? = some (.cells #[.string s,.string t] 109 (0,0)):=by rw[hw5,hsb];exact heap_alloc_new _ _
    have f0:=za5 p6 0
    have f1:=za5 p6 1
    simp only[List.getElem?_toArray,List.getElem?_cons_zero,List.getElem?_cons_succ] at f0 f1
    have hrow5:=zag hrow hba
    have hbel5:=hI.bel.trans (hba.mono hI.bel.size)
    have hbw5:=hbel5.size
    obtain⟨N,hN⟩ : ∃ N,N=(F0 ++ (sets.take k).map setT).map Value.string:=⟨_,rfl⟩
    rw[← hN] at hrow5
    have k5:(0:Int)≤(k:Int):=by omega
    have k6:(k:Int) < (n2:Int):=by omega
    clear d0 d1 hs1 hs2
    obtain⟨HI,Hz,Hrow,Hx,Hs,Ht,Hnext,Hset,Hba,Hrow5,Hbel5,Hbw5,HN,Hp6⟩:=hd14 hI hz hrow hx hs ht hnext hset hba hrow5 hbel5 hbw5 hN p6;clear hI hz hrow hx hs ht hnext hset hba hrow5 hbel5 hbw5 hN p6
    go_upto_region 10 with (fail)
    rw[← hw5,← hsb]
    clear hw5 hsb e0 e1
    go_wp2_with (at_builtin;(refine zav zer rfl (.tmp 32) (.tmp 39) rfl w.heap.size (.slice ra z rc) z N rfl Hrow5.out 1 _ rfl rfl (by simp[Value.oneCell']) (by omega) (by unfold maxLen;omega) Hbw5.out ?_;intro v9 w9 hown9 hg9 hm9;obtain⟨a9,c9,rfl⟩:=zaj hown9;have hb9:=(zbi Hbel5.out Hrow5.out (Nat.le_refl _) hg9 Hbw5.out:Below w.heap.size w w9);obtain⟨Hown9,Hb9⟩:=hd2 hown9 hb9;clear hown9 hg9 hm9 hb9))
    go_roundw
    case rel =>
     refine⟨k+1,by omega,by go_num,⟨?_,Hb9.out⟩⟩
     rw[Hnext.out,← List.append_assoc,zm6,← HN.out,← Nat.add_assoc,← Hz.out,Hset.out]
     exact Hown9.out
    case measure=>(simp[RowKit.intOf]) <;> omega
   obtain rfl:k=n2:=by omega
   have htk:(sets.take k).map setT=sets.map setT:=by rw[List.take_of_length_le (Nat.le_of_eq Hn2.out.symm)]
   have hws2:=Hws.out
   rw[HF0.out] at hws2
   rw[htk] at hrow
   have hlen:(F0 ++ sets.map setT).length=z:=by rw[List.length_append,List.length_map,hz,Hn2.out]
   have hRz:=Hwz.out Hfz.out
   by_cases hz0:z=0
   ·subst hz0
    have hL:F0 ++ sets.map setT = []:=List.eq_nil_of_length_eq_zero hlen
    rw[if_pos hL] at hws2
    have hlit:(wr.alloc (.cells #[.string ⟨#[42]⟩] 9)).ownsRow wr.heap.size 9 1 (.slice (some ⟨wr.heap.size,0,none⟩) 1 1) 1 [.string ⟨#[42]⟩]:=World.ownsRow_lit (base:=wr.heap.size) (e:=9) (size:=1) wr #[.string ⟨#[42]⟩] 1 (Nat.le_refl _) (by decide) rfl
    have hbz:Below w.heap.size w (wr.alloc (.cells #[.string ⟨#[42]⟩] 9)):=hI.bel.alloc hI.bel.size _
    obtain⟨HI,Hz,Hrow,Htk,Hws2,Hlen,HRz,HL,Hlit,Hbz⟩:=hd10 hI hz hrow htk hws2 hlen hRz hL hlit hbz;clear hI hz hrow htk hws2 hlen hRz hL hlit hbz
    go_wp2_with fail
    go_ret
    have hfin:R = [zds]:=Hws2.out
    refine⟨some ⟨wr.heap.size,0,none⟩,1,by rw[hfin];rfl,?_,Hbz.out⟩
    rw[hfin]
    exact ze6 (l:=[zds]) Hlit.out (fun x hx=>by rw[List.mem_singleton] at hx;rw[hx];decide)
   have k7:((z:Int) == 0)=false:=by rw[beq_eq_false_iff_ne];omega
   have hL:F0 ++ sets.map setT≠[]:=fun e=>by rw[e] at hlen;exact hz0 hlen.symm
   rw[if_neg hL] at hws2
   rw[← hws2] at hrow hlen
   have hI2:=hI
   obtain⟨HI,HI2,Hz,Hrow,Htk,Hws2,Hlen,HRz,HL,Hz0⟩:=hd10 hI hI2 hz hrow htk hws2 hlen hRz hL hz0;clear hI hI2 hz hrow htk hws2 hlen hRz hL hz0
   go_wp2_with fail
   go_ret
   refine⟨ra,rc,by rw[Hlen.out];rfl,?_,HI2.out.bel⟩
   rw[Hlen.out]
   exact ze6 Hrow.out HRz.out
 | false =>
  have hfn:fi=nm ++ (⟨#[64]⟩ ++ tx):=by rw[Hst.out,if_neg (of_decide_eq_false Hal.out.symm)]
  have hne:fi≠noT:=by rw[hfn];exact app_ne (ne_app (by decide))
  have hfz:fi.size≤9223372036854775807:=by
   have:=Hts.out
   have e1:=Hsize.out nm (⟨#[64]⟩ ++ tx)
   have e2:=Hsize.out ⟨#[64]⟩ tx
   have e3:(⟨#[64]⟩ : ByteArray).size=1:=rfl
   rw[hfn]
   omega
  obtain⟨F0,hFe⟩ : ∃ F:List ByteArray,F = [nm ++ (⟨#[64]⟩ ++ tx)]:=⟨_,rfl⟩
  have hF0:(if fi=noT then [] else [fi])=F0:=by rw[if_neg hne,hFe,hfn]
  have hF1:F0.length≤1:=by rw[hFe];exact Nat.le_refl _
  have k1:(nm ++ (⟨#[64]⟩ ++ tx)).toList.isEmpty=false:=by
   rw[Txt.no_dec]
   refine decide_eq_false fun h=>?_
   apply hne
   rw[hfn]
   exact Txt.ext (List.eq_nil_of_length_eq_zero (by rw[Txt.len];exact h))
  clear hnd
  have htxz:=Hts.out
  obtain⟨Hfn,Hne,HF0,Hfz,HFe,HF1⟩:=hd6 hfn hne hF0 hfz hFe hF1;clear hfn hne hF0 hfz hFe hF1
  go_wp2_with fail
  refine HA.out.mono ?_
  rintro e wz ⟨rfl,hwz'⟩
  subst hwz'
  go_wp2_with fail
  refine HT.out.mono ?_
  rintro e wt ⟨rfl,hbt1⟩
  have hbt:=Hb1.out.trans (hbt1.mono Hb1.out.size)
  have hpt:=za0 hbt1 Hp0.out
  have hbs:=hbt.size
  have hnil:wt.ownsRow w.heap.size 9 1 (.slice none 0 0) 0 []:=World.ownsRow_nil _ _ _ _
  obtain⟨Hbt1,Hbt,Hpt,Hnil⟩:=hd4 hbt1 hbt hpt hnil;clear hbt1 hbt hpt hnil
  go_wp2_with (at_builtin;(refine zav zer rfl (.tmp 21) (.tmp 23) rfl w.heap.size (.slice none 0 0) 0 [] rfl Hnil.out 1 _ rfl rfl (by simp[Value.oneCell']) (by omega) (by unfold maxLen;omega) hbs ?_;intro v9 w9 hown9 hg9 hm9;obtain⟨a9,c9,rfl⟩:=zaj hown9;have hb9:=(zbi Hbt.out Hnil.out (Nat.le_refl _) hg9 hbs:Below w.heap.size w w9);have Hp:=Lib.hid ((hg9.block g (Array.getElem?_eq_some_iff.1 Hpt.out).1 (by simp[Value.ownBlock])).trans Hpt.out:zai g (.string nm) (.slice a1 n1 c1) (.slice a2 n2 c2) w9);have HI:=Lib.hid (⟨by rw[HFe.out];exact hown9,hb9⟩ : WdI w sets F0 0 (.slice a9 1 c9) w9);obtain⟨y0,y1,y2,-⟩:=za4 Hp.out;clear hown9 hg9 hm9 hb9))
  clear x0 x1 x2 k1
  go_loopw [4,28] (fun v i wr=>∃ k:Nat,k≤n2∧i = .int .i64 k∧WdI w sets F0 k v wr) (fun _ i _=>n2 - (RowKit.intOf i).toNat)
  case atStart=>exact⟨0,Nat.zero_le _,rfl,HI.out⟩
  case round =>
   obtain⟨k,hk,rfl,hI⟩:=hrel
   obtain⟨z,hz⟩ : ∃ z,z=F0.length+k:=⟨_,rfl⟩
   have hrow:=hI.row
   rw[← hz] at hrow
   obtain⟨ra,rc,rfl⟩:=zaj hrow
   have hzs:z≤1001:=by have:=HF1.out;omega
   by_cases hlt:k < n2
   ·have hkl:k < sets.length:=by have:=Hn2.out;omega
    obtain⟨x,hx⟩ : ∃ x,x=sets[k]:=⟨_,rfl⟩
    obtain⟨b,off,rfl,d0,d1,hs1,hs2⟩:=Hat.out k x (by rw[hx];exact List.getElem?_eq_getElem hkl)
    have e0:=cell_later hI.bel d0
    have e1:=cell_later hI.bel d1
    have hnext:=zjo hkl
    rw[← hx] at hnext
    have hset:setT x=x.1 ++ ⟨#[61]⟩ ++ x.2:=rfl
    obtain⟨s,hs⟩ : ∃ s,s=x.1:=⟨_,rfl⟩
    obtain⟨t,ht⟩ : ∃ s,s=x.2:=⟨_,rfl⟩
    rw[← hs,← ht] at hset
    have hxz:=Hsz.out x (by rw[hx];exact List.getElem_mem hkl)
    rw[← hs,← ht] at hxz
    obtain⟨hss,htt⟩:=hxz
    rw[← hs] at e0
    rw[← ht] at e1
    obtain⟨sb,hsb⟩ : ∃ z,z=wr.heap.size:=⟨_,rfl⟩
    obtain⟨w5,hw5⟩ : ∃ W,W=wr.alloc (.cells #[.string s,.string t] 109):=⟨_,rfl⟩
    have hba:Below wr.heap.size wr w5:=by rw[hw5];exact za2 _ _
    have p6:w5.heap[sb]? = some (.cells #[.string s,.string t] 109 (0,0)):=by rw[hw5,hsb];exact heap_alloc_new _ _
    have f0:=za5 p6 0
    have f1:=za5 p6 1
    simp only[List.getElem?_toArray,List.getElem?_cons_zero,List.getElem?_cons_succ] at f0 f1
    have hrow5:=zag hrow hba
    have hbel5:=hI.bel.trans (hba.mono hI.bel.size)
    have hbw5:=hbel5.size
    obtain⟨N,hN⟩ : ∃ N,N=(F0 ++ (sets.take k).map setT).map Value.string:=⟨_,rfl⟩
    rw[← hN] at hrow5
    have k5:(0:Int)≤(k:Int):=by omega
    have k6:(k:Int) < (n2:Int):=by omega
    clear d0 d1 hs1 hs2
    obtain⟨HI,Hz,Hrow,Hx,Hs,Ht,Hnext,Hset,Hba,Hrow5,Hbel5,Hbw5,HN,Hp6⟩:=hd14 hI hz hrow hx hs ht hnext hset hba hrow5 hbel5 hbw5 hN p6;clear hI hz hrow hx hs ht hnext hset hba hrow5 hbel5 hbw5 hN p6
    go_upto_region 10 with (fail)
    rw[← hw5,← hsb]
    clear hw5 hsb e0 e1
    go_wp2_with (at_builtin;(refine zav zer rfl (.tmp 32) (.tmp 39) rfl w.heap.size (.slice ra z rc) z N rfl Hrow5.out 1 _ rfl rfl (by simp[Value.oneCell']) (by omega) (by unfold maxLen;omega) Hbw5.out ?_;intro v9 w9 hown9 hg9 hm9;obtain⟨a9,c9,rfl⟩:=zaj hown9;have hb9:=(zbi Hbel5.out Hrow5.out (Nat.le_refl _) hg9 Hbw5.out:Below w.heap.size w w9);obtain⟨Hown9,Hb9⟩:=hd2 hown9 hb9;clear hown9 hg9 hm9 hb9))
    go_roundw
    case rel =>
     refine⟨k+1,by omega,by go_num,⟨?_,Hb9.out⟩⟩
     rw[Hnext.out,← List.append_assoc,zm6,← HN.out,← Nat.add_assoc,← Hz.out,Hset.out]
     exact Hown9.out
    case measure=>(simp[RowKit.intOf]) <;> omega
   obtain rfl:k=n2:=by omega
   have htk:(sets.take k).map setT=sets.map setT:=by rw[List.take_of_length_le (Nat.le_of_eq Hn2.out.symm)]
   have hws2:=Hws.out
   rw[HF0.out] at hws2
   rw[htk] at hrow
   have hlen:(F0 ++ sets.map setT).length=z:=by rw[List.length_append,List.length_map,hz,Hn2.out]
   have hRz:=Hwz.out Hfz.out
   by_cases hz0:z=0
   ·subst hz0
    have hL:F0 ++ sets.map setT = []:=List.eq_nil_of_length_eq_zero hlen
    rw[if_pos hL] at hws2
    have hlit:(wr.alloc (.cells #[.string ⟨#[42]⟩] 9)).ownsRow wr.heap.size 9 1 (.slice (some ⟨wr.heap.size,0,none⟩) 1 1) 1 [.string ⟨#[42]⟩]:=World.ownsRow_lit (base:=wr.heap.size) (e:=9) (size:=1) wr #[.string ⟨#[42]⟩] 1 (Nat.le_refl _) (by decide) rfl
    have hbz:Below w.heap.size w (wr.alloc (.cells #[.string ⟨#[42]⟩] 9)):=hI.bel.alloc hI.bel.size _
    obtain⟨HI,Hz,Hrow,Htk,Hws2,Hlen,HRz,HL,Hlit,Hbz⟩:=hd10 hI hz hrow htk hws2 hlen hRz hL hlit hbz;clear hI hz hrow htk hws2 hlen hRz hL hlit hbz
    go_wp2_with fail
    go_ret
    have hfin:R = [zds]:=Hws2.out
    refine⟨some ⟨wr.heap.size,0,none⟩,1,by rw[hfin];rfl,?_,Hbz.out⟩
    rw[hfin]
    exact ze6 (l:=[zds]) Hlit.out (fun x hx=>by rw[List.mem_singleton] at hx;rw[hx];decide)
   have k7:((z:Int) == 0)=false:=by rw[beq_eq_false_iff_ne];omega
   have hL:F0 ++ sets.map setT≠[]:=fun e=>by rw[e] at hlen;exact hz0 hlen.symm
   rw[if_neg hL] at hws2
   rw[← hws2] at hrow hlen
   have hI2:=hI
   obtain⟨HI,HI2,Hz,Hrow,Htk,Hws2,Hlen,HRz,HL,Hz0⟩:=hd10 hI hI2 hz hrow htk hws2 hlen hRz hL hz0;clear hI hI2 hz hrow htk hws2 hlen hRz hL hz0
   go_wp2_with fail
   go_ret
   refine⟨ra,rc,by rw[Hlen.out];rfl,?_,HI2.out.bel⟩
   rw[Hlen.out]
   exact ze6 Hrow.out HRz.out
end

namespace LexM
def zp7 (N:Nat) (x:Wd):Prop:=1≤x.1∧x.1≤(N:Int)∧x.2≠[]∧x.2.length≤N
def zl6 (N:Nat) (l:Ln):Prop:=1≤l.1∧l.2≠[]∧l.2.length≤40∧∀ x∈l.2,zp7 N x
theorem zp7.mono {N M:Nat} (h:N≤M) {x:Wd} (g:zp7 N x):zp7 M x:=⟨g.1,by have:=g.2.1;omega,g.2.2.1,Nat.le_trans g.2.2.2 h⟩
theorem rerr_room {t:Bs} {room:Bool} {s:RS} {i:Nat} {c:UInt8} (h:rerr t room s i c=0) (hk:rskip t s i c=false):s.out.length≠40:=by
 intro e
 unfold rerr at h
 rw[hk] at h
 split at h
 ·cases h
 simp[e] at h
theorem zr9 {t:Bs} {room:Bool}:∀ (r:Bs) (s:RS) (i:Nat),t.drop i=r→s.out.length≤40→(∀ x∈s.out,zp7 t.length x)→(∀ x∈(rgo t room s i r).1,zp7 t.length x)∧(rgo t room s i r).1.length≤40
 | [],s,i,_,hl,h=>⟨h,hl⟩
 | c :: r,s,i,hd,hl,h=>by
  obtain⟨hg,hd2,hi⟩:=zfr hd
  unfold rgo
  by_cases he:rerr t room s i c=0
  ·rw[if_pos he]
   refine zr9 r _ (i+1) hd2 ?_ ?_
   ·unfold rnext
    dsimp only
    split
    ·exact hl
    rename_i hk
    have:=rerr_room he (by simpa using hk)
    rw[List.length_append,List.length_singleton]
    omega
   intro x hx
   unfold rnext at hx
   dsimp only at hx
   split at hx
   ·exact h x hx
   rename_i hk
   rcases List.mem_append.1 hx with hx | hx
   ·exact h x hx
   rw[List.mem_singleton] at hx
   subst hx
   have hp:part c=true:=by
    unfold rskip at hk
    simp only[Bool.or_eq_true,not_or,Bool.not_eq_true',Bool.not_eq_false] at hk
    exact hk.1.2
   refine⟨by show (1:Int)≤(i:Int)+1;omega,by show (i:Int)+1≤(t.length:Int);omega,?_,?_⟩
   ·show wordAt t i≠[]
    rw[znc hd hp]
    simp
   show (wordAt t i).length≤t.length
   unfold wordAt
   refine Nat.le_trans (List.takeWhile_sublist _).length_le ?_
   rw[List.length_drop]
   omega
  rw[if_neg he]
  exact⟨h,hl⟩
theorem zld (t:Bs) (room:Bool):(∀ x∈(rline t room).1,zp7 t.length x)∧(rline t room).1.length≤40:=zr9 t _ 0 rfl (Nat.zero_le _) (fun x hx=>by simp at hx)
theorem zlw {N:Nat} {out:List Ln} {n:Int} {ws:List Wd} (h:∀ l∈out,zl6 N l) (hn:1≤n) (h40:ws.length≤40) (hw:∀ x∈ws,zp7 N x):∀ l∈addLn out n ws,zl6 N l:=by
 unfold addLn
 split
 ·exact h
 rename_i h0
 intro l hl
 rcases List.mem_append.1 hl with hl | hl
 ·exact h l hl
 rw[List.mem_singleton] at hl
 subst hl
 exact⟨hn,h0,h40,hw⟩
theorem zp4 (out:List Ln) (n:Int) (ws:List Wd):(addLn out n ws).length≤out.length+1:=by
 unfold addLn
 split <;> simp
theorem zgt {N:Nat}:∀ (r:Bs) (n:Int) (cur:Bs) (out:List Ln),1≤n→cur.length+r.length≤N→(∀ l∈out,zl6 N l)→(∀ l∈(rlines n cur out r).lines,zl6 N l)∧(rlines n cur out r).lines.length≤out.length+r.length+1
 | [],n,cur,out,hn,hN,h=>by
  have hg:=zld cur (decide (out.length < 2000))
  simp only[List.length_nil] at hN
  unfold rlines
  dsimp only
  split
  ·exact⟨zlw h hn hg.2 (fun x hx=>(hg.1 x hx).mono (by omega)),by have:=zp4 out n (rline cur (decide (out.length < 2000))).1;simp;omega⟩
  exact⟨fun l hl=>by simp at hl,by simp⟩
 | c :: r,n,cur,out,hn,hN,h=>by
  have hg:=zld cur (decide (out.length < 2000))
  simp only[List.length_cons] at hN ⊢
  unfold rlines
  split
  ·dsimp only
   split
   ·have:=zgt r (n+1) [] (addLn out n (rline cur (decide (out.length < 2000))).1) (by omega) (by simp;omega) (zlw h hn hg.2 (fun x hx=>(hg.1 x hx).mono (by omega)))
    have h2:=zp4 out n (rline cur (decide (out.length < 2000))).1
    exact⟨this.1,by omega⟩
   exact⟨fun l hl=>by simp at hl,by simp⟩
  have:=zgt r n (cur ++ [c]) out hn (by simp;omega) h
  exact⟨this.1,by omega⟩
theorem doc_good (t:Bs):(∀ l∈(docLines t).lines,zl6 t.length l)∧(docLines t).lines.length≤t.length+1:=by
 unfold docLines
 split
 ·exact⟨fun l hl=>by simp at hl,by simp⟩
 have:=zgt (N:=t.length) t 1 [] [] (by omega) (by simp) (fun l hl=>by simp at hl)
 simpa using this
theorem doc_good7 (t:Bs):(∀ l∈(docLines t).lines,zl6 70000 l)∧(docLines t).lines.length≤70001:=by
 by_cases h:65536 < t.length
 ·unfold docLines
  rw[if_pos h]
  exact⟨fun l hl=>by simp at hl,by simp⟩
 have h1:=doc_good t
 exact⟨fun l hl=>by obtain⟨k1,k2,k3,k4⟩:=h1.1 l hl;exact⟨k1,k2,k3,fun x hx=>(k4 x hx).mono (by omega)⟩,by omega⟩
end LexM

section
open Go.Lib VerN VarM
open LexM (Wd Ln)
abbrev zs7:=List Wd→Nat→Option Spc3 × Nat
def zf8 (R:zs7) (t:ByteArray) (s:Spc3):Prop:=(LexM.docLines t.data.toList).e=0∧∃ ln,(LexM.docLines t.data.toList).lines = [ln]∧wt ln.2=t.data.toList∧R ln.2 0=(some s,ln.2.length)
open Classical in
noncomputable def zeh (R:zs7) (s:Spc3):ByteArray × Bool:=if zf8 R (zfc s) s then (zfc s,true) else (noT,false)
theorem zfg {R:zs7} {s:Spc3} (h:zf8 R (zfc s) s):zeh R s=(zfc s,true):=by unfold zeh;rw[if_pos h]
theorem zj3 {R:zs7} {s:Spc3} (h:¬ zf8 R (zfc s) s):zeh R s=(noT,false):=by unfold zeh;rw[if_neg h]
structure Sp (s:Spc3) (l:List Tp):Prop where
 sp:s.2.1=tB l
 l1:l.length≤1000
 nm:s.1.size≤9000
 sl:s.2.2.length≤1000
 sz:∀ x∈s.2.2,x.1.size≤9000∧x.2.size≤9000
theorem zfy (a b:ByteArray):(a ++ b).size=a.size+b.size:=by rw[← Txt.len,Go.Joins.data_append,List.length_append,Txt.len,Txt.len]
theorem Sp.first {s:Spc3} {l:List Tp} (h:Sp s l):(zbg s).size≤20009001:=by
 have h1:=zma l h.l1
 have h2:=h.nm
 unfold zbg
 rw[h.sp]
 split
 ·omega
 rw[zfy,zfy]
 have:(⟨#[64]⟩ : ByteArray).size=1:=rfl
 omega
theorem Sp.words {s:Spc3} {l:List Tp} (h:Sp s l):(∀ x∈zdb s,x.size≤20009001)∧(zdb s).length≤1001∧zdb s≠[]:=by
 have hs:∀ x∈(if zbg s=noT then [] else [zbg s]) ++ s.2.2.map setT,x.size≤20009001:=fun x hx=>by
  rcases List.mem_append.1 hx with hx | hx
  ·split at hx
   ·simp at hx
   rw[List.mem_singleton] at hx
   rw[hx]
   exact h.first
  obtain⟨y,hy,rfl⟩:=List.mem_map.1 hx
  have:=h.sz y hy
  unfold setT
  rw[zfy,zfy]
  have e:(⟨#[61]⟩ : ByteArray).size=1:=rfl
  omega
 have hl:((if zbg s=noT then [] else [zbg s]) ++ s.2.2.map setT).length≤1001:=by
  have:=h.sl
  rw[List.length_append,List.length_map]
  split <;> simp <;> omega
 unfold zdb
 by_cases hc:(if zbg s=noT then [] else [zbg s]) ++ s.2.2.map setT = []
 ·rw[if_pos hc]
  exact⟨fun x hx=>by rw[List.mem_singleton] at hx;rw[hx];decide,by simp,by simp⟩
 rw[if_neg hc]
 exact⟨hs,hl,hc⟩
theorem Sp.text {s:Spc3} {l:List Tp} (h:Sp s l):(zfc s).size≤30000000000:=by
 obtain⟨h1,h2,h3⟩:=h.words
 rw[zm8,← Txt.len,zdy]
 have hb:∀ x∈(zdb s).map (·.data.toList),x.length≤20009001:=by
  intro x hx
  obtain⟨y,hy,rfl⟩:=List.mem_map.1 hx
  rw[Txt.len]
  exact h1 y hy
 have h4:=zk6 20009001 _ hb
 have h5:((zdb s).map (·.data.toList)).length≤1001:=by simpa using h2
 obtain⟨L,hL⟩ : ∃ L,L=(zdb s).map (·.data.toList):=⟨_,rfl⟩
 rw[← hL] at h4 h5 ⊢
 cases L with
 | nil=>simp[Lib.join_nil]
 | cons x r =>
  rw[Lib.join_length]
  simp only[List.length_cons,List.length_nil] at *
  omega
open LexM (zl6)
theorem zj0 {ln:Ln} (h:zl6 70000 ln):(wt ln.2).length≤3000000:=by
 have hs:∀ (ws:List Wd),(∀ x∈ws,x.2.length≤70000)→(wt ws).length≤70001 * ws.length:=by
  intro ws
  have hf:∀ (r:List Wd),(∀ x∈r,x.2.length≤70000)→(r.flatMap fun y=>(32:UInt8) :: y.2).length≤70001 * r.length:=by
   intro r
   induction r with
   | nil=>intro _;simp
   | cons y r ih =>
    intro h
    have h1:=ih (fun x hx=>h x (by simp[hx]))
    have h2:=h y (by simp)
    rw[List.flatMap_cons,List.length_append,List.length_cons,List.length_cons]
    omega
  cases ws with
  | nil=>intro _;simp[wt]
  | cons x r =>
   intro h
   have h1:=hf r (fun y hy=>h y (by simp[hy]))
   have h2:=h x (by simp)
   show (x.2 ++ r.flatMap fun y=>(32:UInt8) :: y.2).length≤_
   rw[List.length_append,List.length_cons]
   omega
 have h1:=hs ln.2 (fun x hx=>(h.2.2.2 x hx).2.2.2)
 have h2:=h.2.2.1
 omega
theorem zi7 (ln:Ln):ltx [ln]=wt ln.2 ++ [10]:=by simp[ltx]
theorem ltx_eq (ln:Ln) (t:ByteArray):((⟨(ltx [ln]).toArray⟩ : ByteArray).toList == (t ++ ⟨#[10]⟩ : ByteArray).toList)=decide (wt ln.2=t.data.toList):=by
 rw[Txt.eq_dec]
 refine decide_eq_decide.2 ⟨fun h=>?_,fun h=>?_⟩
 ·have h1:=congrArg (fun x:ByteArray=>x.data.toList) h
  simp only[Go.Joins.data_append] at h1
  rw[zi7] at h1
  exact List.append_inj_left' h1 rfl
 apply Txt.ext
 rw[Go.Joins.data_append,← h]
 exact zi7 ln
end

section
open Go.Shelf Go.RowKit Go.Lib VerN VarM
open LexM (Wd)
attribute [local go_sem ↓] Go.wp_at_zero Go.wp_at_succ
abbrev thrownV (c:Int):Value:=.iface 206 (.agg #[.int .i64 c])
theorem ziw (v:Value) (w:World):(Instr.typeAssert (.iface 206 v) 20 206 true).run Tryz.prog w = .ok (.tuple #[v,.bool true]) w:=by
 have u:=Tryz.underlying206
 unfold Instr.typeAssert
 simp[Sem.run_bind,Sem.run_pure,u,go_sem]
theorem zts (g:Nat) (w:World):CallsD Tryz.prog 150 #[.pointer (some ⟨g,0,none⟩)] .returning w fun e u' w'=>e = .returned (.tuple #[])∧u' = .returning∧w'=w:=by
 refine callsD_of_wpS Tryz.func150 rfl fun c₀ cs hu=>?_
 apply wpS_seq
 apply wpS_region
 simp[wpOpsS,go_sem,recoverD,hu,Tryz.ntmps150,Exit.thenS]
 have Hu:=hd hu;clear hu
 simp only[Array.replicate_succ,Array.replicate_zero,List.push_toArray,List.append_toArray,List.nil_append,List.cons_append,lA,lB,lC]
 refine wpS_of_wp ?_
 generalize hQ:(fun (e:Exit) (a':Act) (w':World)=>_)=Q
 have HQ:=hd hQ;clear hQ
 go_wp2_with fail
 rw[← HQ.out]
 cases c₀
 have hu:=Hu.out
 simp_all [bodyPostS,results,Tryz.results150]
theorem zqi (g:Nat) (c x:Int) (w:World) (hg:w.heap[g]? = some (.cells #[.int .i64 x] 3 (0,0))) :
  CallsD Tryz.prog 150 #[.pointer (some ⟨g,0,none⟩)] (.panicking [{ v:=thrownV c,recovered:=false }]) w fun e u' w' =>
   e = .returned (.tuple #[])∧u' = .panicking [{ v:=thrownV c,recovered:=true }]∧w'=(w.alloc (.cells #[.int .i64 c] 206)).setCell ⟨g,0,none⟩ (.int .i64 c):=by
 refine callsD_of_wpS Tryz.func150 rfl fun c₀ cs hu=>?_
 apply wpS_seq
 apply wpS_region
 simp[wpOpsS,go_sem,recoverD,hu,Tryz.ntmps150,Exit.thenS]
 have ra:=ziw (.agg #[.int .i64 c])
 have q0:=za5 hg 0
 have q1:=zad hg 0
 have q2:=za0 (za2 w (.cells #[.int .i64 c] 206)) hg
 have q3:=za5 q2 0
 have q4:=zad q2 0
 have Hu:=hd hu;clear hu
 simp only[Array.replicate_succ,Array.replicate_zero,List.push_toArray,List.append_toArray,List.nil_append,List.cons_append,lA,lB,lC]
 refine wpS_of_wp ?_
 generalize hQ:(fun (e:Exit) (a':Act) (w':World)=>_)=Q
 have HQ:=hd hQ;clear hQ
 go_wp2_with fail
 rw[← HQ.out]
 cases c₀
 have hu:=Hu.out
 clear ra q0 q1 q2 q3 q4 hg
 simp_all [bodyPostS,results,Tryz.results150]
theorem zls {w:World} {f:FuncId} {caps:Array Value} (eg:∀ args w,(callFunc f args).run Tryz.prog w = .ok (.enter f args) w) {A:World→Prop} {B:Int→World→Prop}
  (h:Calls Tryz.prog f caps (w.alloc (.cells #[.int .i64 0] 3)) fun e w'=>((e = .returned (.tuple #[])∧A w')∨∃ c,e=zha c∧B c w')∧w'.heap[w.heap.size]? = some (.cells #[.int .i64 0] 3 (0,0))) :
  Calls Tryz.prog 91 #[.func (.func f) #[] caps] w fun e w'=>(∃ w1,A w1∧e = .returned (.int .i64 0)∧w'=w1.setCell ⟨w.heap.size,0,none⟩ (.int .i64 0))∨(∃ c w1,B c w1∧e = .returned (.int .i64 c)∧w'=(w1.alloc (.cells #[.int .i64 c] 206)).setCell ⟨w.heap.size,0,none⟩ (.int .i64 c)):=by
 have hmf:∀ (fn:Fn) (first cap:Array Value) (w:World),(Instr.makeFunc fn first cap).run Tryz.prog w = .ok (.func fn first cap) w:=fun _ _ _ _=>rfl
 have Hh:=hd h;clear h
 go_enter_defers Tryz.func91,Tryz.ntmps91
 go_wp2_with fail
 refine Hh.out.mono ?_
 rintro e w1 ⟨⟨rfl,hA⟩ | ⟨c,rfl,hB⟩,hbx⟩
 ·have q0:=za5 hbx 0
  have q1:=zad hbx 0
  simp only[List.getElem?_toArray,List.getElem?_cons_zero] at q0
  obtain⟨HA,Hbx⟩:=hd2 hA hbx;clear hA hbx
  go_wp2_with fail
  refine leaves_cons (f:=150) (args:=#[.pointer (some ⟨w.heap.size,0,none⟩)]) (by simp) (by simp[go_sem]) ?_
  refine (zts _ _).mono ?_
  rintro e u' w'' ⟨rfl,rfl,rfl⟩
  have q2:=za5 (heap_setCell_same w1 w.heap.size 0 _ _ (.int .i64 0) Hbx.out) 0
  have q2:(w1.setCell ⟨w.heap.size,0,none⟩ (.int .i64 0)).cell? ⟨w.heap.size,0,none⟩=some (.int .i64 0):=q2
  simp[Leaves,settle,results,Tryz.results91,go_sem,q2]
  exact .inl ⟨_,HA.out,rfl⟩
 have HB:=hd hB;clear hB
 go_wp2_with fail
 refine leaves_cons (f:=150) (args:=#[.pointer (some ⟨w.heap.size,0,none⟩)]) (by simp) (by simp[go_sem]) ?_
 refine (zqi _ c 0 _ hbx).mono ?_
 rintro e u' w'' ⟨rfl,rfl,rfl⟩
 have q2:=za5 (heap_setCell_same _ w.heap.size 0 _ _ (.int .i64 c) (za0 (za2 w1 (.cells #[.int .i64 c] 206)) hbx)) 0
 have q2:((w1.alloc (.cells #[.int .i64 c] 206)).setCell ⟨w.heap.size,0,none⟩ (.int .i64 c)).cell? ⟨w.heap.size,0,none⟩=some (.int .i64 c):=q2
 simp[Leaves,settle,results,Tryz.results91,go_sem,q2]
 exact .inr ⟨_,_,HB.out,rfl,rfl⟩
end

section
open Go.Shelf Go.RowKit Go.Lib VerN VarM
open LexM (Wd)
attribute [local go_sem ↓] Go.wp_at_zero Go.wp_at_succ
def TakenA (r sb:Nat) (a:Option Addr) (n c:Nat) (fin:Int) (ws:List Wd) (w w':World):Prop :=
 ∃ s j b1 n1 c1 b2 n2 c2,zbq ws 0=(some s,j)∧zai sb (.string s.1) (.slice b1 n1 c1) (.slice b2 n2 c2) w'∧zcq w' (.slice b1 n1 c1) s.2.1∧zb9 w' (.slice b2 n2 c2) s.2.2∧RBox r (.slice a n c) j fin w'∧Frm (fun k=>k=r∨k=sb) w w'
def TakenB (r sb:Nat) (fin:Int) (ws:List Wd) (w:World) (col:Int) (w':World):Prop :=
 ∃ j,zbq ws 0=(none,j)∧col=zb8 ws fin j∧Frm (fun k=>k=r∨k=sb) w w'
abbrev fWish:Value:=.func (.func 132) #[] #[]
theorem one1_any {w0 w:World} {r tb rb sb cb:Nat} {a:Option Addr} {n c:Nat} {fin:Int} {ws:List Wd} (C:RdC w0 r a n c fin ws) (S:RdS w0 r a n c fin 0 w)
  (ht:w.heap[tb]? = some (.cells #[fWish] 187 (0,0))) (hr:w.heap[rb]? = some (.cells #[rp r] 135 (0,0))) (hs:zai sb (.string ⟨#[]⟩) (.slice none 0 0) (.slice none 0 0) w)
  (hc:w.heap[cb]? = some (.cells #[.int .i64 0] 3 (0,0))) (n1:cb≠r) (n2:cb≠sb) (n3:r≠sb) :
  Calls Tryz.prog 180 #[.pointer (some ⟨tb,0,none⟩),.pointer (some ⟨rb,0,none⟩),.pointer (some ⟨sb,0,none⟩)] w fun e w'=>((e = .returned (.tuple #[])∧TakenA r sb a n c fin ws w w')∨∃ col,e=zha col∧TakenB r sb fin ws w col w')∧w'.heap[cb]? = some (.cells #[.int .i64 0] 3 (0,0)):=by
 have t0:=za5 ht 0
 have r0:=za5 hr 0
 simp only[List.getElem?_toArray,List.getElem?_cons_zero] at t0 r0
 have hW:=wish_any C S (by omega)
 obtain⟨HC,HS,Ht,Hr,Hs,Hc,HW⟩:=hd7 C S ht hr hs hc hW;clear C S ht hr hs hc hW
 go_enter Tryz.func180,Tryz.ntmps180
 go_wp2_with fail
 refine HW.out.mono ?_
 rintro e w1 ⟨⟨s,j,v1,v2,hw,rfl,hv1,hv2,hbx⟩ | ⟨j,hw,rfl⟩,hfr⟩
 ·obtain⟨b1,c1,rfl⟩:=zbf hv1.1
  obtain⟨b2,c2,rfl⟩:=zc9 hv2.1
  obtain⟨z1,hz1⟩ : ∃ z,z=s.2.1.length:=⟨_,rfl⟩
  obtain⟨z2,hz2⟩ : ∃ z,z=s.2.2.length:=⟨_,rfl⟩
  rw[← hz1] at hv1 ⊢
  rw[← hz2] at hv2 ⊢
  have hs1:=zac hfr Hs.out (by omega)
  have hc1:=zac hfr Hc.out n1
  obtain⟨_,_,_,f0,f1,f2⟩:=za4 hs1
  obtain⟨Hw,Hv1,Hv2,Hbx,Hfr,Hs1,Hc1,Hz1,Hz2⟩:=hd9 hw hv1 hv2 hbx hfr hs1 hc1 hz1 hz2;clear hw hv1 hv2 hbx hfr hs1 hc1 hz1 hz2
  go_wp2_with fail
  go_end0
  obtain⟨W8,hW8⟩ : ∃ W,W=((w1.setCell ⟨sb,0,none⟩ (.string s.1)).setCell ⟨sb,1,none⟩ (.slice b1 z1 c1)).setCell ⟨sb,2,none⟩ (.slice b2 z2 c2):=⟨_,rfl⟩
  rw[← hW8]
  have hT8:Frm (fun k=>k=r∨k=sb) w1 W8:=by
   rw[hW8]
   exact (((Frm.refl _ w1).setCell (p:=⟨sb,0,none⟩) (.inr (.inr rfl)) _).setCell (p:=⟨sb,1,none⟩) (.inr (.inr rfl)) _).setCell (p:=⟨sb,2,none⟩) (.inr (.inr rfl)) _
  have k0:=heap_setCell_same _ sb 0 _ _ (.string s.1) Hs1.out
  have k1:=heap_setCell_same _ sb 1 _ _ (.slice b1 z1 c1) k0
  have k2:=heap_setCell_same _ sb 2 _ _ (.slice b2 z2 c2) k1
  have hno:No2 w1 (fun k=>k=r∨k=sb):=by
   rintro k (rfl | rfl)
   ·exact zaq Hbx.out (by decide) (by decide)
   exact zaq Hs1.out (by decide) (by decide)
  have hcb:W8.heap[cb]? = some (.cells #[.int .i64 0] 3 (0,0)):=zac hT8 Hc1.out (by rintro (h | h);exact n1 h;exact n2 h)
  refine⟨.inl ⟨rfl,s,j,b1,z1,c1,b2,z2,c2,Hw.out,by rw[hW8];exact k2,zam Hv1.out hT8 hno,zas Hv2.out hT8 hno,?_,?_⟩,hcb⟩
  ·rw[hW8];exact za3 (za3 (za3 Hbx.out n3) n3) n3
  exact Frm.trans (T:=fun k=>k=r∨k=sb) (Hfr.out.mono (fun _ _ h=>.inl h)) hT8 (fun _ _ h=>h)
 have hc1:=zac hfr Hc.out n1
 obtain⟨Hw,Hfr,Hc1⟩:=hd3 hw hfr hc1;clear hw hfr hc1
 go_wp2_with fail
 exact⟨rfl,.inr ⟨_,rfl,j,Hw.out,rfl,Hfr.out.mono (fun _ _ h=>.inl h)⟩,Hc1.out⟩
theorem zbe {P:Program} {fn:Func} {p u v:Tmp} {ty t:TypeId} (h:fn.results=#[.cell p ty,.tmp u,.tmp v]) {tmps:Array Value} {w:World} {g:Nat} {cs:Array Value} {d:TypeDesc} {x y:Value}
  (hp:tmps.getD p undef = .pointer (some ⟨g,0,none⟩)) (hx:tmps.getD u undef=x) (hy:tmps.getD v undef=y) (hg:w.heap[g]? = some (.cells cs t (0,0)))
  (hu:P.underlying ty=some d) (hd:(match d with | .struct _ | .array _ _=>true | _=>false)=true) (hi:(P.info? ty).map (·.size)=some cs.size) :
  (results fn tmps).run P w = .ok (.tuple #[.agg cs,x,y]) w:=by
 have hl:=run_loadVar_row w g t ty cs (0,0) d hg hu hd hi
 have hp':tmps[p]?.getD undef = .pointer (some ⟨g,0,none⟩):=by simpa using hp
 have hx':tmps[u]?.getD undef=x:=by simpa using hx
 have hy':tmps[v]?.getD undef=y:=by simpa using hy
 simp only[results,h]
 simp[Sem.run_bind,Result.andThen,asAddr,hp',hx',hy',hl]
def zie (fin:Int) (ws:List Wd) (w:World) (e:Ending) (w':World):Prop :=
 ((∃ s j b1 n1 c1 b2 n2 c2,zbq ws 0=(some s,j)∧e = .returned (.tuple #[.agg #[.string s.1,.slice b1 n1 c1,.slice b2 n2 c2],.int .i64 j,.int .i64 0])∧zcq w' (.slice b1 n1 c1) s.2.1∧zb9 w' (.slice b2 n2 c2) s.2.2) ∨
  (∃ j,zbq ws 0=(none,j)∧e = .returned (.tuple #[.agg #[.string ⟨#[]⟩,.slice none 0 0,.slice none 0 0],.int .i64 0,.int .i64 (zb8 ws fin j)])))∧Below w.heap.size w w'
theorem zmg {w:World} {a:Option Addr} {n c:Nat} {fin:Int} {ws:List Wd} (hws:RWds w [.slice a n c] ws) (hD:zbk w) (hn:n≤1000) (hz:∀ x∈ws,x.2.length≤70000) (hcol:∀ j,zb8 ws fin j≠0):Calls Tryz.prog 130 #[.slice a n c,.int .i64 fin,fWish] w (zie fin ws w):=by
 obtain⟨h,hh⟩ : ∃ h,h=w.heap.size:=⟨_,rfl⟩
 obtain⟨W5,hW5⟩ : ∃ W,W=(((((w.alloc (.cells #[fWish] 187)).alloc (.cells #[.string ⟨#[]⟩,.slice none 0 0,.slice none 0 0] 51)).alloc (.cells #[.slice a n c,.int .i64 0,.int .i64 fin] 137)).alloc (.cells #[rp (h+1+1)] 135)).alloc (.cells #[.string ⟨#[]⟩,.slice none 0 0,.slice none 0 0] 51)):=⟨_,rfl⟩
 have hs5:W5.heap.size=h+5:=by rw[hW5,hh];simp
 have k1:∀ {w':World} {o:Obj} {k:Nat} {o':Obj},w'.heap[k]? = some o→(w'.alloc o').heap[k]? = some o:=fun h=>za0 (za2 _ _) h
 have hb5:Below w.heap.size w W5:=by rw[hW5];exact ((((Below.refl _ w).alloc (Nat.le_refl _) _).alloc (by simp) _).alloc (by simp;omega) _).alloc (by simp;omega) _ |>.alloc (by simp;omega) _
 have q0:W5.heap[h]? = some (.cells #[fWish] 187 (0,0)):=by rw[hW5,hh];exact k1 (k1 (k1 (k1 (za8 rfl))))
 have q1:zai (h+1) (.string ⟨#[]⟩) (.slice none 0 0) (.slice none 0 0) W5:=by rw[hW5,hh];exact k1 (k1 (k1 (za8 (by simp))))
 have q2:RBox (h+1+1) (.slice a n c) 0 fin W5:=by rw[hW5,hh];exact k1 (k1 (za8 (by simp)))
 have q3:W5.heap[h+1+1+1]? = some (.cells #[rp (h+1+1)] 135 (0,0)):=by rw[hW5,hh];exact k1 (za8 (by simp))
 have q4:zai (h+1+1+1+1) (.string ⟨#[]⟩) (.slice none 0 0) (.slice none 0 0) W5:=by rw[hW5,hh];exact za8 (by simp)
 have hC:RdC w (h+1+1) a n c fin ws:=⟨hws,hD,by omega,hn,hz⟩
 have hS:RdS w (h+1+1) a n c fin 0 (W5.alloc (.cells #[.int .i64 0] 3)):=⟨k1 q2,hb5.alloc hb5.size _⟩
 have hO:=one1_any (tb:=h) (rb:=h+1+1+1) (sb:=h+1+1+1+1) (cb:=W5.heap.size) hC hS (k1 q0) (k1 q3) (k1 q4) (heap_alloc_new W5 _) (by omega) (by omega) (by omega)
 have hCa:=zls (enters_of Tryz.func180 (by kernel_rfl) rfl) (caps:=#[.pointer (some ⟨h,0,none⟩),.pointer (some ⟨h+1+1+1,0,none⟩),.pointer (some ⟨h+1+1+1+1,0,none⟩)]) hO
 have q1':=k1 (o':=.cells #[.int .i64 0] 3) q1
 have q3':=k1 (o':=.cells #[.int .i64 0] 3) q3
 clear q0 q1 q2 q3 q4 hO k1
 have hb6:Below w.heap.size w (W5.alloc (.cells #[.int .i64 0] 3)):=hb5.alloc hb5.size _
 obtain⟨Hws,HD,Hz,Hcol,Hb5,HC,HS,HCa,Hq1',Hq3',Hb6⟩:=hd11 hws hD hz hcol hb5 hC hS hCa q1' q3' hb6;clear hws hD hz hcol hb5 hC hS hCa q1' q3' hb6
 go_enter Tryz.func130,Tryz.ntmps130
 go_upto_region 3 with (fail)
 rw[← hh,← hW5]
 clear hW5
 have hle:w.heap.size≤h:=Nat.le_of_eq hh.symm
 clear hh
 go_wp2_with fail
 refine HCa.out.mono ?_
 rintro e w2 (⟨w1,⟨s,j,b1,n1,c1,b2,n2,c2,hw,hsb,hv1,hv2,hbx,hfr⟩,rfl,rfl⟩ | ⟨col,w1,⟨j,hw,hcl,hfr⟩,rfl,rfl⟩)
 ·have hz6:=hfr.size
  simp only[World.size_alloc] at hz6
  have hcb:w1.heap[W5.heap.size]? = some (.cells #[.int .i64 0] 3 (0,0)):=zac hfr (heap_alloc_new W5 _) (by omega)
  have hq1:=zac hfr Hq1'.out (by omega)
  have hq3:=zac hfr Hq3'.out (by omega)
  obtain⟨W2,hW2⟩ : ∃ W,W=w1.setCell ⟨W5.heap.size,0,none⟩ (.int .i64 0):=⟨_,rfl⟩
  rw[← hW2]
  have x1:zai (h+1) (.string ⟨#[]⟩) (.slice none 0 0) (.slice none 0 0) W2:=by rw[hW2];exact za3 hq1 (by omega)
  have x3:W2.heap[h+1+1+1]? = some (.cells #[rp (h+1+1)] 135 (0,0)):=by rw[hW2];exact za3 hq3 (by omega)
  have x2:RBox (h+1+1) (.slice a n c) j fin W2:=by rw[hW2];exact za3 hbx (by omega)
  have x4:zai (h+1+1+1+1) (.string s.1) (.slice b1 n1 c1) (.slice b2 n2 c2) W2:=by rw[hW2];exact za3 hsb (by omega)
  have y3:=za5 x3 0
  simp only[List.getElem?_toArray,List.getElem?_cons_zero] at y3
  obtain⟨_,y2,_,_⟩:=zbl x2
  obtain⟨z0,z1,z2,_,_,_⟩:=za4 x4
  obtain⟨_,_,_,f0,f1,f2⟩:=za4 x1
  obtain⟨Hw,Hsb,Hv1,Hv2,Hbx,Hfr,Hcb,Hq1,Hq3,Hx1,Hx2,Hx3,Hx4,HW2,Hz6⟩:=hd15 hw hsb hv1 hv2 hbx hfr hcb hq1 hq3 x1 x2 x3 x4 hW2 hz6;clear hw hsb hv1 hv2 hbx hfr hcb hq1 hq3 x1 x2 x3 x4 hW2 hz6
  go_wp2_with fail
  go_region
  go_wp2_with fail
  obtain⟨W8,hW8⟩ : ∃ W,W=(((W2.setCell ⟨h+1,0,none⟩ (.string s.1)).setCell ⟨h+1,1,none⟩ (.slice b1 n1 c1)).setCell ⟨h+1,2,none⟩ (.slice b2 n2 c2)).drew:=⟨_,rfl⟩
  rw[← hW8]
  have hT8:Frm (fun k=>k=W5.heap.size∨k=h+1) w1 W8:=by
   rw[hW8,HW2.out]
   exact (((((Frm.refl _ w1).setCell (p:=⟨W5.heap.size,0,none⟩) (.inr (.inl rfl)) _).setCell (p:=⟨h+1,0,none⟩) (.inr (.inr rfl)) _).setCell (p:=⟨h+1,1,none⟩) (.inr (.inr rfl)) _).setCell (p:=⟨h+1,2,none⟩) (.inr (.inr rfl)) _).drew
  have k0:=heap_setCell_same _ (h+1) 0 _ _ (.string s.1) Hx1.out
  have k1:=heap_setCell_same _ (h+1) 1 _ _ (.slice b1 n1 c1) k0
  have k2:=heap_setCell_same _ (h+1) 2 _ _ (.slice b2 n2 c2) k1
  have k3:W8.heap[h+1]? = some (.cells #[.string s.1,.slice b1 n1 c1,.slice b2 n2 c2] 51 (0,0)):=by rw[hW8];exact k2
  have hno:No2 w1 (fun k=>k=W5.heap.size∨k=h+1):=by
   rintro k (rfl | rfl)
   ·exact zaq Hcb.out (by decide) (by decide)
   exact zaq Hq1.out (by decide) (by decide)
  have hb8:Below w.heap.size w W8:=by
   have b1:Below h (W5.alloc (.cells #[.int .i64 0] 3)) w1:=Hfr.out.below (by simp;omega) (by rintro k (rfl | rfl) <;> omega)
   have b2:Below h w1 W8:=hT8.below (by have:=Hz6.out;omega) (by rintro k (rfl | rfl) <;> omega)
   exact Hb6.out.trans ((b1.trans b2).mono hle)
  refine bodyPost_ret (zbe rfl rfl rfl rfl k3 Tryz.underlying51 rfl (by kernel_rfl)) rfl ?_
  exact⟨.inl ⟨s,j,b1,n1,c1,b2,n2,c2,Hw.out,rfl,zam Hv1.out hT8 hno,zas Hv2.out hT8 hno⟩,hb8⟩
 have hz6:=hfr.size
 simp only[World.size_alloc] at hz6
 have hne:(col != 0)=true:=by rw[hcl];simpa using Hcol.out j
 have hq1:=zac hfr Hq1'.out (by omega)
 obtain⟨W2,hW2⟩ : ∃ W,W=(w1.alloc (.cells #[.int .i64 col] 206)).setCell ⟨W5.heap.size,0,none⟩ (.int .i64 col):=⟨_,rfl⟩
 rw[← hW2]
 have x1:zai (h+1) (.string ⟨#[]⟩) (.slice none 0 0) (.slice none 0 0) W2:=by rw[hW2];exact za3 (za0 (za2 _ _) hq1) (by omega)
 obtain⟨_,_,_,f0,f1,f2⟩:=za4 x1
 have hb2:Below w.heap.size w W2:=by
  have b1:Below h (W5.alloc (.cells #[.int .i64 0] 3)) w1:=hfr.below (by simp;omega) (by rintro k (rfl | rfl) <;> omega)
  have b2:Below h w1 W2:=by rw[hW2];exact ((za2 _ _).mono (by omega)).setCell (p:=⟨W5.heap.size,0,none⟩) (by show h≤W5.heap.size;omega) _
  exact Hb6.out.trans ((b1.trans b2).mono hle)
 obtain⟨Hw,Hcl,Hfr,Hq1,Hx1,HW2,Hz6,Hb2⟩:=hd8 hw hcl hfr hq1 x1 hW2 hz6 hb2;clear hw hcl hfr hq1 x1 hW2 hz6 hb2
 go_wp2_with fail
 have k0:=heap_setCell_same _ (h+1) 0 _ _ (.string ⟨#[]⟩) Hx1.out
 have k1:=heap_setCell_same _ (h+1) 1 _ _ (.slice none 0 0) k0
 have k2:=heap_setCell_same _ (h+1) 2 _ _ (.slice none 0 0) k1
 have hb8:=((Hb2.out.setCell (p:=⟨h+1,0,none⟩) (by show w.heap.size≤h+1;omega) (.string ⟨#[]⟩)).setCell (p:=⟨h+1,1,none⟩) (by show w.heap.size≤h+1;omega) (.slice none 0 0)).setCell (p:=⟨h+1,2,none⟩) (by show w.heap.size≤h+1;omega) (.slice none 0 0)
 refine bodyPost_ret (zbe rfl rfl rfl rfl k2 Tryz.underlying51 rfl (by kernel_rfl)) rfl ?_
 refine⟨.inr ⟨j,Hw.out,by rw[← Hcl.out];rfl⟩,hb8⟩
theorem zku {w:World} {a:Option Addr} {n c:Nat} {fin:Int} {ws:List Wd} (hws:RWds w [.slice a n c] ws) (hD:zbk w) (hn:n≤1000) (hz:∀ x∈ws,x.2.length≤70000) (hcol:∀ j,zb8 ws fin j≠0):Calls Tryz.prog 76 #[.slice a n c,.int .i64 fin] w (zie fin ws w):=by
 obtain⟨g,hg⟩ : ∃ g,g=w.heap.size:=⟨_,rfl⟩
 obtain⟨W1,hW1⟩ : ∃ W,W=w.alloc (.cells #[.string ⟨#[]⟩,.slice none 0 0,.slice none 0 0] 51):=⟨_,rfl⟩
 have hb1:Below w.heap.size w W1:=by rw[hW1];exact za2 _ _
 have hbx:zai g (.string ⟨#[]⟩) (.slice none 0 0) (.slice none 0 0) W1:=by rw[hW1,hg];exact heap_alloc_new _ _
 have hO:=zmg (za6 zbb _ _ _ _ hws hb1) (hD.below hb1) hn hz hcol
 have hle:w.heap.size≤g:=Nat.le_of_eq hg.symm
 obtain⟨Hws,HD,Hz,Hcol,HO,Hb1,Hbx⟩:=hd7 hws hD hz hcol hO hb1 hbx;clear hws hD hz hcol hO hb1 hbx
 go_enter Tryz.func76,Tryz.ntmps76
 go_upto_region 1 with (fail)
 rw[← hW1,← hg]
 clear hW1 hg
 go_wp2_with fail
 refine HO.out.mono ?_
 rintro e w2 ⟨⟨s,j,b1,n1,c1,b2,n2,c2,hw,rfl,hv1,hv2⟩ | ⟨j,hw,rfl⟩,hb⟩
 ·have x1:=za0 hb Hbx.out
  have hb2:=Hb1.out.trans (hb.mono Hb1.out.size)
  obtain⟨_,_,_,f0,f1,f2⟩:=za4 x1
  obtain⟨Hw,Hv1,Hv2,Hb,Hx1,Hb2⟩:=hd6 hw hv1 hv2 hb x1 hb2;clear hw hv1 hv2 hb x1 hb2
  go_wp2_with fail
  have k0:=heap_setCell_same _ g 0 _ _ (.string s.1) Hx1.out
  have k1:=heap_setCell_same _ g 1 _ _ (.slice b1 n1 c1) k0
  have k2:=heap_setCell_same _ g 2 _ _ (.slice b2 n2 c2) k1
  have hT:Frm (fun k=>k=g) w2 (((w2.setCell ⟨g,0,none⟩ (.string s.1)).setCell ⟨g,1,none⟩ (.slice b1 n1 c1)).setCell ⟨g,2,none⟩ (.slice b2 n2 c2)):=zaa (zaa (zaa (Frm.refl _ _) 0 _) 1 _) 2 _
  have hno:No2 w2 (fun k=>k=g):=by
   rintro k rfl
   exact zaq Hx1.out (by decide) (by decide)
  have hb8:=((Hb2.out.setCell (p:=⟨g,0,none⟩) hle (.string s.1)).setCell (p:=⟨g,1,none⟩) hle (.slice b1 n1 c1)).setCell (p:=⟨g,2,none⟩) hle (.slice b2 n2 c2)
  refine bodyPost_ret (zbe rfl rfl rfl rfl k2 Tryz.underlying51 rfl (by kernel_rfl)) rfl ?_
  exact⟨.inl ⟨s,j,b1,n1,c1,b2,n2,c2,Hw.out,rfl,zam Hv1.out hT hno,zas Hv2.out hT hno⟩,hb8⟩
 have x1:=za0 hb Hbx.out
 have hb2:=Hb1.out.trans (hb.mono Hb1.out.size)
 obtain⟨_,_,_,f0,f1,f2⟩:=za4 x1
 obtain⟨col,hcl⟩ : ∃ x,x=zb8 ws fin j:=⟨_,rfl⟩
 rw[← hcl]
 obtain⟨Hw,Hcl,Hb,Hx1,Hb2⟩:=hd5 hw hcl hb x1 hb2;clear hw hcl hb x1 hb2
 go_wp2_with fail
 have k0:=heap_setCell_same _ g 0 _ _ (.string ⟨#[]⟩) Hx1.out
 have k1:=heap_setCell_same _ g 1 _ _ (.slice none 0 0) k0
 have k2:=heap_setCell_same _ g 2 _ _ (.slice none 0 0) k1
 have hb8:=((Hb2.out.setCell (p:=⟨g,0,none⟩) hle (.string ⟨#[]⟩)).setCell (p:=⟨g,1,none⟩) hle (.slice none 0 0)).setCell (p:=⟨g,2,none⟩) hle (.slice none 0 0)
 refine bodyPost_ret (zbe rfl rfl rfl rfl k2 Tryz.underlying51 rfl (by kernel_rfl)) rfl ?_
 exact⟨.inr ⟨j,Hw.out,by rw[← Hcl.out];rfl⟩,hb8⟩
end

section
open Go.Shelf Go.RowKit Go.Lib VerN VarM
open LexM (Wd)
attribute [local go_sem ↓] Go.wp_at_zero Go.wp_at_succ
def CondPost (r:Nat) (a:Option Addr) (n c:Nat) (fin:Int) (ws:List Wd) (i:Nat) (w:World) (e:Ending) (w':World):Prop :=
 ((∃ s j v1 v2,zbn ws i=(some s,j)∧e = .returned (.agg #[.string s.1,v1,v2])∧zcq w' v1 s.2.1∧zb9 w' v2 s.2.2∧RBox r (.slice a n c) j fin w')∨(∃ j,zbn ws i=(none,j)∧e=zha (zb8 ws fin j)))∧Frm (fun k=>k=r) w w'
theorem zib {ws:List Wd} {i:Nat} (h:zb7 ws i=zds):zbn ws i=(some (noT,allV,[]),i+1):=by unfold zbn;rw[if_pos h]
theorem zoq {ws:List Wd} {i:Nat} (h:zb7 ws i≠zds) (h1:zfa (zb7 ws i)=true) (h2:zex (zji (zb7 ws i))=false):zbn ws i=(none,i):=by unfold zbn;rw[if_neg h,if_pos h1,if_neg (by rw[h2];simp)]
theorem zrw {ws:List Wd} {i:Nat} (h:zb7 ws i≠zds) (h1:zfa (zb7 ws i)=true) (h2:zex (zji (zb7 ws i))=true):zbn ws i=((zaz ws (i+1) []).1.map fun l=>(noT,rdV (zji (zb7 ws i)),l),(zaz ws (i+1) []).2):=by unfold zbn;rw[if_neg h,if_pos h1,if_pos h2]
theorem zlq {ws:List Wd} {i:Nat} (h:zb7 ws i≠zds) (h1:zfa (zb7 ws i)=false):(∀ l j,zaz ws i []=(some l,j)→j≠i→zbn ws i=(some (noT,allV,l),j))∧(∀ l j,zaz ws i []=(some l,j)→j=i→zbn ws i=(none,j))∧(∀ j,zaz ws i []=(none,j)→zbn ws i=(none,j)):=by
 unfold zbn
 rw[if_neg h,if_neg (by rw[h1];simp)]
 cases hb:hasB 61 (zb7 ws i) with
 | false =>
  rw[zi3 hb]
  refine⟨fun l j e hj=>?_,fun l j e hj=>?_,fun j e=>?_⟩
  ·cases e;exact absurd rfl hj
  ·cases e;rfl
  cases e
 | true =>
  rw[if_pos rfl]
  refine⟨fun l j e _=>by rw[e];rfl,fun l j e hj=>?_,fun j e=>by rw[e];rfl⟩
  subst hj
  cases hw:ze1 ([] ++ [zhj (zb7 ws j)]) with
  | false=>rw[zhh hb hw] at e;cases e
  | true =>
   rw[zhg hb hw] at e
   have:=zhi ws (j+1) ([] ++ [zhj (zb7 ws j)])
   rw[e] at this
   simp only at this
   omega
theorem zo0 (s:ByteArray):Lib.hasPrefix s.data.toList [64]=zfa s:=by
 unfold Lib.hasPrefix zfa
 cases h:s.data.toList with
 | nil=>rfl
 | cons c l =>
  by_cases e:c=64
  ·subst e;rfl
  simp[List.isPrefixOf,Ne.symm e,e]
theorem zpq {s:ByteArray} (h:zfa s=true):(⟨(Lib.trimPrefix s.data.toList [64]).toArray⟩ : ByteArray)=zji s:=by
 unfold Lib.trimPrefix
 rw[zo0,if_pos h]
 rfl
theorem zl9 (s:ByteArray):(zji s).size≤s.size:=by
 have e:∀ l:List UInt8,(⟨l.toArray⟩ : ByteArray).size=l.length:=fun l=>rfl
 unfold zji
 rw[e,List.length_drop,Txt.len]
 omega
theorem cond_any {w0 w:World} {r:Nat} {a:Option Addr} {n c:Nat} {fin:Int} {ws:List Wd} {i:Nat} (C:RdC w0 r a n c fin ws) (S:RdS w0 r a n c fin i w) (hi:i≤1000):Calls Tryz.prog 131 #[rp r] w (CondPost r a n c fin ws i w):=by
 have hrw:r < w.heap.size:=(Array.getElem?_eq_some_iff.1 S.box).1
 have hn1:=C.n1000
 obtain⟨s,hs⟩ : ∃ s,s=zb7 ws i:=⟨_,rfl⟩
 have hsz:s.size≤70000:=by rw[hs];exact C.peek_size _
 obtain⟨g,hg⟩ : ∃ k,k=w.heap.size:=⟨_,rfl⟩
 obtain⟨g1,hg1⟩ : ∃ k,k=g+1+1:=⟨_,rfl⟩
 obtain⟨va,hva⟩ : ∃ k:Option Addr,k=some ⟨g+1,0,none⟩:=⟨_,rfl⟩
 obtain⟨w4,hw4⟩ : ∃ W,W=((w.alloc (.cells #[.string ⟨#[]⟩,.slice none 0 0,.slice none 0 0] 51)).alloc (.cells #[.string ⟨#[]⟩,.string ⟨#[]⟩] 34)).alloc (.cells #[.string ⟨#[]⟩,.slice va 1 1,.slice none 0 0] 51):=⟨_,rfl⟩
 have hb4:Below w.heap.size w w4:=by rw[hw4];exact ((za2 _ _).alloc (by simp) _).alloc (by simp;omega) _
 have hJ:WsJ w0 r a n c fin i w g g1 ⟨#[]⟩ va 1 1 allV w4:=by
  refine⟨S.to hb4,Frm.of_below hb4,?_,?_,?_⟩
  ·rw[hw4,hg];exact za0 (za2 _ _) (za0 (za2 _ _) (za8 rfl))
  ·rw[hw4,hg1,hg];exact za8 (by simp)
  rw[hw4,hva,hg]
  have:=zfz (w.alloc (.cells #[.string ⟨#[]⟩,.slice none 0 0,.slice none 0 0] 51))
  simp only[World.size_alloc] at this
  exact zap this (za2 _ _)
 have hrg:r < g:=by rw[hg];exact hrw
 have hgg:g < g1:=by rw[hg1];omega
 have hwg:w.heap.size≤g:=Nat.le_of_eq hg.symm
 have hP:=C.peek hJ.st
 rw[← hs] at hP
 have heq:=Txt.eq_dec s ⟨#[42]⟩
 rw[Lib.toList_data (⟨#[42]⟩ : ByteArray)] at heq
 obtain⟨HC,HS,HP,Hs,Hb4,HJ⟩:=hd6 C S hP hs hb4 hJ;clear C S hP hs hb4 hJ
 go_enter Tryz.func131,Tryz.ntmps131
 go_upto_region 2 with (fail)
 rw[← hg,← hva,← hw4,← hg1]
 clear hva hw4 hg hg1
 go_wp2_with fail
 refine HP.out.mono ?_
 rintro e w1 ⟨rfl,q1,rfl⟩
 have hJ1:WsJ w0 r a n c fin i w g g1 ⟨#[]⟩ va 1 1 allV (w4.drewN q1):=⟨HJ.out.st.drewN q1,HJ.out.frm.drewN q1,HJ.out.g0,HJ.out.g1,zap HJ.out.rd (zak (Below.refl _ _) q1)⟩
 generalize w4.drewN q1=w5 at hJ1 ⊢
 have HJ1:=hd hJ1;clear hJ1
 by_cases hst:s=zds
 ·have k1:(s.toList == [42])=true:=by rw[heq];exact decide_eq_true hst
  clear heq
  obtain⟨_,c1',_,c3'⟩:=zbl HJ1.out.st.box
  obtain⟨w6,hw6⟩ : ∃ W,W=w5.setCell ⟨r,1,none⟩ (.int .i64 ((i:Int)+1)):=⟨_,rfl⟩
  have hk0:zai g (.string ⟨#[]⟩) (.slice none 0 0) (.slice none 0 0) w6:=by rw[hw6];exact za3 HJ1.out.g0 (by omega)
  have hk1:zai g1 (.string ⟨#[]⟩) (.slice va 1 1) (.slice none 0 0) w6:=by rw[hw6];exact za3 HJ1.out.g1 (by omega)
  have hon:=HJ1.out.st.on HC.out.low
  rw[← hw6] at hon
  have hf6:Frm (fun k=>k=r) w w6:=by rw[hw6];exact zaa HJ1.out.frm 1 _
  have hT6:Frm (fun k=>k=r∨k=g∨k=g1) w5 w6:=by rw[hw6];exact (Frm.refl _ w5).setCell (p:=⟨r,1,none⟩) (.inr (.inl rfl)) _
  have hvv:=zam HJ1.out.rd hT6 (zd3 HJ1.out.st.box HJ1.out.g0 HJ1.out.g1)
  obtain⟨_,_,_,f00,f01,f02⟩:=za4 hk0
  obtain⟨x10,x11,x12,_,_,_⟩:=za4 hk1
  obtain⟨Hst,Hk0,Hk1,Hon,Hf6,HT6,Hvv⟩:=hd7 hst hk0 hk1 hon hf6 hT6 hvv;clear hst hk0 hk1 hon hf6 hT6 hvv
  go_upto_region 4 with (fail)
  rw[← hw6]
  clear hw6
  go_wp2_with fail
  obtain⟨W9,hW9⟩ : ∃ W,W=((w6.setCell ⟨g,0,none⟩ (.string ⟨#[]⟩)).setCell ⟨g,1,none⟩ (.slice va 1 1)).setCell ⟨g,2,none⟩ (.slice none 0 0):=⟨_,rfl⟩
  rw[← hW9]
  have k0:=heap_setCell_same _ g 0 _ _ (.string ⟨#[]⟩) Hk0.out
  have k1:=heap_setCell_same _ g 1 _ _ (.slice va 1 1) k0
  have k2:=heap_setCell_same _ g 2 _ _ (.slice none 0 0) k1
  have hF9:Frm (fun k=>k=r) w W9:=by rw[hW9];exact ((Hf6.out.setCell (p:=⟨g,0,none⟩) (.inl hwg) _).setCell (p:=⟨g,1,none⟩) (.inl hwg) _).setCell (p:=⟨g,2,none⟩) (.inl hwg) _
  have hT9:Frm (fun k=>k=r∨k=g∨k=g1) w6 W9:=by
   rw[hW9]
   exact (((Frm.refl _ w6).setCell (p:=⟨g,0,none⟩) (.inr (.inr (.inl rfl))) _).setCell (p:=⟨g,1,none⟩) (.inr (.inr (.inl rfl))) _).setCell (p:=⟨g,2,none⟩) (.inr (.inr (.inl rfl))) _
  have hb9:RBox r (.slice a n c) (i+1) fin W9:=by rw[hW9];exact za3 (za3 (za3 Hon.out.box (by omega)) (by omega)) (by omega)
  rw[← hW9] at k2
  refine bodyPost_ret (results_cell_row rfl _ _ _ _ _ _ _ rfl k2 Tryz.underlying51 rfl (by kernel_rfl)) rfl ?_
  exact⟨.inl ⟨(noT,allV,[]),i+1,.slice va 1 1,.slice none 0 0,zib (by rw[← Hs.out];exact Hst.out),rfl,zam Hvv.out hT9 (zd3 Hon.out.box Hk0.out Hk1.out),zno ⟨none,0,rfl,Nat.le_refl _,Nat.zero_le _,fun i x hi=>by simp at hi⟩,hb9⟩,hF9⟩
 have k1:(s.toList == [42])=false:=by rw[heq];exact decide_eq_false hst
 clear heq
 have hst':zb7 ws i≠zds:=by rw[← Hs.out];exact hst
 obtain⟨_,c1',_,c3'⟩:=zbl HJ1.out.st.box
 have hP2:=HC.out.peek HJ1.out.st
 rw[← Hs.out] at hP2
 have hPre:=fun (W:World)=>Tryz.strings_CutPrefix s ⟨#[64]⟩ W
 simp only[zo0] at hPre
 obtain⟨tx,htx⟩ : ∃ t:ByteArray,t=⟨(Lib.trimPrefix s.data.toList [64]).toArray⟩:=⟨_,rfl⟩
 simp only[← htx] at hPre
 obtain⟨fl,hfl⟩ : ∃ b,b=zfa s:=⟨_,rfl⟩
 simp only[← hfl] at hPre
 obtain⟨Hst,Hst',HP2,Hfl,HPre,Htx⟩:=hd6 hst hst' hP2 hfl hPre htx;clear hst hst' hP2 hfl hPre htx
 go_wp2_with fail
 refine HP2.out.mono ?_
 rintro e w1 ⟨rfl,q2,rfl⟩
 have hJ2:WsJ w0 r a n c fin i w g g1 ⟨#[]⟩ va 1 1 allV (w5.drewN q2):=⟨HJ1.out.st.drewN q2,HJ1.out.frm.drewN q2,HJ1.out.g0,HJ1.out.g1,zap HJ1.out.rd (zak (Below.refl _ _) q2)⟩
 generalize w5.drewN q2=w6 at hJ2 ⊢
 have HJ2:=hd hJ2;clear hJ2
 clear c1' c3'
 go_wp2_with fail
 refine (HPre.out _).mono ?_
 rintro e wp ⟨rfl,hwp⟩
 subst hwp
 cases fl with
 | false =>
  have hCw:=zlq (ws:=ws) (i:=i) Hst'.out (by rw[← Hs.out];exact Hfl.out.symm)
  have hYes:=hCw.1
  have hNil:=hCw.2.1
  have hNo:=hCw.2.2
  have HI:=HJ2
  clear hCw
  obtain⟨HYes,HNil,HNo⟩:=hd3 hYes hNil hNo;clear hYes hNil hNo
  have hSt:=ze9 HC.out HI.out.st
  have HSt:=hd hSt;clear hSt
  go_wp2_with fail
  refine HSt.out.mono ?_
  rintro e w7 ⟨⟨l,j,v,hse,rfl,hv,hbx⟩ | ⟨j,hse,rfl⟩,hfr⟩
  ·obtain⟨a3,c3,rfl⟩:=zc9 hv.1
   have hfw:=HI.out.frm.trans hfr (fun _ _ h=>h)
   obtain⟨z,hz⟩ : ∃ n,n=l.length:=⟨_,rfl⟩
   rw[← hz] at hv ⊢
   have hk0:zai g (.string ⟨#[]⟩) (.slice none 0 0) (.slice none 0 0) w7:=zac hfr HI.out.g0 (by omega)
   have hk1:zai g1 (.string ⟨#[]⟩) (.slice va 1 1) (.slice none 0 0) w7:=zac hfr HI.out.g1 (by omega)
   have hst7:RdS w0 r a n c fin j w7:=⟨hbx,HI.out.st.bel.trans (hfr.below (by have:=HI.out.st.bel.size;exact HI.out.st.bel.size) (by rintro k rfl;exact HC.out.low))⟩
   obtain⟨_,_,_,_,_,f12⟩:=za4 hk1
   have hvv:=HI.out.rd
   have hge:=zhi ws i []
   rw[hse] at hge
   simp only at hge
   obtain⟨w8,hw8⟩ : ∃ W,W=w7.setCell ⟨g1,2,none⟩ (.slice a3 z c3):=⟨_,rfl⟩
   have hst8:RdS w0 r a n c fin j w8:=by rw[hw8];exact⟨za3 hst7.box (by omega),hst7.bel.setCell (p:=⟨g1,2,none⟩) (by have:=HC.out.low;show w0.heap.size≤g1;omega) _⟩
   have hk08:zai g (.string ⟨#[]⟩) (.slice none 0 0) (.slice none 0 0) w8:=by rw[hw8];exact za3 hk0 (by omega)
   have hk18:zai g1 (.string ⟨#[]⟩) (.slice va 1 1) (.slice a3 z c3) w8:=by rw[hw8];exact heap_setCell_same _ g1 2 _ _ _ hk1
   have hf8:Frm (fun k=>k=r) w w8:=by rw[hw8];exact hfw.setCell (p:=⟨g1,2,none⟩) (.inl (show w.heap.size≤g1 by omega)) _
   have hT8:Frm (fun k=>k=r∨k=g∨k=g1) w7 w8:=by rw[hw8];exact (Frm.refl _ w7).setCell (p:=⟨g1,2,none⟩) (.inr (.inr (.inr rfl))) _
   have hno7:=zd3 hbx hk0 hk1
   have hv8:=zas hv hT8 hno7
   have hvv8:=zam (zam hvv (Frm.mono (T:=fun k=>k=r∨k=g∨k=g1) hfr (fun _ _ h=>.inl h)) (zd3 HI.out.st.box HI.out.g0 HI.out.g1)) hT8 hno7
   obtain⟨_,q1,_,_⟩:=zbl hst8.box
   obtain⟨Hse,Hv,Hbx,Hfr,Hfw,Hk0,Hk1,Hst7,Hvv,Hz,Hge,Hst8,Hk08,Hk18,Hf8,HT8⟩:=hd16 hse hv hbx hfr hfw hk0 hk1 hst7 hvv hz hge hst8 hk08 hk18 hf8 hT8;obtain⟨Hno7,Hv8,Hvv8⟩:=hd3 hno7 hv8 hvv8;clear hse hv hbx hfr hfw hk0 hk1 hst7 hvv hz hge hst8 hk08 hk18 hf8 hT8 hno7 hv8 hvv8
   go_upto_region 13 with (fail)
   rw[← hw8]
   clear hw8
   by_cases hji:j=i
   ·have kgt:decide (i < j)=false:=decide_eq_false (by omega)
    have hWn:=HC.out.want Hst8.out
    have HWn:=hd hWn;clear hWn
    go_wp2_with fail
    refine HWn.out.mono ?_
    rintro e w9 ⟨rfl,q5,rfl⟩
    go_wp2_with fail
    exact⟨rfl,.inr ⟨j,HNil.out _ _ Hse.out hji,by rw[hji]⟩,Hf8.out.drewN q5⟩
   obtain⟨x10,x11,x12,_,_,_⟩:=za4 Hk18.out
   obtain⟨_,_,_,f00,f01,f02⟩:=za4 Hk08.out
   have kgt:decide (i < j)=true:=decide_eq_true (by have:=Hge.out.1;omega)
   go_wp2_with fail
   refine (zg3 _ r).mono ?_
   rintro e w9 ⟨rfl,hw9⟩
   subst hw9
   go_wp2_with fail
   obtain⟨W9,hW9⟩ : ∃ W,W=((w9.setCell ⟨g,0,none⟩ (.string ⟨#[]⟩)).setCell ⟨g,1,none⟩ (.slice va 1 1)).setCell ⟨g,2,none⟩ (.slice a3 z c3):=⟨_,rfl⟩
   rw[← hW9]
   have k0:=heap_setCell_same _ g 0 _ _ (.string ⟨#[]⟩) Hk08.out
   have k1:=heap_setCell_same _ g 1 _ _ (.slice va 1 1) k0
   have k2:=heap_setCell_same _ g 2 _ _ (.slice a3 z c3) k1
   have hF9:Frm (fun k=>k=r) w W9:=by rw[hW9];exact ((Hf8.out.setCell (p:=⟨g,0,none⟩) (.inl hwg) _).setCell (p:=⟨g,1,none⟩) (.inl hwg) _).setCell (p:=⟨g,2,none⟩) (.inl hwg) _
   have hT9:Frm (fun k=>k=r∨k=g∨k=g1) w9 W9:=by
    rw[hW9]
    exact (((Frm.refl _ w9).setCell (p:=⟨g,0,none⟩) (.inr (.inr (.inl rfl))) _).setCell (p:=⟨g,1,none⟩) (.inr (.inr (.inl rfl))) _).setCell (p:=⟨g,2,none⟩) (.inr (.inr (.inl rfl))) _
   have hb9:RBox r (.slice a n c) j fin W9:=by rw[hW9];exact za3 (za3 (za3 Hst8.out.box (by omega)) (by omega)) (by omega)
   rw[← hW9] at k2
   have hno8:=zd3 Hst8.out.box Hk08.out Hk18.out
   refine bodyPost_ret (results_cell_row rfl _ _ _ _ _ _ _ rfl k2 Tryz.underlying51 rfl (by kernel_rfl)) rfl ?_
   exact⟨.inl ⟨(noT,allV,l),j,.slice va 1 1,.slice a3 z c3,HYes.out _ _ Hse.out (by have:=Hge.out.1;omega),rfl,zam Hvv8.out hT9 hno8,zas Hv8.out hT9 hno8,hb9⟩,hF9⟩
  have hfw:=HI.out.frm.trans hfr (fun _ _ h=>h)
  obtain⟨Hse,Hfr,Hfw⟩:=hd3 hse hfr hfw;clear hse hfr hfw
  go_wp2_with fail
  exact⟨rfl,.inr ⟨j,HNo.out _ Hse.out,rfl⟩,Hfw.out⟩
 | true =>
  obtain⟨tl,htl⟩ : ∃ t,t=zji s:=⟨_,rfl⟩
  obtain rfl:tx=tl:=by rw[Htx.out,htl];exact zpq Hfl.out.symm
  have hSet:=set_any tx (by have:=zl9 s;rw[← htl] at this;omega) (HC.out.dr HJ2.out.st)
  obtain⟨ok,hok⟩ : ∃ b,b=zex tx:=⟨_,rfl⟩
  unfold zif at hSet
  rw[← hok] at hSet
  obtain⟨HSet,Hok,Htl⟩:=hd3 hSet hok htl;clear hSet hok htl
  go_wp2_with fail
  refine HSet.out.mono ?_
  rintro e w8 ⟨a2,n2,c2,rfl,hrd,hb8⟩
  have hg15:=za0 hb8 HJ2.out.g1
  have hg05:=za0 hb8 HJ2.out.g0
  have hst8:=HJ2.out.st.to hb8
  have hfr8:=HJ2.out.frm.trans (Frm.of_below (S:=fun _=>False) hb8) (fun _ _ h=>h.elim)
  obtain⟨Hrd,Hb8,Hg15,Hg05,Hst8,Hfr8⟩:=hd6 hrd hb8 hg15 hg05 hst8 hfr8;clear hrd hb8 hg15 hg05 hst8 hfr8
  cases ok with
  | false =>
   have hBad:=zoq (ws:=ws) (i:=i) Hst'.out (by rw[← Hs.out];exact Hfl.out.symm) (by rw[← Hs.out,← Htl.out];exact Hok.out.symm)
   have hWn:=HC.out.want Hst8.out
   obtain⟨HBad,HWn⟩:=hd2 hBad hWn;clear hBad hWn
   go_wp2_with fail
   refine HWn.out.mono ?_
   rintro e w9 ⟨rfl,q5,rfl⟩
   go_wp2_with fail
   exact⟨rfl,.inr ⟨i,HBad.out,rfl⟩,Hfr8.out.drewN q5⟩
  | true =>
   have hAt:=zrw (ws:=ws) (i:=i) Hst'.out (by rw[← Hs.out];exact Hfl.out.symm) (by rw[← Hs.out,← Htl.out];exact Hok.out.symm)
   rw[← Hs.out,← Htl.out] at hAt
   have hYes:∀ l j,zaz ws (i+1) []=(some l,j)→j≠i→zbn ws i=(some (noT,rdV tx,l),j):=fun l j e _=>by rw[hAt,e];rfl
   have hNo:∀ j,zaz ws (i+1) []=(none,j)→zbn ws i=(none,j):=fun j e=>by rw[hAt,e];rfl
   obtain⟨_,_,_,_,fz1,_⟩:=za4 Hg15.out
   obtain⟨_,c1',_,c3'⟩:=zbl Hst8.out.box
   obtain⟨w6,hw6⟩ : ∃ W,W=(w8.setCell ⟨g1,1,none⟩ (.slice a2 n2 c2)).setCell ⟨r,1,none⟩ (.int .i64 ((i:Int)+1)):=⟨_,rfl⟩
   have HI:Go.RowKit.Hid (WsJ w0 r a n c fin (i+1) w g g1 ⟨#[]⟩ a2 n2 c2 (rdV tx) w6):=by
    refine⟨?_,?_,?_,?_,?_⟩
    ·rw[hw6]
     exact RdS.on ⟨za3 Hst8.out.box (by omega),Hst8.out.bel.setCell (p:=⟨g1,1,none⟩) (by have:=HC.out.low;show w0.heap.size≤g1;omega) _⟩ HC.out.low
    ·rw[hw6];exact zaa (Hfr8.out.setCell (p:=⟨g1,1,none⟩) (.inl (by show w.heap.size≤g1;omega)) _) 1 _
    ·rw[hw6];exact za3 (za3 Hg05.out (by omega)) (by omega)
    ·rw[hw6];exact za3 (heap_setCell_same _ g1 1 _ _ _ Hg15.out) (by omega)
    rw[hw6]
    refine zam (T:=fun k=>k=g1∨k=r) (Hrd.out rfl) ?_ ?_
    ·exact ((Frm.refl _ w8).setCell (p:=⟨g1,1,none⟩) (.inr (.inl rfl)) _).setCell (p:=⟨r,1,none⟩) (.inr (.inr rfl)) _
    rintro k (rfl | rfl)
    ·exact zaq Hg15.out (by decide) (by decide)
    exact zaq Hst8.out.box (by decide) (by decide)
   clear hAt
   obtain⟨HYes,HNo⟩:=hd2 hYes hNo;clear hYes hNo
   go_wp2_with fail
   refine (zg3 _ r).mono ?_
   rintro e w9 ⟨rfl,hw9⟩
   subst hw9
   go_upto_region 12 with (fail)
   rw[← hw6]
   clear hw6
   have hSt:=ze9 HC.out HI.out.st
   have HSt:=hd hSt;clear hSt
   go_wp2_with fail
   refine HSt.out.mono ?_
   rintro e w7 ⟨⟨l,j,v,hse,rfl,hv,hbx⟩ | ⟨j,hse,rfl⟩,hfr⟩
   ·obtain⟨a3,c3,rfl⟩:=zc9 hv.1
    have hfw:=HI.out.frm.trans hfr (fun _ _ h=>h)
    obtain⟨z,hz⟩ : ∃ n,n=l.length:=⟨_,rfl⟩
    rw[← hz] at hv ⊢
    have hk0:zai g (.string ⟨#[]⟩) (.slice none 0 0) (.slice none 0 0) w7:=zac hfr HI.out.g0 (by omega)
    have hk1:zai g1 (.string ⟨#[]⟩) (.slice a2 n2 c2) (.slice none 0 0) w7:=zac hfr HI.out.g1 (by omega)
    have hst7:RdS w0 r a n c fin j w7:=⟨hbx,HI.out.st.bel.trans (hfr.below (by have:=HI.out.st.bel.size;exact HI.out.st.bel.size) (by rintro k rfl;exact HC.out.low))⟩
    obtain⟨_,_,_,_,_,f12⟩:=za4 hk1
    have hvv:=HI.out.rd
    have hge:=zhi ws (i+1) []
    rw[hse] at hge
    simp only at hge
    obtain⟨w8,hw8⟩ : ∃ W,W=w7.setCell ⟨g1,2,none⟩ (.slice a3 z c3):=⟨_,rfl⟩
    have hst8:RdS w0 r a n c fin j w8:=by rw[hw8];exact⟨za3 hst7.box (by omega),hst7.bel.setCell (p:=⟨g1,2,none⟩) (by have:=HC.out.low;show w0.heap.size≤g1;omega) _⟩
    have hk08:zai g (.string ⟨#[]⟩) (.slice none 0 0) (.slice none 0 0) w8:=by rw[hw8];exact za3 hk0 (by omega)
    have hk18:zai g1 (.string ⟨#[]⟩) (.slice a2 n2 c2) (.slice a3 z c3) w8:=by rw[hw8];exact heap_setCell_same _ g1 2 _ _ _ hk1
    have hf8:Frm (fun k=>k=r) w w8:=by rw[hw8];exact hfw.setCell (p:=⟨g1,2,none⟩) (.inl (show w.heap.size≤g1 by omega)) _
    have hT8:Frm (fun k=>k=r∨k=g∨k=g1) w7 w8:=by rw[hw8];exact (Frm.refl _ w7).setCell (p:=⟨g1,2,none⟩) (.inr (.inr (.inr rfl))) _
    have hno7:=zd3 hbx hk0 hk1
    have hv8:=zas hv hT8 hno7
    have hvv8:=zam (zam hvv (Frm.mono (T:=fun k=>k=r∨k=g∨k=g1) hfr (fun _ _ h=>.inl h)) (zd3 HI.out.st.box HI.out.g0 HI.out.g1)) hT8 hno7
    obtain⟨_,q1,_,_⟩:=zbl hst8.box
    obtain⟨Hse,Hv,Hbx,Hfr,Hfw,Hk0,Hk1,Hst7,Hvv,Hz,Hge,Hst8,Hk08,Hk18,Hf8,HT8⟩:=hd16 hse hv hbx hfr hfw hk0 hk1 hst7 hvv hz hge hst8 hk08 hk18 hf8 hT8;obtain⟨Hno7,Hv8,Hvv8⟩:=hd3 hno7 hv8 hvv8;clear hse hv hbx hfr hfw hk0 hk1 hst7 hvv hz hge hst8 hk08 hk18 hf8 hT8 hno7 hv8 hvv8
    go_upto_region 13 with (fail)
    rw[← hw8]
    clear hw8
    obtain⟨x10,x11,x12,_,_,_⟩:=za4 Hk18.out
    obtain⟨_,_,_,f00,f01,f02⟩:=za4 Hk08.out
    have kgt:decide (i < j)=true:=decide_eq_true (by have:=Hge.out.1;omega)
    go_wp2_with fail
    refine (zg3 _ r).mono ?_
    rintro e w9 ⟨rfl,hw9⟩
    subst hw9
    go_wp2_with fail
    obtain⟨W9,hW9⟩ : ∃ W,W=((w9.setCell ⟨g,0,none⟩ (.string ⟨#[]⟩)).setCell ⟨g,1,none⟩ (.slice a2 n2 c2)).setCell ⟨g,2,none⟩ (.slice a3 z c3):=⟨_,rfl⟩
    rw[← hW9]
    have k0:=heap_setCell_same _ g 0 _ _ (.string ⟨#[]⟩) Hk08.out
    have k1:=heap_setCell_same _ g 1 _ _ (.slice a2 n2 c2) k0
    have k2:=heap_setCell_same _ g 2 _ _ (.slice a3 z c3) k1
    have hF9:Frm (fun k=>k=r) w W9:=by rw[hW9];exact ((Hf8.out.setCell (p:=⟨g,0,none⟩) (.inl hwg) _).setCell (p:=⟨g,1,none⟩) (.inl hwg) _).setCell (p:=⟨g,2,none⟩) (.inl hwg) _
    have hT9:Frm (fun k=>k=r∨k=g∨k=g1) w9 W9:=by
     rw[hW9]
     exact (((Frm.refl _ w9).setCell (p:=⟨g,0,none⟩) (.inr (.inr (.inl rfl))) _).setCell (p:=⟨g,1,none⟩) (.inr (.inr (.inl rfl))) _).setCell (p:=⟨g,2,none⟩) (.inr (.inr (.inl rfl))) _
    have hb9:RBox r (.slice a n c) j fin W9:=by rw[hW9];exact za3 (za3 (za3 Hst8.out.box (by omega)) (by omega)) (by omega)
    rw[← hW9] at k2
    have hno8:=zd3 Hst8.out.box Hk08.out Hk18.out
    refine bodyPost_ret (results_cell_row rfl _ _ _ _ _ _ _ rfl k2 Tryz.underlying51 rfl (by kernel_rfl)) rfl ?_
    exact⟨.inl ⟨(noT,(rdV tx),l),j,.slice a2 n2 c2,.slice a3 z c3,HYes.out _ _ Hse.out (by have:=Hge.out.1;omega),rfl,zam Hvv8.out hT9 hno8,zas Hv8.out hT9 hno8,hb9⟩,hF9⟩
   have hfw:=HI.out.frm.trans hfr (fun _ _ h=>h)
   obtain⟨Hse,Hfr,Hfw⟩:=hd3 hse hfr hfw;clear hse hfr hfw
   go_wp2_with fail
   exact⟨rfl,.inr ⟨j,HNo.out _ Hse.out,rfl⟩,Hfw.out⟩
end

section
open Go.Shelf Go.RowKit Go.Lib VerN VarM
open LexM (Wd)
attribute [local go_sem ↓] Go.wp_at_zero Go.wp_at_succ
def TakenAc (r sb:Nat) (a:Option Addr) (n c:Nat) (fin:Int) (ws:List Wd) (w w':World):Prop :=
 ∃ s j b1 n1 c1 b2 n2 c2,zbn ws 0=(some s,j)∧zai sb (.string s.1) (.slice b1 n1 c1) (.slice b2 n2 c2) w'∧zcq w' (.slice b1 n1 c1) s.2.1∧zb9 w' (.slice b2 n2 c2) s.2.2∧RBox r (.slice a n c) j fin w'∧Frm (fun k=>k=r∨k=sb) w w'
def TakenBc (r sb:Nat) (fin:Int) (ws:List Wd) (w:World) (col:Int) (w':World):Prop :=
 ∃ j,zbn ws 0=(none,j)∧col=zb8 ws fin j∧Frm (fun k=>k=r∨k=sb) w w'
abbrev fCond:Value:=.func (.func 131) #[] #[]
theorem one1c_any {w0 w:World} {r tb rb sb cb:Nat} {a:Option Addr} {n c:Nat} {fin:Int} {ws:List Wd} (C:RdC w0 r a n c fin ws) (S:RdS w0 r a n c fin 0 w)
  (ht:w.heap[tb]? = some (.cells #[fCond] 187 (0,0))) (hr:w.heap[rb]? = some (.cells #[rp r] 135 (0,0))) (hs:zai sb (.string ⟨#[]⟩) (.slice none 0 0) (.slice none 0 0) w)
  (hc:w.heap[cb]? = some (.cells #[.int .i64 0] 3 (0,0))) (n1:cb≠r) (n2:cb≠sb) (n3:r≠sb) :
  Calls Tryz.prog 180 #[.pointer (some ⟨tb,0,none⟩),.pointer (some ⟨rb,0,none⟩),.pointer (some ⟨sb,0,none⟩)] w fun e w'=>((e = .returned (.tuple #[])∧TakenAc r sb a n c fin ws w w')∨∃ col,e=zha col∧TakenBc r sb fin ws w col w')∧w'.heap[cb]? = some (.cells #[.int .i64 0] 3 (0,0)):=by
 have t0:=za5 ht 0
 have r0:=za5 hr 0
 simp only[List.getElem?_toArray,List.getElem?_cons_zero] at t0 r0
 have hW:=cond_any C S (by omega)
 obtain⟨HC,HS,Ht,Hr,Hs,Hc,HW⟩:=hd7 C S ht hr hs hc hW;clear C S ht hr hs hc hW
 go_enter Tryz.func180,Tryz.ntmps180
 go_wp2_with fail
 refine HW.out.mono ?_
 rintro e w1 ⟨⟨s,j,v1,v2,hw,rfl,hv1,hv2,hbx⟩ | ⟨j,hw,rfl⟩,hfr⟩
 ·obtain⟨b1,c1,rfl⟩:=zbf hv1.1
  obtain⟨b2,c2,rfl⟩:=zc9 hv2.1
  obtain⟨z1,hz1⟩ : ∃ z,z=s.2.1.length:=⟨_,rfl⟩
  obtain⟨z2,hz2⟩ : ∃ z,z=s.2.2.length:=⟨_,rfl⟩
  rw[← hz1] at hv1 ⊢
  rw[← hz2] at hv2 ⊢
  have hs1:=zac hfr Hs.out (by omega)
  have hc1:=zac hfr Hc.out n1
  obtain⟨_,_,_,f0,f1,f2⟩:=za4 hs1
  obtain⟨Hw,Hv1,Hv2,Hbx,Hfr,Hs1,Hc1,Hz1,Hz2⟩:=hd9 hw hv1 hv2 hbx hfr hs1 hc1 hz1 hz2;clear hw hv1 hv2 hbx hfr hs1 hc1 hz1 hz2
  go_wp2_with fail
  go_end0
  obtain⟨W8,hW8⟩ : ∃ W,W=((w1.setCell ⟨sb,0,none⟩ (.string s.1)).setCell ⟨sb,1,none⟩ (.slice b1 z1 c1)).setCell ⟨sb,2,none⟩ (.slice b2 z2 c2):=⟨_,rfl⟩
  rw[← hW8]
  have hT8:Frm (fun k=>k=r∨k=sb) w1 W8:=by
   rw[hW8]
   exact (((Frm.refl _ w1).setCell (p:=⟨sb,0,none⟩) (.inr (.inr rfl)) _).setCell (p:=⟨sb,1,none⟩) (.inr (.inr rfl)) _).setCell (p:=⟨sb,2,none⟩) (.inr (.inr rfl)) _
  have k0:=heap_setCell_same _ sb 0 _ _ (.string s.1) Hs1.out
  have k1:=heap_setCell_same _ sb 1 _ _ (.slice b1 z1 c1) k0
  have k2:=heap_setCell_same _ sb 2 _ _ (.slice b2 z2 c2) k1
  have hno:No2 w1 (fun k=>k=r∨k=sb):=by
   rintro k (rfl | rfl)
   ·exact zaq Hbx.out (by decide) (by decide)
   exact zaq Hs1.out (by decide) (by decide)
  have hcb:W8.heap[cb]? = some (.cells #[.int .i64 0] 3 (0,0)):=zac hT8 Hc1.out (by rintro (h | h);exact n1 h;exact n2 h)
  refine⟨.inl ⟨rfl,s,j,b1,z1,c1,b2,z2,c2,Hw.out,by rw[hW8];exact k2,zam Hv1.out hT8 hno,zas Hv2.out hT8 hno,?_,?_⟩,hcb⟩
  ·rw[hW8];exact za3 (za3 (za3 Hbx.out n3) n3) n3
  exact Frm.trans (T:=fun k=>k=r∨k=sb) (Hfr.out.mono (fun _ _ h=>.inl h)) hT8 (fun _ _ h=>h)
 have hc1:=zac hfr Hc.out n1
 obtain⟨Hw,Hfr,Hc1⟩:=hd3 hw hfr hc1;clear hw hfr hc1
 go_wp2_with fail
 exact⟨rfl,.inr ⟨_,rfl,j,Hw.out,rfl,Hfr.out.mono (fun _ _ h=>.inl h)⟩,Hc1.out⟩
def zkp (fin:Int) (ws:List Wd) (w:World) (e:Ending) (w':World):Prop :=
 ((∃ s j b1 n1 c1 b2 n2 c2,zbn ws 0=(some s,j)∧e = .returned (.tuple #[.agg #[.string s.1,.slice b1 n1 c1,.slice b2 n2 c2],.int .i64 j,.int .i64 0])∧zcq w' (.slice b1 n1 c1) s.2.1∧zb9 w' (.slice b2 n2 c2) s.2.2) ∨
  (∃ j,zbn ws 0=(none,j)∧e = .returned (.tuple #[.agg #[.string ⟨#[]⟩,.slice none 0 0,.slice none 0 0],.int .i64 0,.int .i64 (zb8 ws fin j)])))∧Below w.heap.size w w'
theorem zkv {w:World} {a:Option Addr} {n c:Nat} {fin:Int} {ws:List Wd} (hws:RWds w [.slice a n c] ws) (hD:zbk w) (hn:n≤1000) (hz:∀ x∈ws,x.2.length≤70000) (hcol:∀ j,zb8 ws fin j≠0):Calls Tryz.prog 130 #[.slice a n c,.int .i64 fin,fCond] w (zkp fin ws w):=by
 obtain⟨h,hh⟩ : ∃ h,h=w.heap.size:=⟨_,rfl⟩
 obtain⟨W5,hW5⟩ : ∃ W,W=(((((w.alloc (.cells #[fCond] 187)).alloc (.cells #[.string ⟨#[]⟩,.slice none 0 0,.slice none 0 0] 51)).alloc (.cells #[.slice a n c,.int .i64 0,.int .i64 fin] 137)).alloc (.cells #[rp (h+1+1)] 135)).alloc (.cells #[.string ⟨#[]⟩,.slice none 0 0,.slice none 0 0] 51)):=⟨_,rfl⟩
 have hs5:W5.heap.size=h+5:=by rw[hW5,hh];simp
 have k1:∀ {w':World} {o:Obj} {k:Nat} {o':Obj},w'.heap[k]? = some o→(w'.alloc o').heap[k]? = some o:=fun h=>za0 (za2 _ _) h
 have hb5:Below w.heap.size w W5:=by rw[hW5];exact ((((Below.refl _ w).alloc (Nat.le_refl _) _).alloc (by simp) _).alloc (by simp;omega) _).alloc (by simp;omega) _ |>.alloc (by simp;omega) _
 have q0:W5.heap[h]? = some (.cells #[fCond] 187 (0,0)):=by rw[hW5,hh];exact k1 (k1 (k1 (k1 (za8 rfl))))
 have q1:zai (h+1) (.string ⟨#[]⟩) (.slice none 0 0) (.slice none 0 0) W5:=by rw[hW5,hh];exact k1 (k1 (k1 (za8 (by simp))))
 have q2:RBox (h+1+1) (.slice a n c) 0 fin W5:=by rw[hW5,hh];exact k1 (k1 (za8 (by simp)))
 have q3:W5.heap[h+1+1+1]? = some (.cells #[rp (h+1+1)] 135 (0,0)):=by rw[hW5,hh];exact k1 (za8 (by simp))
 have q4:zai (h+1+1+1+1) (.string ⟨#[]⟩) (.slice none 0 0) (.slice none 0 0) W5:=by rw[hW5,hh];exact za8 (by simp)
 have hC:RdC w (h+1+1) a n c fin ws:=⟨hws,hD,by omega,hn,hz⟩
 have hS:RdS w (h+1+1) a n c fin 0 (W5.alloc (.cells #[.int .i64 0] 3)):=⟨k1 q2,hb5.alloc hb5.size _⟩
 have hO:=one1c_any (tb:=h) (rb:=h+1+1+1) (sb:=h+1+1+1+1) (cb:=W5.heap.size) hC hS (k1 q0) (k1 q3) (k1 q4) (heap_alloc_new W5 _) (by omega) (by omega) (by omega)
 have hCa:=zls (enters_of Tryz.func180 (by kernel_rfl) rfl) (caps:=#[.pointer (some ⟨h,0,none⟩),.pointer (some ⟨h+1+1+1,0,none⟩),.pointer (some ⟨h+1+1+1+1,0,none⟩)]) hO
 have q1':=k1 (o':=.cells #[.int .i64 0] 3) q1
 have q3':=k1 (o':=.cells #[.int .i64 0] 3) q3
 clear q0 q1 q2 q3 q4 hO k1
 have hb6:Below w.heap.size w (W5.alloc (.cells #[.int .i64 0] 3)):=hb5.alloc hb5.size _
 obtain⟨Hws,HD,Hz,Hcol,Hb5,HC,HS,HCa,Hq1',Hq3',Hb6⟩:=hd11 hws hD hz hcol hb5 hC hS hCa q1' q3' hb6;clear hws hD hz hcol hb5 hC hS hCa q1' q3' hb6
 go_enter Tryz.func130,Tryz.ntmps130
 go_upto_region 3 with (fail)
 rw[← hh,← hW5]
 clear hW5
 have hle:w.heap.size≤h:=Nat.le_of_eq hh.symm
 clear hh
 go_wp2_with fail
 refine HCa.out.mono ?_
 rintro e w2 (⟨w1,⟨s,j,b1,n1,c1,b2,n2,c2,hw,hsb,hv1,hv2,hbx,hfr⟩,rfl,rfl⟩ | ⟨col,w1,⟨j,hw,hcl,hfr⟩,rfl,rfl⟩)
 ·have hz6:=hfr.size
  simp only[World.size_alloc] at hz6
  have hcb:w1.heap[W5.heap.size]? = some (.cells #[.int .i64 0] 3 (0,0)):=zac hfr (heap_alloc_new W5 _) (by omega)
  have hq1:=zac hfr Hq1'.out (by omega)
  have hq3:=zac hfr Hq3'.out (by omega)
  obtain⟨W2,hW2⟩ : ∃ W,W=w1.setCell ⟨W5.heap.size,0,none⟩ (.int .i64 0):=⟨_,rfl⟩
  rw[← hW2]
  have x1:zai (h+1) (.string ⟨#[]⟩) (.slice none 0 0) (.slice none 0 0) W2:=by rw[hW2];exact za3 hq1 (by omega)
  have x3:W2.heap[h+1+1+1]? = some (.cells #[rp (h+1+1)] 135 (0,0)):=by rw[hW2];exact za3 hq3 (by omega)
  have x2:RBox (h+1+1) (.slice a n c) j fin W2:=by rw[hW2];exact za3 hbx (by omega)
  have x4:zai (h+1+1+1+1) (.string s.1) (.slice b1 n1 c1) (.slice b2 n2 c2) W2:=by rw[hW2];exact za3 hsb (by omega)
  have y3:=za5 x3 0
  simp only[List.getElem?_toArray,List.getElem?_cons_zero] at y3
  obtain⟨_,y2,_,_⟩:=zbl x2
  obtain⟨z0,z1,z2,_,_,_⟩:=za4 x4
  obtain⟨_,_,_,f0,f1,f2⟩:=za4 x1
  obtain⟨Hw,Hsb,Hv1,Hv2,Hbx,Hfr,Hcb,Hq1,Hq3,Hx1,Hx2,Hx3,Hx4,HW2,Hz6⟩:=hd15 hw hsb hv1 hv2 hbx hfr hcb hq1 hq3 x1 x2 x3 x4 hW2 hz6;clear hw hsb hv1 hv2 hbx hfr hcb hq1 hq3 x1 x2 x3 x4 hW2 hz6
  go_wp2_with fail
  go_region
  go_wp2_with fail
  obtain⟨W8,hW8⟩ : ∃ W,W=(((W2.setCell ⟨h+1,0,none⟩ (.string s.1)).setCell ⟨h+1,1,none⟩ (.slice b1 n1 c1)).setCell ⟨h+1,2,none⟩ (.slice b2 n2 c2)).drew:=⟨_,rfl⟩
  rw[← hW8]
  have hT8:Frm (fun k=>k=W5.heap.size∨k=h+1) w1 W8:=by
   rw[hW8,HW2.out]
   exact (((((Frm.refl _ w1).setCell (p:=⟨W5.heap.size,0,none⟩) (.inr (.inl rfl)) _).setCell (p:=⟨h+1,0,none⟩) (.inr (.inr rfl)) _).setCell (p:=⟨h+1,1,none⟩) (.inr (.inr rfl)) _).setCell (p:=⟨h+1,2,none⟩) (.inr (.inr rfl)) _).drew
  have k0:=heap_setCell_same _ (h+1) 0 _ _ (.string s.1) Hx1.out
  have k1:=heap_setCell_same _ (h+1) 1 _ _ (.slice b1 n1 c1) k0
  have k2:=heap_setCell_same _ (h+1) 2 _ _ (.slice b2 n2 c2) k1
  have k3:W8.heap[h+1]? = some (.cells #[.string s.1,.slice b1 n1 c1,.slice b2 n2 c2] 51 (0,0)):=by rw[hW8];exact k2
  have hno:No2 w1 (fun k=>k=W5.heap.size∨k=h+1):=by
   rintro k (rfl | rfl)
   ·exact zaq Hcb.out (by decide) (by decide)
   exact zaq Hq1.out (by decide) (by decide)
  have hb8:Below w.heap.size w W8:=by
   have b1:Below h (W5.alloc (.cells #[.int .i64 0] 3)) w1:=Hfr.out.below (by simp;omega) (by rintro k (rfl | rfl) <;> omega)
   have b2:Below h w1 W8:=hT8.below (by have:=Hz6.out;omega) (by rintro k (rfl | rfl) <;> omega)
   exact Hb6.out.trans ((b1.trans b2).mono hle)
  refine bodyPost_ret (zbe rfl rfl rfl rfl k3 Tryz.underlying51 rfl (by kernel_rfl)) rfl ?_
  exact⟨.inl ⟨s,j,b1,n1,c1,b2,n2,c2,Hw.out,rfl,zam Hv1.out hT8 hno,zas Hv2.out hT8 hno⟩,hb8⟩
 have hz6:=hfr.size
 simp only[World.size_alloc] at hz6
 have hne:(col != 0)=true:=by rw[hcl];simpa using Hcol.out j
 have hq1:=zac hfr Hq1'.out (by omega)
 obtain⟨W2,hW2⟩ : ∃ W,W=(w1.alloc (.cells #[.int .i64 col] 206)).setCell ⟨W5.heap.size,0,none⟩ (.int .i64 col):=⟨_,rfl⟩
 rw[← hW2]
 have x1:zai (h+1) (.string ⟨#[]⟩) (.slice none 0 0) (.slice none 0 0) W2:=by rw[hW2];exact za3 (za0 (za2 _ _) hq1) (by omega)
 obtain⟨_,_,_,f0,f1,f2⟩:=za4 x1
 have hb2:Below w.heap.size w W2:=by
  have b1:Below h (W5.alloc (.cells #[.int .i64 0] 3)) w1:=hfr.below (by simp;omega) (by rintro k (rfl | rfl) <;> omega)
  have b2:Below h w1 W2:=by rw[hW2];exact ((za2 _ _).mono (by omega)).setCell (p:=⟨W5.heap.size,0,none⟩) (by show h≤W5.heap.size;omega) _
  exact Hb6.out.trans ((b1.trans b2).mono hle)
 obtain⟨Hw,Hcl,Hfr,Hq1,Hx1,HW2,Hz6,Hb2⟩:=hd8 hw hcl hfr hq1 x1 hW2 hz6 hb2;clear hw hcl hfr hq1 x1 hW2 hz6 hb2
 go_wp2_with fail
 have k0:=heap_setCell_same _ (h+1) 0 _ _ (.string ⟨#[]⟩) Hx1.out
 have k1:=heap_setCell_same _ (h+1) 1 _ _ (.slice none 0 0) k0
 have k2:=heap_setCell_same _ (h+1) 2 _ _ (.slice none 0 0) k1
 have hb8:=((Hb2.out.setCell (p:=⟨h+1,0,none⟩) (by show w.heap.size≤h+1;omega) (.string ⟨#[]⟩)).setCell (p:=⟨h+1,1,none⟩) (by show w.heap.size≤h+1;omega) (.slice none 0 0)).setCell (p:=⟨h+1,2,none⟩) (by show w.heap.size≤h+1;omega) (.slice none 0 0)
 refine bodyPost_ret (zbe rfl rfl rfl rfl k2 Tryz.underlying51 rfl (by kernel_rfl)) rfl ?_
 refine⟨.inr ⟨j,Hw.out,by rw[← Hcl.out];rfl⟩,hb8⟩
theorem zkw {w:World} {a:Option Addr} {n c:Nat} {fin:Int} {ws:List Wd} (hws:RWds w [.slice a n c] ws) (hD:zbk w) (hn:n≤1000) (hz:∀ x∈ws,x.2.length≤70000) (hcol:∀ j,zb8 ws fin j≠0):Calls Tryz.prog 75 #[.slice a n c,.int .i64 fin] w (zkp fin ws w):=by
 obtain⟨g,hg⟩ : ∃ g,g=w.heap.size:=⟨_,rfl⟩
 obtain⟨W1,hW1⟩ : ∃ W,W=w.alloc (.cells #[.string ⟨#[]⟩,.slice none 0 0,.slice none 0 0] 51):=⟨_,rfl⟩
 have hb1:Below w.heap.size w W1:=by rw[hW1];exact za2 _ _
 have hbx:zai g (.string ⟨#[]⟩) (.slice none 0 0) (.slice none 0 0) W1:=by rw[hW1,hg];exact heap_alloc_new _ _
 have hO:=zkv (za6 zbb _ _ _ _ hws hb1) (hD.below hb1) hn hz hcol
 have hle:w.heap.size≤g:=Nat.le_of_eq hg.symm
 obtain⟨Hws,HD,Hz,Hcol,HO,Hb1,Hbx⟩:=hd7 hws hD hz hcol hO hb1 hbx;clear hws hD hz hcol hO hb1 hbx
 go_enter Tryz.func75,Tryz.ntmps75
 go_upto_region 1 with (fail)
 rw[← hW1,← hg]
 clear hW1 hg
 go_wp2_with fail
 refine HO.out.mono ?_
 rintro e w2 ⟨⟨s,j,b1,n1,c1,b2,n2,c2,hw,rfl,hv1,hv2⟩ | ⟨j,hw,rfl⟩,hb⟩
 ·have x1:=za0 hb Hbx.out
  have hb2:=Hb1.out.trans (hb.mono Hb1.out.size)
  obtain⟨_,_,_,f0,f1,f2⟩:=za4 x1
  obtain⟨Hw,Hv1,Hv2,Hb,Hx1,Hb2⟩:=hd6 hw hv1 hv2 hb x1 hb2;clear hw hv1 hv2 hb x1 hb2
  go_wp2_with fail
  have k0:=heap_setCell_same _ g 0 _ _ (.string s.1) Hx1.out
  have k1:=heap_setCell_same _ g 1 _ _ (.slice b1 n1 c1) k0
  have k2:=heap_setCell_same _ g 2 _ _ (.slice b2 n2 c2) k1
  have hT:Frm (fun k=>k=g) w2 (((w2.setCell ⟨g,0,none⟩ (.string s.1)).setCell ⟨g,1,none⟩ (.slice b1 n1 c1)).setCell ⟨g,2,none⟩ (.slice b2 n2 c2)):=zaa (zaa (zaa (Frm.refl _ _) 0 _) 1 _) 2 _
  have hno:No2 w2 (fun k=>k=g):=by
   rintro k rfl
   exact zaq Hx1.out (by decide) (by decide)
  have hb8:=((Hb2.out.setCell (p:=⟨g,0,none⟩) hle (.string s.1)).setCell (p:=⟨g,1,none⟩) hle (.slice b1 n1 c1)).setCell (p:=⟨g,2,none⟩) hle (.slice b2 n2 c2)
  refine bodyPost_ret (zbe rfl rfl rfl rfl k2 Tryz.underlying51 rfl (by kernel_rfl)) rfl ?_
  exact⟨.inl ⟨s,j,b1,n1,c1,b2,n2,c2,Hw.out,rfl,zam Hv1.out hT hno,zas Hv2.out hT hno⟩,hb8⟩
 have x1:=za0 hb Hbx.out
 have hb2:=Hb1.out.trans (hb.mono Hb1.out.size)
 obtain⟨_,_,_,f0,f1,f2⟩:=za4 x1
 obtain⟨col,hcl⟩ : ∃ x,x=zb8 ws fin j:=⟨_,rfl⟩
 rw[← hcl]
 obtain⟨Hw,Hcl,Hb,Hx1,Hb2⟩:=hd5 hw hcl hb x1 hb2;clear hw hcl hb x1 hb2
 go_wp2_with fail
 have k0:=heap_setCell_same _ g 0 _ _ (.string ⟨#[]⟩) Hx1.out
 have k1:=heap_setCell_same _ g 1 _ _ (.slice none 0 0) k0
 have k2:=heap_setCell_same _ g 2 _ _ (.slice none 0 0) k1
 have hb8:=((Hb2.out.setCell (p:=⟨g,0,none⟩) hle (.string ⟨#[]⟩)).setCell (p:=⟨g,1,none⟩) hle (.slice none 0 0)).setCell (p:=⟨g,2,none⟩) hle (.slice none 0 0)
 refine bodyPost_ret (zbe rfl rfl rfl rfl k2 Tryz.underlying51 rfl (by kernel_rfl)) rfl ?_
 exact⟨.inr ⟨j,Hw.out,by rw[← Hcl.out];rfl⟩,hb8⟩
end

section
open Go.RowKit
open LexM (Bs Wd Ln St)
theorem ofNat_toNat (c:UInt8):UInt8.ofNat ((c.toNat:Int)).toNat=c:=by simp
theorem strOf (s:Bs):strOfNums (s.map fun c=>((c.toNat:Int)))=⟨s.toArray⟩:=by
 unfold strOfNums
 congr 2
 rw[List.map_map]
 conv=>rhs;rw[← List.map_id s]
 apply List.map_congr_left
 intro c _
 simp
theorem ztp {w:World} {B:Nat} {v:Value} {s:Bs} (h:w.ownsRow B 5 1 v s.length (zit s)) (hs:s≠[]):(convert 142 9 v).run Tryz.prog w = .ok (bv s) w:=by
 have hpos:=List.length_pos_iff.2 hs
 obtain⟨g,cap,rfl,_,_,hn,hm,hc⟩:=zdn h hpos
 have:=run_convert_bytes_arg (P:=Tryz.prog) (w:=w) 142 5 Tryz.underlying142 Tryz.underlying5 g 0 s.length cap (s.map fun c=>((c.toNat:Int))) (by simp) (fun i hi=>by
  have h1:(zit s)[i]? = some (.int .u8 (s[i].toNat:Int)):=by simp[zit,hi]
  rw[Nat.zero_add,hc i _ h1]
  simp[List.getD,hi]) 9 Tryz.underlying9
 rw[this,strOf]
theorem zby.setEnds {w0 w:World} {x:Nat} {s:St} {wv sv ov:Value} {rv:List Value} (h:zby w0 x s wv sv ov rv w) :
  zby w0 x { s with frm:=0,word:=[] } (.slice none 0 0) sv ov rv ((w.setCell ⟨x,2,none⟩ (.int .i64 0)).setCell ⟨x,4,none⟩ (.slice none 0 0)):=by
 have f1:Frm (fun k=>k=x) w (w.setCell ⟨x,2,none⟩ (.int .i64 0)):=Frm.setCell (S:=fun k=>k=x) (Frm.refl _ _) (p:=⟨x,2,none⟩) (.inr rfl) _
 have f2:=Frm.setCell f1 (p:=⟨x,4,none⟩) (.inr rfl) (.slice none 0 0)
 refine h.to f2 ?_ (.inr ⟨rfl,rfl⟩) (.inl ⟨rfl,rfl⟩) rfl
 have h1:=heap_setCell_same w x 2 _ _ (.int .i64 0) h.cells
 rw[heap_setCell_same _ x 4 _ _ (.slice none 0 0) h1]
 rfl
abbrev lexp (x:Nat):Value:=.pointer (some ⟨x,0,none⟩)
def zh4 (w0:World) (x:Nat) (s:St) (e:Ending) (w':World):Prop:=e = .returned (.tuple #[])∧∃ wv sv ov rv,zby w0 x s wv sv ov rv w'
theorem zmu {w0 w:World} {x:Nat} {s s':St} {wv sv ov:Value} {rv:List Value} (h:zby w0 x s' wv sv ov rv w) (e:s'=s):zh4 w0 x s (.returned (.tuple #[])) w:=⟨rfl,wv,sv,ov,rv,e ▸ h⟩
theorem ends_some {w0 w:World} {x:Nat} {s:St} {wv sv ov:Value} {rv:List Value} (h:zby w0 x s wv sv ov rv w) {m:Nat} (hm:m≤1000000) (hs:Small s m) (hf:0 < s.frm) :
  Calls Tryz.prog 176 #[lexp x] w (zh4 w0 x (LexM.ends s)):=by
 have hne:=hs.begun hf
 have hwl:=hs.words
 have hB:=h.bel.size
 have hcv:(convert 142 9 wv).run Tryz.prog w.drew = .ok (bv s.word) w.drew:=ztp (w:=w.drew) h.word hne
 have hnx:=zan h.words h.cells (by decide)
 have c2:=za5 h.cells 2
 have c4:=za5 h.cells 4
 have c5:=za5 h.cells 5
 simp only[zb2,List.getElem?_toArray,List.getElem?_cons_succ,List.getElem?_cons_zero] at c2 c4 c5
 have a5:∀ o:Obj,(w.alloc o).cell? ⟨x,5,none⟩=some sv:=fun o=>((Frm.refl _ w).alloc o).keep c5
 have hwd:(w.drew).ownsRow w0.heap.size 64 2 sv s.words.length (s.words.flatMap zb6):=h.words
 have hBd:w0.heap.size≤w.drew.heap.size:=hB
 obtain⟨Hh,Hwd,Hnx,Hs⟩:=hd4 h hwd hnx hs;clear h hwd hnx hs
 go_enter Tryz.func176,Tryz.ntmps176
 go_wp2_with fail
 go_region_law (refine zci zfu (w:=w.drew) rfl (.tmp 11) (.tmp 22) rfl w0.heap.size sv s.words.length (s.words.flatMap zb6) rfl Hwd.out 1 (by decide) #[.int .i64 s.frm,bv s.word] rfl rfl (by simp[Value.oneCell',bv]) (by omega) (by unfold maxLen;omega) hBd ?_;intro g8 c8 w8 hown8 hg8 hm8;have hc8:=zbu Hh.out.cells ((Frm.drew (Frm.refl _ w)).grown hg8 (S:=fun k=>sv.ownBlock=some k) (fun k hk=>.inr hk)) Hnx.out;have d5:=za5 hc8 5;have e5:=zad hc8 5;simp only[zb2,List.getElem?_toArray,List.getElem?_cons_succ,List.getElem?_cons_zero] at d5)
 all_goals
  have hP:=Hh.out.pushWord (s.frm,s.word) hown8 (zi8 hg8) (fun k hk=>hm8 k hk)
  obtain⟨w9,hw9⟩ : ∃ w9,w9=w8.setCell ⟨x,5,none⟩ (.slice (some ⟨g8,0,none⟩) (s.words.length+1) c8):=⟨_,rfl⟩
  rw[← hw9] at hP ⊢
  have z2:=zad hP.cells 2
  have z4:=zad hP.cells 4
  have y2:=za5 hP.cells 2
  have y4:=za5 hP.cells 4
  simp only[zb2,List.getElem?_toArray,List.getElem?_cons_succ,List.getElem?_cons_zero] at y2 y4
  have hL:=hP.setEnds
  obtain⟨HP,HL⟩:=hd2 hP hL;clear hP hL
  clear hown8 hg8 hm8 hc8 d5 e5 hw9 c2 c4 c5 a5 hcv
  go_wp2_with fail
  go_end0
  exact zmu HL.out (by unfold LexM.ends;rw[if_pos hf])
theorem ends_none {w0 w:World} {x:Nat} {s:St} {wv sv ov:Value} {rv:List Value} (h:zby w0 x s wv sv ov rv w) (hf:¬ 0 < s.frm) :
  Calls Tryz.prog 176 #[lexp x] w (zh4 w0 x (LexM.ends s)):=by
 have z2:=zad h.cells 2
 have z4:=zad h.cells 4
 have y2:=za5 h.cells 2
 have y4:=za5 h.cells 4
 simp only[zb2,List.getElem?_toArray,List.getElem?_cons_succ,List.getElem?_cons_zero] at y2 y4
 have hL:=h.setEnds
 obtain⟨Hh,HL⟩:=hd2 h hL;clear h hL
 go_enter Tryz.func176,Tryz.ntmps176
 go_wp2_with fail
 go_end0
 exact zmu HL.out (by unfold LexM.ends;rw[if_neg (by omega)])
theorem zjc {w0 w:World} {x:Nat} {s:St} {wv sv ov:Value} {rv:List Value} (h:zby w0 x s wv sv ov rv w) {m:Nat} (hm:m≤1000000) (hs:Small s m) :
  Calls Tryz.prog 176 #[lexp x] w (zh4 w0 x (LexM.ends s)):=by
 by_cases hf:0 < s.frm
 ·exact ends_some h hm hs hf
 exact ends_none h hf
end

section
open Go.RowKit
open LexM (Bs Wd Ln St)
theorem ends_len (s:St) (m:Nat) (h:s.words.length≤m):(LexM.ends s).words.length≤m+1:=by
 unfold LexM.ends
 dsimp only
 split <;> (try simp) <;> omega
theorem zqk {w0 w:World} {x:Nat} {s:St} {wv sv ov:Value} {rv:List Value} (h:zby w0 x s wv sv ov rv w) {m:Nat} (hm:m≤1000000) (hs:Small s m) (hw:(LexM.ends s).words≠[]) :
  Calls Tryz.prog 127 #[lexp x] w (zh4 w0 x (LexM.breaks s)):=by
 have HE:=Lib.hid (zjc h hm hs)
 have hso:=hs.out
 have hsl:=hs.line
 have hlen:=ends_len s m hs.words
 have hpos:=List.length_pos_iff.2 hw
 obtain⟨Hh,Hs,Hw⟩:=hd3 h hs hw;clear h hs hw
 go_enter Tryz.func127,Tryz.ntmps127
 go_wp2_with fail
 refine HE.out.mono ?_
 rintro e w1 ⟨rfl,wv1,sv1,ov1,rv1,h1⟩
 have hB:=h1.bel.size
 have hnx:=zan h1.out h1.cells (by decide)
 obtain⟨sa,sc,rfl⟩:=zaj h1.words
 have c0:=za5 h1.cells 0
 have c5:=za5 h1.cells 5
 have c6:=za5 h1.cells 6
 simp only[zb2,LexM.ends,List.getElem?_toArray,List.getElem?_cons_succ,List.getElem?_cons_zero] at c0 c5 c6
 obtain⟨ws,hws⟩ : ∃ ws,ws=(LexM.ends s).words:=⟨_,rfl⟩
 have c5':w1.cell? ⟨x,5,none⟩=some (.slice sa ws.length sc):=by rw[hws];exact c5
 rw[← hws] at hpos hlen
 have a6:∀ o:Obj,(w1.alloc o).cell? ⟨x,6,none⟩=some ov1:=fun o=>((Frm.refl _ w1).alloc o).keep c6
 have hwd:(w1.drew).ownsRow w0.heap.size 62 2 ov1 s.out.length (zdi s.out rv1):=h1.out
 have hBd:w0.heap.size≤w1.drew.heap.size:=hB
 obtain⟨H1,Hwd,Hnx,Hws⟩:=hd4 h1 hwd hnx hws;clear h1 hwd hnx hws
 clear c5
 go_wp2_with fail
 go_region_law (refine zci zkf (w:=w1.drew) rfl (.tmp 14) (.tmp 24) rfl w0.heap.size ov1 s.out.length (zdi s.out rv1) rfl Hwd.out 1 (by decide) #[.int .i64 s.line,.slice sa ws.length sc] rfl rfl (by simp[Value.oneCell']) (by omega) (by unfold maxLen;omega) hBd ?_;intro g8 c8 w8 hown8 hg8 hm8;have hc8:=zbu H1.out.cells ((Frm.drew (Frm.refl _ w1)).grown hg8 (S:=fun k=>ov1.ownBlock=some k) (fun k hk=>.inr hk)) Hnx.out;have d6:=za5 hc8 6;have e6:=zad hc8 6;simp only[zb2,LexM.ends,List.getElem?_toArray,List.getElem?_cons_succ,List.getElem?_cons_zero] at d6)
 all_goals
  have d0:=za5 hc8 0
  have d1:=za5 hc8 1
  have d3:=za5 hc8 3
  have d5:=za5 hc8 5
  have e0:=zad hc8 0
  have e1:=zad hc8 1
  have e3:=zad hc8 3
  have e5:=zad hc8 5
  simp only[zb2,LexM.ends,List.getElem?_toArray,List.getElem?_cons_succ,List.getElem?_cons_zero] at d0 d1 d3 d5
  have hcells:=hc8
  have hl1 : -9223372036854775808≤s.line+1∧s.line+1≤9223372036854775807:=by omega
  obtain⟨Hown8,Hg8,Hcells⟩:=hd3 hown8 hg8 hcells;clear hown8 hg8 hcells
  clear hm8 hc8 c0 c5' c6 a6
  go_wp2_with fail
  go_end0
  have hS:LexM.breaks s = { (LexM.ends s) with out:=s.out ++ [(s.line,(LexM.ends s).words)],words:=[],off:=false,line:=s.line+1,col:=0 }:=by
   unfold LexM.breaks
   rw[if_neg Hw.out]
  refine zmu (H1.out.pushLine (s':=LexM.breaks s) (by have:=Hown8.out;rw[Hws.out] at this;exact this) (zi8 Hg8.out) ?_ ?_ ?_ ?_ ?_) rfl
  ·exact zaa (zaa (zaa (zaa (zaa (Frm.refl _ w8) 6 _) 5 _) 3 _) 0 _) 1 _
  ·rw[hS]
   have k0:=heap_setCell_same _ x 6 _ _ (.slice (some ⟨g8,0,none⟩) (s.out.length+1) c8) Hcells.out
   have k1:=heap_setCell_same _ x 5 _ _ (.slice none 0 0) k0
   have k2:=heap_setCell_same _ x 3 _ _ (.bool false) k1
   have k3:=heap_setCell_same _ x 0 _ _ (.int .i64 (s.line+1)) k2
   have k4:=heap_setCell_same _ x 1 _ _ (.int .i64 0) k3
   rw[k4]
   rfl
  ·rw[hS]
  ·rw[hS]
  rw[hS];rfl
theorem zql {w0 w:World} {x:Nat} {s:St} {wv sv ov:Value} {rv:List Value} (h:zby w0 x s wv sv ov rv w) {m:Nat} (hm:m≤1000000) (hs:Small s m) (hw:(LexM.ends s).words = []) :
  Calls Tryz.prog 127 #[lexp x] w (zh4 w0 x (LexM.breaks s)):=by
 have HE:=Lib.hid (zjc h hm hs)
 have hsl:=hs.line
 obtain⟨Hh,Hs,Hw⟩:=hd3 h hs hw;clear h hs hw
 go_enter Tryz.func127,Tryz.ntmps127
 go_wp2_with fail
 refine HE.out.mono ?_
 rintro e w1 ⟨rfl,wv1,sv1,ov1,rv1,h1⟩
 obtain⟨sa,sc,rfl⟩:=zaj h1.words
 have hcells:=h1.cells
 rw[Hw.out] at hcells
 have d0:=za5 hcells 0
 have d1:=za5 hcells 1
 have d3:=za5 hcells 3
 have d5:=za5 hcells 5
 have e0:=zad hcells 0
 have e1:=zad hcells 1
 have e3:=zad hcells 3
 have e5:=zad hcells 5
 simp only[zb2,LexM.ends,List.getElem?_toArray,List.getElem?_cons_succ,List.getElem?_cons_zero,List.length_nil] at d0 d1 d3 d5
 have hl1 : -9223372036854775808≤s.line+1∧s.line+1≤9223372036854775807:=by omega
 obtain⟨H1,Hcells⟩:=hd2 h1 hcells;clear h1 hcells
 go_wp2_with fail
 go_end0
 have hS:LexM.breaks s = { (LexM.ends s) with out:=s.out,words:=[],off:=false,line:=s.line+1,col:=0 }:=by
  unfold LexM.breaks
  rw[if_pos Hw.out]
 refine zmu (H1.out.to (s':=LexM.breaks s) (wv':=wv1) (sv':=.slice none 0 0) ?_ ?_ (.inl ⟨rfl,?_⟩) (.inr ⟨rfl,?_⟩) ?_) rfl
 ·exact zaa (zaa (zaa (zaa (Frm.refl _ w1) 5 _) 3 _) 0 _) 1 _
 ·rw[hS]
  have k1:=heap_setCell_same _ x 5 _ _ (.slice none 0 0) Hcells.out
  have k2:=heap_setCell_same _ x 3 _ _ (.bool false) k1
  have k3:=heap_setCell_same _ x 0 _ _ (.int .i64 (s.line+1)) k2
  have k4:=heap_setCell_same _ x 1 _ _ (.int .i64 0) k3
  rw[k4]
  rfl
 ·rw[hS]
 ·rw[hS]
 rw[hS];rfl
theorem zlt {w0 w:World} {x:Nat} {s:St} {wv sv ov:Value} {rv:List Value} (h:zby w0 x s wv sv ov rv w) {m:Nat} (hm:m≤1000000) (hs:Small s m) :
  Calls Tryz.prog 127 #[lexp x] w (zh4 w0 x (LexM.breaks s)):=by
 by_cases hw:(LexM.ends s).words = []
 ·exact zql h hm hs hw
 exact zqk h hm hs hw
end

section
open Go.RowKit
open LexM (Bs Wd Ln St)
def zn9 (w0:World) (x:Nat) (s:St) (v:Value) (e:Ending) (w':World):Prop:=e = .returned v∧∃ wv sv ov rv,zby w0 x s wv sv ov rv w'
theorem zde {w0 w:World} {x:Nat} {s s':St} {wv sv ov v v':Value} {rv:List Value} (h:zby w0 x s' wv sv ov rv w) (e:s'=s) (hv:v'=v):zn9 w0 x s v (.returned v') w:=⟨by rw[hv],wv,sv,ov,rv,e ▸ h⟩
theorem zby.scal {w0 w:World} {x:Nat} {s:St} {wv sv ov:Value} {rv:List Value} (h:zby w0 x s wv sv ov rv w) (i:Nat) (u:Value) (s':St) (hc:((zb2 s wv sv ov).setIfInBounds i u)=zb2 s' wv sv ov) (h1:s'.word=s.word) (h2:s'.words=s.words) (h3:s'.out=s.out) :
  zby w0 x s' wv sv ov rv (w.setCell ⟨x,i,none⟩ u):=by
 refine h.to (Frm.setCell (S:=fun k=>k=x) (Frm.refl _ _) (p:=⟨x,i,none⟩) (.inr rfl) _) ?_ (.inl ⟨rfl,h1⟩) (.inl ⟨rfl,h2⟩) h3
 rw[heap_setCell_same w x i _ _ u h.cells,hc]
theorem ztu {w0 w:World} {x:Nat} {s:St} {wv sv ov:Value} {rv:List Value} (h:zby w0 x s wv sv ov rv w) (hf:¬ 0 < s.frm) :
  Calls Tryz.prog 177 #[lexp x] w (zn9 w0 x { s with frm:=s.col } (.bool (LexM.mayBegin s))):=by
 obtain⟨sa,sc,rfl⟩:=zaj h.words
 obtain⟨oa,oc,rfl⟩:=zaj h.out
 have d1:=za5 h.cells 1
 have d2:=za5 h.cells 2
 have d5:=za5 h.cells 5
 have d6:=za5 h.cells 6
 have e2:=zad h.cells 2
 simp only[zb2,List.getElem?_toArray,List.getElem?_cons_succ,List.getElem?_cons_zero] at d1 d2 d5 d6
 have hL:=h.scal 2 (.int .i64 s.col) { s with frm:=s.col } rfl rfl rfl rfl
 obtain⟨Hh,HL⟩:=hd2 h hL;clear h hL
 by_cases h1:s.words.length < 40
 ·by_cases h2:0 < s.words.length
  ·have hb:LexM.mayBegin s=true:=by unfold LexM.mayBegin;simp[h1,h2]
   have Hb:=hd hb;clear hb
   go_enter Tryz.func177,Tryz.ntmps177
   go_wp2_with fail
   go_ret
   exact zde HL.out rfl (by rw[Hb.out];rfl)
  by_cases h3:s.out.length < 2000
  ·have hb:LexM.mayBegin s=true:=by unfold LexM.mayBegin;simp[h1,h3]
   have Hb:=hd hb;clear hb
   go_enter Tryz.func177,Tryz.ntmps177
   go_wp2_with fail
   go_ret
   exact zde HL.out rfl (by rw[Hb.out];exact congrArg Value.bool (decide_eq_true (by omega)))
  have hb:LexM.mayBegin s=false:=by unfold LexM.mayBegin;simp[h2,h3]
  have Hb:=hd hb;clear hb
  go_enter Tryz.func177,Tryz.ntmps177
  go_wp2_with fail
  go_ret
  exact zde HL.out rfl (by rw[Hb.out];exact congrArg Value.bool (decide_eq_false (by omega)))
 have hb:LexM.mayBegin s=false:=by unfold LexM.mayBegin;simp[h1]
 have Hb:=hd hb;clear hb
 go_enter Tryz.func177,Tryz.ntmps177
 go_wp2_with fail
 go_ret
 exact zde HL.out rfl (by rw[Hb.out];rfl)
theorem begins_on {w0 w:World} {x:Nat} {s:St} {wv sv ov:Value} {rv:List Value} (h:zby w0 x s wv sv ov rv w) (hf:0 < s.frm) :
  Calls Tryz.prog 177 #[lexp x] w (zn9 w0 x s (.bool true)):=by
 have d2:=za5 h.cells 2
 simp only[zb2,List.getElem?_toArray,List.getElem?_cons_succ,List.getElem?_cons_zero] at d2
 have Hh:=hd h;clear h
 go_enter Tryz.func177,Tryz.ntmps177
 go_wp2_with fail
 go_ret
 exact zde Hh.out rfl rfl
theorem zmb {s:St} {m:Nat} (h:Small s m):Small (LexM.onward s) (m+1):=by
 obtain⟨a,b,c,d,e,f,g⟩:=h
 refine⟨?_,?_,?_,?_,?_,?_,g⟩ <;> simp only[LexM.onward] <;> omega
theorem zby.on {w0 w:World} {x:Nat} {s:St} {wv sv ov:Value} {rv:List Value} (h:zby w0 x s wv sv ov rv w):zby w0 x (LexM.onward s) wv sv ov rv (w.setCell ⟨x,1,none⟩ (.int .i64 (s.col+1))) :=
 h.scal 1 (.int .i64 (s.col+1)) (LexM.onward s) rfl rfl rfl rfl
def zgh (w0:World) (x:Nat) (s:St) (c:UInt8):Ending→World→Prop:=zn9 w0 x (LexM.takes s c).1 (.int .i64 (LexM.takes s c).2)
theorem takes_any {w0 w:World} {x:Nat} {s:St} {wv sv ov:Value} {rv:List Value} (h:zby w0 x s wv sv ov rv w) {m:Nat} (hm:m < 1000000) (hs:Small s m) (c:UInt8) :
  Calls Tryz.prog 126 #[lexp x,.int .u8 c.toNat] w (zgh w0 x s c):=by
 have hcol:=hs.col
 have hcl:c.toNat < 256:=c.toNat_lt
 have d1:=za5 h.cells 1
 have e1:=zad h.cells 1
 have h2:=h.on
 have hs2:=zmb hs
 obtain⟨n,hn⟩ : ∃ n,n=c.toNat:=⟨_,rfl⟩
 rw[← hn] at hcl ⊢
 simp only[zb2,List.getElem?_toArray,List.getElem?_cons_succ,List.getElem?_cons_zero] at d1
 obtain⟨Hh,H2,Hs,Hs2,Hn⟩:=hd5 h h2 hs hs2 hn;clear h h2 hs hs2 hn
 by_cases h10:n=10
 ·have ht:LexM.takes s c=(LexM.breaks (LexM.onward s),0):=by unfold LexM.takes;rw[if_pos (by rw[← Hn.out];exact h10)]
  have b10:((n:Int) == 10)=true:=by rw[beq_iff_eq];omega
  have HB:=Lib.hid (zlt H2.out (by omega) Hs2.out)
  unfold zgh
  rw[ht]
  obtain⟨Ht,H10⟩:=hd2 ht h10;clear ht h10
  go_enter Tryz.func126,Tryz.ntmps126
  go_wp2_with fail
  refine HB.out.mono ?_
  rintro e w1 ⟨rfl,wv1,sv1,ov1,rv1,h1⟩
  have H1:=hd h1;clear h1
  go_wp2_with fail
  go_ret
  exact zde H1.out rfl rfl
 have c10:¬ c.toNat=10:=by rw[← Hn.out];exact h10
 have b10:((n:Int) == 10)=false:=by rw[beq_eq_false_iff_ne];omega
 by_cases hA:n < 32∨126 < n
 ·have ht:LexM.takes s c=(LexM.onward s,3):=by unfold LexM.takes;rw[if_neg c10,if_pos (by rw[← Hn.out];exact hA)]
  unfold zgh
  rw[ht]
  clear ht h10 c10
  by_cases h32:n < 32
  ·clear hA
   go_enter Tryz.func126,Tryz.ntmps126
   go_wp2_with fail
   go_ret
   exact zde H2.out rfl rfl
  have h126:126 < n:=by omega
  clear hA
  go_enter Tryz.func126,Tryz.ntmps126
  go_wp2_with fail
  go_ret
  exact zde H2.out rfl rfl
 have hlo:32≤n:=by omega
 have hhi:n≤126:=by omega
 have cA:¬ (c.toNat < 32∨126 < c.toNat):=by rw[← Hn.out];exact hA
 have d3:=za5 Hh.out.cells 3
 simp only[zb2,List.getElem?_toArray,List.getElem?_cons_succ,List.getElem?_cons_zero] at d3
 obtain⟨off,hoff⟩ : ∃ off,off=s.off:=⟨_,rfl⟩
 rw[← hoff] at d3
 clear hA h10
 cases off
 ·have coff:¬ s.off=true:=by rw[← hoff];simp
  clear hoff
  by_cases h35:n=35
  ·have ht:LexM.takes s c=({ LexM.ends (LexM.onward s) with off:=true },0):=by unfold LexM.takes;rw[if_neg c10,if_neg cA,if_neg coff,if_pos (by rw[← Hn.out];exact h35)]
   have b35:((n:Int) == 35)=true:=by rw[beq_iff_eq];omega
   have HE:=Lib.hid (zjc H2.out (by omega) Hs2.out)
   unfold zgh
   rw[ht]
   clear ht c10 cA coff h35
   go_enter Tryz.func126,Tryz.ntmps126
   go_wp2_with fail
   refine HE.out.mono ?_
   rintro e w1 ⟨rfl,wv1,sv1,ov1,rv1,h1⟩
   have e3:=za5 h1.cells 3
   have f3:=zad h1.cells 3
   simp only[zb2,List.getElem?_toArray,List.getElem?_cons_succ,List.getElem?_cons_zero] at e3
   have hX:=h1.scal 3 (.bool true) { LexM.ends (LexM.onward s) with off:=true } rfl rfl rfl rfl
   obtain⟨H1,HX⟩:=hd2 h1 hX;clear h1 hX
   go_wp2_with fail
   go_ret
   exact zde HX.out rfl rfl
  have c35:¬ c.toNat=35:=by rw[← Hn.out];exact h35
  have b35:((n:Int) == 35)=false:=by rw[beq_eq_false_iff_ne];omega
  by_cases h32:n=32
  ·have ht:LexM.takes s c=(LexM.ends (LexM.onward s),0):=by unfold LexM.takes;rw[if_neg c10,if_neg cA,if_neg coff,if_neg c35,if_pos (by rw[← Hn.out];exact h32)]
   have b32:((n:Int) == 32)=true:=by rw[beq_iff_eq];omega
   have HE:=Lib.hid (zjc H2.out (by omega) Hs2.out)
   unfold zgh
   rw[ht]
   clear ht c10 cA coff h35 c35 h32
   go_enter Tryz.func126,Tryz.ntmps126
   go_wp2_with fail
   refine HE.out.mono ?_
   rintro e w1 ⟨rfl,wv1,sv1,ov1,rv1,h1⟩
   have H1:=hd h1;clear h1
   go_wp2_with fail
   go_ret
   exact zde H1.out rfl rfl
  have c32:¬ c.toNat=32:=by rw[← Hn.out];exact h32
  have b32:((n:Int) == 32)=false:=by rw[beq_eq_false_iff_ne];omega
  by_cases hfr:0 < s.frm
  ·have ht:LexM.takes s c=({ LexM.onward s with word:=s.word ++ [c] },0):=by unfold LexM.takes;rw[if_neg c10,if_neg cA,if_neg coff,if_neg c35,if_neg c32,if_pos hfr]
   have HE:=Lib.hid (begins_on H2.out (show 0 < (LexM.onward s).frm from hfr))
   have Ht:=hd ht;clear ht
   clear c10 cA coff h35 c35 h32 c32 hfr
   go_enter Tryz.func126,Tryz.ntmps126
   go_wp2_with fail
   refine HE.out.mono ?_
   rintro e w1 ⟨rfl,wv1,sv1,ov1,rv1,h1⟩
   have e4:=za5 h1.cells 4
   simp only[zb2,List.getElem?_toArray,List.getElem?_cons_succ,List.getElem?_cons_zero] at e4
   have hB1:=h1.bel.size
   have hx1:=zan h1.word h1.cells (by decide)
   have how:=h1.word
   have hwl:s.word.length≤m:=Hs.out.word
   obtain⟨H1,Hx1,How⟩:=hd3 h1 hx1 how;clear h1 hx1 how
   go_wp2_with (at_builtin;refine zay zol (w:=w1) rfl (.tmp 16) (.tmp 18) rfl w0.heap.size wv1 s.word.length (zit s.word) rfl How.out 1 (by decide) #[.int .u8 n] rfl rfl (by simp[Value.oneCell']) (by omega) (by unfold maxLen;omega) hB1 ?_)
   intro g8 c8 w8 hown8 hg8 hm8
   have hc8:=zbu H1.out.cells ((Frm.refl _ w1).grown hg8 (S:=fun k=>wv1.ownBlock=some k) (fun k hk=>.inr hk)) Hx1.out
   have k4:=za5 hc8 4
   have f4:=zad hc8 4
   simp only[zb2,List.getElem?_toArray,List.getElem?_cons_succ,List.getElem?_cons_zero] at k4
   have hP:=H1.out.pushByte c (by rw[← Hn.out];exact hown8) hg8
   have HP:=hd hP;clear hP
   clear hown8 hg8 hm8 hc8
   go_wp2_with fail
   go_ret
   exact zde HP.out (by rw[Ht.out];rfl) (by rw[Ht.out];rfl)
  have HE:=Lib.hid (ztu H2.out (show ¬ 0 < (LexM.onward s).frm from hfr))
  by_cases hmb:LexM.mayBegin s=true
  ·have ht:LexM.takes s c=({ LexM.onward s with frm:=s.col+1,word:=s.word ++ [c] },0):=by unfold LexM.takes;rw[if_neg c10,if_neg cA,if_neg coff,if_neg c35,if_neg c32,if_neg hfr,if_pos hmb]
   have hmb2:LexM.mayBegin (LexM.onward s)=true:=hmb
   rw[hmb2] at HE
   have Ht:=hd ht;clear ht
   clear c10 cA coff h35 c35 h32 c32 hfr hmb hmb2
   go_enter Tryz.func126,Tryz.ntmps126
   go_wp2_with fail
   refine HE.out.mono ?_
   rintro e w1 ⟨rfl,wv1,sv1,ov1,rv1,h1⟩
   have e4:=za5 h1.cells 4
   simp only[zb2,List.getElem?_toArray,List.getElem?_cons_succ,List.getElem?_cons_zero] at e4
   have hB1:=h1.bel.size
   have hx1:=zan h1.word h1.cells (by decide)
   have how:=h1.word
   have hwl:s.word.length≤m:=Hs.out.word
   obtain⟨H1,Hx1,How⟩:=hd3 h1 hx1 how;clear h1 hx1 how
   go_wp2_with (at_builtin;refine zay zol (w:=w1) rfl (.tmp 16) (.tmp 18) rfl w0.heap.size wv1 s.word.length (zit s.word) rfl How.out 1 (by decide) #[.int .u8 n] rfl rfl (by simp[Value.oneCell']) (by omega) (by unfold maxLen;omega) hB1 ?_)
   intro g8 c8 w8 hown8 hg8 hm8
   have hc8:=zbu H1.out.cells ((Frm.refl _ w1).grown hg8 (S:=fun k=>wv1.ownBlock=some k) (fun k hk=>.inr hk)) Hx1.out
   have k4:=za5 hc8 4
   have f4:=zad hc8 4
   simp only[zb2,List.getElem?_toArray,List.getElem?_cons_succ,List.getElem?_cons_zero] at k4
   have hP:=H1.out.pushByte c (by rw[← Hn.out];exact hown8) hg8
   have HP:=hd hP;clear hP
   clear hown8 hg8 hm8 hc8
   go_wp2_with fail
   go_ret
   exact zde HP.out (by rw[Ht.out];rfl) (by rw[Ht.out];rfl)
  have ht:LexM.takes s c=({ LexM.onward s with frm:=s.col+1 },4):=by unfold LexM.takes;rw[if_neg c10,if_neg cA,if_neg coff,if_neg c35,if_neg c32,if_neg hfr,if_neg hmb]
  have hmb2:LexM.mayBegin (LexM.onward s)=false:=(by simpa using hmb:LexM.mayBegin s=false)
  rw[hmb2] at HE
  have Ht:=hd ht;clear ht
  clear c10 cA coff h35 c35 h32 c32 hfr hmb hmb2
  go_enter Tryz.func126,Tryz.ntmps126
  go_wp2_with fail
  refine HE.out.mono ?_
  rintro e w1 ⟨rfl,wv1,sv1,ov1,rv1,h1⟩
  have H1:=hd h1;clear h1
  go_wp2_with fail
  go_ret
  exact zde H1.out (by rw[Ht.out];rfl) (by rw[Ht.out];rfl)
 have coff:s.off=true:=hoff.symm
 have ht:LexM.takes s c=(LexM.onward s,0):=by unfold LexM.takes;rw[if_neg c10,if_neg cA,if_pos coff]
 unfold zgh
 rw[ht]
 clear ht c10 cA coff hoff
 go_enter Tryz.func126,Tryz.ntmps126
 go_wp2_with fail
 go_ret
 exact zde H2.out rfl rfl
end
end Go.Proofs.YteailgjiifdgcaaGreatDoor
