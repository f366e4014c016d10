/- Walks and plain facts. Texts merged: PnB, RqG, PnM, PtL, TxL, TxW, RcM, TxR, TxS, RqJ, RqK, RtM, Cells, RcT, RcS, Eqf, RcB, PrL, PtM. Condition: none beyond what each says. -/
import Derived.Test.YthgibhhbmmkjmaaGreatDoorPrintApartAll7
set_option linter.unusedVariables false
set_option linter.unusedSimpArgs false
set_option maxRecDepth 10000
set_option maxHeartbeats 4000000
namespace Go.Proofs.YthgibhhbmmkjmaaGreatDoor
section
open Go.Shelf Go.RowKit Go.Lib VerN VarM
attribute [local go_sem ↓] Go.wp_at_zero Go.wp_at_succ
theorem zmo (L:List ByteArray) (x:ByteArray):(L ++ [x]).map Value.string=L.map Value.string ++ [.string x]:=by simp
theorem zk5 {l:List Setg} {k:Nat} (h:k < l.length):(l.take (k+1)).map setT=(l.take k).map setT ++ [setT l[k]]:=by rw[List.take_succ_eq_append_getElem h,List.map_append];rfl
def zla (s:Spc3) (w:World) (e:Ending) (w':World):Prop:=∃ a c,e = .returned (.slice a (zbf s).length c)∧(RTs w' [.slice a (zbf s).length c] (zbf s)∧∀ p:Addr,a=some p→w.heap.size≤p.block)∧Below w.heap.size w w'
theorem ziq {W:World} {B:Nat} {e:TypeId} {sz:Nat} {a:Option Addr} {n c:Nat} {xs:List Value} (h:W.ownsRow B e sz (.slice a n c) n xs):∀ p:Addr,a=some p→B≤p.block:=fun p hp=>(h.lt p.block (by rw[hp];rfl)).1
structure WdI (w:World) (sets:List Setg) (F0:List ByteArray) (k:Nat) (v:Value) (W:World):Prop where
 row:W.ownsRow w.heap.size 9 1 v (F0.length+k) ((F0 ++ (sets.take k).map setT).map Value.string)
 bel:Below w.heap.size w W
theorem word_size (s:Spc3) (h1:s.1.size≤9000) (h3:∀ x∈s.2.2,x.1.size≤9000∧x.2.size≤9000) (h2:(zbk s).size≤9223372036854775807):∀ x∈zbf s,x.size≤maxLen:=by
 have e:∀ a b:ByteArray,(a ++ b).size=a.size+b.size:=fun a b=>by rw[← Txt.len,Go.Joins.data_append,List.length_append,Txt.len,Txt.len]
 have hs:∀ x∈(if zbk s=noT then [] else [zbk s]) ++ s.2.2.map setT,x.size≤maxLen:=fun x hx=>by
  unfold maxLen
  rcases List.mem_append.1 hx with hx | hx
  ·split at hx
   ·simp at hx
   rw[List.mem_singleton] at hx
   rw[hx]
   exact h2
  obtain⟨y,hy,rfl⟩:=List.mem_map.1 hx
  have:=h3 y hy
  unfold setT
  rw[e,e]
  show y.1.size+1+y.2.size≤_
  omega
 intro x hx
 unfold zbf at hx
 by_cases hc:(if zbk s=noT then [] else [zbk s]) ++ s.2.2.map setT = []
 ·rw[if_pos hc,List.mem_singleton] at hx
  rw[hx]
  decide
 rw[if_neg hc] at hx
 exact hs x hx
theorem zrz (l:List Tp) (hl:l.length≤1000):(spT (tB l)).size≤20000000:=by
 rw[spT_tB]
 unfold zdd
 split
 ·decide
 split
 ·decide
 have hF:=zk4 l
 have hlen:(zhc l).length≤1000:=by have:=zsq l;omega
 unfold joinF
 show (Lib.join (((zhc l).map zdl).map (·.data.toList)) [44]).length≤_
 have hb:∀ x∈((zhc l).map zdl).map (·.data.toList),x.length≤18001:=by
  intro x hx
  obtain⟨y,hy,rfl⟩:=List.mem_map.1 hx
  obtain⟨z,hz,rfl⟩:=List.mem_map.1 hy
  rw[Txt.len]
  exact zkd (hF z hz)
 have h1:=zn9 18001 _ hb
 have h2:(((zhc l).map zdl).map (·.data.toList)).length≤1000:=by simpa using hlen
 obtain⟨L,hL⟩ : ∃ L,L=((zhc l).map zdl).map (·.data.toList):=⟨_,rfl⟩
 rw[← hL] at h1 h2 ⊢
 cases L with
 | nil=>simp[Lib.join_nil]
 | cons x r =>
  rw[Lib.join_length]
  simp only[List.length_cons,List.length_nil] at *
  omega
theorem zhj {w:World} {v1 v2:Value} {nm:ByteArray} {l:List Tp} {sets:List Setg} (h1:RSps w [v1] (tB l)) (h2:zcj w [v2] sets) (hD:zbl w) (hl:l.length≤1000) (hm:sets.length≤1000) (hnz:nm.size≤9000) (hsz:∀ x∈sets,x.1.size≤9000∧x.2.size≤9000) :
  Calls Tryz.prog 36 #[.agg #[.string nm,v1,v2]] w (zla (nm,tB l,sets) w):=by
 obtain⟨a1,c1,rfl,-,-⟩:=zc5 h1
 obtain⟨a2,c2,rfl,hz2,hat⟩:=zca h2
 obtain⟨n1,hn1⟩ : ∃ n,n=(tB l).length:=⟨_,rfl⟩
 obtain⟨n2,hn2⟩ : ∃ n,n=sets.length:=⟨_,rfl⟩
 rw[← hn1] at h1 ⊢
 rw[← hn2] at h2 hz2 hm ⊢
 obtain⟨W1,hW1⟩ : ∃ W,W=w.alloc (.cells #[.string nm,.slice a1 n1 c1,.slice a2 n2 c2] 55):=⟨_,rfl⟩
 obtain⟨g,hg⟩ : ∃ g,g=w.heap.size:=⟨_,rfl⟩
 have hb1:Below w.heap.size w W1:=by rw[hW1];exact za2 _ _
 have p0:zbb g (.string nm) (.slice a1 n1 c1) (.slice a2 n2 c2) W1:=by rw[hW1,hg];exact heap_alloc_new _ _
 obtain⟨x0,x1,x2,-⟩:=zaq p0
 have r1:=za3 zan _ _ _ _ h1 hb1
 have hA:=zon r1
 have hT:=zjy r1 (by omega) (hD.below hb1)
 have hts:=zrz l hl
 have hst:zbk (nm,tB l,sets)=if tB l=allV then nm else nm ++ (⟨#[64]⟩ ++ spT (tB l)):=rfl
 rw[spT_tB] at hts hst
 obtain⟨tx,htx⟩ : ∃ t,t=zdd l:=⟨_,rfl⟩
 rw[← htx] at hT hts hst
 have hws:zbf (nm,tB l,sets)=if (if zbk (nm,tB l,sets)=noT then [] else [zbk (nm,tB l,sets)]) ++ sets.map setT = [] then [ze7] else (if zbk (nm,tB l,sets)=noT then [] else [zbk (nm,tB l,sets)]) ++ sets.map setT:=rfl
 have hwz:(zbk (nm,tB l,sets)).size≤9223372036854775807→∀ x∈zbf (nm,tB l,sets),x.size≤maxLen:=word_size (nm,tB l,sets) hnz hsz
 obtain⟨R,hR⟩ : ∃ R,R=zbf (nm,tB l,sets):=⟨_,rfl⟩
 obtain⟨fi,hfi⟩ : ∃ f,f=zbk (nm,tB l,sets):=⟨_,rfl⟩
 rw[← hR] at hws hwz
 rw[← hfi] at hst hws hwz
 unfold zla
 rw[← hR]
 obtain⟨al,hal⟩ : ∃ b,b=decide (tB l=allV):=⟨_,rfl⟩
 rw[← hal] at hA
 have hnd:=Txt.no_dec nm
 have hsize:∀ a b:ByteArray,(a ++ b).size=a.size+b.size:=fun a b=>by rw[← Txt.len,Go.Joins.data_append,List.length_append,Txt.len,Txt.len]
 obtain⟨H1,H2,HD,Hl,Hb1,Hp0,Hr1,HA,HT,Hts,Hst,Hws,Hwz,HR,Hfi,Htx⟩:=hd16 h1 h2 hD hl hb1 p0 r1 hA hT hts hst hws hwz hR hfi htx;obtain⟨Hal,Hn1,Hn2,Hat,Hsz,Hsize⟩:=hd6 hal hn1 hn2 hat hsz hsize;clear h1 h2 hD hl hb1 p0 r1 hA hT hts hst hws hwz hR hfi htx hal hn1 hn2 hat hsz hsize
 go_enter Tryz.func36,Tryz.ntmps36
 go_upto_region 1 with (fail)
 rw[← hW1,← hg]
 clear hW1 hg
 cases al with
 | true =>
  have hfn:fi=nm:=by rw[Hst.out,if_pos (of_decide_eq_true Hal.out.symm)]
  by_cases hne:nm.size=0
  ·have k1:nm.toList.isEmpty=true:=by rw[hnd];exact decide_eq_true hne
   have hF0':(if fi=noT then [] else [fi])=([] : List ByteArray):=if_pos (by rw[hfn];exact Txt.ext (List.eq_nil_of_length_eq_zero (by rw[Txt.len];exact hne)))
   have hfz:fi.size≤9223372036854775807:=by rw[hfn];omega
   obtain⟨F0,hFe⟩ : ∃ F:List ByteArray,F = []:=⟨_,rfl⟩
   have hF0:(if fi=noT then [] else [fi])=F0:=by rw[hFe];exact hF0'
   clear hF0'
   have hF1:F0.length≤1:=by rw[hFe];exact Nat.zero_le _
   have hI:WdI w sets F0 0 (.slice none 0 0) W1:=⟨by rw[hFe];exact World.ownsRow_nil _ _ _ _,Hb1.out⟩
   clear hnd
   obtain⟨Hfn,Hne,HF0,Hfz,HFe,HF1,HI⟩:=hd7 hfn hne hF0 hfz hFe hF1 hI;clear hfn hne hF0 hfz hFe hF1 hI
   go_wp2_with fail
   refine HA.out.mono ?_
   rintro e wz ⟨rfl,hwz'⟩
   subst hwz'
   go_upto_region 7 with (fail)
   have Hp:=Lib.hid Hp0.out
   obtain⟨y0,y1,y2,-⟩:=zaq Hp.out
   clear x0 x1 x2 k1
   go_wp2_with fail
   go_loopw [4,28] (fun v i wr=>∃ k:Nat,k≤n2∧i = .int .i64 k∧WdI w sets F0 k v wr) (fun _ i _=>n2 - (RowKit.intOf i).toNat)
   case atStart=>exact⟨0,Nat.zero_le _,rfl,HI.out⟩
   case round =>
    obtain⟨k,hk,rfl,hI⟩:=hrel
    obtain⟨z,hz⟩ : ∃ z,z=F0.length+k:=⟨_,rfl⟩
    have hrow:=hI.row
    rw[← hz] at hrow
    obtain⟨ra,rc,rfl⟩:=zaa hrow
    have hzs:z≤1001:=by have:=HF1.out;omega
    by_cases hlt:k < n2
    ·have hkl:k < sets.length:=by have:=Hn2.out;omega
     obtain⟨x,hx⟩ : ∃ x,x=sets[k]:=⟨_,rfl⟩
     obtain⟨b,off,rfl,d0,d1,hs1,hs2⟩:=Hat.out k x (by rw[hx];exact List.getElem?_eq_getElem hkl)
     have e0:=cell_later hI.bel d0
     have e1:=cell_later hI.bel d1
     have hnext:=zk5 hkl
     rw[← hx] at hnext
     have hset:setT x=x.1 ++ ⟨#[61]⟩ ++ x.2:=rfl
     obtain⟨s,hs⟩ : ∃ s,s=x.1:=⟨_,rfl⟩
     obtain⟨t,ht⟩ : ∃ s,s=x.2:=⟨_,rfl⟩
     rw[← hs,← ht] at hset
     have hxz:=Hsz.out x (by rw[hx];exact List.getElem_mem hkl)
     rw[← hs,← ht] at hxz
     obtain⟨hss,htt⟩:=hxz
     rw[← hs] at e0
     rw[← ht] at e1
     obtain⟨sb,hsb⟩ : ∃ z,z=wr.heap.size:=⟨_,rfl⟩
     obtain⟨w5,hw5⟩ : ∃ W,W=wr.alloc (.cells #[.string s,.string t] 137):=⟨_,rfl⟩
     have hba:Below wr.heap.size wr w5:=by rw[hw5];exact za2 _ _
     have p6:w5.heap[sb]? = some (.cells #[.string s,.string t] 137 (0,0)):=by rw[hw5,hsb];exact heap_alloc_new _ _
     have f0:=za0 p6 0
     have f1:=za0 p6 1
     simp only[List.getElem?_toArray,List.getElem?_cons_zero,List.getElem?_cons_succ] at f0 f1
     have hrow5:=zab hrow hba
     have hbel5:=hI.bel.trans (hba.mono hI.bel.size)
     have hbw5:=hbel5.size
     obtain⟨N,hN⟩ : ∃ N,N=(F0 ++ (sets.take k).map setT).map Value.string:=⟨_,rfl⟩
     rw[← hN] at hrow5
     have k5:(0:Int)≤(k:Int):=by omega
     have k6:(k:Int) < (n2:Int):=by omega
     clear d0 d1 hs1 hs2
     obtain⟨HI,Hz,Hrow,Hx,Hs,Ht,Hnext,Hset,Hba,Hrow5,Hbel5,Hbw5,HN,Hp6⟩:=hd14 hI hz hrow hx hs ht hnext hset hba hrow5 hbel5 hbw5 hN p6;clear hI hz hrow hx hs ht hnext hset hba hrow5 hbel5 hbw5 hN p6
     go_upto_region 10 with (fail)
     rw[← hw5,← hsb]
     clear hw5 hsb e0 e1
     go_wp2_with (at_builtin;(refine zaw zcb rfl (.tmp 32) (.tmp 39) rfl w.heap.size (.slice ra z rc) z N rfl Hrow5.out 1 _ rfl rfl (by simp[Value.oneCell']) (by omega) (by unfold maxLen;omega) Hbw5.out ?_;intro v9 w9 hown9 hg9 hm9;obtain⟨a9,c9,rfl⟩:=zaa hown9;have hb9:=(zch Hbel5.out Hrow5.out (Nat.le_refl _) hg9 Hbw5.out:Below w.heap.size w w9);obtain⟨Hown9,Hb9⟩:=hd2 hown9 hb9;clear hown9 hg9 hm9 hb9))
     go_roundw
     case rel =>
      refine⟨k+1,by omega,by go_num,⟨?_,Hb9.out⟩⟩
      rw[Hnext.out,← List.append_assoc,zmo,← HN.out,← Nat.add_assoc,← Hz.out,Hset.out]
      exact Hown9.out
     case measure=>(simp[RowKit.intOf]) <;> omega
    obtain rfl:k=n2:=by omega
    have htk:(sets.take k).map setT=sets.map setT:=by rw[List.take_of_length_le (Nat.le_of_eq Hn2.out.symm)]
    have hws2:=Hws.out
    rw[HF0.out] at hws2
    rw[htk] at hrow
    have hlen:(F0 ++ sets.map setT).length=z:=by rw[List.length_append,List.length_map,hz,Hn2.out]
    have hRz:=Hwz.out Hfz.out
    by_cases hz0:z=0
    ·subst hz0
     have hL:F0 ++ sets.map setT = []:=List.eq_nil_of_length_eq_zero hlen
     rw[if_pos hL] at hws2
     have hlit:(wr.alloc (.cells #[.string ⟨#[42]⟩] 9)).ownsRow wr.heap.size 9 1 (.slice (some ⟨wr.heap.size,0,none⟩) 1 1) 1 [.string ⟨#[42]⟩]:=World.ownsRow_lit (base:=wr.heap.size) (e:=9) (size:=1) wr #[.string ⟨#[42]⟩] 1 (Nat.le_refl _) (by decide) rfl
     have hbz:Below w.heap.size w (wr.alloc (.cells #[.string ⟨#[42]⟩] 9)):=hI.bel.alloc hI.bel.size _
     obtain⟨HI,Hz,Hrow,Htk,Hws2,Hlen,HRz,HL,Hlit,Hbz⟩:=hd10 hI hz hrow htk hws2 hlen hRz hL hlit hbz;clear hI hz hrow htk hws2 hlen hRz hL hlit hbz
     go_wp2_with fail
     go_ret
     have hfin:R = [ze7]:=Hws2.out
     refine⟨some ⟨wr.heap.size,0,none⟩,1,by rw[hfin];rfl,?_,Hbz.out⟩
     rw[hfin]
     exact⟨ze8 (l:=[ze7]) Hlit.out (fun x hx=>by rw[List.mem_singleton] at hx;rw[hx];decide),ziq (zdg Hlit.out HI.out.bel.size)⟩
    have k7:((z:Int) == 0)=false:=by rw[beq_eq_false_iff_ne];omega
    have hL:F0 ++ sets.map setT≠[]:=fun e=>by rw[e] at hlen;exact hz0 hlen.symm
    rw[if_neg hL] at hws2
    rw[← hws2] at hrow hlen
    have hI2:=hI
    obtain⟨HI,HI2,Hz,Hrow,Htk,Hws2,Hlen,HRz,HL,Hz0⟩:=hd10 hI hI2 hz hrow htk hws2 hlen hRz hL hz0;clear hI hI2 hz hrow htk hws2 hlen hRz hL hz0
    go_wp2_with fail
    go_ret
    refine⟨ra,rc,by rw[Hlen.out];rfl,?_,HI2.out.bel⟩
    rw[Hlen.out]
    exact⟨ze8 Hrow.out HRz.out,ziq Hrow.out⟩
  have k1:nm.toList.isEmpty=false:=by rw[hnd];exact decide_eq_false hne
  have hF0':(if fi=noT then [] else [fi]) = [nm]:=by rw[hfn];exact if_neg (by intro e;rw[e] at hne;exact hne rfl)
  have hfz:fi.size≤9223372036854775807:=by rw[hfn];omega
  obtain⟨F0,hFe⟩ : ∃ F:List ByteArray,F = [nm]:=⟨_,rfl⟩
  have hF0:(if fi=noT then [] else [fi])=F0:=by rw[hFe];exact hF0'
  clear hF0'
  have hF1:F0.length≤1:=by rw[hFe];exact Nat.le_refl _
  have hbs:=Hb1.out.size
  have hnil:W1.ownsRow w.heap.size 9 1 (.slice none 0 0) 0 []:=World.ownsRow_nil _ _ _ _
  clear hnd
  obtain⟨Hfn,Hne,HF0,Hfz,Hnil,HFe,HF1⟩:=hd7 hfn hne hF0 hfz hnil hFe hF1;clear hfn hne hF0 hfz hnil hFe hF1
  go_wp2_with fail
  refine HA.out.mono ?_
  rintro e wz ⟨rfl,hwz'⟩
  subst hwz'
  go_wp2_with (at_builtin;(refine zaw zcb rfl (.tmp 21) (.tmp 23) rfl w.heap.size (.slice none 0 0) 0 [] rfl Hnil.out 1 #[.string nm] rfl rfl (by simp[Value.oneCell']) (by omega) (by unfold maxLen;omega) hbs ?_;intro v9 w9 hown9 hg9 hm9;obtain⟨a9,c9,rfl⟩:=zaa hown9;have hb9:=(zch Hb1.out Hnil.out (Nat.le_refl _) hg9 hbs:Below w.heap.size w w9);have Hp:=Lib.hid ((hg9.block g (Array.getElem?_eq_some_iff.1 Hp0.out).1 (by simp[Value.ownBlock])).trans Hp0.out:zbb g (.string nm) (.slice a1 n1 c1) (.slice a2 n2 c2) w9);have HI:=Lib.hid (⟨by rw[HFe.out];exact hown9,hb9⟩ : WdI w sets F0 0 (.slice a9 1 c9) w9);obtain⟨y0,y1,y2,-⟩:=zaq Hp.out;clear hown9 hg9 hm9 hb9))
  clear x0 x1 x2 k1
  go_loopw [4,28] (fun v i wr=>∃ k:Nat,k≤n2∧i = .int .i64 k∧WdI w sets F0 k v wr) (fun _ i _=>n2 - (RowKit.intOf i).toNat)
  case atStart=>exact⟨0,Nat.zero_le _,rfl,HI.out⟩
  case round =>
   obtain⟨k,hk,rfl,hI⟩:=hrel
   obtain⟨z,hz⟩ : ∃ z,z=F0.length+k:=⟨_,rfl⟩
   have hrow:=hI.row
   rw[← hz] at hrow
   obtain⟨ra,rc,rfl⟩:=zaa hrow
   have hzs:z≤1001:=by have:=HF1.out;omega
   by_cases hlt:k < n2
   ·have hkl:k < sets.length:=by have:=Hn2.out;omega
    obtain⟨x,hx⟩ : ∃ x,x=sets[k]:=⟨_,rfl⟩
    obtain⟨b,off,rfl,d0,d1,hs1,hs2⟩:=Hat.out k x (by rw[hx];exact List.getElem?_eq_getElem hkl)
    have e0:=cell_later hI.bel d0
    have e1:=cell_later hI.bel d1
    have hnext:=zk5 hkl
    rw[← hx] at hnext
    have hset:setT x=x.1 ++ ⟨#[61]⟩ ++ x.2:=rfl
    obtain⟨s,hs⟩ : ∃ s,s=x.1:=⟨_,rfl⟩
    obtain⟨t,ht⟩ : ∃ s,s=x.2:=⟨_,rfl⟩
    rw[← hs,← ht] at hset
    have hxz:=Hsz.out x (by rw[hx];exact List.getElem_mem hkl)
    rw[← hs,← ht] at hxz
    obtain⟨hss,htt⟩:=hxz
    rw[← hs] at e0
    rw[← ht] at e1
    obtain⟨sb,hsb⟩ : ∃ z,z=wr.heap.size:=⟨_,rfl⟩
    obtain⟨w5,hw5⟩ : ∃ W,W=wr.alloc (.cells #[.string s,.string t] 137):=⟨_,rfl⟩
    have hba:Below wr.heap.size wr w5:=by rw[hw5];exact za2 _ _
    have p6:w5.heap[sb]? = some (.cells #[.string s,.string t] 137 (0,0)):=by rw[hw5,hsb];exact heap_alloc_new _ _
    have f0:=za0 p6 0
    have f1:=za0 p6 1
    simp only[List.getElem?_toArray,List.getElem?_cons_zero,List.getElem?_cons_succ] at f0 f1
    have hrow5:=zab hrow hba
    have hbel5:=hI.bel.trans (hba.mono hI.bel.size)
    have hbw5:=hbel5.size
    obtain⟨N,hN⟩ : ∃ N,N=(F0 ++ (sets.take k).map setT).map Value.string:=⟨_,rfl⟩
    rw[← hN] at hrow5
    have k5:(0:Int)≤(k:Int):=by omega
    have k6:(k:Int) < (n2:Int):=by omega
    clear d0 d1 hs1 hs2
    obtain⟨HI,Hz,Hrow,Hx,Hs,Ht,Hnext,Hset,Hba,Hrow5,Hbel5,Hbw5,HN,Hp6⟩:=hd14 hI hz hrow hx hs ht hnext hset hba hrow5 hbel5 hbw5 hN p6;clear hI hz hrow hx hs ht hnext hset hba hrow5 hbel5 hbw5 hN p6
    go_upto_region 10 with (fail)
    rw[← hw5,← hsb]
    clear hw5 hsb e0 e1
    go_wp2_with (at_builtin;(refine zaw zcb rfl (.tmp 32) (.tmp 39) rfl w.heap.size (.slice ra z rc) z N rfl Hrow5.out 1 _ rfl rfl (by simp[Value.oneCell']) (by omega) (by unfold maxLen;omega) Hbw5.out ?_;intro v9 w9 hown9 hg9 hm9;obtain⟨a9,c9,rfl⟩:=zaa hown9;have hb9:=(zch Hbel5.out Hrow5.out (Nat.le_refl _) hg9 Hbw5.out:Below w.heap.size w w9);obtain⟨Hown9,Hb9⟩:=hd2 hown9 hb9;clear hown9 hg9 hm9 hb9))
    go_roundw
    case rel =>
     refine⟨k+1,by omega,by go_num,⟨?_,Hb9.out⟩⟩
     rw[Hnext.out,← List.append_assoc,zmo,← HN.out,← Nat.add_assoc,← Hz.out,Hset.out]
     exact Hown9.out
    case measure=>(simp[RowKit.intOf]) <;> omega
   obtain rfl:k=n2:=by omega
   have htk:(sets.take k).map setT=sets.map setT:=by rw[List.take_of_length_le (Nat.le_of_eq Hn2.out.symm)]
   have hws2:=Hws.out
   rw[HF0.out] at hws2
   rw[htk] at hrow
   have hlen:(F0 ++ sets.map setT).length=z:=by rw[List.length_append,List.length_map,hz,Hn2.out]
   have hRz:=Hwz.out Hfz.out
   by_cases hz0:z=0
   ·subst hz0
    have hL:F0 ++ sets.map setT = []:=List.eq_nil_of_length_eq_zero hlen
    rw[if_pos hL] at hws2
    have hlit:(wr.alloc (.cells #[.string ⟨#[42]⟩] 9)).ownsRow wr.heap.size 9 1 (.slice (some ⟨wr.heap.size,0,none⟩) 1 1) 1 [.string ⟨#[42]⟩]:=World.ownsRow_lit (base:=wr.heap.size) (e:=9) (size:=1) wr #[.string ⟨#[42]⟩] 1 (Nat.le_refl _) (by decide) rfl
    have hbz:Below w.heap.size w (wr.alloc (.cells #[.string ⟨#[42]⟩] 9)):=hI.bel.alloc hI.bel.size _
    obtain⟨HI,Hz,Hrow,Htk,Hws2,Hlen,HRz,HL,Hlit,Hbz⟩:=hd10 hI hz hrow htk hws2 hlen hRz hL hlit hbz;clear hI hz hrow htk hws2 hlen hRz hL hlit hbz
    go_wp2_with fail
    go_ret
    have hfin:R = [ze7]:=Hws2.out
    refine⟨some ⟨wr.heap.size,0,none⟩,1,by rw[hfin];rfl,?_,Hbz.out⟩
    rw[hfin]
    exact⟨ze8 (l:=[ze7]) Hlit.out (fun x hx=>by rw[List.mem_singleton] at hx;rw[hx];decide),ziq (zdg Hlit.out HI.out.bel.size)⟩
   have k7:((z:Int) == 0)=false:=by rw[beq_eq_false_iff_ne];omega
   have hL:F0 ++ sets.map setT≠[]:=fun e=>by rw[e] at hlen;exact hz0 hlen.symm
   rw[if_neg hL] at hws2
   rw[← hws2] at hrow hlen
   have hI2:=hI
   obtain⟨HI,HI2,Hz,Hrow,Htk,Hws2,Hlen,HRz,HL,Hz0⟩:=hd10 hI hI2 hz hrow htk hws2 hlen hRz hL hz0;clear hI hI2 hz hrow htk hws2 hlen hRz hL hz0
   go_wp2_with fail
   go_ret
   refine⟨ra,rc,by rw[Hlen.out];rfl,?_,HI2.out.bel⟩
   rw[Hlen.out]
   exact⟨ze8 Hrow.out HRz.out,ziq Hrow.out⟩
 | false =>
  have hfn:fi=nm ++ (⟨#[64]⟩ ++ tx):=by rw[Hst.out,if_neg (of_decide_eq_false Hal.out.symm)]
  have hne:fi≠noT:=by rw[hfn];exact app_ne (ne_app (by decide))
  have hfz:fi.size≤9223372036854775807:=by
   have:=Hts.out
   have e1:=Hsize.out nm (⟨#[64]⟩ ++ tx)
   have e2:=Hsize.out ⟨#[64]⟩ tx
   have e3:(⟨#[64]⟩ : ByteArray).size=1:=rfl
   rw[hfn]
   omega
  obtain⟨F0,hFe⟩ : ∃ F:List ByteArray,F = [nm ++ (⟨#[64]⟩ ++ tx)]:=⟨_,rfl⟩
  have hF0:(if fi=noT then [] else [fi])=F0:=by rw[if_neg hne,hFe,hfn]
  have hF1:F0.length≤1:=by rw[hFe];exact Nat.le_refl _
  have k1:(nm ++ (⟨#[64]⟩ ++ tx)).toList.isEmpty=false:=by
   rw[Txt.no_dec]
   refine decide_eq_false fun h=>?_
   apply hne
   rw[hfn]
   exact Txt.ext (List.eq_nil_of_length_eq_zero (by rw[Txt.len];exact h))
  clear hnd
  have htxz:=Hts.out
  obtain⟨Hfn,Hne,HF0,Hfz,HFe,HF1⟩:=hd6 hfn hne hF0 hfz hFe hF1;clear hfn hne hF0 hfz hFe hF1
  go_wp2_with fail
  refine HA.out.mono ?_
  rintro e wz ⟨rfl,hwz'⟩
  subst hwz'
  go_wp2_with fail
  refine HT.out.mono ?_
  rintro e wt ⟨rfl,hbt1⟩
  have hbt:=Hb1.out.trans (hbt1.mono Hb1.out.size)
  have hpt:=za1 hbt1 Hp0.out
  have hbs:=hbt.size
  have hnil:wt.ownsRow w.heap.size 9 1 (.slice none 0 0) 0 []:=World.ownsRow_nil _ _ _ _
  obtain⟨Hbt1,Hbt,Hpt,Hnil⟩:=hd4 hbt1 hbt hpt hnil;clear hbt1 hbt hpt hnil
  go_wp2_with (at_builtin;(refine zaw zcb rfl (.tmp 21) (.tmp 23) rfl w.heap.size (.slice none 0 0) 0 [] rfl Hnil.out 1 _ rfl rfl (by simp[Value.oneCell']) (by omega) (by unfold maxLen;omega) hbs ?_;intro v9 w9 hown9 hg9 hm9;obtain⟨a9,c9,rfl⟩:=zaa hown9;have hb9:=(zch Hbt.out Hnil.out (Nat.le_refl _) hg9 hbs:Below w.heap.size w w9);have Hp:=Lib.hid ((hg9.block g (Array.getElem?_eq_some_iff.1 Hpt.out).1 (by simp[Value.ownBlock])).trans Hpt.out:zbb g (.string nm) (.slice a1 n1 c1) (.slice a2 n2 c2) w9);have HI:=Lib.hid (⟨by rw[HFe.out];exact hown9,hb9⟩ : WdI w sets F0 0 (.slice a9 1 c9) w9);obtain⟨y0,y1,y2,-⟩:=zaq Hp.out;clear hown9 hg9 hm9 hb9))
  clear x0 x1 x2 k1
  go_loopw [4,28] (fun v i wr=>∃ k:Nat,k≤n2∧i = .int .i64 k∧WdI w sets F0 k v wr) (fun _ i _=>n2 - (RowKit.intOf i).toNat)
  case atStart=>exact⟨0,Nat.zero_le _,rfl,HI.out⟩
  case round =>
   obtain⟨k,hk,rfl,hI⟩:=hrel
   obtain⟨z,hz⟩ : ∃ z,z=F0.length+k:=⟨_,rfl⟩
   have hrow:=hI.row
   rw[← hz] at hrow
   obtain⟨ra,rc,rfl⟩:=zaa hrow
   have hzs:z≤1001:=by have:=HF1.out;omega
   by_cases hlt:k < n2
   ·have hkl:k < sets.length:=by have:=Hn2.out;omega
    obtain⟨x,hx⟩ : ∃ x,x=sets[k]:=⟨_,rfl⟩
    obtain⟨b,off,rfl,d0,d1,hs1,hs2⟩:=Hat.out k x (by rw[hx];exact List.getElem?_eq_getElem hkl)
    have e0:=cell_later hI.bel d0
    have e1:=cell_later hI.bel d1
    have hnext:=zk5 hkl
    rw[← hx] at hnext
    have hset:setT x=x.1 ++ ⟨#[61]⟩ ++ x.2:=rfl
    obtain⟨s,hs⟩ : ∃ s,s=x.1:=⟨_,rfl⟩
    obtain⟨t,ht⟩ : ∃ s,s=x.2:=⟨_,rfl⟩
    rw[← hs,← ht] at hset
    have hxz:=Hsz.out x (by rw[hx];exact List.getElem_mem hkl)
    rw[← hs,← ht] at hxz
    obtain⟨hss,htt⟩:=hxz
    rw[← hs] at e0
    rw[← ht] at e1
    obtain⟨sb,hsb⟩ : ∃ z,z=wr.heap.size:=⟨_,rfl⟩
    obtain⟨w5,hw5⟩ : ∃ W,W=wr.alloc (.cells #[.string s,.string t] 137):=⟨_,rfl⟩
    have hba:Below wr.heap.size wr w5:=by rw[hw5];exact za2 _ _
    have p6:w5.heap[sb]? = some (.cells #[.string s,.string t] 137 (0,0)):=by rw[hw5,hsb];exact heap_alloc_new _ _
    have f0:=za0 p6 0
    have f1:=za0 p6 1
    simp only[List.getElem?_toArray,List.getElem?_cons_zero,List.getElem?_cons_succ] at f0 f1
    have hrow5:=zab hrow hba
    have hbel5:=hI.bel.trans (hba.mono hI.bel.size)
    have hbw5:=hbel5.size
    obtain⟨N,hN⟩ : ∃ N,N=(F0 ++ (sets.take k).map setT).map Value.string:=⟨_,rfl⟩
    rw[← hN] at hrow5
    have k5:(0:Int)≤(k:Int):=by omega
    have k6:(k:Int) < (n2:Int):=by omega
    clear d0 d1 hs1 hs2
    obtain⟨HI,Hz,Hrow,Hx,Hs,Ht,Hnext,Hset,Hba,Hrow5,Hbel5,Hbw5,HN,Hp6⟩:=hd14 hI hz hrow hx hs ht hnext hset hba hrow5 hbel5 hbw5 hN p6;clear hI hz hrow hx hs ht hnext hset hba hrow5 hbel5 hbw5 hN p6
    go_upto_region 10 with (fail)
    rw[← hw5,← hsb]
    clear hw5 hsb e0 e1
    go_wp2_with (at_builtin;(refine zaw zcb rfl (.tmp 32) (.tmp 39) rfl w.heap.size (.slice ra z rc) z N rfl Hrow5.out 1 _ rfl rfl (by simp[Value.oneCell']) (by omega) (by unfold maxLen;omega) Hbw5.out ?_;intro v9 w9 hown9 hg9 hm9;obtain⟨a9,c9,rfl⟩:=zaa hown9;have hb9:=(zch Hbel5.out Hrow5.out (Nat.le_refl _) hg9 Hbw5.out:Below w.heap.size w w9);obtain⟨Hown9,Hb9⟩:=hd2 hown9 hb9;clear hown9 hg9 hm9 hb9))
    go_roundw
    case rel =>
     refine⟨k+1,by omega,by go_num,⟨?_,Hb9.out⟩⟩
     rw[Hnext.out,← List.append_assoc,zmo,← HN.out,← Nat.add_assoc,← Hz.out,Hset.out]
     exact Hown9.out
    case measure=>(simp[RowKit.intOf]) <;> omega
   obtain rfl:k=n2:=by omega
   have htk:(sets.take k).map setT=sets.map setT:=by rw[List.take_of_length_le (Nat.le_of_eq Hn2.out.symm)]
   have hws2:=Hws.out
   rw[HF0.out] at hws2
   rw[htk] at hrow
   have hlen:(F0 ++ sets.map setT).length=z:=by rw[List.length_append,List.length_map,hz,Hn2.out]
   have hRz:=Hwz.out Hfz.out
   by_cases hz0:z=0
   ·subst hz0
    have hL:F0 ++ sets.map setT = []:=List.eq_nil_of_length_eq_zero hlen
    rw[if_pos hL] at hws2
    have hlit:(wr.alloc (.cells #[.string ⟨#[42]⟩] 9)).ownsRow wr.heap.size 9 1 (.slice (some ⟨wr.heap.size,0,none⟩) 1 1) 1 [.string ⟨#[42]⟩]:=World.ownsRow_lit (base:=wr.heap.size) (e:=9) (size:=1) wr #[.string ⟨#[42]⟩] 1 (Nat.le_refl _) (by decide) rfl
    have hbz:Below w.heap.size w (wr.alloc (.cells #[.string ⟨#[42]⟩] 9)):=hI.bel.alloc hI.bel.size _
    obtain⟨HI,Hz,Hrow,Htk,Hws2,Hlen,HRz,HL,Hlit,Hbz⟩:=hd10 hI hz hrow htk hws2 hlen hRz hL hlit hbz;clear hI hz hrow htk hws2 hlen hRz hL hlit hbz
    go_wp2_with fail
    go_ret
    have hfin:R = [ze7]:=Hws2.out
    refine⟨some ⟨wr.heap.size,0,none⟩,1,by rw[hfin];rfl,?_,Hbz.out⟩
    rw[hfin]
    exact⟨ze8 (l:=[ze7]) Hlit.out (fun x hx=>by rw[List.mem_singleton] at hx;rw[hx];decide),ziq (zdg Hlit.out HI.out.bel.size)⟩
   have k7:((z:Int) == 0)=false:=by rw[beq_eq_false_iff_ne];omega
   have hL:F0 ++ sets.map setT≠[]:=fun e=>by rw[e] at hlen;exact hz0 hlen.symm
   rw[if_neg hL] at hws2
   rw[← hws2] at hrow hlen
   have hI2:=hI
   obtain⟨HI,HI2,Hz,Hrow,Htk,Hws2,Hlen,HRz,HL,Hz0⟩:=hd10 hI hI2 hz hrow htk hws2 hlen hRz hL hz0;clear hI hI2 hz hrow htk hws2 hlen hRz hL hz0
   go_wp2_with fail
   go_ret
   refine⟨ra,rc,by rw[Hlen.out];rfl,?_,HI2.out.bel⟩
   rw[Hlen.out]
   exact⟨ze8 Hrow.out HRz.out,ziq Hrow.out⟩
end

namespace LexM
def zpw (N:Nat) (x:Wd):Prop:=1≤x.1∧x.1≤(N:Int)∧x.2≠[]∧x.2.length≤N
def zik (N:Nat) (l:Ln):Prop:=1≤l.1∧l.2≠[]∧l.2.length≤40∧∀ x∈l.2,zpw N x
theorem zpw.mono {N M:Nat} (h:N≤M) {x:Wd} (g:zpw N x):zpw M x:=⟨g.1,by have:=g.2.1;omega,g.2.2.1,Nat.le_trans g.2.2.2 h⟩
theorem rerr_room {t:Bs} {room:Bool} {s:RS} {i:Nat} {c:UInt8} (h:rerr t room s i c=0) (hk:zgi t s i c=false):s.out.length≠40:=by
 intro e
 unfold rerr at h
 rw[hk] at h
 split at h
 ·cases h
 simp[e] at h
theorem zs9 {t:Bs} {room:Bool}:∀ (r:Bs) (s:RS) (i:Nat),t.drop i=r→s.out.length≤40→(∀ x∈s.out,zpw t.length x)→(∀ x∈(rgo t room s i r).1,zpw t.length x)∧(rgo t room s i r).1.length≤40
 | [],s,i,_,hl,h=>⟨h,hl⟩
 | c :: r,s,i,hd,hl,h=>by
  obtain⟨hg,hd2,hi⟩:=zgo hd
  unfold rgo
  by_cases he:rerr t room s i c=0
  ·rw[if_pos he]
   refine zs9 r _ (i+1) hd2 ?_ ?_
   ·unfold zgj
    dsimp only
    split
    ·exact hl
    rename_i hk
    have:=rerr_room he (by simpa using hk)
    rw[List.length_append,List.length_singleton]
    omega
   intro x hx
   unfold zgj at hx
   dsimp only at hx
   split at hx
   ·exact h x hx
   rename_i hk
   rcases List.mem_append.1 hx with hx | hx
   ·exact h x hx
   rw[List.mem_singleton] at hx
   subst hx
   have hp:part c=true:=by
    unfold zgi at hk
    simp only[Bool.or_eq_true,not_or,Bool.not_eq_true',Bool.not_eq_false] at hk
    exact hk.1.2
   refine⟨by show (1:Int)≤(i:Int)+1;omega,by show (i:Int)+1≤(t.length:Int);omega,?_,?_⟩
   ·show zls t i≠[]
    rw[znt hd hp]
    simp
   show (zls t i).length≤t.length
   unfold zls
   refine Nat.le_trans (List.takeWhile_sublist _).length_le ?_
   rw[List.length_drop]
   omega
  rw[if_neg he]
  exact⟨h,hl⟩
theorem zm2 (t:Bs) (room:Bool):(∀ x∈(zjc t room).1,zpw t.length x)∧(zjc t room).1.length≤40:=zs9 t _ 0 rfl (Nat.zero_le _) (fun x hx=>by simp at hx)
theorem zmi {N:Nat} {out:List Ln} {n:Int} {ws:List Wd} (h:∀ l∈out,zik N l) (hn:1≤n) (h40:ws.length≤40) (hw:∀ x∈ws,zpw N x):∀ l∈znn out n ws,zik N l:=by
 unfold znn
 split
 ·exact h
 rename_i h0
 intro l hl
 rcases List.mem_append.1 hl with hl | hl
 ·exact h l hl
 rw[List.mem_singleton] at hl
 subst hl
 exact⟨hn,h0,h40,hw⟩
theorem zpr (out:List Ln) (n:Int) (ws:List Wd):(znn out n ws).length≤out.length+1:=by
 unfold znn
 split <;> simp
theorem zhv {N:Nat}:∀ (r:Bs) (n:Int) (cur:Bs) (out:List Ln),1≤n→cur.length+r.length≤N→(∀ l∈out,zik N l)→(∀ l∈(zhi n cur out r).lines,zik N l)∧(zhi n cur out r).lines.length≤out.length+r.length+1
 | [],n,cur,out,hn,hN,h=>by
  have hg:=zm2 cur (decide (out.length < 2000))
  simp only[List.length_nil] at hN
  unfold zhi
  dsimp only
  split
  ·exact⟨zmi h hn hg.2 (fun x hx=>(hg.1 x hx).mono (by omega)),by have:=zpr out n (zjc cur (decide (out.length < 2000))).1;simp;omega⟩
  exact⟨fun l hl=>by simp at hl,by simp⟩
 | c :: r,n,cur,out,hn,hN,h=>by
  have hg:=zm2 cur (decide (out.length < 2000))
  simp only[List.length_cons] at hN ⊢
  unfold zhi
  split
  ·dsimp only
   split
   ·have:=zhv r (n+1) [] (znn out n (zjc cur (decide (out.length < 2000))).1) (by omega) (by simp;omega) (zmi h hn hg.2 (fun x hx=>(hg.1 x hx).mono (by omega)))
    have h2:=zpr out n (zjc cur (decide (out.length < 2000))).1
    exact⟨this.1,by omega⟩
   exact⟨fun l hl=>by simp at hl,by simp⟩
  have:=zhv r n (cur ++ [c]) out hn (by simp;omega) h
  exact⟨this.1,by omega⟩
theorem doc_good (t:Bs):(∀ l∈(docLines t).lines,zik t.length l)∧(docLines t).lines.length≤t.length+1:=by
 unfold docLines
 split
 ·exact⟨fun l hl=>by simp at hl,by simp⟩
 have:=zhv (N:=t.length) t 1 [] [] (by omega) (by simp) (fun l hl=>by simp at hl)
 simpa using this
theorem doc_good7 (t:Bs):(∀ l∈(docLines t).lines,zik 70000 l)∧(docLines t).lines.length≤70001:=by
 by_cases h:65536 < t.length
 ·unfold docLines
  rw[if_pos h]
  exact⟨fun l hl=>by simp at hl,by simp⟩
 have h1:=doc_good t
 exact⟨fun l hl=>by obtain⟨k1,k2,k3,k4⟩:=h1.1 l hl;exact⟨k1,k2,k3,fun x hx=>(k4 x hx).mono (by omega)⟩,by omega⟩
end LexM

section
open Go.Lib VerN VarM
open LexM (Wd Ln)
abbrev zt7:=List Wd→Nat→Option Spc3 × Nat
def ziy (R:zt7) (t:ByteArray) (s:Spc3):Prop:=(LexM.docLines t.data.toList).e=0∧∃ ln,(LexM.docLines t.data.toList).lines = [ln]∧wt ln.2=t.data.toList∧R ln.2 0=(some s,ln.2.length)
open Classical in
noncomputable def zk0 (R:zt7) (s:Spc3):ByteArray × Bool:=if ziy R (zi5 s) s then (zi5 s,true) else (noT,false)
theorem zo5 {R:zt7} {s:Spc3} (h:ziy R (zi5 s) s):zk0 R s=(zi5 s,true):=by unfold zk0;rw[if_pos h]
theorem specR_no {R:zt7} {s:Spc3} (h:¬ ziy R (zi5 s) s):zk0 R s=(noT,false):=by unfold zk0;rw[if_neg h]
structure Sp (s:Spc3) (l:List Tp):Prop where
 sp:s.2.1=tB l
 l1:l.length≤1000
 nm:s.1.size≤9000
 sl:s.2.2.length≤1000
 sz:∀ x∈s.2.2,x.1.size≤9000∧x.2.size≤9000
theorem zg4 (a b:ByteArray):(a ++ b).size=a.size+b.size:=by rw[← Txt.len,Go.Joins.data_append,List.length_append,Txt.len,Txt.len]
theorem Sp.first {s:Spc3} {l:List Tp} (h:Sp s l):(zbk s).size≤20009001:=by
 have h1:=zrz l h.l1
 have h2:=h.nm
 unfold zbk
 rw[h.sp]
 split
 ·omega
 rw[zg4,zg4]
 have:(⟨#[64]⟩ : ByteArray).size=1:=rfl
 omega
theorem Sp.words {s:Spc3} {l:List Tp} (h:Sp s l):(∀ x∈zbf s,x.size≤20009001)∧(zbf s).length≤1001∧zbf s≠[]:=by
 have hs:∀ x∈(if zbk s=noT then [] else [zbk s]) ++ s.2.2.map setT,x.size≤20009001:=fun x hx=>by
  rcases List.mem_append.1 hx with hx | hx
  ·split at hx
   ·simp at hx
   rw[List.mem_singleton] at hx
   rw[hx]
   exact h.first
  obtain⟨y,hy,rfl⟩:=List.mem_map.1 hx
  have:=h.sz y hy
  unfold setT
  rw[zg4,zg4]
  have e:(⟨#[61]⟩ : ByteArray).size=1:=rfl
  omega
 have hl:((if zbk s=noT then [] else [zbk s]) ++ s.2.2.map setT).length≤1001:=by
  have:=h.sl
  rw[List.length_append,List.length_map]
  split <;> simp <;> omega
 unfold zbf
 by_cases hc:(if zbk s=noT then [] else [zbk s]) ++ s.2.2.map setT = []
 ·rw[if_pos hc]
  exact⟨fun x hx=>by rw[List.mem_singleton] at hx;rw[hx];decide,by simp,by simp⟩
 rw[if_neg hc]
 exact⟨hs,hl,hc⟩
theorem Sp.text {s:Spc3} {l:List Tp} (h:Sp s l):(zi5 s).size≤30000000000:=by
 obtain⟨h1,h2,h3⟩:=h.words
 rw[zms,← Txt.len,zcx]
 have hb:∀ x∈(zbf s).map (·.data.toList),x.length≤20009001:=by
  intro x hx
  obtain⟨y,hy,rfl⟩:=List.mem_map.1 hx
  rw[Txt.len]
  exact h1 y hy
 have h4:=zn9 20009001 _ hb
 have h5:((zbf s).map (·.data.toList)).length≤1001:=by simpa using h2
 obtain⟨L,hL⟩ : ∃ L,L=(zbf s).map (·.data.toList):=⟨_,rfl⟩
 rw[← hL] at h4 h5 ⊢
 cases L with
 | nil=>simp[Lib.join_nil]
 | cons x r =>
  rw[Lib.join_length]
  simp only[List.length_cons,List.length_nil] at *
  omega
open LexM (zik)
theorem wt_small {ln:Ln} (h:zik 70000 ln):(wt ln.2).length≤3000000:=by
 have hs:∀ (ws:List Wd),(∀ x∈ws,x.2.length≤70000)→(wt ws).length≤70001 * ws.length:=by
  intro ws
  have hf:∀ (r:List Wd),(∀ x∈r,x.2.length≤70000)→(r.flatMap fun y=>(32:UInt8) :: y.2).length≤70001 * r.length:=by
   intro r
   induction r with
   | nil=>intro _;simp
   | cons y r ih =>
    intro h
    have h1:=ih (fun x hx=>h x (by simp[hx]))
    have h2:=h y (by simp)
    rw[List.flatMap_cons,List.length_append,List.length_cons,List.length_cons]
    omega
  cases ws with
  | nil=>intro _;simp[wt]
  | cons x r =>
   intro h
   have h1:=hf r (fun y hy=>h y (by simp[hy]))
   have h2:=h x (by simp)
   show (x.2 ++ r.flatMap fun y=>(32:UInt8) :: y.2).length≤_
   rw[List.length_append,List.length_cons]
   omega
 have h1:=hs ln.2 (fun x hx=>(h.2.2.2 x hx).2.2.2)
 have h2:=h.2.2.1
 omega
theorem zn6 (ln:Ln):ltx [ln]=wt ln.2 ++ [10]:=by simp[ltx]
theorem ltx_eq (ln:Ln) (t:ByteArray):((⟨(ltx [ln]).toArray⟩ : ByteArray).toList == (t ++ ⟨#[10]⟩ : ByteArray).toList)=decide (wt ln.2=t.data.toList):=by
 rw[Txt.eq_dec]
 refine decide_eq_decide.2 ⟨fun h=>?_,fun h=>?_⟩
 ·have h1:=congrArg (fun x:ByteArray=>x.data.toList) h
  simp only[Go.Joins.data_append] at h1
  rw[zn6] at h1
  exact List.append_inj_left' h1 rfl
 apply Txt.ext
 rw[Go.Joins.data_append,← h]
 exact zn6 ln
end

section
open Go.RowKit Go.Shelf Go.Lib VerN VarM
attribute [local go_sem ↓] Go.wp_at_zero Go.wp_at_succ
theorem tline_any {B b:Nat} {bs:List UInt8} {w:World} {a:Option Addr} {n c:Nat} {l:List ByteArray} (h:BT.Bld B b bs w) (hl:RTs w [.slice a n c] l) (h0:l≠[]) (hlen:bs.length+(zds l).size+1≤70368744177664) (hln:l.length≤70368744177664) (hBw:B≤w.heap.size) :
  Calls Tryz.prog 17 #[.pointer (some ⟨b,0,none⟩),.slice a n c] w fun e w'=>e = .returned (.tuple #[])∧BT.Bld B b (bs ++ ((zds l).data.toList ++ [10])) w'∧Below B w w'∧BT.Keep w w':=by
 obtain⟨aa,cap,hv,hz,hat⟩:=zba hl
 have hca:l.length≤c:=by
  obtain⟨a',cap',hv',hc,_⟩:=hl
  simp only[List.cons.injEq,and_true,Value.slice.injEq] at hv'
  rw[hv'.2.2]
  exact hc
 obtain⟨rfl,rfl,rfl⟩:=Value.slice.inj hv
 have hpos:0 < l.length:=List.length_pos_iff.2 h0
 obtain⟨bk,o,rfl,hc0,-⟩:=hat 0 hpos
 have hcell:∀ (W:World),Below w.heap.size w W→∀ (j:Nat) x,l[j]? = some x→W.cell? ⟨bk,o+j,none⟩=some (.string x):=fun W hb j x hj=>by
  obtain⟨hjl,hjx⟩:=List.getElem?_eq_some_iff.1 hj
  obtain⟨b',o',e',h',_⟩:=hat j hjl
  cases e'
  rw[← hjx]
  exact cell_later hb h'
 have hbk:bk < w.heap.size:=World.block_lt_of_cell? _ _ hc0
 obtain⟨t,ht⟩ : ∃ t,t=zds l:=⟨_,rfl⟩
 have hjl:(Lib.join (l.map (·.data.toList)) (⟨#[32]⟩ : ByteArray).data.toList).length=t.size:=by rw[ht,← Txt.len,zcx]
 rw[← ht] at hlen
 have hJ:=fun (W:World) (hb:Below w.heap.size w W)=>Tryz.strings_Join bk o c l ⟨#[32]⟩ W (hcell W hb) (Nat.lt_of_lt_of_le hbk hb.size) (by omega) hca (by rw[hjl];omega)
 have hjt:(⟨(Lib.join (l.map (·.data.toList)) (⟨#[32]⟩ : ByteArray).data.toList).toArray⟩ : ByteArray)=t:=by rw[ht];rfl
 rw[hjt] at hJ
 have hts:(t ++ ⟨#[10]⟩ : ByteArray).size=t.size+1:=by rw[zg4];rfl
 obtain⟨u,hu⟩ : ∃ u,u=t ++ (⟨#[10]⟩ : ByteArray):=⟨_,rfl⟩
 have hfin:(zds l).data.toList ++ [10]=u.data.toList:=by rw[← ht,hu,Go.Joins.data_append]
 rw[hfin]
 rw[← hu] at hts
 have hW:=fun (W:World) (hb:Below w.heap.size w W)=>BT.bld_string (BT.bld_below h hb) u (by omega) (Nat.le_trans hBw hb.size)
 obtain⟨n,hn⟩ : ∃ n,n=l.length:=⟨_,rfl⟩
 rw[← hn] at hJ ⊢
 have htz:t.size≤70368744177664:=by omega
 clear hat hv hc0 hz
 obtain⟨Hh,Hl,H0,Hca,Hpos,Hcell,Hbk,Ht,Hjl,HJ,Hjt,Hfin,HW,Hn,Hts,Hu⟩:=hd16 h hl h0 hca hpos hcell hbk ht hjl hJ hjt hfin hW hn hts hu;obtain⟨Hlen,Hln,HBw⟩:=hd3 hlen hln hBw;clear h hl h0 hca hpos hcell hbk ht hjl hJ hjt hfin hW hn hts hu hlen hln hBw
 go_enter Tryz.func17,Tryz.ntmps17
 go_upto_region 0 with (fail)
 refine zsa (n:=7) (S:=fun _=>True) (by kernel_rfl) rfl trivial (fun ops hops=>?_)
 have hSd:True:=trivial
 have hb0:Below w.heap.size w w.drew:=Below.drew (Below.refl _ _)
 generalize w.drew=wd at hb0 ⊢
 have hJ0:=HJ.out _ hb0
 obtain⟨Hb0,HJ0⟩:=hd2 hb0 hJ0;clear hb0 hJ0
 refine zgk hops 0 (v:=?_) rfl (by kernel_rfl) (by kernel_rfl) (by kernel_rfl) (fun _ _ _ h=>h) (Or.inl ⟨by kernel_rfl,?_⟩) hSd ?_
 rotate_left
 ·(intro w hSw;clear hSw;go_simp;try with_reducible rfl)
 try simp only[Act.put,lA,lB,lC]
 refine zgk hops 1 (v:=?_) rfl (by kernel_rfl) (by kernel_rfl) (by kernel_rfl) (fun _ _ _ h=>h) (Or.inl ⟨by kernel_rfl,?_⟩) hSd ?_
 rotate_left
 ·(intro w hSw;clear hSw;go_simp;try with_reducible rfl)
 try simp only[Act.put,lA,lB,lC]
 refine zgk hops 2 (v:=?_) rfl (by kernel_rfl) (by kernel_rfl) (by kernel_rfl) (fun _ _ _ h=>h) (Or.inl ⟨by kernel_rfl,?_⟩) hSd ?_
 rotate_left
 ·(intro w hSw;clear hSw;go_simp;try with_reducible rfl)
 try simp only[Act.put,lA,lB,lC]
 refine zgk hops 3 (v:=?_) rfl (by kernel_rfl) (by kernel_rfl) (by kernel_rfl) (fun _ _ _ h=>h) (Or.inl ⟨by kernel_rfl,?_⟩) hSd ?_
 rotate_left
 ·(intro w hSw;clear hSw;go_simp;try with_reducible rfl)
 try simp only[Act.put,lA,lB,lC]
 refine zft hops (rs:=[4]) (by kernel_rfl) (by simp) ?_
 refine zhw hops rfl (by kernel_rfl) (fun K hK=>?_) AllReadyH.nil
 go_simp
 refine HJ0.out.mono ?_
 rintro e w1 ⟨rfl,hb1⟩
 have hb1:=Hb0.out.trans (hb1.mono Hb0.out.size)
 have hW1:=HW.out _ hb1
 obtain⟨Hb1,HW1⟩:=hd2 hb1 hW1;clear hb1 hW1
 go_wp2_with fail
 refine hK.out _ _ trivial (fun hHeld=>?_)
 clear hHeld hK K
 try simp only[Act.put,lA,lB,lC]
 have k9:¬ 9223372036854775807 < t.size+1:=by omega
 refine zgk hops 5 (v:=?_) rfl (by kernel_rfl) (by kernel_rfl) (by kernel_rfl) (fun _ _ _ h=>h) (Or.inl ⟨by kernel_rfl,?_⟩) hSd ?_
 rotate_left
 ·(intro w hSw;clear hSw;go_simp;try with_reducible rfl)
 try simp only[Act.put,lA,lB,lC]
 refine zft hops (rs:=[6]) (by kernel_rfl) (by simp) ?_
 refine zhw hops rfl (by kernel_rfl) (fun K hK=>?_) AllReadyH.nil
 rw[← Hu.out]
 go_simp
 refine HW1.out.mono ?_
 rintro e w2 ⟨rfl,hB2,hb2,hk2⟩
 have hbB:=(Hb1.out.mono HBw.out).trans hb2
 have hkk:=(BT.keep_below Hb1.out).trans hk2
 obtain⟨HB2,Hb2,Hk2,HbB,Hkk⟩:=hd5 hB2 hb2 hk2 hbB hkk;clear hB2 hb2 hk2 hbB hkk
 go_wp2_with fail
 refine hK.out _ _ trivial (fun hHeld=>?_)
 clear hHeld hK K
 try simp only[Act.put,lA,lB,lC]
 refine rg_done hops (by kernel_rfl) ?_
 go_simp
 go_wp2_with fail
 go_end0
 exact⟨rfl,HB2.out,HbB.out,Hkk.out⟩
end

section
open LexM (Bs Wd Ln St run takes ends breaks onward mayBegin)
def GoodT (x:ByteArray):Prop:=x.data.toList≠[]∧∀ c∈x.data.toList,LexM.part c=true
structure Bt (s:St) (n:Int) (W:List ByteArray) (out:List Ln):Prop where
 frm:s.frm=0
 word:s.word = []
 off:s.off=false
 col:0≤s.col
 words:s.words.map wtx=W
 out:s.out=out
 line:s.line=n
structure Wi (s:St) (n:Int) (W:List ByteArray) (out:List Ln):Prop where
 frm:0 < s.frm
 off:s.off=false
 col:0≤s.col
 words:s.words.map wtx ++ [⟨s.word.toArray⟩]=W
 out:s.out=out
 line:s.line=n
theorem zjt {s:St} (ho:s.off=false):takes s 32=(ends (onward s),0):=by
 unfold takes
 rw[if_neg (by decide),if_neg (by decide),if_neg (by rw[ho];simp),if_neg (by decide),if_pos (by decide)]
theorem Bt.blank {s:St} {n:Int} {W:List ByteArray} {out:List Ln} (h:Bt s n W out):takes s 32=(ends (onward s),0)∧Bt (ends (onward s)) n W out:=by
 have hcol:=h.col
 refine⟨zjt h.off,rfl,rfl,h.off,by show 0≤s.col+1;omega,?_,h.out,h.line⟩
 show (if 0 < s.frm then _ else _:List Wd).map wtx=W
 rw[if_neg (by rw[h.frm];omega)]
 exact h.words
theorem Wi.ends_words {s:St} {n:Int} {W:List ByteArray} {out:List Ln} (h:Wi s n W out):(ends (onward s)).words.map wtx=W:=by
 show (if 0 < s.frm then s.words ++ [(s.frm,s.word)] else _:List Wd).map wtx=W
 rw[if_pos h.frm,List.map_append,← h.words]
 rfl
theorem Wi.blank {s:St} {n:Int} {W:List ByteArray} {out:List Ln} (h:Wi s n W out):takes s 32=(ends (onward s),0)∧Bt (ends (onward s)) n W out:=by
 have hcol:=h.col
 exact⟨zjt h.off,rfl,rfl,h.off,by show 0≤s.col+1;omega,h.ends_words,h.out,h.line⟩
theorem Wi.nl {s:St} {n:Int} {W:List ByteArray} {out:List Ln} (h:Wi s n W out) (s':St) (hs:s'=s∨s'=onward s):∃ us,us.map wtx=W∧Bt (breaks s') (n+1) [] (out ++ [(n,us)]):=by
 have hw:(ends s').words.map wtx=W:=by
  have:=h.ends_words
  rcases hs with rfl | rfl <;> exact this
 have hn:(ends s').words≠[]:=by
  intro e
  rw[e,← h.words] at hw
  simp at hw
 refine⟨(ends s').words,hw,?_⟩
 have ho:s'.out=out:=by rcases hs with rfl | rfl <;> exact h.out
 have hl:s'.line=n:=by rcases hs with rfl | rfl <;> exact h.line
 refine⟨rfl,rfl,rfl,Int.le_refl _,rfl,?_,by show s'.line+1=_;rw[hl]⟩
 show (if (ends s').words = [] then s'.out else s'.out ++ [(s'.line,(ends s').words)])=_
 rw[if_neg hn,ho,hl]
def lnT (x:Bool × List ByteArray):Bs:=(if x.1=true then [32,32] else []) ++ ((zds x.2).data.toList ++ [10])
def txT (L:List (Bool × List ByteArray)):Bs:=L.flatMap lnT
theorem Bt.close {s:St} {n:Int} {out:List Ln} (h:Bt s n [] out):(breaks s).out=out:=by
 show (if (ends s).words = [] then s.out else _)=_
 have:(ends s).words = []:=by
  show (if 0 < s.frm then _ else s.words:List Wd) = []
  rw[if_neg (by rw[h.frm];omega)]
  exact List.map_eq_nil_iff.1 h.words
 rw[if_pos this,h.out]
end

section
open LexM (Bs Wd Ln St run takes ends breaks onward mayBegin)
def zbr (ws:List ByteArray):Nat:=(ws.map fun x=>x.size+1).sum
def zg3 (ls:List (List ByteArray)):Nat:=(ls.map zbr).sum
theorem zky (a b:List ByteArray):zbr (a ++ b)=zbr a+zbr b:=by unfold zbr;rw[List.map_append,List.sum_append_nat]
theorem costL_app (a b:List (List ByteArray)):zg3 (a ++ b)=zg3 a+zg3 b:=by unfold zg3;rw[List.map_append,List.sum_append_nat]
def zi9 (l:Ln):List ByteArray:=l.2.map wtx
structure Wb (s:St) (k:Nat):Prop where
 word:∀ c∈s.word,LexM.part c=true
 ne:0 < s.frm→s.word≠[]
 words:∀ x∈s.words,GoodT (wtx x)
 out:∀ l∈s.out,∀ x∈l.2,GoodT (wtx x)
 cost:zg3 (s.out.map zi9)+zbr (s.words.map wtx)+s.word.length≤k
 had:s.words≠[]∨0 < s.frm→s.out.length < 2000
 most:s.out.length≤2000
 col:0≤s.col
 no:¬ 0 < s.frm→s.word = []
theorem Wb.on {s:St} {k:Nat} (h:Wb s k):Wb (onward s) k:=⟨h.word,h.ne,h.words,h.out,h.cost,h.had,h.most,by show 0≤s.col+1;have:=h.col;omega,h.no⟩
theorem Wb.ends {s:St} {k:Nat} (h:Wb s k):Wb (ends s) (k+1):=by
 have hc:=h.cost
 refine⟨fun c hc=>by simp[LexM.ends] at hc,fun k=>by simp[LexM.ends] at k,?_,h.out,?_,?_,h.most,h.col,fun _=>rfl⟩
 ·intro x hx
  have hx:x∈(if 0 < s.frm then s.words ++ [(s.frm,s.word)] else s.words):=hx
  split at hx
  ·rename_i hf
   rcases List.mem_append.1 hx with hx | hx
   ·exact h.words x hx
   rw[List.mem_singleton] at hx
   rw[hx]
   exact⟨h.ne hf,h.word⟩
  exact h.words x hx
 ·show zg3 (s.out.map zi9)+zbr ((if 0 < s.frm then s.words ++ [(s.frm,s.word)] else s.words).map wtx)+0≤k+1
  split
  ·rw[List.map_append,zky]
   have e:zbr ([(s.frm,s.word)].map wtx)=s.word.length+1:=by
    show (⟨s.word.toArray⟩ : ByteArray).size+1+0=_
    rfl
   omega
  omega
 intro hk
 apply h.had
 rcases hk with hk | hk
 ·have hk:(if 0 < s.frm then s.words ++ [(s.frm,s.word)] else s.words)≠[]:=hk
  split at hk
  ·rename_i hf;exact .inr hf
  exact .inl hk
 exact absurd hk (by show ¬ (0:Int) < 0;omega)
theorem Wb.breaks {s:St} {k:Nat} (h:Wb s k):Wb (breaks s) (k+1):=by
 have he:=h.ends
 have hc:=he.cost
 have hz:(LexM.ends s).word = []:=rfl
 rw[hz] at hc
 refine⟨fun c hc=>absurd hc (by show ¬ c∈[];simp),fun k=>absurd k (by show ¬ (0:Int) < 0;omega),fun x hx=>absurd hx (by show ¬ x∈[];simp),?_,?_,fun k=>?_,?_,Int.le_refl _,fun _=>rfl⟩
 ·intro l hl x hx
  have hl:l∈(if (LexM.ends s).words = [] then s.out else s.out ++ [(s.line,(LexM.ends s).words)]):=hl
  split at hl
  ·exact h.out l hl x hx
  rcases List.mem_append.1 hl with hl | hl
  ·exact h.out l hl x hx
  rw[List.mem_singleton] at hl
  subst hl
  exact he.words x hx
 ·show zg3 ((if (LexM.ends s).words = [] then s.out else s.out ++ [(s.line,(LexM.ends s).words)]).map zi9)+0+0≤k+1
  split
  ·have:zg3 (s.out.map zi9)≤zg3 ((LexM.ends s).out.map zi9):=Nat.le_refl _
   omega
  rw[List.map_append,costL_app]
  have e:zg3 ([(s.line,(LexM.ends s).words)].map zi9)=zbr ((LexM.ends s).words.map wtx):=by
   show zbr ((LexM.ends s).words.map wtx)+0=_
   omega
  have:zg3 (s.out.map zi9)=zg3 ((LexM.ends s).out.map zi9):=rfl
  simp at hc
  omega
 ·rcases k with k | k
  ·exact absurd rfl k
  exact absurd k (by show ¬ (0:Int) < 0;omega)
 show (if (LexM.ends s).words = [] then s.out else s.out ++ [(s.line,(LexM.ends s).words)]).length≤2000
 split
 ·exact h.most
 rename_i hn
 have:=he.had (.inl hn)
 have e:(LexM.ends s).out=s.out:=rfl
 rw[e] at this
 simp
 omega
theorem Wb.mono {s:St} {k m:Nat} (h:Wb s k) (hk:k≤m):Wb s m:=⟨h.word,h.ne,h.words,h.out,by have:=h.cost;omega,h.had,h.most,h.col,h.no⟩
theorem Wb.takes {s:St} {k:Nat} {c:UInt8} (h:Wb s k) (h0:(takes s c).2=0):Wb (takes s c).1 (k+1):=by
 unfold LexM.takes at h0 ⊢
 split
 ·exact h.on.breaks
 rename_i h1
 rw[if_neg h1] at h0
 split
 ·rename_i h2
  rw[if_pos h2] at h0
  cases h0
 rename_i h2
 rw[if_neg h2] at h0
 split
 ·exact h.on.mono (by omega)
 rename_i h3
 rw[if_neg h3] at h0
 split
 ·have:=h.on.ends
  exact⟨this.word,this.ne,this.words,this.out,this.cost,this.had,this.most,this.col,this.no⟩
 rename_i h4
 rw[if_neg h4] at h0
 split
 ·exact h.on.ends
 rename_i h5
 rw[if_neg h5] at h0
 have hp:LexM.part c=true:=(LexM.part_iff c).2 (by omega)
 have hw:∀ d∈s.word ++ [c],LexM.part d=true:=fun d hd=>by
  rcases List.mem_append.1 hd with hd | hd
  ·exact h.word d hd
  rw[List.mem_singleton] at hd;rw[hd];exact hp
 have hcost:zg3 (s.out.map zi9)+zbr (s.words.map wtx)+(s.word ++ [c]).length≤k+1:=by
  have:=h.cost
  simp
  omega
 have hcol:0≤s.col+1:=by have:=h.col;omega
 split
 ·rename_i h6
  exact⟨hw,fun _=>by show s.word ++ [c]≠[];simp,h.words,h.out,hcost,fun _=>h.had (.inr h6),h.most,hcol,fun k=>absurd h6 k⟩
 rename_i h6
 rw[if_neg h6] at h0
 split
 ·rename_i h7
  refine⟨hw,fun _=>by show s.word ++ [c]≠[];simp,h.words,h.out,hcost,fun _=>?_,h.most,hcol,fun k=>absurd (by show 0 < s.col+1;have:=h.col;omega) k⟩
  unfold mayBegin at h7
  simp only[Bool.and_eq_true,Bool.or_eq_true,decide_eq_true_eq] at h7
  rcases h7.2 with h8 | h8
  ·exact h.had (.inl (List.ne_nil_of_length_pos h8))
  exact h8
 rename_i h7
 rw[if_neg h7] at h0
 cases h0
theorem zp0:∀ ws:List ByteArray,Lib.lens (ws.map (·.data.toList))+ws.length=zbr ws
 | [] => rfl
 | x :: r=>by
  have:=zp0 r
  have e:x.data.toList.length=x.size:=Txt.len x
  simp only[Lib.lens,zbr,List.map_cons,List.sum_cons,List.length_cons] at this ⊢
  omega
theorem zkk {ws:List ByteArray} (h:ws≠[]):(zds ws).data.toList.length+1=zbr ws:=by
 cases ws with
 | nil=>exact absurd rfl h
 | cons x r =>
  have:=zp0 (x :: r)
  rw[zcx,List.map_cons,Lib.join_length]
  simp only[List.length_cons,List.length_map,List.length_nil,List.map_cons] at this ⊢
  omega
end

section
open Go.Lib VerN VarM
open LexM (Wd Ln)
abbrev RlsM:=ByteArray × Bool
abbrev zix:=ByteArray × List ByteArray
abbrev DepM:=Spc3 × Spc3 × Int
abbrev PrfM:=ByteArray × List ByteArray × Int
structure PkgM where
 name:ByteArray
 line:Int
 rel:List RlsM
 vars:List zix
 prov:List ByteArray
 dep:List DepM
 conf:List DepM
 files:List ByteArray
structure RcpM where
 pk:List PkgM
 pf:List PrfM
def zkc (s:ByteArray) (n:Int):PkgM:=⟨s,n,[],[],[],[],[],[]⟩
def zbh:ByteArray:=⟨#[112,97,99,107,97,103,101]⟩
def zco:ByteArray:=⟨#[112,114,101,102,101,114]⟩
def zcp:ByteArray:=⟨#[118,101,114,115,105,111,110]⟩
def zdb:ByteArray:=⟨#[118,97,114,105,97,110,116]⟩
def zc7:ByteArray:=⟨#[112,114,111,118,105,100,101,115]⟩
def zdc:ByteArray:=⟨#[100,101,112,101,110,100,115]⟩
def zbz:ByteArray:=⟨#[99,111,110,102,108,105,99,116,115]⟩
def zlf:ByteArray:=⟨#[102,105,108,101]⟩
def wOld:ByteArray:=⟨#[111,108,100]⟩
def zle:ByteArray:=⟨#[119,104,101,110]⟩
def zmm:ByteArray:=⟨#[119,105,116,104]⟩
def zef (s:ByteArray):Bool:=zeh s.data.toList
def zn0 (s:ByteArray):Bool:=zff s.data.toList
def zos (s:ByteArray):Bool:=decide (s.size≤60)
def zor (s:ByteArray):Bool:=mayL s.data.toList
def spAll:Spc3:=(noT,allV,[])
def zo8:Spc3:=(noT,[],[])
def zeg (ok:ByteArray→Bool) (l:List ByteArray):Option (List ByteArray):=if l≠[]∧l.all ok=true then some l else none
def verL (l:List ByteArray):Option RlsM:=match l with
 | [v] => if zor v=true then some (v,false) else none
 | [v,o] => if zor v=true∧o=wOld then some (v,true) else none
 | _=>none
def varL (l:List ByteArray):Option zix:=match l with
 | x :: r=>if zef x=true then (zeg zn0 r).map fun q=>(x,q) else none
 | [] => none
def oneL (ok:ByteArray→Bool) (l:List ByteArray):Option ByteArray:=match l with
 | [x] => if ok x=true then some x else none
 | _=>none
noncomputable def depL (n:Int) (l:List ByteArray):Option DepM:=match wishL l with
 | some (s,[])=>some (s,spAll,n)
 | some (s,x :: r)=>if x=zle then (match condL r with
  | some (c,[])=>some (s,c,n)
  | _=>none) else none
 | none=>none
noncomputable def ziu (n:Int) (l:List ByteArray):Option DepM:=match condL l with
 | some (s,[])=>some (s,zo8,n)
 | some (s,x :: r)=>if x=zmm then (match wishL r with
  | some (c,[])=>some (s,c,n)
  | _=>none) else none
 | none=>none
noncomputable def zb5 (first:ByteArray) (n:Int) (p:PkgM) (l:List ByteArray):Option PkgM :=
 if first=zcp then (verL l).map fun q=>{ p with rel:=p.rel ++ [q] }
 else if first=zdb then (varL l).map fun q=>{ p with vars:=p.vars ++ [q] }
 else if first=zc7 then (oneL zef l).map fun q=>{ p with prov:=p.prov ++ [q] }
 else if first=zdc then (depL n l).map fun q=>{ p with dep:=p.dep ++ [q] }
 else if first=zbz then (ziu n l).map fun q=>{ p with conf:=p.conf ++ [q] }
 else if first=zlf then (oneL zos l).map fun q=>{ p with files:=p.files ++ [q] }
 else none
def prefL (n:Int) (l:List ByteArray):Option PrfM:=match l with
 | x :: r=>if zef x=true then (zeg zef r).map fun q=>(x,q,n) else none
 | [] => none
noncomputable def zc4 (n:Int) (l:List ByteArray) (x:RcpM):Option RcpM:=match l with
 | [] => none
 | f :: r=>if f=zbh then (oneL zef r).map fun s=>{ x with pk:=x.pk ++ [zkc s n] }
  else if f=zco then (prefL n r).map fun q=>{ x with pf:=x.pf ++ [q] }
  else match x.pk.getLast? with
  | none=>none
  | some p=>(zb5 f n p r).map fun q=>{ x with pk:=x.pk.dropLast ++ [q] }
noncomputable def goL:List Ln→RcpM→Option RcpM
 | [],x=>some x
 | l :: r,x=>(zc4 l.1 (l.2.map wtx) x).bind fun y=>goL r y
noncomputable def zqg (t:List UInt8):Option RcpM:=if (LexM.docLines t).e=0 then goL (LexM.docLines t).lines ⟨[],[]⟩ else none
def zdi (d:DepM):DepM:=(d.1,d.2.1,0)
def zv1 (p:PkgM):PkgM:={ p with line:=0,dep:=p.dep.map zdi,conf:=p.conf.map zdi }
def ziv (p:PrfM):PrfM:=(p.1,p.2.1,0)
def bare (x:RcpM):RcpM:=⟨x.pk.map zv1,x.pf.map ziv⟩
def both (x y:RcpM):RcpM:=⟨x.pk ++ y.pk,x.pf ++ y.pf⟩
end

section
open Go.Lib VerN VarM
open LexM (Wd Ln)
abbrev Tln:=Bool × List ByteArray
def relWs (q:RlsM):List ByteArray:=zcp :: q.1 :: (if q.2=true then [wOld] else [])
def zta (q:zix):List ByteArray:=zdb :: q.1 :: q.2
noncomputable def depWs (star:Spc3→Bool) (d:DepM):List ByteArray:=zdc :: (zbf d.1 ++ if star d.2.1=true then [] else zle :: zbf d.2.1)
open Classical in
noncomputable def zkz (d:DepM):List ByteArray:=zbz :: (zbf d.1 ++ if d.2.1.1=noT then [] else zmm :: zbf d.2.1)
def zj2 (q:PrfM):List ByteArray:=zco :: q.1 :: q.2.1
noncomputable def pkLs (star:Spc3→Bool) (p:PkgM):List Tln :=
 (false,[zbh,p.name]) :: (p.rel.map (fun q=>(true,relWs q)) ++ (p.vars.map (fun q=>(true,zta q)) ++ (p.prov.map (fun q=>(true,[zc7,q])) ++ (p.dep.map (fun q=>(true,depWs star q)) ++ (p.conf.map (fun q=>(true,zkz q)) ++ p.files.map (fun q=>(true,[zlf,q])))))))
noncomputable def rcLs (star:Spc3→Bool) (x:RcpM):List Tln:=x.pk.flatMap (pkLs star) ++ x.pf.map fun q=>(false,zj2 q)
end

section
open Go.Lib VerN VarM
open LexM (Wd Ln)
theorem rcLs_ne {star:Spc3→Bool} {x:RcpM}:∀ m∈rcLs star x,m.2≠[]:=by
 intro m hm
 unfold rcLs at hm
 rcases List.mem_append.1 hm with hm | hm
 ·obtain⟨p,_,hp⟩:=List.mem_flatMap.1 hm
  unfold pkLs at hp
  simp only[List.mem_cons,List.mem_append,List.mem_map] at hp
  rcases hp with rfl | ⟨q,_,rfl⟩ | ⟨q,_,rfl⟩ | ⟨q,_,rfl⟩ | ⟨q,_,rfl⟩ | ⟨q,_,rfl⟩ | ⟨q,_,rfl⟩ <;> simp[relWs,zta,depWs,zkz]
 obtain⟨q,_,rfl⟩:=List.mem_map.1 hm
 simp[zj2]
theorem txT_len:∀ L:List Tln,(∀ m∈L,m.2≠[])→(txT L).length≤zg3 (L.map (·.2))+2 * L.length
 | [],_=>Nat.le_refl _
 | x :: L,h=>by
  have h1:=txT_len L fun m hm=>h m (by simp[hm])
  have h2:=zkk (h x (by simp))
  have e:txT (x :: L)=lnT x ++ txT L:=rfl
  have e2:zg3 ((x :: L).map (·.2))=zbr x.2+zg3 (L.map (·.2)):=rfl
  rw[e,e2,List.length_append,List.length_cons]
  have h3:(lnT x).length≤zbr x.2+2:=by
   unfold lnT
   rw[List.length_append,List.length_append,List.length_singleton]
   have:(if x.1=true then ([32,32] : List UInt8) else []).length≤2:=by split <;> simp
   omega
  omega
end

namespace LexM
end LexM

section
open Go.Lib VerN VarM
open LexM (Wd Ln)
end

section
open Go.Lib VerN VarM
open LexM (Wd Ln)
theorem zo4 (s:Spc3):zbf s≠[]:=by
 unfold zbf
 by_cases h:(if zbk s=noT then [] else [zbk s]) ++ s.2.2.map setT = []
 ·rw[if_pos h];simp
 rw[if_neg h];exact h
end

section
open Go.RowKit
theorem flat_get' {k:Nat}:∀ {css:List (List Value)},(∀ cs∈css,cs.length=k)→∀ (i:Nat) (h:i < css.length) (j:Nat),j < k→css.flatten[i * k+j]? = css[i][j]?
 | [],_,i,h,_,_=>by simp at h
 | c :: css,hk,0,_,j,hj=>by
  rw[List.flatten_cons,Nat.zero_mul,Nat.zero_add,List.getElem?_append_left (by rw[hk c (by simp)];exact hj)];rfl
 | c :: css,hk,i+1,h,j,hj=>by
  have hc:=hk c (by simp)
  rw[List.flatten_cons,List.getElem?_append_right (by rw[hc,Nat.succ_mul];omega),hc,show (i+1) * k+j - k=i * k+j by rw[Nat.succ_mul];omega]
  rw[flat_get' (fun x hx=>hk x (by simp[hx])) i (by simpa using h) j hj];rfl
theorem zfg {α:Type} {sz:Nat} {R:Rd α} {w:World} {B:Nat} {e:TypeId} {v:Value} {css:List (List Value)} {l:List α} (hsz:0 < sz) (hlen:css.length=l.length) (hk:∀ cs∈css,cs.length=sz) (h:w.ownsRow B e sz v l.length css.flatten) (hr:∀ (i:Nat) cs x,css[i]? = some cs→l[i]? = some x→R w cs x):zal sz R w [v] l:=by
 obtain⟨a,cap,rfl,h1,h2,h3⟩:=Sl.of_owns h
 refine⟨a,cap,rfl,h1,h2,fun i x hi=>?_⟩
 have hil:=(List.getElem?_eq_some_iff.1 hi).1
 have hic:i < css.length:=by omega
 have hcl:=hk _ (List.getElem_mem hic)
 have hc:∀ c,c < sz→∀ u,css[i][c]? = some u→∃ b off,a=some ⟨b,off,none⟩∧w.cell? ⟨b,off+(i * sz+c),none⟩=some u:=fun c hc u hu=>h3 (i * sz+c) u (by rw[flat_get' hk i hic c hc];exact hu)
 obtain⟨b,off,ha,_⟩:=hc 0 hsz (css[i][0]'(by omega)) (List.getElem?_eq_getElem (by omega))
 refine⟨b,off,css[i],ha,hcl,fun j u hu=>?_,hr i _ x (List.getElem?_eq_getElem hic) hi⟩
 have hj:=(List.getElem?_eq_some_iff.1 hu).1
 obtain⟨b',off',ha',h5⟩:=hc j (by omega) u hu
 rw[ha] at ha'
 cases ha'
 rw[Nat.add_assoc];exact h5
end

section
open Go.RowKit
def Ft (W:World) (F:Nat→Prop) (P:World→Prop):Prop:=∀ W':World,W.heap.size≤W'.heap.size→(∀ k,k < W.heap.size→F k→W'.heap[k]? = W.heap[k]?)→P W'
section
variable {W W' : World} {F G T : Nat → Prop} {P Q : World → Prop}
theorem Ft.here (h:Ft W F P):P W:=h W (Nat.le_refl _) fun _ _ _=>rfl
theorem Ft.frm (h:Ft W F P) (hF:Frm T W W') (hT:∀ k,k < W.heap.size→F k→¬ T k) (hG:∀ k,k < W.heap.size→F k→G k):Ft W' G P :=
 fun V hV hk=>h V (Nat.le_trans hF.size hV) fun k k1 k2=>(hk k (Nat.lt_of_lt_of_le k1 hF.size) (hG k k1 k2)).trans (hF.block k k1 (hT k k1 k2))
theorem Ft.and (h:Ft W F P) (h2:Ft W F Q):Ft W F fun W=>P W∧Q W:=fun V hV hk=>⟨h V hV hk,h2 V hV hk⟩
theorem Ft.imp (h:Ft W F P) (hi:∀ V,P V→Q V):Ft W F Q:=fun V hV hk=>hi V (h V hV hk)
theorem Ft.mono (h:Ft W F P) (hG:∀ k,k < W.heap.size→F k→G k):Ft W G P:=fun V hV hk=>h V hV fun k k1 k2=>hk k k1 (hG k k1 k2)
end
theorem RSlT.ft {α:Type} {sz:Nat} {R:Rd α} {e:TypeId} {W:World} {v:Value} {L:List α} (hR:∀ W W' cs x,R W cs x→R W' cs x) (h:RSlT sz R e W v L):Ft W (fun k=>L≠[]∧v.ownBlock=some k) fun W'=>RSlT sz R e W' v L:=by
 intro V hV hk
 obtain⟨⟨a,cap,hv,h1,h2,hel⟩,ht⟩:=h
 have hv':=hv
 simp only[List.cons.injEq,and_true] at hv'
 refine⟨⟨a,cap,hv,h1,h2,fun i x hi=>?_⟩,fun hL k hk2=>?_⟩
 ·obtain⟨b,off,ecs,e1,e2,e3,e4⟩:=hel i x hi
  have hL:L≠[]:=by rintro rfl;simp at hi
  refine⟨b,off,ecs,e1,e2,fun j u hu=>?_,hR _ _ _ _ e4⟩
  have k:=e3 j u hu
  have hb:=World.block_lt_of_cell? W _ k
  exact (World.cell?_of_block (hk b hb ⟨hL,by rw[hv',e1];rfl⟩)).trans k
 obtain⟨cs,fr,hb⟩:=ht hL k hk2
 exact⟨cs,fr,(hk k (Array.getElem?_eq_some_iff.1 hb).1 ⟨hL,hk2⟩).trans hb⟩
theorem spsT_ft {W:World} {v:Value} {L:List BSp} (h:zgv W v L):Ft W (fun k=>L≠[]∧v.ownBlock=some k) fun W'=>zgv W' v L:=RSlT.ft (fun _ _ _ _ h=>h) h
theorem setsT_ft {W:World} {v:Value} {L:List Setg} (h:zez W v L):Ft W (fun k=>L≠[]∧v.ownBlock=some k) fun W'=>zez W' v L:=RSlT.ft (fun _ _ _ _ h=>h) h
def Ty (W:World) (k:Nat):Prop:=∃ cs e fr,W.heap[k]? = some (.cells cs e fr)∧(e=51∨e=137)
theorem Ty.keep {W W':World} {T:Nat→Prop} {k:Nat} (h:Ty W k) (hF:Frm T W W') (hT:¬ T k):Ty W' k:=by
 obtain⟨cs,e,fr,h1,h2⟩:=h
 exact⟨cs,e,fr,(hF.block k (Array.getElem?_eq_some_iff.1 h1).1 hT).trans h1,h2⟩
theorem zb3 {W:World} {k:Nat} {cs:Array Value} {e:TypeId} {fr:Nat × Nat} (h:W.heap[k]? = some (.cells cs e fr)) (h1:e≠51∧e≠137):¬ Ty W k:=by
 rintro⟨cs',e',fr',h2,h3⟩
 rw[h] at h2
 cases h2
 exact h3.elim h1.1 h1.2
def Fx (W:World) (t:Nat→Nat) (k:Nat):Prop:=t k=3∨Ty W k
structure RowL {α:Type} (W:World) (t:Nat→Nat) (c B:Nat) (e:TypeId) (size:Nat) (R:Rd α) (v:Value) (l:List α) (css:List (List Value)):Prop where
 row:W.ownsRow B e size v l.length css.flatten
 len:css.length=l.length
 els:Ft W (Fx W t) fun W'=>∀ (i:Nat) cs x,css[i]? = some cs→l[i]? = some x→R W' cs x
 tag:∀ k,v.ownBlock=some k→t k=c
def zac (t:Nat→Nat) (n c:Nat):Nat→Nat:=fun k=>if k < n then t k else c
theorem za4 {t:Nat→Nat} {n c k:Nat} (h:k < n):zac t n c k=t k:=if_pos h
theorem zbn {t:Nat→Nat} {n c k:Nat} (h:n≤k):zac t n c k=c:=if_neg (by omega)
section
variable {α : Type} {W W' : World} {t t' : Nat → Nat} {c B : Nat} {e : TypeId} {size : Nat} {R : Rd α} {v : Value} {l : List α} {css : List (List Value)} {T : Nat → Prop} {P : World → Prop}
theorem Ft.fx (h:Ft W (Fx W t) P) (hF:Frm T W W') (hT:∀ k,k < W.heap.size→T k→t k≠3∧¬ Ty W k) (h3:∀ k,k < W.heap.size→t k=3→t' k=3):Ft W' (Fx W' t') P :=
 h.frm hF (fun k k1 k2 kT=>k2.elim (hT k k1 kT).1 (hT k k1 kT).2) fun k k1 k2=>k2.elim (fun h=>.inl (h3 k k1 h)) fun h=>.inr (h.keep hF fun kT=>(hT k k1 kT).2 h)
theorem RowL.to (h:RowL W t c B e size R v l css) (hF:Frm T W W') (hT:∀ k,k < W.heap.size→T k→t k≠c∧t k≠3∧¬ Ty W k) (h3:∀ k,k < W.heap.size→t k=3→t' k=3) (hc:∀ k,k < W.heap.size→t k=c→t' k=c):RowL W' t' c B e size R v l css :=
 ⟨hF.owns h.row fun k hk kT=>(hT k (h.row.lt k hk).2 kT).1 (h.tag k hk),h.len,h.els.fx hF (fun k k1 k2=>(hT k k1 k2).2) h3,fun k hk=>hc k (h.row.lt k hk).2 (h.tag k hk)⟩
theorem RowL.below (h:RowL W t c B e size R v l css) (hb:Below W.heap.size W W'):RowL W' t c B e size R v l css :=
 h.to (Frm.of_below (S:=fun _=>False) hb) (fun _ _ h=>h.elim) (fun _ _ h=>h) (fun _ _ h=>h)
theorem RowL.nil:RowL W t c B e size R (.slice none 0 0) [] []:=⟨World.ownsRow_nil _ _ _ _,rfl,fun _ _ _ i cs x h=>by simp at h,fun k h=>by simp[Value.ownBlock] at h⟩
theorem RowL.all (h:RowL W t c B e size R v l css):∀ cs∈css,∃ x,R W cs x:=fun cs hcs=>by
 obtain⟨i,hi,e⟩:=List.getElem_of_mem hcs
 exact⟨l[i]'(by rw[← h.len];exact hi),h.els.here i cs _ (by rw[← e];exact List.getElem?_eq_getElem hi) (List.getElem?_eq_getElem (by rw[← h.len];exact hi))⟩
theorem RowL.reads (h:RowL W t c B e size R v l css) (hs:0 < size) (hk:∀ W cs x,R W cs x→cs.length=size):zal size R W [v] l :=
 zfg hs h.len (fun cs hcs=>by obtain⟨x,hx⟩:=h.all cs hcs;exact hk _ _ _ hx) h.row h.els.here
theorem RowL.ft (h:RowL W t c B e size R v l css) (hs:0 < size) (hk:∀ W cs x,R W cs x→cs.length=size):Ft W (fun k=>t k=c∨Fx W t k) fun W'=>zal size R W' [v] l:=by
 intro V hV hb
 refine zfg (B:=B) (e:=e) hs h.len (fun cs hcs=>by obtain⟨x,hx⟩:=h.all cs hcs;exact hk _ _ _ hx) ?_ (h.els V hV fun k k1 k2=>hb k k1 (.inr k2))
 refine⟨h.row.1,?_⟩
 rcases h.row.2 with hn | ⟨g,cap,cur,rfl,hg,hgg,rest⟩
 ·exact .inl hn
 exact .inr ⟨g,cap,cur,rfl,hg,by rw[hb g (Array.getElem?_eq_some_iff.1 hgg).1 (.inl (h.tag g rfl))];exact hgg,rest⟩
theorem zar (h:RowL W t c B e size R v l css) (he:e≠51∧e≠137) {k:Nat} (hk:v.ownBlock=some k):¬ Ty W k:=by
 obtain⟨cs,hc⟩:=zcf h.row k hk
 exact zb3 hc he
theorem RowL.push {w9:World} {v9:Value} {x:α} {cs:List Value} {m:Nat} (h:RowL W t c B e size R v l css) (he:e≠51∧e≠137) (hc:c≠3) (hx:Ft W (Fx W t) fun W'=>R W' cs x) (hm:m=l.length)
  (ho:w9.ownsRow B e size v9 (m+1) (css.flatten ++ cs)) (hg:W.grownBy w9 v.ownBlock) (hmv:zgy W v v9):RowL w9 (zac t W.heap.size c) c B e size R v9 (l ++ [x]) (css ++ [cs]):=by
 have hF:=zap hg
 have hT:∀ k,k < W.heap.size→v.ownBlock=some k→t k≠3∧¬ Ty W k:=fun k _ hk=>⟨fun h3=>hc (by rw[← h.tag k hk,h3]),zar h he hk⟩
 have hG:∀ k,k < W.heap.size→t k=3→zac t W.heap.size c k=3:=fun k hk h3=>by rw[za4 hk,h3]
 refine⟨by rw[List.length_append,← hm,List.flatten_append];simpa using ho,by simp[h.len],?_,fun k hk=>?_⟩
 ·refine ((h.els.and hx).fx hF hT hG).imp fun V hV i ds y e1 e2=>?_
  by_cases hi:i < css.length
  ·rw[List.getElem?_append_left hi] at e1
   rw[List.getElem?_append_left (by rw[← h.len];exact hi)] at e2
   exact hV.1 i ds y e1 e2
  have hlt:=(List.getElem?_eq_some_iff.1 e1).1
  have e:i=css.length:=by simp at hlt;omega
  rw[List.getElem?_append_right (by omega),e,Nat.sub_self] at e1
  rw[List.getElem?_append_right (by rw[← h.len];omega),e,h.len,Nat.sub_self] at e2
  simp at e1 e2
  subst e1 e2
  exact hV.2
 rcases hmv k hk with hk | hk
 ·rw[za4 (h.row.lt k hk).2]
  exact h.tag k hk
 exact zbn hk
end
end

section
open Go.RowKit
def zgw:Rd RlsM:=fun _ cs x=>cs = [.string x.1,.bool x.2]
def zg6:Rd zix:=fun W cs x=>∃ v,cs = [.string x.1,v]∧RTs W [v] x.2
def zlc (W:World) (a b c:Value) (s:Spc3):Prop:=a = .string s.1∧RSps W [b] s.2.1∧zcj W [c] s.2.2
def zd2:Rd DepM:=fun W cs x=>∃ a1 a2 a3 b1 b2 b3,cs = [a1,a2,a3,b1,b2,b3,.int .i64 x.2.2]∧zlc W a1 a2 a3 x.1∧zlc W b1 b2 b3 x.2.1
def RPfM:Rd PrfM:=fun W cs x=>∃ v,cs = [.string x.1,v,.int .i64 x.2.2]∧RTs W [v] x.2.1
def RPkM:Rd PkgM:=fun W cs x=>∃ v2 v3 v4 v5 v6 v7,cs = [.string x.name,.int .i64 x.line,v2,v3,v4,v5,v6,v7]∧zal 2 zgw W [v2] x.rel∧zal 2 zg6 W [v3] x.vars∧RTs W [v4] x.prov∧zal 7 zd2 W [v5] x.dep∧zal 7 zd2 W [v6] x.conf∧RTs W [v7] x.files
def zi1 (W:World) (vp vf:Value) (x:RcpM):Prop:=zal 8 RPkM W [vp] x.pk∧zal 3 RPfM W [vf] x.pf
theorem zh2:zfi zgw:=fun _ _ _ _ h _=>h
theorem zfj:zfi zg6:=fun _ _ _ _ ⟨v,e,h⟩ hb=>⟨v,e,zak h hb⟩
theorem zlc.below {W W':World} {a b c:Value} {s:Spc3} (h:zlc W a b c s) (hb:Below W.heap.size W W'):zlc W' a b c s:=⟨h.1,za3 zan _ _ _ _ h.2.1 hb,za3 zao _ _ _ _ h.2.2 hb⟩
theorem zcl:zfi zd2:=fun _ _ _ _ ⟨a1,a2,a3,b1,b2,b3,e,h1,h2⟩ hb=>⟨a1,a2,a3,b1,b2,b3,e,h1.below hb,h2.below hb⟩
theorem zeq:zfi RPfM:=fun _ _ _ _ ⟨v,e,h⟩ hb=>⟨v,e,zak h hb⟩
theorem zgb:zfi RPkM:=fun _ _ _ _ ⟨v2,v3,v4,v5,v6,v7,e,h2,h3,h4,h5,h6,h7⟩ hb =>
 ⟨v2,v3,v4,v5,v6,v7,e,za3 zh2 _ _ _ _ h2 hb,za3 zfj _ _ _ _ h3 hb,zak h4 hb,za3 zcl _ _ _ _ h5 hb,za3 zcl _ _ _ _ h6 hb,zak h7 hb⟩
theorem zi1.below {W W':World} {vp vf:Value} {x:RcpM} (h:zi1 W vp vf x) (hb:Below W.heap.size W W'):zi1 W' vp vf x:=⟨za3 zgb _ _ _ _ h.1 hb,za3 zeq _ _ _ _ h.2 hb⟩
theorem len_rlsM {W:World} {cs:List Value} {x:RlsM} (h:zgw W cs x):cs.length=2:=by rw[show cs=_ from h];rfl
theorem len_varM {W:World} {cs:List Value} {x:zix} (h:zg6 W cs x):cs.length=2:=by obtain⟨v,e,_⟩:=h;rw[e];rfl
theorem zsl {W:World} {cs:List Value} {x:DepM} (h:zd2 W cs x):cs.length=7:=by obtain⟨a1,a2,a3,b1,b2,b3,e,_⟩:=h;rw[e];rfl
theorem len_pfM {W:World} {cs:List Value} {x:PrfM} (h:RPfM W cs x):cs.length=3:=by obtain⟨v,e,_⟩:=h;rw[e];rfl
theorem len_pkM {W:World} {cs:List Value} {x:PkgM} (h:RPkM W cs x):cs.length=8:=by obtain⟨v2,v3,v4,v5,v6,v7,e,_⟩:=h;rw[e];rfl
theorem len_str {W:World} {cs:List Value} {x:ByteArray} (h:RStr W cs x):cs.length=1:=by rw[h.1];rfl
structure PkS (W:World) (t:Nat→Nat) (B:Nat) (p:PkgM) (v2 v3 v4 v5 v6 v7:Value):Prop where
 rel:∃ css,RowL W t 4 B 66 2 zgw v2 p.rel css
 vars:∃ css,RowL W t 5 B 68 2 zg6 v3 p.vars css
 prov:∃ css,RowL W t 6 B 9 1 RStr v4 p.prov css
 dep:∃ css,RowL W t 7 B 96 7 zd2 v5 p.dep css
 conf:∃ css,RowL W t 8 B 98 7 zd2 v6 p.conf css
 files:∃ css,RowL W t 9 B 9 1 RStr v7 p.files css
def Live (n:Nat):Prop:=4≤n∧n≤9
section
variable {W W' : World} {t t' : Nat → Nat} {B : Nat} {p : PkgM} {v2 v3 v4 v5 v6 v7 : Value} {T : Nat → Prop}
theorem PkS.to (h:PkS W t B p v2 v3 v4 v5 v6 v7) (hF:Frm T W W') (hT:∀ k,k < W.heap.size→T k→¬ Live (t k)∧t k≠3∧¬ Ty W k) (hG:∀ k,k < W.heap.size→(t k=3∨Live (t k))→t' k=t k):PkS W' t' B p v2 v3 v4 v5 v6 v7:=by
 have go:∀ {α:Type} {c:Nat} {e:TypeId} {size:Nat} {R:Rd α} {v:Value} {l:List α},Live c→(∃ css,RowL W t c B e size R v l css)→∃ css,RowL W' t' c B e size R v l css:=by
  rintro α c e size R v l hc ⟨css,h⟩
  exact⟨css,h.to hF (fun k k1 k2=>⟨fun e=>(hT k k1 k2).1 (by rw[e];exact hc),(hT k k1 k2).2⟩) (fun k k1 k2=>by rw[hG k k1 (.inl k2),k2]) (fun k k1 k2=>by rw[hG k k1 (.inr (by rw[k2];exact hc)),k2])⟩
 exact⟨go ⟨by omega,by omega⟩ h.rel,go ⟨by omega,by omega⟩ h.vars,go ⟨by omega,by omega⟩ h.prov,go ⟨by omega,by omega⟩ h.dep,go ⟨by omega,by omega⟩ h.conf,go ⟨by omega,by omega⟩ h.files⟩
theorem PkS.below (h:PkS W t B p v2 v3 v4 v5 v6 v7) (hb:Below W.heap.size W W'):PkS W' t B p v2 v3 v4 v5 v6 v7:=h.to (Frm.of_below (S:=fun _=>False) hb) (fun _ _ h=>h.elim) (fun _ _ _=>rfl)
theorem PkS.ft (h:PkS W t B p v2 v3 v4 v5 v6 v7):Ft W (fun k=>Fx W t k∨Live (t k)) fun W'=>RPkM W' [.string p.name,.int .i64 p.line,v2,v3,v4,v5,v6,v7] p:=by
 obtain⟨⟨c2,h2⟩,⟨c3,h3⟩,⟨c4,h4⟩,⟨c5,h5⟩,⟨c6,h6⟩,⟨c7,h7⟩⟩:=h
 have go:∀ {c:Nat} {P:World→Prop},Live c→Ft W (fun k=>t k=c∨Fx W t k) P→Ft W (fun k=>Fx W t k∨Live (t k)) P:=fun hc h=>h.mono fun k _ hk=>hk.elim (fun e=>.inr (by rw[e];exact hc)) .inl
 have e2:=go ⟨by omega,by omega⟩ (h2.ft (by omega) fun _ _ _=>len_rlsM)
 have e3:=go ⟨by omega,by omega⟩ (h3.ft (by omega) fun _ _ _=>len_varM)
 have e4:=go ⟨by omega,by omega⟩ (h4.ft (by omega) fun _ _ _=>len_str)
 have e5:=go ⟨by omega,by omega⟩ (h5.ft (by omega) fun _ _ _=>zsl)
 have e6:=go ⟨by omega,by omega⟩ (h6.ft (by omega) fun _ _ _=>zsl)
 have e7:=go ⟨by omega,by omega⟩ (h7.ft (by omega) fun _ _ _=>len_str)
 exact ((((((e2.and e3).and e4).and e5).and e6).and e7)).imp fun V ⟨⟨⟨⟨⟨k2,k3⟩,k4⟩,k5⟩,k6⟩,k7⟩=>⟨_,_,_,_,_,_,rfl,k2,k3,k4,k5,k6,k7⟩
end
structure zcc (W:World) (t:Nat→Nat) (B:Nat) (vp:Value) (ps:List PkgM) (p:PkgM) (dss:List (List Value)) (v2 v3 v4 v5 v6 v7:Value):Prop where
 row:W.ownsRow B 45 8 vp (ps.length+1) (dss.flatten ++ [.string p.name,.int .i64 p.line,v2,v3,v4,v5,v6,v7])
 len:dss.length=ps.length
 fix:Ft W (Fx W t) (fun W'=>∀ (i:Nat) cs x,dss[i]? = some cs→ps[i]? = some x→RPkM W' cs x)
 tag:∀ k,vp.ownBlock=some k→t k=1
 last:PkS W t B p v2 v3 v4 v5 v6 v7
def PkRow (W:World) (t:Nat→Nat) (B:Nat) (vp:Value) (pks:List PkgM):Prop :=
 (pks = []∧vp = .slice none 0 0)∨∃ (ps:List PkgM) (p:PkgM) (dss:List (List Value)) (v2 v3 v4 v5 v6 v7:Value),pks=ps ++ [p]∧zcc W t B vp ps p dss v2 v3 v4 v5 v6 v7
structure RcSt (W:World) (t:Nat→Nat) (B xb:Nat) (vp vf:Value) (x:RcpM):Prop where
 box:W.heap[xb]? = some (.cells #[vp,vf] 25 (0,0))
 tbox:t xb=0
 pf:∃ css,RowL W t 2 B 47 3 RPfM vf x.pf css
 pk:PkRow W t B vp x.pk
section
variable {W W' : World} {t t' : Nat → Nat} {B xb : Nat} {vp vf : Value} {x : RcpM} {pks : List PkgM} {T : Nat → Prop}
theorem zcc.to {ps:List PkgM} {p:PkgM} {dss:List (List Value)} {v2 v3 v4 v5 v6 v7:Value} (h:zcc W t B vp ps p dss v2 v3 v4 v5 v6 v7) (hF:Frm T W W') (hT:∀ k,k < W.heap.size→T k→¬ Live (t k)∧t k≠3∧t k≠1∧¬ Ty W k) (hG:∀ k,k < W.heap.size→(t k=3∨Live (t k)∨t k=1)→t' k=t k):zcc W' t' B vp ps p dss v2 v3 v4 v5 v6 v7 :=
 ⟨hF.owns h.row fun k hk kT=>(hT k (h.row.lt k hk).2 kT).2.2.1 (h.tag k hk),h.len,h.fix.fx hF (fun k k1 k2=>⟨(hT k k1 k2).2.1,(hT k k1 k2).2.2.2⟩) (fun k k1 k2=>by rw[hG k k1 (.inl k2),k2]),fun k hk=>by rw[hG k (h.row.lt k hk).2 (.inr (.inr (h.tag k hk))),h.tag k hk],h.last.to hF (fun k k1 k2=>⟨(hT k k1 k2).1,(hT k k1 k2).2.1,(hT k k1 k2).2.2.2⟩) fun k k1 k2=>hG k k1 (k2.elim .inl fun h=>.inr (.inl h))⟩
theorem PkRow.to (h:PkRow W t B vp pks) (hF:Frm T W W') (hT:∀ k,k < W.heap.size→T k→¬ Live (t k)∧t k≠3∧t k≠1∧¬ Ty W k) (hG:∀ k,k < W.heap.size→(t k=3∨Live (t k)∨t k=1)→t' k=t k):PkRow W' t' B vp pks:=by
 rcases h with h | ⟨ps,p,dss,v2,v3,v4,v5,v6,v7,h1,L⟩
 ·exact .inl h
 exact .inr ⟨ps,p,dss,v2,v3,v4,v5,v6,v7,h1,L.to hF hT hG⟩
theorem RcSt.to (h:RcSt W t B xb vp vf x) (hF:Frm T W W') (hT:∀ k,k < W.heap.size→T k→9 < t k∧¬ Ty W k) (hG:∀ k,k < W.heap.size→t k≤9→t' k=t k):RcSt W' t' B xb vp vf x:=by
 have hx:=(Array.getElem?_eq_some_iff.1 h.box).1
 refine⟨zav h.box hF fun k=>by have:=(hT xb hx k).1;have:=h.tbox;omega,by rw[hG xb hx (by rw[h.tbox];omega),h.tbox],?_,h.pk.to hF (fun k k1 k2=>?_) fun k k1 k2=>hG k k1 ?_⟩
 ·obtain⟨css,hp⟩:=h.pf
  exact⟨css,hp.to hF (fun k k1 k2=>by have:=hT k k1 k2;exact⟨by omega,by omega,this.2⟩) (fun k k1 k2=>by rw[hG k k1 (by omega),k2]) (fun k k1 k2=>by rw[hG k k1 (by omega),k2])⟩
 ·have:=hT k k1 k2
  unfold Live
  exact⟨by omega,by omega,by omega,this.2⟩
 rcases k2 with k | k | k
 ·omega
 ·exact k.2
 omega
theorem RcSt.below (h:RcSt W t B xb vp vf x) (hb:Below W.heap.size W W'):RcSt W' t B xb vp vf x:=h.to (Frm.of_below (S:=fun _=>False) hb) (fun _ _ h=>h.elim) (fun _ _ _=>rfl)
theorem zcc.reads {ps:List PkgM} {p:PkgM} {dss:List (List Value)} {v2 v3 v4 v5 v6 v7:Value} (h:zcc W t B vp ps p dss v2 v3 v4 v5 v6 v7):zal 8 RPkM W [vp] (ps ++ [p]):=by
 have hall:∀ (i:Nat) cs y,(dss ++ [[.string p.name,.int .i64 p.line,v2,v3,v4,v5,v6,v7]])[i]? = some cs→(ps ++ [p])[i]? = some y→RPkM W cs y:=fun i cs y e1 e2=>by
  by_cases hi:i < dss.length
  ·rw[List.getElem?_append_left hi] at e1
   rw[List.getElem?_append_left (by rw[← h.len];exact hi)] at e2
   exact h.fix.here i cs y e1 e2
  have hlt:=(List.getElem?_eq_some_iff.1 e1).1
  have e:i=dss.length:=by simp at hlt;omega
  rw[List.getElem?_append_right (by omega),e,Nat.sub_self] at e1
  rw[List.getElem?_append_right (by rw[← h.len];omega),e,h.len,Nat.sub_self] at e2
  simp at e1 e2
  subst e1 e2
  exact h.last.ft.here
 refine zfg (B:=B) (e:=45) (css:=dss ++ [[.string p.name,.int .i64 p.line,v2,v3,v4,v5,v6,v7]]) (by decide) (by simp[h.len]) (fun cs hcs=>?_) (by simpa using h.row) hall
 obtain⟨i,hi,e⟩:=List.getElem_of_mem hcs
 exact len_pkM (hall i cs ((ps ++ [p])[i]'(by have:=h.len;simp at hi ⊢;omega)) (by rw[← e];exact List.getElem?_eq_getElem hi) (List.getElem?_eq_getElem _))
theorem RcSt.reads (h:RcSt W t B xb vp vf x):zi1 W vp vf x:=by
 obtain⟨css,hp⟩:=h.pf
 refine⟨?_,hp.reads (by omega) fun _ _ _=>len_pfM⟩
 rcases h.pk with⟨h1,h2⟩ | ⟨ps,p,dss,v2,v3,v4,v5,v6,v7,h1,L⟩
 ·rw[h1,h2]
  exact⟨_,0,rfl,Nat.zero_le _,Nat.zero_le _,fun i x hi=>by simp at hi⟩
 rw[h1]
 exact L.reads
theorem RcSt.nil (h:W.heap[xb]? = some (.cells #[.slice none 0 0,.slice none 0 0] 25 (0,0))) (ht:t xb=0):RcSt W t B xb (.slice none 0 0) (.slice none 0 0) ⟨[],[]⟩ :=
 ⟨h,ht,⟨[],RowL.nil⟩,.inl ⟨rfl,rfl⟩⟩
theorem zfz {W:World} {B:Nat} {e:TypeId} {v:Value} {n:Nat} {ds:List Value} {a0 a1 a2 a3 a4 a5 a6 a7:Value} (h:W.ownsRow B e 8 v (n+1) (ds ++ [a0,a1,a2,a3,a4,a5,a6,a7])):ds.length=n * 8:=by
 have:=h.1
 simp at this
 omega
theorem RcSt.step {ps:List PkgM} {p p':PkgM} {dss:List (List Value)} {v2 v3 v4 v5 v6 v7:Value} (h:RcSt W t B xb vp vf x) (L':zcc W' t' B vp ps p' dss v2 v3 v4 v5 v6 v7) (hF:Frm T W W') (hT:∀ k,k < W.heap.size→T k→(Live (t k)∨t k=1)∧¬ Ty W k) (hG:∀ k,k < W.heap.size→t' k=t k):RcSt W' t' B xb vp vf ⟨ps ++ [p'],x.pf⟩:=by
 have hx:=(Array.getElem?_eq_some_iff.1 h.box).1
 refine⟨zav h.box hF fun k=>by have:=(hT xb hx k).1;have:=h.tbox;unfold Live at *;omega,by rw[hG xb hx,h.tbox],?_,.inr ⟨_,_,_,_,_,_,_,_,_,rfl,L'⟩⟩
 obtain⟨css,hp⟩:=h.pf
 exact⟨css,hp.to hF (fun k k1 k2=>by have:=hT k k1 k2;unfold Live at this;exact⟨by omega,by omega,this.2⟩) (fun k k1 k2=>by rw[hG k k1,k2]) (fun k k1 k2=>by rw[hG k k1,k2])⟩
end
theorem zcc.rel_push {W w9:World} {t:Nat→Nat} {B pb cap:Nat} {ps:List PkgM} {p:PkgM} {dss:List (List Value)} {v2 v3 v4 v5 v6 v7 v9:Value} {css:List (List Value)} {cs:List Value} {q:RlsM}
  (L:zcc W t B (.slice (some ⟨pb,0,none⟩) (ps.length+1) cap) ps p dss v2 v3 v4 v5 v6 v7) (hr:RowL W t 4 B 66 2 zgw v2 p.rel css) (hx:Ft W (Fx W t) fun W'=>zgw W' cs q)
  (ho:w9.ownsRow B 66 2 v9 (p.rel.length+1) (css.flatten ++ cs)) (hg:W.grownBy w9 v2.ownBlock) (hm:zgy W v2 v9) :
  zcc (w9.setCell ⟨pb,ps.length * 8+2,none⟩ v9) (zac t W.heap.size 4) B (.slice (some ⟨pb,0,none⟩) (ps.length+1) cap) ps { p with rel:=p.rel ++ [q] } dss v9 v3 v4 v5 v6 v7:=by
 have hF1:=zap hg
 have hpb:pb < W.heap.size:=(L.row.lt pb rfl).2
 have tpb:t pb=1:=L.tag pb rfl
 have hF2:Frm (fun k=>k=pb) w9 (w9.setCell ⟨pb,ps.length * 8+2,none⟩ v9):=zae (Frm.refl _ _) _ _
 have h3:∀ k,k < W.heap.size→t k=3→zac t W.heap.size 4 k=3:=fun k hk h=>by rw[za4 hk,h]
 have hT1:∀ k,v2.ownBlock=some k→∀ {c'},4≠c'→t k≠c'∧t k≠3∧¬ Ty W k:=fun k hk c' hc=>by
  have e:=hr.tag k hk
  exact⟨by omega,by omega,zar hr (by decide) hk⟩
 have hrow9:=hF1.owns L.row (fun k hk kT=>by
  have e:=hr.tag k kT
  have e2:=L.tag k hk
  omega)
 have hty9:¬ Ty w9 pb:=by
  obtain⟨cs',hc⟩:=zcf hrow9 pb rfl
  exact zb3 hc (by decide)
 have t9:zac t W.heap.size 4 pb=1:=by rw[za4 hpb,tpb]
 have hT2:∀ k,k=pb→∀ {c'},1≠c'→zac t W.heap.size 4 k≠c'∧zac t W.heap.size 4 k≠3∧¬ Ty w9 k:=fun k hk c' hc=>by
  subst hk
  exact⟨by omega,by omega,hty9⟩
 have hlen:=zfz L.row
 refine⟨?_,L.len,((L.fix.fx hF1 (fun k k1 kT=>⟨(hT1 k kT (c':=3) (by omega)).1,zar hr (by decide) kT⟩) h3).fx hF2 (fun k _ kT=>⟨(hT2 k kT (c':=3) (by omega)).1,(hT2 k kT (c':=3) (by omega)).2.2⟩) (fun _ _ h=>h)),fun k hk=>by rw[za4 (L.row.lt k hk).2];exact L.tag k hk,?_⟩
 ·have h1:=(hrow9.stored (ps.length * 8+2) v9).1
  rw[List.set_append_right _ _ (by omega),hlen,Nat.add_sub_cancel_left] at h1
  exact h1
 exact⟨⟨_,(hr.push (by decide) (by omega) hx rfl ho hg hm).to hF2 (fun k _ kT=>hT2 k kT (by omega) ) (fun _ _ h=>h) (fun _ _ h=>h)⟩,(L.last.vars.elim fun css hq=>⟨css,(hq.to hF1 (fun k k1 kT=>hT1 k kT (by omega)) h3 (fun k k1 e=>(za4 k1).trans e)).to hF2 (fun k _ kT=>hT2 k kT (by omega)) (fun _ _ h=>h) (fun _ _ h=>h)⟩),(L.last.prov.elim fun css hq=>⟨css,(hq.to hF1 (fun k k1 kT=>hT1 k kT (by omega)) h3 (fun k k1 e=>(za4 k1).trans e)).to hF2 (fun k _ kT=>hT2 k kT (by omega)) (fun _ _ h=>h) (fun _ _ h=>h)⟩),(L.last.dep.elim fun css hq=>⟨css,(hq.to hF1 (fun k k1 kT=>hT1 k kT (by omega)) h3 (fun k k1 e=>(za4 k1).trans e)).to hF2 (fun k _ kT=>hT2 k kT (by omega)) (fun _ _ h=>h) (fun _ _ h=>h)⟩),(L.last.conf.elim fun css hq=>⟨css,(hq.to hF1 (fun k k1 kT=>hT1 k kT (by omega)) h3 (fun k k1 e=>(za4 k1).trans e)).to hF2 (fun k _ kT=>hT2 k kT (by omega)) (fun _ _ h=>h) (fun _ _ h=>h)⟩),(L.last.files.elim fun css hq=>⟨css,(hq.to hF1 (fun k k1 kT=>hT1 k kT (by omega)) h3 (fun k k1 e=>(za4 k1).trans e)).to hF2 (fun k _ kT=>hT2 k kT (by omega)) (fun _ _ h=>h) (fun _ _ h=>h)⟩)⟩
theorem zcc.vars_push {W w9:World} {t:Nat→Nat} {B pb cap:Nat} {ps:List PkgM} {p:PkgM} {dss:List (List Value)} {v2 v3 v4 v5 v6 v7 v9:Value} {css:List (List Value)} {cs:List Value} {q:zix}
  (L:zcc W t B (.slice (some ⟨pb,0,none⟩) (ps.length+1) cap) ps p dss v2 v3 v4 v5 v6 v7) (hr:RowL W t 5 B 68 2 zg6 v3 p.vars css) (hx:Ft W (Fx W t) fun W'=>zg6 W' cs q)
  (ho:w9.ownsRow B 68 2 v9 (p.vars.length+1) (css.flatten ++ cs)) (hg:W.grownBy w9 v3.ownBlock) (hm:zgy W v3 v9) :
  zcc (w9.setCell ⟨pb,ps.length * 8+3,none⟩ v9) (zac t W.heap.size 5) B (.slice (some ⟨pb,0,none⟩) (ps.length+1) cap) ps { p with vars:=p.vars ++ [q] } dss v2 v9 v4 v5 v6 v7:=by
 have hF1:=zap hg
 have hpb:pb < W.heap.size:=(L.row.lt pb rfl).2
 have tpb:t pb=1:=L.tag pb rfl
 have hF2:Frm (fun k=>k=pb) w9 (w9.setCell ⟨pb,ps.length * 8+3,none⟩ v9):=zae (Frm.refl _ _) _ _
 have h3:∀ k,k < W.heap.size→t k=3→zac t W.heap.size 5 k=3:=fun k hk h=>by rw[za4 hk,h]
 have hT1:∀ k,v3.ownBlock=some k→∀ {c'},5≠c'→t k≠c'∧t k≠3∧¬ Ty W k:=fun k hk c' hc=>by
  have e:=hr.tag k hk
  exact⟨by omega,by omega,zar hr (by decide) hk⟩
 have hrow9:=hF1.owns L.row (fun k hk kT=>by
  have e:=hr.tag k kT
  have e2:=L.tag k hk
  omega)
 have hty9:¬ Ty w9 pb:=by
  obtain⟨cs',hc⟩:=zcf hrow9 pb rfl
  exact zb3 hc (by decide)
 have t9:zac t W.heap.size 5 pb=1:=by rw[za4 hpb,tpb]
 have hT2:∀ k,k=pb→∀ {c'},1≠c'→zac t W.heap.size 5 k≠c'∧zac t W.heap.size 5 k≠3∧¬ Ty w9 k:=fun k hk c' hc=>by
  subst hk
  exact⟨by omega,by omega,hty9⟩
 have hlen:=zfz L.row
 refine⟨?_,L.len,((L.fix.fx hF1 (fun k k1 kT=>⟨(hT1 k kT (c':=3) (by omega)).1,zar hr (by decide) kT⟩) h3).fx hF2 (fun k _ kT=>⟨(hT2 k kT (c':=3) (by omega)).1,(hT2 k kT (c':=3) (by omega)).2.2⟩) (fun _ _ h=>h)),fun k hk=>by rw[za4 (L.row.lt k hk).2];exact L.tag k hk,?_⟩
 ·have h1:=(hrow9.stored (ps.length * 8+3) v9).1
  rw[List.set_append_right _ _ (by omega),hlen,Nat.add_sub_cancel_left] at h1
  exact h1
 exact⟨(L.last.rel.elim fun css hq=>⟨css,(hq.to hF1 (fun k k1 kT=>hT1 k kT (by omega)) h3 (fun k k1 e=>(za4 k1).trans e)).to hF2 (fun k _ kT=>hT2 k kT (by omega)) (fun _ _ h=>h) (fun _ _ h=>h)⟩),⟨_,(hr.push (by decide) (by omega) hx rfl ho hg hm).to hF2 (fun k _ kT=>hT2 k kT (by omega) ) (fun _ _ h=>h) (fun _ _ h=>h)⟩,(L.last.prov.elim fun css hq=>⟨css,(hq.to hF1 (fun k k1 kT=>hT1 k kT (by omega)) h3 (fun k k1 e=>(za4 k1).trans e)).to hF2 (fun k _ kT=>hT2 k kT (by omega)) (fun _ _ h=>h) (fun _ _ h=>h)⟩),(L.last.dep.elim fun css hq=>⟨css,(hq.to hF1 (fun k k1 kT=>hT1 k kT (by omega)) h3 (fun k k1 e=>(za4 k1).trans e)).to hF2 (fun k _ kT=>hT2 k kT (by omega)) (fun _ _ h=>h) (fun _ _ h=>h)⟩),(L.last.conf.elim fun css hq=>⟨css,(hq.to hF1 (fun k k1 kT=>hT1 k kT (by omega)) h3 (fun k k1 e=>(za4 k1).trans e)).to hF2 (fun k _ kT=>hT2 k kT (by omega)) (fun _ _ h=>h) (fun _ _ h=>h)⟩),(L.last.files.elim fun css hq=>⟨css,(hq.to hF1 (fun k k1 kT=>hT1 k kT (by omega)) h3 (fun k k1 e=>(za4 k1).trans e)).to hF2 (fun k _ kT=>hT2 k kT (by omega)) (fun _ _ h=>h) (fun _ _ h=>h)⟩)⟩
theorem zcc.prov_push {W w9:World} {t:Nat→Nat} {B pb cap:Nat} {ps:List PkgM} {p:PkgM} {dss:List (List Value)} {v2 v3 v4 v5 v6 v7 v9:Value} {css:List (List Value)} {cs:List Value} {q:ByteArray}
  (L:zcc W t B (.slice (some ⟨pb,0,none⟩) (ps.length+1) cap) ps p dss v2 v3 v4 v5 v6 v7) (hr:RowL W t 6 B 9 1 RStr v4 p.prov css) (hx:Ft W (Fx W t) fun W'=>RStr W' cs q)
  (ho:w9.ownsRow B 9 1 v9 (p.prov.length+1) (css.flatten ++ cs)) (hg:W.grownBy w9 v4.ownBlock) (hm:zgy W v4 v9) :
  zcc (w9.setCell ⟨pb,ps.length * 8+4,none⟩ v9) (zac t W.heap.size 6) B (.slice (some ⟨pb,0,none⟩) (ps.length+1) cap) ps { p with prov:=p.prov ++ [q] } dss v2 v3 v9 v5 v6 v7:=by
 have hF1:=zap hg
 have hpb:pb < W.heap.size:=(L.row.lt pb rfl).2
 have tpb:t pb=1:=L.tag pb rfl
 have hF2:Frm (fun k=>k=pb) w9 (w9.setCell ⟨pb,ps.length * 8+4,none⟩ v9):=zae (Frm.refl _ _) _ _
 have h3:∀ k,k < W.heap.size→t k=3→zac t W.heap.size 6 k=3:=fun k hk h=>by rw[za4 hk,h]
 have hT1:∀ k,v4.ownBlock=some k→∀ {c'},6≠c'→t k≠c'∧t k≠3∧¬ Ty W k:=fun k hk c' hc=>by
  have e:=hr.tag k hk
  exact⟨by omega,by omega,zar hr (by decide) hk⟩
 have hrow9:=hF1.owns L.row (fun k hk kT=>by
  have e:=hr.tag k kT
  have e2:=L.tag k hk
  omega)
 have hty9:¬ Ty w9 pb:=by
  obtain⟨cs',hc⟩:=zcf hrow9 pb rfl
  exact zb3 hc (by decide)
 have t9:zac t W.heap.size 6 pb=1:=by rw[za4 hpb,tpb]
 have hT2:∀ k,k=pb→∀ {c'},1≠c'→zac t W.heap.size 6 k≠c'∧zac t W.heap.size 6 k≠3∧¬ Ty w9 k:=fun k hk c' hc=>by
  subst hk
  exact⟨by omega,by omega,hty9⟩
 have hlen:=zfz L.row
 refine⟨?_,L.len,((L.fix.fx hF1 (fun k k1 kT=>⟨(hT1 k kT (c':=3) (by omega)).1,zar hr (by decide) kT⟩) h3).fx hF2 (fun k _ kT=>⟨(hT2 k kT (c':=3) (by omega)).1,(hT2 k kT (c':=3) (by omega)).2.2⟩) (fun _ _ h=>h)),fun k hk=>by rw[za4 (L.row.lt k hk).2];exact L.tag k hk,?_⟩
 ·have h1:=(hrow9.stored (ps.length * 8+4) v9).1
  rw[List.set_append_right _ _ (by omega),hlen,Nat.add_sub_cancel_left] at h1
  exact h1
 exact⟨(L.last.rel.elim fun css hq=>⟨css,(hq.to hF1 (fun k k1 kT=>hT1 k kT (by omega)) h3 (fun k k1 e=>(za4 k1).trans e)).to hF2 (fun k _ kT=>hT2 k kT (by omega)) (fun _ _ h=>h) (fun _ _ h=>h)⟩),(L.last.vars.elim fun css hq=>⟨css,(hq.to hF1 (fun k k1 kT=>hT1 k kT (by omega)) h3 (fun k k1 e=>(za4 k1).trans e)).to hF2 (fun k _ kT=>hT2 k kT (by omega)) (fun _ _ h=>h) (fun _ _ h=>h)⟩),⟨_,(hr.push (by decide) (by omega) hx rfl ho hg hm).to hF2 (fun k _ kT=>hT2 k kT (by omega) ) (fun _ _ h=>h) (fun _ _ h=>h)⟩,(L.last.dep.elim fun css hq=>⟨css,(hq.to hF1 (fun k k1 kT=>hT1 k kT (by omega)) h3 (fun k k1 e=>(za4 k1).trans e)).to hF2 (fun k _ kT=>hT2 k kT (by omega)) (fun _ _ h=>h) (fun _ _ h=>h)⟩),(L.last.conf.elim fun css hq=>⟨css,(hq.to hF1 (fun k k1 kT=>hT1 k kT (by omega)) h3 (fun k k1 e=>(za4 k1).trans e)).to hF2 (fun k _ kT=>hT2 k kT (by omega)) (fun _ _ h=>h) (fun _ _ h=>h)⟩),(L.last.files.elim fun css hq=>⟨css,(hq.to hF1 (fun k k1 kT=>hT1 k kT (by omega)) h3 (fun k k1 e=>(za4 k1).trans e)).to hF2 (fun k _ kT=>hT2 k kT (by omega)) (fun _ _ h=>h) (fun _ _ h=>h)⟩)⟩
theorem zcc.dep_push {W w9:World} {t:Nat→Nat} {B pb cap:Nat} {ps:List PkgM} {p:PkgM} {dss:List (List Value)} {v2 v3 v4 v5 v6 v7 v9:Value} {css:List (List Value)} {cs:List Value} {q:DepM}
  (L:zcc W t B (.slice (some ⟨pb,0,none⟩) (ps.length+1) cap) ps p dss v2 v3 v4 v5 v6 v7) (hr:RowL W t 7 B 96 7 zd2 v5 p.dep css) (hx:Ft W (Fx W t) fun W'=>zd2 W' cs q)
  (ho:w9.ownsRow B 96 7 v9 (p.dep.length+1) (css.flatten ++ cs)) (hg:W.grownBy w9 v5.ownBlock) (hm:zgy W v5 v9) :
  zcc (w9.setCell ⟨pb,ps.length * 8+5,none⟩ v9) (zac t W.heap.size 7) B (.slice (some ⟨pb,0,none⟩) (ps.length+1) cap) ps { p with dep:=p.dep ++ [q] } dss v2 v3 v4 v9 v6 v7:=by
 have hF1:=zap hg
 have hpb:pb < W.heap.size:=(L.row.lt pb rfl).2
 have tpb:t pb=1:=L.tag pb rfl
 have hF2:Frm (fun k=>k=pb) w9 (w9.setCell ⟨pb,ps.length * 8+5,none⟩ v9):=zae (Frm.refl _ _) _ _
 have h3:∀ k,k < W.heap.size→t k=3→zac t W.heap.size 7 k=3:=fun k hk h=>by rw[za4 hk,h]
 have hT1:∀ k,v5.ownBlock=some k→∀ {c'},7≠c'→t k≠c'∧t k≠3∧¬ Ty W k:=fun k hk c' hc=>by
  have e:=hr.tag k hk
  exact⟨by omega,by omega,zar hr (by decide) hk⟩
 have hrow9:=hF1.owns L.row (fun k hk kT=>by
  have e:=hr.tag k kT
  have e2:=L.tag k hk
  omega)
 have hty9:¬ Ty w9 pb:=by
  obtain⟨cs',hc⟩:=zcf hrow9 pb rfl
  exact zb3 hc (by decide)
 have t9:zac t W.heap.size 7 pb=1:=by rw[za4 hpb,tpb]
 have hT2:∀ k,k=pb→∀ {c'},1≠c'→zac t W.heap.size 7 k≠c'∧zac t W.heap.size 7 k≠3∧¬ Ty w9 k:=fun k hk c' hc=>by
  subst hk
  exact⟨by omega,by omega,hty9⟩
 have hlen:=zfz L.row
 refine⟨?_,L.len,((L.fix.fx hF1 (fun k k1 kT=>⟨(hT1 k kT (c':=3) (by omega)).1,zar hr (by decide) kT⟩) h3).fx hF2 (fun k _ kT=>⟨(hT2 k kT (c':=3) (by omega)).1,(hT2 k kT (c':=3) (by omega)).2.2⟩) (fun _ _ h=>h)),fun k hk=>by rw[za4 (L.row.lt k hk).2];exact L.tag k hk,?_⟩
 ·have h1:=(hrow9.stored (ps.length * 8+5) v9).1
  rw[List.set_append_right _ _ (by omega),hlen,Nat.add_sub_cancel_left] at h1
  exact h1
 exact⟨(L.last.rel.elim fun css hq=>⟨css,(hq.to hF1 (fun k k1 kT=>hT1 k kT (by omega)) h3 (fun k k1 e=>(za4 k1).trans e)).to hF2 (fun k _ kT=>hT2 k kT (by omega)) (fun _ _ h=>h) (fun _ _ h=>h)⟩),(L.last.vars.elim fun css hq=>⟨css,(hq.to hF1 (fun k k1 kT=>hT1 k kT (by omega)) h3 (fun k k1 e=>(za4 k1).trans e)).to hF2 (fun k _ kT=>hT2 k kT (by omega)) (fun _ _ h=>h) (fun _ _ h=>h)⟩),(L.last.prov.elim fun css hq=>⟨css,(hq.to hF1 (fun k k1 kT=>hT1 k kT (by omega)) h3 (fun k k1 e=>(za4 k1).trans e)).to hF2 (fun k _ kT=>hT2 k kT (by omega)) (fun _ _ h=>h) (fun _ _ h=>h)⟩),⟨_,(hr.push (by decide) (by omega) hx rfl ho hg hm).to hF2 (fun k _ kT=>hT2 k kT (by omega) ) (fun _ _ h=>h) (fun _ _ h=>h)⟩,(L.last.conf.elim fun css hq=>⟨css,(hq.to hF1 (fun k k1 kT=>hT1 k kT (by omega)) h3 (fun k k1 e=>(za4 k1).trans e)).to hF2 (fun k _ kT=>hT2 k kT (by omega)) (fun _ _ h=>h) (fun _ _ h=>h)⟩),(L.last.files.elim fun css hq=>⟨css,(hq.to hF1 (fun k k1 kT=>hT1 k kT (by omega)) h3 (fun k k1 e=>(za4 k1).trans e)).to hF2 (fun k _ kT=>hT2 k kT (by omega)) (fun _ _ h=>h) (fun _ _ h=>h)⟩)⟩
theorem zcc.conf_push {W w9:World} {t:Nat→Nat} {B pb cap:Nat} {ps:List PkgM} {p:PkgM} {dss:List (List Value)} {v2 v3 v4 v5 v6 v7 v9:Value} {css:List (List Value)} {cs:List Value} {q:DepM}
  (L:zcc W t B (.slice (some ⟨pb,0,none⟩) (ps.length+1) cap) ps p dss v2 v3 v4 v5 v6 v7) (hr:RowL W t 8 B 98 7 zd2 v6 p.conf css) (hx:Ft W (Fx W t) fun W'=>zd2 W' cs q)
  (ho:w9.ownsRow B 98 7 v9 (p.conf.length+1) (css.flatten ++ cs)) (hg:W.grownBy w9 v6.ownBlock) (hm:zgy W v6 v9) :
  zcc (w9.setCell ⟨pb,ps.length * 8+6,none⟩ v9) (zac t W.heap.size 8) B (.slice (some ⟨pb,0,none⟩) (ps.length+1) cap) ps { p with conf:=p.conf ++ [q] } dss v2 v3 v4 v5 v9 v7:=by
 have hF1:=zap hg
 have hpb:pb < W.heap.size:=(L.row.lt pb rfl).2
 have tpb:t pb=1:=L.tag pb rfl
 have hF2:Frm (fun k=>k=pb) w9 (w9.setCell ⟨pb,ps.length * 8+6,none⟩ v9):=zae (Frm.refl _ _) _ _
 have h3:∀ k,k < W.heap.size→t k=3→zac t W.heap.size 8 k=3:=fun k hk h=>by rw[za4 hk,h]
 have hT1:∀ k,v6.ownBlock=some k→∀ {c'},8≠c'→t k≠c'∧t k≠3∧¬ Ty W k:=fun k hk c' hc=>by
  have e:=hr.tag k hk
  exact⟨by omega,by omega,zar hr (by decide) hk⟩
 have hrow9:=hF1.owns L.row (fun k hk kT=>by
  have e:=hr.tag k kT
  have e2:=L.tag k hk
  omega)
 have hty9:¬ Ty w9 pb:=by
  obtain⟨cs',hc⟩:=zcf hrow9 pb rfl
  exact zb3 hc (by decide)
 have t9:zac t W.heap.size 8 pb=1:=by rw[za4 hpb,tpb]
 have hT2:∀ k,k=pb→∀ {c'},1≠c'→zac t W.heap.size 8 k≠c'∧zac t W.heap.size 8 k≠3∧¬ Ty w9 k:=fun k hk c' hc=>by
  subst hk
  exact⟨by omega,by omega,hty9⟩
 have hlen:=zfz L.row
 refine⟨?_,L.len,((L.fix.fx hF1 (fun k k1 kT=>⟨(hT1 k kT (c':=3) (by omega)).1,zar hr (by decide) kT⟩) h3).fx hF2 (fun k _ kT=>⟨(hT2 k kT (c':=3) (by omega)).1,(hT2 k kT (c':=3) (by omega)).2.2⟩) (fun _ _ h=>h)),fun k hk=>by rw[za4 (L.row.lt k hk).2];exact L.tag k hk,?_⟩
 ·have h1:=(hrow9.stored (ps.length * 8+6) v9).1
  rw[List.set_append_right _ _ (by omega),hlen,Nat.add_sub_cancel_left] at h1
  exact h1
 exact⟨(L.last.rel.elim fun css hq=>⟨css,(hq.to hF1 (fun k k1 kT=>hT1 k kT (by omega)) h3 (fun k k1 e=>(za4 k1).trans e)).to hF2 (fun k _ kT=>hT2 k kT (by omega)) (fun _ _ h=>h) (fun _ _ h=>h)⟩),(L.last.vars.elim fun css hq=>⟨css,(hq.to hF1 (fun k k1 kT=>hT1 k kT (by omega)) h3 (fun k k1 e=>(za4 k1).trans e)).to hF2 (fun k _ kT=>hT2 k kT (by omega)) (fun _ _ h=>h) (fun _ _ h=>h)⟩),(L.last.prov.elim fun css hq=>⟨css,(hq.to hF1 (fun k k1 kT=>hT1 k kT (by omega)) h3 (fun k k1 e=>(za4 k1).trans e)).to hF2 (fun k _ kT=>hT2 k kT (by omega)) (fun _ _ h=>h) (fun _ _ h=>h)⟩),(L.last.dep.elim fun css hq=>⟨css,(hq.to hF1 (fun k k1 kT=>hT1 k kT (by omega)) h3 (fun k k1 e=>(za4 k1).trans e)).to hF2 (fun k _ kT=>hT2 k kT (by omega)) (fun _ _ h=>h) (fun _ _ h=>h)⟩),⟨_,(hr.push (by decide) (by omega) hx rfl ho hg hm).to hF2 (fun k _ kT=>hT2 k kT (by omega) ) (fun _ _ h=>h) (fun _ _ h=>h)⟩,(L.last.files.elim fun css hq=>⟨css,(hq.to hF1 (fun k k1 kT=>hT1 k kT (by omega)) h3 (fun k k1 e=>(za4 k1).trans e)).to hF2 (fun k _ kT=>hT2 k kT (by omega)) (fun _ _ h=>h) (fun _ _ h=>h)⟩)⟩
theorem zcc.files_push {W w9:World} {t:Nat→Nat} {B pb cap:Nat} {ps:List PkgM} {p:PkgM} {dss:List (List Value)} {v2 v3 v4 v5 v6 v7 v9:Value} {css:List (List Value)} {cs:List Value} {q:ByteArray}
  (L:zcc W t B (.slice (some ⟨pb,0,none⟩) (ps.length+1) cap) ps p dss v2 v3 v4 v5 v6 v7) (hr:RowL W t 9 B 9 1 RStr v7 p.files css) (hx:Ft W (Fx W t) fun W'=>RStr W' cs q)
  (ho:w9.ownsRow B 9 1 v9 (p.files.length+1) (css.flatten ++ cs)) (hg:W.grownBy w9 v7.ownBlock) (hm:zgy W v7 v9) :
  zcc (w9.setCell ⟨pb,ps.length * 8+7,none⟩ v9) (zac t W.heap.size 9) B (.slice (some ⟨pb,0,none⟩) (ps.length+1) cap) ps { p with files:=p.files ++ [q] } dss v2 v3 v4 v5 v6 v9:=by
 have hF1:=zap hg
 have hpb:pb < W.heap.size:=(L.row.lt pb rfl).2
 have tpb:t pb=1:=L.tag pb rfl
 have hF2:Frm (fun k=>k=pb) w9 (w9.setCell ⟨pb,ps.length * 8+7,none⟩ v9):=zae (Frm.refl _ _) _ _
 have h3:∀ k,k < W.heap.size→t k=3→zac t W.heap.size 9 k=3:=fun k hk h=>by rw[za4 hk,h]
 have hT1:∀ k,v7.ownBlock=some k→∀ {c'},9≠c'→t k≠c'∧t k≠3∧¬ Ty W k:=fun k hk c' hc=>by
  have e:=hr.tag k hk
  exact⟨by omega,by omega,zar hr (by decide) hk⟩
 have hrow9:=hF1.owns L.row (fun k hk kT=>by
  have e:=hr.tag k kT
  have e2:=L.tag k hk
  omega)
 have hty9:¬ Ty w9 pb:=by
  obtain⟨cs',hc⟩:=zcf hrow9 pb rfl
  exact zb3 hc (by decide)
 have t9:zac t W.heap.size 9 pb=1:=by rw[za4 hpb,tpb]
 have hT2:∀ k,k=pb→∀ {c'},1≠c'→zac t W.heap.size 9 k≠c'∧zac t W.heap.size 9 k≠3∧¬ Ty w9 k:=fun k hk c' hc=>by
  subst hk
  exact⟨by omega,by omega,hty9⟩
 have hlen:=zfz L.row
 refine⟨?_,L.len,((L.fix.fx hF1 (fun k k1 kT=>⟨(hT1 k kT (c':=3) (by omega)).1,zar hr (by decide) kT⟩) h3).fx hF2 (fun k _ kT=>⟨(hT2 k kT (c':=3) (by omega)).1,(hT2 k kT (c':=3) (by omega)).2.2⟩) (fun _ _ h=>h)),fun k hk=>by rw[za4 (L.row.lt k hk).2];exact L.tag k hk,?_⟩
 ·have h1:=(hrow9.stored (ps.length * 8+7) v9).1
  rw[List.set_append_right _ _ (by omega),hlen,Nat.add_sub_cancel_left] at h1
  exact h1
 exact⟨(L.last.rel.elim fun css hq=>⟨css,(hq.to hF1 (fun k k1 kT=>hT1 k kT (by omega)) h3 (fun k k1 e=>(za4 k1).trans e)).to hF2 (fun k _ kT=>hT2 k kT (by omega)) (fun _ _ h=>h) (fun _ _ h=>h)⟩),(L.last.vars.elim fun css hq=>⟨css,(hq.to hF1 (fun k k1 kT=>hT1 k kT (by omega)) h3 (fun k k1 e=>(za4 k1).trans e)).to hF2 (fun k _ kT=>hT2 k kT (by omega)) (fun _ _ h=>h) (fun _ _ h=>h)⟩),(L.last.prov.elim fun css hq=>⟨css,(hq.to hF1 (fun k k1 kT=>hT1 k kT (by omega)) h3 (fun k k1 e=>(za4 k1).trans e)).to hF2 (fun k _ kT=>hT2 k kT (by omega)) (fun _ _ h=>h) (fun _ _ h=>h)⟩),(L.last.dep.elim fun css hq=>⟨css,(hq.to hF1 (fun k k1 kT=>hT1 k kT (by omega)) h3 (fun k k1 e=>(za4 k1).trans e)).to hF2 (fun k _ kT=>hT2 k kT (by omega)) (fun _ _ h=>h) (fun _ _ h=>h)⟩),(L.last.conf.elim fun css hq=>⟨css,(hq.to hF1 (fun k k1 kT=>hT1 k kT (by omega)) h3 (fun k k1 e=>(za4 k1).trans e)).to hF2 (fun k _ kT=>hT2 k kT (by omega)) (fun _ _ h=>h) (fun _ _ h=>h)⟩),⟨_,(hr.push (by decide) (by omega) hx rfl ho hg hm).to hF2 (fun k _ kT=>hT2 k kT (by omega) ) (fun _ _ h=>h) (fun _ _ h=>h)⟩⟩
end

section
open Go.RowKit
def zen {α:Type} (f:α→α→Bool) (l m:List α):Bool:=decide (l.length=m.length) && (l.zip m).all fun p=>f p.1 p.2
section
variable {α : Type} {f : α → α → Bool} {l m : List α}
theorem zgq (h:l.length≠m.length):zen f l m=false:=by unfold zen;rw[decide_eq_false h];rfl
theorem zid {k:Nat} (h1:k < l.length) (h2:k < m.length) (h:f l[k] m[k]=false):zen f l m=false:=by
 unfold zen
 rw[Bool.and_eq_false_iff]
 right
 rw[List.all_eq_false]
 refine⟨(l[k],m[k]),?_,by simp[h]⟩
 rw[List.mem_iff_getElem]
 exact⟨k,by rw[List.length_zip];omega,by simp⟩
theorem zfn (hl:l.length=m.length) (h:∀ j (h1:j < l.length) (h2:j < m.length),f l[j] m[j]=true):zen f l m=true:=by
 unfold zen
 rw[decide_eq_true hl,Bool.true_and,List.all_eq_true]
 intro p hp
 obtain⟨j,hj,rfl⟩:=List.getElem_of_mem hp
 rw[List.length_zip] at hj
 rw[List.getElem_zip]
 exact h j (by omega) (by omega)
theorem eqAll_map {β:Type} {g:α→β} (hf:∀ x∈l,∀ y∈m,f x y=true↔g x=g y):zen f l m=true↔l.map g=m.map g:=by
 constructor
 ·intro h
  unfold zen at h
  rw[Bool.and_eq_true,decide_eq_true_eq,List.all_eq_true] at h
  refine List.ext_getElem (by simpa using h.1) fun j h1 h2=>?_
  rw[List.length_map] at h1 h2
  rw[List.getElem_map,List.getElem_map]
  refine (hf _ (List.getElem_mem h1) _ (List.getElem_mem h2)).1 (h.2 (l[j],m[j]) ?_)
  rw[List.mem_iff_getElem]
  exact⟨j,by rw[List.length_zip];omega,by simp⟩
 intro h
 have hl:l.length=m.length:=by have:=congrArg List.length h;simpa using this
 refine zfn hl fun j h1 h2=>(hf _ (List.getElem_mem h1) _ (List.getElem_mem h2)).2 ?_
 have h3:(l.map g)[j]? = (m.map g)[j]?:=by rw[h]
 rw[List.getElem?_map,List.getElem?_map,List.getElem?_eq_getElem h1,List.getElem?_eq_getElem h2] at h3
 simpa using h3
end
theorem ze1 {α:Type} {sz:Nat} {R:Rd α} {w:World} {a:Option Addr} {n c:Nat} {l:List α} (h:zal sz R w [.slice a n c] l):n=l.length∧n≤9223372036854775807∧∀ i x,l[i]? = some x→∃ b off ecs,a=some ⟨b,off,none⟩∧ecs.length=sz∧(∀ j u,ecs[j]? = some u→w.cell? ⟨b,off+i * sz+j,none⟩=some u)∧R w ecs x:=by
 obtain⟨a',cap,hv,hcap,hmax,hel⟩:=h
 simp only[List.cons.injEq,and_true,Value.slice.injEq] at hv
 obtain⟨rfl,hn,_⟩:=hv
 unfold maxLen at hmax
 exact⟨hn,by omega,hel⟩
theorem zb4 {α:Type} {sz:Nat} {R:Rd α} {w:World} {v:Value} {l:List α} (h:zal sz R w [v] l):∃ a c,v = .slice a l.length c:=by
 obtain⟨a,cap,hv,_⟩:=h
 simp only[List.cons.injEq,and_true] at hv
 exact⟨a,cap,hv⟩
end

section
open Go.RowKit Go.Shelf Go.Lib VerN VarM
theorem zis {α β:Type} {f:α→β} {l m:List α} (hl:l.length=m.length) (h:∀ j (h1:j < l.length) (h2:j < m.length),f l[j]=f m[j]):l.map f=m.map f :=
 List.ext_getElem (by simp[hl]) fun j h1 h2=>by
  rw[List.getElem_map,List.getElem_map]
  exact h j (by simpa using h1) (by simpa using h2)
theorem zn5 {α β:Type} {f:α→β} {l m:List α} (h:l.length≠m.length):l.map f≠m.map f:=fun e=>h (by have:=congrArg List.length e;simpa using this)
theorem zm5 {α β:Type} {f:α→β} {l m:List α} {k:Nat} (h1:k < l.length) (h2:k < m.length) (h:f l[k]≠f m[k]):l.map f≠m.map f:=fun e=>h (by
 have e1:(l.map f)[k]'(by simpa using h1)=f l[k]:=List.getElem_map _
 have e2:(m.map f)[k]'(by simpa using h2)=f m[k]:=List.getElem_map _
 rw[← e1,← e2]
 simp only[e])
def tupP (p:PkgM):ByteArray × List RlsM × List zix × List ByteArray × List DepM × List DepM × List ByteArray:=(p.name,p.rel,p.vars,p.prov,p.dep.map zdi,p.conf.map zdi,p.files)
theorem zrw {p q:PkgM}:zv1 p=zv1 q↔tupP p=tupP q:=by
 unfold zv1 tupP
 simp only[PkgM.mk.injEq,Prod.mk.injEq,true_and]
theorem bare_iff {x y:RcpM}:bare x=bare y↔x.pk.map tupP=y.pk.map tupP∧x.pf.map ziv=y.pf.map ziv:=by
 unfold bare
 rw[RcpM.mk.injEq]
 constructor
 ·rintro⟨h1,h2⟩
  have hl:x.pk.length=y.pk.length:=by have:=congrArg List.length h1;simpa using this
  refine⟨zis hl fun j k1 k2=>zrw.1 (Classical.byContradiction fun hne=>zm5 k1 k2 hne h1),h2⟩
 rintro⟨h1,h2⟩
 have hl:x.pk.length=y.pk.length:=by have:=congrArg List.length h1;simpa using this
 refine⟨zis hl fun j k1 k2=>zrw.2 (Classical.byContradiction fun hne=>zm5 k1 k2 hne h1),h2⟩
instance decDepM:DecidableEq DepM:=@instDecidableEqProd Spc3 (Spc3 × Int) inferInstance (@instDecidableEqProd Spc3 Int inferInstance inferInstance)
instance decTupP:DecidableEq (ByteArray × List RlsM × List zix × List ByteArray × List DepM × List DepM × List ByteArray) :=
 @instDecidableEqProd _ _ inferInstance (@instDecidableEqProd _ _ inferInstance (@instDecidableEqProd _ _ inferInstance (@instDecidableEqProd _ _ inferInstance (@instDecidableEqProd _ _ inferInstance (@instDecidableEqProd _ _ inferInstance inferInstance)))))
def zc3 (l m:List DepM):Bool:=decide (l.map zdi=m.map zdi)
def zes (p q:PkgM):Bool:=decide (tupP p=tupP q)
def zgh (l m:List PrfM):Bool:=decide (l.map ziv=m.map ziv)
def zgg (l m:List PkgM):Bool:=decide (l.map tupP=m.map tupP)
def zfs (x y:RcpM):Bool:=zgg x.pk y.pk && zgh x.pf y.pf
theorem zhs {x y:RcpM}:zfs x y=true↔bare x=bare y:=by
 unfold zfs zgg zgh
 rw[bare_iff]
 simp
theorem zog (p q:PkgM):zes p q=(decide (p.name=q.name) && (decide (p.rel=q.rel) && (decide (p.vars=q.vars) && (decide (p.prov=q.prov) && (decide (p.files=q.files) && (zc3 p.dep q.dep && zc3 p.conf q.conf)))))):=by
 unfold zes zc3 tupP
 rw[Bool.eq_iff_iff]
 simp only[Prod.mk.injEq,decide_eq_true_eq,Bool.and_eq_true]
 constructor
 ·rintro⟨h1,h2,h3,h4,h5,h6,h7⟩
  exact⟨h1,h2,h3,h4,h7,h5,h6⟩
 rintro⟨h1,h2,h3,h4,h7,h5,h6⟩
 exact⟨h1,h2,h3,h4,h5,h6,h7⟩
theorem zjj {w:World} {v:Value} {l:List RlsM} (h:zal 2 zgw w [v] l):∃ a cap,v = .slice a l.length cap∧l.length≤9223372036854775807∧∀ i x,l[i]? = some x→∃ b off,a=some ⟨b,off,none⟩∧w.cell? ⟨b,off+i * 2,none⟩=some (.string x.1)∧w.cell? ⟨b,off+i * 2+1,none⟩=some (.bool x.2):=by
 obtain⟨a,cap,hv,hcap,hmax,hel⟩:=h
 simp only[List.cons.injEq,and_true] at hv
 unfold maxLen at hmax
 refine⟨a,cap,hv,by omega,fun i x hi=>?_⟩
 obtain⟨b,off,ecs,h1,h2,h3,h4⟩:=hel i x hi
 have h4':ecs = [.string x.1,.bool x.2]:=h4
 subst h4'
 exact⟨b,off,h1,by simpa using h3 0 _ rfl,by simpa using h3 1 _ rfl⟩
theorem zlu {w:World} {v:Value} {l:List zix} (h:zal 2 zg6 w [v] l):∃ a cap,v = .slice a l.length cap∧l.length≤9223372036854775807∧∀ i x,l[i]? = some x→∃ b off b1 c1,a=some ⟨b,off,none⟩∧w.cell? ⟨b,off+i * 2,none⟩=some (.string x.1)∧w.cell? ⟨b,off+i * 2+1,none⟩=some (.slice b1 x.2.length c1)∧RTs w [.slice b1 x.2.length c1] x.2:=by
 obtain⟨a,cap,hv,hcap,hmax,hel⟩:=h
 simp only[List.cons.injEq,and_true] at hv
 unfold maxLen at hmax
 refine⟨a,cap,hv,by omega,fun i x hi=>?_⟩
 obtain⟨b,off,ecs,h1,h2,h3,v1,h4,h5⟩:=hel i x hi
 obtain⟨a1,c1,rfl,-,-⟩:=zba h5
 subst h4
 exact⟨b,off,a1,c1,h1,by simpa using h3 0 _ rfl,by simpa using h3 1 _ rfl,h5⟩
theorem zsh {w:World} {v:Value} {l:List PrfM} (h:zal 3 RPfM w [v] l):∃ a cap,v = .slice a l.length cap∧l.length≤9223372036854775807∧∀ i x,l[i]? = some x→∃ b off b1 c1,a=some ⟨b,off,none⟩∧w.cell? ⟨b,off+i * 3,none⟩=some (.string x.1)∧w.cell? ⟨b,off+i * 3+1,none⟩=some (.slice b1 x.2.1.length c1)∧w.cell? ⟨b,off+i * 3+2,none⟩=some (.int .i64 x.2.2)∧RTs w [.slice b1 x.2.1.length c1] x.2.1:=by
 obtain⟨a,cap,hv,hcap,hmax,hel⟩:=h
 simp only[List.cons.injEq,and_true] at hv
 unfold maxLen at hmax
 refine⟨a,cap,hv,by omega,fun i x hi=>?_⟩
 obtain⟨b,off,ecs,h1,h2,h3,v1,h4,h5⟩:=hel i x hi
 obtain⟨a1,c1,rfl,-,-⟩:=zba h5
 subst h4
 exact⟨b,off,a1,c1,h1,by simpa using h3 0 _ rfl,by simpa using h3 1 _ rfl,by simpa using h3 2 _ rfl,h5⟩
theorem zc1 {w:World} {a b c:Value} {s:Spc3} (h:zlc w a b c s):∃ b1 c1 b2 c2,a = .string s.1∧b = .slice b1 s.2.1.length c1∧c = .slice b2 s.2.2.length c2∧RSps w [.slice b1 s.2.1.length c1] s.2.1∧zcj w [.slice b2 s.2.2.length c2] s.2.2:=by
 obtain⟨h1,h2,h3⟩:=h
 obtain⟨a1,c1,rfl,-,-⟩:=zc5 h2
 obtain⟨a2,c2,rfl,-,-⟩:=zca h3
 exact⟨a1,c1,a2,c2,h1,rfl,rfl,h2,h3⟩
theorem zks {w:World} {v:Value} {l:List DepM} (h:zal 7 zd2 w [v] l):∃ a cap,v = .slice a l.length cap∧l.length≤9223372036854775807∧∀ i x,l[i]? = some x→∃ b off b1 c1 b2 c2 b3 c3 b4 c4,a=some ⟨b,off,none⟩ ∧
  w.cell? ⟨b,off+i * 7,none⟩=some (.string x.1.1)∧w.cell? ⟨b,off+i * 7+1,none⟩=some (.slice b1 x.1.2.1.length c1)∧w.cell? ⟨b,off+i * 7+2,none⟩=some (.slice b2 x.1.2.2.length c2) ∧
  w.cell? ⟨b,off+i * 7+3,none⟩=some (.string x.2.1.1)∧w.cell? ⟨b,off+i * 7+4,none⟩=some (.slice b3 x.2.1.2.1.length c3)∧w.cell? ⟨b,off+i * 7+5,none⟩=some (.slice b4 x.2.1.2.2.length c4)∧w.cell? ⟨b,off+i * 7+6,none⟩=some (.int .i64 x.2.2) ∧
  (RSps w [.slice b1 x.1.2.1.length c1] x.1.2.1∧zcj w [.slice b2 x.1.2.2.length c2] x.1.2.2)∧RSps w [.slice b3 x.2.1.2.1.length c3] x.2.1.2.1∧zcj w [.slice b4 x.2.1.2.2.length c4] x.2.1.2.2:=by
 obtain⟨a,cap,hv,hcap,hmax,hel⟩:=h
 simp only[List.cons.injEq,and_true] at hv
 unfold maxLen at hmax
 refine⟨a,cap,hv,by omega,fun i x hi=>?_⟩
 obtain⟨b,off,ecs,h1,h2,h3,a1,a2,a3,a4,a5,a6,h4,h5,h6⟩:=hel i x hi
 obtain⟨b1,c1,b2,c2,rfl,rfl,rfl,k1,k2⟩:=zc1 h5
 obtain⟨b3,c3,b4,c4,rfl,rfl,rfl,k3,k4⟩:=zc1 h6
 subst h4
 exact⟨b,off,b1,c1,b2,c2,b3,c3,b4,c4,h1,by simpa using h3 0 _ rfl,by simpa using h3 1 _ rfl,by simpa using h3 2 _ rfl,by simpa using h3 3 _ rfl,by simpa using h3 4 _ rfl,by simpa using h3 5 _ rfl,by simpa using h3 6 _ rfl,⟨k1,k2⟩,k3,k4⟩
def RPkR (w:World) (v2 v3 v4 v5 v6 v7:Value) (x:PkgM):Prop:=zal 2 zgw w [v2] x.rel∧zal 2 zg6 w [v3] x.vars∧RTs w [v4] x.prov∧zal 7 zd2 w [v5] x.dep∧zal 7 zd2 w [v6] x.conf∧RTs w [v7] x.files
theorem RPkR.below {w w':World} {v2 v3 v4 v5 v6 v7:Value} {x:PkgM} (h:RPkR w v2 v3 v4 v5 v6 v7 x) (hb:Below w.heap.size w w'):RPkR w' v2 v3 v4 v5 v6 v7 x:=by
 obtain⟨h2,h3,h4,h5,h6,h7⟩:=h
 exact⟨za3 zh2 _ _ _ _ h2 hb,za3 zfj _ _ _ _ h3 hb,zak h4 hb,za3 zcl _ _ _ _ h5 hb,za3 zcl _ _ _ _ h6 hb,zak h7 hb⟩
theorem RPkR.shape {w:World} {v2 v3 v4 v5 v6 v7:Value} {x:PkgM} (h:RPkR w v2 v3 v4 v5 v6 v7 x):∃ b2 c2 b3 c3 b4 c4 b5 c5 b6 c6 b7 c7,v2 = .slice b2 x.rel.length c2∧v3 = .slice b3 x.vars.length c3∧v4 = .slice b4 x.prov.length c4∧v5 = .slice b5 x.dep.length c5∧v6 = .slice b6 x.conf.length c6∧v7 = .slice b7 x.files.length c7:=by
 obtain⟨h2,h3,h4,h5,h6,h7⟩:=h
 obtain⟨b2,c2,rfl,-,-⟩:=zjj h2
 obtain⟨b3,c3,rfl,-,-⟩:=zlu h3
 obtain⟨b4,c4,rfl,-,-⟩:=zba h4
 obtain⟨b5,c5,rfl,-,-⟩:=zks h5
 obtain⟨b6,c6,rfl,-,-⟩:=zks h6
 obtain⟨b7,c7,rfl,-,-⟩:=zba h7
 exact⟨b2,c2,b3,c3,b4,c4,b5,c5,b6,c6,b7,c7,rfl,rfl,rfl,rfl,rfl,rfl⟩
theorem zsg {w:World} {v:Value} {l:List PkgM} (h:zal 8 RPkM w [v] l):∃ a cap,v = .slice a l.length cap∧l.length≤9223372036854775807∧∀ i x,l[i]? = some x→∃ b off b2 c2 b3 c3 b4 c4 b5 c5 b6 c6 b7 c7,a=some ⟨b,off,none⟩ ∧
  w.cell? ⟨b,off+i * 8,none⟩=some (.string x.name)∧w.cell? ⟨b,off+i * 8+1,none⟩=some (.int .i64 x.line)∧w.cell? ⟨b,off+i * 8+2,none⟩=some (.slice b2 x.rel.length c2)∧w.cell? ⟨b,off+i * 8+3,none⟩=some (.slice b3 x.vars.length c3) ∧
  w.cell? ⟨b,off+i * 8+4,none⟩=some (.slice b4 x.prov.length c4)∧w.cell? ⟨b,off+i * 8+5,none⟩=some (.slice b5 x.dep.length c5)∧w.cell? ⟨b,off+i * 8+6,none⟩=some (.slice b6 x.conf.length c6)∧w.cell? ⟨b,off+i * 8+7,none⟩=some (.slice b7 x.files.length c7) ∧
  RPkR w (.slice b2 x.rel.length c2) (.slice b3 x.vars.length c3) (.slice b4 x.prov.length c4) (.slice b5 x.dep.length c5) (.slice b6 x.conf.length c6) (.slice b7 x.files.length c7) x:=by
 obtain⟨a,cap,hv,hcap,hmax,hel⟩:=h
 simp only[List.cons.injEq,and_true] at hv
 unfold maxLen at hmax
 refine⟨a,cap,hv,by omega,fun i x hi=>?_⟩
 obtain⟨b,off,ecs,h1,h2,h3,v2,v3,v4,v5,v6,v7,h4,h5⟩:=hel i x hi
 have h5:RPkR w v2 v3 v4 v5 v6 v7 x:=h5
 obtain⟨b2,c2,b3,c3,b4,c4,b5,c5,b6,c6,b7,c7,rfl,rfl,rfl,rfl,rfl,rfl⟩:=h5.shape
 subst h4
 exact⟨b,off,b2,c2,b3,c3,b4,c4,b5,c5,b6,c6,b7,c7,h1,by simpa using h3 0 _ rfl,by simpa using h3 1 _ rfl,by simpa using h3 2 _ rfl,by simpa using h3 3 _ rfl,by simpa using h3 4 _ rfl,by simpa using h3 5 _ rfl,by simpa using h3 6 _ rfl,by simpa using h3 7 _ rfl,h5⟩
theorem zs8 {w:World} {a:Option Addr} {n c:Nat} {l:List RlsM} (h:zal 2 zgw w [.slice a n c] l):n=l.length∧n≤9223372036854775807∧∀ i x,l[i]? = some x→∃ b off,a=some ⟨b,off,none⟩∧w.cell? ⟨b,off+i * 2,none⟩=some (.string x.1)∧w.cell? ⟨b,off+i * 2+1,none⟩=some (.bool x.2):=by
 obtain⟨a',cap,e,hz,g⟩:=zjj h
 cases e
 exact⟨rfl,hz,g⟩
theorem zjg {w:World} {a:Option Addr} {n c:Nat} {l:List zix} (h:zal 2 zg6 w [.slice a n c] l):n=l.length∧n≤9223372036854775807∧∀ i x,l[i]? = some x→∃ b off b1 c1,a=some ⟨b,off,none⟩∧w.cell? ⟨b,off+i * 2,none⟩=some (.string x.1)∧w.cell? ⟨b,off+i * 2+1,none⟩=some (.slice b1 x.2.length c1)∧RTs w [.slice b1 x.2.length c1] x.2:=by
 obtain⟨a',cap,e,hz,g⟩:=zlu h
 cases e
 exact⟨rfl,hz,g⟩
theorem pfs_at {w:World} {a:Option Addr} {n c:Nat} {l:List PrfM} (h:zal 3 RPfM w [.slice a n c] l):n=l.length∧n≤9223372036854775807∧∀ i x,l[i]? = some x→∃ b off b1 c1,a=some ⟨b,off,none⟩∧w.cell? ⟨b,off+i * 3,none⟩=some (.string x.1)∧w.cell? ⟨b,off+i * 3+1,none⟩=some (.slice b1 x.2.1.length c1)∧w.cell? ⟨b,off+i * 3+2,none⟩=some (.int .i64 x.2.2)∧RTs w [.slice b1 x.2.1.length c1] x.2.1:=by
 obtain⟨a',cap,e,hz,g⟩:=zsh h
 cases e
 exact⟨rfl,hz,g⟩
theorem zgs {w:World} {a:Option Addr} {n c:Nat} {l:List DepM} (h:zal 7 zd2 w [.slice a n c] l):n=l.length∧n≤9223372036854775807∧∀ i x,l[i]? = some x→∃ b off b1 c1 b2 c2 b3 c3 b4 c4,a=some ⟨b,off,none⟩ ∧
  w.cell? ⟨b,off+i * 7,none⟩=some (.string x.1.1)∧w.cell? ⟨b,off+i * 7+1,none⟩=some (.slice b1 x.1.2.1.length c1)∧w.cell? ⟨b,off+i * 7+2,none⟩=some (.slice b2 x.1.2.2.length c2) ∧
  w.cell? ⟨b,off+i * 7+3,none⟩=some (.string x.2.1.1)∧w.cell? ⟨b,off+i * 7+4,none⟩=some (.slice b3 x.2.1.2.1.length c3)∧w.cell? ⟨b,off+i * 7+5,none⟩=some (.slice b4 x.2.1.2.2.length c4)∧w.cell? ⟨b,off+i * 7+6,none⟩=some (.int .i64 x.2.2) ∧
  (RSps w [.slice b1 x.1.2.1.length c1] x.1.2.1∧zcj w [.slice b2 x.1.2.2.length c2] x.1.2.2)∧RSps w [.slice b3 x.2.1.2.1.length c3] x.2.1.2.1∧zcj w [.slice b4 x.2.1.2.2.length c4] x.2.1.2.2:=by
 obtain⟨a',cap,e,hz,g⟩:=zks h
 cases e
 exact⟨rfl,hz,g⟩
theorem pks_at {w:World} {a:Option Addr} {n c:Nat} {l:List PkgM} (h:zal 8 RPkM w [.slice a n c] l):n=l.length∧n≤9223372036854775807∧∀ i x,l[i]? = some x→∃ b off b2 c2 b3 c3 b4 c4 b5 c5 b6 c6 b7 c7,a=some ⟨b,off,none⟩ ∧
  w.cell? ⟨b,off+i * 8,none⟩=some (.string x.name)∧w.cell? ⟨b,off+i * 8+1,none⟩=some (.int .i64 x.line)∧w.cell? ⟨b,off+i * 8+2,none⟩=some (.slice b2 x.rel.length c2)∧w.cell? ⟨b,off+i * 8+3,none⟩=some (.slice b3 x.vars.length c3) ∧
  w.cell? ⟨b,off+i * 8+4,none⟩=some (.slice b4 x.prov.length c4)∧w.cell? ⟨b,off+i * 8+5,none⟩=some (.slice b5 x.dep.length c5)∧w.cell? ⟨b,off+i * 8+6,none⟩=some (.slice b6 x.conf.length c6)∧w.cell? ⟨b,off+i * 8+7,none⟩=some (.slice b7 x.files.length c7) ∧
  RPkR w (.slice b2 x.rel.length c2) (.slice b3 x.vars.length c3) (.slice b4 x.prov.length c4) (.slice b5 x.dep.length c5) (.slice b6 x.conf.length c6) (.slice b7 x.files.length c7) x:=by
 obtain⟨a',cap,e,hz,g⟩:=zsg h
 cases e
 exact⟨rfl,hz,g⟩
end

section
open Go.Lib VerN VarM
open LexM (Wd Ln)
noncomputable def zdv (s:Spc3):Bool:=decide ((zbf s).head? = some ze7)
theorem pkLs_bare (s:Spc3→Bool) (p:PkgM):pkLs s (zv1 p)=pkLs s p:=by
 unfold pkLs zv1
 simp only[List.map_map]
 rfl
theorem zom (s:Spc3→Bool) (x:RcpM):rcLs s (bare x)=rcLs s x:=by
 unfold rcLs bare
 simp only[List.flatMap_map,List.map_map]
 congr 1
 rw[List.flatMap_def,List.flatMap_def,List.map_congr_left fun p _=>pkLs_bare s p]
theorem rcLs_same {s:Spc3→Bool} {x y:RcpM} (h:bare x=bare y):rcLs s x=rcLs s y:=by rw[← zom s x,h,zom]
noncomputable def rcT (s:Spc3→Bool) (x:RcpM):ByteArray:=⟨(txT (rcLs s x)).toArray⟩
theorem zse (s:Spc3→Bool) (x:RcpM):(rcT s x).data.toList=txT (rcLs s x):=rfl
def zrj (s:Spc3→Bool) (x:RcpM):Prop:=∃ y,zqg (txT (rcLs s x))=some y∧bare y=bare x
open Classical in
noncomputable def rcR (s:Spc3→Bool) (x:RcpM):ByteArray × Bool:=if zrj s x then (rcT s x,true) else (noT,false)
theorem rcR_yes {s:Spc3→Bool} {x:RcpM} (h:zrj s x):rcR s x=(rcT s x,true):=by unfold rcR;rw[if_pos h]
theorem rcR_no {s:Spc3→Bool} {x:RcpM} (h:¬ zrj s x):rcR s x=(noT,false):=by unfold rcR;rw[if_neg h]
theorem rcR_apart {s:Spc3→Bool} {x y:RcpM} (hx:zrj s x) (hy:zrj s y):rcT s x=rcT s y↔bare x=bare y:=by
 constructor
 ·intro e
  have e2:txT (rcLs s x)=txT (rcLs s y):=by rw[← zse,← zse,e]
  obtain⟨u,hu,hb⟩:=hx
  obtain⟨v,hv,hb2⟩:=hy
  rw[e2,hv] at hu
  cases hu
  rw[← hb,hb2]
 intro e
 unfold rcT
 rw[rcLs_same e]
def SpP (p:PkgM):Prop:=(∀ d∈p.dep,(∃ l,Sp d.1 l)∧∃ l,Sp d.2.1 l)∧∀ d∈p.conf,(∃ l,Sp d.1 l)∧∃ l,Sp d.2.1 l
def SpR (x:RcpM):Prop:=∀ p∈x.pk,SpP p
end

section
open Go.RowKit Go.Shelf Go.Lib VerN VarM
theorem zdq (f:ByteArray) (r:List ByteArray):(zds ((⟨#[32,32]⟩ ++ f:ByteArray) :: r)).data.toList ++ [10]=lnT (true,f :: r):=by
 unfold lnT
 show _ = [32,32] ++ ((zds (f :: r)).data.toList ++ [10])
 rw[zcx,zcx,List.map_cons,List.map_cons,Lib.join_cons,Lib.join_cons,Go.Joins.data_append]
 simp
theorem zp7 (l:List ByteArray):(zds l).data.toList ++ [10]=lnT (false,l):=rfl
theorem zsm:∀ l:List ByteArray,l.length≤zbr l∧∀ x∈l,x.size≤zbr l
 | [] => ⟨Nat.le_refl _,fun x hx=>by simp at hx⟩
 | x :: l=>by
  obtain⟨h1,h2⟩:=zsm l
  have e:zbr (x :: l)=x.size+1+zbr l:=rfl
  rw[e,List.length_cons]
  refine⟨by omega,fun y hy=>?_⟩
  rcases List.mem_cons.1 hy with rfl | hy
  ·omega
  have:=h2 y hy
  omega
theorem zrl {l:List ByteArray} (h0:l≠[]):l.length≤(zds l).size+1∧∀ x∈l,x.size≤(zds l).size+1:=by
 have h1:=zsm l
 have h2:=zkk h0
 rw[Txt.len] at h2
 exact⟨by omega,fun x hx=>by have:=h1.2 x hx;omega⟩
theorem tx_step {L:List Tln} {m:Nat} {x:Tln} (h:L[m]? = some x):txT (L.take (m+1))=txT (L.take m) ++ lnT x:=by
 obtain⟨hm,e⟩:=List.getElem?_eq_some_iff.1 h
 rw[List.take_succ_eq_append_getElem hm,e]
 unfold txT
 rw[List.flatMap_append]
 simp
theorem tx_le {L:List Tln} (m:Nat):(txT (L.take m)).length≤(txT L).length:=by
 have e:txT L=txT (L.take m) ++ txT (L.drop m):=by
  unfold txT
  rw[← List.flatMap_append,List.take_append_drop]
 rw[e,List.length_append]
 omega
structure PkT (w0 w1:World) (b:Nat) (L:List Tln) (m:Nat) (W:World):Prop where
 bld:BT.Bld w0.heap.size b (txT (L.take m)) W
 bel:Below w0.heap.size w0 W
 keep:BT.Keep w1 W
section
variable {w0 w1 wr W : World} {b m : Nat} {L : List Tln}
theorem PkT.to (h:PkT w0 w1 b L m wr) (hb:Below wr.heap.size wr W):PkT w0 w1 b L m W:=⟨BT.bld_below h.bld hb,h.bel.trans (hb.mono h.bel.size),h.keep.trans (BT.keep_below hb)⟩
theorem PkT.line (h:PkT w0 w1 b L m wr) (hb:Below wr.heap.size wr W) {B:Nat} {a:Option Addr} {n c:Nat} {l:List ByteArray} (ho:W.ownsRow B 9 1 (.slice a n c) n (l.map Value.string)) (h0:l≠[]) {x:Tln} (hx:L[m]? = some x) (hl:(zds l).data.toList ++ [10]=lnT x) (htot:(txT L).length≤4398046511104) :
  Calls Tryz.prog 17 #[.pointer (some ⟨b,0,none⟩),.slice a n c] W fun e w'=>e = .returned (.tuple #[])∧PkT w0 w1 b L (m+1) w':=by
 have h1:=h.to hb
 have hs:=tx_step hx
 have hle:=tx_le (L:=L) (m+1)
 rw[hs,List.length_append,← hl,List.length_append,Txt.len,List.length_singleton] at hle
 obtain⟨g1,g2⟩:=zrl h0
 refine (tline_any h1.bld (ze8 ho fun x hx=>by have:=g2 x hx;unfold maxLen;omega) h0 (by omega) (by omega) h1.bel.size).mono fun e w' ⟨k1,k2,k3,k4⟩=>⟨k1,?_,h1.bel.trans k3,h1.keep.trans k4⟩
 rw[hs,← hl]
 exact k2
end
theorem zek {w:World} {a:Option Addr} {n c:Nat} {l:List ByteArray} (h:RTs w [.slice a n c] l):n=l.length∧∀ (j:Nat) u,(l.map Value.string)[j]? = some u→∃ b off,a=some ⟨b,off,none⟩∧w.cell? ⟨b,off+j,none⟩=some u:=by
 obtain⟨a',cap,e,hz,g⟩:=zba h
 cases e
 refine⟨rfl,fun j u hu=>?_⟩
 rw[List.getElem?_map,Option.map_eq_some_iff] at hu
 obtain⟨x,hx,rfl⟩:=hu
 obtain⟨hj,e⟩:=List.getElem?_eq_some_iff.1 hx
 obtain⟨b,off,e1,e2,_⟩:=g j hj
 exact⟨b,off,e1,by rw[e2,e]⟩
theorem rts_frm {w w':World} {T:Nat→Prop} {a:Option Addr} {n c:Nat} {l:List ByteArray} (h:RTs w [.slice a n c] l) (hF:Frm T w w') (hT:∀ p:Addr,a=some p→¬ T p.block):n=l.length∧∀ (j:Nat) u,(l.map Value.string)[j]? = some u→∃ b off,a=some ⟨b,off,none⟩∧w'.cell? ⟨b,off+j,none⟩=some u:=by
 obtain⟨h1,h2⟩:=zek h
 refine⟨h1,fun j u hu=>?_⟩
 obtain⟨b,off,e1,e2⟩:=h2 j u hu
 exact⟨b,off,e1,(hF.cell (World.block_lt_of_cell? w _ e2) (hT ⟨b,off,none⟩ e1)).trans e2⟩
theorem zru {L:List Tln} {m:Nat} {x:Tln} (h:L[m]? = some x):x.2.length≤(txT L).length+1:=by
 have h1:=tx_le (L:=L) (m+1)
 rw[tx_step h,List.length_append] at h1
 by_cases h0:x.2 = []
 ·rw[h0]
  exact Nat.zero_le _
 have h2:=(zrl h0).1
 have h3:(zds x.2).size+1≤(lnT x).length:=by
  unfold lnT
  rw[List.length_append,List.length_append,Txt.len,List.length_singleton]
  omega
 omega
theorem zje {w:World} {s:Spc3} {l:List Tp} {e1 e2:Option Addr} {q1 g1 q2 g2:Nat} (hS:Sp s l) (h1:RSps w [.slice e1 q1 g1] s.2.1) (h2:zcj w [.slice e2 q2 g2] s.2.2) (hD:zbl w):Calls Tryz.prog 36 #[.agg #[.string s.1,.slice e1 q1 g1,.slice e2 q2 g2]] w fun e w' =>
  ∃ (a:Option Addr) (m c:Nat),e = .returned (.slice a m c)∧RTs w' [.slice a m c] (zbf s)∧(∀ p:Addr,a=some p→w.heap.size≤p.block)∧m≤1001∧Below w.heap.size w w':=by
 have hw:=hS.words.2.1
 obtain⟨x1,x2,x3⟩:=s
 obtain rfl:=hS.sp
 refine (zhj h1 h2 hD hS.l1 hS.sl hS.nm hS.sz).mono fun e w' h=>?_
 obtain⟨a,c,k1,⟨k2,k3⟩,k4⟩:=h
 exact⟨a,_,c,k1,k2,k3,hw,k4⟩
section
variable {star : Spc3 → Bool} {p : PkgM} {k : Nat}
theorem zl5 {α β:Type} {f:α→β} {l:List α} {r:List β} {k:Nat} (h:k < l.length):(l.map f ++ r)[k]? = some (f l[k]):=by
 rw[List.getElem?_append_left (by simpa using h),List.getElem?_map,List.getElem?_eq_getElem h]
 rfl
theorem zci {α β:Type} {f:α→β} {l:List α} {r:List β} {k:Nat}:(l.map f ++ r)[l.length+k]? = r[k]?:=by
 rw[List.getElem?_append_right (by simp)]
 simp
theorem pk_rel (h:k < p.rel.length):(pkLs star p)[1+k]? = some (true,relWs p.rel[k]):=by
 rw[Nat.add_comm]
 unfold pkLs
 rw[List.getElem?_cons_succ]
 exact zl5 h
theorem pk_var (h:k < p.vars.length):(pkLs star p)[1+p.rel.length+k]? = some (true,zta p.vars[k]):=by
 rw[Nat.add_assoc,Nat.add_comm]
 unfold pkLs
 rw[List.getElem?_cons_succ,zci]
 exact zl5 h
theorem pk_prov (h:k < p.prov.length):(pkLs star p)[1+p.rel.length+p.vars.length+k]? = some (true,[zc7,p.prov[k]]):=by
 rw[show 1+p.rel.length+p.vars.length+k=p.rel.length+(p.vars.length+k)+1 by omega]
 unfold pkLs
 rw[List.getElem?_cons_succ,zci,zci]
 exact zl5 h
theorem pk_dep (h:k < p.dep.length):(pkLs star p)[1+p.rel.length+p.vars.length+p.prov.length+k]? = some (true,depWs star p.dep[k]):=by
 rw[show 1+p.rel.length+p.vars.length+p.prov.length+k=p.rel.length+(p.vars.length+(p.prov.length+k))+1 by omega]
 unfold pkLs
 rw[List.getElem?_cons_succ,zci,zci,zci]
 exact zl5 h
theorem pk_conf (h:k < p.conf.length):(pkLs star p)[1+p.rel.length+p.vars.length+p.prov.length+p.dep.length+k]? = some (true,zkz p.conf[k]):=by
 rw[show 1+p.rel.length+p.vars.length+p.prov.length+p.dep.length+k=p.rel.length+(p.vars.length+(p.prov.length+(p.dep.length+k)))+1 by omega]
 unfold pkLs
 rw[List.getElem?_cons_succ,zci,zci,zci,zci]
 exact zl5 h
theorem pk_file (h:k < p.files.length):(pkLs star p)[1+p.rel.length+p.vars.length+p.prov.length+p.dep.length+p.conf.length+k]? = some (true,[zlf,p.files[k]]):=by
 rw[show 1+p.rel.length+p.vars.length+p.prov.length+p.dep.length+p.conf.length+k=p.rel.length+(p.vars.length+(p.prov.length+(p.dep.length+(p.conf.length+k))))+1 by omega]
 unfold pkLs
 rw[List.getElem?_cons_succ,zci,zci,zci,zci,zci,List.getElem?_map,List.getElem?_eq_getElem h]
 rfl
theorem pk_len:(pkLs star p).length=1+p.rel.length+p.vars.length+p.prov.length+p.dep.length+p.conf.length+p.files.length:=by
 unfold pkLs
 simp only[List.length_cons,List.length_append,List.length_map]
 omega
end
end
end Go.Proofs.YthgibhhbmmkjmaaGreatDoor
