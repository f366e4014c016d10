/- Walks and plain facts. Texts merged: RqN, RqO, RqP, RqQ, RqR, RqS. Condition: none beyond what each says. -/
import Derived.Lib.IndexLaws
import Derived.Lib.Bytealg
import Derived.Test.YteailgjiifdgcaaGreatDoorRequestTextsAll11
set_option linter.unusedVariables false
set_option linter.unusedSimpArgs false
set_option maxRecDepth 10000
set_option maxHeartbeats 4000000
namespace Go.Proofs.YteailgjiifdgcaaGreatDoor
section
open Go.Shelf Go.RowKit Go.Lib VerN VarM
open LexM (Wd)
attribute [local go_sem ↓] Go.wp_at_zero Go.wp_at_succ
abbrev pv (a:Option Addr) (n c i:Nat) (fin bad:Int):Value:=.agg #[.slice a n c,.int .i64 i,.int .i64 fin,.int .i64 bad]
abbrev PBox (k:Nat) (a:Option Addr) (n c i:Nat) (fin bad:Int) (W:World):Prop:=W.heap[k]? = some (.cells #[.slice a n c,.int .i64 i,.int .i64 fin,.int .i64 bad] 113 (0,0))
theorem zag {k:Nat} {a:Option Addr} {n c i:Nat} {fin bad:Int} {W:World} (h:PBox k a n c i fin bad W):(W.cell? ⟨k,0,none⟩=some (.slice a n c)∧W.cell? ⟨k,1,none⟩=some (.int .i64 i)∧W.cell? ⟨k,2,none⟩=some (.int .i64 fin)∧W.cell? ⟨k,3,none⟩=some (.int .i64 bad))∧W.frozen? ⟨k,0,none⟩=false∧W.frozen? ⟨k,1,none⟩=false∧W.frozen? ⟨k,2,none⟩=false∧W.frozen? ⟨k,3,none⟩=false :=
 ⟨⟨za4 h 0,za4 h 1,za4 h 2,za4 h 3⟩,za9 h 0,za9 h 1,za9 h 2,za9 h 3⟩
theorem zke (w:World) (a:Option Addr) (n c i:Nat) (fin bad:Int):Calls Tryz.prog 184 #[pv a n c i fin bad] w fun e w'=>e = .returned (.bool (decide (i < n)))∧Below w.heap.size w w':=by
 have k1:decide ((i:Int) < (n:Int))=decide (i < n):=decide_eq_decide.2 (by omega)
 go_enter Tryz.func184,Tryz.ntmps184
 go_wp2_with fail
 go_ret
 exact⟨rfl,za2 _ _⟩
theorem zoy {w:World} {a:Option Addr} {n c:Nat} {ws:List Wd} (hw:RWds w [.slice a n c] ws) (i:Nat) (fin bad:Int):Calls Tryz.prog 134 #[pv a n c i fin bad] w fun e w'=>e = .returned (.string (zbe ws i))∧Below w.heap.size w w':=by
 obtain⟨hn,hz,hat⟩:=zfp hw
 obtain⟨g,hg⟩ : ∃ g,g=w.heap.size:=⟨_,rfl⟩
 obtain⟨W1,hW1⟩ : ∃ W,W=w.alloc (.cells #[.slice a n c,.int .i64 i,.int .i64 fin,.int .i64 bad] 113):=⟨_,rfl⟩
 have hb1:Below w.heap.size w W1:=by rw[hW1];exact za2 _ _
 have p0:PBox g a n c i fin bad W1:=by rw[hW1,hg];exact heap_alloc_new _ _
 obtain⟨⟨c0,c1,c2,c3⟩,_⟩:=zag p0
 have hM:=zke W1 a n c i fin bad
 by_cases hi:i < n
 ·have hi2:i < ws.length:=by omega
  obtain⟨b,off,rfl,_,d1,_⟩:=hat i _ (List.getElem?_eq_getElem hi2)
  rw[zei hi2]
  obtain⟨s,hs⟩ : ∃ s:ByteArray,s=⟨ws[i].2.toArray⟩:=⟨_,rfl⟩
  rw[← hs] at d1 ⊢
  rw[decide_eq_true hi] at hM
  have k5:(0:Int)≤(i:Int):=by omega
  have k6:(i:Int) < (n:Int):=by omega
  clear hs hat
  obtain⟨HM,Hw,Hn,Hb1,Hp0⟩:=hd5 hM hw hn hb1 p0;clear hM hw hn hb1 p0
  go_enter Tryz.func134,Tryz.ntmps134
  go_upto_region 1 with (fail)
  rw[← hW1,← hg]
  clear hW1 hg
  go_wp2_with fail
  refine HM.out.mono ?_
  rintro e w2 ⟨rfl,hb2⟩
  obtain⟨⟨e0,e1,_,_⟩,_⟩:=zag (za0 hb2 Hp0.out)
  have hb3:=Hb1.out.trans (hb2.mono Hb1.out.size)
  have f1:=cell_later hb3 d1
  obtain⟨Hb2,Hb3⟩:=hd2 hb2 hb3;clear hb2 hb3
  go_wp2_with fail
  go_ret
  exact⟨rfl,Hb3.out⟩
 rw[zd4 (by omega)]
 rw[decide_eq_false hi] at hM
 clear hat
 obtain⟨HM,Hw,Hn,Hb1,Hp0⟩:=hd5 hM hw hn hb1 p0;clear hM hw hn hb1 p0
 go_enter Tryz.func134,Tryz.ntmps134
 go_upto_region 1 with (fail)
 rw[← hW1,← hg]
 clear hW1 hg
 go_wp2_with fail
 refine HM.out.mono ?_
 rintro e w2 ⟨rfl,hb2⟩
 have hb3:=Hb1.out.trans (hb2.mono Hb1.out.size)
 obtain⟨Hb2,Hb3⟩:=hd2 hb2 hb3;clear hb2 hb3
 go_wp2_with fail
 go_ret
 exact⟨rfl,Hb3.out⟩
theorem pFail_any {w:World} {a:Option Addr} {n c:Nat} {ws:List Wd} (hw:RWds w [.slice a n c] ws) (i:Nat) (fin:Int):Calls Tryz.prog 141 #[pv a n c i fin 0] w fun e w'=>e = .returned (pv a n c i fin (zb9 ws fin i))∧Below w.heap.size w w':=by
 obtain⟨hn,hz,hat⟩:=zfp hw
 obtain⟨g,hg⟩ : ∃ g,g=w.heap.size:=⟨_,rfl⟩
 obtain⟨W1,hW1⟩ : ∃ W,W=(w.alloc (.cells #[.slice a n c,.int .i64 i,.int .i64 fin,.int .i64 0] 113)).alloc (.cells #[.slice none 0 0,.int .i64 0,.int .i64 0,.int .i64 0] 113):=⟨_,rfl⟩
 have hb1:Below w.heap.size w W1:=by rw[hW1];exact (za2 _ _).alloc (by simp) _
 have p0:PBox g a n c i fin 0 W1:=by rw[hW1,hg];exact za0 (za2 _ _) (za6 rfl)
 have p1:PBox (g+1) none 0 0 0 0 0 W1:=by rw[hW1,hg];exact za6 (by simp)
 have hwg:w.heap.size≤g:=Nat.le_of_eq hg.symm
 obtain⟨⟨c0,c1,c2,c3⟩,_,_,_,q3⟩:=zag p0
 obtain⟨W2,hW2⟩ : ∃ W,W=W1.setCell ⟨g,3,none⟩ (.int .i64 fin):=⟨_,rfl⟩
 have p2:PBox g a n c i fin fin W2:=by rw[hW2];exact heap_setCell_same W1 g 3 _ _ _ p0
 have p3:PBox (g+1) none 0 0 0 0 0 W2:=by rw[hW2];exact za3 p1 (by omega)
 have hb2:Below w.heap.size w W2:=by rw[hW2];exact hb1.setCell (p:=⟨g,3,none⟩) hwg _
 obtain⟨⟨d0,d1,d2,d3⟩,_⟩:=zag p2
 have hM:=zke W2 a n c i fin fin
 have fin_:∀ (W:World) (x:Int),PBox g a n c i fin x W→PBox (g+1) none 0 0 0 0 0 W→Below w.heap.size w W→PBox (g+1) a n c i fin x ((((W.setCell ⟨g+1,0,none⟩ (.slice a n c)).setCell ⟨g+1,1,none⟩ (.int .i64 i)).setCell ⟨g+1,2,none⟩ (.int .i64 fin)).setCell ⟨g+1,3,none⟩ (.int .i64 x))∧Below w.heap.size w ((((W.setCell ⟨g+1,0,none⟩ (.slice a n c)).setCell ⟨g+1,1,none⟩ (.int .i64 i)).setCell ⟨g+1,2,none⟩ (.int .i64 fin)).setCell ⟨g+1,3,none⟩ (.int .i64 x)):=fun W x _ h1 hb=>by
  have k0:=heap_setCell_same W (g+1) 0 _ _ (.slice a n c) h1
  have k1:=heap_setCell_same _ (g+1) 1 _ _ (.int .i64 (i:Int)) k0
  have k2:=heap_setCell_same _ (g+1) 2 _ _ (.int .i64 fin) k1
  have k3:=heap_setCell_same _ (g+1) 3 _ _ (.int .i64 x) k2
  exact⟨k3,(((hb.setCell (p:=⟨g+1,0,none⟩) (by show w.heap.size≤g+1;omega) _).setCell (p:=⟨g+1,1,none⟩) (by show w.heap.size≤g+1;omega) _).setCell (p:=⟨g+1,2,none⟩) (by show w.heap.size≤g+1;omega) _).setCell (p:=⟨g+1,3,none⟩) (by show w.heap.size≤g+1;omega) _⟩
 by_cases hi:i < n
 ·have hi2:i < ws.length:=by omega
  obtain⟨b,off,rfl,e0,_,_⟩:=hat i _ (List.getElem?_eq_getElem hi2)
  rw[zjn hi2]
  obtain⟨s,hs⟩ : ∃ s,s=ws[i].1:=⟨_,rfl⟩
  rw[← hs] at e0 ⊢
  rw[decide_eq_true hi] at hM
  have k5:(0:Int)≤(i:Int):=by omega
  have k6:(i:Int) < (n:Int):=by omega
  clear hs hat
  obtain⟨HM,Hw,Hn,Hb1,Hp0,Hp1,Hp2,Hp3,Hb2,Hfin_⟩:=hd10 hM hw hn hb1 p0 p1 p2 p3 hb2 fin_;clear hM hw hn hb1 p0 p1 p2 p3 hb2 fin_
  go_enter Tryz.func141,Tryz.ntmps141
  go_upto_region 1 with (fail)
  rw[← hW1,← hg]
  clear hW1 hg
  go_upto_region 4 with (fail)
  rw[← hW2]
  clear hW2 c0 c1 c2 c3 q3
  go_wp2_with fail
  refine HM.out.mono ?_
  rintro e w2 ⟨rfl,hb3⟩
  have x0:=za0 hb3 Hp2.out
  have x1:=za0 hb3 Hp3.out
  obtain⟨⟨r0,r1,r2,r3⟩,_,_,_,z3⟩:=zag x0
  obtain⟨_,f0,f1,f2,f3⟩:=zag x1
  have hb4:=Hb2.out.trans (hb3.mono Hb2.out.size)
  have e1:=cell_later hb4 e0
  obtain⟨Hb3,Hb4,Hx0,Hx1⟩:=hd4 hb3 hb4 x0 x1;clear hb3 hb4 x0 x1
  go_wp2_with fail
  have hf:=Hfin_.out _ s (heap_setCell_same w2 g 3 _ _ (.int .i64 s) Hx0.out) (za3 (b:=g) (i:=3) (u:=.int .i64 s) Hx1.out (by omega)) (Hb4.out.setCell (p:=⟨g,3,none⟩) hwg _)
  exact bodyPost_ret (results_cell_row rfl _ _ _ _ _ _ _ rfl hf.1 Tryz.underlying113 rfl (by kernel_rfl)) rfl ⟨rfl,hf.2⟩
 rw[znr (by omega)]
 rw[decide_eq_false hi] at hM
 clear hat
 obtain⟨HM,Hw,Hn,Hb1,Hp0,Hp1,Hp2,Hp3,Hb2,Hfin_⟩:=hd10 hM hw hn hb1 p0 p1 p2 p3 hb2 fin_;clear hM hw hn hb1 p0 p1 p2 p3 hb2 fin_
 go_enter Tryz.func141,Tryz.ntmps141
 go_upto_region 1 with (fail)
 rw[← hW1,← hg]
 clear hW1 hg
 go_upto_region 4 with (fail)
 rw[← hW2]
 clear hW2 c0 c1 c2 c3 q3
 go_wp2_with fail
 refine HM.out.mono ?_
 rintro e w2 ⟨rfl,hb3⟩
 have x0:=za0 hb3 Hp2.out
 have x1:=za0 hb3 Hp3.out
 obtain⟨⟨r0,r1,r2,r3⟩,_,_,_,z3⟩:=zag x0
 obtain⟨_,f0,f1,f2,f3⟩:=zag x1
 have hb4:=Hb2.out.trans (hb3.mono Hb2.out.size)
 obtain⟨Hb3,Hb4,Hx0,Hx1⟩:=hd4 hb3 hb4 x0 x1;clear hb3 hb4 x0 x1
 go_wp2_with fail
 have hf:=Hfin_.out _ fin Hx0.out Hx1.out Hb4.out
 exact bodyPost_ret (results_cell_row rfl _ _ _ _ _ _ _ rfl hf.1 Tryz.underlying113 rfl (by kernel_rfl)) rfl ⟨rfl,hf.2⟩
end

section
open Go.Shelf Go.RowKit Go.Lib VerN VarM
open LexM (Wd)
attribute [local go_sem ↓] Go.wp_at_zero Go.wp_at_succ
theorem zhx (l:List UInt8) (c:UInt8):indexByte l c = -1∨∃ k:Nat,indexByte l c=k:=by
 have h:=indexByte_ge l c
 by_cases h1:indexByte l c < 0
 ·exact .inl (by omega)
 exact .inr ⟨(indexByte l c).toNat,by omega⟩
theorem idx_is {l:List UInt8} {c:UInt8} {k:Nat} (h:l[k]? = some c) (hn:∀ j,j < k→l[j]?≠some c):indexByte l c=k:=by
 rcases zhx l c with e | ⟨o,e⟩
 ·exact absurd h (indexByte_none e k)
 obtain⟨h1,h2⟩:=indexByte_some e
 rw[e]
 rcases Nat.lt_trichotomy o k with hk | hk | hk
 ·exact absurd h1 (hn o hk)
 ·rw[hk]
 exact absurd h (h2 k hk)
theorem idx_no {l:List UInt8} {c:UInt8} (h:∀ j,j < l.length→l[j]?≠some c):indexByte l c = -1:=by
 rcases zhx l c with e | ⟨o,e⟩
 ·exact e
 obtain⟨h1,_⟩:=indexByte_some e
 exact absurd h1 (h o (List.getElem?_eq_some_iff.1 h1).1)
theorem cutB_no {s:ByteArray} {c:UInt8} (h:indexByte s.data.toList c = -1):hasB c s=false∧(cutB c s).1=s∧(cutB c s).2.2=false:=by
 have e:cut s.data.toList [c]=(s.data.toList,[],false):=by
  unfold cut
  rw[index_one,h,if_neg (by omega)]
 refine⟨by unfold hasB;rw[h];rfl,?_,?_⟩
 ·unfold cutB
  rw[e]
 unfold cutB
 rw[e]
theorem ztg {s:ByteArray} {c:UInt8} {k:Nat} (h:indexByte s.data.toList c=k):hasB c s=true∧cutB c s=(s.extract 0 k,s.extract (k+1) s.size,true)∧k+1≤s.size:=by
 obtain⟨h1,_⟩:=indexByte_some h
 have hk:=(List.getElem?_eq_some_iff.1 h1).1
 rw[Txt.len] at hk
 have e:cut s.data.toList [c]=(s.data.toList.take k,s.data.toList.drop (k+1),true):=by
  unfold cut
  rw[index_one,h,if_pos (by omega)]
  rfl
 refine⟨by unfold hasB;rw[h];exact decide_eq_true (by omega),?_,hk⟩
 unfold cutB
 rw[e]
 refine Prod.ext (Txt.ext ?_) (Prod.ext (Txt.ext ?_) rfl)
 ·rw[Lib.extract_data]
  simp
 show s.data.toList.drop (k+1)=(s.extract (k+1) s.size).data.toList
 rw[Lib.extract_data,List.take_of_length_le (by rw[List.length_drop,Txt.len];exact Nat.le_refl _)]
theorem ztp (s:ByteArray) (hs:s.size≤70000) (c:UInt8) (w:World):Calls Tryz.prog 136 #[.string s,.int .u8 c.toNat] w fun e w'=>e = .returned (.int .i64 (indexByte s.data.toList c))∧w'=w:=by
 obtain⟨l,hl⟩ : ∃ l,l=s.data.toList:=⟨_,rfl⟩
 have hln:l.length=s.size:=by rw[hl];exact Txt.len s
 obtain⟨r,hr⟩ : ∃ r,r=indexByte l c:=⟨_,rfl⟩
 rw[← hl,← hr]
 obtain⟨Hl,Hr,Hln⟩:=hd3 hl hr hln;clear hl hr hln
 go_enter Tryz.func136,Tryz.ntmps136
 go_wp2_with fail
 go_loopw [5] (fun v wr=>∃ k:Nat,k≤s.size∧v = .int .i64 k∧(∀ j,j < k→l[j]?≠some c)∧wr=w) (fun v _=>s.size - (RowKit.intOf v).toNat)
 case atStart=>exact⟨0,Nat.zero_le _,rfl,fun j h=>by omega,rfl⟩
 case round =>
  obtain⟨k,hk,rfl,hno,rfl⟩:=hrel
  by_cases hlt:k < s.size
  ·have hkl:k < l.length:=by rw[Hln.out];exact hlt
   have hbs:s[k]'hlt=l[k]:=by have:=Hl.out;subst this;rfl
   have k5:(0:Int)≤(k:Int):=by omega
   have k6:(k:Int) < (s.size:Int):=by omega
   by_cases hc:l[k]=c
   ·have hf:r=k:=by rw[Hr.out];exact idx_is (by rw[List.getElem?_eq_getElem hkl,hc]) hno
    have k7:(((s[k]'hlt).toNat:Int) == (c.toNat:Int))=true:=by rw[hbs,hc];simp
    obtain⟨Hno,Hf,Hbs,Hc⟩:=hd4 hno hf hbs hc;clear hno hf hbs hc
    go_wp2_with fail
    go_ret
    exact⟨by rw[Hf.out];rfl,rfl⟩
   have k7:(((s[k]'hlt).toNat:Int) == (c.toNat:Int))=false:=by
    rw[hbs,beq_eq_false_iff_ne]
    intro e
    exact hc (UInt8.toNat_inj.1 (by omega))
   have hnx:∀ j,j < k+1→l[j]?≠some c:=fun j hj=>by
    by_cases e:j=k
    ·subst e;rw[List.getElem?_eq_getElem hkl];intro h;exact hc (Option.some.inj h)
    exact hno j (by omega)
   obtain⟨Hno,Hnx,Hbs,Hc⟩:=hd4 hno hnx hbs hc;clear hno hnx hbs hc
   go_wp2_with fail
   go_roundw
   case rel=>exact⟨k+1,by omega,by go_num,Hnx.out,by first | rfl | trivial⟩
   case measure=>simp[RowKit.intOf];omega
  obtain rfl:k=s.size:=by omega
  have hf:r = -1:=by rw[Hr.out];exact idx_no (by rw[Hln.out];exact hno)
  obtain⟨Hno,Hf⟩:=hd2 hno hf;clear hno hf
  go_wp2_with fail
  go_ret
  exact⟨by rw[Hf.out];rfl,rfl⟩
theorem all06_any (w:World):Calls Tryz.prog 135 #[] w fun e w'=>e = .returned (.slice (some ⟨w.heap.size,0,none⟩) 1 1)∧w'=w.alloc (.cells #[.string ⟨#[]⟩,.string ⟨#[]⟩] 34):=by
 go_enter Tryz.func135,Tryz.ntmps135
 go_wp2_with fail
 go_ret
 exact⟨rfl,rfl⟩
theorem zly {w W:World} {g:Nat} {a:Option Addr} {n c i:Nat} {fin x:Int} (hwg:w.heap.size≤g) (h1:PBox (g+1) none 0 0 0 0 0 W) (hb:Below w.heap.size w W):PBox (g+1) a n c i fin x ((((W.setCell ⟨g+1,0,none⟩ (.slice a n c)).setCell ⟨g+1,1,none⟩ (.int .i64 i)).setCell ⟨g+1,2,none⟩ (.int .i64 fin)).setCell ⟨g+1,3,none⟩ (.int .i64 x))∧Below w.heap.size w ((((W.setCell ⟨g+1,0,none⟩ (.slice a n c)).setCell ⟨g+1,1,none⟩ (.int .i64 i)).setCell ⟨g+1,2,none⟩ (.int .i64 fin)).setCell ⟨g+1,3,none⟩ (.int .i64 x)):=by
 have k0:=heap_setCell_same W (g+1) 0 _ _ (.slice a n c) h1
 have k1:=heap_setCell_same _ (g+1) 1 _ _ (.int .i64 (i:Int)) k0
 have k2:=heap_setCell_same _ (g+1) 2 _ _ (.int .i64 fin) k1
 have k3:=heap_setCell_same _ (g+1) 3 _ _ (.int .i64 x) k2
 exact⟨k3,(((hb.setCell (p:=⟨g+1,0,none⟩) (by show w.heap.size≤g+1;omega) _).setCell (p:=⟨g+1,1,none⟩) (by show w.heap.size≤g+1;omega) _).setCell (p:=⟨g+1,2,none⟩) (by show w.heap.size≤g+1;omega) _).setCell (p:=⟨g+1,3,none⟩) (by show w.heap.size≤g+1;omega) _⟩
theorem zoz {w:World} {a:Option Addr} {n c:Nat} {ws:List Wd} (hw:RWds w [.slice a n c] ws) (hn1:n≤1000) (i:Nat) (fin:Int) (b:Bool):Calls Tryz.prog 138 #[pv a n c i fin 0,.bool b] w fun e w'=>((b=true∧i < n∧e = .returned (pv a n c (i+1) fin 0))∨((b=false∨n≤i)∧e = .returned (pv a n c i fin (zb9 ws fin i))))∧Below w.heap.size w w':=by
 obtain⟨g,hg⟩ : ∃ g,g=w.heap.size:=⟨_,rfl⟩
 obtain⟨W1,hW1⟩ : ∃ W,W=(w.alloc (.cells #[.slice a n c,.int .i64 i,.int .i64 fin,.int .i64 0] 113)).alloc (.cells #[.slice none 0 0,.int .i64 0,.int .i64 0,.int .i64 0] 113):=⟨_,rfl⟩
 have hb1:Below w.heap.size w W1:=by rw[hW1];exact (za2 _ _).alloc (by simp) _
 have p0:PBox g a n c i fin 0 W1:=by rw[hW1,hg];exact za0 (za2 _ _) (za6 rfl)
 have p1:PBox (g+1) none 0 0 0 0 0 W1:=by rw[hW1,hg];exact za6 (by simp)
 have hwg:w.heap.size≤g:=Nat.le_of_eq hg.symm
 obtain⟨⟨c0,c1,c2,c3⟩,_⟩:=zag p0
 have hM:=zke W1 a n c i fin 0
 have hF:=fun (W:World) (k:Below W1.heap.size W1 W)=>pFail_any (za5 zbt _ _ _ _ hw (hb1.trans (k.mono hb1.size))) i fin
 obtain⟨col,hcl⟩ : ∃ z,z=zb9 ws fin i:=⟨_,rfl⟩
 rw[← hcl] at hF ⊢
 cases b with
 | false =>
  obtain⟨HM,HF,Hw,Hb1,Hp0,Hp1,Hcl⟩:=hd7 hM hF hw hb1 p0 p1 hcl;clear hM hF hw hb1 p0 p1 hcl
  go_enter Tryz.func138,Tryz.ntmps138
  go_upto_region 1 with (fail)
  rw[← hW1,← hg]
  clear hW1 hg
  go_wp2_with fail
  refine (HF.out _ (Below.refl _ _)).mono ?_
  rintro e w2 ⟨rfl,hb2⟩
  have x1:=za0 hb2 Hp1.out
  obtain⟨_,f0,f1,f2,f3⟩:=zag x1
  have hb4:=Hb1.out.trans (hb2.mono Hb1.out.size)
  obtain⟨Hb2,Hb4,Hx1⟩:=hd3 hb2 hb4 x1;clear hb2 hb4 x1
  go_wp2_with fail
  have hf:=zly (a:=a) (n:=n) (c:=c) (i:=i) (fin:=fin) (x:=col) hwg Hx1.out Hb4.out
  exact bodyPost_ret (results_cell_row rfl _ _ _ _ _ _ _ rfl hf.1 Tryz.underlying113 rfl (by kernel_rfl)) rfl ⟨.inr ⟨.inl (by first | rfl | trivial),rfl⟩,hf.2⟩
 | true =>
  by_cases hi:i < n
  ·rw[decide_eq_true hi] at hM
   obtain⟨HM,HF,Hw,Hb1,Hp0,Hp1,Hcl⟩:=hd7 hM hF hw hb1 p0 p1 hcl;clear hM hF hw hb1 p0 p1 hcl
   go_enter Tryz.func138,Tryz.ntmps138
   go_upto_region 1 with (fail)
   rw[← hW1,← hg]
   clear hW1 hg
   go_wp2_with fail
   refine HM.out.mono ?_
   rintro e w2 ⟨rfl,hb2⟩
   have x0:=za0 hb2 Hp0.out
   have x1:=za0 hb2 Hp1.out
   obtain⟨⟨r0,r1,r2,r3⟩,_,q1,_,_⟩:=zag x0
   obtain⟨_,f0,f1,f2,f3⟩:=zag x1
   have hb4:=Hb1.out.trans (hb2.mono Hb1.out.size)
   obtain⟨Hb2,Hb4,Hx0,Hx1⟩:=hd4 hb2 hb4 x0 x1;clear hb2 hb4 x0 x1
   go_wp2_with fail
   have hf:=zly (a:=a) (n:=n) (c:=c) (i:=i+1) (fin:=fin) (x:=0) hwg (za3 (b:=g) (i:=1) (u:=.int .i64 ((i:Int)+1)) Hx1.out (by omega)) (Hb4.out.setCell (p:=⟨g,1,none⟩) hwg _)
   exact bodyPost_ret (results_cell_row rfl _ _ _ _ _ _ _ rfl hf.1 Tryz.underlying113 rfl (by kernel_rfl)) rfl ⟨.inl ⟨by first | rfl | trivial,hi,rfl⟩,hf.2⟩
  rw[decide_eq_false hi] at hM
  obtain⟨HM,HF,Hw,Hb1,Hp0,Hp1,Hcl⟩:=hd7 hM hF hw hb1 p0 p1 hcl;clear hM hF hw hb1 p0 p1 hcl
  go_enter Tryz.func138,Tryz.ntmps138
  go_upto_region 1 with (fail)
  rw[← hW1,← hg]
  clear hW1 hg
  go_wp2_with fail
  refine HM.out.mono ?_
  rintro e w2 ⟨rfl,hb2⟩
  obtain⟨⟨r0,r1,r2,r3⟩,_⟩:=zag (za0 hb2 Hp0.out)
  have Hb2:=hd hb2;clear hb2
  go_wp2_with fail
  refine (HF.out _ Hb2.out).mono ?_
  rintro e w3 ⟨rfl,hb3⟩
  have hb13:=Hb2.out.trans (hb3.mono Hb2.out.size)
  have x1:=za0 hb13 Hp1.out
  obtain⟨_,f0,f1,f2,f3⟩:=zag x1
  have hb4:=Hb1.out.trans (hb13.mono Hb1.out.size)
  obtain⟨Hb3,Hb13,Hb4,Hx1⟩:=hd4 hb3 hb13 hb4 x1;clear hb3 hb13 hb4 x1
  go_wp2_with fail
  have hf:=zly (a:=a) (n:=n) (c:=c) (i:=i) (fin:=fin) (x:=col) hwg Hx1.out Hb4.out
  exact bodyPost_ret (results_cell_row rfl _ _ _ _ _ _ _ rfl hf.1 Tryz.underlying113 rfl (by kernel_rfl)) rfl ⟨.inr ⟨.inr (by omega),rfl⟩,hf.2⟩
end

section
open Go.Shelf Go.RowKit Go.Lib VerN VarM
open LexM (Wd)
attribute [local go_sem ↓] Go.wp_at_zero Go.wp_at_succ
def Sets06 (a:Option Addr) (n c:Nat) (fin:Int) (ws:List Wd) (i:Nat) (w:World) (e:Ending) (w':World):Prop :=
 ∃ b m d i' bad,e = .returned (.tuple #[.slice b m d,pv a n c i' fin bad])∧((∃ l,zbf ws i []=(some l,i')∧bad=0∧zbv w' (.slice b m d) l)∨(∃ j,zbf ws i []=(none,j)∧bad=zb9 ws fin j))∧Below w.heap.size w w'
structure St6 (w:World) (g:Nat) (a:Option Addr) (n c:Nat) (fin:Int) (ws:List Wd) (i k:Nat) (out:List Setg) (bad:Int) (v:Value) (W:World):Prop where
 box:PBox g a n c (i+k) fin bad W
 box1:PBox (g+1) none 0 0 0 0 0 W
 row:W.ownsRow (g+2) 109 2 v out.length (out.flatMap setCells)
 bel:Below w.heap.size w W
 sz:∀ x∈out,x.1.size≤70000∧x.2.size≤70000
 st:(bad=0∧out.length=k∧zbf ws i []=zbf ws (i+k) out)∨(bad≠0∧∃ j,zbf ws i []=(none,j)∧bad=zb9 ws fin j)
def mOf (g n:Nat) (W:World):Nat:=(match W.cell? ⟨g,1,none⟩ with | some u=>n - (RowKit.intOf u).toNat | none=>0) * 2+(match W.cell? ⟨g,3,none⟩ with | some u=>if RowKit.intOf u=0 then 1 else 0 | none=>0)
theorem zki {g n i:Nat} {a:Option Addr} {m c:Nat} {fin bad:Int} {W:World} (h:PBox g a m c i fin bad W):mOf g n W=(n - i) * 2+if bad=0 then 1 else 0:=by
 obtain⟨⟨_,c1,_,c3⟩,_⟩:=zag h
 unfold mOf
 rw[c1,c3]
 by_cases hb:bad=0 <;> simp[RowKit.intOf,hb]
theorem zic {P:Program} {fn:Func} {p u:Tmp} {ty t:TypeId} (h:fn.results=#[.tmp u,.cell p ty]) {tmps:Array Value} {w:World} {g:Nat} {cs:Array Value} {d:TypeDesc} {x:Value}
  (hx:tmps.getD u undef=x) (hp:tmps.getD p undef = .pointer (some ⟨g,0,none⟩)) (hg:w.heap[g]? = some (.cells cs t (0,0)))
  (hu:P.underlying ty=some d) (hd:(match d with | .struct _ | .array _ _=>true | _=>false)=true) (hi:(P.info? ty).map (·.size)=some cs.size) :
  (results fn tmps).run P w = .ok (.tuple #[x,.agg cs]) w:=by
 have hl:=run_loadVar_row w g t ty cs (0,0) d hg hu hd hi
 have hp':tmps[p]?.getD undef = .pointer (some ⟨g,0,none⟩):=by simpa using hp
 have hx':tmps[u]?.getD undef=x:=by simpa using hx
 simp only[results,h]
 simp[Sem.run_bind,Result.andThen,asAddr,hp',hx',hl]
theorem St6.to {w W W':World} {g:Nat} {a:Option Addr} {n c:Nat} {fin:Int} {ws:List Wd} {i k:Nat} {out:List Setg} {bad:Int} {v:Value} (h:St6 w g a n c fin ws i k out bad v W) (hb:Below W.heap.size W W'):St6 w g a n c fin ws i k out bad v W' :=
 ⟨za0 hb h.box,za0 hb h.box1,zae h.row hb,h.bel.trans (hb.mono h.bel.size),h.sz,h.st⟩
theorem St6.reads {w W:World} {g:Nat} {a:Option Addr} {n c:Nat} {fin:Int} {ws:List Wd} {i k:Nat} {out:List Setg} {bad:Int} {v:Value} (h:St6 w g a n c fin ws i k out bad v W):zbv W v out :=
 ⟨zgi (B:=g+2) (fun x hx=>by have:=h.sz x hx;unfold maxLen;omega) h.row,fun _=>zhf h.row⟩
theorem St6.push {w W w8:World} {g:Nat} {a:Option Addr} {n c:Nat} {fin:Int} {ws:List Wd} {i k:Nat} {out:List Setg} {bad:Int} {v v8:Value} (h:St6 w g a n c fin ws i k out bad v W) (hwg:w.heap.size≤g) {x:Setg} (hx:x.1.size≤70000∧x.2.size≤70000) (hg:W.grownBy w8 v.ownBlock)
  (ho:w8.ownsRow (g+2) 109 2 v8 (out.length+1) (out.flatMap setCells ++ [.string x.1,.string x.2])) :
  PBox g a n c (i+k) fin bad w8∧PBox (g+1) none 0 0 0 0 0 w8∧Below w.heap.size w w8∧zbv w8 v8 (out ++ [x])∧(∀ y∈out ++ [x],y.1.size≤70000∧y.2.size≤70000)∧w8.ownsRow (g+2) 109 2 v8 (out ++ [x]).length ((out ++ [x]).flatMap setCells):=by
 have f1:Frm (fun k=>v.ownBlock=some k) W w8:=zer hg
 have hsz:∀ y∈out ++ [x],y.1.size≤70000∧y.2.size≤70000:=fun y hy=>by
  rcases List.mem_append.1 hy with hy | hy
  ·exact h.sz y hy
  rw[List.mem_singleton] at hy;rw[hy];exact hx
 have ho2:w8.ownsRow (g+2) 109 2 v8 (out ++ [x]).length ((out ++ [x]).flatMap setCells):=by
  rw[List.length_append,zk0]
  exact ho
 exact⟨zbp h.box f1 (zai h.row h.box (by decide)),zbp h.box1 f1 (zai h.row h.box1 (by decide)),h.bel.trans (f1.below h.bel.size (fun k hk=>by have:=(h.row.lt k hk).1;omega)),
  ⟨zgi (B:=g+2) (fun y hy=>by have:=hsz y hy;unfold maxLen;omega) ho2,fun _=>zhf ho2⟩,hsz,ho2⟩
theorem pset {W:World} {g:Nat} {a a':Option Addr} {n n' c c' i i':Nat} {fin fin' x x':Int} (h:PBox g a n c i fin x W):PBox g a' n' c' i' fin' x' ((((W.setCell ⟨g,0,none⟩ (.slice a' n' c')).setCell ⟨g,1,none⟩ (.int .i64 i')).setCell ⟨g,2,none⟩ (.int .i64 fin')).setCell ⟨g,3,none⟩ (.int .i64 x')):=by
 have k0:=heap_setCell_same W g 0 _ _ (.slice a' n' c') h
 have k1:=heap_setCell_same _ g 1 _ _ (.int .i64 (i':Int)) k0
 have k2:=heap_setCell_same _ g 2 _ _ (.int .i64 fin') k1
 have k3:=heap_setCell_same _ g 3 _ _ (.int .i64 x') k2
 exact k3
theorem St6.back {w W:World} {g:Nat} {a:Option Addr} {n c m:Nat} {fin:Int} {ws:List Wd} {i k:Nat} {out:List Setg} {bad:Int} {v:Value} (hwg:w.heap.size≤g) (h0:PBox g a n c m fin 0 W) (h1:PBox (g+1) none 0 0 0 0 0 W) (hb:Below w.heap.size w W) (hsz:∀ y∈out,y.1.size≤70000∧y.2.size≤70000) (ho:W.ownsRow (g+2) 109 2 v out.length (out.flatMap setCells))
  (hst:(bad=0∧out.length=k∧zbf ws i []=zbf ws (i+k) out)∨(bad≠0∧∃ j,zbf ws i []=(none,j)∧bad=zb9 ws fin j)) {p:Nat} (hp:p=i+k) :
  St6 w g a n c fin ws i k out bad v ((((W.setCell ⟨g,0,none⟩ (.slice a n c)).setCell ⟨g,1,none⟩ (.int .i64 p)).setCell ⟨g,2,none⟩ (.int .i64 fin)).setCell ⟨g,3,none⟩ (.int .i64 bad)):=by
 subst hp
 have hg2:g < g+2:=by omega
 exact⟨pset h0,za3 (za3 (za3 (za3 h1 (by omega)) (by omega)) (by omega)) (by omega),zd8 (zd8 (zd8 (zd8 ho hg2 0 _) hg2 1 _) hg2 2 _) hg2 3 _,
  (((hb.setCell (p:=⟨g,0,none⟩) hwg _).setCell (p:=⟨g,1,none⟩) hwg _).setCell (p:=⟨g,2,none⟩) hwg _).setCell (p:=⟨g,3,none⟩) hwg _,hsz,hst⟩
theorem lit_sets {w:World} {B:Nat} (h:B≤w.heap.size):(w.alloc (.cells #[] 109)).ownsRow B 109 2 (.slice (some ⟨w.heap.size,0,none⟩) 0 0) 0 []:=World.ownsRow_lit (base:=B) (e:=109) (size:=2) w #[] 0 h (by decide) rfl
theorem zl9 {w:World} {a:Option Addr} {n c:Nat} {ws:List Wd} (hw:RWds w [.slice a n c] ws) (hn1:n≤1000) (hz:∀ x∈ws,x.2.length≤70000) {fin:Int} (hcol:∀ j,zb9 ws fin j≠0) (i:Nat):Calls Tryz.prog 140 #[pv a n c i fin 0] w (Sets06 a n c fin ws i w):=by
 have hn:=(zfp hw).1
 obtain⟨g,hg⟩ : ∃ g,g=w.heap.size:=⟨_,rfl⟩
 obtain⟨W0,hW0⟩ : ∃ W,W=(w.alloc (.cells #[.slice a n c,.int .i64 i,.int .i64 fin,.int .i64 0] 113)).alloc (.cells #[.slice none 0 0,.int .i64 0,.int .i64 0,.int .i64 0] 113):=⟨_,rfl⟩
 have hb0:Below w.heap.size w W0:=by rw[hW0];exact (za2 _ _).alloc (by simp) _
 have hs0:W0.heap.size=g+2:=by rw[hW0,hg];simp
 have hI0:St6 w g a n c fin ws i 0 [] 0 (.slice (some ⟨g+2,0,none⟩) 0 0) (W0.alloc (.cells #[] 109)):=by
  refine⟨za0 (za2 _ _) ?_,za0 (za2 _ _) ?_,?_,hb0.alloc hb0.size _,(fun x hx=>by simp at hx),.inl ⟨rfl,rfl,rfl⟩⟩
  ·rw[hW0,hg];exact za0 (za2 _ _) (za6 rfl)
  ·rw[hW0,hg];exact za6 (by simp)
  have:=lit_sets (B:=g+2) (Nat.le_of_eq hs0.symm)
  rw[hs0] at this
  exact this
 have hwg:w.heap.size≤g:=Nat.le_of_eq hg.symm
 have hpk:∀ i,(zbe ws i).size≤70000:=fun i=>by
  by_cases h:i < ws.length
  ·rw[zei h]
   show (ws[i].2.toArray).size≤_
   rw[List.size_toArray]
   exact hz _ (List.getElem_mem h)
  rw[zd4 (by omega)]
  decide
 obtain⟨Hw,Hz,Hcol,Hn,Hb0,HI0,Hpk⟩:=hd7 hw hz hcol hn hb0 hI0 hpk;clear hw hz hcol hn hb0 hI0 hpk
 go_enter Tryz.func140,Tryz.ntmps140
 go_upto_region 1 with (fail)
 rw[← hW0,← hg]
 clear hW0 hg
 go_wp2_with fail
 go_loopw [4] (fun v wr=>∃ (k:Nat) (out:List Setg) (bad:Int),St6 w g a n c fin ws i k out bad v wr) (fun _ wr=>mOf g n wr)
 case atStart=>first | exact⟨0,[],0,HI0.out⟩ | (rw[hs0];exact⟨0,[],0,HI0.out⟩)
 case round =>
  obtain⟨wo,hwo⟩ : ∃ W,W=wr:=⟨_,rfl⟩
  rw[← hwo] at hrel ⊢
  clear hwo wr
  obtain⟨k,out,bad,hI⟩:=hrel
  obtain⟨ao,co,rfl⟩:=zah hI.row
  obtain⟨ol,hol⟩ : ∃ z,z=out.length:=⟨_,rfl⟩
  have hme:=zki (n:=n) hI.box
  obtain⟨⟨c0,c1,c2,c3⟩,fz0,fz1,fz2,fz3⟩:=zag hI.box
  obtain⟨_,f0,f1,f2,f3⟩:=zag hI.box1
  obtain⟨m,hm⟩ : ∃ m,m=i+k:=⟨_,rfl⟩
  rw[← hm] at c1
  by_cases hbad:bad=0
  ·subst hbad
   obtain⟨hlk,hsame⟩ : out.length=k∧zbf ws i []=zbf ws (i+k) out:=by
    rcases hI.st with⟨_,h1,h2⟩ | ⟨h,_⟩
    ·exact⟨h1,h2⟩
    exact absurd rfl h
   rw[← hol] at hlk
   obtain⟨s,hs⟩ : ∃ s,s=zbe ws m:=⟨_,rfl⟩
   have hW:=zoy (za5 zbt _ _ _ _ Hw.out hI.bel) m fin 0
   rw[← hs] at hW
   have hsz:s.size≤70000:=by rw[hs];exact Hpk.out _
   obtain⟨ix,hix⟩ : ∃ z,z=indexByte s.data.toList 61:=⟨_,rfl⟩
   have hA:=fun (W:World)=>ztp s hsz 61 W
   rw[← hix,show ((61:UInt8).toNat:Int)=61 from rfl] at hA
   rw[← hol]
   clear fz0 fz1 fz2 fz3
   have hI':=hI
   rw[← hol] at hI'
   obtain⟨HI,HI',Hme,Hol,Hm,Hlk,Hsame,Hs,HW,HA⟩:=hd10 hI hI' hme hol hm hlk hsame hs hW hA;clear hI hI' hme hol hm hlk hsame hs hW hA
   go_wp2_with fail
   refine HW.out.mono ?_
   rintro e w2 ⟨rfl,hb2⟩
   have hI2:=HI'.out.to hb2
   obtain⟨⟨d0,d1,d2,d3⟩,gz0,gz1,gz2,gz3⟩:=zag hI2.box
   obtain⟨_,f0,f1,f2,f3⟩:=zag hI2.box1
   rw[← Hm.out] at d1
   obtain⟨HI2,Hb2⟩:=hd2 hI2 hb2;clear hI2 hb2
   go_wp2_with fail
   refine (HA.out _).mono ?_
   rintro e w3 ⟨rfl,hw3⟩
   subst hw3
   rcases zhx s.data.toList 61 with hneg | ⟨kk,hkk⟩
   ·obtain rfl:ix = -1:=by rw[hix,hneg]
    obtain⟨hno,_,_⟩:=cutB_no hneg
    obtain⟨Hno,Hneg,Hix⟩:=hd3 hno hneg hix;clear hno hneg hix
    go_wp2_with fail
    go_region
    go_wp2_with fail
    have hp:=zly (a:=a) (n:=n) (c:=c) (i:=m) (fin:=fin) (x:=0) hwg HI2.out.box1 HI2.out.bel
    have hT:Frm (fun z=>z=g+1) w3 ((((w3.setCell ⟨g+1,0,none⟩ (.slice a n c)).setCell ⟨g+1,1,none⟩ (.int .i64 (m:Int))).setCell ⟨g+1,2,none⟩ (.int .i64 fin)).setCell ⟨g+1,3,none⟩ (.int .i64 0)).drew:=(zaa (zaa (zaa (zaa (Frm.refl _ _) 0 _) 1 _) 2 _) 3 _).drew
    have hno2:No2 w3 (fun z=>z=g+1):=by
     rintro z rfl
     exact zay HI2.out.box1 (by decide) (by decide)
    refine bodyPost_ret (zic rfl rfl rfl hp.1 Tryz.underlying113 rfl (by kernel_rfl)) rfl ?_
    refine⟨_,_,_,m,0,rfl,.inl ⟨out,?_,rfl,zax HI2.out.reads hT hno2⟩,Below.drew hp.2⟩
    rw[Hsame.out,← Hm.out]
    exact zls (by rw[← Hs.out];exact Hno.out)
   obtain rfl:ix=kk:=by rw[hix,hkk]
   obtain⟨hyes,hcut,hks⟩:=ztg hkk
   obtain⟨nm,hnm⟩ : ∃ z,z=s.extract 0 kk:=⟨_,rfl⟩
   obtain⟨vl,hvl⟩ : ∃ z,z=s.extract (kk+1) s.size:=⟨_,rfl⟩
   have hsg:zey s=(nm,vl):=by unfold zey;rw[hcut,hnm,hvl]
   have hsgz:nm.size≤70000∧vl.size≤70000:=by
    have:=zi0 61 s
    rw[hcut,← hnm,← hvl] at this
    have e1:nm.size≤s.size∧vl.size≤s.size:=this
    omega
   have k5:(0:Int)≤(kk:Int):=by omega
   have k6:(kk:Int)≤(s.size:Int):=by omega
   have k7:(kk:Int)+1≤(s.size:Int):=by omega
   have kn:decide ((kk:Int) < 0)=false:=decide_eq_false (by omega)
   obtain⟨k2,hk2⟩ : ∃ z,z=kk+1:=⟨_,rfl⟩
   have k11:IntKind.i64.wrap ((kk:Int)+1)=(k2:Int):=by rw[hk2];exact IntWalk.i64_in _ (by omega)
   have k12:(0:Int)≤(k2:Int):=by omega
   have k13:(k2:Int)≤(s.size:Int):=by omega
   have hlt:m < n:=by rw[Hn.out];exact zpd (by rw[← Hs.out];exact hyes)
   have hrow3:=HI2.out.row
   have hol1:ol≤1000:=by have:=Hlk.out;have:=Hm.out;omega
   rw[← Hol.out] at hrow3
   have hbz:g+2≤w3.heap.size:=by have:=(Array.getElem?_eq_some_iff.1 HI2.out.box1).1;omega
   obtain⟨N,hN⟩ : ∃ N,N=out.flatMap setCells:=⟨_,rfl⟩
   rw[← hN] at hrow3
   have hwd:(w3.drew).ownsRow (g+2) 109 2 (.slice ao ol co) ol N:=hrow3
   have hBd:g+2≤w3.drew.heap.size:=hbz
   rw[← hk2] at hvl
   obtain⟨Hyes,Hcut,Hkk,Hix,Hnm,Hvl,Hsg,Hsgz,Hrow3,HN,Hwd,Hk2⟩:=hd12 hyes hcut hkk hix hnm hvl hsg hsgz hrow3 hN hwd hk2;clear hyes hcut hkk hix hnm hvl hsg hsgz hrow3 hN hwd hk2
   go_wp2_with fail
   go_region_law (refine zci ztc (w:=w3.drew) rfl (.tmp 19) (.tmp 28) rfl (g+2) (.slice ao ol co) ol N rfl Hwd.out 1 (by decide) #[.string (s.extract 0 kk),.string (s.extract k2 s.size)] rfl rfl (by simp[Value.oneCell']) (by omega) (by unfold maxLen;omega) hBd ?_;intro g8 c8 w8 hown8 hg8 hm8)
   have hpu:=HI2.out.push hwg (x:=(nm,vl)) Hsgz.out (zie hg8) (by rw[← Hol.out,← HN.out,Hnm.out,Hvl.out];exact hown8)
   obtain⟨u0,u1,u2',u3,u4',u5'⟩:=hpu
   rw[← Hm.out] at u0
   obtain⟨⟨c0',c1',c2',c3'⟩,_⟩:=zag u0
   have hbd:Below w8.heap.size w8 w8.drew:=Below.drew (Below.refl _ _)
   have hWi:=fun (W:World) (k:Below w8.heap.size w8 W)=>ztw (zb0 u3 k).1
   obtain⟨b,hb⟩ : ∃ b,b=zdn (out ++ [(nm,vl)]):=⟨_,rfl⟩
   rw[← hb] at hWi
   have hNx:=fun (W:World) (k:Below w8.heap.size w8 W)=>zoz (za5 zbt _ _ _ _ Hw.out (u2'.trans (k.mono u2'.size))) hn1 m fin b
   obtain⟨colm,hcm⟩ : ∃ z,z=zb9 ws fin m:=⟨_,rfl⟩
   rw[← hcm] at hNx
   have hSS:∀ W,Below w8.heap.size w8 W→W.cell? ⟨g,0,none⟩=some (.slice a n c)∧W.cell? ⟨g,1,none⟩=some (.int .i64 m)∧W.cell? ⟨g,2,none⟩=some (.int .i64 fin)∧W.cell? ⟨g,3,none⟩=some (.int .i64 0):=fun W k=>(zag (za0 k u0)).1
   clear hown8 hg8 hm8 c0' c1' c2' c3'
   obtain⟨Hu0,Hu1,Hu2',Hu3,Hu4',Hu5',HWi,Hb,HNx,HSS,Hcm⟩:=hd11 u0 u1 u2' u3 u4' u5' hWi hb hNx hSS hcm;clear u0 u1 u2' u3 u4' u5' hWi hb hNx hSS hcm
   go_upto_region 8 with (fail)
   refine wp_region_held_drew (S:=fun _=>True) (by kernel_rfl) trivial (fun hHeld=>?_)
   refine wpAnyH_take (i:=1) (v:=?_) rfl (by kernel_rfl) (by kernel_rfl) (by kernel_rfl) (fun _ _ _ h=>h) (Or.inl ⟨by kernel_rfl,?_⟩) (by assumption) ?_
   rotate_left
   ·(intro w hSw;go_simp;try with_reducible rfl)
   try simp only[Act.put,lA,lB,lC]
   refine wpAnyH_ready (rs:=[0,2]) (by kernel_rfl) (by simp) ?_
   refine AllReadyH.cons rfl (fun K hK=>?_) (AllReadyH.cons rfl (fun K hK=>?_) AllReadyH.nil)
   ·obtain⟨c0',c1',c2',c3'⟩:=HSS.out _ hbd
    go_simp
    refine hK.out _ _ trivial (fun hHeld=>?_)
    clear hK K c0' c1' c2' c3'
    try simp only[Act.put,lA,lB,lC]
    refine wpAnyH_ready (rs:=[2]) (by kernel_rfl) (by simp) ?_
    refine AllReadyH.cons rfl (fun K hK=>?_) AllReadyH.nil
    go_simp
    refine (HWi.out _ hbd).mono ?_
    rintro e wy ⟨rfl,q,rfl⟩
    have hby:=zaj hbd q
    generalize w8.drew.drewN q=wy at hby ⊢
    have Hby:=hd hby;clear hby
    go_wp2_with fail
    refine hK.out _ _ trivial (fun hHeld=>?_)
    clear hK K
    try simp only[Act.put,lA,lB,lC]
    refine wpAnyH_ready (rs:=[3]) (by kernel_rfl) (by simp) ?_
    refine AllReadyH.cons rfl (fun K hK=>?_) AllReadyH.nil
    go_simp
    refine (HNx.out _ Hby.out).mono ?_
    rintro e wz ⟨⟨hbt,_,rfl⟩ | ⟨hbf,rfl⟩,hbz⟩
    ·have hb8z:=Hby.out.trans (hbz.mono Hby.out.size)
     have z0:=za0 hb8z Hu0.out
     have z1:=za0 hb8z Hu1.out
     obtain⟨_,fy0,fy1,fy2,fy3⟩:=zag z0
     have hback:=St6.back (k:=k+1) (p:=m+1) (bad:=0) (i:=i) hwg z0 z1 (Hu2'.out.trans (hb8z.mono Hu2'.out.size)) Hu4'.out (zae Hu5'.out hb8z) (.inl ⟨rfl,by rw[List.length_append,← Hol.out,Hlk.out];rfl,by rw[Hsame.out,zk1 (by rw[← Hm.out,← Hs.out];exact Hyes.out) (by rw[← Hm.out,← Hs.out,Hsg.out,← Hb.out];exact hbt),← Hm.out,← Hs.out,Hsg.out,Hm.out];rfl⟩) (by rw[Hm.out];rfl)
     obtain⟨Hbz,Hb8z,Hz0,Hz1,Hback,Hbt⟩:=hd6 hbz hb8z z0 z1 hback hbt;clear hbz hb8z z0 z1 hback hbt
     go_wp2_with fail
     refine hK.out _ _ trivial (fun hHeld=>?_)
     clear hK K
     try simp only[Act.put,lA,lB,lC]
     refine wpAnyH_ready (rs:=[4]) (by kernel_rfl) (by simp) ?_
     refine AllReadyH.cons rfl (fun K hK=>?_) AllReadyH.nil
     go_simp
     refine hK.out _ _ trivial (fun hHeld=>?_)
     clear hK K
     try simp only[Act.put,lA,lB,lC]
     refine wpAnyH_done (by kernel_rfl) ?_ _
     go_simp
     go_wp2_with fail
     go_roundw
     case rel=>exact⟨k+1,_,_,Hback.out⟩
     case measure =>
      refine Nat.lt_of_le_of_lt (Nat.le_of_eq (zki (n:=n) Hback.out.box)) ?_
      rw[Hme.out]
      simp
      have:=Hm.out
      omega
    have hb8z:=Hby.out.trans (hbz.mono Hby.out.size)
    have z0:=za0 hb8z Hu0.out
    have z1:=za0 hb8z Hu1.out
    obtain⟨_,fy0,fy1,fy2,fy3⟩:=zag z0
    have hbf':b=false:=by rcases hbf with h | h;exact h;omega
    have hcn:colm≠0:=by rw[Hcm.out];exact Hcol.out m
    have hback:=St6.back (k:=k) (p:=m) (bad:=colm) (i:=i) hwg z0 z1 (Hu2'.out.trans (hb8z.mono Hu2'.out.size)) Hu4'.out (zae Hu5'.out hb8z) (.inr ⟨hcn,m,by rw[Hsame.out,← Hm.out];exact zk2 (by rw[← Hs.out];exact Hyes.out) (by rw[← Hs.out,Hsg.out,← Hb.out];exact hbf'),Hcm.out⟩) Hm.out
    obtain⟨Hbz,Hb8z,Hz0,Hz1,Hback,Hbf,Hbf',Hcn⟩:=hd8 hbz hb8z z0 z1 hback hbf hbf' hcn;clear hbz hb8z z0 z1 hback hbf hbf' hcn
    go_wp2_with fail
    refine hK.out _ _ trivial (fun hHeld=>?_)
    clear hK K
    try simp only[Act.put,lA,lB,lC]
    refine wpAnyH_ready (rs:=[4]) (by kernel_rfl) (by simp) ?_
    refine AllReadyH.cons rfl (fun K hK=>?_) AllReadyH.nil
    go_simp
    refine hK.out _ _ trivial (fun hHeld=>?_)
    clear hK K
    try simp only[Act.put,lA,lB,lC]
    refine wpAnyH_done (by kernel_rfl) ?_ _
    go_simp
    go_wp2_with fail
    go_roundw
    case rel=>exact⟨k,_,_,Hback.out⟩
    case measure =>
     rw[zki (n:=n) Hback.out.box,Hme.out,if_neg Hcn.out]
     simp
   go_simp
   refine (HWi.out _ hbd).mono ?_
   rintro e wy ⟨rfl,q,rfl⟩
   have hby:=zaj hbd q
   generalize w8.drew.drewN q=wy at hby ⊢
   have Hby:=hd hby;clear hby
   go_wp2_with fail
   refine hK.out _ _ trivial (fun hHeld=>?_)
   clear hK K
   try simp only[Act.put,lA,lB,lC]
   obtain⟨c0',c1',c2',c3'⟩:=HSS.out _ Hby.out
   refine wpAnyH_ready (rs:=[0]) (by kernel_rfl) (by simp) ?_
   refine AllReadyH.cons rfl (fun K hK=>?_) AllReadyH.nil
   go_simp
   refine hK.out _ _ trivial (fun hHeld=>?_)
   clear hK K c0' c1' c2' c3'
   try simp only[Act.put,lA,lB,lC]
   refine wpAnyH_ready (rs:=[3]) (by kernel_rfl) (by simp) ?_
   refine AllReadyH.cons rfl (fun K hK=>?_) AllReadyH.nil
   go_simp
   refine (HNx.out _ Hby.out).mono ?_
   rintro e wz ⟨⟨hbt,_,rfl⟩ | ⟨hbf,rfl⟩,hbz⟩
   ·have hb8z:=Hby.out.trans (hbz.mono Hby.out.size)
    have z0:=za0 hb8z Hu0.out
    have z1:=za0 hb8z Hu1.out
    obtain⟨_,fy0,fy1,fy2,fy3⟩:=zag z0
    have hback:=St6.back (k:=k+1) (p:=m+1) (bad:=0) (i:=i) hwg z0 z1 (Hu2'.out.trans (hb8z.mono Hu2'.out.size)) Hu4'.out (zae Hu5'.out hb8z) (.inl ⟨rfl,by rw[List.length_append,← Hol.out,Hlk.out];rfl,by rw[Hsame.out,zk1 (by rw[← Hm.out,← Hs.out];exact Hyes.out) (by rw[← Hm.out,← Hs.out,Hsg.out,← Hb.out];exact hbt),← Hm.out,← Hs.out,Hsg.out,Hm.out];rfl⟩) (by rw[Hm.out];rfl)
    obtain⟨Hbz,Hb8z,Hz0,Hz1,Hback,Hbt⟩:=hd6 hbz hb8z z0 z1 hback hbt;clear hbz hb8z z0 z1 hback hbt
    go_wp2_with fail
    refine hK.out _ _ trivial (fun hHeld=>?_)
    clear hK K
    try simp only[Act.put,lA,lB,lC]
    refine wpAnyH_ready (rs:=[4]) (by kernel_rfl) (by simp) ?_
    refine AllReadyH.cons rfl (fun K hK=>?_) AllReadyH.nil
    go_simp
    refine hK.out _ _ trivial (fun hHeld=>?_)
    clear hK K
    try simp only[Act.put,lA,lB,lC]
    refine wpAnyH_done (by kernel_rfl) ?_ _
    go_simp
    go_wp2_with fail
    go_roundw
    case rel=>exact⟨k+1,_,_,Hback.out⟩
    case measure =>
     refine Nat.lt_of_le_of_lt (Nat.le_of_eq (zki (n:=n) Hback.out.box)) ?_
     rw[Hme.out]
     simp
     have:=Hm.out
     omega
   have hb8z:=Hby.out.trans (hbz.mono Hby.out.size)
   have z0:=za0 hb8z Hu0.out
   have z1:=za0 hb8z Hu1.out
   obtain⟨_,fy0,fy1,fy2,fy3⟩:=zag z0
   have hbf':b=false:=by rcases hbf with h | h;exact h;omega
   have hcn:colm≠0:=by rw[Hcm.out];exact Hcol.out m
   have hback:=St6.back (k:=k) (p:=m) (bad:=colm) (i:=i) hwg z0 z1 (Hu2'.out.trans (hb8z.mono Hu2'.out.size)) Hu4'.out (zae Hu5'.out hb8z) (.inr ⟨hcn,m,by rw[Hsame.out,← Hm.out];exact zk2 (by rw[← Hs.out];exact Hyes.out) (by rw[← Hs.out,Hsg.out,← Hb.out];exact hbf'),Hcm.out⟩) Hm.out
   obtain⟨Hbz,Hb8z,Hz0,Hz1,Hback,Hbf,Hbf',Hcn⟩:=hd8 hbz hb8z z0 z1 hback hbf hbf' hcn;clear hbz hb8z z0 z1 hback hbf hbf' hcn
   go_wp2_with fail
   refine hK.out _ _ trivial (fun hHeld=>?_)
   clear hK K
   try simp only[Act.put,lA,lB,lC]
   refine wpAnyH_ready (rs:=[4]) (by kernel_rfl) (by simp) ?_
   refine AllReadyH.cons rfl (fun K hK=>?_) AllReadyH.nil
   go_simp
   refine hK.out _ _ trivial (fun hHeld=>?_)
   clear hK K
   try simp only[Act.put,lA,lB,lC]
   refine wpAnyH_done (by kernel_rfl) ?_ _
   go_simp
   go_wp2_with fail
   go_roundw
   case rel=>exact⟨k,_,_,Hback.out⟩
   case measure =>
    rw[zki (n:=n) Hback.out.box,Hme.out,if_neg Hcn.out]
    simp
  have kb:(bad == 0)=false:=by simpa using hbad
  rcases hI.st with⟨h,_⟩ | ⟨_,j,hj,hjc⟩
  ·exact absurd h hbad
  rw[← hol]
  obtain⟨HI,Hme,Hol,Hm,Hj,Hjc,Hbad⟩:=hd7 hI hme hol hm hj hjc hbad;clear hI hme hol hm hj hjc hbad
  go_wp2_with fail
  go_region
  go_wp2_with fail
  have hp:=zly (a:=a) (n:=n) (c:=c) (i:=m) (fin:=fin) (x:=bad) hwg HI.out.box1 HI.out.bel
  refine bodyPost_ret (zic rfl rfl rfl hp.1 Tryz.underlying113 rfl (by kernel_rfl)) rfl ?_
  exact⟨_,_,_,m,bad,rfl,.inr ⟨j,Hj.out,Hjc.out⟩,Below.drew hp.2⟩
end

section
open Go.Shelf Go.RowKit Go.Lib VerN VarM
open LexM (Wd)
attribute [local go_sem ↓] Go.wp_at_zero Go.wp_at_succ
theorem zl8 (w:World) (a:Option Addr) (n c i:Nat) (fin bad:Int) (hb:bad≠0):Calls Tryz.prog 140 #[pv a n c i fin bad] w fun e w'=>(∃ b m d,e = .returned (.tuple #[.slice b m d,pv a n c i fin bad]))∧Below w.heap.size w w':=by
 obtain⟨g,hg⟩ : ∃ g,g=w.heap.size:=⟨_,rfl⟩
 obtain⟨W0,hW0⟩ : ∃ W,W=(w.alloc (.cells #[.slice a n c,.int .i64 i,.int .i64 fin,.int .i64 bad] 113)).alloc (.cells #[.slice none 0 0,.int .i64 0,.int .i64 0,.int .i64 0] 113):=⟨_,rfl⟩
 have hb0:Below w.heap.size w W0:=by rw[hW0];exact (za2 _ _).alloc (by simp) _
 have hs0:W0.heap.size=g+2:=by rw[hW0,hg];simp
 have p0:PBox g a n c i fin bad W0:=by rw[hW0,hg];exact za0 (za2 _ _) (za6 rfl)
 have p1:PBox (g+1) none 0 0 0 0 0 W0:=by rw[hW0,hg];exact za6 (by simp)
 have hwg:w.heap.size≤g:=Nat.le_of_eq hg.symm
 obtain⟨W1,hW1⟩ : ∃ W,W=W0.alloc (.cells #[] 109):=⟨_,rfl⟩
 have hb01:Below W0.heap.size W0 W1:=by rw[hW1];exact za2 _ _
 have q0:=za0 hb01 p0
 have q1:=za0 hb01 p1
 have hb1:=hb0.trans (hb01.mono hb0.size)
 have kb:(bad == 0)=false:=by simpa using hb
 obtain⟨⟨c0,c1,c2,c3⟩,_⟩:=zag q0
 obtain⟨_,f0,f1,f2,f3⟩:=zag q1
 obtain⟨Hb,Hb0,Hp0,Hp1,Hb01,Hq0,Hq1,Hb1⟩:=hd8 hb hb0 p0 p1 hb01 q0 q1 hb1;clear hb hb0 p0 p1 hb01 q0 q1 hb1
 go_enter Tryz.func140,Tryz.ntmps140
 go_upto_region 1 with (fail)
 rw[← hW0,← hg]
 clear hW0 hg
 go_wp2_with fail
 go_loopw [4] (fun v wr=>wr=W1∧v = .slice (some ⟨g+2,0,none⟩) 0 0) (fun _ _=>0)
 case atStart=>rw[hW1,← hs0];exact⟨rfl,rfl⟩
 case round =>
  clear hW1
  obtain⟨rfl,rfl⟩:=hrel
  go_wp2_with fail
  go_region
  go_wp2_with fail
  have hp:=zly (a:=a) (n:=n) (c:=c) (i:=i) (fin:=fin) (x:=bad) hwg Hq1.out Hb1.out
  refine bodyPost_ret (zic rfl rfl rfl hp.1 Tryz.underlying113 rfl (by kernel_rfl)) rfl ?_
  exact⟨⟨_,_,_,rfl⟩,Below.drew hp.2⟩
end

section
open Go.Shelf Go.RowKit Go.Lib VerN VarM
open LexM (Wd)
attribute [local go_sem ↓] Go.wp_at_zero Go.wp_at_succ
def Fin06 (a:Option Addr) (n c:Nat) (fin:Int) (ws:List Wd) (i:Nat) (nm:ByteArray) (L:List BSp) (W:World) (e:Ending) (w':World):Prop :=
 ∃ b m d i' bad,e = .returned (.tuple #[.slice b m d,pv a n c i' fin bad])∧((∃ l,zat ws i=(some (nm,L,l),i')∧bad=0∧zbv w' (.slice b m d) l)∨(∃ j,zat ws i=(none,j)∧bad=zb9 ws fin j))∧Below W.heap.size W w'
def Wish06 (a:Option Addr) (n c:Nat) (fin:Int) (ws:List Wd) (i:Nat) (w:World) (e:Ending) (w':World):Prop :=
 ∃ x b1 n1 c1 b2 n2 c2 i' bad,e = .returned (.tuple #[.agg #[.string x,.slice b1 n1 c1,.slice b2 n2 c2],pv a n c i' fin bad])∧((∃ s,zat ws i=(some s,i')∧bad=0∧x=s.1∧zea w' (.slice b1 n1 c1) s.2.1∧zbv w' (.slice b2 n2 c2) s.2.2)∨(∃ j,zat ws i=(none,j)∧bad=zb9 ws fin j))∧Below w.heap.size w w'
theorem zeg {P:Program} {fn:Func} {p q:Tmp} {ty tz t1 t2:TypeId} (h:fn.results=#[.cell p ty,.cell q tz]) {tmps:Array Value} {w:World} {g k:Nat} {cs ds:Array Value} {d1 d2:TypeDesc}
  (hp:tmps.getD p undef = .pointer (some ⟨g,0,none⟩)) (hq:tmps.getD q undef = .pointer (some ⟨k,0,none⟩)) (hg:w.heap[g]? = some (.cells cs t1 (0,0))) (hk:w.heap[k]? = some (.cells ds t2 (0,0)))
  (hu:P.underlying ty=some d1) (hd:(match d1 with | .struct _ | .array _ _=>true | _=>false)=true) (hi:(P.info? ty).map (·.size)=some cs.size)
  (hu2:P.underlying tz=some d2) (hd2:(match d2 with | .struct _ | .array _ _=>true | _=>false)=true) (hi2:(P.info? tz).map (·.size)=some ds.size) :
  (results fn tmps).run P w = .ok (.tuple #[.agg cs,.agg ds]) w:=by
 have hl:=run_loadVar_row w g t1 ty cs (0,0) d1 hg hu hd hi
 have hl2:=run_loadVar_row w k t2 tz ds (0,0) d2 hk hu2 hd2 hi2
 have hp':tmps[p]?.getD undef = .pointer (some ⟨g,0,none⟩):=by simpa using hp
 have hq':tmps[q]?.getD undef = .pointer (some ⟨k,0,none⟩):=by simpa using hq
 simp only[results,h]
 simp[Sem.run_bind,Result.andThen,asAddr,hp',hq',hl,hl2]
theorem zht {ws:List Wd} {i j:Nat} {s:ByteArray} {x:Spc3} (h:zat ws i=(some x,j)) (hs:s=zbe ws i):zdi s=true:=by
 subst hs
 cases hb:zdi (zbe ws i) with
 | true=>rfl
 | false=>rw[zhe hb] at h;cases h
theorem zm1:zdi ⟨#[]⟩=false:=by
 have h:zbl (cutB 64 ⟨#[]⟩).1.data.toList=false:=by decide
 unfold zdi
 rw[h]
 rfl
theorem zp2 {w:World} {a:Option Addr} {n c:Nat} {ws:List Wd} (hw:RWds w [.slice a n c] ws) (hn1:n≤1000) (hz:∀ x∈ws,x.2.length≤70000) {fin:Int} (hcol:∀ j,zb9 ws fin j≠0) (i:Nat) {s nm:ByteArray} {L:List BSp} {b:Bool} (hs:s=zbe ws i) (hb:zdi s=b) (hnm:nm=(cutB 64 s).1) (hL:L=zda s) :
  ∀ W,Below w.heap.size w W→Calls Tryz.prog 138 #[pv a n c i fin 0,.bool b] W fun e w'=>(∃ i2 bad2,e = .returned (pv a n c i2 fin bad2)∧∀ W',Below w.heap.size w W'→Calls Tryz.prog 140 #[pv a n c i2 fin bad2] W' (Fin06 a n c fin ws i nm L W'))∧Below W.heap.size W w':=by
 intro W hW
 have hn:=(zfp hw).1
 refine (zoz (za5 zbt _ _ _ _ hw hW) hn1 i fin b).mono ?_
 rintro e w' ⟨⟨rfl,_,rfl⟩ | ⟨hbf,rfl⟩,hb2⟩
 ·obtain⟨y1,y2⟩:=zjp (L:=L) (by rw[← hs];exact hb) hs hnm hL
  refine⟨⟨_,_,rfl,fun W' hW'=>(zl9 (za5 zbt _ _ _ _ hw hW') hn1 hz hcol (i+1)).mono ?_⟩,hb2⟩
  rintro e w9 ⟨b',m,d,i',bad,rfl,⟨l,h1,h2,h3⟩ | ⟨j,h1,h2⟩,hb9⟩
  ·exact⟨b',m,d,i',bad,rfl,.inl ⟨l,y1 _ _ h1,h2,h3⟩,hb9⟩
  exact⟨b',m,d,i',bad,rfl,.inr ⟨j,y2 _ h1,h2⟩,hb9⟩
 have hnn:zdi (zbe ws i)=false:=by
  rcases hbf with h | h
  ·rw[← hs,hb,h]
  rw[zd4 (by omega),zm1]
 refine⟨⟨_,_,rfl,fun W' hW'=>(zl8 W' a n c i fin _ (hcol i)).mono ?_⟩,hb2⟩
 rintro e w9 ⟨⟨b',m,d,rfl⟩,hb9⟩
 exact⟨b',m,d,i,_,rfl,.inr ⟨i,zhe hnn,rfl⟩,hb9⟩
theorem zty {w:World} {a:Option Addr} {n c:Nat} {ws:List Wd} (hw:RWds w [.slice a n c] ws) (hn1:n≤1000) (hz:∀ x∈ws,x.2.length≤70000) {fin:Int} (hcol:∀ j,zb9 ws fin j≠0) (i:Nat):Calls Tryz.prog 78 #[pv a n c i fin 0] w (Wish06 a n c fin ws i w):=by
 have hn:=(zfp hw).1
 obtain⟨g,hg⟩ : ∃ g,g=w.heap.size:=⟨_,rfl⟩
 obtain⟨W0,hW0⟩ : ∃ W,W=((w.alloc (.cells #[.slice a n c,.int .i64 i,.int .i64 fin,.int .i64 0] 113)).alloc (.cells #[.string ⟨#[]⟩,.slice none 0 0,.slice none 0 0] 51)).alloc (.cells #[.slice none 0 0,.int .i64 0,.int .i64 0,.int .i64 0] 113):=⟨_,rfl⟩
 have hb0:Below w.heap.size w W0:=by rw[hW0];exact ((za2 _ _).alloc (by simp) _).alloc (by simp;omega) _
 have p0:PBox g a n c i fin 0 W0:=by rw[hW0,hg];exact za0 (za2 _ _) (za0 (za2 _ _) (za6 rfl))
 have p1:zao (g+1) (.string ⟨#[]⟩) (.slice none 0 0) (.slice none 0 0) W0:=by rw[hW0,hg];exact za0 (za2 _ _) (za6 (by simp))
 have p2:PBox (g+1+1) none 0 0 0 0 0 W0:=by rw[hW0,hg];exact za6 (by simp)
 have hwg:w.heap.size≤g:=Nat.le_of_eq hg.symm
 have hpk:∀ i,(zbe ws i).size≤70000:=fun i=>by
  by_cases h:i < ws.length
  ·rw[zei h]
   show (ws[i].2.toArray).size≤_
   rw[List.size_toArray]
   exact hz _ (List.getElem_mem h)
  rw[zd4 (by omega)]
  decide
 obtain⟨⟨c0,c1,c2,c3⟩,_⟩:=zag p0
 obtain⟨s,hs⟩ : ∃ s,s=zbe ws i:=⟨_,rfl⟩
 have hsz:s.size≤70000:=by rw[hs];exact hpk _
 have hW:=zoy (za5 zbt _ _ _ _ hw hb0) i fin 0
 rw[← hs] at hW
 obtain⟨ix,hix⟩ : ∃ z,z=indexByte s.data.toList 64:=⟨_,rfl⟩
 have hA:=fun (W:World)=>ztp s hsz 64 W
 rw[← hix,show ((64:UInt8).toNat:Int)=64 from rfl] at hA
 obtain⟨Hw,Hz,Hcol,Hn,Hb0,Hp0,Hp1,Hp2,Hpk,Hs,HW,HA⟩:=hd12 hw hz hcol hn hb0 p0 p1 p2 hpk hs hW hA;clear hw hz hcol hn hb0 p0 p1 p2 hpk hs hW hA
 go_enter Tryz.func78,Tryz.ntmps78
 go_upto_region 1 with (fail)
 rw[← hW0,← hg]
 clear hW0 hg
 go_wp2_with fail
 refine HW.out.mono ?_
 rintro e w2 ⟨rfl,hb2⟩
 have Hb2:=hd hb2;clear hb2
 go_wp2_with fail
 refine (all06_any _).mono ?_
 rintro e w3 ⟨rfl,hw3⟩
 have hb3:Below w2.heap.size w2 w3:=by rw[hw3];exact za2 _ _
 have hall:=zq9 w2
 rw[← hw3] at hall
 clear hw3
 obtain⟨va,hva⟩ : ∃ k:Option Addr,k=some ⟨w2.heap.size,0,none⟩:=⟨_,rfl⟩
 rw[← hva] at hall ⊢
 clear hva
 obtain⟨g5,hg5⟩ : ∃ z,z=w3.heap.size:=⟨_,rfl⟩
 obtain⟨w4,hw4⟩ : ∃ W,W=w3.alloc (.cells #[.string s,.slice va 1 1,.slice none 0 0] 51):=⟨_,rfl⟩
 have hb34:Below w3.heap.size w3 w4:=by rw[hw4];exact za2 _ _
 have hb24:=hb3.trans (hb34.mono hb3.size)
 have hb04:=Hb2.out.trans (hb24.mono Hb2.out.size)
 have q5:zao g5 (.string s) (.slice va 1 1) (.slice none 0 0) w4:=by rw[hw4,hg5];exact heap_alloc_new _ _
 have hg5l:g+2 < g5:=by
  have h1:=(Array.getElem?_eq_some_iff.1 (za0 (Hb2.out.trans (hb3.mono Hb2.out.size)) Hp2.out)).1
  omega
 have q0:=za0 hb04 Hp0.out
 have q1:=za0 hb04 Hp1.out
 have q2:=za0 hb04 Hp2.out
 have hall4:=zar hall hb34
 have hbw4:=Hb0.out.trans (hb04.mono Hb0.out.size)
 clear c0 c1 c2 c3
 obtain⟨Hb3,Hall,Hb34,Hb24,Hb04,Hq5,Hq0,Hq1,Hq2,Hall4,Hbw4⟩:=hd11 hb3 hall hb34 hb24 hb04 q5 q0 q1 q2 hall4 hbw4;clear hb3 hall hb34 hb24 hb04 q5 q0 q1 q2 hall4 hbw4
 go_upto_region 5 with (fail)
 rw[← hw4,← hg5]
 clear hw4 hg5
 go_wp2_with fail
 refine (HA.out _).mono ?_
 rintro e w5 ⟨rfl,hw5⟩
 subst hw5
 rcases zhx s.data.toList 64 with hneg | ⟨kk,hkk⟩
 ·obtain rfl:ix = -1:=by rw[hix,hneg]
  obtain⟨_,hcut1,hcut2⟩:=cutB_no hneg
  have hNmF:=fun (W:World)=>zfi s (by omega) W
  obtain⟨b,hbn⟩ : ∃ b,b=zbl s.data.toList:=⟨_,rfl⟩
  rw[← hbn] at hNmF
  have hnb:zdi s=b:=by unfold zdi;rw[hcut1,hcut2,← hbn];simp
  have hsb:allV=zda s:=by unfold zda;rw[hcut2];rfl
  have hNx:=zp2 Hw.out hn1 Hz.out Hcol.out i Hs.out hnb hcut1.symm hsb
  have hvL:=fun (_:zdi s=true)=>Hall4.out
  obtain⟨Hneg,Hix,Hcut1,Hcut2,Hbn,Hnb,Hsb,HNx,HvL⟩:=hd9 hneg hix hcut1 hcut2 hbn hnb hsb hNx hvL;clear hneg hix hcut1 hcut2 hbn hnb hsb hNx hvL
  go_wp2_with fail
  have hbd:Below w5.heap.size w5 w5.drew:=Below.drew (Below.refl _ _)
  have hbWd:=Hbw4.out.trans (hbd.mono Hbw4.out.size)
  have hSd:w5.drew.cell? ⟨g5,0,none⟩=some (.string s):=(zab Hq5.out).1
  have hCd:=(zag (za0 hbd Hq0.out)).1
  obtain⟨HSd,HCd⟩:=hd2 hSd hCd;clear hSd hCd
  refine wp_region_held_drew (S:=fun w'=>w'.cell? ⟨g5,0,none⟩=some (.string s)) (by kernel_rfl) (by exact HSd.out) (fun hHeld=>?_)
  refine wpAnyH_take (i:=1) (v:=?_) rfl (by kernel_rfl) (by kernel_rfl) (by kernel_rfl) (fun _ _ _ h=>h) (Or.inl ⟨by kernel_rfl,?_⟩) (by assumption) ?_
  rotate_left
  ·(intro w hSw;(try dsimp only at hSw);go_simp;try with_reducible rfl)
  try simp only[Act.put,lA,lB,lC]
  refine wpAnyH_take (i:=2) (v:=?_) rfl (by kernel_rfl) (by kernel_rfl) (by kernel_rfl) (fun _ _ _ h=>h) (Or.inl ⟨by kernel_rfl,?_⟩) (by assumption) ?_
  rotate_left
  ·(intro w hSw;(try dsimp only at hSw);go_simp;try with_reducible rfl)
  try simp only[Act.put,lA,lB,lC]
  refine wpAnyH_take (i:=3) (v:=?_) rfl (by kernel_rfl) (by kernel_rfl) (by kernel_rfl) (fun _ _ _ h=>h) (Or.inl ⟨by kernel_rfl,?_⟩) (by assumption) ?_
  rotate_left
  ·(intro w hSw;(try dsimp only at hSw);go_simp;try with_reducible rfl)
  try simp only[Act.put,lA,lB,lC]
  refine wpAnyH_take (i:=4) (v:=?_) rfl (by kernel_rfl) (by kernel_rfl) (by kernel_rfl) (fun _ _ _ h=>h) (Or.inl ⟨by kernel_rfl,?_⟩) (by assumption) ?_
  rotate_left
  ·(intro w hSw;(try dsimp only at hSw);go_simp;try with_reducible rfl)
  try simp only[Act.put,lA,lB,lC]
  refine wpAnyH_ready (rs:=[0,5]) (by kernel_rfl) (by simp) ?_
  refine AllReadyH.cons rfl (fun K hK=>?_) (AllReadyH.cons rfl (fun K hK=>?_) AllReadyH.nil)
  ·obtain⟨c0',c1',c2',c3'⟩:=HCd.out
   go_simp
   refine hK.out _ _ (by exact HSd.out) (fun hHeld=>?_)
   clear hK K
   try simp only[Act.put,lA,lB,lC]
   clear c0' c1' c2' c3'
   refine wpAnyH_ready (rs:=[5]) (by kernel_rfl) (by simp) ?_
   refine AllReadyH.cons rfl (fun K hK=>?_) AllReadyH.nil
   go_simp
   refine (hNmF _).mono ?_
   rintro e wn ⟨rfl,hwn⟩
   subst hwn
   go_wp2_with fail
   refine hK.out _ _ (by exact HSd.out) (fun hHeld=>?_)
   clear hK K
   try simp only[Act.put,lA,lB,lC]
   refine wpAnyH_take (i:=6) (v:=?_) rfl (by kernel_rfl) (by kernel_rfl) (by kernel_rfl) (fun _ _ _ h=>h) (Or.inl ⟨by kernel_rfl,?_⟩) (by assumption) ?_
   rotate_left
   ·(intro w hSw;(try dsimp only at hSw);go_simp;try with_reducible rfl)
   try simp only[Act.put,lA,lB,lC]
   refine wpAnyH_ready (rs:=[7]) (by kernel_rfl) (by simp) ?_
   refine AllReadyH.cons rfl (fun K hK=>?_) AllReadyH.nil
   go_simp
   refine (HNx.out _ hbWd).mono ?_
   rintro e wz ⟨⟨i2,bad2,rfl,hSe⟩,hbz⟩
   have hbWz:=hbd.trans (hbz.mono hbd.size)
   have hbwz:=Hbw4.out.trans (hbWz.mono Hbw4.out.size)
   have z0:=za0 hbWz Hq0.out
   have z1:=za0 hbWz Hq1.out
   have z2:=za0 hbWz Hq2.out
   have z5:=za0 hbWz Hq5.out
   have zL:=fun h=>zar (HvL.out h) hbWz
   obtain⟨_,fy0,fy1,fy2,fy3⟩:=zag z0
   have y5e:=za3 (b:=g) (i:=3) (u:=.int .i64 bad2) (za3 (b:=g) (i:=2) (u:=.int .i64 fin) (za3 (b:=g) (i:=1) (u:=.int .i64 i2) (za3 (b:=g) (i:=0) (u:=.slice a n c) z5 (by omega)) (by omega)) (by omega)) (by omega)
   have hSz:wz.cell? ⟨g5,0,none⟩=some (.string s):=(zab z5).1
   have hSP:=(zab y5e).1
   obtain⟨HSe,Hbz,HbWz,Hbwz,Hz0,Hz1,Hz2,Hz5,HzL,Hy5e,HSz,HSP⟩:=hd12 hSe hbz hbWz hbwz z0 z1 z2 z5 zL y5e hSz hSP;clear hSe hbz hbWz hbwz z0 z1 z2 z5 zL y5e hSz hSP
   go_wp2_with fail
   refine hK.out _ _ (by exact HSz.out) (fun hHeld=>?_)
   clear hK K
   try simp only[Act.put,lA,lB,lC]
   refine wpAnyH_ready (rs:=[8]) (by kernel_rfl) (by simp) ?_
   refine AllReadyH.cons rfl (fun K hK=>?_) AllReadyH.nil
   go_simp
   refine hK.out _ _ (by exact HSP.out) (fun hHeld=>?_)
   clear hK K
   try simp only[Act.put,lA,lB,lC]
   refine wpAnyH_done (by kernel_rfl) ?_ _
   go_simp
   obtain⟨wP,hwP⟩ : ∃ W,W=(((wz.setCell ⟨g,0,none⟩ (.slice a n c)).setCell ⟨g,1,none⟩ (.int .i64 i2)).setCell ⟨g,2,none⟩ (.int .i64 fin)).setCell ⟨g,3,none⟩ (.int .i64 bad2):=⟨_,rfl⟩
   have hTP:Frm (fun z=>z=g) wz wP:=by rw[hwP];exact zaa (zaa (zaa (zaa (Frm.refl _ _) 0 _) 1 _) 2 _) 3 _
   have y0:PBox g a n c i2 fin bad2 wP:=by rw[hwP];exact pset Hz0.out
   have y1:=zav hTP Hz1.out (by omega)
   have y2:=zav hTP Hz2.out (by omega)
   have y5:=zav hTP Hz5.out (by omega)
   have hnoP:No2 wz (fun z=>z=g):=by
    rintro z rfl
    exact zay Hz0.out (by decide) (by decide)
   have yL:=fun h=>zas (HzL.out h) hTP hnoP
   have hbwP:Below w.heap.size w wP:=Hbwz.out.trans (hTP.below Hbwz.out.size (by rintro k rfl;exact hwg))
   have hSe2:=HSe.out wP hbwP
   obtain⟨⟨d0,d1,d2,d3⟩,_⟩:=zag y0
   rw[← hwP]
   clear hwP
   obtain⟨HTP,Hy0,Hy1,Hy2,Hy5,HnoP,HyL,HbwP,HSe2⟩:=hd9 hTP y0 y1 y2 y5 hnoP yL hbwP hSe2;clear hTP y0 y1 y2 y5 hnoP yL hbwP hSe2
   go_wp2_with fail
   refine HSe2.out.mono ?_
   rintro e wq ⟨sb,sm,sd,i',bad',rfl,hfin,hbq⟩
   obtain⟨wr,hwr⟩ : ∃ W,W=wq.alloc (.cells #[.slice a n c,.int .i64 i',.int .i64 fin,.int .i64 bad'] 113):=⟨_,rfl⟩
   have hbqr:Below wq.heap.size wq wr:=by rw[hwr];exact za2 _ _
   have hbpr:=hbq.trans (hbqr.mono hbq.size)
   obtain⟨h11,hh11⟩ : ∃ z,z=wq.heap.size:=⟨_,rfl⟩
   have t11:PBox h11 a n c i' fin bad' wr:=by rw[hwr,hh11];exact heap_alloc_new _ _
   have x5:=za0 hbpr Hy5.out
   have x1:=za0 hbpr Hy1.out
   have x2:=za0 hbpr Hy2.out
   obtain⟨ux0,ux1,ux2,uf0,uf1,uf2⟩:=zab x5
   obtain⟨_,_,_,vf0,vf1,vf2⟩:=zab x1
   obtain⟨_,wf0,wf1,wf2,wf3⟩:=zag x2
   obtain⟨⟨tx0,tx1,tx2,tx3⟩,_⟩:=zag t11
   have hsz9:g5 < h11:=by rw[hh11];exact (Array.getElem?_eq_some_iff.1 (za0 hbq Hy5.out)).1
   have hd1:¬ h11=g5:=by omega
   have hd2:¬ g5=h11:=by omega
   have hd3:¬ h11=g+1:=by omega
   have hd4:¬ h11=g+1+1:=by omega
   have hd5:¬ g5=g+1:=by omega
   have hd6:¬ g5=g+1+1:=by omega
   have hbw:Below w.heap.size w wr:=HbwP.out.trans (hbpr.mono HbwP.out.size)
   have hL:=fun h=>zar (HyL.out h) hbpr
   have hfin2:(∃ l,zat ws i=(some (s,allV,l),i')∧bad'=0∧zbv wr (.slice sb sm sd) l)∨(∃ j,zat ws i=(none,j)∧bad'=zb9 ws fin j):=hfin.imp (fun⟨l,h1,h2,h3⟩=>⟨l,h1,h2,zb0 h3 hbqr⟩) id
   obtain⟨Hfin,Hbq,Hbqr,Hbpr,Ht11,Hx5,Hx1,Hx2,Hbw,HL,Hfin2⟩:=hd11 hfin hbq hbqr hbpr t11 x5 x1 x2 hbw hL hfin2;clear hfin hbq hbqr hbpr t11 x5 x1 x2 hbw hL hfin2
   go_upto_region 14 with (fail)
   rw[← hwr,← hh11]
   clear hwr hh11
   go_wp2_with fail
   go_region
   go_wp2_with fail
   obtain⟨wS,hwS⟩ : ∃ W,W=wr.setCell ⟨g5,2,none⟩ (.slice sb sm sd):=⟨_,rfl⟩
   have s1:zao (g+1) (.string ⟨#[]⟩) (.slice none 0 0) (.slice none 0 0) wS:=by rw[hwS];exact za3 Hx1.out (by omega)
   have s2:PBox (g+1+1) none 0 0 0 0 0 wS:=by rw[hwS];exact za3 Hx2.out (by omega)
   rw[← hwS]
   obtain⟨wT,hwT⟩ : ∃ W,W=((((((wS.setCell ⟨g+1,0,none⟩ (.string s)).setCell ⟨g+1,1,none⟩ (.slice va 1 1)).setCell ⟨g+1,2,none⟩ (.slice sb sm sd)).setCell ⟨g+1+1,0,none⟩ (.slice a n c)).setCell ⟨g+1+1,1,none⟩ (.int .i64 i')).setCell ⟨g+1+1,2,none⟩ (.int .i64 fin)).setCell ⟨g+1+1,3,none⟩ (.int .i64 bad'):=⟨_,rfl⟩
   rw[← hwT]
   have r1:zao (g+1) (.string s) (.slice va 1 1) (.slice sb sm sd) wT:=by
    have k0:=heap_setCell_same wS (g+1) 0 _ _ (.string s) s1
    have k1:=heap_setCell_same _ (g+1) 1 _ _ (.slice va 1 1) k0
    have k2:=heap_setCell_same _ (g+1) 2 _ _ (.slice sb sm sd) k1
    have k3:=za3 (b:=g+1+1) (i:=0) (u:=.slice a n c) k2 (by omega)
    have k4:=za3 (b:=g+1+1) (i:=1) (u:=.int .i64 (i':Int)) k3 (by omega)
    have k5:=za3 (b:=g+1+1) (i:=2) (u:=.int .i64 fin) k4 (by omega)
    have k6:=za3 (b:=g+1+1) (i:=3) (u:=.int .i64 bad') k5 (by omega)
    rw[hwT]
    exact k6
   have r2:PBox (g+1+1) a n c i' fin bad' wT:=by
    have k0:=za3 (b:=g+1) (i:=0) (u:=.string s) s2 (by omega)
    have k1:=za3 (b:=g+1) (i:=1) (u:=(.slice va 1 1)) k0 (by omega)
    have k2:=za3 (b:=g+1) (i:=2) (u:=.slice sb sm sd) k1 (by omega)
    rw[hwT]
    exact pset k2
   have hT:Frm (fun z=>z=g5∨z=g+1∨z=g+1+1) wr wT:=by
    have m0:Frm (fun z=>z=g5∨z=g+1∨z=g+1+1) wr wS:=by rw[hwS];exact (Frm.refl _ wr).setCell (p:=⟨g5,2,none⟩) (.inr (.inl rfl)) _
    have m1:=m0.setCell (p:=⟨g+1,0,none⟩) (.inr (.inr (.inl rfl))) (.string s)
    have m2:=m1.setCell (p:=⟨g+1,1,none⟩) (.inr (.inr (.inl rfl))) (.slice va 1 1)
    have m3:=m2.setCell (p:=⟨g+1,2,none⟩) (.inr (.inr (.inl rfl))) (.slice sb sm sd)
    have m4:=m3.setCell (p:=⟨g+1+1,0,none⟩) (.inr (.inr (.inr rfl))) (.slice a n c)
    have m5:=m4.setCell (p:=⟨g+1+1,1,none⟩) (.inr (.inr (.inr rfl))) (.int .i64 (i':Int))
    have m6:=m5.setCell (p:=⟨g+1+1,2,none⟩) (.inr (.inr (.inr rfl))) (.int .i64 fin)
    have m7:=m6.setCell (p:=⟨g+1+1,3,none⟩) (.inr (.inr (.inr rfl))) (.int .i64 bad')
    rw[hwT]
    exact m7
   clear hwT hwS
   have hno:No2 wr (fun z=>z=g5∨z=g+1∨z=g+1+1):=by
    rintro z (rfl | rfl | rfl)
    ·exact zay Hx5.out (by decide) (by decide)
    ·exact zay Hx1.out (by decide) (by decide)
    exact zay Hx2.out (by decide) (by decide)
   have hbT:Below w.heap.size w wT.drew:=Below.drew (Hbw.out.trans (hT.below Hbw.out.size (by rintro k (rfl | rfl | rfl) <;> omega)))
   have hTd:Frm (fun z=>z=g5∨z=g+1∨z=g+1+1) wr wT.drew:=hT.drew
   have r1d:zao (g+1) (.string s) (.slice va 1 1) (.slice sb sm sd) wT.drew:=r1
   have r2d:PBox (g+1+1) a n c i' fin bad' wT.drew:=r2
   generalize wT.drew=wU at hbT hTd r1d r2d ⊢
   clear r1 r2 hT
   refine bodyPost_ret (zeg (g:=g+1) (k:=g+1+1) rfl rfl rfl r1d r2d Tryz.underlying51 rfl (by kernel_rfl) Tryz.underlying113 rfl (by kernel_rfl)) rfl ?_
   have hend:(∃ sp:Spc3,zat ws i=(some sp,i')∧bad'=0∧s=sp.1∧zea wU (.slice va 1 1) sp.2.1∧zbv wU (.slice sb sm sd) sp.2.2)∨(∃ j,zat ws i=(none,j)∧bad'=zb9 ws fin j):=by
    rcases Hfin2.out with⟨l,h1,h2,h3⟩ | h
    ·exact .inl ⟨_,h1,h2,rfl,zas (HL.out (zht h1 Hs.out)) hTd hno,zax h3 hTd hno⟩
    exact .inr h
   exact⟨s,va,1,1,sb,sm,sd,i',bad',rfl,hend,hbT⟩
  go_simp
  refine (hNmF _).mono ?_
  rintro e wn ⟨rfl,hwn⟩
  subst hwn
  go_wp2_with fail
  refine hK.out _ _ (by exact HSd.out) (fun hHeld=>?_)
  clear hK K
  try simp only[Act.put,lA,lB,lC]
  refine wpAnyH_take (i:=6) (v:=?_) rfl (by kernel_rfl) (by kernel_rfl) (by kernel_rfl) (fun _ _ _ h=>h) (Or.inl ⟨by kernel_rfl,?_⟩) (by assumption) ?_
  rotate_left
  ·(intro w hSw;(try dsimp only at hSw);go_simp;try with_reducible rfl)
  try simp only[Act.put,lA,lB,lC]
  refine wpAnyH_ready (rs:=[0]) (by kernel_rfl) (by simp) ?_
  refine AllReadyH.cons rfl (fun K hK=>?_) AllReadyH.nil
  obtain⟨c0',c1',c2',c3'⟩:=HCd.out
  go_simp
  refine hK.out _ _ (by exact HSd.out) (fun hHeld=>?_)
  clear hK K
  try simp only[Act.put,lA,lB,lC]
  clear c0' c1' c2' c3'
  refine wpAnyH_ready (rs:=[7]) (by kernel_rfl) (by simp) ?_
  refine AllReadyH.cons rfl (fun K hK=>?_) AllReadyH.nil
  go_simp
  refine (HNx.out _ hbWd).mono ?_
  rintro e wz ⟨⟨i2,bad2,rfl,hSe⟩,hbz⟩
  have hbWz:=hbd.trans (hbz.mono hbd.size)
  have hbwz:=Hbw4.out.trans (hbWz.mono Hbw4.out.size)
  have z0:=za0 hbWz Hq0.out
  have z1:=za0 hbWz Hq1.out
  have z2:=za0 hbWz Hq2.out
  have z5:=za0 hbWz Hq5.out
  have zL:=fun h=>zar (HvL.out h) hbWz
  obtain⟨_,fy0,fy1,fy2,fy3⟩:=zag z0
  have y5e:=za3 (b:=g) (i:=3) (u:=.int .i64 bad2) (za3 (b:=g) (i:=2) (u:=.int .i64 fin) (za3 (b:=g) (i:=1) (u:=.int .i64 i2) (za3 (b:=g) (i:=0) (u:=.slice a n c) z5 (by omega)) (by omega)) (by omega)) (by omega)
  have hSz:wz.cell? ⟨g5,0,none⟩=some (.string s):=(zab z5).1
  have hSP:=(zab y5e).1
  obtain⟨HSe,Hbz,HbWz,Hbwz,Hz0,Hz1,Hz2,Hz5,HzL,Hy5e,HSz,HSP⟩:=hd12 hSe hbz hbWz hbwz z0 z1 z2 z5 zL y5e hSz hSP;clear hSe hbz hbWz hbwz z0 z1 z2 z5 zL y5e hSz hSP
  go_wp2_with fail
  refine hK.out _ _ (by exact HSz.out) (fun hHeld=>?_)
  clear hK K
  try simp only[Act.put,lA,lB,lC]
  refine wpAnyH_ready (rs:=[8]) (by kernel_rfl) (by simp) ?_
  refine AllReadyH.cons rfl (fun K hK=>?_) AllReadyH.nil
  go_simp
  refine hK.out _ _ (by exact HSP.out) (fun hHeld=>?_)
  clear hK K
  try simp only[Act.put,lA,lB,lC]
  refine wpAnyH_done (by kernel_rfl) ?_ _
  go_simp
  obtain⟨wP,hwP⟩ : ∃ W,W=(((wz.setCell ⟨g,0,none⟩ (.slice a n c)).setCell ⟨g,1,none⟩ (.int .i64 i2)).setCell ⟨g,2,none⟩ (.int .i64 fin)).setCell ⟨g,3,none⟩ (.int .i64 bad2):=⟨_,rfl⟩
  have hTP:Frm (fun z=>z=g) wz wP:=by rw[hwP];exact zaa (zaa (zaa (zaa (Frm.refl _ _) 0 _) 1 _) 2 _) 3 _
  have y0:PBox g a n c i2 fin bad2 wP:=by rw[hwP];exact pset Hz0.out
  have y1:=zav hTP Hz1.out (by omega)
  have y2:=zav hTP Hz2.out (by omega)
  have y5:=zav hTP Hz5.out (by omega)
  have hnoP:No2 wz (fun z=>z=g):=by
   rintro z rfl
   exact zay Hz0.out (by decide) (by decide)
  have yL:=fun h=>zas (HzL.out h) hTP hnoP
  have hbwP:Below w.heap.size w wP:=Hbwz.out.trans (hTP.below Hbwz.out.size (by rintro k rfl;exact hwg))
  have hSe2:=HSe.out wP hbwP
  obtain⟨⟨d0,d1,d2,d3⟩,_⟩:=zag y0
  rw[← hwP]
  clear hwP
  obtain⟨HTP,Hy0,Hy1,Hy2,Hy5,HnoP,HyL,HbwP,HSe2⟩:=hd9 hTP y0 y1 y2 y5 hnoP yL hbwP hSe2;clear hTP y0 y1 y2 y5 hnoP yL hbwP hSe2
  go_wp2_with fail
  refine HSe2.out.mono ?_
  rintro e wq ⟨sb,sm,sd,i',bad',rfl,hfin,hbq⟩
  obtain⟨wr,hwr⟩ : ∃ W,W=wq.alloc (.cells #[.slice a n c,.int .i64 i',.int .i64 fin,.int .i64 bad'] 113):=⟨_,rfl⟩
  have hbqr:Below wq.heap.size wq wr:=by rw[hwr];exact za2 _ _
  have hbpr:=hbq.trans (hbqr.mono hbq.size)
  obtain⟨h11,hh11⟩ : ∃ z,z=wq.heap.size:=⟨_,rfl⟩
  have t11:PBox h11 a n c i' fin bad' wr:=by rw[hwr,hh11];exact heap_alloc_new _ _
  have x5:=za0 hbpr Hy5.out
  have x1:=za0 hbpr Hy1.out
  have x2:=za0 hbpr Hy2.out
  obtain⟨ux0,ux1,ux2,uf0,uf1,uf2⟩:=zab x5
  obtain⟨_,_,_,vf0,vf1,vf2⟩:=zab x1
  obtain⟨_,wf0,wf1,wf2,wf3⟩:=zag x2
  obtain⟨⟨tx0,tx1,tx2,tx3⟩,_⟩:=zag t11
  have hsz9:g5 < h11:=by rw[hh11];exact (Array.getElem?_eq_some_iff.1 (za0 hbq Hy5.out)).1
  have hd1:¬ h11=g5:=by omega
  have hd2:¬ g5=h11:=by omega
  have hd3:¬ h11=g+1:=by omega
  have hd4:¬ h11=g+1+1:=by omega
  have hd5:¬ g5=g+1:=by omega
  have hd6:¬ g5=g+1+1:=by omega
  have hbw:Below w.heap.size w wr:=HbwP.out.trans (hbpr.mono HbwP.out.size)
  have hL:=fun h=>zar (HyL.out h) hbpr
  have hfin2:(∃ l,zat ws i=(some (s,allV,l),i')∧bad'=0∧zbv wr (.slice sb sm sd) l)∨(∃ j,zat ws i=(none,j)∧bad'=zb9 ws fin j):=hfin.imp (fun⟨l,h1,h2,h3⟩=>⟨l,h1,h2,zb0 h3 hbqr⟩) id
  obtain⟨Hfin,Hbq,Hbqr,Hbpr,Ht11,Hx5,Hx1,Hx2,Hbw,HL,Hfin2⟩:=hd11 hfin hbq hbqr hbpr t11 x5 x1 x2 hbw hL hfin2;clear hfin hbq hbqr hbpr t11 x5 x1 x2 hbw hL hfin2
  go_upto_region 14 with (fail)
  rw[← hwr,← hh11]
  clear hwr hh11
  go_wp2_with fail
  go_region
  go_wp2_with fail
  obtain⟨wS,hwS⟩ : ∃ W,W=wr.setCell ⟨g5,2,none⟩ (.slice sb sm sd):=⟨_,rfl⟩
  have s1:zao (g+1) (.string ⟨#[]⟩) (.slice none 0 0) (.slice none 0 0) wS:=by rw[hwS];exact za3 Hx1.out (by omega)
  have s2:PBox (g+1+1) none 0 0 0 0 0 wS:=by rw[hwS];exact za3 Hx2.out (by omega)
  rw[← hwS]
  obtain⟨wT,hwT⟩ : ∃ W,W=((((((wS.setCell ⟨g+1,0,none⟩ (.string s)).setCell ⟨g+1,1,none⟩ (.slice va 1 1)).setCell ⟨g+1,2,none⟩ (.slice sb sm sd)).setCell ⟨g+1+1,0,none⟩ (.slice a n c)).setCell ⟨g+1+1,1,none⟩ (.int .i64 i')).setCell ⟨g+1+1,2,none⟩ (.int .i64 fin)).setCell ⟨g+1+1,3,none⟩ (.int .i64 bad'):=⟨_,rfl⟩
  rw[← hwT]
  have r1:zao (g+1) (.string s) (.slice va 1 1) (.slice sb sm sd) wT:=by
   have k0:=heap_setCell_same wS (g+1) 0 _ _ (.string s) s1
   have k1:=heap_setCell_same _ (g+1) 1 _ _ (.slice va 1 1) k0
   have k2:=heap_setCell_same _ (g+1) 2 _ _ (.slice sb sm sd) k1
   have k3:=za3 (b:=g+1+1) (i:=0) (u:=.slice a n c) k2 (by omega)
   have k4:=za3 (b:=g+1+1) (i:=1) (u:=.int .i64 (i':Int)) k3 (by omega)
   have k5:=za3 (b:=g+1+1) (i:=2) (u:=.int .i64 fin) k4 (by omega)
   have k6:=za3 (b:=g+1+1) (i:=3) (u:=.int .i64 bad') k5 (by omega)
   rw[hwT]
   exact k6
  have r2:PBox (g+1+1) a n c i' fin bad' wT:=by
   have k0:=za3 (b:=g+1) (i:=0) (u:=.string s) s2 (by omega)
   have k1:=za3 (b:=g+1) (i:=1) (u:=(.slice va 1 1)) k0 (by omega)
   have k2:=za3 (b:=g+1) (i:=2) (u:=.slice sb sm sd) k1 (by omega)
   rw[hwT]
   exact pset k2
  have hT:Frm (fun z=>z=g5∨z=g+1∨z=g+1+1) wr wT:=by
   have m0:Frm (fun z=>z=g5∨z=g+1∨z=g+1+1) wr wS:=by rw[hwS];exact (Frm.refl _ wr).setCell (p:=⟨g5,2,none⟩) (.inr (.inl rfl)) _
   have m1:=m0.setCell (p:=⟨g+1,0,none⟩) (.inr (.inr (.inl rfl))) (.string s)
   have m2:=m1.setCell (p:=⟨g+1,1,none⟩) (.inr (.inr (.inl rfl))) (.slice va 1 1)
   have m3:=m2.setCell (p:=⟨g+1,2,none⟩) (.inr (.inr (.inl rfl))) (.slice sb sm sd)
   have m4:=m3.setCell (p:=⟨g+1+1,0,none⟩) (.inr (.inr (.inr rfl))) (.slice a n c)
   have m5:=m4.setCell (p:=⟨g+1+1,1,none⟩) (.inr (.inr (.inr rfl))) (.int .i64 (i':Int))
   have m6:=m5.setCell (p:=⟨g+1+1,2,none⟩) (.inr (.inr (.inr rfl))) (.int .i64 fin)
   have m7:=m6.setCell (p:=⟨g+1+1,3,none⟩) (.inr (.inr (.inr rfl))) (.int .i64 bad')
   rw[hwT]
   exact m7
  clear hwT hwS
  have hno:No2 wr (fun z=>z=g5∨z=g+1∨z=g+1+1):=by
   rintro z (rfl | rfl | rfl)
   ·exact zay Hx5.out (by decide) (by decide)
   ·exact zay Hx1.out (by decide) (by decide)
   exact zay Hx2.out (by decide) (by decide)
  have hbT:Below w.heap.size w wT.drew:=Below.drew (Hbw.out.trans (hT.below Hbw.out.size (by rintro k (rfl | rfl | rfl) <;> omega)))
  have hTd:Frm (fun z=>z=g5∨z=g+1∨z=g+1+1) wr wT.drew:=hT.drew
  have r1d:zao (g+1) (.string s) (.slice va 1 1) (.slice sb sm sd) wT.drew:=r1
  have r2d:PBox (g+1+1) a n c i' fin bad' wT.drew:=r2
  generalize wT.drew=wU at hbT hTd r1d r2d ⊢
  clear r1 r2 hT
  refine bodyPost_ret (zeg (g:=g+1) (k:=g+1+1) rfl rfl rfl r1d r2d Tryz.underlying51 rfl (by kernel_rfl) Tryz.underlying113 rfl (by kernel_rfl)) rfl ?_
  have hend:(∃ sp:Spc3,zat ws i=(some sp,i')∧bad'=0∧s=sp.1∧zea wU (.slice va 1 1) sp.2.1∧zbv wU (.slice sb sm sd) sp.2.2)∨(∃ j,zat ws i=(none,j)∧bad'=zb9 ws fin j):=by
   rcases Hfin2.out with⟨l,h1,h2,h3⟩ | h
   ·exact .inl ⟨_,h1,h2,rfl,zas (HL.out (zht h1 Hs.out)) hTd hno,zax h3 hTd hno⟩
   exact .inr h
  exact⟨s,va,1,1,sb,sm,sd,i',bad',rfl,hend,hbT⟩
 obtain rfl:ix=kk:=by rw[hix,hkk]
 obtain⟨hyes,hcut,hks⟩:=ztg hkk
 obtain⟨k2,hk2⟩ : ∃ z,z=kk+1:=⟨_,rfl⟩
 rw[← hk2] at hcut
 obtain⟨nm,hnm⟩ : ∃ z,z=s.extract 0 kk:=⟨_,rfl⟩
 obtain⟨tl,htl⟩ : ∃ z,z=s.extract k2 s.size:=⟨_,rfl⟩
 rw[← hnm,← htl] at hcut
 have hsgz:nm.size≤70000∧tl.size≤70000:=by
  have:=zi0 64 s
  rw[hcut] at this
  have e1:nm.size≤s.size∧tl.size≤s.size:=this
  omega
 have k5:(0:Int)≤(kk:Int):=by omega
 have k6:(kk:Int)≤(s.size:Int):=by omega
 have k11:IntKind.i64.wrap ((kk:Int)+1)=(k2:Int):=by rw[hk2];exact IntWalk.i64_in _ (by omega)
 have k12:(0:Int)≤(k2:Int):=by omega
 have k13:(k2:Int)≤(s.size:Int):=by omega
 have k14:(kk:Int)+1=(k2:Int):=by omega
 have hNmF:=fun (W:World)=>zfi nm (by omega) W
 obtain⟨nk,hnk⟩ : ∃ b,b=zbl nm.data.toList:=⟨_,rfl⟩
 rw[← hnk] at hNmF
 obtain⟨ok,hok⟩ : ∃ b,b=zeu tl:=⟨_,rfl⟩
 have hnb:zdi s=(nk && ok):=by unfold zdi;rw[hcut,← hnk,← hok];simp
 have hsb:rdV tl=zda s:=by unfold zda;rw[hcut];rfl
 have hSet:=zuj tl (by omega) (w:=w5)
 unfold znv at hSet
 rw[← hok] at hSet
 have hcut1:nm=(cutB 64 s).1:=by rw[hcut]
 have hNxt:=fun (b:Bool) (h:zdi s=b)=>zp2 Hw.out hn1 Hz.out Hcol.out i Hs.out h hcut1 hsb
 obtain⟨Hkk,Hix,Hyes,Hcut,Hcut1,Hk2,Hnk,Hok,Hnb,Hsb,HSet,HNxt⟩:=hd12 hkk hix hyes hcut hcut1 hk2 hnk hok hnb hsb hSet hNxt;clear hkk hix hyes hcut hcut1 hk2 hnk hok hnb hsb hSet hNxt
 go_wp2_with fail
 rw[← htl]
 clear htl
 refine HSet.out.mono ?_
 rintro e w6 ⟨a2,n2,c2,rfl,hrd,hb6⟩
 have s5:=za0 hb6 Hq5.out
 obtain⟨_,_,_,fz0,fz1,_⟩:=zab s5
 obtain⟨w7,hw7⟩ : ∃ W,W=(w6.setCell ⟨g5,0,none⟩ (.string nm)).setCell ⟨g5,1,none⟩ (.slice a2 n2 c2):=⟨_,rfl⟩
 have hT7:Frm (fun z=>z=g5) w6 w7:=by rw[hw7];exact zaa (zaa (Frm.refl _ _) 0 _) 1 _
 have r0:=zav hT7 (za0 hb6 Hq0.out) (by omega)
 have r1:=zav hT7 (za0 hb6 Hq1.out) (by omega)
 have r2:=zav hT7 (za0 hb6 Hq2.out) (by omega)
 have r5:zao g5 (.string nm) (.slice a2 n2 c2) (.slice none 0 0) w7:=by
  have k0:=heap_setCell_same _ g5 0 _ _ (.string nm) s5
  have k1:=heap_setCell_same _ g5 1 _ _ (.slice a2 n2 c2) k0
  rw[hw7]
  exact k1
 have hbw6:=Hbw4.out.trans (hb6.mono Hbw4.out.size)
 have hbw7:Below w.heap.size w w7:=hbw6.trans (hT7.below hbw6.size (by rintro k rfl;omega))
 have hvL:=fun (h:zdi s=true)=>zas (hrd (by rw[Hnb.out] at h;cases ok with | true=>rfl | false=>simp at h)) hT7 (by
  rintro z rfl
  exact zay s5 (by decide) (by decide))
 obtain⟨Hrd,Hb6,Hs5,HT7,Hr0,Hr1,Hr2,Hr5,Hbw6,Hbw7,HvL⟩:=hd11 hrd hb6 s5 hT7 r0 r1 r2 r5 hbw6 hbw7 hvL;clear hrd hb6 s5 hT7 r0 r1 r2 r5 hbw6 hbw7 hvL
 cases ok with
 | false =>
  have hNx:=HNxt.out false (by rw[Hnb.out];simp)
  have HNx:=hd hNx;clear hNx
  go_upto_region 12 with (fail)
  rw[← hnm,← hw7]
  clear hnm hw7
  have hbd:Below w7.heap.size w7 w7.drew:=Below.drew (Below.refl _ _)
  have hbWd:=Hbw7.out.trans (hbd.mono Hbw7.out.size)
  have hSd:w7.drew.cell? ⟨g5,0,none⟩=some (.string nm):=(zab Hr5.out).1
  have hCd:=(zag (za0 hbd Hr0.out)).1
  obtain⟨HSd,HCd⟩:=hd2 hSd hCd;clear hSd hCd
  refine wp_region_held_drew (S:=fun w'=>w'.cell? ⟨g5,0,none⟩=some (.string nm)) (by kernel_rfl) (by exact HSd.out) (fun hHeld=>?_)
  refine wpAnyH_take (i:=1) (v:=?_) rfl (by kernel_rfl) (by kernel_rfl) (by kernel_rfl) (fun _ _ _ h=>h) (Or.inl ⟨by kernel_rfl,?_⟩) (by assumption) ?_
  rotate_left
  ·(intro w hSw;(try dsimp only at hSw);go_simp;try with_reducible rfl)
  try simp only[Act.put,lA,lB,lC]
  refine wpAnyH_take (i:=2) (v:=?_) rfl (by kernel_rfl) (by kernel_rfl) (by kernel_rfl) (fun _ _ _ h=>h) (Or.inl ⟨by kernel_rfl,?_⟩) (by assumption) ?_
  rotate_left
  ·(intro w hSw;(try dsimp only at hSw);go_simp;try with_reducible rfl)
  try simp only[Act.put,lA,lB,lC]
  refine wpAnyH_take (i:=3) (v:=undef) rfl (by kernel_rfl) (by kernel_rfl) (by kernel_rfl) (fun _ _ _ h=>h) (Or.inr ⟨by kernel_rfl,rfl⟩) (by assumption) ?_
  simp only[Act.put,List.getElem_toArray,List.getElem_cons_succ,List.getElem_cons_zero,lA,lB,lC]
  refine wpAnyH_take (i:=4) (v:=undef) rfl (by kernel_rfl) (by kernel_rfl) (by kernel_rfl) (fun _ _ _ h=>h) (Or.inr ⟨by kernel_rfl,rfl⟩) (by assumption) ?_
  simp only[Act.put,List.getElem_toArray,List.getElem_cons_succ,List.getElem_cons_zero,lA,lB,lC]
  refine wpAnyH_take (i:=5) (v:=undef) rfl (by kernel_rfl) (by kernel_rfl) (by kernel_rfl) (fun _ _ _ h=>h) (Or.inr ⟨by kernel_rfl,rfl⟩) (by assumption) ?_
  simp only[Act.put,List.getElem_toArray,List.getElem_cons_succ,List.getElem_cons_zero,lA,lB,lC]
  refine wpAnyH_take (i:=6) (v:=?_) rfl (by kernel_rfl) (by kernel_rfl) (by kernel_rfl) (fun _ _ _ h=>h) (Or.inl ⟨by kernel_rfl,?_⟩) (by assumption) ?_
  rotate_left
  ·(intro w hSw;(try dsimp only at hSw);go_simp;try with_reducible rfl)
  try simp only[Act.put,lA,lB,lC]
  refine wpAnyH_ready (rs:=[0]) (by kernel_rfl) (by simp) ?_
  refine AllReadyH.cons rfl (fun K hK=>?_) AllReadyH.nil
  obtain⟨c0',c1',c2',c3'⟩:=HCd.out
  go_simp
  refine hK.out _ _ (by exact HSd.out) (fun hHeld=>?_)
  clear hK K
  try simp only[Act.put,lA,lB,lC]
  clear c0' c1' c2' c3'
  refine wpAnyH_ready (rs:=[7]) (by kernel_rfl) (by simp) ?_
  refine AllReadyH.cons rfl (fun K hK=>?_) AllReadyH.nil
  go_simp
  refine (HNx.out _ hbWd).mono ?_
  rintro e wz ⟨⟨i2,bad2,rfl,hSe⟩,hbz⟩
  have hbWz:=hbd.trans (hbz.mono hbd.size)
  have hbwz:=Hbw7.out.trans (hbWz.mono Hbw7.out.size)
  have z0:=za0 hbWz Hr0.out
  have z1:=za0 hbWz Hr1.out
  have z2:=za0 hbWz Hr2.out
  have z5:=za0 hbWz Hr5.out
  have zL:=fun h=>zar (HvL.out h) hbWz
  obtain⟨_,fy0,fy1,fy2,fy3⟩:=zag z0
  have y5e:=za3 (b:=g) (i:=3) (u:=.int .i64 bad2) (za3 (b:=g) (i:=2) (u:=.int .i64 fin) (za3 (b:=g) (i:=1) (u:=.int .i64 i2) (za3 (b:=g) (i:=0) (u:=.slice a n c) z5 (by omega)) (by omega)) (by omega)) (by omega)
  have hSz:wz.cell? ⟨g5,0,none⟩=some (.string nm):=(zab z5).1
  have hSP:=(zab y5e).1
  obtain⟨HSe,Hbz,HbWz,Hbwz,Hz0,Hz1,Hz2,Hz5,HzL,Hy5e,HSz,HSP⟩:=hd12 hSe hbz hbWz hbwz z0 z1 z2 z5 zL y5e hSz hSP;clear hSe hbz hbWz hbwz z0 z1 z2 z5 zL y5e hSz hSP
  go_wp2_with fail
  refine hK.out _ _ (by exact HSz.out) (fun hHeld=>?_)
  clear hK K
  try simp only[Act.put,lA,lB,lC]
  refine wpAnyH_ready (rs:=[8]) (by kernel_rfl) (by simp) ?_
  refine AllReadyH.cons rfl (fun K hK=>?_) AllReadyH.nil
  go_simp
  refine hK.out _ _ (by exact HSP.out) (fun hHeld=>?_)
  clear hK K
  try simp only[Act.put,lA,lB,lC]
  refine wpAnyH_done (by kernel_rfl) ?_ _
  go_simp
  obtain⟨wP,hwP⟩ : ∃ W,W=(((wz.setCell ⟨g,0,none⟩ (.slice a n c)).setCell ⟨g,1,none⟩ (.int .i64 i2)).setCell ⟨g,2,none⟩ (.int .i64 fin)).setCell ⟨g,3,none⟩ (.int .i64 bad2):=⟨_,rfl⟩
  have hTP:Frm (fun z=>z=g) wz wP:=by rw[hwP];exact zaa (zaa (zaa (zaa (Frm.refl _ _) 0 _) 1 _) 2 _) 3 _
  have y0:PBox g a n c i2 fin bad2 wP:=by rw[hwP];exact pset Hz0.out
  have y1:=zav hTP Hz1.out (by omega)
  have y2:=zav hTP Hz2.out (by omega)
  have y5:=zav hTP Hz5.out (by omega)
  have hnoP:No2 wz (fun z=>z=g):=by
   rintro z rfl
   exact zay Hz0.out (by decide) (by decide)
  have yL:=fun h=>zas (HzL.out h) hTP hnoP
  have hbwP:Below w.heap.size w wP:=Hbwz.out.trans (hTP.below Hbwz.out.size (by rintro k rfl;exact hwg))
  have hSe2:=HSe.out wP hbwP
  obtain⟨⟨d0,d1,d2,d3⟩,_⟩:=zag y0
  rw[← hwP]
  clear hwP
  obtain⟨HTP,Hy0,Hy1,Hy2,Hy5,HnoP,HyL,HbwP,HSe2⟩:=hd9 hTP y0 y1 y2 y5 hnoP yL hbwP hSe2;clear hTP y0 y1 y2 y5 hnoP yL hbwP hSe2
  go_wp2_with fail
  refine HSe2.out.mono ?_
  rintro e wq ⟨sb,sm,sd,i',bad',rfl,hfin,hbq⟩
  obtain⟨wr,hwr⟩ : ∃ W,W=wq.alloc (.cells #[.slice a n c,.int .i64 i',.int .i64 fin,.int .i64 bad'] 113):=⟨_,rfl⟩
  have hbqr:Below wq.heap.size wq wr:=by rw[hwr];exact za2 _ _
  have hbpr:=hbq.trans (hbqr.mono hbq.size)
  obtain⟨h11,hh11⟩ : ∃ z,z=wq.heap.size:=⟨_,rfl⟩
  have t11:PBox h11 a n c i' fin bad' wr:=by rw[hwr,hh11];exact heap_alloc_new _ _
  have x5:=za0 hbpr Hy5.out
  have x1:=za0 hbpr Hy1.out
  have x2:=za0 hbpr Hy2.out
  obtain⟨ux0,ux1,ux2,uf0,uf1,uf2⟩:=zab x5
  obtain⟨_,_,_,vf0,vf1,vf2⟩:=zab x1
  obtain⟨_,wf0,wf1,wf2,wf3⟩:=zag x2
  obtain⟨⟨tx0,tx1,tx2,tx3⟩,_⟩:=zag t11
  have hsz9:g5 < h11:=by rw[hh11];exact (Array.getElem?_eq_some_iff.1 (za0 hbq Hy5.out)).1
  have hd1:¬ h11=g5:=by omega
  have hd2:¬ g5=h11:=by omega
  have hd3:¬ h11=g+1:=by omega
  have hd4:¬ h11=g+1+1:=by omega
  have hd5:¬ g5=g+1:=by omega
  have hd6:¬ g5=g+1+1:=by omega
  have hbw:Below w.heap.size w wr:=HbwP.out.trans (hbpr.mono HbwP.out.size)
  have hL:=fun h=>zar (HyL.out h) hbpr
  have hfin2:(∃ l,zat ws i=(some (nm,(rdV tl),l),i')∧bad'=0∧zbv wr (.slice sb sm sd) l)∨(∃ j,zat ws i=(none,j)∧bad'=zb9 ws fin j):=hfin.imp (fun⟨l,h1,h2,h3⟩=>⟨l,h1,h2,zb0 h3 hbqr⟩) id
  obtain⟨Hfin,Hbq,Hbqr,Hbpr,Ht11,Hx5,Hx1,Hx2,Hbw,HL,Hfin2⟩:=hd11 hfin hbq hbqr hbpr t11 x5 x1 x2 hbw hL hfin2;clear hfin hbq hbqr hbpr t11 x5 x1 x2 hbw hL hfin2
  go_upto_region 14 with (fail)
  rw[← hwr,← hh11]
  clear hwr hh11
  go_wp2_with fail
  go_region
  go_wp2_with fail
  obtain⟨wS,hwS⟩ : ∃ W,W=wr.setCell ⟨g5,2,none⟩ (.slice sb sm sd):=⟨_,rfl⟩
  have s1:zao (g+1) (.string ⟨#[]⟩) (.slice none 0 0) (.slice none 0 0) wS:=by rw[hwS];exact za3 Hx1.out (by omega)
  have s2:PBox (g+1+1) none 0 0 0 0 0 wS:=by rw[hwS];exact za3 Hx2.out (by omega)
  rw[← hwS]
  obtain⟨wT,hwT⟩ : ∃ W,W=((((((wS.setCell ⟨g+1,0,none⟩ (.string nm)).setCell ⟨g+1,1,none⟩ (.slice a2 n2 c2)).setCell ⟨g+1,2,none⟩ (.slice sb sm sd)).setCell ⟨g+1+1,0,none⟩ (.slice a n c)).setCell ⟨g+1+1,1,none⟩ (.int .i64 i')).setCell ⟨g+1+1,2,none⟩ (.int .i64 fin)).setCell ⟨g+1+1,3,none⟩ (.int .i64 bad'):=⟨_,rfl⟩
  rw[← hwT]
  have r1:zao (g+1) (.string nm) (.slice a2 n2 c2) (.slice sb sm sd) wT:=by
   have k0:=heap_setCell_same wS (g+1) 0 _ _ (.string nm) s1
   have k1:=heap_setCell_same _ (g+1) 1 _ _ (.slice a2 n2 c2) k0
   have k2:=heap_setCell_same _ (g+1) 2 _ _ (.slice sb sm sd) k1
   have k3:=za3 (b:=g+1+1) (i:=0) (u:=.slice a n c) k2 (by omega)
   have k4:=za3 (b:=g+1+1) (i:=1) (u:=.int .i64 (i':Int)) k3 (by omega)
   have k5:=za3 (b:=g+1+1) (i:=2) (u:=.int .i64 fin) k4 (by omega)
   have k6:=za3 (b:=g+1+1) (i:=3) (u:=.int .i64 bad') k5 (by omega)
   rw[hwT]
   exact k6
  have r2:PBox (g+1+1) a n c i' fin bad' wT:=by
   have k0:=za3 (b:=g+1) (i:=0) (u:=.string nm) s2 (by omega)
   have k1:=za3 (b:=g+1) (i:=1) (u:=(.slice a2 n2 c2)) k0 (by omega)
   have k2:=za3 (b:=g+1) (i:=2) (u:=.slice sb sm sd) k1 (by omega)
   rw[hwT]
   exact pset k2
  have hT:Frm (fun z=>z=g5∨z=g+1∨z=g+1+1) wr wT:=by
   have m0:Frm (fun z=>z=g5∨z=g+1∨z=g+1+1) wr wS:=by rw[hwS];exact (Frm.refl _ wr).setCell (p:=⟨g5,2,none⟩) (.inr (.inl rfl)) _
   have m1:=m0.setCell (p:=⟨g+1,0,none⟩) (.inr (.inr (.inl rfl))) (.string nm)
   have m2:=m1.setCell (p:=⟨g+1,1,none⟩) (.inr (.inr (.inl rfl))) (.slice a2 n2 c2)
   have m3:=m2.setCell (p:=⟨g+1,2,none⟩) (.inr (.inr (.inl rfl))) (.slice sb sm sd)
   have m4:=m3.setCell (p:=⟨g+1+1,0,none⟩) (.inr (.inr (.inr rfl))) (.slice a n c)
   have m5:=m4.setCell (p:=⟨g+1+1,1,none⟩) (.inr (.inr (.inr rfl))) (.int .i64 (i':Int))
   have m6:=m5.setCell (p:=⟨g+1+1,2,none⟩) (.inr (.inr (.inr rfl))) (.int .i64 fin)
   have m7:=m6.setCell (p:=⟨g+1+1,3,none⟩) (.inr (.inr (.inr rfl))) (.int .i64 bad')
   rw[hwT]
   exact m7
  clear hwT hwS
  have hno:No2 wr (fun z=>z=g5∨z=g+1∨z=g+1+1):=by
   rintro z (rfl | rfl | rfl)
   ·exact zay Hx5.out (by decide) (by decide)
   ·exact zay Hx1.out (by decide) (by decide)
   exact zay Hx2.out (by decide) (by decide)
  have hbT:Below w.heap.size w wT.drew:=Below.drew (Hbw.out.trans (hT.below Hbw.out.size (by rintro k (rfl | rfl | rfl) <;> omega)))
  have hTd:Frm (fun z=>z=g5∨z=g+1∨z=g+1+1) wr wT.drew:=hT.drew
  have r1d:zao (g+1) (.string nm) (.slice a2 n2 c2) (.slice sb sm sd) wT.drew:=r1
  have r2d:PBox (g+1+1) a n c i' fin bad' wT.drew:=r2
  generalize wT.drew=wU at hbT hTd r1d r2d ⊢
  clear r1 r2 hT
  refine bodyPost_ret (zeg (g:=g+1) (k:=g+1+1) rfl rfl rfl r1d r2d Tryz.underlying51 rfl (by kernel_rfl) Tryz.underlying113 rfl (by kernel_rfl)) rfl ?_
  have hend:(∃ sp:Spc3,zat ws i=(some sp,i')∧bad'=0∧nm=sp.1∧zea wU (.slice a2 n2 c2) sp.2.1∧zbv wU (.slice sb sm sd) sp.2.2)∨(∃ j,zat ws i=(none,j)∧bad'=zb9 ws fin j):=by
   rcases Hfin2.out with⟨l,h1,h2,h3⟩ | h
   ·exact .inl ⟨_,h1,h2,rfl,zas (HL.out (zht h1 Hs.out)) hTd hno,zax h3 hTd hno⟩
   exact .inr h
  exact⟨nm,a2,n2,c2,sb,sm,sd,i',bad',rfl,hend,hbT⟩
 | true =>
  have hNx:=HNxt.out nk (by rw[Hnb.out];simp)
  have HNx:=hd hNx;clear hNx
  go_upto_region 12 with (fail)
  rw[← hnm,← hw7]
  clear hnm hw7
  have hbd:Below w7.heap.size w7 w7.drew:=Below.drew (Below.refl _ _)
  have hbWd:=Hbw7.out.trans (hbd.mono Hbw7.out.size)
  have hSd:w7.drew.cell? ⟨g5,0,none⟩=some (.string nm):=(zab Hr5.out).1
  have hCd:=(zag (za0 hbd Hr0.out)).1
  obtain⟨HSd,HCd⟩:=hd2 hSd hCd;clear hSd hCd
  refine wp_region_held_drew (S:=fun w'=>w'.cell? ⟨g5,0,none⟩=some (.string nm)) (by kernel_rfl) (by exact HSd.out) (fun hHeld=>?_)
  refine wpAnyH_take (i:=1) (v:=?_) rfl (by kernel_rfl) (by kernel_rfl) (by kernel_rfl) (fun _ _ _ h=>h) (Or.inl ⟨by kernel_rfl,?_⟩) (by assumption) ?_
  rotate_left
  ·(intro w hSw;(try dsimp only at hSw);go_simp;try with_reducible rfl)
  try simp only[Act.put,lA,lB,lC]
  refine wpAnyH_take (i:=2) (v:=?_) rfl (by kernel_rfl) (by kernel_rfl) (by kernel_rfl) (fun _ _ _ h=>h) (Or.inl ⟨by kernel_rfl,?_⟩) (by assumption) ?_
  rotate_left
  ·(intro w hSw;(try dsimp only at hSw);go_simp;try with_reducible rfl)
  try simp only[Act.put,lA,lB,lC]
  refine wpAnyH_take (i:=3) (v:=?_) rfl (by kernel_rfl) (by kernel_rfl) (by kernel_rfl) (fun _ _ _ h=>h) (Or.inl ⟨by kernel_rfl,?_⟩) (by assumption) ?_
  rotate_left
  ·(intro w hSw;(try dsimp only at hSw);go_simp;try with_reducible rfl)
  try simp only[Act.put,lA,lB,lC]
  refine wpAnyH_take (i:=4) (v:=?_) rfl (by kernel_rfl) (by kernel_rfl) (by kernel_rfl) (fun _ _ _ h=>h) (Or.inl ⟨by kernel_rfl,?_⟩) (by assumption) ?_
  rotate_left
  ·(intro w hSw;(try dsimp only at hSw);go_simp;try with_reducible rfl)
  try simp only[Act.put,lA,lB,lC]
  refine wpAnyH_ready (rs:=[0,5]) (by kernel_rfl) (by simp) ?_
  refine AllReadyH.cons rfl (fun K hK=>?_) (AllReadyH.cons rfl (fun K hK=>?_) AllReadyH.nil)
  ·obtain⟨c0',c1',c2',c3'⟩:=HCd.out
   go_simp
   refine hK.out _ _ (by exact HSd.out) (fun hHeld=>?_)
   clear hK K
   try simp only[Act.put,lA,lB,lC]
   clear c0' c1' c2' c3'
   refine wpAnyH_ready (rs:=[5]) (by kernel_rfl) (by simp) ?_
   refine AllReadyH.cons rfl (fun K hK=>?_) AllReadyH.nil
   go_simp
   refine (hNmF _).mono ?_
   rintro e wn ⟨rfl,hwn⟩
   subst hwn
   go_wp2_with fail
   refine hK.out _ _ (by exact HSd.out) (fun hHeld=>?_)
   clear hK K
   try simp only[Act.put,lA,lB,lC]
   refine wpAnyH_take (i:=6) (v:=?_) rfl (by kernel_rfl) (by kernel_rfl) (by kernel_rfl) (fun _ _ _ h=>h) (Or.inl ⟨by kernel_rfl,?_⟩) (by assumption) ?_
   rotate_left
   ·(intro w hSw;(try dsimp only at hSw);go_simp;try with_reducible rfl)
   try simp only[Act.put,lA,lB,lC]
   refine wpAnyH_ready (rs:=[7]) (by kernel_rfl) (by simp) ?_
   refine AllReadyH.cons rfl (fun K hK=>?_) AllReadyH.nil
   go_simp
   refine (HNx.out _ hbWd).mono ?_
   rintro e wz ⟨⟨i2,bad2,rfl,hSe⟩,hbz⟩
   have hbWz:=hbd.trans (hbz.mono hbd.size)
   have hbwz:=Hbw7.out.trans (hbWz.mono Hbw7.out.size)
   have z0:=za0 hbWz Hr0.out
   have z1:=za0 hbWz Hr1.out
   have z2:=za0 hbWz Hr2.out
   have z5:=za0 hbWz Hr5.out
   have zL:=fun h=>zar (HvL.out h) hbWz
   obtain⟨_,fy0,fy1,fy2,fy3⟩:=zag z0
   have y5e:=za3 (b:=g) (i:=3) (u:=.int .i64 bad2) (za3 (b:=g) (i:=2) (u:=.int .i64 fin) (za3 (b:=g) (i:=1) (u:=.int .i64 i2) (za3 (b:=g) (i:=0) (u:=.slice a n c) z5 (by omega)) (by omega)) (by omega)) (by omega)
   have hSz:wz.cell? ⟨g5,0,none⟩=some (.string nm):=(zab z5).1
   have hSP:=(zab y5e).1
   obtain⟨HSe,Hbz,HbWz,Hbwz,Hz0,Hz1,Hz2,Hz5,HzL,Hy5e,HSz,HSP⟩:=hd12 hSe hbz hbWz hbwz z0 z1 z2 z5 zL y5e hSz hSP;clear hSe hbz hbWz hbwz z0 z1 z2 z5 zL y5e hSz hSP
   go_wp2_with fail
   refine hK.out _ _ (by exact HSz.out) (fun hHeld=>?_)
   clear hK K
   try simp only[Act.put,lA,lB,lC]
   refine wpAnyH_ready (rs:=[8]) (by kernel_rfl) (by simp) ?_
   refine AllReadyH.cons rfl (fun K hK=>?_) AllReadyH.nil
   go_simp
   refine hK.out _ _ (by exact HSP.out) (fun hHeld=>?_)
   clear hK K
   try simp only[Act.put,lA,lB,lC]
   refine wpAnyH_done (by kernel_rfl) ?_ _
   go_simp
   obtain⟨wP,hwP⟩ : ∃ W,W=(((wz.setCell ⟨g,0,none⟩ (.slice a n c)).setCell ⟨g,1,none⟩ (.int .i64 i2)).setCell ⟨g,2,none⟩ (.int .i64 fin)).setCell ⟨g,3,none⟩ (.int .i64 bad2):=⟨_,rfl⟩
   have hTP:Frm (fun z=>z=g) wz wP:=by rw[hwP];exact zaa (zaa (zaa (zaa (Frm.refl _ _) 0 _) 1 _) 2 _) 3 _
   have y0:PBox g a n c i2 fin bad2 wP:=by rw[hwP];exact pset Hz0.out
   have y1:=zav hTP Hz1.out (by omega)
   have y2:=zav hTP Hz2.out (by omega)
   have y5:=zav hTP Hz5.out (by omega)
   have hnoP:No2 wz (fun z=>z=g):=by
    rintro z rfl
    exact zay Hz0.out (by decide) (by decide)
   have yL:=fun h=>zas (HzL.out h) hTP hnoP
   have hbwP:Below w.heap.size w wP:=Hbwz.out.trans (hTP.below Hbwz.out.size (by rintro k rfl;exact hwg))
   have hSe2:=HSe.out wP hbwP
   obtain⟨⟨d0,d1,d2,d3⟩,_⟩:=zag y0
   rw[← hwP]
   clear hwP
   obtain⟨HTP,Hy0,Hy1,Hy2,Hy5,HnoP,HyL,HbwP,HSe2⟩:=hd9 hTP y0 y1 y2 y5 hnoP yL hbwP hSe2;clear hTP y0 y1 y2 y5 hnoP yL hbwP hSe2
   go_wp2_with fail
   refine HSe2.out.mono ?_
   rintro e wq ⟨sb,sm,sd,i',bad',rfl,hfin,hbq⟩
   obtain⟨wr,hwr⟩ : ∃ W,W=wq.alloc (.cells #[.slice a n c,.int .i64 i',.int .i64 fin,.int .i64 bad'] 113):=⟨_,rfl⟩
   have hbqr:Below wq.heap.size wq wr:=by rw[hwr];exact za2 _ _
   have hbpr:=hbq.trans (hbqr.mono hbq.size)
   obtain⟨h11,hh11⟩ : ∃ z,z=wq.heap.size:=⟨_,rfl⟩
   have t11:PBox h11 a n c i' fin bad' wr:=by rw[hwr,hh11];exact heap_alloc_new _ _
   have x5:=za0 hbpr Hy5.out
   have x1:=za0 hbpr Hy1.out
   have x2:=za0 hbpr Hy2.out
   obtain⟨ux0,ux1,ux2,uf0,uf1,uf2⟩:=zab x5
   obtain⟨_,_,_,vf0,vf1,vf2⟩:=zab x1
   obtain⟨_,wf0,wf1,wf2,wf3⟩:=zag x2
   obtain⟨⟨tx0,tx1,tx2,tx3⟩,_⟩:=zag t11
   have hsz9:g5 < h11:=by rw[hh11];exact (Array.getElem?_eq_some_iff.1 (za0 hbq Hy5.out)).1
   have hd1:¬ h11=g5:=by omega
   have hd2:¬ g5=h11:=by omega
   have hd3:¬ h11=g+1:=by omega
   have hd4:¬ h11=g+1+1:=by omega
   have hd5:¬ g5=g+1:=by omega
   have hd6:¬ g5=g+1+1:=by omega
   have hbw:Below w.heap.size w wr:=HbwP.out.trans (hbpr.mono HbwP.out.size)
   have hL:=fun h=>zar (HyL.out h) hbpr
   have hfin2:(∃ l,zat ws i=(some (nm,(rdV tl),l),i')∧bad'=0∧zbv wr (.slice sb sm sd) l)∨(∃ j,zat ws i=(none,j)∧bad'=zb9 ws fin j):=hfin.imp (fun⟨l,h1,h2,h3⟩=>⟨l,h1,h2,zb0 h3 hbqr⟩) id
   obtain⟨Hfin,Hbq,Hbqr,Hbpr,Ht11,Hx5,Hx1,Hx2,Hbw,HL,Hfin2⟩:=hd11 hfin hbq hbqr hbpr t11 x5 x1 x2 hbw hL hfin2;clear hfin hbq hbqr hbpr t11 x5 x1 x2 hbw hL hfin2
   go_upto_region 14 with (fail)
   rw[← hwr,← hh11]
   clear hwr hh11
   go_wp2_with fail
   go_region
   go_wp2_with fail
   obtain⟨wS,hwS⟩ : ∃ W,W=wr.setCell ⟨g5,2,none⟩ (.slice sb sm sd):=⟨_,rfl⟩
   have s1:zao (g+1) (.string ⟨#[]⟩) (.slice none 0 0) (.slice none 0 0) wS:=by rw[hwS];exact za3 Hx1.out (by omega)
   have s2:PBox (g+1+1) none 0 0 0 0 0 wS:=by rw[hwS];exact za3 Hx2.out (by omega)
   rw[← hwS]
   obtain⟨wT,hwT⟩ : ∃ W,W=((((((wS.setCell ⟨g+1,0,none⟩ (.string nm)).setCell ⟨g+1,1,none⟩ (.slice a2 n2 c2)).setCell ⟨g+1,2,none⟩ (.slice sb sm sd)).setCell ⟨g+1+1,0,none⟩ (.slice a n c)).setCell ⟨g+1+1,1,none⟩ (.int .i64 i')).setCell ⟨g+1+1,2,none⟩ (.int .i64 fin)).setCell ⟨g+1+1,3,none⟩ (.int .i64 bad'):=⟨_,rfl⟩
   rw[← hwT]
   have r1:zao (g+1) (.string nm) (.slice a2 n2 c2) (.slice sb sm sd) wT:=by
    have k0:=heap_setCell_same wS (g+1) 0 _ _ (.string nm) s1
    have k1:=heap_setCell_same _ (g+1) 1 _ _ (.slice a2 n2 c2) k0
    have k2:=heap_setCell_same _ (g+1) 2 _ _ (.slice sb sm sd) k1
    have k3:=za3 (b:=g+1+1) (i:=0) (u:=.slice a n c) k2 (by omega)
    have k4:=za3 (b:=g+1+1) (i:=1) (u:=.int .i64 (i':Int)) k3 (by omega)
    have k5:=za3 (b:=g+1+1) (i:=2) (u:=.int .i64 fin) k4 (by omega)
    have k6:=za3 (b:=g+1+1) (i:=3) (u:=.int .i64 bad') k5 (by omega)
    rw[hwT]
    exact k6
   have r2:PBox (g+1+1) a n c i' fin bad' wT:=by
    have k0:=za3 (b:=g+1) (i:=0) (u:=.string nm) s2 (by omega)
    have k1:=za3 (b:=g+1) (i:=1) (u:=(.slice a2 n2 c2)) k0 (by omega)
    have k2:=za3 (b:=g+1) (i:=2) (u:=.slice sb sm sd) k1 (by omega)
    rw[hwT]
    exact pset k2
   have hT:Frm (fun z=>z=g5∨z=g+1∨z=g+1+1) wr wT:=by
    have m0:Frm (fun z=>z=g5∨z=g+1∨z=g+1+1) wr wS:=by rw[hwS];exact (Frm.refl _ wr).setCell (p:=⟨g5,2,none⟩) (.inr (.inl rfl)) _
    have m1:=m0.setCell (p:=⟨g+1,0,none⟩) (.inr (.inr (.inl rfl))) (.string nm)
    have m2:=m1.setCell (p:=⟨g+1,1,none⟩) (.inr (.inr (.inl rfl))) (.slice a2 n2 c2)
    have m3:=m2.setCell (p:=⟨g+1,2,none⟩) (.inr (.inr (.inl rfl))) (.slice sb sm sd)
    have m4:=m3.setCell (p:=⟨g+1+1,0,none⟩) (.inr (.inr (.inr rfl))) (.slice a n c)
    have m5:=m4.setCell (p:=⟨g+1+1,1,none⟩) (.inr (.inr (.inr rfl))) (.int .i64 (i':Int))
    have m6:=m5.setCell (p:=⟨g+1+1,2,none⟩) (.inr (.inr (.inr rfl))) (.int .i64 fin)
    have m7:=m6.setCell (p:=⟨g+1+1,3,none⟩) (.inr (.inr (.inr rfl))) (.int .i64 bad')
    rw[hwT]
    exact m7
   clear hwT hwS
   have hno:No2 wr (fun z=>z=g5∨z=g+1∨z=g+1+1):=by
    rintro z (rfl | rfl | rfl)
    ·exact zay Hx5.out (by decide) (by decide)
    ·exact zay Hx1.out (by decide) (by decide)
    exact zay Hx2.out (by decide) (by decide)
   have hbT:Below w.heap.size w wT.drew:=Below.drew (Hbw.out.trans (hT.below Hbw.out.size (by rintro k (rfl | rfl | rfl) <;> omega)))
   have hTd:Frm (fun z=>z=g5∨z=g+1∨z=g+1+1) wr wT.drew:=hT.drew
   have r1d:zao (g+1) (.string nm) (.slice a2 n2 c2) (.slice sb sm sd) wT.drew:=r1
   have r2d:PBox (g+1+1) a n c i' fin bad' wT.drew:=r2
   generalize wT.drew=wU at hbT hTd r1d r2d ⊢
   clear r1 r2 hT
   refine bodyPost_ret (zeg (g:=g+1) (k:=g+1+1) rfl rfl rfl r1d r2d Tryz.underlying51 rfl (by kernel_rfl) Tryz.underlying113 rfl (by kernel_rfl)) rfl ?_
   have hend:(∃ sp:Spc3,zat ws i=(some sp,i')∧bad'=0∧nm=sp.1∧zea wU (.slice a2 n2 c2) sp.2.1∧zbv wU (.slice sb sm sd) sp.2.2)∨(∃ j,zat ws i=(none,j)∧bad'=zb9 ws fin j):=by
    rcases Hfin2.out with⟨l,h1,h2,h3⟩ | h
    ·exact .inl ⟨_,h1,h2,rfl,zas (HL.out (zht h1 Hs.out)) hTd hno,zax h3 hTd hno⟩
    exact .inr h
   exact⟨nm,a2,n2,c2,sb,sm,sd,i',bad',rfl,hend,hbT⟩
  go_simp
  refine (hNmF _).mono ?_
  rintro e wn ⟨rfl,hwn⟩
  subst hwn
  go_wp2_with fail
  refine hK.out _ _ (by exact HSd.out) (fun hHeld=>?_)
  clear hK K
  try simp only[Act.put,lA,lB,lC]
  refine wpAnyH_take (i:=6) (v:=?_) rfl (by kernel_rfl) (by kernel_rfl) (by kernel_rfl) (fun _ _ _ h=>h) (Or.inl ⟨by kernel_rfl,?_⟩) (by assumption) ?_
  rotate_left
  ·(intro w hSw;(try dsimp only at hSw);go_simp;try with_reducible rfl)
  try simp only[Act.put,lA,lB,lC]
  refine wpAnyH_ready (rs:=[0]) (by kernel_rfl) (by simp) ?_
  refine AllReadyH.cons rfl (fun K hK=>?_) AllReadyH.nil
  obtain⟨c0',c1',c2',c3'⟩:=HCd.out
  go_simp
  refine hK.out _ _ (by exact HSd.out) (fun hHeld=>?_)
  clear hK K
  try simp only[Act.put,lA,lB,lC]
  clear c0' c1' c2' c3'
  refine wpAnyH_ready (rs:=[7]) (by kernel_rfl) (by simp) ?_
  refine AllReadyH.cons rfl (fun K hK=>?_) AllReadyH.nil
  go_simp
  refine (HNx.out _ hbWd).mono ?_
  rintro e wz ⟨⟨i2,bad2,rfl,hSe⟩,hbz⟩
  have hbWz:=hbd.trans (hbz.mono hbd.size)
  have hbwz:=Hbw7.out.trans (hbWz.mono Hbw7.out.size)
  have z0:=za0 hbWz Hr0.out
  have z1:=za0 hbWz Hr1.out
  have z2:=za0 hbWz Hr2.out
  have z5:=za0 hbWz Hr5.out
  have zL:=fun h=>zar (HvL.out h) hbWz
  obtain⟨_,fy0,fy1,fy2,fy3⟩:=zag z0
  have y5e:=za3 (b:=g) (i:=3) (u:=.int .i64 bad2) (za3 (b:=g) (i:=2) (u:=.int .i64 fin) (za3 (b:=g) (i:=1) (u:=.int .i64 i2) (za3 (b:=g) (i:=0) (u:=.slice a n c) z5 (by omega)) (by omega)) (by omega)) (by omega)
  have hSz:wz.cell? ⟨g5,0,none⟩=some (.string nm):=(zab z5).1
  have hSP:=(zab y5e).1
  obtain⟨HSe,Hbz,HbWz,Hbwz,Hz0,Hz1,Hz2,Hz5,HzL,Hy5e,HSz,HSP⟩:=hd12 hSe hbz hbWz hbwz z0 z1 z2 z5 zL y5e hSz hSP;clear hSe hbz hbWz hbwz z0 z1 z2 z5 zL y5e hSz hSP
  go_wp2_with fail
  refine hK.out _ _ (by exact HSz.out) (fun hHeld=>?_)
  clear hK K
  try simp only[Act.put,lA,lB,lC]
  refine wpAnyH_ready (rs:=[8]) (by kernel_rfl) (by simp) ?_
  refine AllReadyH.cons rfl (fun K hK=>?_) AllReadyH.nil
  go_simp
  refine hK.out _ _ (by exact HSP.out) (fun hHeld=>?_)
  clear hK K
  try simp only[Act.put,lA,lB,lC]
  refine wpAnyH_done (by kernel_rfl) ?_ _
  go_simp
  obtain⟨wP,hwP⟩ : ∃ W,W=(((wz.setCell ⟨g,0,none⟩ (.slice a n c)).setCell ⟨g,1,none⟩ (.int .i64 i2)).setCell ⟨g,2,none⟩ (.int .i64 fin)).setCell ⟨g,3,none⟩ (.int .i64 bad2):=⟨_,rfl⟩
  have hTP:Frm (fun z=>z=g) wz wP:=by rw[hwP];exact zaa (zaa (zaa (zaa (Frm.refl _ _) 0 _) 1 _) 2 _) 3 _
  have y0:PBox g a n c i2 fin bad2 wP:=by rw[hwP];exact pset Hz0.out
  have y1:=zav hTP Hz1.out (by omega)
  have y2:=zav hTP Hz2.out (by omega)
  have y5:=zav hTP Hz5.out (by omega)
  have hnoP:No2 wz (fun z=>z=g):=by
   rintro z rfl
   exact zay Hz0.out (by decide) (by decide)
  have yL:=fun h=>zas (HzL.out h) hTP hnoP
  have hbwP:Below w.heap.size w wP:=Hbwz.out.trans (hTP.below Hbwz.out.size (by rintro k rfl;exact hwg))
  have hSe2:=HSe.out wP hbwP
  obtain⟨⟨d0,d1,d2,d3⟩,_⟩:=zag y0
  rw[← hwP]
  clear hwP
  obtain⟨HTP,Hy0,Hy1,Hy2,Hy5,HnoP,HyL,HbwP,HSe2⟩:=hd9 hTP y0 y1 y2 y5 hnoP yL hbwP hSe2;clear hTP y0 y1 y2 y5 hnoP yL hbwP hSe2
  go_wp2_with fail
  refine HSe2.out.mono ?_
  rintro e wq ⟨sb,sm,sd,i',bad',rfl,hfin,hbq⟩
  obtain⟨wr,hwr⟩ : ∃ W,W=wq.alloc (.cells #[.slice a n c,.int .i64 i',.int .i64 fin,.int .i64 bad'] 113):=⟨_,rfl⟩
  have hbqr:Below wq.heap.size wq wr:=by rw[hwr];exact za2 _ _
  have hbpr:=hbq.trans (hbqr.mono hbq.size)
  obtain⟨h11,hh11⟩ : ∃ z,z=wq.heap.size:=⟨_,rfl⟩
  have t11:PBox h11 a n c i' fin bad' wr:=by rw[hwr,hh11];exact heap_alloc_new _ _
  have x5:=za0 hbpr Hy5.out
  have x1:=za0 hbpr Hy1.out
  have x2:=za0 hbpr Hy2.out
  obtain⟨ux0,ux1,ux2,uf0,uf1,uf2⟩:=zab x5
  obtain⟨_,_,_,vf0,vf1,vf2⟩:=zab x1
  obtain⟨_,wf0,wf1,wf2,wf3⟩:=zag x2
  obtain⟨⟨tx0,tx1,tx2,tx3⟩,_⟩:=zag t11
  have hsz9:g5 < h11:=by rw[hh11];exact (Array.getElem?_eq_some_iff.1 (za0 hbq Hy5.out)).1
  have hd1:¬ h11=g5:=by omega
  have hd2:¬ g5=h11:=by omega
  have hd3:¬ h11=g+1:=by omega
  have hd4:¬ h11=g+1+1:=by omega
  have hd5:¬ g5=g+1:=by omega
  have hd6:¬ g5=g+1+1:=by omega
  have hbw:Below w.heap.size w wr:=HbwP.out.trans (hbpr.mono HbwP.out.size)
  have hL:=fun h=>zar (HyL.out h) hbpr
  have hfin2:(∃ l,zat ws i=(some (nm,(rdV tl),l),i')∧bad'=0∧zbv wr (.slice sb sm sd) l)∨(∃ j,zat ws i=(none,j)∧bad'=zb9 ws fin j):=hfin.imp (fun⟨l,h1,h2,h3⟩=>⟨l,h1,h2,zb0 h3 hbqr⟩) id
  obtain⟨Hfin,Hbq,Hbqr,Hbpr,Ht11,Hx5,Hx1,Hx2,Hbw,HL,Hfin2⟩:=hd11 hfin hbq hbqr hbpr t11 x5 x1 x2 hbw hL hfin2;clear hfin hbq hbqr hbpr t11 x5 x1 x2 hbw hL hfin2
  go_upto_region 14 with (fail)
  rw[← hwr,← hh11]
  clear hwr hh11
  go_wp2_with fail
  go_region
  go_wp2_with fail
  obtain⟨wS,hwS⟩ : ∃ W,W=wr.setCell ⟨g5,2,none⟩ (.slice sb sm sd):=⟨_,rfl⟩
  have s1:zao (g+1) (.string ⟨#[]⟩) (.slice none 0 0) (.slice none 0 0) wS:=by rw[hwS];exact za3 Hx1.out (by omega)
  have s2:PBox (g+1+1) none 0 0 0 0 0 wS:=by rw[hwS];exact za3 Hx2.out (by omega)
  rw[← hwS]
  obtain⟨wT,hwT⟩ : ∃ W,W=((((((wS.setCell ⟨g+1,0,none⟩ (.string nm)).setCell ⟨g+1,1,none⟩ (.slice a2 n2 c2)).setCell ⟨g+1,2,none⟩ (.slice sb sm sd)).setCell ⟨g+1+1,0,none⟩ (.slice a n c)).setCell ⟨g+1+1,1,none⟩ (.int .i64 i')).setCell ⟨g+1+1,2,none⟩ (.int .i64 fin)).setCell ⟨g+1+1,3,none⟩ (.int .i64 bad'):=⟨_,rfl⟩
  rw[← hwT]
  have r1:zao (g+1) (.string nm) (.slice a2 n2 c2) (.slice sb sm sd) wT:=by
   have k0:=heap_setCell_same wS (g+1) 0 _ _ (.string nm) s1
   have k1:=heap_setCell_same _ (g+1) 1 _ _ (.slice a2 n2 c2) k0
   have k2:=heap_setCell_same _ (g+1) 2 _ _ (.slice sb sm sd) k1
   have k3:=za3 (b:=g+1+1) (i:=0) (u:=.slice a n c) k2 (by omega)
   have k4:=za3 (b:=g+1+1) (i:=1) (u:=.int .i64 (i':Int)) k3 (by omega)
   have k5:=za3 (b:=g+1+1) (i:=2) (u:=.int .i64 fin) k4 (by omega)
   have k6:=za3 (b:=g+1+1) (i:=3) (u:=.int .i64 bad') k5 (by omega)
   rw[hwT]
   exact k6
  have r2:PBox (g+1+1) a n c i' fin bad' wT:=by
   have k0:=za3 (b:=g+1) (i:=0) (u:=.string nm) s2 (by omega)
   have k1:=za3 (b:=g+1) (i:=1) (u:=(.slice a2 n2 c2)) k0 (by omega)
   have k2:=za3 (b:=g+1) (i:=2) (u:=.slice sb sm sd) k1 (by omega)
   rw[hwT]
   exact pset k2
  have hT:Frm (fun z=>z=g5∨z=g+1∨z=g+1+1) wr wT:=by
   have m0:Frm (fun z=>z=g5∨z=g+1∨z=g+1+1) wr wS:=by rw[hwS];exact (Frm.refl _ wr).setCell (p:=⟨g5,2,none⟩) (.inr (.inl rfl)) _
   have m1:=m0.setCell (p:=⟨g+1,0,none⟩) (.inr (.inr (.inl rfl))) (.string nm)
   have m2:=m1.setCell (p:=⟨g+1,1,none⟩) (.inr (.inr (.inl rfl))) (.slice a2 n2 c2)
   have m3:=m2.setCell (p:=⟨g+1,2,none⟩) (.inr (.inr (.inl rfl))) (.slice sb sm sd)
   have m4:=m3.setCell (p:=⟨g+1+1,0,none⟩) (.inr (.inr (.inr rfl))) (.slice a n c)
   have m5:=m4.setCell (p:=⟨g+1+1,1,none⟩) (.inr (.inr (.inr rfl))) (.int .i64 (i':Int))
   have m6:=m5.setCell (p:=⟨g+1+1,2,none⟩) (.inr (.inr (.inr rfl))) (.int .i64 fin)
   have m7:=m6.setCell (p:=⟨g+1+1,3,none⟩) (.inr (.inr (.inr rfl))) (.int .i64 bad')
   rw[hwT]
   exact m7
  clear hwT hwS
  have hno:No2 wr (fun z=>z=g5∨z=g+1∨z=g+1+1):=by
   rintro z (rfl | rfl | rfl)
   ·exact zay Hx5.out (by decide) (by decide)
   ·exact zay Hx1.out (by decide) (by decide)
   exact zay Hx2.out (by decide) (by decide)
  have hbT:Below w.heap.size w wT.drew:=Below.drew (Hbw.out.trans (hT.below Hbw.out.size (by rintro k (rfl | rfl | rfl) <;> omega)))
  have hTd:Frm (fun z=>z=g5∨z=g+1∨z=g+1+1) wr wT.drew:=hT.drew
  have r1d:zao (g+1) (.string nm) (.slice a2 n2 c2) (.slice sb sm sd) wT.drew:=r1
  have r2d:PBox (g+1+1) a n c i' fin bad' wT.drew:=r2
  generalize wT.drew=wU at hbT hTd r1d r2d ⊢
  clear r1 r2 hT
  refine bodyPost_ret (zeg (g:=g+1) (k:=g+1+1) rfl rfl rfl r1d r2d Tryz.underlying51 rfl (by kernel_rfl) Tryz.underlying113 rfl (by kernel_rfl)) rfl ?_
  have hend:(∃ sp:Spc3,zat ws i=(some sp,i')∧bad'=0∧nm=sp.1∧zea wU (.slice a2 n2 c2) sp.2.1∧zbv wU (.slice sb sm sd) sp.2.2)∨(∃ j,zat ws i=(none,j)∧bad'=zb9 ws fin j):=by
   rcases Hfin2.out with⟨l,h1,h2,h3⟩ | h
   ·exact .inl ⟨_,h1,h2,rfl,zas (HL.out (zht h1 Hs.out)) hTd hno,zax h3 hTd hno⟩
   exact .inr h
  exact⟨nm,a2,n2,c2,sb,sm,sd,i',bad',rfl,hend,hbT⟩
end

section
open Go.Shelf Go.RowKit Go.Lib VerN VarM
open LexM (Wd)
attribute [local go_sem ↓] Go.wp_at_zero Go.wp_at_succ
theorem zu6 {w:World} {a:Option Addr} {n c:Nat} {fin:Int} {ws:List Wd} (hws:RWds w [.slice a n c] ws) (hn:n≤1000) (hz:∀ x∈ws,x.2.length≤70000) (hcol:∀ j,zb9 ws fin j≠0):Calls Tryz.prog 37 #[.slice a n c,.int .i64 fin,.bool true] w (zij fin ws w):=by
 obtain⟨g,hg⟩ : ∃ g,g=w.heap.size:=⟨_,rfl⟩
 obtain⟨W0,hW0⟩ : ∃ W,W=((w.alloc (.cells #[.string ⟨#[]⟩,.slice none 0 0,.slice none 0 0] 51)).alloc (.cells #[.slice a n c,.int .i64 0,.int .i64 fin,.int .i64 0] 113)).alloc (.cells #[.string ⟨#[]⟩,.slice none 0 0,.slice none 0 0] 51):=⟨_,rfl⟩
 have hb0:Below w.heap.size w W0:=by rw[hW0];exact ((za2 _ _).alloc (by simp) _).alloc (by simp;omega) _
 have p0:zao g (.string ⟨#[]⟩) (.slice none 0 0) (.slice none 0 0) W0:=by rw[hW0,hg];exact za0 (za2 _ _) (za0 (za2 _ _) (za6 rfl))
 have p1:PBox (g+1) a n c 0 fin 0 W0:=by rw[hW0,hg];exact za0 (za2 _ _) (za6 (by simp))
 have p2:zao (g+1+1) (.string ⟨#[]⟩) (.slice none 0 0) (.slice none 0 0) W0:=by rw[hW0,hg];exact za6 (by simp)
 have hs0:W0.heap.size=g+3:=by rw[hW0,hg];simp
 have hwg:w.heap.size≤g:=Nat.le_of_eq hg.symm
 obtain⟨⟨c0,c1,c2,c3⟩,_⟩:=zag p1
 have hW:=zty (za5 zbt _ _ _ _ hws hb0) hn hz hcol 0
 obtain⟨Hws,Hz,Hcol,Hb0,Hp0,Hp1,Hp2,HW⟩:=hd8 hws hz hcol hb0 p0 p1 p2 hW;clear hws hz hcol hb0 p0 p1 p2 hW
 go_enter Tryz.func37,Tryz.ntmps37
 go_upto_region 3 with (fail)
 rw[← hW0,← hg]
 clear hW0 hg
 go_wp2_with fail
 refine HW.out.mono ?_
 rintro e w1 ⟨x,b1,n1,c1',b2,n2,c2',i',bad,rfl,hfin,hb1⟩
 obtain⟨h1,hh1⟩ : ∃ z,z=w1.heap.size:=⟨_,rfl⟩
 obtain⟨w2,hw2⟩ : ∃ W,W=(w1.alloc (.cells #[.string x,.slice b1 n1 c1',.slice b2 n2 c2'] 51)).alloc (.cells #[.slice a n c,.int .i64 i',.int .i64 fin,.int .i64 bad] 113):=⟨_,rfl⟩
 have hb12:Below w1.heap.size w1 w2:=by rw[hw2];exact (za2 _ _).alloc (by simp) _
 have hb02:=hb1.trans (hb12.mono hb1.size)
 have s0:zao h1 (.string x) (.slice b1 n1 c1') (.slice b2 n2 c2') w2:=by rw[hw2,hh1];exact za0 (za2 _ _) (za6 rfl)
 have s1:PBox (h1+1) a n c i' fin bad w2:=by rw[hw2,hh1];exact za6 (by simp)
 have q0:=za0 hb02 Hp0.out
 have q1:=za0 hb02 Hp1.out
 have q2:=za0 hb02 Hp2.out
 have hlt:g+1+1 < h1:=by have:=hb1.size;omega
 have hbw2:=Hb0.out.trans (hb02.mono Hb0.out.size)
 obtain⟨x0,x1,x2,_,_,_⟩:=zab s0
 obtain⟨⟨y0,y1,y2,y3⟩,_⟩:=zag s1
 obtain⟨_,fp0,fp1,fp2,fp3⟩:=zag q1
 obtain⟨_,_,_,fs0,fs1,fs2⟩:=zab q2
 obtain⟨_,_,_,fr0,fr1,fr2⟩:=zab q0
 have d1:¬ h1=g:=by omega
 have d2:¬ h1=g+1:=by omega
 have d3:¬ h1=g+1+1:=by omega
 clear c0 c1 c2 c3
 obtain⟨Hfin,Hb1,Hb12,Hb02,Hs0,Hs1,Hq0,Hq1,Hq2,Hbw2⟩:=hd10 hfin hb1 hb12 hb02 s0 s1 q0 q1 q2 hbw2;clear hfin hb1 hb12 hb02 s0 s1 q0 q1 q2 hbw2
 by_cases hbad:bad=0
 ·subst hbad
  go_upto_region 5 with (fail)
  rw[← hw2,← hh1]
  clear hw2 hh1
  go_wp2_with fail
  go_region
  go_wp2_with fail
  obtain⟨w3,hw3⟩ : ∃ W,W=((((((w2.setCell ⟨g+1+1,0,none⟩ (.string x)).setCell ⟨g+1+1,1,none⟩ (.slice b1 n1 c1')).setCell ⟨g+1+1,2,none⟩ (.slice b2 n2 c2')).setCell ⟨g+1,0,none⟩ (.slice a n c)).setCell ⟨g+1,1,none⟩ (.int .i64 i')).setCell ⟨g+1,2,none⟩ (.int .i64 fin)).setCell ⟨g+1,3,none⟩ (.int .i64 0):=⟨_,rfl⟩
  rw[← hw3]
  have hT3:Frm (fun z=>z=g+1+1∨z=g+1) w2 w3:=by
   have m1:=(Frm.refl (fun z=>z=g+1+1∨z=g+1) w2).setCell (p:=⟨g+1+1,0,none⟩) (.inr (.inl rfl)) (.string x)
   have m2:=m1.setCell (p:=⟨g+1+1,1,none⟩) (.inr (.inl rfl)) (.slice b1 n1 c1')
   have m3:=m2.setCell (p:=⟨g+1+1,2,none⟩) (.inr (.inl rfl)) (.slice b2 n2 c2')
   have m4:=m3.setCell (p:=⟨g+1,0,none⟩) (.inr (.inr rfl)) (.slice a n c)
   have m5:=m4.setCell (p:=⟨g+1,1,none⟩) (.inr (.inr rfl)) (.int .i64 (i':Int))
   have m6:=m5.setCell (p:=⟨g+1,2,none⟩) (.inr (.inr rfl)) (.int .i64 fin)
   have m7:=m6.setCell (p:=⟨g+1,3,none⟩) (.inr (.inr rfl)) (.int .i64 0)
   rw[hw3]
   exact m7
  clear hw3
  have r0:=zav hT3 Hq0.out (by omega)
  have hno3:No2 w2 (fun z=>z=g+1+1∨z=g+1):=by
   rintro z (rfl | rfl)
   ·exact zay Hq2.out (by decide) (by decide)
   exact zay Hq1.out (by decide) (by decide)
  have hbw3:Below w.heap.size w w3:=Hbw2.out.trans (hT3.below Hbw2.out.size (by rintro k (rfl | rfl) <;> omega))
  obtain⟨w4,hw4⟩ : ∃ W,W=((w3.setCell ⟨g,0,none⟩ (.string x)).setCell ⟨g,1,none⟩ (.slice b1 n1 c1')).setCell ⟨g,2,none⟩ (.slice b2 n2 c2'):=⟨_,rfl⟩
  rw[← hw4]
  have hT4:Frm (fun z=>z=g) w3 w4:=by rw[hw4];exact zaa (zaa (zaa (Frm.refl _ _) 0 _) 1 _) 2 _
  have r4:zao g (.string x) (.slice b1 n1 c1') (.slice b2 n2 c2') w4:=by
   have k0:=heap_setCell_same _ g 0 _ _ (.string x) r0
   have k1:=heap_setCell_same _ g 1 _ _ (.slice b1 n1 c1') k0
   have k2:=heap_setCell_same _ g 2 _ _ (.slice b2 n2 c2') k1
   rw[hw4]
   exact k2
  clear hw4
  have hno4:No2 w3 (fun z=>z=g):=by
   rintro z rfl
   exact zay r0 (by decide) (by decide)
  have hbw4:Below w.heap.size w w4.drew:=Below.drew (hbw3.trans (hT4.below hbw3.size (by rintro k rfl;omega)))
  have r4d:zao g (.string x) (.slice b1 n1 c1') (.slice b2 n2 c2') w4.drew:=r4
  have hT4d:=hT4.drew
  generalize w4.drew=w5 at hbw4 r4d hT4d ⊢
  refine bodyPost_ret (zdc (g:=g) rfl rfl rfl rfl r4d Tryz.underlying51 rfl (by kernel_rfl)) rfl ?_
  rcases Hfin.out with⟨sp,h1',_,hx,hv1,hv2⟩ | ⟨j,hj,hjc⟩
  ·subst hx
   exact⟨.inl ⟨sp,i',b1,n1,c1',b2,n2,c2',h1',rfl,zas (zas (zar hv1 Hb12.out) hT3 hno3) hT4d hno4,zax (zax (zb0 hv2 Hb12.out) hT3 hno3) hT4d hno4⟩,hbw4⟩
  exact absurd hjc.symm (Hcol.out j)
 have k1:(bad != 0)=true:=by simpa using hbad
 have Hbad:=hd hbad;clear hbad
 go_upto_region 5 with (fail)
 rw[← hw2,← hh1]
 clear hw2 hh1
 go_wp2_with fail
 go_region
 go_wp2_with fail
 obtain⟨w3,hw3⟩ : ∃ W,W=((((((w2.setCell ⟨g+1+1,0,none⟩ (.string x)).setCell ⟨g+1+1,1,none⟩ (.slice b1 n1 c1')).setCell ⟨g+1+1,2,none⟩ (.slice b2 n2 c2')).setCell ⟨g+1,0,none⟩ (.slice a n c)).setCell ⟨g+1,1,none⟩ (.int .i64 i')).setCell ⟨g+1,2,none⟩ (.int .i64 fin)).setCell ⟨g+1,3,none⟩ (.int .i64 bad):=⟨_,rfl⟩
 rw[← hw3]
 have hT3:Frm (fun z=>z=g+1+1∨z=g+1) w2 w3:=by
  have m1:=(Frm.refl (fun z=>z=g+1+1∨z=g+1) w2).setCell (p:=⟨g+1+1,0,none⟩) (.inr (.inl rfl)) (.string x)
  have m2:=m1.setCell (p:=⟨g+1+1,1,none⟩) (.inr (.inl rfl)) (.slice b1 n1 c1')
  have m3:=m2.setCell (p:=⟨g+1+1,2,none⟩) (.inr (.inl rfl)) (.slice b2 n2 c2')
  have m4:=m3.setCell (p:=⟨g+1,0,none⟩) (.inr (.inr rfl)) (.slice a n c)
  have m5:=m4.setCell (p:=⟨g+1,1,none⟩) (.inr (.inr rfl)) (.int .i64 (i':Int))
  have m6:=m5.setCell (p:=⟨g+1,2,none⟩) (.inr (.inr rfl)) (.int .i64 fin)
  have m7:=m6.setCell (p:=⟨g+1,3,none⟩) (.inr (.inr rfl)) (.int .i64 bad)
  rw[hw3]
  exact m7
 clear hw3
 have r0:=zav hT3 Hq0.out (by omega)
 have hno3:No2 w2 (fun z=>z=g+1+1∨z=g+1):=by
  rintro z (rfl | rfl)
  ·exact zay Hq2.out (by decide) (by decide)
  exact zay Hq1.out (by decide) (by decide)
 have hbw3:Below w.heap.size w w3:=Hbw2.out.trans (hT3.below Hbw2.out.size (by rintro k (rfl | rfl) <;> omega))
 obtain⟨w4,hw4⟩ : ∃ W,W=((w3.setCell ⟨g,0,none⟩ (.string ⟨#[]⟩)).setCell ⟨g,1,none⟩ (.slice none 0 0)).setCell ⟨g,2,none⟩ (.slice none 0 0):=⟨_,rfl⟩
 rw[← hw4]
 have hT4:Frm (fun z=>z=g) w3 w4:=by rw[hw4];exact zaa (zaa (zaa (Frm.refl _ _) 0 _) 1 _) 2 _
 have r4:zao g (.string ⟨#[]⟩) (.slice none 0 0) (.slice none 0 0) w4:=by
  have k0:=heap_setCell_same _ g 0 _ _ (.string ⟨#[]⟩) r0
  have k1:=heap_setCell_same _ g 1 _ _ (.slice none 0 0) k0
  have k2:=heap_setCell_same _ g 2 _ _ (.slice none 0 0) k1
  rw[hw4]
  exact k2
 clear hw4
 have hno4:No2 w3 (fun z=>z=g):=by
  rintro z rfl
  exact zay r0 (by decide) (by decide)
 have hbw4:Below w.heap.size w w4.drew:=Below.drew (hbw3.trans (hT4.below hbw3.size (by rintro k rfl;omega)))
 have r4d:zao g (.string ⟨#[]⟩) (.slice none 0 0) (.slice none 0 0) w4.drew:=r4
 have hT4d:=hT4.drew
 generalize w4.drew=w5 at hbw4 r4d hT4d ⊢
 refine bodyPost_ret (zdc (g:=g) rfl rfl rfl rfl r4d Tryz.underlying51 rfl (by kernel_rfl)) rfl ?_
 rcases Hfin.out with⟨_,_,h,_⟩ | ⟨j,hj,hjc⟩
 ·exact absurd h Hbad.out
 exact⟨.inr ⟨j,hj,by rw[← hjc];rfl⟩,hbw4⟩
end
end Go.Proofs.YteailgjiifdgcaaGreatDoor
